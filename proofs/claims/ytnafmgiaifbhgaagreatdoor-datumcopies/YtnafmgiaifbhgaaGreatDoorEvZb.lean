/-
  The evaluator, part Zb: functions without a body.
-/
import Derived.Test.YtnafmgiaifbhgaaGreatDoorEvZa
import Derived.Laws.Externs
import Derived.Lib.MakeNoZero
set_option linter.unusedSimpArgs false
set_option linter.unusedVariables false
namespace Go.Proofs.YtnafmgiaifbhgaaGreatDoor.Ev
noncomputable section
variable {P : Program}
inductive XK where
 | f64bits
 | f64from
 | same
 | noZero (e : TypeId)
 | indexByte
def XK.sem (k : XK) (fn : Func) : Array Value → Sem Value := match k with
 | .f64bits => Extern.MathFloatBits.float64bits
 | .f64from => Extern.MathFloatBits.float64frombits
 | .same => Extern.AbiNoEscape.same
 | .noZero _ => Extern.BytealgMakeNoZero.makeNoZero fn.params fn.resultTypes
 | .indexByte => Extern.BytealgIndexByte.indexByte
def jin (μ : Mem) (v : Value) : Option (List UInt8) :=
 match v with
 | .string s => some s.data.toList
 | .slice none _ _ => some []
 | .slice (some ⟨i, o, none⟩) len _ => match μ.obs.get i with
   | some (.cells n _ zero over _ _ _ _) => match Nat.ble (Nat.add o len) n with
     | true => bytesOf (jaE zero over o len)
     | false => none
   | _ => none
 | _ => none
theorem run_loadBytes {J : Nat → Loc} {w : World} {zero : Array Value} {over : T Value} {b : Nat} : ∀ (n o : Nat) (acc : ByteArray) (l : List UInt8), (∀ k, k < n → ∃ x, w.cell? ⟨b, o + k, none⟩ = some x ∧ VRel J (cellAt zero over (o + k)) x) →
  bytesOf (jaE zero over o n) = some l → (Extern.Bytes.loadBytes ⟨b, o, none⟩ n acc).run P w = .ok ⟨(acc.data.toList ++ l).toArray⟩ w := by
 intro n
 induction n with
 | zero =>
   intro o acc l _ h
   simp only [jaE, bytesOf] at h
   cases h
   simp [Extern.Bytes.loadBytes, Sem.run_pure]
 | succ n ih =>
   intro o acc l hc h
   simp only [jaE] at h
   obtain ⟨x, hx, hv⟩ := hc 0 (by omega)
   rw [Nat.add_zero] at hx hv
   unfold bytesOf at h
   split at h
   ·rename_i e; cases e
   ·rename_i k r e
    injection e with e1 e2
    rw [e1] at hv
    split at h
    ·rename_i l2 hl2
     cases h
     rw [jbc hv] at hx
     simp only [Extern.Bytes.loadBytes, Sem.run_bind, run_load hx, Result.andThen_ok, jf5]
     rw [ih (o + 1) _ l2 (fun j hj => by
      have := hc (j + 1) (by omega)
      rw [show o + (j + 1) = o + 1 + j by omega] at this
      exact this) (by rw [e2]; exact hl2)]
     simp [ByteArray.push]
    ·cases h
   ·cases h
theorem ji7 {J : Nat → Loc} {μ : Mem} {w : World} (h : Rel J μ w) {v v' : Value} {l : List UInt8} (hv : VRel J v v') (hl : jin μ v = some l) : (Extern.Bytes.bytesOf v').run P w = .ok ⟨l.toArray⟩ w := by
 unfold jin at hl
 split at hl
 ·cases hl
  rw [jbq hv]
  rfl
 ·cases hl
  cases hv
  rfl
 ·rename_i i o len c
  split at hl
  ·rename_i n te zero over lo hi fx sh hob
   split at hl
   ·rename_i hle
    have hle' : o + len ≤ n := Nat.le_of_ble_eq_true hle
    obtain ⟨b, s, hb, _, hc⟩ := cell_of h hob
    obtain ⟨a', c', hx', _, hcase⟩ := jbm hv
    have ha' : a' = ⟨b, o, none⟩ := by
     rcases hcase with ⟨i2, o2, b2, s2, e1, e2, e3, _⟩ | ⟨e1, _⟩
     ·cases e1; rw [hb] at e3; cases e3; exact e2
     ·rw [show J i = _ from hb] at e1; cases e1
    rw [hx', ha']
    have := run_loadBytes (P := P) len o .empty l (fun k hk => hc (o + k) (by omega)) hl
    simpa [Extern.Bytes.bytesOf] using this
   ·cases hl
  ·cases hl
 ·cases hl
def jef (l : List UInt8) (c : UInt8) : Value :=
 match (List.range l.length).find? fun i => (ByteArray.mk l.toArray)[i]! == c with
 | some i => .int .i64 (Int.ofNat i)
 | none => .int .i64 (-1)
def aK (k : XK) (args : List Value) (μ : Mem) : Option (Value × Mem) :=
 match k with
 | .f64bits => match args with
   | [.float .f64 b] => some (.int .u64 (Int.ofNat b), μ)
   | _ => none
 | .f64from => match args with
   | [.int .u64 (.ofNat n)] => some (.float .f64 n, μ)
   | _ => none
 | .same => match args with
   | [x] => some (x, μ)
   | _ => none
 | .noZero e => match args with
   | [.int .i64 (.ofNat n)] => match Nat.ble n 281474976710656 with
     | true => some (.slice (some ⟨μ.next, 0, none⟩) n 3, ⟨μ.obs.set μ.next (.cells n e #[.chan none] .e 0 0 true false), Nat.add μ.next 1⟩)
     | false => none
   | _ => none
 | .indexByte => match args with
   | [x, .int .u8 c] => match jin μ x with
     | some l => some (jef l c.toNat.toUInt8, μ)
     | none => none
   | _ => none
def aExt (xs : List (FuncId × XK)) (g : FuncId) (args : List Value) (μ : Mem) : Option (Value × Mem) :=
 match xs.find? (fun x => Nat.beq x.1 g) with
 | none => none
 | some x => aK x.2 args μ
structure XRow (P : Program) (g : FuncId) (k : XK) (fn : Func) : Prop where
 row : P.funcs[g]? = some fn
 name : (fn.name == "runtime.NumGoroutine") = false
 body : fn.body.isNone = true
 next : Extern.findNext fn = none
 find : Extern.find fn = some (k.sem fn)
 ty : ∀ e, k = .noZero e → ∃ t, fn.resultTypes = #[t] ∧ P.underlying t = some (.slice e)
theorem jik {xs : List (FuncId × XK)} (hx : ∀ x ∈ xs, ∃ fn, XRow P x.1 x.2 fn) : XOk P (aExt xs) := by
 intro g args μ v μ' fn hfn hb h J w args' hr ha
 unfold aExt at h
 split at h
 ·cases h
 ·rename_i x hf
  have hmem := List.mem_of_find?_eq_some hf
  have hg : x.1 = g := by
   have := List.find?_some hf
   exact Nat.eq_of_beq_eq_true this
  obtain ⟨fn', R⟩ := hx x hmem
  have hee : fn' = fn := by have := R.row; rw [hg, hfn] at this; cases this; rfl
  subst hee
  subst hg
  have hrun := fun (args' : Array Value) => run_callFunc_extern R.row R.name R.body R.next R.find args' w
  unfold aK at h
  split at h
  ·rename_i hk
   split at h
   ·cases h
    obtain ⟨v', rfl, hv⟩ := jed ha
    cases hv
    exact ⟨J, _, w, by rw [hrun, hk]; rfl, .int _ _, hr, Step.refl _ _ _⟩
   ·cases h
  ·rename_i hk
   split at h
   ·cases h
    obtain ⟨v', rfl, hv⟩ := jed ha
    cases hv
    exact ⟨J, _, w, by rw [hrun, hk]; rfl, .float _ _, hr, Step.refl _ _ _⟩
   ·cases h
  ·rename_i hk
   split at h
   ·cases h
    obtain ⟨v', rfl, hv⟩ := jed ha
    exact ⟨J, v', w, by rw [hrun, hk]; rfl, hv, hr, Step.refl _ _ _⟩
   ·cases h
  ·rename_i e hk
   split at h
   ·rename_i n
    split at h
    ·rename_i hle
     cases h
     have hle' : n ≤ 281474976710656 := Nat.le_of_ble_eq_true hle
     obtain ⟨v', rfl, hv⟩ := jed ha
     cases hv
     obtain ⟨t, ht, hu⟩ := R.ty e hk
     obtain ⟨cs, hcs, hn, _⟩ := Lib.run_makeNoZero (P := P) w fn'.params t e hu n hle'
     have hJ : J μ.next = .unborn := hr.fresh _ (Nat.le_refl _)
     have hr1 : Rel J μ w.drew.drew := hr.heap rfl
     have hob : ObRel (upd J μ.next (.at w.drew.drew.heap.size cs.size)) (w.drew.drew.alloc (.cells cs e)) w.drew.drew.heap.size cs.size (.cells n e #[.chan none] .e 0 0 true false) := by
      refine ⟨cs, (0, 0), heap_alloc_new _ _, rfl, hn, (fun h => by cases h), fun i hi => ⟨cs[i], Array.getElem?_eq_getElem (by omega), ?_⟩, .inl rfl⟩
      have : cellAt #[.chan none] T.e i = .chan none := by
       simp only [cellAt, T.get_e]
       have : Nat.mod i (#[Value.chan none] : Array Value).size = 0 := by show i % 1 = 0; omega
       rw [this]; rfl
      rw [this]
      exact .any _ _
     refine ⟨upd J μ.next (.at w.drew.drew.heap.size cs.size), .slice (some ⟨w.heap.size, 0, none⟩) n cs.size, w.drew.drew.alloc (.cells cs e), ?_, ?_, ?_, ?_⟩
     ·rw [hrun, hk]
      simp only [XK.sem, ht]
      erw [hcs]
      rfl
     ·exact .slice (upd_same _ _ _) (.inr ⟨rfl, hn, by show 0 + cs.size * (3 / 2) ≤ cs.size; omega⟩)
     ·exact hr1.alloc cs.size _ _ hJ (Nat.lt_succ_self _) (Nat.le_succ _) hob
     ·have st := Step.alloc hr1 (i := μ.next) (nx := μ.next + 1) cs.size (.cells n e #[.chan none] .e 0 0 true false) (.cells cs e) (Nat.le_refl _) (Nat.lt_succ_self _) (Nat.le_succ _)
      exact ⟨st.at_, st.dead, st.unborn, st.born, st.next, st.gone_, st.size, st.frame, st.os, st.tape, st.output⟩
    ·cases h
   ·cases h
  ·rename_i hk
   split at h
   ·rename_i x c
    split at h
    ·rename_i l hl
     cases h
     obtain ⟨u', v', rfl, hu, hv⟩ := jiQ ha
     rw [jbc hv] at *
     have hb := ji7 (P := P) hr hu hl
     have hfin : (Extern.BytealgIndexByte.indexByte #[u', .int .u8 c]).run P w = .ok (jef l c.toNat.toUInt8) w := by
      have e0 : Extern.BytealgIndexByte.indexByte #[u', .int .u8 c] = (do
        let b ← Extern.Bytes.bytesOf u'
        let c ← Extern.Bytes.asByte (.int .u8 c)
        match (List.range b.size).find? fun i => b[i]! == c with
        | some i => pure (goInt i)
        | none => pure (goInt (-1))) := rfl
      rw [e0]
      simp only [Sem.run_bind, hb, Result.andThen_ok, Extern.Bytes.asByte, Sem.run_pure]
      have hsz : (ByteArray.mk l.toArray).size = l.length := by simp [ByteArray.size]
      unfold jef
      rw [hsz]
      cases (List.range l.length).find? fun i => (ByteArray.mk l.toArray)[i]! == c.toNat.toUInt8 with
      | none => rfl
      | some i => rfl
     refine ⟨J, _, w, by rw [hrun, hk]; simp only [XK.sem]; rw [hfin]; rfl, ?_, hr, Step.refl _ _ _⟩
     unfold jef
     cases (List.range l.length).find? fun i => (ByteArray.mk l.toArray)[i]! == c.toNat.toUInt8 with
     | none => exact .int _ _
     | some i => exact .int _ _
    ·cases h
   ·cases h
end
end Go.Proofs.YtnafmgiaifbhgaaGreatDoor.Ev
