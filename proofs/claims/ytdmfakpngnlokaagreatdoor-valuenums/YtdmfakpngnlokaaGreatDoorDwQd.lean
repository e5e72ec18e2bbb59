/-
  distafflaw18.ValueNums, part Qd: its walk and its law. No conditions.
-/
import Derived.Test.YtdmfakpngnlokaaGreatDoorDwQc
set_option linter.all false
set_option maxRecDepth 20000
set_option maxHeartbeats 8000000
namespace Go.Proofs.YtdmfakpngnlokaaGreatDoor.nu
open YtdmfakpngnlokaaGreatDoor.Ev
noncomputable section
structure Pins (J : Nat → Ev.Loc) (W : World) (b : Nat) (o : Ob) : Prop where
 live : o ≠ .dead
 bnd : b < W.heap.size
 ob : ObRel J W b 0 o
 back : ∀ (J' : Nat → Ev.Loc) (w' : World), ObRel J' w' b 0 o → w'.heap[b]? = W.heap[b]?
theorem pins_pin {J : Nat → Ev.Loc} {W : World} {b : Nat} {l : List Value} {c : Array Value} {ty : TypeId} {fz : Nat × Nat} (h : W.heap[b]? = some (.cells c ty fz)) (hv : ARel J l.toArray c) : Pins J W b (.pin l c ty fz) :=
 ⟨by simp, (Array.getElem?_eq_some_iff.1 h).1, ⟨h, hv⟩, fun J' w' (h' : _ ∧ _) => h'.1.trans h.symm⟩
structure HandsP (P : Program) (W : World) (nx : Nat) (J : Nat → Ev.Loc) (t : T Ob) : Prop where
 loc : ∀ i, J i = jbr nx i ∨ ∃ b o, J i = .at b 0 ∧ i ≠ P.globals.size ∧ i < nx ∧ (i < P.globals.size → b = i) ∧ t.get i = some o ∧ Pins J W b o
 inj : ∀ i j b, J i = .at b 0 → J j = .at b 0 → i = j
 only : ∀ i o, t.get i = some o → ∃ b, J i = .at b 0
theorem jjy (nx i b s : Nat) : jbr nx i ≠ .at b s := fun e => by unfold jbr at e; split at e <;> cases e
theorem jhK {P : Program} {X : XT} (hN : jcQ P) (hX : XOk P X) (hm : P.follows .mixedOrders = true) {S : List (FuncId × LK)} (hS : SumsOk P S) {k : Nat} {g : FuncId} {nx : Nat} (hnx : P.globals.size < nx) {W : World} {J : Nat → Ev.Loc} {t : T Ob} (h : HandsP P W nx J t)
  {args : List Value} {args' : Array Value} (ha : ARel J args.toArray args') {v : Value} {μ' : Mem} (hrun : aFun P (jai P X S k) g args ⟨t, nx⟩ = some (v, μ')) (hk : ∀ i, i < nx → μ'.obs.get i = t.get i) (hpv : jaw 5 v = true) :
  Calls P g args' W fun e W' => e = .returned v ∧ Same W W' := by
 have at0 : ∀ {i b s}, J i = .at b s → s = 0 ∧ i ≠ P.globals.size ∧ i < nx ∧ (i < P.globals.size → b = i) ∧ ∃ o, t.get i = some o ∧ Pins J W b o := fun {i b s} e => by
  rcases h.loc i with e1 | ⟨b1, o1, e1, h1, h2, h3, h4, h5⟩
  ·rw [e1] at e; exact absurd e (jjy _ _ _ _)
  ·rw [e1] at e; cases e; exact ⟨rfl, h1, h2, h3, o1, h4, h5⟩
 have nk : ∀ i, (i = P.globals.size ∨ nx ≤ i) → J i = jbr nx i := fun i hi => by
  rcases h.loc i with e1 | ⟨b1, o1, e1, h1, h2, _⟩
  ·exact e1
  ·omega
 have hr : Rel J ⟨t, nx⟩ W := by
  refine ⟨fun i j b s t2 e1 e2 => ?_, fun i b s e => ?_, fun i hi => ?_, fun i o ho _ => ?_⟩
  ·obtain ⟨rfl, _⟩ := at0 e1
   obtain ⟨rfl, _⟩ := at0 e2
   exact h.inj i j b e1 e2
  ·obtain ⟨_, _, _, _, o, _, h4⟩ := at0 e
   exact h4.bnd
  ·rw [nk i (.inr hi)]; exact if_neg (Nat.not_lt.2 hi)
  ·obtain ⟨b, e⟩ := h.only i o ho
   have ho' : t.get i = some o := ho
   obtain ⟨_, _, _, _, o2, h3, h4⟩ := at0 e
   rw [h3] at ho'
   cases ho'
   exact ⟨b, 0, e, h4.ob⟩
 have hB : Base P J := by
  refine ⟨fun g hg => ?_, ?_⟩
  ·rcases h.loc g with e1 | ⟨b1, o1, e1, h1, h2, h3, _⟩
   ·exact .inr (by rw [e1]; exact if_pos (Nat.lt_trans hg hnx))
   ·obtain rfl := h3 hg
    exact .inl ⟨0, e1⟩
  ·rw [nk _ (.inl rfl)]; exact if_pos hnx
 refine callsIn_wide.1 (jhL (jiT hN hX hm hS k).1 g args _ _ μ' hrun _ W args' hr hB ha 0 _ fun J' v' w' h1 h2 h3 => ?_)
 refine ⟨by rw [jeW 5 hpv h1], h3.os, h3.output, h3.size, fun b2 hb2 => ?_, h3.tape⟩
 by_cases hex : ∃ i, J i = .at b2 0
 ·obtain ⟨i, e⟩ := hex
  obtain ⟨_, _, hi, _, o, h5, h6⟩ := at0 e
  obtain ⟨b3, s3, hJ, hob⟩ := h2.obj i _ ((hk i hi).trans h5) h6.live
  rcases h3.at_ _ _ _ e with e3 | ⟨e3, _⟩
  ·rw [e3] at hJ; cases hJ; exact h6.back J' w' hob
  ·rw [e3] at hJ; cases hJ
 ·refine h3.frame b2 hb2 fun i s e => ?_
  obtain ⟨rfl, _⟩ := at0 e
  exact absurd ⟨i, e⟩ hex
abbrev Ent := Nat × Nat × Ob
def jE (nx : Nat) : List Ent → Nat → Ev.Loc
 | [], i => jbr nx i
 | x :: r, i => if i = x.1 then .at x.2.1 0 else jE nx r i
def tE : List Ent → T Ob
 | [] => .e
 | x :: r => (tE r).set x.1 x.2.2
theorem jE_at {nx : Nat} : ∀ {E : List Ent} {i b s : Nat}, jE nx E i = .at b s → s = 0 ∧ ∃ o, (i, b, o) ∈ E
 | [], i, b, s, h => absurd h (jjy _ _ _ _)
 | x :: r, i, b, s, h => by
   unfold jE at h
   by_cases g : i = x.1
   ·rw [if_pos g] at h; cases h; subst g; exact ⟨rfl, x.2.2, List.mem_cons_self ..⟩
   ·rw [if_neg g] at h
    obtain ⟨h1, o, h2⟩ := jE_at h
    exact ⟨h1, o, List.mem_cons_of_mem _ h2⟩
theorem jiz {nx : Nat} : ∀ {E : List Ent} {i : Nat}, (∀ b, jE nx E i ≠ .at b 0) → jE nx E i = jbr nx i
 | [], i, _ => rfl
 | x :: r, i, h => by
   unfold jE at h ⊢
   by_cases g : i = x.1
   ·exact absurd (if_pos g) (h x.2.1)
   ·rw [if_neg g]; exact jiz fun b e => h b ((if_neg g).trans e)
theorem jE_mem {nx : Nat} : ∀ {E : List Ent}, (E.map (·.1)).Nodup → ∀ x ∈ E, jE nx E x.1 = .at x.2.1 0
 | [], _, x, h => by cases h
 | y :: r, hn, x, h => by
   rw [List.map_cons, List.nodup_cons] at hn
   unfold jE
   rcases List.mem_cons.1 h with rfl | h
   ·exact if_pos rfl
   ·rw [if_neg (show x.1 ≠ y.1 from fun e => hn.1 (e ▸ List.mem_map_of_mem (f := fun z : Ent => z.1) h))]
    exact jE_mem hn.2 x h
theorem jji : ∀ {E : List Ent}, (E.map (·.1)).Nodup → ∀ x ∈ E, (tE E).get x.1 = some x.2.2
 | [], _, x, h => by cases h
 | y :: r, hn, x, h => by
   rw [List.map_cons, List.nodup_cons] at hn
   unfold tE
   rcases List.mem_cons.1 h with rfl | h
   ·rw [T.get_set, if_pos rfl]
   ·rw [T.get_set, if_neg (show x.1 ≠ y.1 from fun e => hn.1 (e ▸ List.mem_map_of_mem (f := fun z : Ent => z.1) h))]
    exact jji hn.2 x h
theorem tE_some : ∀ {E : List Ent} {i : Nat} {o : Ob}, (tE E).get i = some o → ∃ x ∈ E, x.1 = i
 | [], i, o, h => by unfold tE at h; rw [T.get_e] at h; cases h
 | y :: r, i, o, h => by
   unfold tE at h
   rw [T.get_set] at h
   by_cases g : i = y.1
   ·exact ⟨y, List.mem_cons_self .., g.symm⟩
   ·rw [if_neg g] at h
    obtain ⟨x, h1, h2⟩ := tE_some h
    exact ⟨x, List.mem_cons_of_mem _ h1, h2⟩
theorem jf2 : ∀ {E : List Ent}, (E.map (·.2.1)).Nodup → ∀ {x y : Ent}, x ∈ E → y ∈ E → x.2.1 = y.2.1 → x = y
 | [], _, x, y, h, _, _ => by cases h
 | z :: r, hn, x, y, hx, hy, e => by
   rw [List.map_cons, List.nodup_cons] at hn
   rcases List.mem_cons.1 hx with h1 | h1
   ·rcases List.mem_cons.1 hy with h2 | h2
    ·rw [h1, h2]
    ·rw [h1] at e
     exact absurd (e ▸ List.mem_map_of_mem (f := fun z : Ent => z.2.1) h2) hn.1
   ·rcases List.mem_cons.1 hy with h2 | h2
    ·rw [h2] at e
     exact absurd (e ▸ List.mem_map_of_mem (f := fun z : Ent => z.2.1) h1) hn.1
    ·exact jf2 hn.2 h1 h2 e
theorem jkF {P : Program} {W : World} {nx : Nat} {E : List Ent} (h1 : (E.map (·.1)).Nodup) (h2 : (E.map (·.2.1)).Nodup) (h3 : ∀ x ∈ E, x.1 ≠ P.globals.size ∧ x.1 < nx ∧ (x.1 < P.globals.size → x.2.1 = x.1) ∧ Pins (jE nx E) W x.2.1 x.2.2) : HandsP P W nx (jE nx E) (tE E) := by
 refine ⟨fun i => ?_, fun i j b e1 e2 => ?_, fun i o ho => ?_⟩
 ·by_cases hex : ∃ b, jE nx E i = .at b 0
  ·obtain ⟨b, e⟩ := hex
   obtain ⟨_, o, hm⟩ := jE_at e
   obtain ⟨g1, g2, g3, g4⟩ := h3 _ hm
   exact .inr ⟨b, o, e, g1, g2, g3, jji h1 _ hm, g4⟩
  ·exact .inl (jiz fun b e => hex ⟨b, e⟩)
 ·obtain ⟨_, o1, m1⟩ := jE_at e1
  obtain ⟨_, o2, m2⟩ := jE_at e2
  exact congrArg (·.1) (jf2 h2 m1 m2 rfl)
 ·obtain ⟨x, hx, rfl⟩ := tE_some ho
  exact ⟨_, jE_mem h1 x hx⟩
abbrev Arr := Nat × Array Value × TypeId
structure SlotAt (W : World) (g n : Nat) (y : Arr) (o cap : Nat) (t : TypeId) : Prop where
 head : W.heap[g]? = some (.cells #[.slice (some ⟨y.1, o, none⟩) n cap] t (0, 0))
 blk : W.heap[y.1]? = some (.cells y.2.1 y.2.2 (0, 0))
structure Laid (W : World) : Prop where
 opt : ∃ t, W.heap[(1 : Nat)]? = some (.cells [Value.bool true].toArray t (0, 0))
 fi : ∃ t, W.heap[(11 : Nat)]? = some (.cells [Value.int .u64 52, .int .u64 11, .int .i64 (-1023)].toArray t (0, 0))
 pt : ∃ t, W.heap[(6 : Nat)]? = some (.cells ptab.toArray t (0, 0))
 fp : ∃ y o cap t, SlotAt W 16 23 y o cap t ∧ ∀ k, k < 23 → y.2.1[o + k]? = some (.float .f64 (fpows.getD k 0))
 pw : ∃ y o cap t, SlotAt W 15 9 y o cap t ∧ ∀ k, k < 9 → y.2.1[o + k]? = some (.int .i64 (.ofNat (powts.getD k 0)))
 lc : ∃ y o cap t, SlotAt W 7 61 y o cap t ∧ ∀ k, k < 61 → y.2.1[o + 2 * k]? = some (.int .i64 (.ofNat (dlt k))) ∧ y.2.1[o + 2 * k + 1]? = some (.string (cut k))
 er : ∃ t u v, W.heap[(9 : Nat)]? = some (.cells #[.iface u v] t (0, 0))
 es : ∃ t u v, W.heap[(8 : Nat)]? = some (.cells #[.iface u v] t (0, 0))
def bad : Value → Bool
 | .float _ _ => true
 | .string _ => true
 | .int .i64 (.ofNat 1) => true
 | _ => false
theorem apart {W : World} {g : Nat} {c : Array Value} {t : TypeId} {y : Arr} {k : Nat} {v : Value} (hg : W.heap[g]? = some (.cells c t (0, 0))) (hy : W.heap[y.1]? = some (.cells y.2.1 y.2.2 (0, 0))) (hk : y.2.1[k]? = some v) (hb : bad v = true) (hc : c.toList.all (fun v => !bad v) = true) : g ≠ y.1 := by
 rintro rfl
 rw [hg] at hy
 injection hy with hy
 injection hy with e1 e2 e3
 rw [← e1] at hk
 have h1 : v ∈ c.toList := by
  obtain ⟨h, rfl⟩ := Array.getElem?_eq_some_iff.1 hk
  exact Array.getElem_mem_toList h
 have := List.all_eq_true.1 hc v h1
 rw [hb] at this
 cases this
def okU : Value → Bool
 | .int .u64 (.ofNat n) => Nat.blt n 18446744073709551616
 | _ => false
theorem okU_u {v : Value} (h : okU v = true) : v = u (natOf v) := by
 unfold okU at h
 split at h
 ·rename_i n
  show Value.int .u64 (.ofNat n) = .int .u64 (.ofNat (W n))
  rw [W_of (by simpa using h)]
 ·cases h
set_option maxRecDepth 1000000 in
theorem ptab_ok : ptab.all okU = true := by kernel_rfl
set_option maxRecDepth 1000000 in
theorem jjr : ptab.length = 1392 := by kernel_rfl
theorem ptab_at {k : Nat} (h : k < 1392) : ptab[k]? = some (u (natOf (ptab.getD k undef))) := by
 have h' : k < ptab.length := by rw [jjr]; exact h
 have e : ptab.getD k undef = ptab[k] := by simp [List.getD, h']
 rw [e, rzK h', ← okU_u (List.all_eq_true.1 ptab_ok _ (List.getElem_mem h'))]
theorem pin_cell {t : T Ob} {nx i k : Nat} {l : List Value} {c : Array Value} {ty : TypeId} {fz : Nat × Nat} {v : Value} (h : t.get i = some (.pin l c ty fz)) (hk : l[k]? = some v) : jad ⟨t, nx⟩ i k = some v := by
 unfold jad
 rw [show (Mem.obs ⟨t, nx⟩).get i = _ from h]
 obtain ⟨hl, rfl⟩ := List.getElem?_eq_some_iff.1 hk
 show (if k < l.length then some (cellAt l.toArray .e k) else none) = _
 rw [if_pos hl, ja3 l k hl]
theorem jbf {J : Nat → Ev.Loc} {v v' : Value} (h : VRel J v v') : ARel J [v].toArray #[v'] := ⟨rfl, fun i a b ha hb => by
 match i with
 | 0 => simp at ha hb; subst ha hb; exact h
 | i + 1 => simp at ha⟩
theorem gsz : 17 ≤ pZ.globals.size ∧ pZ.globals.size < 870 := by decide +kernel
end
noncomputable section
theorem jfk {P : Program} {w : World} : ∀ {l : List (String × DataW Unit)} {ps : List MemPlace}, DataW.LaidVars P w l ps → ∀ n d, (n, d) ∈ l →
  ∃ g t cs fuel p, P.globalNamed n = some g ∧ (P.globals[g]?).map (·.type) = some t ∧ w.var? P n = some cs ∧ DataW.trod (fun _ => ()) P w 0 (fun _ => true) false fuel t cs.toList = some (d, p) ∧ ∀ x ∈ MemPlace.row ⟨g, 0, none⟩ cs.size ++ p, x ∈ ps
 | [], _, _, _, _, hm => by cases hm
 | (n', d') :: r, ps, h, n, d, hm => by
   obtain ⟨g, t, cs, fuel, p, q, h1, h2, h3, h4, h5, rfl⟩ := h
   rcases List.mem_cons.1 hm with e | e
   ·cases e
    exact ⟨g, t, cs, fuel, p, h1, h2, h3, h4, fun x hx => List.mem_append_left q hx⟩
   ·obtain ⟨g', t', cs', f', p', k1, k2, k3, k4, k5⟩ := jfk h5 n d e
    exact ⟨g', t', cs', f', p', k1, k2, k3, k4, fun x hx => List.mem_append_right _ (k5 x hx)⟩
theorem row_mem {a : Addr} {n i : Nat} (h : i < n) : MemPlace.cell a.block (a.off + i) ∈ MemPlace.row a n := List.mem_map.2 ⟨i, List.mem_range.2 h, rfl⟩
variable {P : Program} {W : World} {laid : List (String × DataW Unit)} {n : String} {d : DataW Unit} {g : Nat} {t : TypeId}
theorem listed (hL : laidMetH P laid W) (hp : (laid.all fun x => x.2.handleName?.isNone) = true) (hm : (n, d) ∈ laid) (hg : P.globalNamed n = some g) (hty : (P.globals[g]?).map (·.type) = some t) :
  ∃ cs fuel p, (0 < cs.size → ∃ t', W.heap[g]? = some (.cells cs t' (0, 0))) ∧ DataW.trod (fun _ => ()) P W 0 (fun _ => true) false fuel t cs.toList = some (d, p) ∧ ∀ b off, MemPlace.cell b off ∈ p → ∃ c t', W.heap[b]? = some (.cells c t' (0, 0)) := by
 rw [MakeChecks.laidMetH_plain P laid W hp] at hL
 obtain ⟨ps, hv, _, hps⟩ := hL
 obtain ⟨g2, t2, cs, fuel, p, e1, e2, e3, e4, e5⟩ := jfk hv n d hm
 rw [hg] at e1; cases e1
 rw [hty] at e2; cases e2
 refine ⟨cs, fuel, p, fun h0 => ?_, e4, fun b off hb => (hps b off (e5 _ (List.mem_append_right _ hb))).1⟩
 obtain ⟨⟨c, t', hc⟩, _⟩ := hps g (0 + 0) (e5 _ (List.mem_append_left _ (row_mem (a := ⟨g, 0, none⟩) h0)))
 have e6 : World.var? P W n = some c := by
  unfold World.var?
  rw [hg]
  show (match W.heap[g]? with
   | some (.cells cs _ _) => some cs
   | _ => none) = some c
  rw [hc]
 rw [e3] at e6; cases e6
 exact ⟨t', hc⟩
theorem jem {c : Array Value} {l : List Value} (h : c.toList = l) : c = l.toArray := by subst h; simp
theorem jgJ (hL : laidMetH P laid W) (hp : (laid.all fun x => x.2.handleName?.isNone) = true) (hm : (n, d) ∈ laid) (hg : P.globalNamed n = some g) (hty : (P.globals[g]?).map (·.type) = some t) {k m : Nat} {l : List Value} (hk : jiK P k t = true) (hd : flatL m d = some l) (hne : 0 < l.length) :
  ∃ t', W.heap[g]? = some (.cells l.toArray t' (0, 0)) := by
 obtain ⟨cs, fuel, p, h1, h2, _⟩ := listed hL hp hm hg hty
 have e := jhO k t fuel m _ l d p hk h2 hd
 obtain rfl := jem e
 exact h1 (by simpa using hne)
theorem jjH {name : String} {d' : DataW Unit} {ms : Array (String × TypeId)} (hL : laidMetH P laid W) (hp : (laid.all fun x => x.2.handleName?.isNone) = true) (hm : (n, .iface name d') ∈ laid) (hg : P.globalNamed n = some g) (hty : (P.globals[g]?).map (·.type) = some t) (hi : P.underlying t = some (.interface ms)) :
  ∃ t' u v, W.heap[g]? = some (.cells #[.iface u v] t' (0, 0)) := by
 obtain ⟨cs, fuel, p, h1, h2, _⟩ := listed hL hp hm hg hty
 obtain ⟨_, u, v, hcs, _⟩ := iface_of_trod hi h2
 obtain rfl := jem hcs
 obtain ⟨t', h⟩ := h1 (by simp)
 exact ⟨t', u, v, h⟩
theorem jgr {e : TypeId} {ds : List (DataW Unit)} {ls : List (List Value)} {k m w : Nat} (hL : laidMetH P laid W) (hp : (laid.all fun x => x.2.handleName?.isNone) = true) (hm : (n, .slice ds []) ∈ laid) (hg : P.globalNamed n = some g) (hty : (P.globals[g]?).map (·.type) = some t)
  (ht : P.underlying t = some (.slice e)) (hc : P.cellsOf e = w) (hw : 0 < w) (hk : jiK P k e = true) (hfl : ds.map (flatL m) = ls.map some) (hne : 0 < ls.length) :
  ∃ (y : Arr) (o cap : Nat) (tb : TypeId), SlotAt W g ls.length y o cap tb ∧ ∀ i l j v, ls[i]? = some l → l[j]? = some v → y.2.1[o + i * w + j]? = some v := by
 obtain ⟨cs, fuel, p, h1, h2, h3⟩ := listed hL hp hm hg hty
 have hlen : ds.length = ls.length := by simpa using congrArg List.length hfl
 rcases DataW.trod_slice ht h2 with ⟨_, ex⟩ | ⟨a, len, cap, elems, rest, f, rfl, ecs, ex, _, _, _, hel, hat, _, _⟩
 ·cases ex
 injection ex with ex1 ex2
 injection ex1 with ed er
 subst ex2
 have hdl : ls.length = len := by rw [← hlen, ed, List.length_map, hel]
 have each : ∀ i l, ls[i]? = some l → W.cells? 0 (a.add (i * w)) w = some l := fun i l hi => by
  have hil : i < ls.length := (List.getElem?_eq_some_iff.1 hi).1
  have h4 := hat i (by omega)
  have hie : i < elems.length := by omega
  rw [rzK hie, Option.bind_eq_some_iff] at h4
  obtain ⟨csi, h5, h6⟩ := h4
  have h7 : (ds.map (flatL m))[i]? = some (some l) := by rw [hfl, List.getElem?_map, hi]; rfl
  rw [ed] at h7
  have h8 : flatL m (elems[i]).1 = some l := by simpa [hie] using h7
  obtain rfl := jhO k e f m csi l (elems[i]).1 (elems[i]).2 hk h6 h8
  rw [hc] at h5
  exact h5
 obtain ⟨l0, hl0⟩ : ∃ l0, ls[0]? = some l0 := ⟨_, rzK hne⟩
 obtain ⟨_, hl0w, hl0c⟩ := World.cells?_some (each 0 l0 hl0)
 obtain ⟨b, o, sp⟩ := a
 have a0 : ∀ (x : Addr), x.add 0 = x := fun x => rfl
 have hc0 := hl0c 0 hw
 rw [Nat.zero_mul, a0, a0, rzK (by omega : 0 < l0.length)] at hc0
 have hsp : sp = none := by
  unfold World.cell? at hc0
  simp only at hc0
  split at hc0
  ·cases sp with
   | none => rfl
   | some x => simp at hc0
  ·cases hc0
 subst hsp
 have hpos : 0 < (elems.length + rest.length) * P.cellsOf e := by
  rw [hc]
  exact Nat.mul_pos (by omega) hw
 obtain ⟨c, te, hb⟩ := h3 b (o + 0) (List.mem_append_left _ (row_mem (a := ⟨b, o, none⟩) hpos))
 obtain rfl := jem ecs
 obtain ⟨tb, hh⟩ := h1 (by simp)
 refine ⟨(b, c, te), o, cap, tb, ⟨?_, hb⟩, fun i l j v hi hj => ?_⟩
 ·rw [hdl]; exact hh
 ·obtain ⟨_, h4, h5⟩ := World.cells?_some (each i l hi)
  have hjl : j < l.length := (List.getElem?_eq_some_iff.1 hj).1
  have h6 := h5 j (by omega)
  rw [hj] at h6
  have ea : (Addr.add (Addr.add ⟨b, o, none⟩ (i * w)) j) = ⟨b, o + i * w + j, none⟩ := by
   unfold Addr.add
   by_cases g1 : i * w = 0
   ·rw [if_pos g1, g1]
    by_cases g2 : j = 0
    ·rw [if_pos g2, g2]; rfl
    ·rw [if_neg g2]; rfl
   ·rw [if_neg g1]
    by_cases g2 : j = 0
    ·rw [if_pos g2, g2]; rfl
    ·rw [if_neg g2]
  rw [ea] at h6
  unfold World.cell? at h6
  simp only [hb] at h6
  simpa using h6
end
noncomputable section
def idB (gs b : Nat) : Nat := if b < gs then b else 900 + b
def isC (W : World) (b : Nat) : Bool := match W.heap[b]? with
 | some (.cells _ _ _) => true
 | _ => false
def absV (W : World) (gs : Nat) : Value → Value
 | .slice (some ⟨b, o, none⟩) l c => if isC W b = true then .slice (some ⟨idB gs b, o, none⟩) l (2 * c) else .slice (some ⟨gs, 0, none⟩) l (2 * c)
 | .slice (some ⟨_, _, some _⟩) l c => .slice (some ⟨gs, 0, none⟩) l (2 * c)
 | .iface t _ => .iface t (.chan none)
 | v => strip v
theorem absV_rel {W : World} {gs : Nat} {J : Nat → Ev.Loc} (hJ : ∀ b, isC W b = true → J (idB gs b) = .at b 0) (hd : J gs = .dead) (v : Value) : VRel J (absV W gs v) v := by
 unfold absV
 split
 ·split
  ·exact .slice (hJ _ (by assumption)) (.inl ⟨by omega, by omega⟩)
  ·exact .sliceDead _ _ hd (.inl ⟨by omega, by omega⟩)
 ·exact .sliceDead _ _ hd (.inl ⟨by omega, by omega⟩)
 ·exact .iface (.any none _)
 ·exact jhg J _
def entW (W : World) (gs : Nat) (b : Nat) : Option Ent := match W.heap[b]? with
 | some (.cells c t fz) => some (idB gs b, b, .pin (c.toList.map (absV W gs)) c t fz)
 | _ => none
def jhQ (W : World) (gs : Nat) : List Ent := (List.range W.heap.size).filterMap (entW W gs)
theorem jdq {W : World} {gs b : Nat} {x : Ent} (h : entW W gs b = some x) : ∃ c t fz, W.heap[b]? = some (.cells c t fz) ∧ x = (idB gs b, b, .pin (c.toList.map (absV W gs)) c t fz) := by
 unfold entW at h
 split at h
 ·rename_i c t fz hc
  cases h
  exact ⟨c, t, fz, hc, rfl⟩
 ·cases h
theorem jjP {W : World} {gs : Nat} {x : Ent} (h : x ∈ jhQ W gs) : ∃ b c t fz, b < W.heap.size ∧ W.heap[b]? = some (.cells c t fz) ∧ x = (idB gs b, b, .pin (c.toList.map (absV W gs)) c t fz) := by
 obtain ⟨b, hb, hx⟩ := List.mem_filterMap.1 h
 obtain ⟨c, t, fz, h1, h2⟩ := jdq hx
 exact ⟨b, c, t, fz, List.mem_range.1 hb, h1, h2⟩
theorem jgz {W : World} {gs b : Nat} {c : Array Value} {t : TypeId} {fz : Nat × Nat} (h : W.heap[b]? = some (.cells c t fz)) : (idB gs b, b, Ob.pin (c.toList.map (absV W gs)) c t fz) ∈ jhQ W gs :=
 List.mem_filterMap.2 ⟨b, List.mem_range.2 (Array.getElem?_eq_some_iff.1 h).1, by unfold entW; rw [h]⟩
theorem jeZ {α : Type} {f : Nat → Option α} {k : α → Nat} (inj : ∀ a a' x x', f a = some x → f a' = some x' → k x = k x' → a = a') : ∀ {l : List Nat}, l.Nodup → ((l.filterMap f).map k).Nodup
 | [], _ => List.nodup_nil
 | a :: r, hl => by
   rw [List.nodup_cons] at hl
   cases e : f a with
   | none => rw [List.filterMap_cons_none e]; exact jeZ inj hl.2
   | some x =>
     rw [List.filterMap_cons_some e, List.map_cons, List.nodup_cons]
     refine ⟨fun h => ?_, jeZ inj hl.2⟩
     obtain ⟨y, hy, hk⟩ := List.mem_map.1 h
     obtain ⟨a', ha', hf⟩ := List.mem_filterMap.1 hy
     obtain rfl := inj _ _ _ _ e hf hk.symm
     exact hl.1 ha'
theorem idB_inj {gs a b : Nat} (hlt : gs < 870) (h : idB gs a = idB gs b) : a = b := by
 unfold idB at h
 split at h <;> split at h <;> omega
theorem je4 {W : World} {gs : Nat} (hlt : gs < 870) : ((jhQ W gs).map (·.1)).Nodup := jeZ (fun a a' x x' h1 h2 h3 => by
 obtain ⟨_, _, _, _, rfl⟩ := jdq h1
 obtain ⟨_, _, _, _, rfl⟩ := jdq h2
 exact idB_inj hlt h3) List.nodup_range
theorem jiN {W : World} {gs : Nat} : ((jhQ W gs).map (·.2.1)).Nodup := jeZ (fun a a' x x' h1 h2 h3 => by
 obtain ⟨_, _, _, _, rfl⟩ := jdq h1
 obtain ⟨_, _, _, _, rfl⟩ := jdq h2
 exact h3) List.nodup_range
abbrev nxW (W : World) : Nat := 900 + W.heap.size
abbrev jW (W : World) (gs : Nat) : Nat → Ev.Loc := jE (nxW W) (jhQ W gs)
abbrev memW (W : World) (gs : Nat) : Mem := ⟨tE (jhQ W gs), nxW W⟩
theorem jW_at {W : World} {gs : Nat} (hlt : gs < 870) {b : Nat} (h : isC W b = true) : jW W gs (idB gs b) = .at b 0 := by
 unfold isC at h
 split at h
 ·rename_i c t fz hc
  exact jE_mem (je4 hlt) _ (jgz hc)
 ·cases h
theorem idB_ne {gs b : Nat} (hlt : gs < 870) : idB gs b ≠ gs := by
 unfold idB
 split <;> omega
theorem jW_dead {W : World} {gs : Nat} (hlt : gs < 870) : jW W gs gs = .dead := by
 have h : jW W gs gs = jbr (nxW W) gs := jiz fun b e => by
  obtain ⟨_, o, m⟩ := jE_at e
  obtain ⟨b', _, _, _, _, _, e2⟩ := jjP m
  exact idB_ne hlt (congrArg (·.1) e2).symm
 rw [h]
 exact if_pos (by show gs < 900 + _; omega)
theorem abs_rel {W : World} {gs : Nat} (hlt : gs < 870) (v : Value) : VRel (jW W gs) (absV W gs v) v := absV_rel (fun b h => jW_at hlt h) (jW_dead hlt) v
theorem handsW {P : Program} {W : World} {gs : Nat} (hg : P.globals.size = gs) (hlt : gs < 870) : HandsP P W (nxW W) (jW W gs) (tE (jhQ W gs)) := by
 refine jkF (je4 hlt) jiN fun x hx => ?_
 obtain ⟨b, c, t, fz, hb, hc, rfl⟩ := jjP hx
 rw [hg]
 refine ⟨idB_ne hlt, ?_, ?_, pins_pin hc ⟨by simp, fun i a b' ha hb' => ?_⟩⟩
 ·show idB gs b < 900 + W.heap.size
  unfold idB
  split <;> omega
 ·show idB gs b < gs → b = idB gs b
  unfold idB
  split <;> omega
 ·simp only [List.getElem?_toArray, List.getElem?_map, Array.getElem?_toList, hb', Option.map_some, Option.some.injEq] at ha
  subst ha
  exact abs_rel hlt b'
theorem jcX {W : World} {gs b k : Nat} {c : Array Value} {t : TypeId} {fz : Nat × Nat} {v : Value} (hlt : gs < 870) (hc : W.heap[b]? = some (.cells c t fz)) (hk : c[k]? = some v) : jad (memW W gs) (idB gs b) k = some (absV W gs v) :=
 pin_cell (jji (je4 hlt) _ (jgz hc)) (by rw [List.getElem?_map, Array.getElem?_toList, hk]; rfl)
theorem idB_low {gs b : Nat} (h : b < gs) : idB gs b = b := if_pos h
theorem lay_hand {W : World} (hL : Laid W) : Lay (memW W pZ.globals.size) := by
 obtain ⟨t1, h1⟩ := hL.opt
 obtain ⟨t2, h2⟩ := hL.fi
 obtain ⟨t3, h3⟩ := hL.pt
 obtain ⟨y1, o1, k1, t4, ⟨h4, b1⟩, c1⟩ := hL.fp
 obtain ⟨y2, o2, k2, t5, ⟨h5, b2⟩, c2⟩ := hL.pw
 obtain ⟨y3, o3, k3, t6, ⟨h6, b3⟩, c3⟩ := hL.lc
 obtain ⟨t7, u7, v7, h7⟩ := hL.er
 obtain ⟨t8, u8, v8, h8⟩ := hL.es
 have hz := gsz
 obtain ⟨gs, hgs⟩ := exq (pZ.globals.size)
 rw [← hgs] at hz ⊢
 have hlt : gs < 870 := hz.2
 have cell : ∀ {g k : Nat} {c : Array Value} {t : TypeId} {v : Value}, g < 17 → W.heap[g]? = some (.cells c t (0, 0)) → c[k]? = some v → jad (memW W gs) g k = some (absV W gs v) := fun {g k c t v} hg hc hk => by
  have := jcX hlt hc hk
  rwa [idB_low (by omega)] at this
 have sl : ∀ {y : Arr} {o l cap : Nat}, W.heap[y.1]? = some (.cells y.2.1 y.2.2 (0, 0)) → absV W gs (.slice (some ⟨y.1, o, none⟩) l cap) = .slice (some ⟨idB gs y.1, o, none⟩) l (2 * cap) := fun {y o l cap} hc => by
  show (if isC W y.1 = true then _ else _) = _
  rw [if_pos (by unfold isC; rw [hc])]
 have lt : ∀ {y : Arr}, W.heap[y.1]? = some (.cells y.2.1 y.2.2 (0, 0)) → idB gs y.1 < nxW W := fun {y} hc => by
  have := (Array.getElem?_eq_some_iff.1 hc).1
  show idB gs y.1 < 900 + W.heap.size
  unfold idB
  split <;> omega
 refine ⟨cell (k := 0) (v := .bool true) (by decide) h1 rfl, cell (k := 0) (v := .int .u64 52) (by decide) h2 rfl, cell (k := 1) (v := .int .u64 11) (by decide) h2 rfl, cell (k := 2) (v := .int .i64 (-1023)) (by decide) h2 rfl, fun k hk => ⟨?_, ?_⟩,
  ⟨_, o1, _, (cell (k := 0) (by decide) h4 rfl).trans (congrArg some (sl b1)), lt b1, fun k hk => jcX hlt b1 (c1 k hk)⟩,
  ⟨_, o2, _, (cell (k := 0) (by decide) h5 rfl).trans (congrArg some (sl b2)), lt b2, fun k hk => jcX hlt b2 (c2 k hk)⟩,
  ⟨_, o3, _, (cell (k := 0) (by decide) h6 rfl).trans (congrArg some (sl b3)), lt b3, fun k hk => ⟨jcX hlt b3 (c3 k hk).1, jcX hlt b3 (c3 k hk).2⟩⟩,
  ⟨_, cell (k := 0) (by decide) h7 rfl, rfl⟩, ⟨_, cell (k := 0) (by decide) h8 rfl, rfl⟩, by show 20 < 900 + _; omega⟩
 ·exact cell (k := 2 * k) (v := u (hiT k)) (by decide) h3 ((List.getElem?_toArray (xs := ptab) (i := 2 * k)).trans (ptab_at (by omega)))
 ·exact cell (k := 2 * k + 1) (v := u (loT k)) (by decide) h3 ((List.getElem?_toArray (xs := ptab) (i := 2 * k + 1)).trans (ptab_at (by omega)))
inductive Dat where
 | mk (k n : Int) (fl : Bool) (f : Nat) (neg : Bool) (ls : List Nat) (s : ByteArray) (l : List Dat)
def CapK (w n c : Nat) : Prop := (c % 2 = 0 ∧ n ≤ c / 2) ∨ (c % 2 = 1 ∧ c / 2 = w)
def IsU (μ : Mem) (ls : List Nat) (v : Value) : Prop := (∀ x ∈ ls, x < 4294967296) ∧ ls.length ≤ maxLen ∧ ((v = .slice none 0 0 ∧ ls = []) ∨ ∃ i o c, v = .slice (some ⟨i, o, none⟩) ls.length c ∧ (ls ≠ [] → i < μ.next ∧ Has μ i o (ls.map fun x => .int .u32 (.ofNat x))) ∧ CapK 1 ls.length c)
def wfI (n : Int) : Prop := (Lit.int .i64 n).wf = true
mutual
def IsD (μ : Mem) : Dat → List Value → Prop
 | .mk k n fl f neg ls s l, cs => ∃ vl vi, cs = [.int .i64 k, .int .i64 n, .bool fl, .float .f64 f, .bool neg, vl, .string s, vi] ∧ (wfI k ∧ wfI n ∧ (Lit.float .f64 f).wf = true ∧ s.size ≤ maxLen ∧ l.length ≤ maxLen) ∧ IsU μ ls vl ∧
   ((vi = .slice none 0 0 ∧ l = []) ∨ ∃ i o c, vi = .slice (some ⟨i, o, none⟩) l.length c ∧ (l ≠ [] → i < μ.next) ∧ IsDs μ l i o ∧ CapK 8 l.length c)
def IsDs (μ : Mem) : List Dat → Nat → Nat → Prop
 | [], _, _ => True
 | d :: r, i, o => (∃ cs, Has μ i o cs ∧ IsD μ d cs) ∧ IsDs μ r i (o + 8)
end
def IsL (μ : Mem) (l : List Dat) (v : Value) : Prop := l.length ≤ maxLen ∧ ((v = .slice none 0 0 ∧ l = []) ∨ ∃ i o c, v = .slice (some ⟨i, o, none⟩) l.length c ∧ (l ≠ [] → i < μ.next) ∧ IsDs μ l i o ∧ CapK 8 l.length c)
theorem isD_mk {μ : Mem} {k n : Int} {fl : Bool} {f : Nat} {neg : Bool} {ls : List Nat} {s : ByteArray} {l : List Dat} {cs : List Value} : IsD μ (.mk k n fl f neg ls s l) cs ↔ ∃ vl vi, cs = [.int .i64 k, .int .i64 n, .bool fl, .float .f64 f, .bool neg, vl, .string s, vi] ∧ (wfI k ∧ wfI n ∧ (Lit.float .f64 f).wf = true ∧ s.size ≤ maxLen) ∧ IsU μ ls vl ∧ IsL μ l vi := by
 rw [IsD]
 constructor
 ·rintro ⟨vl, vi, h1, ⟨h2, h3, h4, h5, h6⟩, h7, h8⟩
  exact ⟨vl, vi, h1, ⟨h2, h3, h4, h5⟩, h7, h6, h8⟩
 ·rintro ⟨vl, vi, h1, ⟨h2, h3, h4, h5⟩, h7, h6, h8⟩
  exact ⟨vl, vi, h1, ⟨h2, h3, h4, h5, h6⟩, h7, h8⟩
theorem isDs_at {μ : Mem} : ∀ {l : List Dat} {i o k : Nat} {d : Dat}, IsDs μ l i o → l[k]? = some d → ∃ cs, Has μ i (o + 8 * k) cs ∧ IsD μ d cs
 | [], i, o, k, d, _, hd => by simp at hd
 | x :: r, i, o, k, d, h, hd => by
   rw [IsDs] at h
   cases k with
   | zero =>
     simp only [List.getElem?_cons_zero, Option.some.injEq] at hd
     subst hd
     exact h.1
   | succ k =>
     obtain ⟨cs, h1, h2⟩ := isDs_at h.2 (by simpa using hd)
     refine ⟨cs, ?_, h2⟩
     rw [(by omega : o + 8 * (k + 1) = o + 8 + 8 * k)]
     exact h1
theorem IsU.grow {μ μ' : Mem} {ls : List Nat} {v : Value} (h : IsU μ ls v) (g : Grow μ μ') : IsU μ' ls v := by
 obtain ⟨h1, h2, h3 | ⟨i, o, c, h3, h4, h5⟩⟩ := h
 ·exact ⟨h1, h2, .inl h3⟩
 ·exact ⟨h1, h2, .inr ⟨i, o, c, h3, fun hn => ⟨rzO (h4 hn).1 g.1, (h4 hn).2.keep (g.2 i (h4 hn).1)⟩, h5⟩⟩
mutual
theorem IsD.grow {μ μ' : Mem} (g : Grow μ μ') : ∀ {d : Dat} {cs : List Value}, IsD μ d cs → IsD μ' d cs
 | .mk k n fl f neg ls s l, cs, h => by
   rw [isD_mk] at h ⊢
   obtain ⟨vl, vi, h1, h2, h3, h4, h5⟩ := h
   refine ⟨vl, vi, h1, h2, h3.grow g, h4, ?_⟩
   rcases h5 with h5 | ⟨i, o, c, h5, h6, h7, h8⟩
   ·exact .inl h5
   ·exact .inr ⟨i, o, c, h5, fun hn => rzO (h6 hn) g.1, IsDs.grow g h6 h7, h8⟩
theorem IsDs.grow {μ μ' : Mem} (g : Grow μ μ') : ∀ {l : List Dat} {i o : Nat}, (l ≠ [] → i < μ.next) → IsDs μ l i o → IsDs μ' l i o
 | [], i, o, _, h => by rw [IsDs]; trivial
 | d :: r, i, o, hi, h => by
   rw [IsDs] at h ⊢
   obtain ⟨⟨cs, h1, h2⟩, h3⟩ := h
   exact ⟨⟨cs, h1.keep (g.2 i (hi (List.cons_ne_nil _ _))), IsD.grow g h2⟩, IsDs.grow g (fun _ => hi (List.cons_ne_nil _ _)) h3⟩
end
theorem IsL.grow {μ μ' : Mem} {l : List Dat} {v : Value} (h : IsL μ l v) (g : Grow μ μ') : IsL μ' l v := by
 obtain ⟨h1, h2 | ⟨i, o, c, h3, h4, h5, h6⟩⟩ := h
 ·exact ⟨h1, .inl h2⟩
 ·exact ⟨h1, .inr ⟨i, o, c, h3, fun hn => rzO (h4 hn) g.1, IsDs.grow g h4 h5, h6⟩⟩
theorem spot_none {W : World} {a : Addr} {w : Nat} {row : List Value} (h : W.cells? 0 (a.add 0) w = some row) (hw : 0 < w) : a = ⟨a.block, a.off, none⟩ := by
 obtain ⟨_, hl, hc⟩ := World.cells?_some h
 have h0 := hc 0 hw
 rw [show (Addr.add (Addr.add a 0) 0) = a from rfl, rzK (by omega : 0 < row.length)] at h0
 unfold World.cell? at h0
 obtain ⟨b, o, sp⟩ := a
 split at h0
 ·cases sp with
  | none => rfl
  | some x => simp at h0
 ·cases h0
theorem jhS {W : World} {b o m w : Nat} {row : List Value} (h : W.cells? 0 (Addr.add ⟨b, o, none⟩ m) w = some row) (hw : 0 < w) : ∃ c t fz, W.heap[b]? = some (.cells c t fz) ∧ row.length = w ∧ ∀ (j : Nat) v, row[j]? = some v → c[o + m + j]? = some v := by
 obtain ⟨_, hl, hc⟩ := World.cells?_some h
 have ea : ∀ j, (Addr.add (Addr.add ⟨b, o, none⟩ m) j) = ⟨b, o + m + j, none⟩ := fun j => by
  unfold Addr.add
  by_cases g1 : m = 0
  ·rw [if_pos g1, g1]
   by_cases g2 : j = 0
   ·rw [if_pos g2, g2]; rfl
   ·rw [if_neg g2]; rfl
  ·rw [if_neg g1]
   by_cases g2 : j = 0
   ·rw [if_pos g2, g2]; rfl
   ·rw [if_neg g2]
 have hc0 := hc 0 hw
 rw [ea, rzK (by omega : 0 < row.length)] at hc0
 unfold World.cell? at hc0
 split at hc0
 ·rename_i c t fz hb
  have hb : W.heap[b]? = some (.cells c t fz) := hb
  refine ⟨c, t, fz, hb, hl, fun j v hj => ?_⟩
  have hjl : j < w := by rw [← hl]; exact (List.getElem?_eq_some_iff.1 hj).1
  have h6 := hc j hjl
  rw [ea, hj] at h6
  unfold World.cell? at h6
  simpa [hb] using h6
 ·cases hc0
theorem row_hand {W : World} {gs b o : Nat} {c : Array Value} {t : TypeId} {fz : Nat × Nat} {row : List Value} (hlt : gs < 870) (hb : W.heap[b]? = some (.cells c t fz)) (h : ∀ (j : Nat) v, row[j]? = some v → c[o + j]? = some v) (hne : row ≠ []) : Has (memW W gs) (idB gs b) o (row.map (absV W gs)) := by
 have hpos : 0 < row.length := List.length_pos_iff.2 hne
 have hlast := h (row.length - 1) _ (rzK (by omega))
 have hb1 := (Array.getElem?_eq_some_iff.1 hlast).1
 refine ⟨(c.toList.map (absV W gs)).length, (c.toList.map (absV W gs)).toArray, .e, ?_, ?_, fun k hk => ?_⟩
 ·show jbk ((tE (jhQ W gs)).get (idB gs b)) = _
  rw [jji (je4 hlt) _ (jgz hb)]
  rfl
 ·simp only [List.length_map, Array.length_toList]; omega
 ·have hk' : k < row.length := by simpa using hk
  have h1 := h k _ (rzK hk')
  obtain ⟨hlt', he⟩ := Array.getElem?_eq_some_iff.1 h1
  rw [ja3 _ _ (by simpa using hlt')]
  simp [he]
section
variable {H : Type} {enc : TypeId × Value → H} {P : Program} {W : World} {sp : Nat → Bool} {hd : Bool} {fuel gs : Nat} {t e : TypeId} {cs : List Value} {x : DataW H × List MemPlace}
theorem jej {k : FloatKind} (ht : P.underlying t = some (.float k)) (h : DataW.trod enc P W 0 sp hd fuel t cs = some x) : ∃ b, cs = [.float k b] ∧ (Lit.float k b).wf = true := by
 cases fuel with
 | zero => simp [DataW.trod] at h
 | succ n =>
   unfold DataW.trod at h
   rw [ht] at h
   split at h <;> simp_all
theorem trod_sl {w : Nat} (ht : P.underlying t = some (.slice e)) (hc : P.cellsOf e = w) (hw : 0 < w) (h : DataW.trod enc P W 0 sp hd fuel t cs = some x) :
  ∃ v len, cs = [v] ∧ len ≤ maxLen ∧ ((v = .slice none 0 0 ∧ len = 0) ∨ ∃ a cap, v = .slice (some a) len cap ∧ len ≤ cap ∧ (0 < len → ∃ b o c tb fz n, a = ⟨b, o, none⟩ ∧ fuel = n + 1 ∧ W.heap[b]? = some (.cells c tb fz) ∧ ∀ i, i < len → ∃ row y, DataW.trod enc P W 0 sp hd n e row = some y ∧ ∀ (j : Nat) v, row[j]? = some v → c[o + i * w + j]? = some v)) := by
 rcases DataW.trod_slice ht h with ⟨rfl, _⟩ | ⟨a, len, cap, elems, rest, n, hn, rfl, _, _, hl, hm, hel, hat, _⟩
 ·exact ⟨_, 0, rfl, rzY _, .inl ⟨rfl, rfl⟩⟩
 ·refine ⟨_, len, rfl, rzS hl hm, .inr ⟨a, cap, rfl, hl, fun h0 => ?_⟩⟩
  rw [hc] at hat
  have each : ∀ i, i < len → ∃ row y, W.cells? 0 (a.add (i * w)) w = some row ∧ DataW.trod enc P W 0 sp hd n e row = some y := fun i hi => by
   have h4 := hat i hi
   rw [rzK (by omega), Option.bind_eq_some_iff] at h4
   obtain ⟨row, h5, h6⟩ := h4
   exact ⟨row, _, h5, h6⟩
  obtain ⟨r0, _, q1, _⟩ := each 0 h0
  rw [Nat.zero_mul] at q1
  have ea := spot_none q1 hw
  obtain ⟨b, o, spt⟩ := a
  injection ea with _ _ ea
  subst ea
  obtain ⟨c, tb, fz, hb, _, _⟩ := jhS (m := 0) q1 hw
  refine ⟨b, o, c, tb, fz, n, rfl, hn, hb, fun i hi => ?_⟩
  obtain ⟨row, y, q2, q3⟩ := each i hi
  obtain ⟨c', _, _, hb', _, q4⟩ := jhS q2 hw
  rw [hb] at hb'
  cases hb'
  exact ⟨row, y, q3, q4⟩
theorem abs_sl {W : World} {gs b o l c : Nat} {cs : Array Value} {t : TypeId} {fz : Nat × Nat} (hb : W.heap[b]? = some (.cells cs t fz)) : absV W gs (.slice (some ⟨b, o, none⟩) l c) = .slice (some ⟨idB gs b, o, none⟩) l (2 * c) := by
 show (if isC W b = true then _ else _) = _
 rw [if_pos (by unfold isC; rw [hb])]
theorem abs_sl0 {W : World} {gs l c : Nat} {a : Addr} : ∃ i o, absV W gs (.slice (some a) l c) = .slice (some ⟨i, o, none⟩) l (2 * c) := by
 obtain ⟨b, o, sp⟩ := a
 cases sp with
 | none =>
   cases h : isC W b with
   | true => exact ⟨_, _, if_pos h⟩
   | false => exact ⟨_, _, if_neg (by rw [h]; decide)⟩
 | some _ => exact ⟨_, _, rfl⟩
theorem id_lt {b : Nat} {cs : Array Value} {t : TypeId} {fz : Nat × Nat} (hb : W.heap[b]? = some (.cells cs t fz)) : idB gs b < (memW W gs).next := by
 have := (Array.getElem?_eq_some_iff.1 hb).1
 show idB gs b < 900 + W.heap.size
 unfold idB
 split <;> omega
theorem u_trod {n : Nat} {cs : List Value} {x : DataW H × List MemPlace} (ht : P.underlying t = some (.int .u32)) (h : DataW.trod enc P W 0 sp hd n t cs = some x) : ∃ a, a < 4294967296 ∧ cs = [.int .u32 (.ofNat a)] := by
 obtain ⟨z, rfl, _, hw⟩ := DataW.trod_int ht h
 have hb : 0 ≤ z ∧ z < 4294967296 := by
  simp only [Lit.wf, IntKind.min, IntKind.max, IntKind.signed, IntKind.bits] at hw
  simp at hw
  omega
 exact ⟨z.toNat, by omega, by rw [show Int.ofNat z.toNat = z from Int.toNat_of_nonneg hb.1]⟩
theorem list_of {α : Type} {Q : Nat → α → Prop} : ∀ {len : Nat}, (∀ i, i < len → ∃ a, Q i a) → ∃ l : List α, l.length = len ∧ ∀ (i : Nat) a, l[i]? = some a → Q i a := by
 intro len
 induction len with
 | zero => exact fun _ => ⟨[], rfl, fun i x hx => by simp at hx⟩
 | succ m ih =>
   intro ev
   obtain ⟨ls, h1, h2⟩ := ih fun i hi => ev i (by omega)
   obtain ⟨a, ha⟩ := ev m (by omega)
   refine ⟨ls ++ [a], by simp [h1], fun i x hx => ?_⟩
   rw [List.getElem?_append] at hx
   split at hx
   ·exact h2 i x hx
   ·have : i - ls.length = 0 := by
     have := (List.getElem?_eq_some_iff.1 hx).1
     simp at this
     omega
    rw [this] at hx
    simp at hx
    subst hx
    rw [(by omega : i = m)]
    exact ha
theorem isU_trod {gs : Nat} (hlt : gs < 870) (ht : P.underlying t = some (.slice e)) (he : P.underlying e = some (.int .u32)) (hc : P.cellsOf e = 1) (h : DataW.trod enc P W 0 sp hd fuel t cs = some x) : ∃ v ls, cs = [v] ∧ IsU (memW W gs) ls (absV W gs v) := by
 obtain ⟨v, len, rfl, hl, ⟨rfl, rfl⟩ | ⟨a, cap, rfl, hcp, hk⟩⟩ := trod_sl ht hc (by decide) h
 ·exact ⟨_, [], rfl, fun x hx => by simp at hx, rzY _, .inl ⟨rfl, rfl⟩⟩
 ·by_cases h0 : len = 0
  ·subst h0
   obtain ⟨i, o, hi⟩ := abs_sl0 (W := W) (gs := gs) (l := 0) (c := cap) (a := a)
   exact ⟨_, [], rfl, fun x hx => by simp at hx, rzY _, .inr ⟨i, o, _, hi, fun h => absurd rfl h, .inl ⟨by omega, rzY _⟩⟩⟩
  ·obtain ⟨b, o, c, tb, fz, n, rfl, _, hb, hi⟩ := hk (by omega)
   have ev : ∀ i, i < len → ∃ a, a < 4294967296 ∧ c[o + i]? = some (.int .u32 (.ofNat a)) := fun i hil => by
    obtain ⟨row, y, q1, q2⟩ := hi i hil
    obtain ⟨a, ha, rfl⟩ := u_trod he q1
    have := q2 0 _ rfl
    rw [Nat.mul_one] at this
    exact ⟨a, ha, this⟩
   obtain ⟨ls, hls, hall⟩ := list_of ev
   refine ⟨_, ls, rfl, fun x hx => ?_, by omega, .inr ⟨_, _, _, by rw [hls]; exact abs_sl hb, fun hn => ⟨id_lt hb, ?_⟩, .inl ⟨by omega, by omega⟩⟩⟩
   ·obtain ⟨i, hi, rfl⟩ := List.mem_iff_getElem.1 hx
    exact (hall i _ (rzK hi)).1
   ·have := row_hand (row := ls.map fun x => Value.int .u32 (.ofNat x)) hlt hb (fun j v hj => by
     rw [List.getElem?_map] at hj
     cases e : ls[j]? with
     | none => rw [e] at hj; cases hj
     | some y => rw [e] at hj; cases hj; exact (hall j y e).2) (by simpa using hn)
    rw [List.map_map] at this
    exact this
end
theorem cells_N : pZ.cellsOf 27 = 4 := by kernel_rfl
theorem cells_I : pZ.cellsOf 25 = 2 := by kernel_rfl
theorem jgc : pZ.cellsOf 4 = 1 := by kernel_rfl
theorem cells_f64 : pZ.cellsOf 22 = 1 := by kernel_rfl
theorem cells_Ls : pZ.cellsOf 23 = 1 := by kernel_rfl
theorem cells_u32 : pZ.cellsOf 73 = 1 := by kernel_rfl
section
variable {H : Type} {enc : TypeId × Value → H} {W : World} {sp : Nat → Bool} {hd : Bool}
theorem four {α : Type} {l : List α} (h : l.length = 4) : ∃ a b c d, l = [a, b, c, d] := by
 cases l with
 | nil => simp at h
 | cons a l => cases l with
   | nil => simp at h
   | cons b l => cases l with
     | nil => simp at h
     | cons c l => cases l with
       | nil => simp at h
       | cons d l =>
         obtain rfl : l = [] := List.length_eq_zero_iff.1 (by simpa using h)
         exact ⟨a, b, c, d, rfl⟩
theorem num_trod {gs fuel : Nat} {cs : List Value} {x : DataW H × List MemPlace} (hlt : gs < 870) (h : DataW.trod enc pZ W 0 sp hd fuel 27 cs = some x) : ∃ fl f neg vl ls, cs = [.bool fl, .float .f64 f, .bool neg, vl] ∧ (Lit.float .f64 f).wf = true ∧ IsU (memW W gs) ls (absV W gs vl) := by
 obtain ⟨xs, n, rfl, _, hl, hx, hf⟩ := DataW.trod_struct Tryz.underlying27 h
 rw [cells_N] at hl
 obtain ⟨c0, c1, c2, c3, rfl⟩ := four hl
 ·skip
  have hx : xs.length = 3 := hx
  obtain ⟨x0, e0⟩ : ∃ y, xs[0]? = some y := ⟨_, rzK (by omega)⟩
  obtain ⟨x1, e1⟩ : ∃ y, xs[1]? = some y := ⟨_, rzK (by omega)⟩
  obtain ⟨x2, e2⟩ : ∃ y, xs[2]? = some y := ⟨_, rzK (by omega)⟩
  have h0 : DataW.trod enc pZ W 0 sp hd n 4 (([c0, c1, c2, c3].drop 0).take (pZ.cellsOf 4)) = some x0 := (hf 0 _ rfl).trans e0
  have h1 : DataW.trod enc pZ W 0 sp hd n 22 (([c0, c1, c2, c3].drop 1).take (pZ.cellsOf 22)) = some x1 := (hf 1 _ rfl).trans e1
  have h2 : DataW.trod enc pZ W 0 sp hd n 25 (([c0, c1, c2, c3].drop 2).take (pZ.cellsOf 25)) = some x2 := (hf 2 _ rfl).trans e2
  simp only [jgc, cells_f64, cells_I, List.drop_zero, List.drop_succ_cons, List.take_succ_cons, List.take_zero] at h0 h1 h2
  obtain ⟨fl, q0, _⟩ := DataW.trod_bool Tryz.underlying4 h0
  obtain ⟨f, q1, hw⟩ := jej Tryz.underlying22 h1
  obtain ⟨ys, n2, rfl, _, hl2, hy, hg⟩ := DataW.trod_struct Tryz.underlying25 h2
  have hy : ys.length = 2 := hy
  obtain ⟨y0, e3⟩ : ∃ y, ys[0]? = some y := ⟨_, rzK (by omega)⟩
  obtain ⟨y1, e4⟩ : ∃ y, ys[1]? = some y := ⟨_, rzK (by omega)⟩
  have h3 : DataW.trod enc pZ W 0 sp hd n2 4 (([c2, c3].drop 0).take (pZ.cellsOf 4)) = some y0 := (hg 0 _ rfl).trans e3
  have h4 : DataW.trod enc pZ W 0 sp hd n2 23 (([c2, c3].drop 1).take (pZ.cellsOf 23)) = some y1 := (hg 1 _ rfl).trans e4
  simp only [jgc, cells_Ls, List.drop_zero, List.drop_succ_cons, List.take_succ_cons, List.take_zero] at h3 h4
  obtain ⟨neg, q3, _⟩ := DataW.trod_bool Tryz.underlying4 h3
  obtain ⟨vl, ls, q4, hU⟩ := isU_trod (gs := gs) hlt Tryz.underlying23 Tryz.underlying73 cells_u32 h4
  cases q0; cases q1; cases q3; cases q4
  exact ⟨fl, f, neg, _, ls, rfl, hw, hU⟩
end
end
noncomputable section
theorem IsU.len {μ : Mem} {ls : List Nat} {v : Value} (h : IsU μ ls v) : aLen pZ 23 v = some ls.length := by
 unfold aLen
 rcases h with ⟨_, _, ⟨rfl, rfl⟩ | ⟨i, o, c, rfl, _⟩⟩ <;> simp only [Tryz.underlying23] <;> rfl
theorem IsU.one {μ : Mem} {ls : List Nat} {v : Value} (h : IsU μ ls v) : one v = true := by
 rcases h with ⟨_, _, ⟨rfl, rfl⟩ | ⟨i, o, c, rfl, _⟩⟩ <;> rfl
theorem IsL.len {μ : Mem} {l : List Dat} {v : Value} (h : IsL μ l v) : aLen pZ 49 v = some l.length := by
 unfold aLen
 rcases h with ⟨_, ⟨rfl, rfl⟩ | ⟨i, o, c, rfl, _⟩⟩ <;> simp only [Tryz.underlying49] <;> rfl
theorem IsL.one {μ : Mem} {l : List Dat} {v : Value} (h : IsL μ l v) : one v = true := by
 rcases h with ⟨_, ⟨rfl, rfl⟩ | ⟨i, o, c, rfl, _⟩⟩ <;> rfl
theorem IsL.at {μ : Mem} {l : List Dat} {v : Value} {k : Nat} {d : Dat} (h : IsL μ l v) (hd : l[k]? = some d) : ∃ i o c cs, v = .slice (some ⟨i, o, none⟩) l.length c ∧ i < μ.next ∧ Has μ i (o + 8 * k) cs ∧ IsD μ d cs := by
 rcases h with ⟨_, ⟨_, rfl⟩ | ⟨i, o, c, h1, h2, h3, _⟩⟩
 ·simp at hd
 ·obtain ⟨cs, h4, h5⟩ := isDs_at h3 hd
  exact ⟨i, o, c, cs, h1, h2 (by rintro rfl; simp at hd), h4, h5⟩
@[go_sem] def gg71 {X ev} := gC X ev Tryz.func71 rfl rfl
@[go_sem] def gg35 {X ev} := gC X ev Tryz.func35 rfl rfl
@[go_sem] def gg55 {X ev} := gC X ev Tryz.func55 rfl rfl
@[go_sem] def gg36 {X ev} := gC X ev Tryz.func36 rfl rfl
@[go_sem] def gg11 {X ev} := gC X ev Tryz.func11 rfl rfl
def jcB (X : XT) : Prop := ∀ a μ, X 19 [.float .f64 a] μ = some (.int .u64 (.ofNat a), μ)
theorem go_bits {X : XT} {ev : ET} (args : List Value) (μ : Mem) : aGo pZ X (jbs pZ ev S0) 19 args μ = X 19 args μ := by
 unfold aGo
 rw [Tryz.func19]
 rfl
theorem wf_f64 {f : Nat} (h : (Lit.float .f64 f).wf = true) : f < 18446744073709551616 := by
 simpa [Lit.wf] using h
theorem wAnd11 (a : Nat) : jbm Nat.land .u64 .u64 (.ofNat (W a)) 2047 = some (.int .u64 (.ofNat (W (W a &&& 2047)))) := jj6 _ 2047 (W_lt a) (by decide)
theorem wAnd52 (a : Nat) : jbm Nat.land .u64 .u64 (.ofNat (W a)) 4503599627370495 = some (.int .u64 (.ofNat (W (W a &&& 4503599627370495)))) := jj6 _ 4503599627370495 (W_lt a) (by decide)
def nb (f : Nat) : Nat := if W (W (W f / 2 ^ 52) &&& 2047) = 2047 ∧ W (W f &&& 4503599627370495) ≠ 0 then 9221120237041090561 else f
theorem jgP {X : XT} {g f : Nat} {μ : Mem} (hX : jcB X) (hf : f < 18446744073709551616) (hg : 20 ≤ g) : aFun pZ (jai pZ X S0 g) 71 [.float .f64 f] μ = some (u (nb f), μ) := by
 obtain ⟨k, rfl⟩ := gle hg
 have hc : ∀ μ', aGo pZ X (jbs pZ (jai pZ X S0 (k + 17)) S0) 19 [.float .f64 f] μ' = some (u f, μ') := fun μ' => (go_bits _ _).trans ((hX f μ').trans (by rw [u_of hf]))
 obtain ⟨p, hp⟩ := exq (W (W (W f / 2 ^ 52) &&& 2047))
 obtain ⟨q, hq⟩ := exq (W (W f &&& 4503599627370495))
 have a1 := wShr52 f
 have a2 := wAnd11 (W f / 2 ^ 52)
 have a3 := wAnd52 f
 rw [← hp] at a2
 rw [← hq] at a3
 have t1 : ieq (.ofNat p) 2047 = decide (p = 2047) := jbo p 2047 2047 rfl
 have t2 : ieq (.ofNat q) 0 = decide (q = 0) := jbo q 0 0 rfl
 have hn : nb f = if p = 2047 ∧ q ≠ 0 then 9221120237041090561 else f := by rw [hp, hq]; rfl
 refine jau ?_
 rw [hn]
 by_cases h1 : p = 2047
 ·rw [rzU h1] at t1
  by_cases h2 : q = 0
  ·rw [rzU h2] at t2
   rw [if_neg (fun h => h.2 h2)]
   refine jac Tryz.func71 rfl rfl (nbl rfl) ?_
   simp only [go_sem, Tryz.ntmps71]
   repeat ((first | refine jaa rfl ?_ | refine jaj rfl ?_); (try simp only [go_sem, hc, a1, a2, a3, t1, t2]); fail_if_success refine stk ?_)
   exact jae ⟨rfl, _, by simp only [go_sem, Tryz.results71], rfl, rfl⟩
  ·rw [rzV h2] at t2
   rw [if_pos ⟨h1, h2⟩]
   refine jac Tryz.func71 rfl rfl (nbl rfl) ?_
   simp only [go_sem, Tryz.ntmps71]
   repeat ((first | refine jaa rfl ?_ | refine jaj rfl ?_); (try simp only [go_sem, hc, a1, a2, a3, t1, t2]); fail_if_success refine stk ?_)
   refine jae ?_
   refine ⟨rfl, _, ?_, rfl, rfl⟩
   simp only [go_sem, Tryz.results71]
   show some (Value.int .u64 (.ofNat 9221120237041090561)) = _
   rw [u_of (by decide)]
 ·rw [rzV h1] at t1
  rw [if_neg (fun h => h1 h.1)]
  refine jac Tryz.func71 rfl rfl (nbl rfl) ?_
  simp only [go_sem, Tryz.ntmps71]
  repeat ((first | refine jaa rfl ?_ | refine jaj rfl ?_); (try simp only [go_sem, hc, a1, a2, a3, t1, t2]); fail_if_success refine stk ?_)
  exact jae ⟨rfl, _, by simp only [go_sem, Tryz.results71], rfl, rfl⟩
theorem nb_lt {f : Nat} (hf : f < 18446744073709551616) : nb f < 18446744073709551616 := by
 unfold nb
 split
 ·decide
 ·exact hf
theorem same3_eq {X : XT} {g f h : Nat} {μ : Mem} (hX : jcB X) (hf : f < 18446744073709551616) (hh : h < 18446744073709551616) (hg : 40 ≤ g) : aFun pZ (jai pZ X S0 g) 35 [.float .f64 f, .float .f64 h] μ = some (.bool (decide (nb f = nb h)), μ) := by
 obtain ⟨k, rfl⟩ := gle hg
 have c1 : ∀ μ', aFun pZ (jai pZ X S0 (k + 37)) 71 [.float .f64 f] μ' = some (u (nb f), μ') := fun μ' => jgP hX hf (by omega)
 have c2 : ∀ μ', aFun pZ (jai pZ X S0 (k + 37)) 71 [.float .f64 h] μ' = some (u (nb h), μ') := fun μ' => jgP hX hh (by omega)
 have t1 : ieq (.ofNat (W (nb f))) (.ofNat (W (nb h))) = decide (nb f = nb h) := by rw [jbG, W_of (nb_lt hf), W_of (nb_lt hh)]
 refine jau ?_
 refine jac Tryz.func35 rfl rfl (nbl rfl) ?_
 simp only [go_sem, Tryz.ntmps35]
 repeat (refine jaz rfl ?_; (try simp only [go_sem, c1, c2, t1]); fail_if_success refine stk ?_)
 exact jae ⟨rfl, _, by simp only [go_sem, Tryz.results35], rfl, rfl⟩
theorem IsU.at {μ : Mem} {ls : List Nat} {v : Value} {k x : Nat} (h : IsU μ ls v) (hx : ls[k]? = some x) : x < 4294967296 ∧ ∃ i o c, v = .slice (some ⟨i, o, none⟩) ls.length c ∧ i < μ.next ∧ jad μ i (o + k) = some (.int .u32 (.ofNat x)) := by
 obtain ⟨hk, rfl⟩ := List.getElem?_eq_some_iff.1 hx
 refine ⟨h.1 _ (List.getElem_mem hk), ?_⟩
 rcases h.2.2 with ⟨_, rfl⟩ | ⟨i, o, c, h1, h2, _⟩
 ·simp at hk
 ·have hn : ls ≠ [] := by rintro rfl; simp at hk
  refine ⟨i, o, c, h1, (h2 hn).1, ?_⟩
  have := (h2 hn).2.cell k (by simpa using hk)
  simpa using this
theorem ix_U {ρ : Operand → Value} {a b : Operand} {i o l c k : Nat} (hk : k < l) (h1 : ρ a = .slice (some ⟨i, o, none⟩) l c) (h2 : ρ b = .int .i64 (.ofNat k)) : jal pZ ρ 23 a b = some (.pointer (some ⟨i, o + k, none⟩)) :=
 jaF (P := pZ) Tryz.underlying23 jci rfl h1 h2 hk
theorem jki {xs ys : List Nat} {v w : Value} (hlen : xs.length = ys.length) (hl : xs.length ≤ 2000000) : ∀ (j i : Nat), i + j = xs.length → (xs.take i = ys.take i) → ∀ {X : XT} {e : Nat} {tm : T Value} {μ : Mem}, IsU μ xs v → IsU μ ys w →
  jah tm 0 = v → jah tm 1 = w → jah tm 12 = .int .i64 (.ofNat xs.length) → jah tm 13 = .int .i64 (.ofNat i) →
  LpC X (e + j + 30) Tryz.f55 0 26 tm μ fun x r μ' => Grow μ μ' ∧ ∃ tm', r = ⟨26, tm', [], none⟩ ∧ ((x = .exit 0 ∧ xs = ys) ∨ (x = .ret ∧ xs ≠ ys ∧ jah tm' 4 = .bool false)) := by
 intro j
 induction j with
 | zero =>
   intro i hi ht X e tm μ hv hw h0 h1 h12 h13
   have hi : i = xs.length := hi
   have e1 : ilt (.ofNat i) (.ofNat xs.length) = false := dF (jap _ _) (by omega)
   refine jam ?_
   repeat (refine jaz rfl ?_; (try simp only [go_sem, h12, h13, e1]); fail_if_success refine stk ?_)
   refine ⟨Grow.refl _, _, rfl, .inl ⟨by trivial, ?_⟩⟩
   rw [hi, List.take_length, hlen, List.take_length] at ht
   exact ht
 | succ j ih =>
   intro i hi ht X e tm μ hv hw h0 h1 h12 h13
   have hx : i < xs.length := by omega
   have hy : i < ys.length := by omega
   have e1 : ilt (.ofNat i) (.ofNat xs.length) = true := dT (jap _ _) hx
   have a1 : jak .i64 (Int.add (.ofNat i) 1) = .ofNat (i + 1) := jaT i 1 (by omega)
   obtain ⟨bx, bi, bo, bc, hbv, hbi, hbc⟩ := hv.at (rzK hx)
   obtain ⟨cx, ci, co, cc, hcv, hci, hcc⟩ := hw.at (rzK hy)
   obtain ⟨p, hp⟩ := exq (xs[i]'hx)
   obtain ⟨q, hq⟩ := exq (ys[i]'hy)
   rw [← hp] at hbc
   rw [← hq] at hcc
   have hix : ∀ r x y, aev pZ r x = v → aev pZ r y = .int .i64 (.ofNat i) → jal pZ (aev pZ r) 23 x y = some (.pointer (some ⟨bi, bo + i, none⟩)) := fun r x y g1 g2 => ix_U hx (g1.trans hbv) g2
   have hiy : ∀ r x y, aev pZ r x = w → aev pZ r y = .int .i64 (.ofNat i) → jal pZ (aev pZ r) 23 x y = some (.pointer (some ⟨ci, co + i, none⟩)) := fun r x y g1 g2 => ix_U hy (g1.trans hcv) g2
   have hcb : ∀ m, jad ⟨μ.obs, m⟩ bi (bo + i) = some (.int .u32 (.ofNat p)) := fun m => hbc
   have hcc' : ∀ m, jad ⟨μ.obs, m⟩ ci (co + i) = some (.int .u32 (.ofNat q)) := fun m => hcc
   have hG : Grow μ ⟨μ.obs, μ.next + 9⟩ := jcu μ 9
   by_cases hpq : p = q
   ·have e2 : ieq (.ofNat p) (.ofNat q) = true := dT (jbG _ _) hpq
    have ht' : xs.take (i + 1) = ys.take (i + 1) := by
     rw [List.take_add_one, List.take_add_one, ht, rzK hx, rzK hy, ← hp, ← hq, hpq]
    refine jam ?_
    repeat (refine jaz rfl ?_; (try simp only [go_sem, h12, h13, e1]); fail_if_success refine stk ?_)
    skip
    refine jaY (n := 9) (ms := [0, 0, 3, 7, 0, 0, 48, 112, 255]) (ord := [0, 1, 2, 3, 4, 5, 6, 7, 8]) (ds := ?_) ?_ ?_ ?_ ?_ ?_ ?_
    rotate_left
    ·kernel_rfl
    ·kernel_rfl
    ·kernel_rfl
    ·rfl
    ·rfl
    repeat (first | (refine ja0 ?_ rfl ?_; (solve | simp only [go_sem, h0, h1, hix, hiy, hcb, hcc', e2])) | (refine ja5 (v := ?_) (μ' := ?_) (sn' := ?_) ?_ ?_ rfl ?_; rotate_left 3; (solve | rfl | simp only [go_sem, h0, h1, hix, hiy, hcb, hcc', e2]); (solve | simp only [jaV, heavy, jbg, jaQ, go_sem, h0, h1, hix, hiy, hcb, hcc', e2]; try exact rfl)))
    simp only [dRun, jaK, jag]
    repeat (refine jaz rfl ?_; (try simp only [go_sem, h0, h1, h12, h13, a1]); fail_if_success refine stk ?_)
    rw [(by omega : e + (j + 1) + 29 = e + j + 30)]
    refine rzM (ih (i + 1) (by omega) ht' (hv.grow hG) (hw.grow hG) (by simp only [go_sem, h0]) (by simp only [go_sem, h1]) (by simp only [go_sem, h12]) (by simp only [go_sem])) ?_
    rintro x r μ' ⟨g1, g2⟩
    exact ⟨hG.trans g1, g2⟩
   ·have e2 : ieq (.ofNat p) (.ofNat q) = false := dF (jbG _ _) hpq
    refine jam ?_
    repeat (refine jaz rfl ?_; (try simp only [go_sem, h12, h13, e1]); fail_if_success refine stk ?_)
    skip
    refine jaY (n := 9) (ms := [0, 0, 3, 7, 0, 0, 48, 112, 255]) (ord := [0, 1, 2, 3, 4, 5, 6, 7, 8]) (ds := ?_) ?_ ?_ ?_ ?_ ?_ ?_
    rotate_left
    ·kernel_rfl
    ·kernel_rfl
    ·kernel_rfl
    ·rfl
    ·rfl
    repeat (first | (refine ja0 ?_ rfl ?_; (solve | simp only [go_sem, h0, h1, hix, hiy, hcb, hcc', e2])) | (refine ja5 (v := ?_) (μ' := ?_) (sn' := ?_) ?_ ?_ rfl ?_; rotate_left 3; (solve | rfl | simp only [go_sem, h0, h1, hix, hiy, hcb, hcc', e2]); (solve | simp only [jaV, heavy, jbg, jaQ, go_sem, h0, h1, hix, hiy, hcb, hcc', e2]; try exact rfl)))
    simp only [dRun, jaK, jag]
    repeat (refine jaz rfl ?_; (try simp only [go_sem, h0, h1, h12, h13, a1]); fail_if_success refine stk ?_)
    refine jae ?_
    exact ⟨hG, _, rfl, .inr ⟨by trivial, fun e => hpq (by subst e; rw [hp, hq]), by simp only [go_sem]⟩⟩
theorem jjn {xs ys : List Nat} {v w : Value} {X : XT} {g : Nat} {μ : Mem} (hv : IsU μ xs v) (hw : IsU μ ys w) (hl : xs.length ≤ 2000000) (hg : xs.length + 100 ≤ g) : ∃ μ', aFun pZ (jai pZ X S0 g) 55 [v, w] μ = some (.bool (decide (xs = ys)), μ') ∧ Grow μ μ' := by
 obtain ⟨k, hk, rfl⟩ : ∃ k, xs.length ≤ k ∧ g = k + 100 := ⟨g - 100, by omega, by omega⟩
 have l1 := hv.len
 have l2 := hw.len
 have key : EndsF (aFun pZ (jai pZ X S0 (k + 100)) 55 [v, w] μ) fun r μ' => r = .bool (decide (xs = ys)) ∧ Grow μ μ' := by
  by_cases hlen : xs.length = ys.length
  ·have e1 : ieq (.ofNat xs.length) (.ofNat ys.length) = true := dT (jbG _ _) hlen
   refine jac Tryz.func55 rfl rfl (nbl rfl) ?_
   simp only [go_sem, Tryz.ntmps55]
   repeat (refine jaz rfl ?_; (try simp only [go_sem, l1, l2, jao, e1]); fail_if_success refine stk ?_)
   rw [(by omega : k + 95 = (k + 65 - xs.length) + xs.length + 30)]
   refine rzM (jki hlen hl xs.length 0 (rzT _) rfl hv hw (by simp only [go_sem]) (by simp only [go_sem]) (by simp only [go_sem]) (by simp only [go_sem]; try rfl)) ?_
   rintro x r μ' ⟨g1, tm', rfl, ⟨rfl, g2⟩ | ⟨rfl, g2, g3⟩⟩
   ·simp only [go_sem]
    repeat (refine jaz rfl ?_; (try simp only [go_sem]); fail_if_success refine stk ?_)
    refine jae ?_
    refine ⟨rfl, .bool true, ?_, by rw [rzU g2], g1⟩
    simp only [go_sem, Tryz.results55]
   ·simp only [jbI]
    refine ⟨rfl, .bool false, ?_, by rw [rzV g2], g1⟩
    simp only [go_sem, Tryz.results55]
    rw [g3]
  ·have e1 : ieq (.ofNat xs.length) (.ofNat ys.length) = false := dF (jbG _ _) hlen
   refine jac Tryz.func55 rfl rfl (nbl rfl) ?_
   simp only [go_sem, Tryz.ntmps55]
   repeat (refine jaz rfl ?_; (try simp only [go_sem, l1, l2, jao, e1]); fail_if_success refine stk ?_)
   refine jae ?_
   refine ⟨rfl, .bool false, ?_, by rw [rzV (fun h => hlen (by rw [h]))], Grow.refl _⟩
   simp only [go_sem, Tryz.results55]
 obtain ⟨r, μ', h1, rfl, h2⟩ := key
 exact ⟨μ', h1, h2⟩
theorem Has.c2 {μ : Mem} {i : Nat} {a b : Value} (h : Has μ i 0 [a, b]) : jad μ i 0 = some a ∧ jad μ i 1 = some b := ⟨Has.cell h 0 (by simp), Has.cell h 1 (by simp)⟩
theorem Has.c4 {μ : Mem} {i : Nat} {a b c d : Value} (h : Has μ i 0 [a, b, c, d]) : jad μ i 0 = some a ∧ jad μ i 1 = some b ∧ jad μ i 2 = some c ∧ jad μ i 3 = some d := ⟨Has.cell h 0 (by simp), Has.cell h 1 (by simp), Has.cell h 2 (by simp), Has.cell h 3 (by simp)⟩
theorem Has.c8 {μ : Mem} {i : Nat} {a b c d e f g j : Value} (h : Has μ i 0 [a, b, c, d, e, f, g, j]) : jad μ i 0 = some a ∧ jad μ i 1 = some b ∧ jad μ i 2 = some c ∧ jad μ i 3 = some d ∧ jad μ i 4 = some e ∧ jad μ i 5 = some f ∧ jad μ i 6 = some g ∧ jad μ i 7 = some j :=
 ⟨Has.cell h 0 (by simp), Has.cell h 1 (by simp), Has.cell h 2 (by simp), Has.cell h 3 (by simp), Has.cell h 4 (by simp), Has.cell h 5 (by simp), Has.cell h 6 (by simp), Has.cell h 7 (by simp)⟩
abbrev obL (t : TypeId) (l : List Value) : Ob := .cells l.length t l.toArray .e 0 0 false false
theorem jdP (μ : Mem) (t : TypeId) (l : List Value) : Has ⟨μ.obs.set μ.next (obL t l), μ.next + 1⟩ μ.next 0 l := Has.new (t := t) (fx := false) (sh := false) (by
 show T.get _ _ = _
 rw [T.get_set, if_pos rfl])
theorem has_2 (μ : Mem) (t t2 : TypeId) (l l2 : List Value) : Has ⟨(μ.obs.set μ.next (obL t l)).set (μ.next + 1) (obL t2 l2), μ.next + 1 + 1⟩ μ.next 0 l ∧ Has ⟨(μ.obs.set μ.next (obL t l)).set (μ.next + 1) (obL t2 l2), μ.next + 1 + 1⟩ (μ.next + 1) 0 l2 :=
 ⟨(jdP μ t l).keep (by show T.get _ _ = T.get _ _; rw [T.get_set, if_neg (by omega)]), jdP ⟨μ.obs.set μ.next (obL t l), μ.next + 1⟩ t2 l2⟩
theorem grow_2 (μ : Mem) (a b : Ob) : Grow μ ⟨(μ.obs.set μ.next a).set (μ.next + 1) b, μ.next + 1 + 1⟩ := (jbc μ a).trans (jbc ⟨μ.obs.set μ.next a, μ.next + 1⟩ b)
theorem jcH (a b : Value) : aBox 25 (.agg #[a, b]) = some (obL 25 [a, b], fun id => .pointer (some ⟨id, 0, none⟩)) := rfl
theorem jbW (a b c d : Value) : aBox 27 (.agg #[a, b, c, d]) = some (obL 27 [a, b, c, d], fun id => .pointer (some ⟨id, 0, none⟩)) := rfl
theorem jiG {μ : Mem} {i : Nat} {a b c d : Value} (h : Has μ i 0 [a, b, c, d]) : jbZ pZ μ 25 (.pointer (some ⟨i, 2, none⟩)) = some (.agg #[c, d]) := (Has.part (a := [a, b]) (b := [c, d]) (c := []) h rfl).load Tryz.underlying25 jiE rfl
theorem eqB {b1 b2 b : Bool} (e : (b1 == b2) = b) : ∀ (r : Rg) (d : Option Tmp) (ty : TypeId) (x y : Operand) (ps : String) (af : Array Edge) (gd : Option (Nat × Bool)), aev pZ r x = .bool b1 → aev pZ r y = .bool b2 → jaC pZ (aev pZ r) ⟨d, .binOp .eql 4 x y 4, ty, ps, af, gd⟩ = some (.bool b) := fun r d ty x y ps af gd g1 g2 => by rw [eqb g1 g2, e]
theorem same2_eq {xs ys : List Nat} {v w : Value} {p q : Bool} {X : XT} {g : Nat} {μ : Mem} (hv : IsU μ xs v) (hw : IsU μ ys w) (hl : xs.length ≤ 2000000) (hg : xs.length + 130 ≤ g) : ∃ μ', aFun pZ (jai pZ X S0 g) 36 [.agg #[.bool p, v], .agg #[.bool q, w]] μ = some (.bool ((p == q) && decide (xs = ys)), μ') ∧ Grow μ μ' := by
 obtain ⟨k, hk, rfl⟩ : ∃ k, xs.length ≤ k ∧ g = k + 130 := ⟨g - 130, by omega, by omega⟩
 obtain ⟨h1, h2⟩ := has_2 μ 25 25 [.bool p, v] [.bool q, w]
 have hG := grow_2 μ (obL 25 [.bool p, v]) (obL 25 [.bool q, w])
 obtain ⟨μ2, r1, G1⟩ := jjn (X := X) (g := k + 127) (hv.grow hG) (hw.grow hG) hl (by omega)
 obtain ⟨c10, c11⟩ := Has.c2 h1
 obtain ⟨c20, c21⟩ := Has.c2 h2
 have key : EndsF (aFun pZ (jai pZ X S0 (k + 130)) 36 [.agg #[.bool p, v], .agg #[.bool q, w]] μ) fun r μ' => r = .bool ((p == q) && decide (xs = ys)) ∧ Grow μ μ' := by
  cases e : (p == q) with
  | true =>
    have q1 := eqB e
    refine jac Tryz.func36 rfl rfl (nbl rfl) ?_
    simp only [go_sem, Tryz.ntmps36]
    repeat ((first | refine jaa rfl ?_ | refine jaj rfl ?_); (try simp only [go_sem, jcH, c10, c11, c20, c21, q1, r1]); fail_if_success refine stk ?_)
    refine jae ?_
    refine ⟨rfl, .bool (decide (xs = ys)), ?_, by rw [Bool.true_and], hG.trans G1⟩
    simp only [go_sem, Tryz.results36]
  | false =>
    have q1 := eqB e
    refine jac Tryz.func36 rfl rfl (nbl rfl) ?_
    simp only [go_sem, Tryz.ntmps36]
    repeat ((first | refine jaa rfl ?_ | refine jaj rfl ?_); (try simp only [go_sem, jcH, c10, c11, c20, c21, q1, r1]); fail_if_success refine stk ?_)
    refine jae ?_
    refine ⟨rfl, .bool false, ?_, by rw [Bool.false_and], hG⟩
    simp only [go_sem, Tryz.results36]
 obtain ⟨r, μ', h1, rfl, h2⟩ := key
 exact ⟨μ', h1, h2⟩
def jeI (fl f2 : Bool) (f h : Nat) (p q : Bool) (xs ys : List Nat) : Bool := if (fl && f2) = true then decide (nb f = nb h) else (!fl && !f2) && ((p == q) && decide (xs = ys))
theorem same4_eq {xs ys : List Nat} {v w : Value} {p q fl f2 : Bool} {f h : Nat} {X : XT} {g : Nat} {μ : Mem} (hX : jcB X) (hf : f < 18446744073709551616) (hh : h < 18446744073709551616) (hv : IsU μ xs v) (hw : IsU μ ys w) (hl : xs.length ≤ 2000000) (hg : xs.length + 160 ≤ g) :
  ∃ μ', aFun pZ (jai pZ X S0 g) 11 [.agg #[.bool fl, .float .f64 f, .bool p, v], .agg #[.bool f2, .float .f64 h, .bool q, w]] μ = some (.bool (jeI fl f2 f h p q xs ys), μ') ∧ Grow μ μ' := by
 obtain ⟨k, hk, rfl⟩ : ∃ k, xs.length ≤ k ∧ g = k + 160 := ⟨g - 160, by omega, by omega⟩
 obtain ⟨h1, h2⟩ := has_2 μ 27 27 [.bool fl, .float .f64 f, .bool p, v] [.bool f2, .float .f64 h, .bool q, w]
 have hG := grow_2 μ (obL 27 [.bool fl, .float .f64 f, .bool p, v]) (obL 27 [.bool f2, .float .f64 h, .bool q, w])
 obtain ⟨μ2, r1, G1⟩ := same2_eq (X := X) (p := p) (q := q) (g := k + 156) (hv.grow hG) (hw.grow hG) hl (by omega)
 have r2 : ∀ μ', aFun pZ (jai pZ X S0 (k + 154)) 35 [.float .f64 f, .float .f64 h] μ' = some (.bool (decide (nb f = nb h)), μ') := fun μ' => same3_eq hX hf hh (by omega)
 have l1 := jiG h1
 have l2 := jiG h2
 obtain ⟨c10, c11, c12, c13⟩ := Has.c4 h1
 obtain ⟨c20, c21, c22, c23⟩ := Has.c4 h2
 have key : EndsF (aFun pZ (jai pZ X S0 (k + 160)) 11 [.agg #[.bool fl, .float .f64 f, .bool p, v], .agg #[.bool f2, .float .f64 h, .bool q, w]] μ) fun r μ' => r = .bool (jeI fl f2 f h p q xs ys) ∧ Grow μ μ' := by
  cases fl <;> cases f2
  ·skip
   refine jac Tryz.func11 rfl rfl (nbl rfl) ?_
   simp only [go_sem, Tryz.ntmps11]
   repeat ((first | refine jaa rfl ?_ | refine jaj rfl ?_); (try simp only [go_sem, jbW, c10, c11, c20, c21, l1, l2, r2, r1]); fail_if_success refine stk ?_)
   exact jae ⟨rfl, .bool ((p == q) && decide (xs = ys)), by simp only [go_sem, Tryz.results11], by simp [jeI], hG.trans G1⟩
  ·skip
   refine jac Tryz.func11 rfl rfl (nbl rfl) ?_
   simp only [go_sem, Tryz.ntmps11]
   repeat ((first | refine jaa rfl ?_ | refine jaj rfl ?_); (try simp only [go_sem, jbW, c10, c11, c20, c21, l1, l2, r2, r1]); fail_if_success refine stk ?_)
   exact jae ⟨rfl, .bool false, by simp only [go_sem, Tryz.results11], by simp [jeI], hG⟩
  ·skip
   refine jac Tryz.func11 rfl rfl (nbl rfl) ?_
   simp only [go_sem, Tryz.ntmps11]
   repeat ((first | refine jaa rfl ?_ | refine jaj rfl ?_); (try simp only [go_sem, jbW, c10, c11, c20, c21, l1, l2, r2, r1]); fail_if_success refine stk ?_)
   exact jae ⟨rfl, .bool false, by simp only [go_sem, Tryz.results11], by simp [jeI], hG⟩
  ·skip
   refine jac Tryz.func11 rfl rfl (nbl rfl) ?_
   simp only [go_sem, Tryz.ntmps11]
   repeat ((first | refine jaa rfl ?_ | refine jaj rfl ?_); (try simp only [go_sem, jbW, c10, c11, c20, c21, l1, l2, r2, r1]); fail_if_success refine stk ?_)
   exact jae ⟨rfl, .bool (decide (nb f = nb h)), by simp only [go_sem, Tryz.results11], by simp [jeI], hG⟩
 obtain ⟨r, μ', h1, rfl, h2⟩ := key
 exact ⟨μ', h1, h2⟩
def Lv (μ : Mem) (v : Value) (ls : List Nat) : Prop := (v = .slice none 0 0 ∧ ls = []) ∨ ∃ i c m z ov fx sh, v = .slice (some ⟨i, 0, none⟩) ls.length c ∧ μ.obs.get i = some (.cells m 73 z ov 0 0 fx sh) ∧ ls.length ≤ m ∧ i < μ.next ∧ (∀ (k : Nat) x, ls[k]? = some x → x < 4294967296 ∧ cellAt z ov k = .int .u32 (.ofNat x)) ∧ Cap ls.length c
theorem Lv.grow {μ μ' : Mem} {v : Value} {ls : List Nat} (h : Lv μ v ls) (g : Grow μ μ') : Lv μ' v ls := by
 rcases h with h | ⟨i, c, m, z, ov, fx, sh, h1, h2, h3, h4, h5, h6⟩
 ·exact .inl h
 ·exact .inr ⟨i, c, m, z, ov, fx, sh, h1, (g.2 i h4).trans h2, h3, rzO h4 g.1, h5, h6⟩
theorem Lv.rd {μ : Mem} {v : Value} {ls : List Nat} (h : Lv μ v ls) : Rd μ v ls.length := by
 rcases h with ⟨h1, rfl⟩ | ⟨i, c, m, z, ov, fx, sh, h1, h2, h3, h4, h5, h6⟩
 ·exact .inl ⟨h1, rfl⟩
 ·refine .inr ⟨i, c, m, z, ov, fx, sh, h1, h2, h3, h4, fun k hk => ?_, h6⟩
  obtain ⟨h7, h8⟩ := h5 k _ (rzK hk)
  exact ⟨_, h7, h8⟩
theorem Lv.isU {μ : Mem} {v : Value} {ls : List Nat} (h : Lv μ v ls) (hl : ls.length ≤ maxLen) : IsU μ ls v := by
 rcases h with ⟨h1, rfl⟩ | ⟨i, c, m, z, ov, fx, sh, h1, h2, h3, h4, h5, h6⟩
 ·exact ⟨(by intro x h; cases h), hl, .inl ⟨h1, rfl⟩⟩
 ·refine ⟨fun x hx => ?_, hl, .inr ⟨i, 0, c, h1, fun _ => ⟨h4, m, z, ov, by rw [h2]; rfl, by simp; omega, fun k hk => ?_⟩, h6⟩⟩
  ·obtain ⟨k, hk, rfl⟩ := List.mem_iff_getElem.1 hx
   exact (h5 k _ (rzK hk)).1
  ·have hk' : k < ls.length := by simpa using hk
   rw [rzT, (h5 k _ (rzK hk')).2]
   simp
theorem Lv.take {μ : Mem} {v : Value} {ls : List Nat} {k : Nat} (h : Lv μ v ls) (hk : k ≤ ls.length) : ∃ v', (∀ (ρ : Operand → Value) (x y : Operand), ρ x = v → ρ y = .int .i64 (.ofNat k) → jaJ pZ ρ 23 x none (some y) none = some v') ∧ Lv μ v' (ls.take k) ∧ ∀ i, SlAt v' i → SlAt v i := by
 have hlen : (ls.take k).length = k := by rw [List.length_take]; omega
 rcases h with ⟨rfl, rfl⟩ | ⟨i, c, m, z, ov, fx, sh, rfl, h2, h3, h4, h5, h6⟩
 ·obtain rfl : k = 0 := by simpa using hk
  refine ⟨.slice none 0 0, fun ρ x y hx hy => ?_, .inl ⟨rfl, rfl⟩, fun i hi => hi⟩
  unfold jaJ
  simp only [hx, Tryz.underlying23, jci, ja2, jbl, hy]
  try rfl
 ·refine ⟨.slice (some ⟨i, 0, none⟩) k c, fun ρ x y hx hy => ?_, .inr ⟨i, c, m, z, ov, fx, sh, by rw [hlen], h2, by omega, h4, fun j x hj => ?_, by rw [hlen]; unfold Cap at h6 ⊢; omega⟩, fun j hj => by
   obtain ⟨l', c', hv⟩ := hj
   injection hv with e1 e2 e3
   rw [e1]
   exact ⟨_, c, rfl⟩⟩
  ·unfold jaJ
   rcases h6 with ⟨g1, g2⟩ | ⟨g1, g2⟩
   ·have e1 : Nat.beq (Nat.mod c 2) 0 = true := by rw [show Nat.mod c 2 = 0 from g1]; rfl
    have e3 : Nat.ble k (Nat.div c 2) = true := rzP (by show k ≤ c / 2; omega)
    simp only [hx, Tryz.underlying23, jci, e1, ja2, jbl, hy, e3]
    have e4 : Addr.add ⟨i, 0, none⟩ (Nat.mul 0 Tryz.t73.size) = ⟨i, 0, none⟩ := by rw [show Nat.mul 0 Tryz.t73.size = 0 from Nat.zero_mul _]; rfl
    have e5 : Nat.mul 2 (Nat.sub (Nat.div c 2) 0) = c := by show 2 * (c / 2 - 0) = c; omega
    have e6 : Nat.sub k 0 = k := rfl
    cases Nat.beq (Nat.div c 2) 0 <;> simp only [e4, e5, e6]
   ·have e1 : Nat.beq (Nat.mod c 2) 0 = false := by rw [show Nat.mod c 2 = 1 from g1]; rfl
    have e3 : Nat.ble k ls.length = true := rzP hk
    simp only [hx, Tryz.underlying23, jci, e1, ja2, jbl, hy, e3]
    try rfl
  ·refine h5 j x ?_
   rw [List.getElem?_take] at hj
   split at hj
   ·exact hj
   ·cases hj
theorem Lv.at {μ : Mem} {v : Value} {ls : List Nat} {k x : Nat} (h : Lv μ v ls) (hx : ls[k]? = some x) : ∃ i c, v = .slice (some ⟨i, 0, none⟩) ls.length c ∧ x < 4294967296 ∧ jad μ i k = some (.int .u32 (.ofNat x)) := by
 have hk : k < ls.length := (List.getElem?_eq_some_iff.1 hx).1
 rcases h with ⟨_, rfl⟩ | ⟨i, c, m, z, ov, fx, sh, h1, h2, h3, h4, h5, h6⟩
 ·simp at hx
 ·obtain ⟨h7, h8⟩ := h5 k x hx
  refine ⟨i, c, h1, h7, ?_⟩
  unfold jad
  rw [h2]
  show (if k < m then some (cellAt z ov k) else none) = _
  rw [if_pos (by omega), h8]
theorem src_has {μ : Mem} {i o n c : Nat} {l : List Value} (h : Has μ i o l) (hn : 0 < l.length) : jaU μ 1 l.length (.slice (some ⟨i, o, none⟩) n c) = some l := by
 obtain ⟨m, z, ov, h1, h2, h3⟩ := h
 unfold jaU
 obtain ⟨k, hk⟩ : ∃ k, l.length = k + 1 := ⟨l.length - 1, by omega⟩
 have e0 : Nat.mul l.length 1 = k + 1 := by rw [show Nat.mul l.length 1 = l.length from Nat.mul_one _, hk]
 have hb : Nat.ble (Nat.add o (k + 1)) m = true := rzP (by show o + (k + 1) ≤ m; omega)
 have hc : jat z ov o (k + 1) = l := jbe _ _ _ hk h3
 simp only [e0]
 cases hob : μ.obs.get i with
 | none => rw [hob] at h1; cases h1
 | some ob =>
   rw [hob] at h1
   cases ob <;> first | (cases h1; simp only [hb, hc]) | cases h1
theorem IsU.src {μ : Mem} {ls : List Nat} {v : Value} (h : IsU μ ls v) : jaU μ 1 ls.length v = some (ls.map fun x => .int .u32 (.ofNat x)) := by
 rcases h with ⟨_, _, ⟨rfl, rfl⟩ | ⟨i, o, c, rfl, h2, _⟩⟩
 ·rfl
 ·by_cases hn : ls = []
  ·subst hn; rfl
  ·have := src_has (n := ls.length) (c := c) (h2 hn).2 (by rw [List.length_map]; exact List.length_pos_iff.2 hn)
   rw [List.length_map] at this
   exact this
theorem appendU {μ : Mem} {v : Value} {ls : List Nat} (h : IsU μ ls v) (hn : ls.length ≤ 2000000) : ∃ v' μ', jaM pZ ⟨μ.obs.set μ.next ob0, Nat.add μ.next 1⟩ 23 23 (.slice (some ⟨μ.next, 0, none⟩) 0 0) v = some (v', μ') ∧ Lv μ' v' ls ∧ Grow μ μ' ∧ New μ v' := by
 have hg1 : Grow μ ⟨μ.obs.set μ.next ob0, Nat.add μ.next 1⟩ := jbc μ _
 have h1 := h.grow hg1
 have hs := h1.src
 have hlt := h.1
 obtain ⟨xs, hxs⟩ := exq (ls.map fun x => .int .u32 (.ofNat x) : List Value)
 rw [← hxs] at hs
 have hl : xs.length = ls.length := by rw [hxs, List.length_map]
 have hlen : lenV v = some ls.length := by
  rcases h with ⟨_, _, ⟨rfl, rfl⟩ | ⟨i, o, c, rfl, _⟩⟩ <;> rfl
 have hat : ∀ (k : Nat) x, ls[k]? = some x → x < 4294967296 ∧ cellAt xs.toArray .e k = .int .u32 (.ofNat x) := fun k x hk => by
  obtain ⟨hk', rfl⟩ := List.getElem?_eq_some_iff.1 hk
  refine ⟨hlt _ (List.getElem_mem _), ?_⟩
  rw [ja3 xs k (by omega)]
  simp [hxs]
 have e1 : Nat.ble Tryz.t73.bytes 4096 = true := by kernel_rfl
 have e2 : Nat.beq (jaS (.int .u32 0)).length 1 = true := by kernel_rfl
 have e3 : Nat.ble ls.length 67108864 = true := rzP (by omega)
 have e4 : Tryz.t73.size = 1 := by kernel_rfl
 have e5 : Nat.beq xs.length (Nat.mul ls.length 1) = true := by rw [hl, show Nat.mul ls.length 1 = ls.length from Nat.mul_one _]; exact Nat.beq_refl _
 obtain ⟨n, hn'⟩ := exq (ls.length)
 rw [← hn'] at hs hlen e3 e5 hn hl
 have hap : jaM pZ ⟨μ.obs.set μ.next ob0, Nat.add μ.next 1⟩ 23 23 (.slice (some ⟨μ.next, 0, none⟩) 0 0) v = ja8 pZ ⟨μ.obs.set μ.next ob0, Nat.add μ.next 1⟩ 73 1 n xs (.slice (some ⟨μ.next, 0, none⟩) 0 0) := by
  unfold jaM
  simp only [Tryz.underlying23, jci, e1, jg5, e4, e2, hlen, e3, hs, e5]
 rw [hap]
 unfold ja8
 have e6 : Nat.ble (Nat.add 0 n) 67108864 = true := rzP (by show 0 + n ≤ _; omega)
 simp only [e6]
 cases n with
 | zero =>
   obtain rfl : ls = [] := List.eq_nil_of_length_eq_zero hn'.symm
   obtain rfl : xs = [] := List.eq_nil_of_length_eq_zero hl
   refine ⟨_, _, rfl, .inr ⟨μ.next, 0, 0, #[], .e, false, false, rfl, by show T.get _ _ = _; rw [T.get_set, if_pos rfl]; rfl, rzN _, rzQ _, fun k x hk => by simp at hk, .inl ⟨rfl, rzN _⟩⟩, hg1, New.mk (rzN _)⟩
 | succ n =>
   have e7 : Nat.ble (Nat.add 0 (n + 1)) (Nat.div 0 2) = false := by
    cases hb : Nat.ble (Nat.add 0 (n + 1)) (Nat.div 0 2) with
    | false => rfl
    | true => have := rzE hb; have h0 : Nat.div 0 2 = 0 := rfl; rw [h0] at this; have : 0 + (n + 1) ≤ 0 := this; omega
   simp only [show Nat.beq (Nat.mod 0 2) 0 = true from rfl, e7]
   refine ⟨_, _, rfl, .inr ⟨μ.next + 1, 3, xs.length, xs.toArray, .e, true, false, ?_, ?_, by omega, ?_, hat, .inr ⟨rfl, rfl⟩⟩, ?_, New.mk (Nat.le_succ _)⟩
   ·show Value.slice (some ⟨Nat.add μ.next 1, 0, none⟩) (Nat.add 0 (n + 1)) _ = _
    rw [show Nat.add 0 (n + 1) = n + 1 from rzT _, hn']
   ·show T.get (T.set _ (Nat.add μ.next 1) _) _ = _
    rw [T.get_set, if_pos rfl]
    rfl
   ·show μ.next + 1 < μ.next + 1 + 1; omega
   ·refine ⟨?_, fun i hi => ?_⟩
    ·show μ.next ≤ μ.next + 1 + 1; omega
    ·show T.get (T.set (T.set _ _ _) (Nat.add μ.next 1) _) i = _
     rw [T.get_set, if_neg (by show i ≠ μ.next + 1; omega), T.get_set, if_neg (by omega)]
def trN (ls : List Nat) : Nat → Nat
 | 0 => 0
 | n + 1 => if ls.getD n 0 = 0 then trN ls n else n + 1
theorem trN_le (ls : List Nat) : ∀ n, trN ls n ≤ n
 | 0 => rzN _
 | n + 1 => by
   unfold trN
   split
   ·exact Nat.le_succ_of_le (trN_le ls n)
   ·exact rzN _
def ja6 (ls : List Nat) : List Nat := ls.take (trN ls ls.length)
theorem jih {ls : List Nat} : ∀ n, n ≤ ls.length → n ≤ 2000000 → ∀ {X : XT} {e : Nat} {tm : T Value} {v : Value} {μ : Mem}, Lv μ v (ls.take n) → jah tm 3 = v →
  LpC X (e + n + 20) Tryz.f56 0 25 tm μ fun x r μ' => x = .exit 0 ∧ μ' = μ ∧ ∃ tm' v', r = ⟨25, tm', [], none⟩ ∧ Lv μ v' (ls.take (trN ls n)) ∧ jah tm' 3 = v' ∧ ∀ i, SlAt v' i → SlAt v i := by
 intro n
 induction n with
 | zero =>
   intro hn hn2 X e tm v μ h h3
   have lv := h.rd.len
   have e1 : ilt 0 (.ofNat (ls.take 0).length) = false := rfl
   refine jam ?_
   repeat ((first | refine jaa rfl ?_ | refine jaj rfl ?_); (try simp only [go_sem, h3, lv, jao, e1]); fail_if_success refine stk ?_)
   exact ⟨by trivial, by trivial, _, v, rfl, h, by simp only [go_sem, h3], fun i hi => hi⟩
 | succ n ih =>
   intro hn hn2 X e tm v μ h h3
   have hlen : (ls.take (n + 1)).length = n + 1 := by rw [List.length_take]; omega
   have lv := h.rd.len
   rw [hlen] at lv
   obtain ⟨v', hsl, hR', hS'⟩ := h.take (k := n) (by omega)
   rw [List.take_take, Nat.min_eq_left (Nat.le_succ n)] at hR'
   obtain ⟨a, ha0⟩ : ∃ a, ls[n]? = some a := ⟨_, rzK (by omega)⟩
   obtain ⟨bi, c, hv, ha, hc⟩ := h.at (k := n) (x := a) (by rw [List.getElem?_take, if_pos (rzQ n)]; exact ha0)
   rw [hlen] at hv
   have hgd : ls.getD n 0 = a := by rw [List.getD_eq_getElem?_getD, ha0]; rfl
   have e1 : ilt 0 (.ofNat (n + 1)) = true := dT (jap 0 (n + 1)) (rzW n)
   have q1 : jak .i64 (Int.sub (.ofNat (n + 1)) 1) = .ofNat n := jaZ (n + 1) 1 (by omega) (by omega)
   have hix : ∀ rg a b, aev pZ rg a = v → aev pZ rg b = .int .i64 (.ofNat n) → jal pZ (aev pZ rg) 23 a b = some (.pointer (some ⟨bi, n, none⟩)) := fun rg a b g1 g2 => by
    rw [hv] at g1
    rw [jaF (P := pZ) Tryz.underlying23 jci rfl g1 g2 (by omega), rzT]
   have hsl : ∀ rg x y, aev pZ rg x = v → aev pZ rg y = .int .i64 (.ofNat n) → jaJ pZ (aev pZ rg) 23 x none (some y) none = some v' := fun rg x y g1 g2 => hsl _ x y g1 g2
   by_cases hz : a = 0
   ·have e2 : ieq (.ofNat a) 0 = true := dT (jbo _ 0 0 rfl) hz
    have et : trN ls (n + 1) = trN ls n := by rw [trN, hgd, if_pos hz]
    rw [et]
    refine jam ?_
    repeat ((first | refine jaa rfl ?_ | refine jaj rfl ?_); (try simp only [go_sem, h3, lv, jao, e1, q1, hix, hc, e2, hsl]); fail_if_success refine stk ?_)
    rw [(by omega : e + (n + 1) + 19 = e + n + 20)]
    refine rzM (ih (by omega) (by omega) hR' (by simp only [go_sem])) ?_
    rintro x r μ' ⟨g1, g2, tm', w, g3, g5, g6, g7⟩
    exact ⟨g1, g2, tm', w, g3, g5, g6, fun i hi => hS' i (g7 i hi)⟩
   ·have e2 : ieq (.ofNat a) 0 = false := dF (jbo _ 0 0 rfl) hz
    have et : trN ls (n + 1) = n + 1 := by rw [trN, hgd, if_neg hz]
    rw [et]
    refine jam ?_
    repeat ((first | refine jaa rfl ?_ | refine jaj rfl ?_); (try simp only [go_sem, h3, lv, jao, e1, q1, hix, hc, e2]); fail_if_success refine stk ?_)
    exact ⟨by trivial, by trivial, _, v, rfl, h, by simp only [go_sem, h3], fun i hi => hi⟩
theorem jdV {X : XT} {g : Nat} {ls : List Nat} {v : Value} {μ : Mem} (h : IsU μ ls v) (hn : ls.length ≤ 2000000) (hg : ls.length + 100 ≤ g) : ∃ v' μ', aFun pZ (jai pZ X S0 g) 56 [v] μ = some (v', μ') ∧ Lv μ' v' (ja6 ls) ∧ Grow μ μ' ∧ New μ v' := by
 obtain ⟨k, hk, rfl⟩ : ∃ k, ls.length ≤ k ∧ g = k + 100 := ⟨g - 100, by omega, by omega⟩
 obtain ⟨v1, μ1, hap, hR, hG, hN⟩ := appendU h hn
 have key : EndsF (aFun pZ (jai pZ X S0 (k + 100)) 56 [v] μ) fun w μ' => Lv μ' w (ja6 ls) ∧ Grow μ μ' ∧ New μ w := by
  refine jac Tryz.func56 rfl rfl (nbl rfl) ?_
  simp only [go_sem, Tryz.ntmps56]
  repeat (refine jaz rfl ?_; (try simp only [go_sem, bs0, hap]); fail_if_success refine stk ?_)
  rw [(by omega : k + 96 = (k + 76 - ls.length) + ls.length + 20)]
  refine rzM (jih (ls := ls) ls.length (rzN _) (by omega) (by rw [List.take_length]; exact hR) (by simp only [go_sem])) ?_
  rintro x r μ' ⟨rfl, rfl, tm', v', rfl, hR', h3, hS⟩
  simp only [go_sem]
  repeat (refine jaz rfl ?_; (try simp only [go_sem, h3]); fail_if_success refine stk ?_)
  exact jae ⟨rfl, v', by simp only [go_sem, Tryz.results56], hR', hG, fun i hi => hN i (hS i hi)⟩
 obtain ⟨w, μ', h1, h2⟩ := key
 exact ⟨w, μ', h1, h2⟩
@[go_sem] def gg104 {X ev} := gC X ev Tryz.func104 rfl rfl
@[go_sem] def gg63 {X ev} := gC X ev Tryz.func63 rfl rfl
def lval : List Nat → Nat
 | [] => 0
 | x :: r => x + 4294967296 * lval r
theorem jix (a b : List Nat) : lval (a ++ b) = lval a + 4294967296 ^ a.length * lval b := by
 induction a with
 | nil => simp [lval]
 | cons x r ih =>
   simp only [List.cons_append, lval, List.length_cons, ih, Nat.pow_succ]
   rw [Nat.mul_add, ← Nat.mul_assoc, Nat.mul_comm 4294967296 (4294967296 ^ r.length), Nat.add_assoc]
theorem jjC (ls : List Nat) : ∀ n, n ≤ ls.length → lval (ls.take (trN ls n)) = lval (ls.take n)
 | 0, _ => rfl
 | n + 1, h => by
   unfold trN
   split
   ·rename_i h0
    rw [jjC ls n (by omega), List.take_add_one, rzK (by omega)]
    have e : ls[n]'(by omega) = 0 := by
     rw [List.getD_eq_getElem?_getD, rzK (by omega)] at h0
     exact h0
    rw [e, jix]
    simp [lval]
   ·rfl
theorem jct (ls : List Nat) : lval (ja6 ls) = lval ls := by
 unfold ja6
 rw [jjC ls ls.length (rzN _), List.take_length]
def jdT (ls : List Nat) : Prop := ∀ x, ls.getLast? = some x → x ≠ 0
theorem jjh (ls : List Nat) : ∀ n, n ≤ ls.length → jdT (ls.take (trN ls n))
 | 0, _ => by intro x h; simp [trN] at h
 | n + 1, h => by
   unfold trN
   split
   ·exact jjh ls n (by omega)
   ·rename_i h0
    intro x hx
    rw [List.getLast?_eq_getElem?, List.length_take, show min (n + 1) ls.length - 1 = n from by omega, List.getElem?_take, if_pos (rzQ n)] at hx
    rw [List.getD_eq_getElem?_getD, hx] at h0
    exact h0
theorem jcD (ls : List Nat) : jdT (ja6 ls) := jjh ls ls.length (rzN _)
theorem jeT {ls : List Nat} {x : Nat} (h : x ∈ ja6 ls) : x ∈ ls := List.mem_of_mem_take h
theorem je0 : ∀ {a b : List Nat}, (∀ x ∈ a, x < 4294967296) → (∀ x ∈ b, x < 4294967296) → jdT a → jdT b → lval a = lval b → a = b
 | [], [], _, _, _, _, _ => rfl
 | [], y :: s, _, hb, _, tb, h => by
   exfalso
   have : ∀ (l : List Nat), l ≠ [] → (∀ x, l.getLast? = some x → x ≠ 0) → 0 < lval l := by
    intro l
    induction l with
    | nil => intro h; exact absurd rfl h
    | cons z r ih =>
      intro _ ht
      cases r with
      | nil => have := ht z rfl; simp only [lval]; omega
      | cons w q =>
        have := ih (by simp) (fun x hx => ht x (by simpa using hx))
        simp only [lval] at this ⊢
        omega
   have := this (y :: s) (by simp) tb
   rw [← h] at this
   exact absurd this (by simp [lval])
 | x :: r, [], ha, _, ta, _, h => by
   exfalso
   have : ∀ (l : List Nat), l ≠ [] → (∀ x, l.getLast? = some x → x ≠ 0) → 0 < lval l := by
    intro l
    induction l with
    | nil => intro h; exact absurd rfl h
    | cons z r ih =>
      intro _ ht
      cases r with
      | nil => have := ht z rfl; simp only [lval]; omega
      | cons w q =>
        have := ih (by simp) (fun x hx => ht x (by simpa using hx))
        simp only [lval] at this ⊢
        omega
   have := this (x :: r) (by simp) ta
   rw [h] at this
   exact absurd this (by simp [lval])
 | x :: r, y :: s, ha, hb, ta, tb, h => by
   have hx := ha x (List.mem_cons_self ..)
   have hy := hb y (List.mem_cons_self ..)
   simp only [lval] at h
   have e1 : x = y := by omega
   have e2 : lval r = lval s := by omega
   have tl : ∀ {z : Nat} {q : List Nat}, jdT (z :: q) → jdT q := fun {z q} t w hw => by
    cases q with
    | nil => cases hw
    | cons p q => exact t w (by simpa using hw)
   rw [e1, je0 (fun z hz => ha z (List.mem_cons_of_mem _ hz)) (fun z hz => hb z (List.mem_cons_of_mem _ hz)) (tl ta) (tl tb) e2]
theorem cloneU {X : XT} {g : Nat} {ls : List Nat} {v : Value} {μ : Mem} (h : IsU μ ls v) (hn : ls.length ≤ 2000000) (hg : 20 ≤ g) : ∃ v' μ', aFun pZ (jai pZ X S0 g) 139 [v] μ = some (v', μ') ∧ Lv μ' v' ls ∧ Grow μ μ' := by
 obtain ⟨k, rfl⟩ := gle hg
 obtain ⟨v', μ1, hap, hR, hG, _⟩ := appendU h hn
 have key : EndsF (aFun pZ (jai pZ X S0 (k + 20)) 139 [v] μ) fun w μ' => Lv μ' w ls ∧ Grow μ μ' := by
  rcases h with ⟨_, _, ⟨rfl, rfl⟩ | ⟨i, o, c, rfl, _⟩⟩
  ·skip
   refine jac Tryz.func139 rfl rfl (nbl rfl) ?_
   simp only [go_sem, Tryz.ntmps139]
   repeat (refine jaz rfl ?_; (try simp only [go_sem, an5, p_sl]); fail_if_success refine stk ?_)
   exact jae ⟨rfl, .slice none 0 0, by simp only [go_sem, Tryz.results139], .inl ⟨rfl, rfl⟩, Grow.refl _⟩
  ·skip
   refine jac Tryz.func139 rfl rfl (nbl rfl) ?_
   simp only [go_sem, Tryz.ntmps139]
   repeat (refine jaz rfl ?_; (try simp only [go_sem, an4, bs0, hap]); fail_if_success refine stk ?_)
   exact jae ⟨rfl, v', by simp only [go_sem, Tryz.results139], hR, hG⟩
 obtain ⟨w, μ', h1, h2, h3⟩ := key
 exact ⟨w, μ', h1, h2, h3⟩
theorem jj8 {ls : List Nat} (hn : ls.length ≤ 2000000) : ∀ k, k ≤ ls.length → ∀ {X : XT} {e : Nat} {tm : T Value} {v : Value} {μ : Mem}, Lv μ v ls → jah tm 0 = v → jah tm 3 = .int .i64 (.ofNat k) →
  LpC X (e + k + 20) Tryz.f101 0 22 tm μ fun x r μ' => x = .exit 0 ∧ μ' = μ ∧ ∃ tm', r = ⟨22, tm', [], none⟩ ∧ jah tm' 0 = v ∧ jah tm' 3 = .int .i64 (.ofNat (trN ls k)) := by
 intro k
 induction k with
 | zero =>
   intro hk X e tm v μ h h0 h3
   have e1 : ilt 0 (.ofNat 0) = false := rfl
   refine jam ?_
   repeat ((first | refine jaa rfl ?_ | refine jaj rfl ?_); (try simp only [go_sem, h0, h3, e1]); fail_if_success refine stk ?_)
   exact ⟨by trivial, by trivial, _, rfl, by simp only [go_sem, h0], by simp only [go_sem, h3]; rfl⟩
 | succ k ih =>
   intro hk X e tm v μ h h0 h3
   obtain ⟨a, ha0⟩ : ∃ a, ls[k]? = some a := ⟨_, rzK (by omega)⟩
   obtain ⟨bi, c, hv, ha, hc⟩ := h.at ha0
   have hgd : ls.getD k 0 = a := by rw [List.getD_eq_getElem?_getD, ha0]; rfl
   have e1 : ilt 0 (.ofNat (k + 1)) = true := dT (jap 0 (k + 1)) (rzW k)
   have q1 : jak .i64 (Int.sub (.ofNat (k + 1)) 1) = .ofNat k := jaZ (k + 1) 1 (by omega) (by omega)
   have hix : ∀ rg a b, aev pZ rg a = v → aev pZ rg b = .int .i64 (.ofNat k) → jal pZ (aev pZ rg) 23 a b = some (.pointer (some ⟨bi, k, none⟩)) := fun rg a b g1 g2 => by
    rw [hv] at g1
    rw [jaF (P := pZ) Tryz.underlying23 jci rfl g1 g2 (by omega), rzT]
   by_cases hz : a = 0
   ·have e2 : ieq (.ofNat a) 0 = true := dT (jbo _ 0 0 rfl) hz
    have et : trN ls (k + 1) = trN ls k := by rw [trN, hgd, if_pos hz]
    rw [et]
    refine jam ?_
    repeat ((first | refine jaa rfl ?_ | refine jaj rfl ?_); (try simp only [go_sem, h0, h3, e1, q1, hix, hc, e2]); fail_if_success refine stk ?_)
    rw [(by omega : e + (k + 1) + 19 = e + k + 20)]
    exact ih (by omega) h (by simp only [go_sem, h0]) (by simp only [go_sem])
   ·have e2 : ieq (.ofNat a) 0 = false := dF (jbo _ 0 0 rfl) hz
    have et : trN ls (k + 1) = k + 1 := by rw [trN, hgd, if_neg hz]
    rw [et]
    refine jam ?_
    repeat ((first | refine jaa rfl ?_ | refine jaj rfl ?_); (try simp only [go_sem, h0, h3, e1, q1, hix, hc, e2]); fail_if_success refine stk ?_)
    exact ⟨by trivial, by trivial, _, rfl, by simp only [go_sem, h0], by simp only [go_sem, h3]⟩
theorem jjf {X : XT} {g : Nat} {ls : List Nat} {v : Value} {μ : Mem} (h : Lv μ v ls) (hn : ls.length ≤ 1000) (hg : ls.length + 100 ≤ g) : ∃ v' μ', aFun pZ (jai pZ X S0 g) 101 [v] μ = some (v', μ') ∧ Lv μ' v' (ja6 ls) ∧ Grow μ μ' := by
 obtain ⟨k, hk, rfl⟩ : ∃ k, ls.length ≤ k ∧ g = k + 100 := ⟨g - 100, by omega, by omega⟩
 have lv := h.rd.len
 obtain ⟨v1, hsl, hR1, _⟩ := h.take (trN_le ls ls.length)
 have hsl : ∀ rg x y, aev pZ rg x = v → aev pZ rg y = .int .i64 (.ofNat (trN ls ls.length)) → jaJ pZ (aev pZ rg) 23 x none (some y) none = some v1 := fun rg x y g1 g2 => hsl _ x y g1 g2
 have hm : maxLen = 281474976710656 ∨ 1000 ≤ maxLen := .inr (by decide)
 have hlt : (ls.take (trN ls ls.length)).length ≤ 1000 := by rw [List.length_take]; omega
 obtain ⟨v2, μ2, hr, hR2, hG⟩ := cloneU (X := X) (g := k + 95) (hR1.isU (by rcases hm with h | h <;> omega)) (by omega) (by omega)
 have key : EndsF (aFun pZ (jai pZ X S0 (k + 100)) 101 [v] μ) fun w μ' => Lv μ' w (ja6 ls) ∧ Grow μ μ' := by
  refine jac Tryz.func101 rfl rfl (nbl rfl) ?_
  simp only [go_sem, Tryz.ntmps101]
  repeat (refine jaz rfl ?_; (try simp only [go_sem, lv, jao]); fail_if_success refine stk ?_)
  rw [(by omega : k + 96 = (k + 76 - ls.length) + ls.length + 20)]
  refine rzM (jj8 (ls := ls) (by omega) ls.length (rzN _) h (by simp only [go_sem]) (by simp only [go_sem])) ?_
  rintro x r μ' ⟨rfl, rfl, tm', rfl, h0, h3⟩
  simp only [go_sem]
  repeat (refine jaz rfl ?_; (try simp only [go_sem, h0, h3, hsl, hr]); fail_if_success refine stk ?_)
  exact jae ⟨rfl, v2, by simp only [go_sem, Tryz.results101], hR2, hG⟩
 obtain ⟨w, μ', h1, h2, h3⟩ := key
 exact ⟨w, μ', h1, h2, h3⟩
def ob2 (x y : Int) : Ob := .cells 2 73 #[.int .u32 x, .int .u32 y] .e 0 0 false false
theorem bs2 (ρ : Operand → Value) (a b : Operand) (x y : Int) (ha : ρ a = .int .u32 x) (hb : ρ b = .int .u32 y) : jas pZ ρ 23 2 #[(0, a), (1, b)] = some (ob2 x y, fun id => .slice (some ⟨id, 0, none⟩) 2 4) := by
 unfold jas
 simp only [Tryz.underlying23, jci, jg5]
 show (match jcC _ [.int .u32 0, .int .u32 0] [(0, ρ a), (1, ρ b)] with | some cs => _ | none => none) = _
 rw [ha, hb]
 rfl
theorem lv_2 {μ : Mem} {x y : Nat} (hx : x < 4294967296) (hy : y < 4294967296) : Lv ⟨μ.obs.set μ.next (ob2 (.ofNat x) (.ofNat y)), μ.next + 1⟩ (.slice (some ⟨μ.next, 0, none⟩) 2 4) [x, y] :=
 .inr ⟨μ.next, 4, 2, #[.int .u32 (.ofNat x), .int .u32 (.ofNat y)], .e, false, false, rfl, by show T.get _ _ = _; rw [T.get_set, if_pos rfl]; rfl, (nbl rfl), rzQ _, fun k z hk => by
  match k with
  | 0 => simp at hk; subst hk; exact ⟨hx, rfl⟩
  | 1 => simp at hk; subst hk; exact ⟨hy, rfl⟩
  | k + 2 => simp at hk, .inl ⟨rfl, (nbl rfl)⟩⟩
def two (a : Nat) : List Nat := [a % 4294967296, a / 4294967296]
theorem two_val (a : Nat) : lval (two a) = a := by simp only [two, lval]; omega
theorem ofP_eq {X : XT} {g a : Nat} {μ : Mem} (ha : a < 18446744073709551616) (hg : 200 ≤ g) : ∃ v' μ', aFun pZ (jai pZ X S0 g) 104 [u a] μ = some (v', μ') ∧ Lv μ' v' (ja6 (two a)) ∧ Grow μ μ' := by
 obtain ⟨k, rfl⟩ := gle hg
 have hG := jbc μ (ob2 (.ofNat (a % 4294967296)) (.ofNat (a / 4294967296)))
 obtain ⟨v', μ2, hr, hL, G2⟩ := jjf (X := X) (g := k + 197) (lv_2 (μ := μ) (x := a % 4294967296) (y := a / 4294967296) (by omega) (by omega)) (nbl rfl) (by show 2 + 100 ≤ _; omega)
 have a1 := wShr32 a
 have q1 : jak .u32 (.ofNat (W a)) = .ofNat (a % 4294967296) := by rw [q4, W_of ha]
 have q2 : jak .u32 (.ofNat (W (W a / 2 ^ 32))) = .ofNat (a / 4294967296) := by
  rw [q4, W_of ha, W_of (by omega)]
  congr 1
  omega
 have key : EndsF (aFun pZ (jai pZ X S0 (k + 200)) 104 [u a] μ) fun w μ' => Lv μ' w (ja6 (two a)) ∧ Grow μ μ' := by
  have hbs : ∀ r x y, aev pZ r x = .int .u32 (.ofNat (a % 4294967296)) → aev pZ r y = .int .u32 (.ofNat (a / 4294967296)) → jas pZ (aev pZ r) 23 2 #[(0, x), (1, y)] = some (ob2 (.ofNat (a % 4294967296)) (.ofNat (a / 4294967296)), fun id => .slice (some ⟨id, 0, none⟩) 2 4) := fun r x y g1 g2 => bs2 _ x y _ _ g1 g2
  refine jac Tryz.func104 rfl rfl (nbl rfl) ?_
  simp only [go_sem, Tryz.ntmps104]
  repeat ((first | refine jaa rfl ?_ | refine jaj rfl ?_); (try simp only [go_sem, a1, jiR, q1, q2, hbs, hr]); fail_if_success refine stk ?_)
  exact jae ⟨rfl, v', by simp only [go_sem, Tryz.results104], hL, hG.trans G2⟩
 obtain ⟨w, μ', h1, h2, h3⟩ := key
 exact ⟨w, μ', h1, h2, h3⟩
@[go_sem] def gg181 {X ev} := gC X ev Tryz.func181 rfl rfl
@[go_sem] def gg215 {X ev} := gC X ev Tryz.func215 rfl rfl
@[go_sem] def gg219 {X ev} := gC X ev Tryz.func219 rfl rfl
@[go_sem] def gg220 {X ev} := gC X ev Tryz.func220 rfl rfl
@[go_sem] def gg221 {X ev} := gC X ev Tryz.func221 rfl rfl
theorem shr_neg (v : Int) (k : Int) (h : v < 0) : jaH false .i64 v k = none := by
 cases v with
 | ofNat m => exact absurd h (by simp only [Int.ofNat_eq_natCast]; omega)
 | negSucc m => cases k <;> rfl
theorem shr18_any (v : Int) : pv pZ (Op.shift .shr .i64 v .u64 18) = some (.int .i64 (v / 262144)) := by
 show some (Value.int .i64 (Int.fdiv v (2 ^ 18))) = _
 rw [Int.fdiv_eq_ediv_of_nonneg _ (by decide)]; rfl
theorem shr18_pos (v : Int) (h : 0 ≤ v) : jaH false .i64 v 18 = some (.int .i64 (v / 262144)) := by
 cases v with
 | ofNat m =>
   unfold jaH
   simp only [jbH]
   rfl
 | negSucc m => omega
theorem shr21_any (v : Int) : pv pZ (Op.shift .shr .i64 v .u64 21) = some (.int .i64 (v / 2097152)) := by
 show some (Value.int .i64 (Int.fdiv v (2 ^ 21))) = _
 rw [Int.fdiv_eq_ediv_of_nonneg _ (by decide)]; rfl
theorem shr21_pos (v : Int) (h : 0 ≤ v) : jaH false .i64 v 21 = some (.int .i64 (v / 2097152)) := by
 cases v with
 | ofNat m =>
   unfold jaH
   simp only [jbH]
   rfl
 | negSucc m => omega
set_option maxHeartbeats 4000000 in
theorem jgC {X : XT} {g : Nat} {p : Int} {μ : Mem} (hg : 20 ≤ g) (h1 : -100000 < p) (h2 : p < 100000) : aFun pZ (jai pZ X S0 g) 181 [.int .i64 p] μ = some (.int .i64 (p * 78913 / 262144), μ) := by
 obtain ⟨k, rfl⟩ := gle hg
 refine jau ?_
 have e1 : jak .i64 (Int.mul p 78913) = p * 78913 := i_mul p 78913 (by omega) (by omega)
 obtain ⟨v, hv⟩ := exq (p * 78913)
 rw [← hv] at e1 ⊢
 by_cases h0 : v < 0
 ·have e2 := shr_neg v 18 h0
  have e3 := shr18_any v
  refine jac Tryz.func181 rfl rfl (nbl rfl) ?_
  simp only [go_sem, Tryz.ntmps181]
  repeat (refine jaz rfl ?_; (try simp only [go_sem, e1, e2, e3]); fail_if_success refine stk ?_)
  exact jae ⟨rfl, _, by simp only [go_sem, Tryz.results181], rfl, rfl⟩
 ·have e2 := shr18_pos v (by omega)
  refine jac Tryz.func181 rfl rfl (nbl rfl) ?_
  simp only [go_sem, Tryz.ntmps181]
  repeat (refine jaz rfl ?_; (try simp only [go_sem, e1, e2]); fail_if_success refine stk ?_)
  exact jae ⟨rfl, _, by simp only [go_sem, Tryz.results181], rfl, rfl⟩
set_option maxHeartbeats 4000000 in
theorem skewed_eq {X : XT} {g : Nat} {p : Int} {μ : Mem} (hg : 20 ≤ g) (h1 : -100000 < p) (h2 : p < 100000) : aFun pZ (jai pZ X S0 g) 215 [.int .i64 p] μ = some (.int .i64 ((p * 631305 - 261663) / 2097152), μ) := by
 obtain ⟨k, rfl⟩ := gle hg
 refine jau ?_
 have e0 : jak .i64 (Int.mul p 631305) = p * 631305 := i_mul p 631305 (by omega) (by omega)
 have e1 : jak .i64 (Int.sub (p * 631305) 261663) = p * 631305 - 261663 := jdO _ _ (by omega) (by omega)
 obtain ⟨v, hv⟩ := exq (p * 631305 - 261663)
 rw [← hv] at e1 ⊢
 by_cases h0 : v < 0
 ·have e2 := shr_neg v 21 h0
  have e3 := shr21_any v
  refine jac Tryz.func215 rfl rfl (nbl rfl) ?_
  simp only [go_sem, Tryz.ntmps215]
  repeat (refine jaz rfl ?_; (try simp only [go_sem, e0, e1, e2, e3]); fail_if_success refine stk ?_)
  exact jae ⟨rfl, _, by simp only [go_sem, Tryz.results215], rfl, rfl⟩
 ·have e2 := shr21_pos v (by omega)
  refine jac Tryz.func215 rfl rfl (nbl rfl) ?_
  simp only [go_sem, Tryz.ntmps215]
  repeat (refine jaz rfl ?_; (try simp only [go_sem, e0, e1, e2]); fail_if_success refine stk ?_)
  exact jae ⟨rfl, _, by simp only [go_sem, Tryz.results215], rfl, rfl⟩
theorem conv_iun (n : Int) : jay pZ 3 282 (.int .i64 n) = some (.int .u64 (jak .u64 n)) := by
 simp only [jay, Tryz.underlying3, Tryz.underlying282]
theorem jcL (n : Int) : jay pZ 32 3 (.int .u64 n) = some (.int .i64 (jak .i64 n)) := by
 simp only [jay, Tryz.underlying3, Tryz.underlying32]
theorem wrapW (n : Int) : ∃ w, jak .u64 n = .ofNat (W w) := ⟨(n % 18446744073709551616).toNat, by rw [wrap_u64, W_of]; omega⟩
theorem wAdd3 (a : Nat) : jak .u64 (Int.add (.ofNat (W a)) 3) = .ofNat (W (W a + 3)) := jie _ 3
theorem wAddz (a : Nat) : jak .u64 (Int.add (.ofNat (W a)) 0) = .ofNat (W (W a + 0)) := jie _ 0
set_option maxHeartbeats 4000000 in
theorem jjw (a : Nat) (n : Int) : ∃ r, ∀ {X : XT} {g : Nat} {μ : Mem}, 10 ≤ g → aFun pZ (jai pZ X S0 g) 219 [u a, .int .i64 n] μ = some (u r, μ) := by
 obtain ⟨w, hw⟩ := wrapW n
 refine ⟨?_, fun {X g μ} hg => ?_⟩
 rotate_left 1
 ·obtain ⟨k, rfl⟩ := gle hg
  refine jau ?_
  refine jac Tryz.func219 rfl rfl (nbl rfl) ?_
  simp only [go_sem, Tryz.ntmps219]
  repeat (refine jaz rfl ?_; (try simp only [go_sem, conv_iun, hw, wAdd]); fail_if_success refine stk ?_)
  refine jae ?_
  refine ⟨rfl, _, ?_, rfl, rfl⟩
  simp only [go_sem, Tryz.results219]
  rfl
set_option maxHeartbeats 4000000 in
theorem ceil_ex (a : Nat) : ∃ r, ∀ {X : XT} {g : Nat} {μ : Mem}, 10 ≤ g → aFun pZ (jai pZ X S0 g) 220 [u a] μ = some (u r, μ) := by
 refine ⟨?_, fun {X g μ} hg => ?_⟩
 rotate_left 1
 ·obtain ⟨k, rfl⟩ := gle hg
  refine jau ?_
  refine jac Tryz.func220 rfl rfl (nbl rfl) ?_
  simp only [go_sem, Tryz.ntmps220]
  repeat (refine jaz rfl ?_; (try simp only [go_sem, wAdd3, wShr2]); fail_if_success refine stk ?_)
  refine jae ?_
  refine ⟨rfl, _, ?_, rfl, rfl⟩
  simp only [go_sem, Tryz.results220]
  rfl
set_option maxHeartbeats 4000000 in
theorem floor_ex (a : Nat) : ∃ r, ∀ {X : XT} {g : Nat} {μ : Mem}, 10 ≤ g → aFun pZ (jai pZ X S0 g) 221 [u a] μ = some (u r, μ) := by
 refine ⟨?_, fun {X g μ} hg => ?_⟩
 rotate_left 1
 ·obtain ⟨k, rfl⟩ := gle hg
  refine jau ?_
  refine jac Tryz.func221 rfl rfl (nbl rfl) ?_
  simp only [go_sem, Tryz.ntmps221]
  repeat (refine jaz rfl ?_; (try simp only [go_sem, wAddz, wShr2]); fail_if_success refine stk ?_)
  refine jae ?_
  refine ⟨rfl, _, ?_, rfl, rfl⟩
  simp only [go_sem, Tryz.results221]
  rfl
end
end Go.Proofs.YtdmfakpngnlokaaGreatDoor.nu
