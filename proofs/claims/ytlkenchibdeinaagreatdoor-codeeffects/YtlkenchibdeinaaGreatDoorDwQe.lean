/-
  distafflaw10.CodeEffects, part Qe: its walk and its law. No conditions.
-/
import Derived.Test.YtlkenchibdeinaaGreatDoorDwP
set_option linter.all false
set_option maxRecDepth 20000
set_option maxHeartbeats 8000000
namespace Go.Proofs.YtlkenchibdeinaaGreatDoor.ce
open YtlkenchibdeinaaGreatDoor.Ev
noncomputable section
structure Pins (J : Nat → Ev.Loc) (W : World) (b : Nat) (o : Ob) : Prop where
 live : o ≠ .dead
 bnd : b < W.heap.size
 ob : ObRel J W b 0 o
 back : ∀ (J' : Nat → Ev.Loc) (w' : World), ObRel J' w' b 0 o → w'.heap[b]? = W.heap[b]?
theorem pins_pin {J : Nat → Ev.Loc} {W : World} {b : Nat} {l : List Value} {c : Array Value} {ty : TypeId} {fz : Nat × Nat} (h : W.heap[b]? = some (.cells c ty fz)) (hv : ARel J l.toArray c) : Pins J W b (.pin l c ty fz) :=
 ⟨by simp, (Array.getElem?_eq_some_iff.1 h).1, ⟨h, hv⟩, fun J' w' (h' : _ ∧ _) => h'.1.trans h.symm⟩
structure HandsP (P : Program) (W : World) (nx : Nat) (J : Nat → Ev.Loc) (t : T Ob) : Prop where
 loc : ∀ i, J i = jaY nx i ∨ ∃ b o, J i = .at b 0 ∧ i ≠ P.globals.size ∧ i < nx ∧ (i < P.globals.size → b = i) ∧ t.get i = some o ∧ Pins J W b o
 inj : ∀ i j b, J i = .at b 0 → J j = .at b 0 → i = j
 only : ∀ i o, t.get i = some o → ∃ b, J i = .at b 0
theorem jjg (nx i b s : Nat) : jaY nx i ≠ .at b s := fun e => by unfold jaY at e; split at e <;> cases e
theorem jhx {P : Program} {X : XT} (hN : jc2 P) (hX : XOk P X) (hm : P.follows .mixedOrders = true) {S : List (FuncId × LK)} (hS : SumsOk P S) {k : Nat} {g : FuncId} {nx : Nat} (hnx : P.globals.size < nx) {W : World} {J : Nat → Ev.Loc} {t : T Ob} (h : HandsP P W nx J t)
  {args : List Value} {args' : Array Value} (ha : ARel J args.toArray args') {v : Value} {μ' : Mem} (hrun : aFun P (jaj P X S k) g args ⟨t, nx⟩ = some (v, μ')) (hk : ∀ i, i < nx → μ'.obs.get i = t.get i) (hpv : jaK 5 v = true) :
  Calls P g args' W fun e W' => e = .returned v ∧ Same W W' := by
 have at0 : ∀ {i b s}, J i = .at b s → s = 0 ∧ i ≠ P.globals.size ∧ i < nx ∧ (i < P.globals.size → b = i) ∧ ∃ o, t.get i = some o ∧ Pins J W b o := fun {i b s} e => by
  rcases h.loc i with e1 | ⟨b1, o1, e1, h1, h2, h3, h4, h5⟩
  ·rw [e1] at e; exact absurd e (jjg _ _ _ _)
  ·rw [e1] at e; cases e; exact ⟨rfl, h1, h2, h3, o1, h4, h5⟩
 have nk : ∀ i, (i = P.globals.size ∨ nx ≤ i) → J i = jaY nx i := fun i hi => by
  rcases h.loc i with e1 | ⟨b1, o1, e1, h1, h2, _⟩
  ·exact e1
  ·omega
 have hr : Rel J ⟨t, nx⟩ W := by
  refine ⟨fun i j b s t2 e1 e2 => ?_, fun i b s e => ?_, fun i hi => ?_, fun i o ho _ => ?_⟩
  ·obtain ⟨rfl, _⟩ := at0 e1
   obtain ⟨rfl, _⟩ := at0 e2
   exact h.inj i j b e1 e2
  ·obtain ⟨_, _, _, _, o, _, h4⟩ := at0 e
   exact h4.bnd
  ·rw [nk i (.inr hi)]; exact if_neg (Nat.not_lt.2 hi)
  ·obtain ⟨b, e⟩ := h.only i o ho
   have ho' : t.get i = some o := ho
   obtain ⟨_, _, _, _, o2, h3, h4⟩ := at0 e
   rw [h3] at ho'
   cases ho'
   exact ⟨b, 0, e, h4.ob⟩
 have hB : Base P J := by
  refine ⟨fun g hg => ?_, ?_⟩
  ·rcases h.loc g with e1 | ⟨b1, o1, e1, h1, h2, h3, _⟩
   ·exact .inr (by rw [e1]; exact if_pos (Nat.lt_trans hg hnx))
   ·obtain rfl := h3 hg
    exact .inl ⟨0, e1⟩
  ·rw [nk _ (.inl rfl)]; exact if_pos hnx
 refine callsIn_wide.1 (jhy (jgF hN hX hm hS k).1 g args _ _ μ' hrun _ W args' hr hB ha 0 _ fun J' v' w' h1 h2 h3 => ?_)
 refine ⟨by rw [jd2 5 hpv h1], h3.os, h3.output, h3.size, fun b2 hb2 => ?_, h3.tape⟩
 by_cases hex : ∃ i, J i = .at b2 0
 ·obtain ⟨i, e⟩ := hex
  obtain ⟨_, _, hi, _, o, h5, h6⟩ := at0 e
  obtain ⟨b3, s3, hJ, hob⟩ := h2.obj i _ ((hk i hi).trans h5) h6.live
  rcases h3.at_ _ _ _ e with e3 | ⟨e3, _⟩
  ·rw [e3] at hJ; cases hJ; exact h6.back J' w' hob
  ·rw [e3] at hJ; cases hJ
 ·refine h3.frame b2 hb2 fun i s e => ?_
  obtain ⟨rfl, _⟩ := at0 e
  exact absurd ⟨i, e⟩ hex
abbrev Ent := Nat × Nat × Ob
def jE (nx : Nat) : List Ent → Nat → Ev.Loc
 | [], i => jaY nx i
 | x :: r, i => if i = x.1 then .at x.2.1 0 else jE nx r i
def tE : List Ent → T Ob
 | [] => .e
 | x :: r => (tE r).set x.1 x.2.2
theorem jE_at {nx : Nat} : ∀ {E : List Ent} {i b s : Nat}, jE nx E i = .at b s → s = 0 ∧ ∃ o, (i, b, o) ∈ E
 | [], i, b, s, h => absurd h (jjg _ _ _ _)
 | x :: r, i, b, s, h => by
   unfold jE at h
   by_cases g : i = x.1
   ·rw [if_pos g] at h; cases h; subst g; exact ⟨rfl, x.2.2, List.mem_cons_self ..⟩
   ·rw [if_neg g] at h
    obtain ⟨h1, o, h2⟩ := jE_at h
    exact ⟨h1, o, List.mem_cons_of_mem _ h2⟩
theorem jit {nx : Nat} : ∀ {E : List Ent} {i : Nat}, (∀ b, jE nx E i ≠ .at b 0) → jE nx E i = jaY nx i
 | [], i, _ => rfl
 | x :: r, i, h => by
   unfold jE at h ⊢
   by_cases g : i = x.1
   ·exact absurd (if_pos g) (h x.2.1)
   ·rw [if_neg g]; exact jit fun b e => h b ((if_neg g).trans e)
theorem jE_mem {nx : Nat} : ∀ {E : List Ent}, (E.map (·.1)).Nodup → ∀ x ∈ E, jE nx E x.1 = .at x.2.1 0
 | [], _, x, h => by cases h
 | y :: r, hn, x, h => by
   rw [List.map_cons, List.nodup_cons] at hn
   unfold jE
   rcases List.mem_cons.1 h with rfl | h
   ·exact if_pos rfl
   ·rw [if_neg (show x.1 ≠ y.1 from fun e => hn.1 (e ▸ List.mem_map_of_mem (f := fun z : Ent => z.1) h))]
    exact jE_mem hn.2 x h
theorem ji5 : ∀ {E : List Ent}, (E.map (·.1)).Nodup → ∀ x ∈ E, (tE E).get x.1 = some x.2.2
 | [], _, x, h => by cases h
 | y :: r, hn, x, h => by
   rw [List.map_cons, List.nodup_cons] at hn
   unfold tE
   rcases List.mem_cons.1 h with rfl | h
   ·rw [T.get_set, if_pos rfl]
   ·rw [T.get_set, if_neg (show x.1 ≠ y.1 from fun e => hn.1 (e ▸ List.mem_map_of_mem (f := fun z : Ent => z.1) h))]
    exact ji5 hn.2 x h
theorem tE_some : ∀ {E : List Ent} {i : Nat} {o : Ob}, (tE E).get i = some o → ∃ x ∈ E, x.1 = i
 | [], i, o, h => by unfold tE at h; rw [T.get_e] at h; cases h
 | y :: r, i, o, h => by
   unfold tE at h
   rw [T.get_set] at h
   by_cases g : i = y.1
   ·exact ⟨y, List.mem_cons_self .., g.symm⟩
   ·rw [if_neg g] at h
    obtain ⟨x, h1, h2⟩ := tE_some h
    exact ⟨x, List.mem_cons_of_mem _ h1, h2⟩
theorem jfU : ∀ {E : List Ent}, (E.map (·.2.1)).Nodup → ∀ {x y : Ent}, x ∈ E → y ∈ E → x.2.1 = y.2.1 → x = y
 | [], _, x, y, h, _, _ => by cases h
 | z :: r, hn, x, y, hx, hy, e => by
   rw [List.map_cons, List.nodup_cons] at hn
   rcases List.mem_cons.1 hx with h1 | h1
   ·rcases List.mem_cons.1 hy with h2 | h2
    ·rw [h1, h2]
    ·rw [h1] at e
     exact absurd (e ▸ List.mem_map_of_mem (f := fun z : Ent => z.2.1) h2) hn.1
   ·rcases List.mem_cons.1 hy with h2 | h2
    ·rw [h2] at e
     exact absurd (e ▸ List.mem_map_of_mem (f := fun z : Ent => z.2.1) h1) hn.1
    ·exact jfU hn.2 h1 h2 e
theorem jkc {P : Program} {W : World} {nx : Nat} {E : List Ent} (h1 : (E.map (·.1)).Nodup) (h2 : (E.map (·.2.1)).Nodup) (h3 : ∀ x ∈ E, x.1 ≠ P.globals.size ∧ x.1 < nx ∧ (x.1 < P.globals.size → x.2.1 = x.1) ∧ Pins (jE nx E) W x.2.1 x.2.2) : HandsP P W nx (jE nx E) (tE E) := by
 refine ⟨fun i => ?_, fun i j b e1 e2 => ?_, fun i o ho => ?_⟩
 ·by_cases hex : ∃ b, jE nx E i = .at b 0
  ·obtain ⟨b, e⟩ := hex
   obtain ⟨_, o, hm⟩ := jE_at e
   obtain ⟨g1, g2, g3, g4⟩ := h3 _ hm
   exact .inr ⟨b, o, e, g1, g2, g3, ji5 h1 _ hm, g4⟩
  ·exact .inl (jit fun b e => hex ⟨b, e⟩)
 ·obtain ⟨_, o1, m1⟩ := jE_at e1
  obtain ⟨_, o2, m2⟩ := jE_at e2
  exact congrArg (·.1) (jfU h2 m1 m2 rfl)
 ·obtain ⟨x, hx, rfl⟩ := tE_some ho
  exact ⟨_, jE_mem h1 x hx⟩
abbrev Arr := Nat × Array Value × TypeId
structure SlotAt (W : World) (g n : Nat) (y : Arr) (o cap : Nat) (t : TypeId) : Prop where
 head : W.heap[g]? = some (.cells #[.slice (some ⟨y.1, o, none⟩) n cap] t (0, 0))
 blk : W.heap[y.1]? = some (.cells y.2.1 y.2.2 (0, 0))
structure Laid (W : World) : Prop where
 opt : ∃ t, W.heap[(1 : Nat)]? = some (.cells [Value.bool true].toArray t (0, 0))
 fi : ∃ t, W.heap[(11 : Nat)]? = some (.cells [Value.int .u64 52, .int .u64 11, .int .i64 (-1023)].toArray t (0, 0))
 pt : ∃ t, W.heap[(6 : Nat)]? = some (.cells ptab.toArray t (0, 0))
 fp : ∃ y o cap t, SlotAt W 16 23 y o cap t ∧ ∀ k, k < 23 → y.2.1[o + k]? = some (.float .f64 (fpows.getD k 0))
 pw : ∃ y o cap t, SlotAt W 15 9 y o cap t ∧ ∀ k, k < 9 → y.2.1[o + k]? = some (.int .i64 (.ofNat (powts.getD k 0)))
 lc : ∃ y o cap t, SlotAt W 7 61 y o cap t ∧ ∀ k, k < 61 → y.2.1[o + 2 * k]? = some (.int .i64 (.ofNat (dlt k))) ∧ y.2.1[o + 2 * k + 1]? = some (.string (cut k))
 er : ∃ t u v, W.heap[(9 : Nat)]? = some (.cells #[.iface u v] t (0, 0))
 es : ∃ t u v, W.heap[(8 : Nat)]? = some (.cells #[.iface u v] t (0, 0))
def okU : Value → Bool
 | .int .u64 (.ofNat n) => Nat.blt n 18446744073709551616
 | _ => false
theorem okU_u {v : Value} (h : okU v = true) : v = u (natOf v) := by
 unfold okU at h
 split at h
 ·rename_i n
  show Value.int .u64 (.ofNat n) = .int .u64 (.ofNat (W n))
  rw [W_of (by simpa using h)]
 ·cases h
set_option maxRecDepth 1000000 in
theorem ptab_ok : ptab.all okU = true := by kernel_rfl
set_option maxRecDepth 1000000 in
theorem jjc : ptab.length = 1392 := by kernel_rfl
theorem ptab_at {k : Nat} (h : k < 1392) : ptab[k]? = some (u (natOf (ptab.getD k undef))) := by
 have h' : k < ptab.length := by rw [jjc]; exact h
 have e : ptab.getD k undef = ptab[k] := by simp [List.getD, h']
 rw [e, rzK h', ← okU_u (List.all_eq_true.1 ptab_ok _ (List.getElem_mem h'))]
theorem pin_cell {t : T Ob} {nx i k : Nat} {l : List Value} {c : Array Value} {ty : TypeId} {fz : Nat × Nat} {v : Value} (h : t.get i = some (.pin l c ty fz)) (hk : l[k]? = some v) : jal ⟨t, nx⟩ i k = some v := by
 unfold jal
 rw [show (Mem.obs ⟨t, nx⟩).get i = _ from h]
 obtain ⟨hl, rfl⟩ := List.getElem?_eq_some_iff.1 hk
 show (if k < l.length then some (cellAt l.toArray .e k) else none) = _
 rw [if_pos hl, jbg l k hl]
theorem jbf {J : Nat → Ev.Loc} {v v' : Value} (h : VRel J v v') : ARel J [v].toArray #[v'] := ⟨rfl, fun i a b ha hb => by
 match i with
 | 0 => simp at ha hb; subst ha hb; exact h
 | i + 1 => simp at ha⟩
theorem gsz : 17 ≤ pZ.globals.size ∧ pZ.globals.size < 870 := by decide +kernel
end
noncomputable section
theorem jfk {P : Program} {w : World} : ∀ {l : List (String × DataW Unit)} {ps : List MemPlace}, DataW.LaidVars P w l ps → ∀ n d, (n, d) ∈ l →
  ∃ g t cs fuel p, P.globalNamed n = some g ∧ (P.globals[g]?).map (·.type) = some t ∧ w.var? P n = some cs ∧ DataW.trod (fun _ => ()) P w 0 (fun _ => true) false fuel t cs.toList = some (d, p) ∧ ∀ x ∈ MemPlace.row ⟨g, 0, none⟩ cs.size ++ p, x ∈ ps
 | [], _, _, _, _, hm => by cases hm
 | (n', d') :: r, ps, h, n, d, hm => by
   obtain ⟨g, t, cs, fuel, p, q, h1, h2, h3, h4, h5, rfl⟩ := h
   rcases List.mem_cons.1 hm with e | e
   ·cases e
    exact ⟨g, t, cs, fuel, p, h1, h2, h3, h4, fun x hx => List.mem_append_left q hx⟩
   ·obtain ⟨g', t', cs', f', p', k1, k2, k3, k4, k5⟩ := jfk h5 n d e
    exact ⟨g', t', cs', f', p', k1, k2, k3, k4, fun x hx => List.mem_append_right _ (k5 x hx)⟩
theorem row_mem {a : Addr} {n i : Nat} (h : i < n) : MemPlace.cell a.block (a.off + i) ∈ MemPlace.row a n := List.mem_map.2 ⟨i, List.mem_range.2 h, rfl⟩
variable {P : Program} {W : World} {laid : List (String × DataW Unit)} {n : String} {d : DataW Unit} {g : Nat} {t : TypeId}
theorem listed (hL : laidMetH P laid W) (hp : (laid.all fun x => x.2.handleName?.isNone) = true) (hm : (n, d) ∈ laid) (hg : P.globalNamed n = some g) (hty : (P.globals[g]?).map (·.type) = some t) :
  ∃ cs fuel p, (0 < cs.size → ∃ t', W.heap[g]? = some (.cells cs t' (0, 0))) ∧ DataW.trod (fun _ => ()) P W 0 (fun _ => true) false fuel t cs.toList = some (d, p) ∧ ∀ b off, MemPlace.cell b off ∈ p → ∃ c t', W.heap[b]? = some (.cells c t' (0, 0)) := by
 rw [MakeChecks.laidMetH_plain P laid W hp] at hL
 obtain ⟨ps, hv, _, hps⟩ := hL
 obtain ⟨g2, t2, cs, fuel, p, e1, e2, e3, e4, e5⟩ := jfk hv n d hm
 rw [hg] at e1; cases e1
 rw [hty] at e2; cases e2
 refine ⟨cs, fuel, p, fun h0 => ?_, e4, fun b off hb => (hps b off (e5 _ (List.mem_append_right _ hb))).1⟩
 obtain ⟨⟨c, t', hc⟩, _⟩ := hps g (0 + 0) (e5 _ (List.mem_append_left _ (row_mem (a := ⟨g, 0, none⟩) h0)))
 have e6 : World.var? P W n = some c := by
  unfold World.var?
  rw [hg]
  show (match W.heap[g]? with
   | some (.cells cs _ _) => some cs
   | _ => none) = some c
  rw [hc]
 rw [e3] at e6; cases e6
 exact ⟨t', hc⟩
theorem jeq {c : Array Value} {l : List Value} (h : c.toList = l) : c = l.toArray := by subst h; simp
theorem jgA (hL : laidMetH P laid W) (hp : (laid.all fun x => x.2.handleName?.isNone) = true) (hm : (n, d) ∈ laid) (hg : P.globalNamed n = some g) (hty : (P.globals[g]?).map (·.type) = some t) {k m : Nat} {l : List Value} (hk : jiA P k t = true) (hd : flatL m d = some l) (hne : 0 < l.length) :
  ∃ t', W.heap[g]? = some (.cells l.toArray t' (0, 0)) := by
 obtain ⟨cs, fuel, p, h1, h2, _⟩ := listed hL hp hm hg hty
 have e := jhB k t fuel m _ l d p hk h2 hd
 obtain rfl := jeq e
 exact h1 (by simpa using hne)
theorem jjn {name : String} {d' : DataW Unit} {ms : Array (String × TypeId)} (hL : laidMetH P laid W) (hp : (laid.all fun x => x.2.handleName?.isNone) = true) (hm : (n, .iface name d') ∈ laid) (hg : P.globalNamed n = some g) (hty : (P.globals[g]?).map (·.type) = some t) (hi : P.underlying t = some (.interface ms)) :
  ∃ t' u v, W.heap[g]? = some (.cells #[.iface u v] t' (0, 0)) := by
 obtain ⟨cs, fuel, p, h1, h2, _⟩ := listed hL hp hm hg hty
 obtain ⟨_, u, v, hcs, _⟩ := iface_of_trod hi h2
 obtain rfl := jeq hcs
 obtain ⟨t', h⟩ := h1 (by simp)
 exact ⟨t', u, v, h⟩
theorem jgl {e : TypeId} {ds : List (DataW Unit)} {ls : List (List Value)} {k m w : Nat} (hL : laidMetH P laid W) (hp : (laid.all fun x => x.2.handleName?.isNone) = true) (hm : (n, .slice ds []) ∈ laid) (hg : P.globalNamed n = some g) (hty : (P.globals[g]?).map (·.type) = some t)
  (ht : P.underlying t = some (.slice e)) (hc : P.cellsOf e = w) (hw : 0 < w) (hk : jiA P k e = true) (hfl : ds.map (flatL m) = ls.map some) (hne : 0 < ls.length) :
  ∃ (y : Arr) (o cap : Nat) (tb : TypeId), SlotAt W g ls.length y o cap tb ∧ ∀ i l j v, ls[i]? = some l → l[j]? = some v → y.2.1[o + i * w + j]? = some v := by
 obtain ⟨cs, fuel, p, h1, h2, h3⟩ := listed hL hp hm hg hty
 have hlen : ds.length = ls.length := by simpa using congrArg List.length hfl
 rcases DataW.trod_slice ht h2 with ⟨_, ex⟩ | ⟨a, len, cap, elems, rest, f, rfl, ecs, ex, _, _, _, hel, hat, _, _⟩
 ·cases ex
 injection ex with ex1 ex2
 injection ex1 with ed er
 subst ex2
 have hdl : ls.length = len := by rw [← hlen, ed, List.length_map, hel]
 have each : ∀ i l, ls[i]? = some l → W.cells? 0 (a.add (i * w)) w = some l := fun i l hi => by
  have hil : i < ls.length := (List.getElem?_eq_some_iff.1 hi).1
  have h4 := hat i (by omega)
  have hie : i < elems.length := by omega
  rw [rzK hie, Option.bind_eq_some_iff] at h4
  obtain ⟨csi, h5, h6⟩ := h4
  have h7 : (ds.map (flatL m))[i]? = some (some l) := by rw [hfl, List.getElem?_map, hi]; rfl
  rw [ed] at h7
  have h8 : flatL m (elems[i]).1 = some l := by simpa [hie] using h7
  obtain rfl := jhB k e f m csi l (elems[i]).1 (elems[i]).2 hk h6 h8
  rw [hc] at h5
  exact h5
 obtain ⟨l0, hl0⟩ : ∃ l0, ls[0]? = some l0 := ⟨_, rzK hne⟩
 obtain ⟨_, hl0w, hl0c⟩ := World.cells?_some (each 0 l0 hl0)
 obtain ⟨b, o, sp⟩ := a
 have a0 : ∀ (x : Addr), x.add 0 = x := fun x => rfl
 have hc0 := hl0c 0 hw
 rw [Nat.zero_mul, a0, a0, rzK (by omega : 0 < l0.length)] at hc0
 have hsp : sp = none := by
  unfold World.cell? at hc0
  simp only at hc0
  split at hc0
  ·cases sp with
   | none => rfl
   | some x => simp at hc0
  ·cases hc0
 subst hsp
 have hpos : 0 < (elems.length + rest.length) * P.cellsOf e := by
  rw [hc]
  exact Nat.mul_pos (by omega) hw
 obtain ⟨c, te, hb⟩ := h3 b (o + 0) (List.mem_append_left _ (row_mem (a := ⟨b, o, none⟩) hpos))
 obtain rfl := jeq ecs
 obtain ⟨tb, hh⟩ := h1 (by simp)
 refine ⟨(b, c, te), o, cap, tb, ⟨?_, hb⟩, fun i l j v hi hj => ?_⟩
 ·rw [hdl]; exact hh
 ·obtain ⟨_, h4, h5⟩ := World.cells?_some (each i l hi)
  have hjl : j < l.length := (List.getElem?_eq_some_iff.1 hj).1
  have h6 := h5 j (by omega)
  rw [hj] at h6
  have ea : (Addr.add (Addr.add ⟨b, o, none⟩ (i * w)) j) = ⟨b, o + i * w + j, none⟩ := by
   unfold Addr.add
   by_cases g1 : i * w = 0
   ·rw [if_pos g1, g1]
    by_cases g2 : j = 0
    ·rw [if_pos g2, g2]; rfl
    ·rw [if_neg g2]; rfl
   ·rw [if_neg g1]
    by_cases g2 : j = 0
    ·rw [if_pos g2, g2]; rfl
    ·rw [if_neg g2]
  rw [ea] at h6
  unfold World.cell? at h6
  simp only [hb] at h6
  simpa using h6
end
noncomputable section
def idB (gs b : Nat) : Nat := if b < gs then b else 900 + b
def isC (W : World) (b : Nat) : Bool := match W.heap[b]? with
 | some (.cells _ _ _) => true
 | _ => false
def absV (W : World) (gs : Nat) : Value → Value
 | .slice (some ⟨b, o, none⟩) l c => if isC W b = true then .slice (some ⟨idB gs b, o, none⟩) l (2 * c) else .slice (some ⟨gs, 0, none⟩) l (2 * c)
 | .slice (some ⟨_, _, some _⟩) l c => .slice (some ⟨gs, 0, none⟩) l (2 * c)
 | .iface t _ => .iface t (.chan none)
 | v => strip v
theorem absV_rel {W : World} {gs : Nat} {J : Nat → Ev.Loc} (hJ : ∀ b, isC W b = true → J (idB gs b) = .at b 0) (hd : J gs = .dead) (v : Value) : VRel J (absV W gs v) v := by
 unfold absV
 split
 ·split
  ·exact .slice (hJ _ (by assumption)) (.inl ⟨by omega, by omega⟩)
  ·exact .sliceDead _ _ hd (.inl ⟨by omega, by omega⟩)
 ·exact .sliceDead _ _ hd (.inl ⟨by omega, by omega⟩)
 ·exact .iface (.any none _)
 ·exact jg5 J _
def entW (W : World) (gs : Nat) (b : Nat) : Option Ent := match W.heap[b]? with
 | some (.cells c t fz) => some (idB gs b, b, .pin (c.toList.map (absV W gs)) c t fz)
 | _ => none
def jhC (W : World) (gs : Nat) : List Ent := (List.range W.heap.size).filterMap (entW W gs)
theorem jdk {W : World} {gs b : Nat} {x : Ent} (h : entW W gs b = some x) : ∃ c t fz, W.heap[b]? = some (.cells c t fz) ∧ x = (idB gs b, b, .pin (c.toList.map (absV W gs)) c t fz) := by
 unfold entW at h
 split at h
 ·rename_i c t fz hc
  cases h
  exact ⟨c, t, fz, hc, rfl⟩
 ·cases h
theorem jjq {W : World} {gs : Nat} {x : Ent} (h : x ∈ jhC W gs) : ∃ b c t fz, b < W.heap.size ∧ W.heap[b]? = some (.cells c t fz) ∧ x = (idB gs b, b, .pin (c.toList.map (absV W gs)) c t fz) := by
 obtain ⟨b, hb, hx⟩ := List.mem_filterMap.1 h
 obtain ⟨c, t, fz, h1, h2⟩ := jdk hx
 exact ⟨b, c, t, fz, List.mem_range.1 hb, h1, h2⟩
theorem jgr {W : World} {gs b : Nat} {c : Array Value} {t : TypeId} {fz : Nat × Nat} (h : W.heap[b]? = some (.cells c t fz)) : (idB gs b, b, Ob.pin (c.toList.map (absV W gs)) c t fz) ∈ jhC W gs :=
 List.mem_filterMap.2 ⟨b, List.mem_range.2 (Array.getElem?_eq_some_iff.1 h).1, by unfold entW; rw [h]⟩
theorem jeW {α : Type} {f : Nat → Option α} {k : α → Nat} (inj : ∀ a a' x x', f a = some x → f a' = some x' → k x = k x' → a = a') : ∀ {l : List Nat}, l.Nodup → ((l.filterMap f).map k).Nodup
 | [], _ => List.nodup_nil
 | a :: r, hl => by
   rw [List.nodup_cons] at hl
   cases e : f a with
   | none => rw [List.filterMap_cons_none e]; exact jeW inj hl.2
   | some x =>
     rw [List.filterMap_cons_some e, List.map_cons, List.nodup_cons]
     refine ⟨fun h => ?_, jeW inj hl.2⟩
     obtain ⟨y, hy, hk⟩ := List.mem_map.1 h
     obtain ⟨a', ha', hf⟩ := List.mem_filterMap.1 hy
     obtain rfl := inj _ _ _ _ e hf hk.symm
     exact hl.1 ha'
theorem idB_inj {gs a b : Nat} (hlt : gs < 870) (h : idB gs a = idB gs b) : a = b := by
 unfold idB at h
 split at h <;> split at h <;> omega
theorem je0 {W : World} {gs : Nat} (hlt : gs < 870) : ((jhC W gs).map (·.1)).Nodup := jeW (fun a a' x x' h1 h2 h3 => by
 obtain ⟨_, _, _, _, rfl⟩ := jdk h1
 obtain ⟨_, _, _, _, rfl⟩ := jdk h2
 exact idB_inj hlt h3) List.nodup_range
theorem jiC {W : World} {gs : Nat} : ((jhC W gs).map (·.2.1)).Nodup := jeW (fun a a' x x' h1 h2 h3 => by
 obtain ⟨_, _, _, _, rfl⟩ := jdk h1
 obtain ⟨_, _, _, _, rfl⟩ := jdk h2
 exact h3) List.nodup_range
abbrev nxW (W : World) : Nat := 900 + W.heap.size
abbrev jW (W : World) (gs : Nat) : Nat → Ev.Loc := jE (nxW W) (jhC W gs)
abbrev memW (W : World) (gs : Nat) : Mem := ⟨tE (jhC W gs), nxW W⟩
theorem jW_at {W : World} {gs : Nat} (hlt : gs < 870) {b : Nat} (h : isC W b = true) : jW W gs (idB gs b) = .at b 0 := by
 unfold isC at h
 split at h
 ·rename_i c t fz hc
  exact jE_mem (je0 hlt) _ (jgr hc)
 ·cases h
theorem idB_ne {gs b : Nat} (hlt : gs < 870) : idB gs b ≠ gs := by
 unfold idB
 split <;> omega
theorem jW_dead {W : World} {gs : Nat} (hlt : gs < 870) : jW W gs gs = .dead := by
 have h : jW W gs gs = jaY (nxW W) gs := jit fun b e => by
  obtain ⟨_, o, m⟩ := jE_at e
  obtain ⟨b', _, _, _, _, _, e2⟩ := jjq m
  exact idB_ne hlt (congrArg (·.1) e2).symm
 rw [h]
 exact if_pos (by show gs < 900 + _; omega)
theorem abs_rel {W : World} {gs : Nat} (hlt : gs < 870) (v : Value) : VRel (jW W gs) (absV W gs v) v := absV_rel (fun b h => jW_at hlt h) (jW_dead hlt) v
theorem handsW {P : Program} {W : World} {gs : Nat} (hg : P.globals.size = gs) (hlt : gs < 870) : HandsP P W (nxW W) (jW W gs) (tE (jhC W gs)) := by
 refine jkc (je0 hlt) jiC fun x hx => ?_
 obtain ⟨b, c, t, fz, hb, hc, rfl⟩ := jjq hx
 rw [hg]
 refine ⟨idB_ne hlt, ?_, ?_, pins_pin hc ⟨by simp, fun i a b' ha hb' => ?_⟩⟩
 ·show idB gs b < 900 + W.heap.size
  unfold idB
  split <;> omega
 ·show idB gs b < gs → b = idB gs b
  unfold idB
  split <;> omega
 ·simp only [List.getElem?_toArray, List.getElem?_map, Array.getElem?_toList, hb', Option.map_some, Option.some.injEq] at ha
  subst ha
  exact abs_rel hlt b'
theorem jcO {W : World} {gs b k : Nat} {c : Array Value} {t : TypeId} {fz : Nat × Nat} {v : Value} (hlt : gs < 870) (hc : W.heap[b]? = some (.cells c t fz)) (hk : c[k]? = some v) : jal (memW W gs) (idB gs b) k = some (absV W gs v) :=
 pin_cell (ji5 (je0 hlt) _ (jgr hc)) (by rw [List.getElem?_map, Array.getElem?_toList, hk]; rfl)
theorem idB_low {gs b : Nat} (h : b < gs) : idB gs b = b := if_pos h
theorem lay_hand {W : World} (hL : Laid W) : Lay (memW W pZ.globals.size) := by
 obtain ⟨t1, h1⟩ := hL.opt
 obtain ⟨t2, h2⟩ := hL.fi
 obtain ⟨t3, h3⟩ := hL.pt
 obtain ⟨y1, o1, k1, t4, ⟨h4, b1⟩, c1⟩ := hL.fp
 obtain ⟨y2, o2, k2, t5, ⟨h5, b2⟩, c2⟩ := hL.pw
 obtain ⟨y3, o3, k3, t6, ⟨h6, b3⟩, c3⟩ := hL.lc
 obtain ⟨t7, u7, v7, h7⟩ := hL.er
 obtain ⟨t8, u8, v8, h8⟩ := hL.es
 have hz := gsz
 obtain ⟨gs, hgs⟩ := exq (pZ.globals.size)
 rw [← hgs] at hz ⊢
 have hlt : gs < 870 := hz.2
 have cell : ∀ {g k : Nat} {c : Array Value} {t : TypeId} {v : Value}, g < 17 → W.heap[g]? = some (.cells c t (0, 0)) → c[k]? = some v → jal (memW W gs) g k = some (absV W gs v) := fun {g k c t v} hg hc hk => by
  have := jcO hlt hc hk
  rwa [idB_low (by omega)] at this
 have sl : ∀ {y : Arr} {o l cap : Nat}, W.heap[y.1]? = some (.cells y.2.1 y.2.2 (0, 0)) → absV W gs (.slice (some ⟨y.1, o, none⟩) l cap) = .slice (some ⟨idB gs y.1, o, none⟩) l (2 * cap) := fun {y o l cap} hc => by
  show (if isC W y.1 = true then _ else _) = _
  rw [if_pos (by unfold isC; rw [hc])]
 have lt : ∀ {y : Arr}, W.heap[y.1]? = some (.cells y.2.1 y.2.2 (0, 0)) → idB gs y.1 < nxW W := fun {y} hc => by
  have := (Array.getElem?_eq_some_iff.1 hc).1
  show idB gs y.1 < 900 + W.heap.size
  unfold idB
  split <;> omega
 refine ⟨cell (k := 0) (v := .bool true) (by decide) h1 rfl, cell (k := 0) (v := .int .u64 52) (by decide) h2 rfl, cell (k := 1) (v := .int .u64 11) (by decide) h2 rfl, cell (k := 2) (v := .int .i64 (-1023)) (by decide) h2 rfl, fun k hk => ⟨?_, ?_⟩,
  ⟨_, o1, _, (cell (k := 0) (by decide) h4 rfl).trans (congrArg some (sl b1)), lt b1, fun k hk => jcO hlt b1 (c1 k hk)⟩,
  ⟨_, o2, _, (cell (k := 0) (by decide) h5 rfl).trans (congrArg some (sl b2)), lt b2, fun k hk => jcO hlt b2 (c2 k hk)⟩,
  ⟨_, o3, _, (cell (k := 0) (by decide) h6 rfl).trans (congrArg some (sl b3)), lt b3, fun k hk => ⟨jcO hlt b3 (c3 k hk).1, jcO hlt b3 (c3 k hk).2⟩⟩,
  ⟨_, cell (k := 0) (by decide) h7 rfl, rfl⟩, ⟨_, cell (k := 0) (by decide) h8 rfl, rfl⟩, by show 20 < 900 + _; omega⟩
 ·exact cell (k := 2 * k) (v := u (hiT k)) (by decide) h3 ((List.getElem?_toArray (xs := ptab) (i := 2 * k)).trans (ptab_at (by omega)))
 ·exact cell (k := 2 * k + 1) (v := u (loT k)) (by decide) h3 ((List.getElem?_toArray (xs := ptab) (i := 2 * k + 1)).trans (ptab_at (by omega)))
inductive Dat where
 | mk (k n : Int) (fl : Bool) (f : Nat) (neg : Bool) (ls : List Nat) (s : ByteArray) (l : List Dat)
def CapK (w n c : Nat) : Prop := (c % 2 = 0 ∧ n ≤ c / 2) ∨ (c % 2 = 1 ∧ c / 2 = w)
def IsU (μ : Mem) (ls : List Nat) (v : Value) : Prop := (∀ x ∈ ls, x < 4294967296) ∧ ls.length ≤ maxLen ∧ ((v = .slice none 0 0 ∧ ls = []) ∨ ∃ i o c, v = .slice (some ⟨i, o, none⟩) ls.length c ∧ (ls ≠ [] → i < μ.next ∧ Has μ i o (ls.map fun x => .int .u32 (.ofNat x))) ∧ CapK 1 ls.length c)
def wfI (n : Int) : Prop := (Lit.int .i64 n).wf = true
mutual
def IsD (μ : Mem) : Dat → List Value → Prop
 | .mk k n fl f neg ls s l, cs => ∃ vl vi, cs = [.int .i64 k, .int .i64 n, .bool fl, .float .f64 f, .bool neg, vl, .string s, vi] ∧ (wfI k ∧ wfI n ∧ (Lit.float .f64 f).wf = true ∧ s.size ≤ maxLen ∧ l.length ≤ maxLen) ∧ IsU μ ls vl ∧
   ((vi = .slice none 0 0 ∧ l = []) ∨ ∃ i o c, vi = .slice (some ⟨i, o, none⟩) l.length c ∧ (l ≠ [] → i < μ.next) ∧ IsDs μ l i o ∧ CapK 8 l.length c)
def IsDs (μ : Mem) : List Dat → Nat → Nat → Prop
 | [], _, _ => True
 | d :: r, i, o => (∃ cs, Has μ i o cs ∧ IsD μ d cs) ∧ IsDs μ r i (o + 8)
end
def IsL (μ : Mem) (l : List Dat) (v : Value) : Prop := l.length ≤ maxLen ∧ ((v = .slice none 0 0 ∧ l = []) ∨ ∃ i o c, v = .slice (some ⟨i, o, none⟩) l.length c ∧ (l ≠ [] → i < μ.next) ∧ IsDs μ l i o ∧ CapK 8 l.length c)
theorem jdh {μ : Mem} {k n : Int} {fl : Bool} {f : Nat} {neg : Bool} {ls : List Nat} {s : ByteArray} {l : List Dat} {cs : List Value} : IsD μ (.mk k n fl f neg ls s l) cs ↔ ∃ vl vi, cs = [.int .i64 k, .int .i64 n, .bool fl, .float .f64 f, .bool neg, vl, .string s, vi] ∧ (wfI k ∧ wfI n ∧ (Lit.float .f64 f).wf = true ∧ s.size ≤ maxLen) ∧ IsU μ ls vl ∧ IsL μ l vi := by
 rw [IsD]
 constructor
 ·rintro ⟨vl, vi, h1, ⟨h2, h3, h4, h5, h6⟩, h7, h8⟩
  exact ⟨vl, vi, h1, ⟨h2, h3, h4, h5⟩, h7, h6, h8⟩
 ·rintro ⟨vl, vi, h1, ⟨h2, h3, h4, h5⟩, h7, h6, h8⟩
  exact ⟨vl, vi, h1, ⟨h2, h3, h4, h5, h6⟩, h7, h8⟩
theorem isDs_at {μ : Mem} : ∀ {l : List Dat} {i o k : Nat} {d : Dat}, IsDs μ l i o → l[k]? = some d → ∃ cs, Has μ i (o + 8 * k) cs ∧ IsD μ d cs
 | [], i, o, k, d, _, hd => by simp at hd
 | x :: r, i, o, k, d, h, hd => by
   rw [IsDs] at h
   cases k with
   | zero =>
     simp only [List.getElem?_cons_zero, Option.some.injEq] at hd
     subst hd
     exact h.1
   | succ k =>
     obtain ⟨cs, h1, h2⟩ := isDs_at h.2 (by simpa using hd)
     refine ⟨cs, ?_, h2⟩
     rw [(by omega : o + 8 * (k + 1) = o + 8 + 8 * k)]
     exact h1
theorem jiv {μ : Mem} : ∀ {l : List Dat} {i o : Nat}, (∀ (k : Nat) d, l[k]? = some d → ∃ cs, Has μ i (o + 8 * k) cs ∧ IsD μ d cs) → IsDs μ l i o
 | [], i, o, h => by rw [IsDs]; trivial
 | x :: r, i, o, h => by
   rw [IsDs]
   refine ⟨h 0 x rfl, jiv fun k d hk => ?_⟩
   rw [(by omega : o + 8 + 8 * k = o + 8 * (k + 1))]
   exact h (k + 1) d (by simpa using hk)
theorem IsU.grow {μ μ' : Mem} {ls : List Nat} {v : Value} (h : IsU μ ls v) (g : Grow μ μ') : IsU μ' ls v := by
 obtain ⟨h1, h2, h3 | ⟨i, o, c, h3, h4, h5⟩⟩ := h
 ·exact ⟨h1, h2, .inl h3⟩
 ·exact ⟨h1, h2, .inr ⟨i, o, c, h3, fun hn => ⟨rzO (h4 hn).1 g.1, (h4 hn).2.keep (g.2 i (h4 hn).1)⟩, h5⟩⟩
mutual
theorem IsD.grow {μ μ' : Mem} (g : Grow μ μ') : ∀ {d : Dat} {cs : List Value}, IsD μ d cs → IsD μ' d cs
 | .mk k n fl f neg ls s l, cs, h => by
   rw [jdh] at h ⊢
   obtain ⟨vl, vi, h1, h2, h3, h4, h5⟩ := h
   refine ⟨vl, vi, h1, h2, h3.grow g, h4, ?_⟩
   rcases h5 with h5 | ⟨i, o, c, h5, h6, h7, h8⟩
   ·exact .inl h5
   ·exact .inr ⟨i, o, c, h5, fun hn => rzO (h6 hn) g.1, IsDs.grow g h6 h7, h8⟩
theorem IsDs.grow {μ μ' : Mem} (g : Grow μ μ') : ∀ {l : List Dat} {i o : Nat}, (l ≠ [] → i < μ.next) → IsDs μ l i o → IsDs μ' l i o
 | [], i, o, _, h => by rw [IsDs]; trivial
 | d :: r, i, o, hi, h => by
   rw [IsDs] at h ⊢
   obtain ⟨⟨cs, h1, h2⟩, h3⟩ := h
   exact ⟨⟨cs, h1.keep (g.2 i (hi (List.cons_ne_nil _ _))), IsD.grow g h2⟩, IsDs.grow g (fun _ => hi (List.cons_ne_nil _ _)) h3⟩
end
theorem IsL.grow {μ μ' : Mem} {l : List Dat} {v : Value} (h : IsL μ l v) (g : Grow μ μ') : IsL μ' l v := by
 obtain ⟨h1, h2 | ⟨i, o, c, h3, h4, h5, h6⟩⟩ := h
 ·exact ⟨h1, .inl h2⟩
 ·exact ⟨h1, .inr ⟨i, o, c, h3, fun hn => rzO (h4 hn) g.1, IsDs.grow g h4 h5, h6⟩⟩
theorem jg6 {W : World} {a : Addr} {w : Nat} {row : List Value} (h : W.cells? 0 (a.add 0) w = some row) (hw : 0 < w) : a = ⟨a.block, a.off, none⟩ := by
 obtain ⟨_, hl, hc⟩ := World.cells?_some h
 have h0 := hc 0 hw
 rw [show (Addr.add (Addr.add a 0) 0) = a from rfl, rzK (by omega : 0 < row.length)] at h0
 unfold World.cell? at h0
 obtain ⟨b, o, sp⟩ := a
 split at h0
 ·cases sp with
  | none => rfl
  | some x => simp at h0
 ·cases h0
theorem jd8 {W : World} {b o m w : Nat} {row : List Value} (h : W.cells? 0 (Addr.add ⟨b, o, none⟩ m) w = some row) (hw : 0 < w) : ∃ c t fz, W.heap[b]? = some (.cells c t fz) ∧ row.length = w ∧ ∀ (j : Nat) v, row[j]? = some v → c[o + m + j]? = some v := by
 obtain ⟨_, hl, hc⟩ := World.cells?_some h
 have ea : ∀ j, (Addr.add (Addr.add ⟨b, o, none⟩ m) j) = ⟨b, o + m + j, none⟩ := fun j => by
  unfold Addr.add
  by_cases g1 : m = 0
  ·rw [if_pos g1, g1]
   by_cases g2 : j = 0
   ·rw [if_pos g2, g2]; rfl
   ·rw [if_neg g2]; rfl
  ·rw [if_neg g1]
   by_cases g2 : j = 0
   ·rw [if_pos g2, g2]; rfl
   ·rw [if_neg g2]
 have hc0 := hc 0 hw
 rw [ea, rzK (by omega : 0 < row.length)] at hc0
 unfold World.cell? at hc0
 split at hc0
 ·rename_i c t fz hb
  have hb : W.heap[b]? = some (.cells c t fz) := hb
  refine ⟨c, t, fz, hb, hl, fun j v hj => ?_⟩
  have hjl : j < w := by rw [← hl]; exact (List.getElem?_eq_some_iff.1 hj).1
  have h6 := hc j hjl
  rw [ea, hj] at h6
  unfold World.cell? at h6
  simpa [hb] using h6
 ·cases hc0
theorem jeV {W : World} {gs b o : Nat} {c : Array Value} {t : TypeId} {fz : Nat × Nat} {row : List Value} (hlt : gs < 870) (hb : W.heap[b]? = some (.cells c t fz)) (h : ∀ (j : Nat) v, row[j]? = some v → c[o + j]? = some v) (hne : row ≠ []) : Has (memW W gs) (idB gs b) o (row.map (absV W gs)) := by
 have hpos : 0 < row.length := List.length_pos_iff.2 hne
 have hlast := h (row.length - 1) _ (rzK (by omega))
 have hb1 := (Array.getElem?_eq_some_iff.1 hlast).1
 refine ⟨(c.toList.map (absV W gs)).length, (c.toList.map (absV W gs)).toArray, .e, ?_, ?_, fun k hk => ?_⟩
 ·show jb3 ((tE (jhC W gs)).get (idB gs b)) = _
  rw [ji5 (je0 hlt) _ (jgr hb)]
  rfl
 ·simp only [List.length_map, Array.length_toList]; omega
 ·have hk' : k < row.length := by simpa using hk
  have h1 := h k _ (rzK hk')
  obtain ⟨hlt', he⟩ := Array.getElem?_eq_some_iff.1 h1
  rw [jbg _ _ (by simpa using hlt')]
  simp [he]
section
variable {H : Type} {enc : TypeId × Value → H} {P : Program} {W : World} {sp : Nat → Bool} {hd : Bool} {fuel gs : Nat} {t e : TypeId} {cs : List Value} {x : DataW H × List MemPlace}
theorem jep {k : FloatKind} (ht : P.underlying t = some (.float k)) (h : DataW.trod enc P W 0 sp hd fuel t cs = some x) : ∃ b, cs = [.float k b] ∧ (Lit.float k b).wf = true := by
 cases fuel with
 | zero => simp [DataW.trod] at h
 | succ n =>
   unfold DataW.trod at h
   rw [ht] at h
   split at h <;> simp_all
theorem trod_sl {w : Nat} (ht : P.underlying t = some (.slice e)) (hc : P.cellsOf e = w) (hw : 0 < w) (h : DataW.trod enc P W 0 sp hd fuel t cs = some x) :
  ∃ v len, cs = [v] ∧ len ≤ maxLen ∧ ((v = .slice none 0 0 ∧ len = 0) ∨ ∃ a cap, v = .slice (some a) len cap ∧ len ≤ cap ∧ (0 < len → ∃ b o c tb fz n, a = ⟨b, o, none⟩ ∧ fuel = n + 1 ∧ W.heap[b]? = some (.cells c tb fz) ∧ ∀ i, i < len → ∃ row y, DataW.trod enc P W 0 sp hd n e row = some y ∧ ∀ (j : Nat) v, row[j]? = some v → c[o + i * w + j]? = some v)) := by
 rcases DataW.trod_slice ht h with ⟨rfl, _⟩ | ⟨a, len, cap, elems, rest, n, hn, rfl, _, _, hl, hm, hel, hat, _⟩
 ·exact ⟨_, 0, rfl, rzY _, .inl ⟨rfl, rfl⟩⟩
 ·refine ⟨_, len, rfl, rzS hl hm, .inr ⟨a, cap, rfl, hl, fun h0 => ?_⟩⟩
  rw [hc] at hat
  have each : ∀ i, i < len → ∃ row y, W.cells? 0 (a.add (i * w)) w = some row ∧ DataW.trod enc P W 0 sp hd n e row = some y := fun i hi => by
   have h4 := hat i hi
   rw [rzK (by omega), Option.bind_eq_some_iff] at h4
   obtain ⟨row, h5, h6⟩ := h4
   exact ⟨row, _, h5, h6⟩
  obtain ⟨r0, _, q1, _⟩ := each 0 h0
  rw [Nat.zero_mul] at q1
  have ea := jg6 q1 hw
  obtain ⟨b, o, spt⟩ := a
  injection ea with _ _ ea
  subst ea
  obtain ⟨c, tb, fz, hb, _, _⟩ := jd8 (m := 0) q1 hw
  refine ⟨b, o, c, tb, fz, n, rfl, hn, hb, fun i hi => ?_⟩
  obtain ⟨row, y, q2, q3⟩ := each i hi
  obtain ⟨c', _, _, hb', _, q4⟩ := jd8 q2 hw
  rw [hb] at hb'
  cases hb'
  exact ⟨row, y, q3, q4⟩
theorem jjB {W : World} {gs b o l c : Nat} {cs : Array Value} {t : TypeId} {fz : Nat × Nat} (hb : W.heap[b]? = some (.cells cs t fz)) : absV W gs (.slice (some ⟨b, o, none⟩) l c) = .slice (some ⟨idB gs b, o, none⟩) l (2 * c) := by
 show (if isC W b = true then _ else _) = _
 rw [if_pos (by unfold isC; rw [hb])]
theorem jgM {W : World} {gs l c : Nat} {a : Addr} : ∃ i o, absV W gs (.slice (some a) l c) = .slice (some ⟨i, o, none⟩) l (2 * c) := by
 obtain ⟨b, o, sp⟩ := a
 cases sp with
 | none =>
   cases h : isC W b with
   | true => exact ⟨_, _, if_pos h⟩
   | false => exact ⟨_, _, if_neg (by rw [h]; decide)⟩
 | some _ => exact ⟨_, _, rfl⟩
theorem id_lt {b : Nat} {cs : Array Value} {t : TypeId} {fz : Nat × Nat} (hb : W.heap[b]? = some (.cells cs t fz)) : idB gs b < (memW W gs).next := by
 have := (Array.getElem?_eq_some_iff.1 hb).1
 show idB gs b < 900 + W.heap.size
 unfold idB
 split <;> omega
theorem u_trod {n : Nat} {cs : List Value} {x : DataW H × List MemPlace} (ht : P.underlying t = some (.int .u32)) (h : DataW.trod enc P W 0 sp hd n t cs = some x) : ∃ a, a < 4294967296 ∧ cs = [.int .u32 (.ofNat a)] := by
 obtain ⟨z, rfl, _, hw⟩ := DataW.trod_int ht h
 have hb : 0 ≤ z ∧ z < 4294967296 := by
  simp only [Lit.wf, IntKind.min, IntKind.max, IntKind.signed, IntKind.bits] at hw
  simp at hw
  omega
 exact ⟨z.toNat, by omega, by rw [show Int.ofNat z.toNat = z from Int.toNat_of_nonneg hb.1]⟩
theorem jgt {α : Type} {Q : Nat → α → Prop} : ∀ {len : Nat}, (∀ i, i < len → ∃ a, Q i a) → ∃ l : List α, l.length = len ∧ ∀ (i : Nat) a, l[i]? = some a → Q i a := by
 intro len
 induction len with
 | zero => exact fun _ => ⟨[], rfl, fun i x hx => by simp at hx⟩
 | succ m ih =>
   intro ev
   obtain ⟨ls, h1, h2⟩ := ih fun i hi => ev i (by omega)
   obtain ⟨a, ha⟩ := ev m (by omega)
   refine ⟨ls ++ [a], by simp [h1], fun i x hx => ?_⟩
   rw [List.getElem?_append] at hx
   split at hx
   ·exact h2 i x hx
   ·have : i - ls.length = 0 := by
     have := (List.getElem?_eq_some_iff.1 hx).1
     simp at this
     omega
    rw [this] at hx
    simp at hx
    subst hx
    rw [(by omega : i = m)]
    exact ha
end
theorem jiJ : pZ.cellsOf 44 = 8 := by kernel_rfl
theorem cells_N : pZ.cellsOf 42 = 4 := by kernel_rfl
theorem cells_I : pZ.cellsOf 40 = 2 := by kernel_rfl
theorem jft : pZ.cellsOf 3 = 1 := by kernel_rfl
theorem jeE : pZ.cellsOf 4 = 1 := by kernel_rfl
theorem cells_f64 : pZ.cellsOf 37 = 1 := by kernel_rfl
theorem jfs : pZ.cellsOf 9 = 1 := by kernel_rfl
theorem cells_Ls : pZ.cellsOf 38 = 1 := by kernel_rfl
theorem jju : pZ.cellsOf 25 = 1 := by kernel_rfl
theorem cells_u32 : pZ.cellsOf 141 = 1 := by kernel_rfl
section
variable {H : Type} {enc : TypeId × Value → H} {W : World} {sp : Nat → Bool} {hd : Bool}
theorem jco {fuel : Nat} {cs : List Value} {x : DataW H × List MemPlace} (h : DataW.trod enc pZ W 0 sp hd fuel 3 cs = some x) : ∃ n, cs = [.int .i64 n] ∧ wfI n := by
 obtain ⟨n, h1, _, h2⟩ := DataW.trod_int Tryz.underlying3 h
 exact ⟨n, h1, h2⟩
theorem four {α : Type} {l : List α} (h : l.length = 4) : ∃ a b c d, l = [a, b, c, d] := by
 cases l with
 | nil => simp at h
 | cons a l => cases l with
   | nil => simp at h
   | cons b l => cases l with
     | nil => simp at h
     | cons c l => cases l with
       | nil => simp at h
       | cons d l =>
         obtain rfl : l = [] := List.length_eq_zero_iff.1 (by simpa using h)
         exact ⟨a, b, c, d, rfl⟩
theorem eight {α : Type} {l : List α} (h : l.length = 8) : ∃ a b c d e f g i, l = [a, b, c, d, e, f, g, i] := by
 obtain ⟨a, b, c, d, h1⟩ := four (l := l.take 4) (by rw [List.length_take, h]; rfl)
 obtain ⟨e, f, g, i, h2⟩ := four (l := l.drop 4) (by rw [List.length_drop, h])
 exact ⟨a, b, c, d, e, f, g, i, by rw [← List.take_append_drop 4 l, h1, h2]; rfl⟩
end
end
noncomputable section
theorem i_D : pZ.info? 44 = some Tryz.t44 := by kernel_rfl
theorem i_Dl : pZ.info? 25 = some Tryz.t25 := by kernel_rfl
@[go_sem] def ld_Dl := jbK (P := pZ) Tryz.underlying25 rfl
@[go_sem] def fa_D0 := jaq (P := pZ) (f := 0) (ft := 3) (off := 0) Tryz.underlying44 rfl jcg rfl
@[go_sem] def fa_D1 := jaq (P := pZ) (f := 1) (ft := 3) (off := 1) Tryz.underlying44 rfl jcg rfl
@[go_sem] def fa_D2 := jaq (P := pZ) (f := 2) (ft := 42) (off := 2) Tryz.underlying44 rfl i_Num rfl
@[go_sem] def fa_D3 := jaq (P := pZ) (f := 3) (ft := 9) (off := 6) Tryz.underlying44 rfl jkb rfl
@[go_sem] def fa_D4 := jaq (P := pZ) (f := 4) (ft := 25) (off := 7) Tryz.underlying44 rfl i_Dl rfl
def obDt (l : List Value) : Ob := .cells 8 44 l.toArray .e 0 0 false false
theorem ix_D {ρ : Operand → Value} {a b : Operand} {i o l c k : Nat} (hk : k < l) (h1 : ρ a = .slice (some ⟨i, o, none⟩) l c) (h2 : ρ b = .int .i64 (.ofNat k)) : jan pZ ρ 25 a b = some (.pointer (some ⟨i, o + 8 * k, none⟩)) := by
 unfold jan
 simp only [h1, h2, Tryz.underlying25, aIdx, i_D]
 rw [show Nat.blt k l = true from by simpa using hk]
 simp only
 rw [show Nat.mul k Tryz.t44.size = 8 * k from Nat.mul_comm k 8]
 unfold Addr.add
 by_cases g : 8 * k = 0
 ·rw [if_pos g, g]; rfl
 ·rw [if_neg g]
theorem Has.ld_D {μ : Mem} {i o : Nat} {l : List Value} (h : Has μ i o l) (hl : l.length = 8) : jcq pZ μ 44 (.pointer (some ⟨i, o, none⟩)) = some (.agg l.toArray) := h.load Tryz.underlying44 i_D (by rw [hl]; rfl)
def zD8 : List Value := [.int .i64 0, .int .i64 0, .bool false, .float .f64 0, .bool false, .slice none 0 0, .string ⟨#[]⟩, .slice none 0 0]
@[go_sem] theorem al_D : jcS pZ 44 = some (obDt zD8, fun id => .pointer (some ⟨id, 0, none⟩)) := by kernel_rfl
theorem jkn {μ : Mem} {l : List Value} : Blk ⟨μ.obs.set μ.next (obDt l), μ.next + 1⟩ μ.next 8 44 := ⟨_, _, _, _, by show T.get _ _ = _; rw [T.get_set, if_pos rfl]; rfl⟩
theorem st_D {μ : Mem} {i o n t : Nat} {l : List Value} (h : Blk μ i n t) (ho : o + 8 ≤ n) (hl : l.length = 8) (h1 : l.all one = true) : jbx pZ μ 44 (.pointer (some ⟨i, o, none⟩)) (.agg l.toArray) = some (undef, putL μ i o l) := jcr (vs := l) i_D (by rw [hl]; rfl) h1 h (by omega)
theorem IsU.len {μ : Mem} {ls : List Nat} {v : Value} (h : IsU μ ls v) : aLen pZ 38 v = some ls.length := by
 unfold aLen
 rcases h with ⟨_, _, ⟨rfl, rfl⟩ | ⟨i, o, c, rfl, _⟩⟩ <;> simp only [Tryz.underlying38] <;> rfl
theorem IsU.one {μ : Mem} {ls : List Nat} {v : Value} (h : IsU μ ls v) : one v = true := by
 rcases h with ⟨_, _, ⟨rfl, rfl⟩ | ⟨i, o, c, rfl, _⟩⟩ <;> rfl
theorem IsL.len {μ : Mem} {l : List Dat} {v : Value} (h : IsL μ l v) : aLen pZ 25 v = some l.length := by
 unfold aLen
 rcases h with ⟨_, ⟨rfl, rfl⟩ | ⟨i, o, c, rfl, _⟩⟩ <;> simp only [Tryz.underlying25] <;> rfl
theorem IsL.one {μ : Mem} {l : List Dat} {v : Value} (h : IsL μ l v) : one v = true := by
 rcases h with ⟨_, ⟨rfl, rfl⟩ | ⟨i, o, c, rfl, _⟩⟩ <;> rfl
theorem IsD.eight {μ : Mem} {d : Dat} {cs : List Value} (h : IsD μ d cs) : cs.length = 8 ∧ cs.all one = true := by
 cases d
 rw [jdh] at h
 obtain ⟨vl, vi, rfl, _, h1, h2⟩ := h
 refine ⟨rfl, ?_⟩
 simp only [List.all_cons, List.all_nil, h1.one, h2.one]
 rfl
theorem IsL.at {μ : Mem} {l : List Dat} {v : Value} {k : Nat} {d : Dat} (h : IsL μ l v) (hd : l[k]? = some d) : ∃ i o c cs, v = .slice (some ⟨i, o, none⟩) l.length c ∧ i < μ.next ∧ Has μ i (o + 8 * k) cs ∧ IsD μ d cs := by
 rcases h with ⟨_, ⟨_, rfl⟩ | ⟨i, o, c, h1, h2, h3, _⟩⟩
 ·simp at hd
 ·obtain ⟨cs, h4, h5⟩ := isDs_at h3 hd
  exact ⟨i, o, c, cs, h1, h2 (by rintro rfl; simp at hd), h4, h5⟩
@[go_sem] def gg66 {X ev} := gC X ev Tryz.func66 rfl rfl
@[go_sem] def gg83 {X ev} := gC X ev Tryz.func83 rfl rfl
@[go_sem] def gg81 {X ev} := gC X ev Tryz.func81 rfl rfl
@[go_sem] def gg84 {X ev} := gC X ev Tryz.func84 rfl rfl
@[go_sem] def gg62 {X ev} := gC X ev Tryz.func62 rfl rfl
def jb1 (X : XT) : Prop := ∀ a μ, X 60 [.float .f64 a] μ = some (.int .u64 (.ofNat a), μ)
theorem go_bits {X : XT} {ev : ET} (args : List Value) (μ : Mem) : aGo pZ X (jbj pZ ev S0) 60 args μ = X 60 args μ := by
 unfold aGo
 rw [Tryz.func60]
 rfl
theorem wf_f64 {f : Nat} (h : (Lit.float .f64 f).wf = true) : f < 18446744073709551616 := by
 simpa [Lit.wf] using h
theorem wAnd11 (a : Nat) : jbA Nat.land .u64 .u64 (.ofNat (W a)) 2047 = some (.int .u64 (.ofNat (W (W a &&& 2047)))) := jfJ _ 2047 (W_lt a) (by decide)
theorem wAnd52 (a : Nat) : jbA Nat.land .u64 .u64 (.ofNat (W a)) 4503599627370495 = some (.int .u64 (.ofNat (W (W a &&& 4503599627370495)))) := jfJ _ 4503599627370495 (W_lt a) (by decide)
def nb (f : Nat) : Nat := if W (W (W f / 2 ^ 52) &&& 2047) = 2047 ∧ W (W f &&& 4503599627370495) ≠ 0 then 9221120237041090561 else f
theorem jgL {X : XT} {g f : Nat} {μ : Mem} (hX : jb1 X) (hf : f < 18446744073709551616) (hg : 20 ≤ g) : aFun pZ (jaj pZ X S0 g) 66 [.float .f64 f] μ = some (u (nb f), μ) := by
 obtain ⟨k, rfl⟩ := gle hg
 have hc : ∀ μ', aGo pZ X (jbj pZ (jaj pZ X S0 (k + 17)) S0) 60 [.float .f64 f] μ' = some (u f, μ') := fun μ' => (go_bits _ _).trans ((hX f μ').trans (by rw [u_of hf]))
 obtain ⟨p, hp⟩ := exq (W (W (W f / 2 ^ 52) &&& 2047))
 obtain ⟨q, hq⟩ := exq (W (W f &&& 4503599627370495))
 have a1 := jc4 f
 have a2 := wAnd11 (W f / 2 ^ 52)
 have a3 := wAnd52 f
 rw [← hp] at a2
 rw [← hq] at a3
 have t1 : ieq (.ofNat p) 2047 = decide (p = 2047) := jaB p 2047 2047 rfl
 have t2 : ieq (.ofNat q) 0 = decide (q = 0) := jaB q 0 0 rfl
 have hn : nb f = if p = 2047 ∧ q ≠ 0 then 9221120237041090561 else f := by rw [hp, hq]; rfl
 refine jaF ?_
 rw [hn]
 by_cases h1 : p = 2047
 ·rw [rzU h1] at t1
  by_cases h2 : q = 0
  ·rw [rzU h2] at t2
   rw [if_neg (fun h => h.2 h2)]
   refine jaf Tryz.func66 rfl rfl (nbl rfl) ?_
   simp only [go_sem, Tryz.ntmps66]
   repeat ((first | refine jab rfl ?_ | refine jam rfl ?_); (try simp only [go_sem, hc, a1, a2, a3, t1, t2]); fail_if_success refine stk ?_)
   exact jad ⟨rfl, _, by simp only [go_sem, Tryz.results66], rfl, rfl⟩
  ·rw [rzV h2] at t2
   rw [if_pos ⟨h1, h2⟩]
   refine jaf Tryz.func66 rfl rfl (nbl rfl) ?_
   simp only [go_sem, Tryz.ntmps66]
   repeat ((first | refine jab rfl ?_ | refine jam rfl ?_); (try simp only [go_sem, hc, a1, a2, a3, t1, t2]); fail_if_success refine stk ?_)
   refine jad ?_
   refine ⟨rfl, _, ?_, rfl, rfl⟩
   simp only [go_sem, Tryz.results66]
   show some (Value.int .u64 (.ofNat 9221120237041090561)) = _
   rw [u_of (by decide)]
 ·rw [rzV h1] at t1
  rw [if_neg (fun h => h1 h.1)]
  refine jaf Tryz.func66 rfl rfl (nbl rfl) ?_
  simp only [go_sem, Tryz.ntmps66]
  repeat ((first | refine jab rfl ?_ | refine jam rfl ?_); (try simp only [go_sem, hc, a1, a2, a3, t1, t2]); fail_if_success refine stk ?_)
  exact jad ⟨rfl, _, by simp only [go_sem, Tryz.results66], rfl, rfl⟩
theorem nb_lt {f : Nat} (hf : f < 18446744073709551616) : nb f < 18446744073709551616 := by
 unfold nb
 split
 ·decide
 ·exact hf
theorem same3_eq {X : XT} {g f h : Nat} {μ : Mem} (hX : jb1 X) (hf : f < 18446744073709551616) (hh : h < 18446744073709551616) (hg : 40 ≤ g) : aFun pZ (jaj pZ X S0 g) 83 [.float .f64 f, .float .f64 h] μ = some (.bool (decide (nb f = nb h)), μ) := by
 obtain ⟨k, rfl⟩ := gle hg
 have c1 : ∀ μ', aFun pZ (jaj pZ X S0 (k + 37)) 66 [.float .f64 f] μ' = some (u (nb f), μ') := fun μ' => jgL hX hf (by omega)
 have c2 : ∀ μ', aFun pZ (jaj pZ X S0 (k + 37)) 66 [.float .f64 h] μ' = some (u (nb h), μ') := fun μ' => jgL hX hh (by omega)
 have t1 : ieq (.ofNat (W (nb f))) (.ofNat (W (nb h))) = decide (nb f = nb h) := by rw [jbG, W_of (nb_lt hf), W_of (nb_lt hh)]
 refine jaF ?_
 refine jaf Tryz.func83 rfl rfl (nbl rfl) ?_
 simp only [go_sem, Tryz.ntmps83]
 repeat (refine jaa rfl ?_; (try simp only [go_sem, c1, c2, t1]); fail_if_success refine stk ?_)
 exact jad ⟨rfl, _, by simp only [go_sem, Tryz.results83], rfl, rfl⟩
theorem IsU.at {μ : Mem} {ls : List Nat} {v : Value} {k x : Nat} (h : IsU μ ls v) (hx : ls[k]? = some x) : x < 4294967296 ∧ ∃ i o c, v = .slice (some ⟨i, o, none⟩) ls.length c ∧ i < μ.next ∧ jal μ i (o + k) = some (.int .u32 (.ofNat x)) := by
 obtain ⟨hk, rfl⟩ := List.getElem?_eq_some_iff.1 hx
 refine ⟨h.1 _ (List.getElem_mem hk), ?_⟩
 rcases h.2.2 with ⟨_, rfl⟩ | ⟨i, o, c, h1, h2, _⟩
 ·simp at hk
 ·have hn : ls ≠ [] := by rintro rfl; simp at hk
  refine ⟨i, o, c, h1, (h2 hn).1, ?_⟩
  have := (h2 hn).2.cell k (by simpa using hk)
  simpa using this
theorem ix_U {ρ : Operand → Value} {a b : Operand} {i o l c k : Nat} (hk : k < l) (h1 : ρ a = .slice (some ⟨i, o, none⟩) l c) (h2 : ρ b = .int .i64 (.ofNat k)) : jan pZ ρ 38 a b = some (.pointer (some ⟨i, o + k, none⟩)) :=
 jaL (P := pZ) Tryz.underlying38 jcI rfl h1 h2 hk
theorem jjP {xs ys : List Nat} {v w : Value} (hlen : xs.length = ys.length) (hl : xs.length ≤ 2000000) : ∀ (j i : Nat), i + j = xs.length → (xs.take i = ys.take i) → ∀ {X : XT} {e : Nat} {tm : T Value} {μ : Mem}, IsU μ xs v → IsU μ ys w →
  jac tm 0 = v → jac tm 1 = w → jac tm 12 = .int .i64 (.ofNat xs.length) → jac tm 13 = .int .i64 (.ofNat i) →
  LpC X (e + j + 30) Tryz.f81 0 26 tm μ fun x r μ' => Grow μ μ' ∧ ∃ tm', r = ⟨26, tm', [], none⟩ ∧ ((x = .exit 0 ∧ xs = ys) ∨ (x = .ret ∧ xs ≠ ys ∧ jac tm' 4 = .bool false)) := by
 intro j
 induction j with
 | zero =>
   intro i hi ht X e tm μ hv hw h0 h1 h12 h13
   have hi : i = xs.length := hi
   have e1 : ilt (.ofNat i) (.ofNat xs.length) = false := dF (jao _ _) (by omega)
   refine jah ?_
   repeat (refine jaa rfl ?_; (try simp only [go_sem, h12, h13, e1]); fail_if_success refine stk ?_)
   refine ⟨Grow.refl _, _, rfl, .inl ⟨by trivial, ?_⟩⟩
   rw [hi, List.take_length, hlen, List.take_length] at ht
   exact ht
 | succ j ih =>
   intro i hi ht X e tm μ hv hw h0 h1 h12 h13
   have hx : i < xs.length := by omega
   have hy : i < ys.length := by omega
   have e1 : ilt (.ofNat i) (.ofNat xs.length) = true := dT (jao _ _) hx
   have a1 : jak .i64 (Int.add (.ofNat i) 1) = .ofNat (i + 1) := jaE i 1 (by omega)
   obtain ⟨bx, bi, bo, bc, hbv, hbi, hbc⟩ := hv.at (rzK hx)
   obtain ⟨cx, ci, co, cc, hcv, hci, hcc⟩ := hw.at (rzK hy)
   obtain ⟨p, hp⟩ := exq (xs[i]'hx)
   obtain ⟨q, hq⟩ := exq (ys[i]'hy)
   rw [← hp] at hbc
   rw [← hq] at hcc
   have hix : ∀ r x y, aev pZ r x = v → aev pZ r y = .int .i64 (.ofNat i) → jan pZ (aev pZ r) 38 x y = some (.pointer (some ⟨bi, bo + i, none⟩)) := fun r x y g1 g2 => ix_U hx (g1.trans hbv) g2
   have hiy : ∀ r x y, aev pZ r x = w → aev pZ r y = .int .i64 (.ofNat i) → jan pZ (aev pZ r) 38 x y = some (.pointer (some ⟨ci, co + i, none⟩)) := fun r x y g1 g2 => ix_U hy (g1.trans hcv) g2
   have hcb : ∀ m, jal ⟨μ.obs, m⟩ bi (bo + i) = some (.int .u32 (.ofNat p)) := fun m => hbc
   have hcc' : ∀ m, jal ⟨μ.obs, m⟩ ci (co + i) = some (.int .u32 (.ofNat q)) := fun m => hcc
   have hG : Grow μ ⟨μ.obs, μ.next + 9⟩ := jez μ 9
   by_cases hpq : p = q
   ·have e2 : ieq (.ofNat p) (.ofNat q) = true := dT (jbG _ _) hpq
    have ht' : xs.take (i + 1) = ys.take (i + 1) := by
     rw [List.take_add_one, List.take_add_one, ht, rzK hx, rzK hy, ← hp, ← hq, hpq]
    refine jah ?_
    repeat (refine jaa rfl ?_; (try simp only [go_sem, h12, h13, e1]); fail_if_success refine stk ?_)
    skip
    refine jaz (n := 9) (ms := [0, 0, 3, 7, 0, 0, 48, 112, 255]) (ord := [0, 1, 2, 3, 4, 5, 6, 7, 8]) (ds := ?_) ?_ ?_ ?_ ?_ ?_ ?_
    rotate_left
    ·kernel_rfl
    ·kernel_rfl
    ·kernel_rfl
    ·rfl
    ·rfl
    repeat (first | (refine ja8 ?_ rfl ?_; (solve | simp only [go_sem, h0, h1, hix, hiy, hcb, hcc', e2])) | (refine jay (v := ?_) (μ' := ?_) (sn' := ?_) ?_ ?_ rfl ?_; rotate_left 3; (solve | rfl | simp only [go_sem, h0, h1, hix, hiy, hcb, hcc', e2]); (solve | simp only [jaC, heavy, jaO, jar, go_sem, h0, h1, hix, hiy, hcb, hcc', e2]; try exact rfl)))
    simp only [dRun, jat, jai]
    repeat (refine jaa rfl ?_; (try simp only [go_sem, h0, h1, h12, h13, a1]); fail_if_success refine stk ?_)
    rw [(by omega : e + (j + 1) + 29 = e + j + 30)]
    refine rzM (ih (i + 1) (by omega) ht' (hv.grow hG) (hw.grow hG) (by simp only [go_sem, h0]) (by simp only [go_sem, h1]) (by simp only [go_sem, h12]) (by simp only [go_sem])) ?_
    rintro x r μ' ⟨g1, g2⟩
    exact ⟨hG.trans g1, g2⟩
   ·have e2 : ieq (.ofNat p) (.ofNat q) = false := dF (jbG _ _) hpq
    refine jah ?_
    repeat (refine jaa rfl ?_; (try simp only [go_sem, h12, h13, e1]); fail_if_success refine stk ?_)
    skip
    refine jaz (n := 9) (ms := [0, 0, 3, 7, 0, 0, 48, 112, 255]) (ord := [0, 1, 2, 3, 4, 5, 6, 7, 8]) (ds := ?_) ?_ ?_ ?_ ?_ ?_ ?_
    rotate_left
    ·kernel_rfl
    ·kernel_rfl
    ·kernel_rfl
    ·rfl
    ·rfl
    repeat (first | (refine ja8 ?_ rfl ?_; (solve | simp only [go_sem, h0, h1, hix, hiy, hcb, hcc', e2])) | (refine jay (v := ?_) (μ' := ?_) (sn' := ?_) ?_ ?_ rfl ?_; rotate_left 3; (solve | rfl | simp only [go_sem, h0, h1, hix, hiy, hcb, hcc', e2]); (solve | simp only [jaC, heavy, jaO, jar, go_sem, h0, h1, hix, hiy, hcb, hcc', e2]; try exact rfl)))
    simp only [dRun, jat, jai]
    repeat (refine jaa rfl ?_; (try simp only [go_sem, h0, h1, h12, h13, a1]); fail_if_success refine stk ?_)
    refine jad ?_
    exact ⟨hG, _, rfl, .inr ⟨by trivial, fun e => hpq (by subst e; rw [hp, hq]), by simp only [go_sem]⟩⟩
theorem ji7 {xs ys : List Nat} {v w : Value} {X : XT} {g : Nat} {μ : Mem} (hv : IsU μ xs v) (hw : IsU μ ys w) (hl : xs.length ≤ 2000000) (hg : xs.length + 100 ≤ g) : ∃ μ', aFun pZ (jaj pZ X S0 g) 81 [v, w] μ = some (.bool (decide (xs = ys)), μ') ∧ Grow μ μ' := by
 obtain ⟨k, hk, rfl⟩ : ∃ k, xs.length ≤ k ∧ g = k + 100 := ⟨g - 100, by omega, by omega⟩
 have l1 := hv.len
 have l2 := hw.len
 have key : EndsF (aFun pZ (jaj pZ X S0 (k + 100)) 81 [v, w] μ) fun r μ' => r = .bool (decide (xs = ys)) ∧ Grow μ μ' := by
  by_cases hlen : xs.length = ys.length
  ·have e1 : ieq (.ofNat xs.length) (.ofNat ys.length) = true := dT (jbG _ _) hlen
   refine jaf Tryz.func81 rfl rfl (nbl rfl) ?_
   simp only [go_sem, Tryz.ntmps81]
   repeat (refine jaa rfl ?_; (try simp only [go_sem, l1, l2, jae, e1]); fail_if_success refine stk ?_)
   rw [(by omega : k + 95 = (k + 65 - xs.length) + xs.length + 30)]
   refine rzM (jjP hlen hl xs.length 0 (rzT _) rfl hv hw (by simp only [go_sem]) (by simp only [go_sem]) (by simp only [go_sem]) (by simp only [go_sem]; try rfl)) ?_
   rintro x r μ' ⟨g1, tm', rfl, ⟨rfl, g2⟩ | ⟨rfl, g2, g3⟩⟩
   ·simp only [go_sem]
    repeat (refine jaa rfl ?_; (try simp only [go_sem]); fail_if_success refine stk ?_)
    refine jad ?_
    refine ⟨rfl, .bool true, ?_, by rw [rzU g2], g1⟩
    simp only [go_sem, Tryz.results81]
   ·simp only [jbi]
    refine ⟨rfl, .bool false, ?_, by rw [rzV g2], g1⟩
    simp only [go_sem, Tryz.results81]
    rw [g3]
  ·have e1 : ieq (.ofNat xs.length) (.ofNat ys.length) = false := dF (jbG _ _) hlen
   refine jaf Tryz.func81 rfl rfl (nbl rfl) ?_
   simp only [go_sem, Tryz.ntmps81]
   repeat (refine jaa rfl ?_; (try simp only [go_sem, l1, l2, jae, e1]); fail_if_success refine stk ?_)
   refine jad ?_
   refine ⟨rfl, .bool false, ?_, by rw [rzV (fun h => hlen (by rw [h]))], Grow.refl _⟩
   simp only [go_sem, Tryz.results81]
 obtain ⟨r, μ', h1, rfl, h2⟩ := key
 exact ⟨μ', h1, h2⟩
end
end Go.Proofs.YtlkenchibdeinaaGreatDoor.ce
