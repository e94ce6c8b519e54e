/-
  What functions of this seat compute, part 'NodeAdd': contracts over their readable predicates. Conditions: each theorem's own hypotheses.
-/
import Derived.Test.YtiohmpihadcpaaaBase
import Derived.Test.YtiohmpihadcpaaaOpen
import Derived.Test.YtiohmpihadcpaaaGen
import Derived.Test.YtiohmpihadcpaaaCSmall
import Derived.Test.YtiohmpihadcpaaaCOrder
import Derived.Test.YtiohmpihadcpaaaCNode
import Derived.Test.YtiohmpihadcpaaaCNodeText
import Derived.Test.YtiohmpihadcpaaaCNodeValid
import Derived.Test.YtiohmpihadcpaaaCNodeSpec
import Derived.Test.YtiohmpihadcpaaaCHelpS
import Derived.Test.YtiohmpihadcpaaaCNodeHelp
import Derived.Test.YtiohmpihadcpaaaCNodeHelp2
import Derived.Test.YtiohmpihadcpaaaCNodeCopy
namespace Go.Proofs
open Go Go.Vc Go.RowKit
set_option maxRecDepth 100000
set_option linter.unusedVariables false
--! C:Small C:Order C:Node C:NodeText C:NodeValid C:NodeSpec C:HelpS C:NodeHelp C:NodeHelp2 C:NodeCopy
/-! ## A name added to a map -/

theorem c_spec_place {S : Nat → Prop} {w : World} {c : NdC} {n : Nd} (step : ByteArray) (h : NdAt S w c n) (h4 : n.k = 4) (hl0 : n.ns.length = n.ks.length) :
    CallR Try.prog 90 [c.v, .string step] w (fun v w' => ((∃ i : Nat, v = .int .i64 i ∧ i < n.ks.length ∧ step ∈ n.ns) ∨ (v = .int .i64 (-1) ∧ step ∉ n.ns)) ∧ Ext w w') := by
  refine fn_spec_place _ _ _ _ _ _ _ _ ?_
  unfold g_spec_place
  refine ndStart fun w1 e1 r1 => ?_
  obtain ⟨k0, k1, k2, k3, k4⟩ := Row.nd r1
  obtain ⟨ok, om, ot, hn, hts, hnl, hkl, hns, _⟩ := h.out
  have hk := h.klen
  have ck : c.k = 4 := by rw [ok, h4]
  unfold maxLen at hkl
  refine sLoop_list n.ns (fun pre _ w' => Ext w1 w' ∧ step ∉ pre) ⟨Ext.refl _, by simp⟩ ?_ ?_
  · intro K pre post x t w3 hx ⟨he, hp⟩ hK _
    have hl := mid_len hx
    simp only [exL (he.get k4), exI (he.get k0), beqI]
    refine br_dt (by first | omega | (simp only; omega)) (br_dt ck ?_)
    rw [exL (he.get k3)]
    obtain ⟨a, ha, hc⟩ := (hn.ext (e1.trans he)).sm hx
    refine onSome_i ha ⟨⟨by first | omega | (simp only; omega), by first | omega | (simp only; omega)⟩, ?_⟩
    simp only [exS hc, seqB_eq]
    refine br_d (fun hs => ⟨.inl ⟨pre.length, rfl, by omega, by rw [hx, hs]; simp⟩, e1.trans he⟩) (fun hs => ?_)
    exact br_df (by omega) ⟨inR_i64 (by omega) (by omega), hK _ _ ⟨he, by simp [hp, Ne.symm hs]⟩⟩
  · intro K t w3 ⟨he, hp⟩ _
    simp only [exL (he.get k4)]
    exact br_df (by first | omega | (simp only; omega)) ⟨.inr ⟨by simp, hp⟩, e1.trans he⟩

theorem c_spec_slot {S : Nat → Prop} {w : World} {c : NdC} {n : Nd} (step : ByteArray) (h : NdAt S w c n) (h4 : n.k = 4) (hl0 : n.ns.length = n.ks.length) (hno : step ∉ n.ns) :
    CallR Try.prog 94 [c.v, .string step] w (fun v w' => (∃ i : Nat, v = .tuple #[.int .i64 i, .bool false] ∧ i ≤ n.ks.length) ∧ Ext w w') := by
  refine fn_spec_slot _ _ _ _ _ _ _ _ ?_
  unfold g_spec_slot
  refine ndStart fun w1 e1 r1 => ?_
  obtain ⟨k0, k1, k2, k3, k4⟩ := Row.nd r1
  obtain ⟨ok, om, ot, hn, hts, hnl, hkl, hns, _⟩ := h.out
  have hk := h.klen
  have ck : c.k = 4 := by rw [ok, h4]
  unfold maxLen at hkl
  simp only [exI k0, exI k1, exS k2, exL k3, exL k4]
  refine (c_spec_place step (h.ext e1) h4 hl0).mono ?_
  rintro _ w2 ⟨hv, e2⟩
  rcases hv with ⟨i, _, _, hin⟩ | ⟨rfl, _⟩
  · exact absurd hin hno
  have e02 := e1.trans e2
  refine ⟨_, rfl, br_df (by omega) ?_⟩
  rw [exI (e2.get k0), beqI]
  refine br_df (by omega) ?_
  refine sLoop_list n.ns (fun pre _ w' => Ext w2 w') (Ext.refl _) ?_ ?_
  · intro K pre post x t w3 hx he hK _
    have hl := mid_len hx
    have e13 := e2.trans he
    simp only [exL (e13.get k4), exI (e13.get k0), beqI]
    refine br_dt ck (br_dt (by first | omega | (simp only; omega)) (br_df (by first | omega | (simp only; omega)) ?_))
    rw [exL (e13.get k3)]
    obtain ⟨a, ha, hc⟩ := (hn.ext (e02.trans he)).sm hx
    refine onSome_i ha ⟨⟨by first | omega | (simp only; omega), by first | omega | (simp only; omega)⟩, ?_⟩
    simp only [exS hc]
    exact br_i (fun _ => ⟨⟨pre.length, rfl, by omega⟩, e02.trans he⟩) (fun _ => ⟨inR_i64 (by omega) (by omega), hK _ _ he⟩)
  · intro K t w3 he _
    have e13 := e2.trans he
    simp only [exL (e13.get k4), exI (e13.get k0), beqI]
    exact br_dt ck (br_dt (by first | omega | (simp only; omega)) (br_dt (by first | omega | (simp only; omega)) ⟨⟨n.ns.length, rfl, by omega⟩, e02.trans he⟩))

theorem src_front {α : Type} {c : α → List Value} {size : Nat} {w : World} {s : Sl} {xs : List α} {k : Nat} (h : SlOf c w s xs) (hc : ∀ x, (c x).length = size) (h1 : ∀ x, ∀ u ∈ c x, u.oneCell' = true) (hn : s.a = none → s.cap = 0) (hk : k ≤ s.len) :
    Vc.Src w ⟨resl s.a s.cap ((0 : Int)).toNat size, ((k : Int)).toNat - ((0 : Int)).toNat, s.cap - ((0 : Int)).toNat⟩ size ((xs.take k).flatMap c) := by
  rw [Int.toNat_zero, resl_zero, Nat.sub_zero, Nat.sub_zero, Int.toNat_natCast]
  exact Src.of (h.front hk) hc h1 hn

theorem src_drop {α : Type} {c : α → List Value} {size : Nat} {w : World} {s : Sl} {xs : List α} {k : Nat} (h : SlOf c w s xs) (hc : ∀ x, (c x).length = size) (h1 : ∀ x, ∀ u ∈ c x, u.oneCell' = true) (hn : s.a = none → s.cap = 0) (hk : k ≤ s.len) :
    Vc.Src w ⟨resl s.a s.cap ((k : Int)).toNat size, ((s.len : Int)).toNat - ((k : Int)).toNat, s.cap - ((k : Int)).toNat⟩ size ((xs.drop k).flatMap c) := by
  rw [Int.toNat_natCast, Int.toNat_natCast]
  refine Src.of (h.drop hc hk) hc h1 fun hr => ?_
  have : s.a = none := by
    cases ha : s.a with
    | none => rfl
    | some a => rw [ha] at hr; obtain ⟨a', h', _⟩ := resl_some a s.cap k size; rw [h'] at hr; cases hr
  have := hn this
  simp only
  omega

theorem Own.with0 {base : Nat} {e : TypeId} {size : Nat} {w : World} {s : Sl} {vs : List Value} (h : Own base e size w s vs) {b : Nat} (hb : b < base) : ∀ k, s.v.ownBlock = some k → k ≠ b := fun k hk he => by
  have := (h.lt k hk).1
  omega

/-- A node as it is drawn: its names are its own and grow in place; all else lies elsewhere. -/
structure Dn (base : Nat) (w : World) (c : NdC) (n : Nd) : Prop where
  own : Own base 9 1 w c.sn (n.ns.flatMap cS)
  bare : NdAt (fun j => base ≤ j ∧ c.sn.v.ownBlock ≠ some j) w ⟨c.k, c.m, c.t, ⟨none, 0, 0⟩, c.sk⟩ (.mk c.k c.m c.t [] n.ks)
  eta : n = .mk c.k c.m c.t n.ns n.ks
  tame : tm n = true
  names : ∀ x ∈ n.ns, x.size ≤ maxLen

theorem Dn.nd {base : Nat} {w : World} {c : NdC} {n : Nd} (h : Dn base w c n) : NdAt (fun j => base ≤ j) w c n := by
  obtain ⟨_, _, _, _, hts, _, hkl, _, cs, hs, hl, hk⟩ := h.bare.out
  have hb := h.bare
  obtain ⟨t1, t2, _⟩ := tm_out h.tame
  rw [show n = Nd.mk c.k c.m c.t n.ns n.ks from h.eta]
  have hS2 : n.ks ≠ [] → ∀ a, c.sk.a = some a → base ≤ a.block := by
    cases hb with
    | mk _ _ _ _ _ _ _ _ hS2 _ _ _ => exact fun hne a ha => (hS2 hne a ha).1
  refine NdAt.mk c n.ns n.ks cs (h.own.slOf cS_len (by decide)) hs hl (fun _ a ha => (h.own.lt _ (by simp [Sl.v, Value.ownBlock, ha])).1) hS2 ⟨hts, by unfold maxLen; omega, hkl, h.names⟩ (Own.cap0 h.own) ?_
  intro i d x h1 h2
  exact (hk i d x h1 h2).mono fun k hk _ => hk.1

theorem Dn.ext {base : Nat} {w w' : World} {c : NdC} {n : Nd} (h : Dn base w c n) (he : Ext w w') : Dn base w' c n := ⟨h.own.ext he, h.bare.ext he, h.eta, h.tame, h.names⟩
theorem Dn.chg {base b : Nat} {w w' : World} {c : NdC} {n : Nd} (h : Dn base w c n) (hc : Chg b w w') (hb : b < base) : Dn base w' c n := ⟨h.own.chg hc hb, h.bare.chg hc (by omega), h.eta, h.tame, h.names⟩
theorem Dn.base_le {base base' : Nat} {w : World} {c : NdC} {n : Nd} (h : Dn base w c n) (hb : base' ≤ base) : Dn base' w c n := ⟨h.own.base_le hb, h.bare.mono fun k hk _ => ⟨by omega, hk.2⟩, h.eta, h.tame, h.names⟩

/-- A node made of kids and, later, of names. -/
theorem Dn.make {base m : Nat} {w w0 : World} {k mm : Int} {t : ByteArray} {sn sk : Sl} {ns : List ByteArray} {ks : List Nd} (hk : KidsAt base w0 sk ks) (hm : w0.heap.size ≤ m) (hbm : base ≤ m) (hw : ∀ S : Nat → Prop, ∀ c n, NdAt (fun j => S j ∧ base ≤ j ∧ j < w0.heap.size) w0 c n → NdAt (fun j => S j ∧ base ≤ j ∧ j < w0.heap.size) w c n)
    (hn : Own m 9 1 w sn (ns.flatMap cS)) (ht : t.size ≤ maxLen) (h1 : ns.length ≤ 1000) (h2 : ks.length ≤ 1000) (h3 : ∀ x ∈ ns, x.size ≤ maxLen) (h4 : ∀ x ∈ ks, tm x = true) : Dn base w ⟨k, mm, t, sn, sk⟩ (.mk k mm t ns ks) := by
  refine ⟨hn.base_le hbm, ?_, rfl, ?_, h3⟩
  · have h0 : NdAt (fun j => True ∧ base ≤ j ∧ j < w0.heap.size) w0 ⟨k, mm, t, ⟨none, 0, 0⟩, sk⟩ (.mk k mm t [] ks) := by
      have := NdAt.make (k := k) (m := mm) (t := t) (ns := []) hk (Own.nil w0 _ 1 _) ht (by simp) (by omega) (by simp)
      exact this.mono fun j hj hlt => ⟨trivial, hj, hlt⟩
    refine (hw (fun _ => True) _ _ h0).mono fun j hj _ => ⟨hj.2.1, fun e => ?_⟩
    have := (hn.lt j e).1
    omega
  · rw [tm_eq]
    simp only [Bool.and_eq_true, decide_eq_true_eq, List.all_eq_true]
    exact ⟨⟨h1, h2⟩, h4⟩

set_option maxHeartbeats 4000000 in
theorem c_spec_addHere {S S' : Nat → Prop} {w : World} {c cv : NdC} {n x : Nd} (step : ByteArray) (h : NdAt S w c n) (hx : NdAt S' w cv x) (h4 : n.k = 4) (hl0 : n.ns.length = n.ks.length) (hno : step ∉ n.ns) (htm : tm n = true) (htx : tm x = true) (hll : n.ks.length ≤ 900) (hst : step.size ≤ maxLen) :
    CallR Try.prog 91 [c.v, .string step, cv.v] w (fun v w' => (∃ (d : NdC) (y : Nd), v = .tuple #[d.v, .bool true] ∧ Dn w.heap.size w' d y ∧ y.k = 4 ∧ y.ns.length = y.ks.length ∧ y.ks.length = n.ks.length + 1) ∧ Ext w w') := by
  refine fn_spec_addHere _ _ _ _ _ _ _ _ _ _ _ _ _ ?_
  unfold g_spec_addHere
  refine ndStart fun w1 e1 r1 => ndStart fun w2 e2 r2 => letW_i fun w3 hw3 => ?_
  have e3 : Ext w2 w3 := by rw [hw3]; exact (Ext.refl w2).alloc _
  have rb : Row w3 w2.heap.size (cN zeroN) 50 := by rw [hw3]; exact Row.new w2 (cN zeroN) _
  clear hw3
  have z1 := r1.lt
  have z2 := r2.lt
  have z3 := rb.lt
  have e02 := e1.trans e2
  have e03 := e02.trans e3
  obtain ⟨k0, k1, k2, k3, k4⟩ := Row.nd (r1.ext (e2.trans e3))
  obtain ⟨m0, m1, m2, m3, m4⟩ := Row.nd (r2.ext e3)
  obtain ⟨ok, om, ot, hn, hts, hnl, hkl, hns, _⟩ := h.out
  have ck : c.k = 4 := by rw [ok, h4]
  simp only [exI k0, exI k1, exS k2, exL k3, exL k4]
  refine (c_spec_slot step (h.ext e03) h4 hl0 hno).mono ?_
  rintro _ w4 ⟨⟨i, rfl, hi⟩, e4⟩
  refine ⟨_, _, rfl, br_df (by omega) ?_⟩
  rw [brF]
  simp only [exI (e4.get k0), exI (e4.get k1), exS (e4.get k2), exL (e4.get k3), exL (e4.get k4)]
  refine (c_spec_copyNode _ w4 c n (Nat.le_refl _) htm (h.ext (e03.trans e4))).mono ?_
  rintro _ w5 ⟨sn, sk, rfl, hk5, hn5, e5⟩
  refine ⟨_, _, _, _, _, rfl, local5 fun w6 r6 e6 => ?_⟩
  have e36 := (e4.trans e5).trans e6
  obtain ⟨p0, p1, p2, p3, p4⟩ := Row.nd (c := ⟨n.k, n.m, n.t, sn, sk⟩) r6
  have hk6 := hk5.ext e6
  have hn6 := hn5.ext e6
  obtain ⟨ds, hdl, ok6, hd6⟩ := hk6
  have skl : sk.len = n.ks.length := by rw [ok6.len cN_len (by decide), hdl]
  have snl : sn.len = n.ns.length := hn6.len cS_len (by decide)
  have skc := (ok6.slOf cN_len (by decide)).cap
  have snc := (hn6.slOf cS_len (by decide)).cap
  refine ⟨fun w' => Ext w6 w', fun w' he => he, fun w7 (e7 : Ext w6 w7) => ⟨e7, letW_i fun w8 hw8 => ?_⟩⟩
  have e8 : Ext w7 w8 := by rw [hw8]; exact (Ext.refl w7).alloc _
  have z45 := e5.size
  have z56 := e6.size
  have z67 := e7.size
  have q8 : KidsAt w4.heap.size w8 ⟨some ⟨w7.heap.size, 0, none⟩, 0, 0⟩ [] := by rw [hw8]; exact KidsAt.nil (by omega)
  clear hw8
  have e68 := e7.trans e8
  have z78 := e8.size
  have t8 : ∀ k, (⟨some ⟨w7.heap.size, 0, none⟩, 0, 0⟩ : Sl).v.ownBlock = some k → w7.heap.size ≤ k := fun k hk => by
    have : w7.heap.size = k := Option.some.inj hk
    omega
  have trees : ∀ (l : Sl) (w' : World), Ext w6 w' → (∀ k, l.v.ownBlock = some k → w7.heap.size ≤ k) → ∀ (d : NdC) (y : Nd) (j : Nat), ds[j]? = some d → n.ks[j]? = some y → NdAt (fun k => w4.heap.size ≤ k ∧ l.v.ownBlock ≠ some k) w' d y := fun l w' he hl d y j h1 h2 =>
    ((hd6 j d y h1 h2).mono (S' := fun k => w4.heap.size ≤ k ∧ l.v.ownBlock ≠ some k) fun k hk hlt => ⟨hk.1, fun e => by have := hl k e; omega⟩).ext he
  obtain ⟨tn, tk, tks⟩ := tm_out htm
  obtain ⟨vn0, vk0, _⟩ := tm_out htx
  have hxo := hx.out
  refine ⟨e68, e68, sk, fun w' (he : Ext w6 w') => he.get p4, ⟨by omega, by omega, by omega⟩, e68, ?_⟩
  refine KidsAt.append (base := w4.heap.size) (es := ds.take i) (qs := n.ks.take i) q8 (src_front ((ok6.slOf cN_len (by decide)).ext e68) cN_len cN_one (Own.cap0 ok6) (by show i ≤ sk.len; omega)) (by simp [hdl]) (by simp; omega) ?_ (by omega) (by simp; omega) (fun l9 w9 hk9 hg9 _ hat9 => ?_)
  · intro j d y hj hy
    rw [List.getElem?_take] at hj hy
    split at hj
    · rename_i hlt
      rw [if_pos hlt] at hy
      exact trees _ w8 e68 t8 d y j hj hy
    · cases hj
  have e79 : Ext w7 w9 := e8.grown hg9 t8
  have z79 := e79.size
  have t9 : ∀ k, l9.v.ownBlock = some k → w7.heap.size ≤ k := fun k hk => by
    rcases hat9 with hat | hat
    · rw [hat] at hk; exact t8 k hk
    · rw [hat] at hk; have := Option.some.inj hk; omega
  have e69 := e7.trans e79
  refine ⟨e69, e69, cv.k, fun w' (he : Ext w6 w') => (e36.trans he).get m0, cv.m, fun w' (he : Ext w6 w') => (e36.trans he).get m1, cv.t, fun w' (he : Ext w6 w') => (e36.trans he).get m2, cv.sn, fun w' (he : Ext w6 w') => (e36.trans he).get m3, cv.sk, fun w' (he : Ext w6 w') => (e36.trans he).get m4, ?_⟩
  refine (c_spec_copyNode _ w9 cv x (Nat.le_refl _) htx (hx.ext ((e03.trans e36).trans e69))).mono ?_
  rintro _ w10 ⟨vn, vk, rfl, hvk, hvn, e10⟩
  have tv : NdAt (fun k => w9.heap.size ≤ k) w10 ⟨x.k, x.m, x.t, vn, vk⟩ x := by
    have := NdAt.make (k := x.k) (m := x.m) (t := x.t) hvk hvn (by rw [← hxo.2.2.1]; exact hxo.2.2.2.2.1) (by omega) (by omega) hxo.2.2.2.2.2.2.2.1
    cases x; exact this
  have z910 := e10.size
  refine ⟨_, _, _, _, _, rfl, KidsAt.push (d := ⟨x.k, x.m, x.t, vn, vk⟩) hk9 e10 tv (Nat.le_refl _) (by omega) (by simp; omega) (fun l11 w12 hk12 e11 hg12 _ hat12 => ?_)⟩
  have e712 : Ext w7 w12 := ((e79.trans e10).trans e11).grown hg12 t9
  have z712 := e712.size
  have t12 : ∀ k, l11.v.ownBlock = some k → w7.heap.size ≤ k := fun k hk => by
    rcases hat12 k hk with hat | hat
    · exact t9 k hat
    · omega
  have e612 := e7.trans e712
  rw [exL (e612.get p4)]
  refine ⟨⟨by omega, by simp only; omega, by simp only; omega⟩, ?_⟩
  refine KidsAt.append (base := w4.heap.size) (es := ds.drop i) (qs := n.ks.drop i) hk12 (src_drop ((ok6.slOf cN_len (by decide)).ext e612) cN_len cN_one (Own.cap0 ok6) (by show i ≤ sk.len; omega)) (by simp [hdl]) (by simp; omega) ?_ (by omega) (by simp; omega) (fun l13 w13 hk13 hg13 _ hat13 => ?_)
  · intro j d y hj hy
    rw [List.getElem?_drop] at hj hy
    exact trees _ w12 e612 t12 d y _ hj hy
  have e713 : Ext w7 w13 := e712.grown hg13 t12
  have z713 := e713.size
  have e613 := e7.trans e713
  have e313 := e36.trans e613
  rw [exI (e313.get k0), beqI]
  refine br_df (by omega) (letW_i fun w14 hw14 => ?_)
  have e14 : Ext w13 w14 := by rw [hw14]; exact (Ext.refl w13).alloc _
  have o14 : Own w13.heap.size 9 1 w14 ⟨some ⟨w13.heap.size, 0, none⟩, 0, 0⟩ [] := by rw [hw14]; exact Own.fresh w13 _ 1 _ (Nat.le_refl _)
  clear hw14
  have cS_one : ∀ x, ∀ u ∈ cS x, u.oneCell' = true := fun x u hu => by simp [cS] at hu; subst hu; rfl
  rw [exL ((e613.trans e14).get p3)]
  refine ⟨⟨by omega, by omega, by simp only; omega⟩, ?_⟩
  refine sAppend_i o14 (src_front ((hn6.slOf cS_len (by decide)).ext (e613.trans e14)) cS_len cS_one (Own.cap0 hn6) (by show i ≤ sn.len; omega)) (by simp only [Int.toNat_natCast, Int.toNat_zero]; omega) (by simp only [Int.toNat_natCast, Int.toNat_zero]; omega) e14.size (fun s15 w15 hl15 o15 hg15 => ?_)
  have e1315 : Ext w13 w15 := e14.own o14 hg15 (Nat.le_refl _)
  have o15' : Own w13.heap.size 9 1 w15 s15 ((n.ns.take i).flatMap cS) := by simpa using o15
  refine push1 (x := step) cS_len (by decide) (cS_one _) o15' e1315.size (by simp; omega) (by decide) (fun s16 wm w16 hl16 o16 em om hg16 => ?_)
  have e1316 : Ext w13 w16 := (e1315.trans em).own om hg16 (Nat.le_refl _)
  rw [exL ((e613.trans e1316).get p3)]
  refine ⟨⟨by omega, by simp only; omega, by simp only; omega⟩, ?_⟩
  have hl16' : s16.len = i + 1 := by rw [hl16]; simp; omega
  refine sAppend_i o16 (src_drop ((hn6.slOf cS_len (by decide)).ext (e613.trans e1316)) cS_len cS_one (Own.cap0 hn6) (by show i ≤ sn.len; omega)) (by simp only [Int.toNat_natCast, hl16']; omega) (by simp only [Int.toNat_natCast, hl16']; omega) e1316.size (fun s17 w17 hl17 o17 hg17 => ?_)
  have e1317 : Ext w13 w17 := e1316.own o16 hg17 (Nat.le_refl _)
  have e317 := e313.trans e1317
  rw [exI (e317.get k0)]
  refine Row.set5 (rb.ext ((e4.trans e5).trans (e6.trans (e613.trans e1317)))) fun w18 r18 c18 => ?_
  obtain ⟨f0, f1, f2, f3, f4⟩ := Row.nd (c := ⟨c.k, 0, ⟨#[]⟩, s17, l13⟩) r18
  simp only [exI f0, exI f1, exS f2, exL f3, exL f4]
  have zz := e02.size
  have z34 := e4.size
  have z03 := e03.size
  refine ⟨⟨⟨c.k, 0, ⟨#[]⟩, s17, l13⟩, .mk c.k 0 ⟨#[]⟩ (n.ns.take i ++ [step] ++ n.ns.drop i) (n.ks.take i ++ [x] ++ n.ks.drop i), rfl, ?_, ck, ?_, ?_⟩, (e03.trans e317).chg c18 (by omega)⟩
  · refine Dn.base_le (Dn.make (base := w4.heap.size) (m := w13.heap.size) (w0 := w13) (by simpa using hk13) (Nat.le_refl _) (by omega) (fun S c' n' hn' => (hn'.ext e1317).chg c18 (fun hh => by omega)) (by simpa using o17.chg c18 (by omega)) (by decide) (by simp; omega) (by simp; omega) ?_ ?_) (by omega)
    · intro y hy
      simp only [List.append_assoc, List.mem_append, List.mem_singleton] at hy
      rcases hy with hy | rfl | hy
      · exact hns y (List.mem_of_mem_take hy)
      · exact hst
      · exact hns y (List.mem_of_mem_drop hy)
    · intro y hy
      simp only [List.append_assoc, List.mem_append, List.mem_singleton] at hy
      rcases hy with hy | rfl | hy
      · exact tks y (List.mem_of_mem_take hy)
      · exact htx
      · exact tks y (List.mem_of_mem_drop hy)
  · show (n.ns.take i ++ [step] ++ n.ns.drop i).length = (n.ks.take i ++ [x] ++ n.ks.drop i).length
    simp only [List.length_append, List.length_take, List.length_drop, List.length_singleton]; omega
  · show (n.ks.take i ++ [x] ++ n.ks.drop i).length = n.ks.length + 1
    simp only [List.length_append, List.length_take, List.length_drop, List.length_singleton]; omega
end Go.Proofs
