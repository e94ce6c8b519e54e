/-
  What functions of this seat compute, part 'NodeCopy': contracts over their readable predicates. Conditions: each theorem's own hypotheses.
-/
import Derived.Test.YtiohmpihadcpaaaBase
import Derived.Test.YtiohmpihadcpaaaOpen
import Derived.Test.YtiohmpihadcpaaaGen
import Derived.Test.YtiohmpihadcpaaaCSmall
import Derived.Test.YtiohmpihadcpaaaCOrder
import Derived.Test.YtiohmpihadcpaaaCNode
import Derived.Test.YtiohmpihadcpaaaCNodeText
import Derived.Test.YtiohmpihadcpaaaCNodeValid
import Derived.Test.YtiohmpihadcpaaaCNodeSpec
import Derived.Test.YtiohmpihadcpaaaCHelpS
import Derived.Test.YtiohmpihadcpaaaCNodeHelp
import Derived.Test.YtiohmpihadcpaaaCNodeHelp2
namespace Go.Proofs
open Go Go.Vc Go.RowKit
set_option maxRecDepth 100000
set_option linter.unusedVariables false
--! C:Small C:Order C:Node C:NodeText C:NodeValid C:NodeSpec C:HelpS C:NodeHelp C:NodeHelp2
/-! ## Copies of nodes that grow by appends -/

mutual
def tm : Nd → Bool
  | .mk _ _ _ ns ks => (decide (ns.length ≤ 1000) && decide (ks.length ≤ 1000)) && tmL ks
def tmL : List Nd → Bool
  | [] => true
  | n :: r => tm n && tmL r
end

theorem tmL_all : ∀ l : List Nd, tmL l = l.all tm
  | [] => by simp [tmL]
  | x :: r => by simp only [tmL, List.all_cons, tmL_all r]
theorem tm_eq (n : Nd) : tm n = ((decide (n.ns.length ≤ 1000) && decide (n.ks.length ≤ 1000)) && n.ks.all tm) := by
  cases n; simp only [tm, tmL_all]; rfl
theorem tm_out {n : Nd} (h : tm n = true) : n.ns.length ≤ 1000 ∧ n.ks.length ≤ 1000 ∧ ∀ x ∈ n.ks, tm x = true := by
  rw [tm_eq] at h
  simp only [Bool.and_eq_true, decide_eq_true_eq, List.all_eq_true] at h
  exact ⟨h.1.1, h.1.2, h.2⟩

theorem Own.cap0 {base : Nat} {e : TypeId} {size : Nat} {w : World} {s : Sl} {vs : List Value} (h : Own base e size w s vs) : s.a = none → s.cap = 0 := by
  intro hn
  rcases h.2 with ⟨hv, _⟩ | ⟨g, cap, cur, hv, _⟩
  · simp [Sl.v] at hv; exact hv.2.2
  · simp [Sl.v, hn] at hv

/-- A list of nodes that grows, and the trees of its nodes, which lie elsewhere. -/
def KidsAt (base : Nat) (w : World) (l : Sl) (ks : List Nd) : Prop :=
  ∃ ds : List NdC, ds.length = ks.length ∧ Own base 50 5 w l (ds.flatMap cN) ∧ ∀ (i : Nat) d x, ds[i]? = some d → ks[i]? = some x → NdAt (fun k => base ≤ k ∧ l.v.ownBlock ≠ some k) w d x

theorem KidsAt.ext {base : Nat} {w w' : World} {l : Sl} {ks : List Nd} (h : KidsAt base w l ks) (he : Ext w w') : KidsAt base w' l ks := by
  obtain ⟨ds, hl, o, hd⟩ := h
  exact ⟨ds, hl, o.ext he, fun i d x h1 h2 => (hd i d x h1 h2).ext he⟩
theorem KidsAt.chg {base : Nat} {w w' : World} {l : Sl} {ks : List Nd} {b : Nat} (h : KidsAt base w l ks) (hc : Chg b w w') (hb : b < base) : KidsAt base w' l ks := by
  obtain ⟨ds, hl, o, hd⟩ := h
  exact ⟨ds, hl, o.chg hc hb, fun i d x h1 h2 => (hd i d x h1 h2).chg hc (by omega)⟩
theorem KidsAt.nil {w : World} {base : Nat} (hb : base ≤ w.heap.size) : KidsAt base (w.alloc (.cells #[] 50)) ⟨some ⟨w.heap.size, 0, none⟩, 0, 0⟩ [] :=
  ⟨[], rfl, Own.fresh w _ 5 base hb, fun i d x h => by simp at h⟩

theorem KidsAt.append {base : Nat} {w : World} {l x : Sl} {ks qs : List Nd} {es : List NdC} {K : Sl → World → Prop} (h : KidsAt base w l ks) (hx : Vc.Src w x 5 (es.flatMap cN)) (hl : es.length = qs.length) (hxl : x.len = qs.length)
    (ht : ∀ (i : Nat) d y, es[i]? = some d → qs[i]? = some y → NdAt (fun k => base ≤ k ∧ l.v.ownBlock ≠ some k) w d y) (hb : base ≤ w.heap.size) (hn : ks.length + qs.length ≤ 100000)
    (hk : ∀ s' w', KidsAt base w' s' (ks ++ qs) → w.grownBy w' l.v.ownBlock → (∀ k, l.v.ownBlock = some k → base ≤ k) → (s'.v.ownBlock = l.v.ownBlock ∨ s'.v.ownBlock = some w.heap.size) → K s' w') : sAppend 50 5 80 l x w K := by
  obtain ⟨ds, hdl, o, hd⟩ := h
  have hll := o.len cN_len (by decide)
  refine sAppend_at o hx (by omega) (by omega) hb (fun s' w' hl' o' hg hat => hk s' w' ⟨ds ++ es, by simp [hdl, hl], by simpa using o', ?_⟩ hg (fun k hk => (o.lt k hk).1) hat)
  have key : ∀ d y, NdAt (fun k => base ≤ k ∧ l.v.ownBlock ≠ some k) w d y → NdAt (fun k => base ≤ k ∧ s'.v.ownBlock ≠ some k) w' d y := fun d y hn => by
    have h1 := hn.mono (S' := fun k => (base ≤ k ∧ l.v.ownBlock ≠ some k) ∧ k < w.heap.size) fun k hs hlt => ⟨hs, hlt⟩
    have h2 := h1.grown hg (fun k hk hS => hS.1.2 hk)
    refine h2.mono fun k hs _ => ⟨hs.1.1, fun e => ?_⟩
    rcases hat with hat | hat
    · rw [hat] at e; exact hs.1.2 e
    · rw [hat] at e; have := Option.some.inj e; omega
  intro i d y hi hy
  by_cases hlt : i < ds.length
  · rw [List.getElem?_append_left hlt] at hi
    rw [List.getElem?_append_left (by omega)] at hy
    exact key d y (hd i d y hi hy)
  · rw [List.getElem?_append_right (by omega)] at hi
    rw [List.getElem?_append_right (by omega), ← hdl] at hy
    exact key d y (ht _ d y hi hy)

/-- A tree made anew is elsewhere. -/
theorem NdAt.late {base m : Nat} {w0 w : World} {l : Sl} {vs : List Value} {d : NdC} {x : Nd} (h : NdAt (fun k => m ≤ k) w d x) (o : Own base 50 5 w0 l vs) (hm : w0.heap.size ≤ m) (hb : base ≤ m) : NdAt (fun k => base ≤ k ∧ l.v.ownBlock ≠ some k) w d x :=
  h.mono fun k hk _ => ⟨by omega, fun e => by have := (o.lt k e).2; omega⟩

theorem KidsAt.push {base m : Nat} {w0 w : World} {l : Sl} {ks : List Nd} {d : NdC} {x : Nd} {K : Sl → World → Prop} (h0 : KidsAt base w0 l ks) (he : Ext w0 w) (ht : NdAt (fun k => m ≤ k) w d x) (hm : w0.heap.size ≤ m) (hb : base ≤ w0.heap.size) (hn : ks.length ≤ 2000)
    (hk : ∀ s' w', KidsAt base w' s' (ks ++ [x]) → Ext w (w.alloc (.cells (cN d).toArray 50)) → (w.alloc (.cells (cN d).toArray 50)).grownBy w' l.v.ownBlock → (∀ k, l.v.ownBlock = some k → base ≤ k) → (∀ k, s'.v.ownBlock = some k → l.v.ownBlock = some k ∨ w.heap.size ≤ k) → K s' w') :
    letW (w.alloc (.cells #[.int .i64 d.k, .int .i64 d.m, .string d.t, .slice d.sn.a d.sn.len d.sn.cap, .slice d.sk.a d.sk.len d.sk.cap] 50)) (fun w5 => sAppend 50 5 80 ⟨l.a, l.len, l.cap⟩ ⟨some (⟨w.heap.size, 0, none⟩ : Addr), 1, 1⟩ w5 K) := by
  have r : Row (w.alloc (.cells (cN d).toArray 50)) w.heap.size (cN d) 50 := Row.new w (cN d) _
  have e5 : Ext w (w.alloc (.cells (cN d).toArray 50)) := (Ext.refl w).alloc _
  have z := he.size
  have z5 := e5.size
  obtain ⟨ds, hdl, o, hd⟩ := h0
  refine KidsAt.append (es := [d]) (qs := [x]) (l := l) (KidsAt.ext (KidsAt.ext ⟨ds, hdl, o, hd⟩ he) e5) (Src.row r (by simp [cN]) (by simpa using cN_one d)) rfl rfl ?_ (Nat.le_trans (Nat.le_trans hb z) z5) (by simp; omega) (fun s' w' hk' hg hbl hat => hk s' w' hk' e5 hg hbl fun k hk0 => by
    rcases hat with hat | hat
    · exact .inl (by rw [← hat]; exact hk0)
    · rw [hat] at hk0
      have := Option.some.inj hk0
      exact .inr (by rw [← this]; exact z5))
  intro i d' y hi hy
  have : i = 0 := by have := (List.getElem?_eq_some_iff.1 hi).1; simp at this; omega
  subst this
  simp at hi hy
  subst hi hy
  exact (NdAt.late ht o hm (by omega)).ext e5

theorem KidsAt.nd {base : Nat} {w : World} {l : Sl} {ks : List Nd} (h : KidsAt base w l ks) : l.len = ks.length ∧ (∀ k, l.v.ownBlock = some k → base ≤ k ∧ k < w.heap.size) ∧ ∃ ds, NdSl w l ds ∧ ds.length = ks.length ∧ ∀ (i : Nat) d x, ds[i]? = some d → ks[i]? = some x → NdAt (fun k => base ≤ k ∧ l.v.ownBlock ≠ some k) w d x := by
  obtain ⟨ds, hdl, o, hd⟩ := h
  exact ⟨by rw [o.len cN_len (by decide), hdl], fun k hk => o.lt k hk, ds, o.slOf cN_len (by decide), hdl, hd⟩

/-- A node of grown names and kids. -/
theorem NdAt.make {base : Nat} {w : World} {k m : Int} {t : ByteArray} {sn sk : Sl} {ns : List ByteArray} {ks : List Nd} (hk : KidsAt base w sk ks) (hn : Own base 9 1 w sn (ns.flatMap cS)) (ht : t.size ≤ maxLen) (h1 : ns.length ≤ 2000) (h2 : ks.length ≤ 2000) (h3 : ∀ x ∈ ns, x.size ≤ maxLen) :
    NdAt (fun k => base ≤ k) w ⟨k, m, t, sn, sk⟩ (.mk k m t ns ks) := by
  obtain ⟨hl, hb, ds, hs, hdl, hd⟩ := hk.nd
  have sa : ∀ (s : Sl) (a : Addr), s.a = some a → s.v.ownBlock = some a.block := fun s a ha => by simp [Sl.v, Value.ownBlock, ha]
  refine NdAt.mk ⟨k, m, t, sn, sk⟩ ns ks ds (hn.slOf cS_len (by decide)) hs hdl (fun _ a ha => (hn.lt _ (sa _ a ha)).1) (fun _ a ha => (hb _ (sa _ a ha)).1) ⟨ht, by unfold maxLen; omega, by unfold maxLen; omega, h3⟩ (Own.cap0 hn) ?_
  intro i d x hi hx
  exact (hd i d x hi hx).mono fun k hk _ => hk.1

set_option maxHeartbeats 2000000 in
theorem c_spec_copyNode {S : Nat → Prop} : ∀ (N : Nat) (w : World) (c : NdC) (n : Nd), cnt n ≤ N → tm n = true → NdAt S w c n →
    CallR Try.prog 64 [c.v] w (fun v w' => ∃ sn sk : Sl, v = (⟨n.k, n.m, n.t, sn, sk⟩ : NdC).v ∧ KidsAt w.heap.size w' sk n.ks ∧ Own w.heap.size 9 1 w' sn (n.ns.flatMap cS) ∧ Ext w w') := by
  intro N
  induction N with
  | zero => intro w c n h; have := cnt_pos n; omega
  | succ N ih =>
    intro w c n hN htm h
    refine fn_spec_copyNode _ _ _ _ _ _ _ ?_
    unfold g_spec_copyNode
    refine ndStart fun w1 e1 r1 => letW_i fun w2 hw2 => letW_i fun w3 hw3 => ?_
    have e2 : Ext w1 w2 := by rw [hw2]; exact (Ext.refl w1).alloc _
    have e3 : Ext w2 w3 := by rw [hw3]; exact (Ext.refl w2).alloc _
    have rb : Row w2 w1.heap.size (cN zeroN) 50 := by rw [hw2]; exact Row.new w1 (cN zeroN) _
    have q3 : KidsAt w2.heap.size w3 ⟨some ⟨w2.heap.size, 0, none⟩, 0, 0⟩ [] := by rw [hw3]; exact KidsAt.nil (Nat.le_refl _)
    have z1 := r1.lt
    have z2 := rb.lt
    obtain ⟨k0, k1, k2, k3, k4⟩ := Row.nd (r1.ext e2)
    have e02 := e1.trans e2
    clear hw2 hw3
    obtain ⟨ok, om, ot, hn, hts, hnl, hkl, hns, _⟩ := h.out
    obtain ⟨tn, tk, tks⟩ := tm_out htm
    have hkk := h.klen
    refine sLoop_list n.ks (fun pre t w' => Ext w2 w' ∧ KidsAt w2.heap.size w' t.1 pre) ⟨e3, q3⟩ ?_ ?_
    · rintro K pre post x ⟨l, u⟩ w6 hx ⟨he, hq⟩ hK _
      have hl := mid_len hx
      obtain ⟨_, dd, a, hsa, hd', g0, g1, g2, g3, g4⟩ := (h.ext (e02.trans he)).kid (i := pre.length) (mid_get hx)
      simp only [exL (he.get k4)]
      refine br_dt (by first | omega | (simp only; omega)) (onSome_i hsa ⟨⟨by first | omega | (simp only; omega), by first | omega | (simp only; omega)⟩, ?_⟩)
      simp only [exI g0, exI g1, exS g2, exL g3, exL g4]
      have hxm : x ∈ n.ks := by rw [hx]; simp
      refine (ih w6 dd x (by have := cnt_kid hxm; omega) (tks x hxm) hd').mono ?_
      rintro _ w7 ⟨sn, sk, rfl, hk7, hn7, e7⟩
      obtain ⟨xn, xk, _⟩ := tm_out (tks x hxm)
      have hnx := hd'.out
      have ht7 : NdAt (fun k => w6.heap.size ≤ k) w7 ⟨x.k, x.m, x.t, sn, sk⟩ x := by
        have := NdAt.make (k := x.k) (m := x.m) (t := x.t) hk7 hn7 (by rw [← hnx.2.2.1]; exact hnx.2.2.2.2.1) (by omega) (by omega) hnx.2.2.2.2.2.2.2.1
        cases x; exact this
      refine ⟨_, _, _, _, _, rfl, KidsAt.push (d := ⟨x.k, x.m, x.t, sn, sk⟩) hq e7 ht7 (Nat.le_refl _) he.size (by omega) (fun s' w8 hk8 e8 hg8 hbl _ => ⟨inR_i64 (by omega) (by omega), hK _ _ ⟨?_, hk8⟩⟩)⟩
      exact ((he.trans e7).trans e8).grown hg8 hbl
    · rintro K ⟨l, u⟩ w6 ⟨he, hq⟩ _
      simp only [exL (he.get k4)]
      refine br_df (by first | omega | (simp only; omega)) ?_
      refine ⟨fun w' => Ext w6 w', fun w' h => h, fun w7 (e7 : Ext w6 w7) => ⟨e7, c.k, fun w' (h : Ext w6 w') => (he.trans h).get k0, e7, c.m, fun w' (h : Ext w6 w') => (he.trans h).get k1, e7, c.t, fun w' (h : Ext w6 w') => (he.trans h).get k2, e7, letW_i fun w8 hw8 => ?_⟩⟩
      have e8 : Ext w7 w8 := by rw [hw8]; exact (Ext.refl w7).alloc _
      have o8 : Own w7.heap.size 9 1 w8 ⟨some ⟨w7.heap.size, 0, none⟩, 0, 0⟩ [] := by rw [hw8]; exact Own.fresh w7 _ 1 _ (Nat.le_refl _)
      have e68 := e7.trans e8
      have e28 := he.trans e68
      refine ⟨e68, e68, c.sn, fun w' (h : Ext w6 w') => (he.trans h).get k3, e68, ?_⟩
      have hn8 := (hn.ext e02).ext e28
      refine sAppend_i o8 (Src.of hn8 cS_len (fun x u hu => by simp [cS] at hu; subst hu; rfl) h.cap0) (by simp only [hkk.2.1]; omega) (by simp only [hkk.2.1]; omega) e8.size (fun s' w9 hl9 o9 hg9 => ?_)
      have e79 : Ext w7 w9 := e8.own o8 hg9 (Nat.le_refl _)
      have e69 := e7.trans e79
      have rb9 : Row w9 w1.heap.size (cN zeroN) 50 := rb.ext (he.trans e69)
      refine ⟨e69, Row.set5 rb9 fun w10 r10 c10 => ?_⟩
      obtain ⟨m0, m1, m2, m3, m4⟩ := Row.nd (c := ⟨c.k, c.m, c.t, s', l⟩) r10
      simp only [exI m0, exI m1, exS m2, exL m3, exL m4]
      have hq10 := (hq.ext e69).chg c10 z2
      obtain ⟨ds, hdl, oq, hd⟩ := hq10
      have z := e1.size
      have z' := he.size
      have z'' := e7.size
      refine ⟨s', l, by rw [ok, om, ot], ⟨ds, hdl, oq.base_le (by omega), fun i d x h1 h2 => (hd i d x h1 h2).mono fun k hk _ => ⟨by omega, hk.2⟩⟩, ?_, ?_⟩
      · have := (o9.base_le (b := w2.heap.size) (by omega)).chg c10 z2
        exact (by simpa using this : Own w2.heap.size 9 1 w10 s' (n.ns.flatMap cS)).base_le (by omega)
      · exact ((e02.trans he).trans e69).chg c10 z
end Go.Proofs
