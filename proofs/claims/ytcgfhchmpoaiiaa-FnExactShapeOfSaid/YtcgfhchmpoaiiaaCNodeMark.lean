/-
  What functions of this seat compute, part 'NodeMark': contracts over their readable predicates. Conditions: each theorem's own hypotheses.
-/
import Derived.Test.YtcgfhchmpoaiiaaBase
import Derived.Test.YtcgfhchmpoaiiaaOpen
import Derived.Test.YtcgfhchmpoaiiaaGen
import Derived.Test.YtcgfhchmpoaiiaaCSmall
import Derived.Test.YtcgfhchmpoaiiaaCOrder
import Derived.Test.YtcgfhchmpoaiiaaCNode
import Derived.Test.YtcgfhchmpoaiiaaCNodeText
import Derived.Test.YtcgfhchmpoaiiaaCNodeValid
import Derived.Test.YtcgfhchmpoaiiaaCNodeSpec
import Derived.Test.YtcgfhchmpoaiiaaCHelpS
import Derived.Test.YtcgfhchmpoaiiaaCNodeHelp
import Derived.Test.YtcgfhchmpoaiiaaCNodeHelp2
import Derived.Test.YtcgfhchmpoaiiaaCNodeTop
import Derived.Test.YtcgfhchmpoaiiaaCMark
import Derived.Test.YtcgfhchmpoaiiaaCStrMark
import Derived.Test.YtcgfhchmpoaiiaaCCells
import Derived.Test.YtcgfhchmpoaiiaaCShape
import Derived.Test.YtcgfhchmpoaiiaaCShape2
import Derived.Test.YtcgfhchmpoaiiaaCShapeOf
import Derived.Test.YtcgfhchmpoaiiaaCMarkShape
import Derived.Test.YtcgfhchmpoaiiaaCMarkShape2
import Derived.Test.YtcgfhchmpoaiiaaCMarkShape3
namespace Go.Proofs
open Go Go.Vc Go.RowKit
set_option maxRecDepth 100000
set_option linter.unusedVariables false
--! C:Small C:Order C:Node C:NodeText C:NodeValid C:NodeSpec C:HelpS C:NodeHelp C:NodeHelp2 C:NodeTop C:Mark C:StrMark C:Cells C:Shape C:Shape2 C:ShapeOf C:MarkShape C:MarkShape2 C:MarkShape3
/-! ## Nodes that share nothing -/

/-- A node in memory of its own: its rows lie apart from each other, in blocks of 'F'. -/
inductive NdM (w : World) : (Nat → Prop) → NdC → Nd → Prop
  | mk (F : Nat → Prop) (Fs : Nat → Nat → Prop) (c : NdC) (names : List ByteArray) (kids : List Nd) (cs : List NdC)
      (on : Own 0 9 1 w c.sn (names.flatMap cS)) (ok : Own 0 40 5 w c.sk (cs.flatMap cN)) (hl : cs.length = kids.length)
      (hF : ∀ k, c.sn.v.ownBlock = some k ∨ c.sk.v.ownBlock = some k → F k)
      (hs : ∀ i k, Fs i k → F k ∧ c.sn.v.ownBlock ≠ some k ∧ c.sk.v.ownBlock ≠ some k)
      (hd : ∀ i j k, Fs i k → Fs j k → i = j)
      (hm : c.t.size ≤ maxLen ∧ names.length ≤ maxLen ∧ kids.length ≤ maxLen ∧ ∀ x ∈ names, x.size ≤ maxLen)
      (h : ∀ (i : Nat) d n, cs[i]? = some d → kids[i]? = some n → NdM w (Fs i) d n) : NdM w F c (.mk c.k c.m c.t names kids)

theorem own_capN {base : Nat} {e : TypeId} {size : Nat} {w : World} {s : Sl} {vs : List Value} (h : Own base e size w s vs) : s.a = none → s.cap = 0 := by
  intro ha
  rcases h.2 with ⟨hv, _⟩ | ⟨g, cap, cur, hv, _⟩
  · obtain ⟨a, l, k⟩ := s
    simp only [Sl.v, Value.slice.injEq] at hv
    exact hv.2.2
  · obtain ⟨a, l, k⟩ := s
    simp only [Sl.v, Value.slice.injEq] at hv
    simp only at ha
    rw [ha] at hv
    cases hv.1

theorem NdM.at_ {w : World} {F : Nat → Prop} {c : NdC} {n : Nd} (h : NdM w F c n) : NdAt F w c n := by
  induction h with
  | mk F Fs c names kids cs on ok hl hF hs hd hm h ih =>
    refine .mk c names kids cs (on.slOf cS_len (by decide)) (ok.slOf cN_len (by decide)) hl (fun _ a ha => hF _ (.inl (own_blk on ha))) (fun _ a ha => hF _ (.inr (own_blk ok ha))) hm (own_capN on)
      (fun i d x hd hx => (ih i d x hd hx).mono fun k hk _ => (hs i k hk).1)

theorem NdM.keep {w w' : World} {F : Nat → Prop} {c : NdC} {n : Nd} (h : NdM w F c n) (hk : ∀ k, F k → k < w.heap.size → w'.heap[k]? = w.heap[k]?) : NdM w' F c n := by
  induction h with
  | mk F Fs c names kids cs on ok hl hF hs hd hm h ih =>
    exact .mk F Fs c names kids cs (on.keepB fun k hk' => hk k (hF k (.inl hk')) (on.lt k hk').2) (ok.keepB fun k hk' => hk k (hF k (.inr hk')) (ok.lt k hk').2)
      hl hF hs hd hm (fun i d x hd hx => ih i d x hd hx fun k hf hlt => hk k (hs i k hf).1 hlt)

theorem NdM.ext {w w' : World} {F : Nat → Prop} {c : NdC} {n : Nd} (h : NdM w F c n) (e : Ext w w') : NdM w' F c n := h.keep fun k _ hlt => e.block k hlt

theorem NdM.grown {w w' : World} {F : Nat → Prop} {c : NdC} {n : Nd} {row : Option Nat} (h : NdM w F c n) (hg : w.grownBy w' row) (hn : ∀ k, row = some k → ¬ F k) : NdM w' F c n :=
  h.keep fun k hf hlt => hg.block k hlt fun e => hn k e.symm hf

theorem NdM.mono {w : World} {F F' : Nat → Prop} {c : NdC} {n : Nd} (h : NdM w F c n) (hk : ∀ k, F k → F' k) : NdM w F' c n := by
  cases h with
  | mk _ Fs _ names kids cs on ok hl hF hs hd hm h =>
    exact .mk F' Fs c names kids cs on ok hl (fun k h => hk k (hF k h)) (fun i k h => ⟨hk k (hs i k h).1, (hs i k h).2⟩) hd hm h

theorem NdM.chg {w w' : World} {F : Nat → Prop} {c : NdC} {n : Nd} {b : Nat} (h : NdM w F c n) (hg : Chg b w w') (hn : ¬ F b) : NdM w' F c n :=
  h.grown hg fun k hk => by rw [← Option.some.inj hk]; exact hn

/-! ### A tree anew, in memory of its own -/

theorem c_toNodeM_of {S : Nat → Prop} {w : World} {c : NdC} {n : Nd} (h : NdAt S w c n) (hz : mz n ≤ 1048576)
    (ih : ∀ x ∈ n.ks, mz x ≤ 1048576 → ∀ (w : World) (c : NdC), NdAt S w c x → CallR Try.prog 19 [c.v] w (fun v w' => ∃ (d : NdC) (F : Nat → Prop), v = d.v ∧ NdM w' F d x ∧ (∀ k, F k → w.heap.size ≤ k ∧ k < w'.heap.size) ∧ Ext w w')) :
    CallR Try.prog 47 [.slice c.sk.a c.sk.len c.sk.cap] w (fun v w' => ∃ (ds : List NdC) (Fs : Nat → Nat → Prop), ds.length = n.ks.length ∧ v = .slice (some ⟨w.heap.size, 0, none⟩) n.ks.length n.ks.length ∧ Row w' w.heap.size (ds.flatMap cN) 40 ∧
      (∀ i k, Fs i k → w.heap.size < k ∧ k < w'.heap.size) ∧ (∀ i j k, Fs i k → Fs j k → i = j) ∧ (∀ (i : Nat) d x, ds[i]? = some d → n.ks[i]? = some x → NdM w' (Fs i) d x) ∧ Ext w w') := by
  refine fn_laws_toNodeS _ _ _ ?_
  unfold g_laws_toNodeS
  have hk := h.klen
  have hz' := mz_eq n
  refine ⟨⟨by omega, by omega, by omega, by omega⟩, letW_i fun w1 hw1 => ?_⟩
  have e1 : Ext w w1 := by rw [hw1]; exact (Ext.refl w).alloc _
  have r1 : Row w1 w.heap.size ((List.replicate n.ks.length zeroN).flatMap cN) 40 := by
    have hm := madeCells_agg (cN zeroN) (by simp [cN]) n.ks.length
    have hf : (List.replicate n.ks.length (cN zeroN)).flatten = (List.replicate n.ks.length zeroN).flatMap cN := by simp [List.flatMap_replicate]
    rw [hw1, hk.1, Int.toNat_natCast]
    rw [hf] at hm
    have : (cN zeroN).length = 5 := rfl
    rw [this] at hm
    have hm' : madeCells #[.int .i64 0, .int .i64 0, .string (⟨#[]⟩ : ByteArray), .slice none 0 0, .slice none 0 0] (n.ks.length * 5) = ((List.replicate n.ks.length zeroN).flatMap cN).toArray := hm
    rw [hm']
    exact Row.new w _ _
  have hs1 : w.heap.size < w1.heap.size := by rw [hw1]; simp
  clear hw1
  refine sLoop_list n.ks (fun pre _ w' => ∃ (ds : List NdC) (Fs : Nat → Nat → Prop), ds.length = pre.length ∧ Ext w w' ∧ w.heap.size < w'.heap.size ∧ Row w' w.heap.size ((ds ++ List.replicate (n.ks.length - ds.length) zeroN).flatMap cN) 40 ∧
    (∀ i k, Fs i k → i < ds.length ∧ w.heap.size < k ∧ k < w'.heap.size) ∧ (∀ i j k, Fs i k → Fs j k → i = j) ∧
    (∀ (i : Nat) d x, ds[i]? = some d → pre[i]? = some x → NdM w' (Fs i) d x)) ⟨[], fun _ _ => False, rfl, e1, hs1, by simpa using r1, fun _ _ h => h.elim, fun _ _ _ h => h.elim, fun i d x hd => by simp at hd⟩ ?_ ?_
  · rintro K pre post x t w3 hx ⟨ds, Fs, hdl, he, hs, hr, hfs, hfd, hds⟩ hK _
    have hl := mid_len hx
    obtain ⟨_, dd, a, hsa, hd', g0, g1, g2, g3, g4⟩ := (h.ext he).kid (i := pre.length) (mid_get hx)
    refine br_dt (by first | omega | (simp only; omega)) (onSome_i hsa ⟨⟨by first | omega | (simp only; omega), by first | omega | (simp only; omega)⟩, ?_⟩)
    simp only [exI g0, exI g1, exS g2, exL g3, exL g4]
    refine (ih x (by rw [hx]; simp) (by have := mz_kid hx; omega) w3 dd hd').mono ?_
    rintro _ w4 ⟨d, F, rfl, hd4, hF4, e4⟩
    refine ⟨_, _, _, _, _, rfl, ⟨by omega, by omega⟩, ?_⟩
    have hr4 := hr.ext e4
    rw [show n.ks.length - ds.length = (n.ks.length - (ds ++ [d]).length) + 1 by simp; omega, List.replicate_succ] at hr4
    rw [← hdl]
    refine Row.put5 (y := d) hr4 fun w5 r5 c5 => ⟨inR_i64 (by omega) (by omega), ?_⟩
    rw [hdl]
    have z4 := e4.size
    have z5 := c5.size
    refine hK _ _ ⟨ds ++ [d], fun i k => Fs i k ∨ (i = ds.length ∧ F k), by simp [hdl], (he.trans e4).chg c5 (Nat.le_refl _), by omega, by simpa using r5, ?_, ?_, ?_⟩
    · rintro i k (hf | ⟨rfl, hf⟩)
      · have := hfs i k hf; simp only [List.length_append, List.length_singleton]; omega
      · have := hF4 k hf; simp only [List.length_append, List.length_singleton]; omega
    · rintro i j k (hf | ⟨rfl, hf⟩) (hf' | ⟨rfl, hf'⟩)
      · exact hfd i j k hf hf'
      · have := (hfs i k hf).2.2; have := (hF4 k hf').1; omega
      · have := (hfs j k hf').2.2; have := (hF4 k hf).1; omega
      · rfl
    · intro i d1 x1 hi1 hi2
      by_cases hlt : i < ds.length
      · rw [List.getElem?_append_left hlt] at hi1
        rw [List.getElem?_append_left (by omega)] at hi2
        exact (((hds i d1 x1 hi1 hi2).ext e4).chg c5 (fun hf => Nat.lt_irrefl _ (hfs i _ hf).2.1)).mono fun k hf => .inl hf
      · have hi : i = ds.length := by
          have := (List.getElem?_eq_some_iff.1 hi1).1
          simp at this; omega
        subst hi
        rw [List.getElem?_append_right (Nat.le_refl _)] at hi1
        rw [hdl, List.getElem?_append_right (Nat.le_refl _)] at hi2
        simp at hi1 hi2
        subst hi1 hi2
        exact (hd4.chg c5 (fun hf => by have := (hF4 _ hf).1; omega)).mono fun k hf => .inr ⟨rfl, hf⟩
  · rintro K t w3 ⟨ds, Fs, hdl, he, hs, hr, hfs, hfd, hds⟩ _
    refine br_df (by first | omega | (simp only; omega)) ⟨ds, Fs, hdl, ?_, ?_, fun i k hf => (hfs i k hf).2, hfd, hds, he⟩
    · rw [hk.1, Int.toNat_natCast]
    · have : n.ks.length - ds.length = 0 := by omega
      rw [this] at hr
      simpa using hr

set_option maxHeartbeats 1000000 in
theorem c_toNodeM {S : Nat → Prop} : ∀ (N : Nat) (w : World) (c : NdC) (n : Nd), cnt n ≤ N → mz n ≤ 1048576 → NdAt S w c n →
    CallR Try.prog 19 [c.v] w (fun v w' => ∃ (d : NdC) (F : Nat → Prop), v = d.v ∧ NdM w' F d n ∧ (∀ k, F k → w.heap.size ≤ k ∧ k < w'.heap.size) ∧ Ext w w') := by
  intro N
  induction N with
  | zero => intro w c n h; have := cnt_pos n; omega
  | succ N ih =>
    intro w c n hN hz h
    refine fn_laws_toNode _ _ _ _ _ _ _ ?_
    unfold g_laws_toNode
    refine ndStart fun w1 e1 r1 => letW_i fun w2 hw2 => letW_i fun w3 hw3 => ?_
    obtain ⟨_, _, _, hn, hts, hnl, hkl, hns, _⟩ := h.out
    have hz' := mz_eq n
    have e2 : Ext w1 w2 := by rw [hw2]; exact (Ext.refl w1).alloc _
    have e3 : Ext w2 w3 := by rw [hw3]; exact (Ext.refl w2).alloc _
    have rb2 : Row w2 w1.heap.size (cN zeroN) 40 := by rw [hw2]; exact Row.new w1 (cN zeroN) _
    have rc : Row w3 w2.heap.size (cN zeroN) 40 := by rw [hw3]; exact Row.new w2 (cN zeroN) _
    have ra := (r1.ext e2).ext e3
    have rb := rb2.ext e3
    have s1 := r1.lt
    have s2 := rb2.lt
    have s3 := rc.lt
    have e03 := (e1.trans e2).trans e3
    clear hw2 hw3
    rw [exI (Row.nd ra).1]
    obtain ⟨p0, q0⟩ := Row.setMid (A := []) (B := [.int .i64 0, .string ⟨#[]⟩, .slice none 0 0, .slice none 0 0]) (p := (⟨w2.heap.size, 0, none⟩ : Addr).add 0) rc rfl (.int .i64 c.k)
    refine ⟨p0, letW_i fun w5 h5 => ?_⟩
    rw [← h5] at q0
    have c5 : Chg w2.heap.size w3 w5 := by rw [h5]; exact (Chg.refl _ _).set (by rw [add_block]) _
    have a5 := ra.chg c5 (by omega)
    have b5 := rb.chg c5 (by omega)
    rw [exI (Row.nd a5).2.1]
    obtain ⟨p1, q1⟩ := Row.setMid (A := [.int .i64 c.k]) (B := [.string ⟨#[]⟩, .slice none 0 0, .slice none 0 0]) (p := (⟨w2.heap.size, 0, none⟩ : Addr).add 1) q0 rfl (.int .i64 c.m)
    refine ⟨p1, letW_i fun w7 h7 => ?_⟩
    rw [← h7] at q1
    have c7 : Chg w2.heap.size w5 w7 := by rw [h7]; exact (Chg.refl _ _).set (by rw [add_block]) _
    have a7 := a5.chg c7 (by omega)
    have b7 := b5.chg c7 (by omega)
    rw [exS (Row.nd a7).2.2.1]
    obtain ⟨p2, q2⟩ := Row.setMid (A := [.int .i64 c.k, .int .i64 c.m]) (B := [.slice none 0 0, .slice none 0 0]) (p := (⟨w2.heap.size, 0, none⟩ : Addr).add 2) q1 rfl (.string c.t)
    refine ⟨p2, letW_i fun w9 h9 => ?_⟩
    rw [← h9] at q2
    have c9 : Chg w2.heap.size w7 w9 := by rw [h9]; exact (Chg.refl _ _).set (by rw [add_block]) _
    have a9 := a7.chg c9 (by omega)
    have b9 := b7.chg c9 (by omega)
    have z9 := q2.lt
    have e09 := ((e03.chg c5 (by omega)).chg c7 (by omega)).chg c9 (by omega)
    clear h5 h7 h9 q0 q1
    rw [exL (Row.nd a9).2.2.2.1]
    refine (c_laws_toStringS (hn.ext e09) (by omega)).mono ?_
    rintro _ w12 ⟨rfl, rn, e12⟩
    have a12 := a9.ext e12
    have b12 := b9.ext e12
    have q12 := q2.ext e12
    refine ⟨⟨some ⟨w9.heap.size, 0, none⟩, n.ns.length, n.ns.length⟩, rfl, ?_⟩
    obtain ⟨p3, q3⟩ := Row.setMid (A := [.int .i64 c.k, .int .i64 c.m, .string c.t]) (B := [.slice none 0 0]) (p := (⟨w2.heap.size, 0, none⟩ : Addr).add 3) q12 rfl (.slice (some ⟨w9.heap.size, 0, none⟩) n.ns.length n.ns.length)
    refine ⟨p3, letW_i fun w14 h14 => ?_⟩
    rw [← h14] at q3
    have c14 : Chg w2.heap.size w12 w14 := by rw [h14]; exact (Chg.refl _ _).set (by rw [add_block]) _
    have a14 := a12.chg c14 (by omega)
    have b14 := b12.chg c14 (by omega)
    have n14 := rn.chg c14 (by omega)
    have z14 : w9.heap.size < w14.heap.size := n14.lt
    have e014 := (e09.trans e12).chg c14 (by omega)
    clear h14
    rw [exL (Row.nd a14).2.2.2.2]
    refine (c_toNodeM_of (h.ext e014) hz (fun x hx hm w c => ih w c x (by have := cnt_kid hx; omega) hm)).mono ?_
    rintro _ w17 ⟨ds, Fs, hdl, rfl, rk, hfs, hfd, hds, e17⟩
    have b17 := b14.ext e17
    have q17 := q3.ext e17
    have n17 := n14.ext e17
    refine ⟨⟨some ⟨w14.heap.size, 0, none⟩, n.ks.length, n.ks.length⟩, rfl, ?_⟩
    obtain ⟨p4, q4⟩ := Row.setMid (A := [.int .i64 c.k, .int .i64 c.m, .string c.t, .slice (some ⟨w9.heap.size, 0, none⟩) n.ns.length n.ns.length]) (B := []) (p := (⟨w2.heap.size, 0, none⟩ : Addr).add 4) q17 rfl (.slice (some ⟨w14.heap.size, 0, none⟩) n.ks.length n.ks.length)
    refine ⟨p4, letW_i fun w19 h19 => ?_⟩
    rw [← h19] at q4
    have c19 : Chg w2.heap.size w17 w19 := by rw [h19]; exact (Chg.refl _ _).set (by rw [add_block]) _
    have b19 := b17.chg c19 (by omega)
    have n19 := n17.chg c19 (by omega)
    have k19 := rk.chg c19 (by omega)
    have e019 := (e014.trans e17).chg c19 (by omega)
    have d19 := fun i d x hd hx => (hds i d x hd hx).chg c19 (fun hf => by have := (hfs i _ hf).1; omega)
    clear h19
    obtain ⟨m0, m1, m2, m3, m4⟩ := Row.nd (c := ⟨c.k, c.m, c.t, ⟨some ⟨w9.heap.size, 0, none⟩, n.ns.length, n.ns.length⟩, ⟨some ⟨w14.heap.size, 0, none⟩, n.ks.length, n.ks.length⟩⟩) q4
    simp only [exI m0, exI m1, exS m2, exL m3, exL m4]
    refine Row.set5 b19 fun w29 q29 c29 => ?_
    have n29 := n19.chg c29 (by omega)
    have k29 := k19.chg c29 (by omega)
    have e029 := e019.chg c29 (by omega)
    have d29 := fun i d x hd hx => (d19 i d x hd hx).chg c29 (fun hf => by have := (hfs i _ hf).1; omega)
    obtain ⟨m0, m1, m2, m3, m4⟩ := Row.nd (c := ⟨c.k, c.m, c.t, ⟨some ⟨w9.heap.size, 0, none⟩, n.ns.length, n.ns.length⟩, ⟨some ⟨w14.heap.size, 0, none⟩, n.ks.length, n.ks.length⟩⟩) q29
    simp only [exI m0, exI m1, exS m2, exL m3, exL m4]
    have z := e09.size
    have z' := e014.size
    have zk := rk.lt
    have z19 := c19.size
    have z29 := c29.size
    have z14 := c14.size
    have z12 := e12.size
    have z17 := e17.size
    refine ⟨⟨c.k, c.m, c.t, ⟨some ⟨w9.heap.size, 0, none⟩, n.ns.length, n.ns.length⟩, ⟨some ⟨w14.heap.size, 0, none⟩, n.ks.length, n.ks.length⟩⟩, fun k => w9.heap.size ≤ k ∧ k < w29.heap.size, rfl, ?_, fun k hk => by omega, e029⟩
    rw [show n = Nd.mk c.k c.m c.t n.ns n.ks from h.eta]
    have ok : Own 0 40 5 w29 ⟨some ⟨w14.heap.size, 0, none⟩, n.ks.length, n.ks.length⟩ (ds.flatMap cN) := Own.ofRow k29 (by rw [flatMap_len cN_len, hdl]) (Nat.zero_le _) hkl
    have on : Own 0 9 1 w29 ⟨some ⟨w9.heap.size, 0, none⟩, n.ns.length, n.ns.length⟩ (n.ns.flatMap cS) := Own.ofRow n29 (by rw [flatMap_len cS_len]) (Nat.zero_le _) hnl
    refine NdM.mk _ Fs ⟨c.k, c.m, c.t, ⟨some ⟨w9.heap.size, 0, none⟩, n.ns.length, n.ns.length⟩, ⟨some ⟨w14.heap.size, 0, none⟩, n.ks.length, n.ks.length⟩⟩ n.ns n.ks ds on ok hdl ?_ ?_ hfd ⟨hts, hnl, hkl, hns⟩ d29
    · rintro k (hk | hk)
      · have : w9.heap.size = k := Option.some.inj hk
        omega
      · have : w14.heap.size = k := Option.some.inj hk
        omega
    · intro i k hf
      have := hfs i k hf
      refine ⟨by omega, fun hk => ?_, fun hk => ?_⟩
      · have : w9.heap.size = k := Option.some.inj hk
        omega
      · have : w14.heap.size = k := Option.some.inj hk
        omega

end Go.Proofs
