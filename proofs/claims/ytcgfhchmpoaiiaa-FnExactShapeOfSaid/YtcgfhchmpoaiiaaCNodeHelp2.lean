/-
  What functions of this seat compute, part 'NodeHelp2': contracts over their readable predicates. Conditions: each theorem's own hypotheses.
-/
import Derived.Test.YtcgfhchmpoaiiaaBase
import Derived.Test.YtcgfhchmpoaiiaaOpen
import Derived.Test.YtcgfhchmpoaiiaaGen
import Derived.Test.YtcgfhchmpoaiiaaCSmall
import Derived.Test.YtcgfhchmpoaiiaaCOrder
import Derived.Test.YtcgfhchmpoaiiaaCNode
import Derived.Test.YtcgfhchmpoaiiaaCNodeText
import Derived.Test.YtcgfhchmpoaiiaaCNodeValid
import Derived.Test.YtcgfhchmpoaiiaaCNodeSpec
import Derived.Test.YtcgfhchmpoaiiaaCHelpS
import Derived.Test.YtcgfhchmpoaiiaaCNodeHelp
namespace Go.Proofs
open Go Go.Vc Go.RowKit
set_option maxRecDepth 100000
set_option linter.unusedVariables false
--! C:Small C:Order C:Node C:NodeText C:NodeValid C:NodeSpec C:HelpS C:NodeHelp
/-! ## A tree copied; two trees compared -/

theorem Row.set5 {w : World} {b : Nat} {z0 z1 z2 z3 z4 v0 v1 v2 v3 v4 : Value} {e : TypeId} {K : World → Prop} (r : Row w b [z0, z1, z2, z3, z4] e) (hk : ∀ w', Row w' b [v0, v1, v2, v3, v4] e → Chg b w w' → K w') :
    Wr w (⟨b, 0, none⟩ : Addr) ∧ letW (w.setCell (⟨b, 0, none⟩ : Addr) v0) (fun w2 => Wr w2 ((⟨b, 0, none⟩ : Addr).add 1) ∧
      letW (w2.setCell ((⟨b, 0, none⟩ : Addr).add 1) v1) (fun w3 => Wr w3 ((⟨b, 0, none⟩ : Addr).add 2) ∧ letW (w3.setCell ((⟨b, 0, none⟩ : Addr).add 2) v2)
        (fun w4 => Wr w4 ((⟨b, 0, none⟩ : Addr).add 3) ∧ letW (w4.setCell ((⟨b, 0, none⟩ : Addr).add 3) v3)
          (fun w5 => Wr w5 ((⟨b, 0, none⟩ : Addr).add 4) ∧ letW (w5.setCell ((⟨b, 0, none⟩ : Addr).add 4) v4) K)))) := by
  obtain ⟨h1, r1⟩ := Row.setMid (A := []) (B := [z1, z2, z3, z4]) (p := ⟨b, 0, none⟩) r rfl v0
  obtain ⟨h2, r2⟩ := Row.setMid (A := [v0]) (B := [z2, z3, z4]) (p := (⟨b, 0, none⟩ : Addr).add 1) r1 rfl v1
  obtain ⟨h3, r3⟩ := Row.setMid (A := [v0, v1]) (B := [z3, z4]) (p := (⟨b, 0, none⟩ : Addr).add 2) r2 rfl v2
  obtain ⟨h4, r4⟩ := Row.setMid (A := [v0, v1, v2]) (B := [z4]) (p := (⟨b, 0, none⟩ : Addr).add 3) r3 rfl v3
  obtain ⟨h5, r5⟩ := Row.setMid (A := [v0, v1, v2, v3]) (B := []) (p := (⟨b, 0, none⟩ : Addr).add 4) r4 rfl v4
  exact ⟨h1, h2, h3, h4, h5, hk _ r5 ((((((Chg.refl b w).set rfl _).set (by simp only [add_block]) _).set (by simp only [add_block]) _).set (by simp only [add_block]) _).set (by simp only [add_block]) _)⟩

set_option maxHeartbeats 1000000 in
theorem c_laws_toNode {S : Nat → Prop} : ∀ (N : Nat) (w : World) (c : NdC) (n : Nd), cnt n ≤ N → mz n ≤ 1048576 → NdAt S w c n →
    CallR Try.prog 19 [c.v] w (fun v w' => ∃ d : NdC, v = d.v ∧ NdAt (fun k => w.heap.size ≤ k) w' d n ∧ Ext w w') := by
  intro N
  induction N with
  | zero => intro w c n h; have := cnt_pos n; omega
  | succ N ih =>
    intro w c n hN hz h
    refine fn_laws_toNode _ _ _ _ _ _ _ ?_
    unfold g_laws_toNode
    refine ndStart fun w1 e1 r1 => letW_i fun w2 hw2 => letW_i fun w3 hw3 => ?_
    obtain ⟨_, _, _, hn, hts, hnl, hkl, hns, _⟩ := h.out
    have hz' := mz_eq n
    have e2 : Ext w1 w2 := by rw [hw2]; exact (Ext.refl w1).alloc _
    have e3 : Ext w2 w3 := by rw [hw3]; exact (Ext.refl w2).alloc _
    have rb2 : Row w2 w1.heap.size (cN zeroN) 40 := by rw [hw2]; exact Row.new w1 (cN zeroN) _
    have rc : Row w3 w2.heap.size (cN zeroN) 40 := by rw [hw3]; exact Row.new w2 (cN zeroN) _
    have ra := (r1.ext e2).ext e3
    have rb := rb2.ext e3
    have s1 := r1.lt
    have s2 := rb2.lt
    have s3 := rc.lt
    have e03 := (e1.trans e2).trans e3
    clear hw2 hw3
    rw [exI (Row.nd ra).1]
    obtain ⟨p0, q0⟩ := Row.setMid (A := []) (B := [.int .i64 0, .string ⟨#[]⟩, .slice none 0 0, .slice none 0 0]) (p := (⟨w2.heap.size, 0, none⟩ : Addr).add 0) rc rfl (.int .i64 c.k)
    refine ⟨p0, letW_i fun w5 h5 => ?_⟩
    rw [← h5] at q0
    have c5 : Chg w2.heap.size w3 w5 := by rw [h5]; exact (Chg.refl _ _).set (by rw [add_block]) _
    have a5 := ra.chg c5 (by omega)
    have b5 := rb.chg c5 (by omega)
    rw [exI (Row.nd a5).2.1]
    obtain ⟨p1, q1⟩ := Row.setMid (A := [.int .i64 c.k]) (B := [.string ⟨#[]⟩, .slice none 0 0, .slice none 0 0]) (p := (⟨w2.heap.size, 0, none⟩ : Addr).add 1) q0 rfl (.int .i64 c.m)
    refine ⟨p1, letW_i fun w7 h7 => ?_⟩
    rw [← h7] at q1
    have c7 : Chg w2.heap.size w5 w7 := by rw [h7]; exact (Chg.refl _ _).set (by rw [add_block]) _
    have a7 := a5.chg c7 (by omega)
    have b7 := b5.chg c7 (by omega)
    rw [exS (Row.nd a7).2.2.1]
    obtain ⟨p2, q2⟩ := Row.setMid (A := [.int .i64 c.k, .int .i64 c.m]) (B := [.slice none 0 0, .slice none 0 0]) (p := (⟨w2.heap.size, 0, none⟩ : Addr).add 2) q1 rfl (.string c.t)
    refine ⟨p2, letW_i fun w9 h9 => ?_⟩
    rw [← h9] at q2
    have c9 : Chg w2.heap.size w7 w9 := by rw [h9]; exact (Chg.refl _ _).set (by rw [add_block]) _
    have a9 := a7.chg c9 (by omega)
    have b9 := b7.chg c9 (by omega)
    have z9 := q2.lt
    have e09 := ((e03.chg c5 (by omega)).chg c7 (by omega)).chg c9 (by omega)
    clear h5 h7 h9 q0 q1
    rw [exL (Row.nd a9).2.2.2.1]
    refine (c_laws_toStringS (hn.ext e09) (by omega)).mono ?_
    rintro _ w12 ⟨rfl, rn, e12⟩
    have a12 := a9.ext e12
    have b12 := b9.ext e12
    have q12 := q2.ext e12
    refine ⟨⟨some ⟨w9.heap.size, 0, none⟩, n.ns.length, n.ns.length⟩, rfl, ?_⟩
    obtain ⟨p3, q3⟩ := Row.setMid (A := [.int .i64 c.k, .int .i64 c.m, .string c.t]) (B := [.slice none 0 0]) (p := (⟨w2.heap.size, 0, none⟩ : Addr).add 3) q12 rfl (.slice (some ⟨w9.heap.size, 0, none⟩) n.ns.length n.ns.length)
    refine ⟨p3, letW_i fun w14 h14 => ?_⟩
    rw [← h14] at q3
    have c14 : Chg w2.heap.size w12 w14 := by rw [h14]; exact (Chg.refl _ _).set (by rw [add_block]) _
    have a14 := a12.chg c14 (by omega)
    have b14 := b12.chg c14 (by omega)
    have n14 := rn.chg c14 (by omega)
    have z14 : w9.heap.size < w14.heap.size := n14.lt
    have e014 := (e09.trans e12).chg c14 (by omega)
    clear h14
    rw [exL (Row.nd a14).2.2.2.2]
    refine (c_toNodeS_of (h.ext e014) hz (fun x hx hm w c => ih w c x (by have := cnt_kid hx; omega) hm)).mono ?_
    rintro _ w17 ⟨ds, hdl, rfl, rk, hds, e17⟩
    have b17 := b14.ext e17
    have q17 := q3.ext e17
    have n17 := n14.ext e17
    refine ⟨⟨some ⟨w14.heap.size, 0, none⟩, n.ks.length, n.ks.length⟩, rfl, ?_⟩
    obtain ⟨p4, q4⟩ := Row.setMid (A := [.int .i64 c.k, .int .i64 c.m, .string c.t, .slice (some ⟨w9.heap.size, 0, none⟩) n.ns.length n.ns.length]) (B := []) (p := (⟨w2.heap.size, 0, none⟩ : Addr).add 4) q17 rfl (.slice (some ⟨w14.heap.size, 0, none⟩) n.ks.length n.ks.length)
    refine ⟨p4, letW_i fun w19 h19 => ?_⟩
    rw [← h19] at q4
    have c19 : Chg w2.heap.size w17 w19 := by rw [h19]; exact (Chg.refl _ _).set (by rw [add_block]) _
    have b19 := b17.chg c19 (by omega)
    have n19 := n17.chg c19 (by omega)
    have k19 := rk.chg c19 (by omega)
    have e019 := (e014.trans e17).chg c19 (by omega)
    have d19 := fun i d x hd hx => (hds i d x hd hx).chg c19 (by omega)
    clear h19
    obtain ⟨m0, m1, m2, m3, m4⟩ := Row.nd (c := ⟨c.k, c.m, c.t, ⟨some ⟨w9.heap.size, 0, none⟩, n.ns.length, n.ns.length⟩, ⟨some ⟨w14.heap.size, 0, none⟩, n.ks.length, n.ks.length⟩⟩) q4
    simp only [exI m0, exI m1, exS m2, exL m3, exL m4]
    refine Row.set5 b19 fun w29 q29 c29 => ?_
    have n29 := n19.chg c29 (by omega)
    have k29 := k19.chg c29 (by omega)
    have e029 := e019.chg c29 (by omega)
    have d29 := fun i d x hd hx => (d19 i d x hd hx).chg c29 (by omega)
    obtain ⟨m0, m1, m2, m3, m4⟩ := Row.nd (c := ⟨c.k, c.m, c.t, ⟨some ⟨w9.heap.size, 0, none⟩, n.ns.length, n.ns.length⟩, ⟨some ⟨w14.heap.size, 0, none⟩, n.ks.length, n.ks.length⟩⟩) q29
    simp only [exI m0, exI m1, exS m2, exL m3, exL m4]
    refine ⟨⟨c.k, c.m, c.t, ⟨some ⟨w9.heap.size, 0, none⟩, n.ns.length, n.ns.length⟩, ⟨some ⟨w14.heap.size, 0, none⟩, n.ks.length, n.ks.length⟩⟩, rfl, ?_, e029⟩
    have z := e09.size
    have z' := e014.size
    have sk : NdSl w29 ⟨some ⟨w14.heap.size, 0, none⟩, ds.length, n.ks.length⟩ ds := k29.slOf (by omega)
    rw [hdl] at sk
    rw [show n = Nd.mk c.k c.m c.t n.ns n.ks from h.eta]
    refine NdAt.mk ⟨c.k, c.m, c.t, ⟨some ⟨w9.heap.size, 0, none⟩, n.ns.length, n.ns.length⟩, ⟨some ⟨w14.heap.size, 0, none⟩, n.ks.length, n.ks.length⟩⟩ n.ns n.ks ds (n29.slOf (Nat.le_refl _)) sk hdl ?_ ?_ ⟨hts, hnl, hkl, hns⟩ (fun e => by cases e) ?_
    · intro _ a ha
      have : a = ⟨w9.heap.size, 0, none⟩ := (Option.some.inj ha).symm
      rw [this]; exact z
    · intro _ a ha
      have : a = ⟨w14.heap.size, 0, none⟩ := (Option.some.inj ha).symm
      rw [this]; exact z'
    · intro i d x hd hx
      exact (d29 i d x hd hx).mono fun k hk _ => by omega

theorem c_eqNodeS_of {S S' : Nat → Prop} {w : World} {c d : NdC} {n : Nd} (h : NdAt S w c n) (h' : NdAt S' w d n)
    (ih : ∀ x ∈ n.ks, ∀ (w : World) (c d : NdC), NdAt S w c x → NdAt S' w d x → CallR Try.prog 21 [c.v, d.v] w (fun v w' => v = .bool true ∧ Ext w w')) :
    CallR Try.prog 49 [.slice c.sk.a c.sk.len c.sk.cap, .slice d.sk.a d.sk.len d.sk.cap] w (fun v w' => v = .bool true ∧ Ext w w') := by
  refine fn_laws_eqNodeS _ _ _ _ ?_
  unfold g_laws_eqNodeS
  have hk := h.klen
  have hk' := h'.klen
  have hm := h.out.2.2.2.2.2.2.1
  unfold maxLen at hm
  refine br_f (by rw [hk.1, hk'.1]; simp) ?_
  refine sLoop_list n.ks (fun _ _ w' => Ext w w') (Ext.refl _) ?_ ?_
  · intro K pre post x t w1 hx he hK _
    have hl := mid_len hx
    refine br_dt (by first | omega | (simp only; omega)) (fun w2 (e2 : Ext w1 w2) => ?_)
    obtain ⟨_, dc, a, hsa, hdc, g0, g1, g2, g3, g4⟩ := (h.ext (he.trans e2)).kid (i := pre.length) (mid_get hx)
    obtain ⟨_, dd, b, hsb, hdd, f0, f1, f2, f3, f4⟩ := (h'.ext (he.trans e2)).kid (i := pre.length) (mid_get hx)
    refine onSome_i hsa ⟨⟨by first | omega | (simp only; omega), by first | omega | (simp only; omega)⟩, ?_⟩
    simp only [exI g0, exI g1, exS g2, exL g3, exL g4]
    refine onSome_i hsb ⟨⟨by first | omega | (simp only; omega), by first | omega | (simp only; omega)⟩, ?_⟩
    simp only [exI f0, exI f1, exS f2, exL f3, exL f4]
    exact (ih x (by rw [hx]; simp) w2 dc dd hdc hdd).go fun w3 e3 => ⟨_, rfl, br_f (by simp) ⟨inR_i64 (by omega) (by omega), hK _ _ ((he.trans e2).trans e3)⟩⟩
  · intro K t w1 he _
    exact br_df (by first | omega | (simp only; omega)) ⟨rfl, he⟩

theorem c_laws_eqNode {S S' : Nat → Prop} : ∀ (N : Nat) (w : World) (c d : NdC) (n : Nd), cnt n ≤ N → NdAt S w c n → NdAt S' w d n →
    CallR Try.prog 21 [c.v, d.v] w (fun v w' => v = .bool true ∧ Ext w w') := by
  intro N
  induction N with
  | zero => intro w c d n h; have := cnt_pos n; omega
  | succ N ih =>
    intro w c d n hN h h'
    refine fn_laws_eqNode _ _ _ _ _ _ _ _ _ _ _ _ ?_
    unfold g_laws_eqNode
    refine ndStart fun w1 e1 r1 => ndStart fun w2 e2 r2 => ?_
    obtain ⟨k0, k1, k2, k3, k4⟩ := Row.nd (r1.ext e2)
    obtain ⟨m0, m1, m2, m3, m4⟩ := Row.nd r2
    obtain ⟨hk, hm, ht, hn, _, hnl, _⟩ := h.out
    obtain ⟨hk', hm', ht', hn', _⟩ := h'.out
    have e := e1.trans e2
    simp only [exI k0, exI k1, exS k2, exL k3, exI m0, exI m1, exS m2, exL m3]
    refine br_f (by rw [hk, hk']; simp) (br_f (by rw [hm, hm']; simp) (br_f (by rw [ht, ht', seqB_eq]; simp) ?_))
    refine (c_laws_eqStringS (hn.ext e) (hn'.ext e) hnl).go fun w3 e3 => ⟨_, rfl, br_f (by simp) ?_⟩
    rw [exL (e3.get k4), exL (e3.get m4)]
    refine (c_eqNodeS_of ((h.ext e).ext e3) ((h'.ext e).ext e3) (fun x hx w c d => ih w c d x (by have := cnt_kid hx; omega))).go fun w4 e4 => ⟨_, rfl, br_f (by simp) ⟨by simp, (e.trans e3).trans e4⟩⟩
end Go.Proofs
