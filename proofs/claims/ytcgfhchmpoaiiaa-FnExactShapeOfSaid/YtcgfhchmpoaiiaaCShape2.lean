/-
  What functions of this seat compute, part 'Shape2': contracts over their readable predicates. Conditions: each theorem's own hypotheses.
-/
import Derived.Test.YtcgfhchmpoaiiaaBase
import Derived.Test.YtcgfhchmpoaiiaaOpen
import Derived.Test.YtcgfhchmpoaiiaaGen
import Derived.Test.YtcgfhchmpoaiiaaCSmall
import Derived.Test.YtcgfhchmpoaiiaaCOrder
import Derived.Test.YtcgfhchmpoaiiaaCNode
import Derived.Test.YtcgfhchmpoaiiaaCNodeText
import Derived.Test.YtcgfhchmpoaiiaaCNodeValid
import Derived.Test.YtcgfhchmpoaiiaaCNodeSpec
import Derived.Test.YtcgfhchmpoaiiaaCHelpS
import Derived.Test.YtcgfhchmpoaiiaaCNodeHelp
import Derived.Test.YtcgfhchmpoaiiaaCNodeHelp2
import Derived.Test.YtcgfhchmpoaiiaaCNodeTop
import Derived.Test.YtcgfhchmpoaiiaaCCells
import Derived.Test.YtcgfhchmpoaiiaaCShape
namespace Go.Proofs
open Go Go.Vc Go.RowKit
set_option maxRecDepth 100000
set_option linter.unusedVariables false
--! C:Small C:Order C:Node C:NodeText C:NodeValid C:NodeSpec C:HelpS C:NodeHelp C:NodeHelp2 C:NodeTop C:Cells C:Shape
/-! ## A shape copied; shapes valid or not -/

def zeroSh : ShC := ⟨0, ⟨none, 0, 0⟩, ⟨none, 0, 0⟩, ⟨none, 0, 0⟩⟩

theorem c_toShapeS_of {S : Nat → Prop} {w : World} {c : ShC} {n : Sh} (h : ShAt S w c n) (hz : mzS n ≤ 1048576)
    (ih : ∀ x ∈ n.ks, mzS x ≤ 1048576 → ∀ (w : World) (c : ShC), ShAt S w c x → CallR Try.prog 10 [c.v] w (fun v w' => ∃ d : ShC, v = d.v ∧ ShAt (fun k => w.heap.size ≤ k) w' d x ∧ Ext w w')) :
    CallR Try.prog 34 [.slice c.sk.a c.sk.len c.sk.cap] w (fun v w' => ∃ ds : List ShC, ds.length = n.ks.length ∧ v = .slice (some ⟨w.heap.size, 0, none⟩) n.ks.length n.ks.length ∧ Row w' w.heap.size (ds.flatMap cSh) 31 ∧
      (∀ (i : Nat) d x, ds[i]? = some d → n.ks[i]? = some x → ShAt (fun k => w.heap.size < k) w' d x) ∧ Ext w w') := by
  refine fn_laws_toShapeS _ _ _ ?_
  unfold g_laws_toShapeS
  have hk := h.klen
  have hz' := mzS_eq n
  refine ⟨⟨by omega, by omega, by omega, by omega⟩, letW_i fun w1 hw1 => ?_⟩
  have e1 : Ext w w1 := by rw [hw1]; exact (Ext.refl w).alloc _
  have r1 : Row w1 w.heap.size ((List.replicate n.ks.length zeroSh).flatMap cSh) 31 := by
    have hm := madeCells_agg (cSh zeroSh) (by simp [cSh]) n.ks.length
    have hf : (List.replicate n.ks.length (cSh zeroSh)).flatten = (List.replicate n.ks.length zeroSh).flatMap cSh := by simp [List.flatMap_replicate]
    rw [hw1, hk.1, Int.toNat_natCast]
    rw [hf] at hm
    have hm' : madeCells #[.int .i64 0, .slice none 0 0, .slice none 0 0, .slice none 0 0] (n.ks.length * 4) = ((List.replicate n.ks.length zeroSh).flatMap cSh).toArray := hm
    rw [hm']
    exact Row.new w _ _
  have hs1 : w.heap.size < w1.heap.size := by rw [hw1]; simp
  clear hw1
  refine sLoop_list n.ks (fun pre _ w' => ∃ ds : List ShC, ds.length = pre.length ∧ Ext w w' ∧ w.heap.size < w'.heap.size ∧ Row w' w.heap.size ((ds ++ List.replicate (n.ks.length - ds.length) zeroSh).flatMap cSh) 31 ∧
    (∀ (i : Nat) d x, ds[i]? = some d → pre[i]? = some x → ShAt (fun k => w.heap.size < k) w' d x)) ⟨[], rfl, e1, hs1, by simpa using r1, fun i d x hd => by simp at hd⟩ ?_ ?_
  · rintro K pre post x t w3 hx ⟨ds, hdl, he, hs, hr, hds⟩ hK _
    have hl := mid_len hx
    obtain ⟨dd, a, hsa, hd', g0, g1, g2, g3⟩ := (h.ext he).kid (i := pre.length) (mid_get hx)
    refine br_dt (by first | omega | (simp only; omega)) (onSome_i hsa ⟨⟨by first | omega | (simp only; omega), by first | omega | (simp only; omega)⟩, ?_⟩)
    simp only [add_nought, exI g0, exL g1, exL g2, exL g3]
    refine (ih x (by rw [hx]; simp) (by have := mzS_kid hx; omega) w3 dd hd').mono ?_
    rintro _ w4 ⟨d, rfl, hd4, e4⟩
    refine ⟨_, _, _, _, rfl, ⟨by omega, by omega⟩, ?_⟩
    have hr4 := hr.ext e4
    rw [show n.ks.length - ds.length = (n.ks.length - (ds ++ [d]).length) + 1 by simp; omega, List.replicate_succ] at hr4
    have hr5 : Row w4 w.heap.size (ds.flatMap cSh ++ .int .i64 0 :: .slice none 0 0 :: .slice none 0 0 :: .slice none 0 0 :: (List.replicate (n.ks.length - (ds ++ [d]).length) zeroSh).flatMap cSh) 31 := by
      simpa [cSh, zeroSh] using hr4
    rw [← hdl]
    refine row_put4c hr5 (by rw [flatMap_len cSh_len]) fun w5 r5 c5 => ⟨inR_i64 (by omega) (by omega), ?_⟩
    rw [hdl]
    refine hK _ _ ⟨ds ++ [d], by simp [hdl], (he.trans e4).chg c5 (Nat.le_refl _), ?_, by simpa [cSh] using r5, ?_⟩
    · have := c5.size; have := e4.size; omega
    · intro i d1 x1 hi1 hi2
      by_cases hlt : i < ds.length
      · rw [List.getElem?_append_left hlt] at hi1
        rw [List.getElem?_append_left (by omega)] at hi2
        exact ((hds i d1 x1 hi1 hi2).ext e4).chg c5 (Nat.lt_irrefl _)
      · have hi : i = ds.length := by
          have := (List.getElem?_eq_some_iff.1 hi1).1
          simp at this; omega
        subst hi
        rw [List.getElem?_append_right (Nat.le_refl _)] at hi1
        rw [hdl, List.getElem?_append_right (Nat.le_refl _)] at hi2
        simp at hi1 hi2
        subst hi1 hi2
        exact (hd4.mono (S' := fun k => w.heap.size < k) fun k hk _ => Nat.lt_of_lt_of_le hs hk).chg c5 (Nat.lt_irrefl _)
  · rintro K t w3 ⟨ds, hdl, he, hs, hr, hds⟩ _
    refine br_df (by first | omega | (simp only; omega)) ⟨ds, hdl, ?_, ?_, hds, he⟩
    · rw [hk.1, Int.toNat_natCast]
    · have : n.ks.length - ds.length = 0 := by omega
      rw [this] at hr
      simpa using hr

set_option maxHeartbeats 1000000 in
theorem c_laws_toShape {S : Nat → Prop} : ∀ (N : Nat) (w : World) (c : ShC) (n : Sh), cnS n ≤ N → mzS n ≤ 1048576 → ShAt S w c n →
    CallR Try.prog 10 [c.v] w (fun v w' => ∃ d : ShC, v = d.v ∧ ShAt (fun k => w.heap.size ≤ k) w' d n ∧ Ext w w') := by
  intro N
  induction N with
  | zero => intro w c n h; have := cnS_pos n; omega
  | succ N ih =>
    intro w c n hN hz h
    refine fn_laws_toShape _ _ _ _ _ _ ?_
    unfold g_laws_toShape
    refine shBox fun w1 e1 r1 => letW_i fun w2 hw2 => letW_i fun w3 hw3 => ?_
    obtain ⟨_, hn, hb, hnl, hbl, hkl, hns, _⟩ := h.out
    have hz' := mzS_eq n
    have e2 : Ext w1 w2 := by rw [hw2]; exact (Ext.refl w1).alloc _
    have e3 : Ext w2 w3 := by rw [hw3]; exact (Ext.refl w2).alloc _
    have rb2 : Row w2 w1.heap.size (cSh zeroSh) 31 := by rw [hw2]; exact Row.new w1 (cSh zeroSh) _
    have rc : Row w3 w2.heap.size (cSh zeroSh) 31 := by rw [hw3]; exact Row.new w2 (cSh zeroSh) _
    have ra := (r1.ext e2).ext e3
    have rb := rb2.ext e3
    have s1 := r1.lt
    have s2 := rb2.lt
    have s3 := rc.lt
    have e03 := (e1.trans e2).trans e3
    clear hw2 hw3
    simp only [add_nought]
    rw [exI (Row.sh ra).1]
    obtain ⟨p0, q0⟩ := Row.setMid (A := []) (p := (⟨w2.heap.size, 0, none⟩ : Addr)) rc rfl (.int .i64 c.k)
    refine ⟨p0, letW_i fun w5 h5 => ?_⟩
    rw [← h5] at q0
    have c5 : Chg w2.heap.size w3 w5 := by rw [h5]; exact (Chg.refl _ _).set rfl _
    have a5 := ra.chg c5 (by omega)
    have b5 := rb.chg c5 (by omega)
    have z5 := q0.lt
    have e05 := e03.chg c5 (by omega)
    clear h5
    rw [exL (Row.sh a5).2.1]
    refine (c_laws_toStringS (hn.ext e05) (by omega)).mono ?_
    rintro _ w8 ⟨rfl, rn, e8⟩
    have a8 := a5.ext e8
    have b8 := b5.ext e8
    have q8 := q0.ext e8
    refine ⟨⟨some ⟨w5.heap.size, 0, none⟩, n.ns.length, n.ns.length⟩, rfl, ?_⟩
    obtain ⟨p1, q1⟩ := Row.setMid (A := [.int .i64 c.k]) (B := [.slice none 0 0, .slice none 0 0]) (p := (⟨w2.heap.size, 0, none⟩ : Addr).add 1) q8 rfl (.slice (some ⟨w5.heap.size, 0, none⟩) n.ns.length n.ns.length)
    refine ⟨p1, letW_i fun w10 h10 => ?_⟩
    rw [← h10] at q1
    have c10 : Chg w2.heap.size w8 w10 := by rw [h10]; exact (Chg.refl _ _).set (by rw [add_block]) _
    have a10 := a8.chg c10 (by omega)
    have b10 := b8.chg c10 (by omega)
    have n10 := rn.chg c10 (by omega)
    have z10 : w5.heap.size < w10.heap.size := n10.lt
    have e010 := (e05.trans e8).chg c10 (by omega)
    clear h10
    rw [exL (Row.sh a10).2.2.1]
    refine (c_laws_toBoolS (hb.ext e010) (by omega)).mono ?_
    rintro _ w13 ⟨rfl, rm, e13⟩
    have a13 := a10.ext e13
    have b13 := b10.ext e13
    have q13 := q1.ext e13
    have n13 := n10.ext e13
    refine ⟨⟨some ⟨w10.heap.size, 0, none⟩, n.bs.length, n.bs.length⟩, rfl, ?_⟩
    obtain ⟨p2, q2⟩ := Row.setMid (A := [.int .i64 c.k, .slice (some ⟨w5.heap.size, 0, none⟩) n.ns.length n.ns.length]) (B := [.slice none 0 0]) (p := (⟨w2.heap.size, 0, none⟩ : Addr).add 2) q13 rfl (.slice (some ⟨w10.heap.size, 0, none⟩) n.bs.length n.bs.length)
    refine ⟨p2, letW_i fun w15 h15 => ?_⟩
    rw [← h15] at q2
    have c15 : Chg w2.heap.size w13 w15 := by rw [h15]; exact (Chg.refl _ _).set (by rw [add_block]) _
    have a15 := a13.chg c15 (by omega)
    have b15 := b13.chg c15 (by omega)
    have n15 := n13.chg c15 (by omega)
    have m15 := rm.chg c15 (by omega)
    have z15 : w10.heap.size < w15.heap.size := m15.lt
    have e015 := (e010.trans e13).chg c15 (by omega)
    clear h15
    rw [exL (Row.sh a15).2.2.2]
    refine (c_toShapeS_of (h.ext e015) hz (fun x hx hm w c => ih w c x (by have := cnS_kid hx; omega) hm)).mono ?_
    rintro _ w18 ⟨ds, hdl, rfl, rk, hds, e18⟩
    have b18 := b15.ext e18
    have q18 := q2.ext e18
    have n18 := n15.ext e18
    have m18 := m15.ext e18
    refine ⟨⟨some ⟨w15.heap.size, 0, none⟩, n.ks.length, n.ks.length⟩, rfl, ?_⟩
    obtain ⟨p3, q3⟩ := Row.setMid (A := [.int .i64 c.k, .slice (some ⟨w5.heap.size, 0, none⟩) n.ns.length n.ns.length, .slice (some ⟨w10.heap.size, 0, none⟩) n.bs.length n.bs.length]) (B := []) (p := (⟨w2.heap.size, 0, none⟩ : Addr).add 3) q18 rfl (.slice (some ⟨w15.heap.size, 0, none⟩) n.ks.length n.ks.length)
    refine ⟨p3, letW_i fun w20 h20 => ?_⟩
    rw [← h20] at q3
    have c20 : Chg w2.heap.size w18 w20 := by rw [h20]; exact (Chg.refl _ _).set (by rw [add_block]) _
    have b20 := b18.chg c20 (by omega)
    have n20 := n18.chg c20 (by omega)
    have m20 := m18.chg c20 (by omega)
    have k20 := rk.chg c20 (by omega)
    have e020 := (e015.trans e18).chg c20 (by omega)
    have d20 := fun i d x hd hx => (hds i d x hd hx).chg c20 (by omega)
    clear h20
    obtain ⟨m0, m1, m2, m3⟩ := Row.sh (c := ⟨c.k, ⟨some ⟨w5.heap.size, 0, none⟩, n.ns.length, n.ns.length⟩, ⟨some ⟨w10.heap.size, 0, none⟩, n.bs.length, n.bs.length⟩, ⟨some ⟨w15.heap.size, 0, none⟩, n.ks.length, n.ks.length⟩⟩) q3
    simp only [exI m0, exL m1, exL m2, exL m3]
    refine row_set4c b20 fun w29 q29 c29 => ?_
    have n29 := n20.chg c29 (by omega)
    have m29 := m20.chg c29 (by omega)
    have k29 := k20.chg c29 (by omega)
    have e029 := e020.chg c29 (by omega)
    have d29 := fun i d x hd hx => (d20 i d x hd hx).chg c29 (by omega)
    obtain ⟨m0, m1, m2, m3⟩ := Row.sh (c := ⟨c.k, ⟨some ⟨w5.heap.size, 0, none⟩, n.ns.length, n.ns.length⟩, ⟨some ⟨w10.heap.size, 0, none⟩, n.bs.length, n.bs.length⟩, ⟨some ⟨w15.heap.size, 0, none⟩, n.ks.length, n.ks.length⟩⟩) q29
    simp only [exI m0, exL m1, exL m2, exL m3]
    refine ⟨⟨c.k, ⟨some ⟨w5.heap.size, 0, none⟩, n.ns.length, n.ns.length⟩, ⟨some ⟨w10.heap.size, 0, none⟩, n.bs.length, n.bs.length⟩, ⟨some ⟨w15.heap.size, 0, none⟩, n.ks.length, n.ks.length⟩⟩, rfl, ?_, e029⟩
    have z := e05.size
    have z' := e010.size
    have z'' := e015.size
    have sk : ShSl w29 ⟨some ⟨w15.heap.size, 0, none⟩, ds.length, n.ks.length⟩ ds := k29.slOf (by omega)
    rw [hdl] at sk
    rw [show n = Sh.mk c.k n.ns n.bs n.ks from h.eta]
    refine ShAt.mk ⟨c.k, ⟨some ⟨w5.heap.size, 0, none⟩, n.ns.length, n.ns.length⟩, ⟨some ⟨w10.heap.size, 0, none⟩, n.bs.length, n.bs.length⟩, ⟨some ⟨w15.heap.size, 0, none⟩, n.ks.length, n.ks.length⟩⟩ n.ns n.bs n.ks ds (n29.slOf (Nat.le_refl _)) (m29.slOf (Nat.le_refl _)) sk hdl ?_ ?_ ?_ ⟨hnl, hbl, hkl, hns⟩ ?_
    · intro _ a ha
      have : a = ⟨w5.heap.size, 0, none⟩ := (Option.some.inj ha).symm
      rw [this]; exact z
    · intro _ a ha
      have : a = ⟨w10.heap.size, 0, none⟩ := (Option.some.inj ha).symm
      rw [this]; exact z'
    · intro _ a ha
      have : a = ⟨w15.heap.size, 0, none⟩ := (Option.some.inj ha).symm
      rw [this]; exact z''
    · intro i d x hd hx
      exact (d29 i d x hd hx).mono fun k hk _ => by omega

/-! ### Valid or not -/

def partS (k : Int) (ns : List ByteArray) (nb nk : Nat) : Bool :=
  decide (0 ≤ k ∧ k ≤ 4) && okNames ns && decide (ns.length ≤ 6) && decide (nb = ns.length) && decide (nk = ns.length) && (decide (k = 4) || decide (ns.length = 0))
def vSh : Nat → Sh → Bool
  | 0, _ => false
  | d + 1, x => partS x.k x.ns x.bs.length x.ks.length && x.ks.all (vSh d)

theorem vSh_no {d : Nat} {x : Sh} (h : partS x.k x.ns x.bs.length x.ks.length = false) : vSh (d + 1) x = false := by simp [vSh, h]
theorem vSh_kid {d : Nat} {x y : Sh} {pre post : List Sh} (hx : x.ks = pre ++ y :: post) (h : vSh d y = false) : vSh (d + 1) x = false := by simp [vSh, hx, h]

theorem c_spec_validShape {S : Nat → Prop} : ∀ (d : Nat) (w : World) (c : ShC) (n : Sh), d ≤ 5 → ShAt S w c n →
    CallR Try.prog 31 [c.v, .int .i64 (d : Int)] w (fun v w' => v = .bool (vSh d n) ∧ Ext w w') := by
  intro d
  induction d with
  | zero =>
    intro w c n _ h
    refine fn_spec_validShape _ _ _ _ _ _ _ ?_
    unfold g_spec_validShape
    exact shBox fun w1 e1 r1 => br_t (by simp) ⟨rfl, e1⟩
  | succ d ih =>
    intro w c n hd h
    refine fn_spec_validShape _ _ _ _ _ _ _ ?_
    unfold g_spec_validShape
    refine shBox fun w1 e1 r1 => br_f (by simp; omega) ?_
    obtain ⟨k0, k1, k2, k3⟩ := Row.sh r1
    obtain ⟨hk, hn, hb, hnl, hbl, hkl, hns, _⟩ := h.out
    obtain ⟨l3, l1, l2, _⟩ := h.klen
    simp only [add_nought, exI k0]
    refine (c_spec_inRange _ _ _ _).go fun w2 e2 => ⟨_, rfl, br_i (fun f => ?_) (fun f => ?_)⟩
    · refine ⟨?_, e1.trans e2⟩
      have f' : ¬ (0 ≤ n.k ∧ n.k ≤ 4) := by rw [← hk]; exact of_decide_eq_false (nott f)
      rw [vSh_no]; simp [partS, f']
    have f1 : 0 ≤ n.k ∧ n.k ≤ 4 := by rw [← hk]; simpa using f
    simp only [exL (e2.get k1)]
    refine (c_spec_names (hn.ext (e1.trans e2)) hnl hns).go fun w3 e3 => ⟨_, rfl, br_i (fun f => ?_) (fun f => ?_)⟩
    · refine ⟨?_, (e1.trans e2).trans e3⟩
      have f' : okNames n.ns = false := by simpa using f
      rw [vSh_no]; simp [partS, f']
    have f2 : okNames n.ns = true := by simpa using f
    have e23 := e2.trans e3
    have e13 := e1.trans e23
    have r3 := r1.ext e23
    obtain ⟨k0, k1, k2, k3⟩ := Row.sh r3
    simp only [exI k0, exL k1, exL k2, exL k3]
    refine br_i (fun f => ?_) (fun f => br_i (fun g => ?_) (fun g => br_d (fun q => ?_) (fun q => ?_)))
    · refine ⟨?_, e13⟩
      have f' : ¬ n.ks.length = n.ns.length := by simp at f; omega
      rw [vSh_no]; simp [partS, f']
    · refine ⟨?_, e13⟩
      have f' : ¬ n.bs.length = n.ns.length := by simp at g; omega
      rw [vSh_no]; simp [partS, f']
    · refine ⟨?_, e13⟩
      have g' : n.ks.length = n.ns.length := by simp at f; omega
      have f' : ¬ n.ns.length ≤ 6 := by omega
      rw [vSh_no]; simp [partS, f']
    have f3 : n.ks.length = n.ns.length := by simp at f; omega
    have f4 : n.bs.length = n.ns.length := by simp at g; omega
    have f5 : n.ns.length ≤ 6 := by omega
    have fin : partS n.k n.ns n.bs.length n.ks.length = true → sLoop (σ := Int × Unit) ((0 : Int), ()) w3 (fun K18 st17 w19 => ∀ H20 : Fr, ∃ l21 : Sl, w19.cell? ((⟨w.heap.size, 0, none⟩ : Addr).add 3) = some (.slice l21.a l21.len l21.cap) ∧ br (decide (st17.1 < (l21.len : Int))) (∃ l22 : Sl, w19.cell? ((⟨w.heap.size, 0, none⟩ : Addr).add 3) = some (.slice l22.a l22.len l22.cap) ∧ onSome l22.a (fun a23 => ((0 : Int) ≤ st17.1 ∧ st17.1 < (l22.len : Int)) ∧ ∃ n24 : Int, w19.cell? (a23.add (st17.1.toNat * 4)) = some (.int .i64 n24) ∧ ∃ l25 : Sl, w19.cell? ((a23.add (st17.1.toNat * 4)).add 1) = some (.slice l25.a l25.len l25.cap) ∧ ∃ l26 : Sl, w19.cell? ((a23.add (st17.1.toNat * 4)).add 2) = some (.slice l26.a l26.len l26.cap) ∧ ∃ l27 : Sl, w19.cell? ((a23.add (st17.1.toNat * 4)).add 3) = some (.slice l27.a l27.len l27.cap) ∧ InR .i64 (((d + 1 : Nat) : Int) - (1 : Int)) ∧ CallR Try.prog 31 [.agg #[.int .i64 n24, .slice l25.a l25.len l25.cap, .slice l26.a l26.len l26.cap, .slice l27.a l27.len l27.cap], .int .i64 (((d + 1 : Nat) : Int) - (1 : Int))] w19 (fun r28 w29 => ∃ b30 : Bool, r28 = .bool b30 ∧ br (!b30) (Value.bool false = .bool (vSh (d + 1) n) ∧ Ext w w29) (InR .i64 (st17.1 + (1 : Int)) ∧ K18 ((st17.1 + (1 : Int)), ()) w29)))) (Value.bool true = .bool (vSh (d + 1) n) ∧ Ext w w19)) := by
      intro hp
      refine sLoop_list n.ks (fun pre t w' => Ext w3 w' ∧ pre.all (vSh d) = true) ⟨Ext.refl _, rfl⟩ ?_ ?_
      · rintro K pre post x t w4 hx ⟨he, ha⟩ hK _
        have hl := mid_len hx
        obtain ⟨_, _, _, k3⟩ := Row.sh (r3.ext he)
        simp only [exL k3]
        obtain ⟨dd, a, hsa, hd', g0, g1, g2, g3⟩ := (h.ext (e13.trans he)).kid (i := pre.length) (mid_get hx)
        refine br_dt (by first | omega | (simp only; omega)) (onSome_i hsa ⟨⟨by first | omega | (simp only; omega), by first | omega | (simp only; omega)⟩, ?_⟩)
        simp only [exI g0, exL g1, exL g2, exL g3]
        have hlev : ((d + 1 : Nat) : Int) - 1 = (d : Int) := by omega
        rw [hlev]
        refine ⟨inR_i64 (by omega) (by omega), (ih w4 dd x (by omega) hd').go fun w5 e5 => ⟨_, rfl, br_i (fun q => ⟨?_, (e13.trans he).trans e5⟩) (fun q => ⟨inR_i64 (by omega) (by omega), hK _ _ ⟨he.trans e5, ?_⟩⟩)⟩⟩
        · rw [vSh_kid hx (by simpa using q)]
        · have q' : vSh d x = true := by simpa using q
          simp [ha, q']
      · rintro K t w4 ⟨he, ha⟩ _
        obtain ⟨_, _, _, k3⟩ := Row.sh (r3.ext he)
        simp only [exL k3]
        exact br_df (by first | omega | (simp only; omega)) ⟨by simp only [vSh, hp, Bool.true_and, ha], e13.trans he⟩
    refine br_i (fun q4 => br_d (fun q5 => ?_) (fun q5 => ?_)) (fun q4 => ?_)
    · refine ⟨?_, e13⟩
      have f' : ¬ n.k = 4 := by rw [← hk]; simpa using q4
      have g' : ¬ n.ns = [] := fun e => by
        have := congrArg List.length e
        rw [List.length_nil] at this
        omega
      rw [vSh_no]; simp [partS, f', g']
    · exact fin (by
        have : n.ns.length = 0 := by omega
        rw [f3, f4]
        simp [partS, f1, f2, this])
    · exact fin (by
        have : n.k = 4 := by rw [← hk]; simpa using q4
        rw [f3, f4]
        simp [partS, f2, f5, this])

theorem c_spec_validShape5 {S : Nat → Prop} {w : World} {c : ShC} {n : Sh} (h : ShAt S w c n) :
    CallR Try.prog 31 [c.v, .int .i64 5] w (fun v w' => v = .bool (vSh 5 n) ∧ Ext w w') := c_spec_validShape 5 w c n (by omega) h

theorem c_spec_ValidShape {S : Nat → Prop} {w : World} {c : ShC} {n : Sh} (h : ShAt S w c n) :
    CallR Try.prog 9 [c.v] w (fun v w' => v = .bool (vSh 5 n) ∧ Ext w w') := by
  refine fn_spec_ValidShape _ _ _ _ _ _ ?_
  unfold g_spec_ValidShape
  refine shBox fun w1 e1 r1 => ?_
  obtain ⟨k0, k1, k2, k3⟩ := Row.sh r1
  simp only [add_nought, exI k0, exL k1, exL k2, exL k3]
  exact (c_spec_validShape5 (h.ext e1)).go fun w2 e2 => ⟨_, rfl, rfl, e1.trans e2⟩

theorem c_impl_isShape {S : Nat → Prop} : ∀ (d : Nat) (w : World) (c : ShC) (n : Sh), d ≤ 5 → ShAt S w c n →
    CallR Try.prog 35 [c.v, .int .i64 (6 - (d : Int))] w (fun v w' => v = .bool (vSh d n) ∧ Ext w w') := by
  intro d
  induction d with
  | zero =>
    intro w c n _ h
    refine fn_impl_isShape _ _ _ _ _ _ _ ?_
    unfold g_impl_isShape
    exact shBox fun w1 e1 r1 => br_dt (by omega) ⟨rfl, e1⟩
  | succ d ih =>
    intro w c n hd h
    refine fn_impl_isShape _ _ _ _ _ _ _ ?_
    unfold g_impl_isShape
    refine shBox fun w1 e1 r1 => br_df (by omega) ?_
    obtain ⟨k0, k1, k2, k3⟩ := Row.sh r1
    obtain ⟨hk, hn, hb, hnl, hbl, hkl, hns, _⟩ := h.out
    obtain ⟨l3, l1, l2, _⟩ := h.klen
    unfold maxLen at hkl
    simp only [add_nought, exI k0, exL k1]
    refine br_d (fun f => ?_) (fun f => br_d (fun f' => ?_) (fun f' => ?_))
    · refine ⟨?_, e1⟩
      have g : ¬ (0 ≤ n.k) := by rw [← hk]; omega
      rw [vSh_no]; simp [partS, g]
    · refine ⟨?_, e1⟩
      have g : ¬ (n.k ≤ 4) := by rw [← hk]; omega
      rw [vSh_no]; simp [partS, g]
    have f1 : 0 ≤ n.k ∧ n.k ≤ 4 := by rw [← hk]; omega
    refine (c_impl_areNames (hn.ext e1)).go fun w3 e13' => ⟨_, rfl, br_i (fun f => ?_) (fun f => ?_)⟩
    · refine ⟨?_, e1.trans e13'⟩
      have g : (decide (n.ns.length ≤ 6) && okNames n.ns) = false := nott f
      rw [Bool.and_eq_false_iff] at g
      rw [vSh_no]
      rcases g with g | g <;> simp [partS, g] <;> (try (have := of_decide_eq_false g; omega))
    have f2 : decide (n.ns.length ≤ 6) = true ∧ okNames n.ns = true := by
      have g := notf f
      rwa [Bool.and_eq_true] at g
    obtain ⟨f5, f2⟩ := f2
    have f5' := of_decide_eq_true f5
    have e13 := e1.trans e13'
    have r3 := r1.ext e13'
    obtain ⟨k0, k1, k2, k3⟩ := Row.sh r3
    simp only [exI k0, exL k1, exL k2, exL k3]
    have fin : partS n.k n.ns n.bs.length n.ks.length = true → sLoop (σ := Int × Unit) ((0 : Int), ()) w3 (fun K16 st15 w17 => ∀ H18 : Fr, br (decide (st15.1 < (c.sk.len : Int))) (onSome c.sk.a (fun a19 => ((0 : Int) ≤ st15.1 ∧ st15.1 < (c.sk.len : Int)) ∧ ∃ n20 : Int, w17.cell? (a19.add (st15.1.toNat * 4)) = some (.int .i64 n20) ∧ ∃ l21 : Sl, w17.cell? ((a19.add (st15.1.toNat * 4)).add 1) = some (.slice l21.a l21.len l21.cap) ∧ ∃ l22 : Sl, w17.cell? ((a19.add (st15.1.toNat * 4)).add 2) = some (.slice l22.a l22.len l22.cap) ∧ ∃ l23 : Sl, w17.cell? ((a19.add (st15.1.toNat * 4)).add 3) = some (.slice l23.a l23.len l23.cap) ∧ letW (w17.alloc (.cells #[.int .i64 (0 : Int), .slice none 0 0, .slice none 0 0, .slice none 0 0] 31)) (fun w24 => Wr w24 (⟨w17.heap.size, 0, none⟩ : Addr) ∧ letW (w24.setCell (⟨w17.heap.size, 0, none⟩ : Addr) (.int .i64 n20)) (fun w25 => Wr w25 ((⟨w17.heap.size, 0, none⟩ : Addr).add 1) ∧ letW (w25.setCell ((⟨w17.heap.size, 0, none⟩ : Addr).add 1) (.slice l21.a l21.len l21.cap)) (fun w26 => Wr w26 ((⟨w17.heap.size, 0, none⟩ : Addr).add 2) ∧ letW (w26.setCell ((⟨w17.heap.size, 0, none⟩ : Addr).add 2) (.slice l22.a l22.len l22.cap)) (fun w27 => Wr w27 ((⟨w17.heap.size, 0, none⟩ : Addr).add 3) ∧ letW (w27.setCell ((⟨w17.heap.size, 0, none⟩ : Addr).add 3) (.slice l23.a l23.len l23.cap)) (fun w28 => ∃ n29 : Int, w28.cell? (⟨w17.heap.size, 0, none⟩ : Addr) = some (.int .i64 n29) ∧ ∃ l30 : Sl, w28.cell? ((⟨w17.heap.size, 0, none⟩ : Addr).add 1) = some (.slice l30.a l30.len l30.cap) ∧ ∃ l31 : Sl, w28.cell? ((⟨w17.heap.size, 0, none⟩ : Addr).add 2) = some (.slice l31.a l31.len l31.cap) ∧ ∃ l32 : Sl, w28.cell? ((⟨w17.heap.size, 0, none⟩ : Addr).add 3) = some (.slice l32.a l32.len l32.cap) ∧ InR .i64 ((6 - ((d + 1 : Nat) : Int)) + (1 : Int)) ∧ CallR Try.prog 35 [.agg #[.int .i64 n29, .slice l30.a l30.len l30.cap, .slice l31.a l31.len l31.cap, .slice l32.a l32.len l32.cap], .int .i64 ((6 - ((d + 1 : Nat) : Int)) + (1 : Int))] w28 (fun r33 w34 => ∃ b35 : Bool, r33 = .bool b35 ∧ br (!b35) (Value.bool false = .bool (vSh (d + 1) n) ∧ Ext w w34) (InR .i64 (st15.1 + (1 : Int)) ∧ K16 ((st15.1 + (1 : Int)), ()) w34))))))))) (Value.bool true = .bool (vSh (d + 1) n) ∧ Ext w w17)) := by
      intro hp
      refine sLoop_list n.ks (fun pre t w' => Ext w3 w' ∧ pre.all (vSh d) = true) ⟨Ext.refl _, rfl⟩ ?_ ?_
      · rintro K pre post x t w4 hx ⟨he, ha⟩ hK _
        have hl := mid_len hx
        obtain ⟨dd, a, hsa, hd', g0, g1, g2, g3⟩ := (h.ext (e13.trans he)).kid (i := pre.length) (mid_get hx)
        refine br_dt (by first | omega | (simp only; omega)) (onSome_i hsa ⟨⟨by first | omega | (simp only; omega), by first | omega | (simp only; omega)⟩, ?_⟩)
        simp only [exI g0, exL g1, exL g2, exL g3]
        refine local4c fun w5 r5 e5 => ?_
        have r5' : Row w5 w4.heap.size (cSh dd) 31 := r5
        obtain ⟨m0, m1, m2, m3⟩ := Row.sh r5'
        simp only [exI m0, exL m1, exL m2, exL m3]
        have hlev : 6 - ((d + 1 : Nat) : Int) + 1 = 6 - (d : Int) := by omega
        rw [hlev]
        refine ⟨inR_i64 (by omega) (by omega), (ih w5 dd x (by omega) (hd'.ext e5)).go fun w6 e6 => ⟨_, rfl, br_i (fun q => ⟨?_, ((e13.trans he).trans e5).trans e6⟩) (fun q => ⟨inR_i64 (by omega) (by omega), hK _ _ ⟨(he.trans e5).trans e6, ?_⟩⟩)⟩⟩
        · rw [vSh_kid hx (by simpa using q)]
        · have q' : vSh d x = true := by simpa using q
          simp [ha, q']
      · rintro K t w4 ⟨he, ha⟩ _
        exact br_df (by first | omega | (simp only; omega)) ⟨by simp only [vSh, hp, Bool.true_and, ha], e13.trans he⟩
    have tail : (n.k = 4 ∨ n.ns.length = 0) → br ((c.sb.len : Int) != (c.sn.len : Int)) (Value.bool false = .bool (vSh (d + 1) n) ∧ Ext w w3) (br ((c.sk.len : Int) != (c.sn.len : Int)) (Value.bool false = .bool (vSh (d + 1) n) ∧ Ext w w3) (sLoop (σ := Int × Unit) ((0 : Int), ()) w3 (fun K16 st15 w17 => ∀ H18 : Fr, br (decide (st15.1 < (c.sk.len : Int))) (onSome c.sk.a (fun a19 => ((0 : Int) ≤ st15.1 ∧ st15.1 < (c.sk.len : Int)) ∧ ∃ n20 : Int, w17.cell? (a19.add (st15.1.toNat * 4)) = some (.int .i64 n20) ∧ ∃ l21 : Sl, w17.cell? ((a19.add (st15.1.toNat * 4)).add 1) = some (.slice l21.a l21.len l21.cap) ∧ ∃ l22 : Sl, w17.cell? ((a19.add (st15.1.toNat * 4)).add 2) = some (.slice l22.a l22.len l22.cap) ∧ ∃ l23 : Sl, w17.cell? ((a19.add (st15.1.toNat * 4)).add 3) = some (.slice l23.a l23.len l23.cap) ∧ letW (w17.alloc (.cells #[.int .i64 (0 : Int), .slice none 0 0, .slice none 0 0, .slice none 0 0] 31)) (fun w24 => Wr w24 (⟨w17.heap.size, 0, none⟩ : Addr) ∧ letW (w24.setCell (⟨w17.heap.size, 0, none⟩ : Addr) (.int .i64 n20)) (fun w25 => Wr w25 ((⟨w17.heap.size, 0, none⟩ : Addr).add 1) ∧ letW (w25.setCell ((⟨w17.heap.size, 0, none⟩ : Addr).add 1) (.slice l21.a l21.len l21.cap)) (fun w26 => Wr w26 ((⟨w17.heap.size, 0, none⟩ : Addr).add 2) ∧ letW (w26.setCell ((⟨w17.heap.size, 0, none⟩ : Addr).add 2) (.slice l22.a l22.len l22.cap)) (fun w27 => Wr w27 ((⟨w17.heap.size, 0, none⟩ : Addr).add 3) ∧ letW (w27.setCell ((⟨w17.heap.size, 0, none⟩ : Addr).add 3) (.slice l23.a l23.len l23.cap)) (fun w28 => ∃ n29 : Int, w28.cell? (⟨w17.heap.size, 0, none⟩ : Addr) = some (.int .i64 n29) ∧ ∃ l30 : Sl, w28.cell? ((⟨w17.heap.size, 0, none⟩ : Addr).add 1) = some (.slice l30.a l30.len l30.cap) ∧ ∃ l31 : Sl, w28.cell? ((⟨w17.heap.size, 0, none⟩ : Addr).add 2) = some (.slice l31.a l31.len l31.cap) ∧ ∃ l32 : Sl, w28.cell? ((⟨w17.heap.size, 0, none⟩ : Addr).add 3) = some (.slice l32.a l32.len l32.cap) ∧ InR .i64 ((6 - ((d + 1 : Nat) : Int)) + (1 : Int)) ∧ CallR Try.prog 35 [.agg #[.int .i64 n29, .slice l30.a l30.len l30.cap, .slice l31.a l31.len l31.cap, .slice l32.a l32.len l32.cap], .int .i64 ((6 - ((d + 1 : Nat) : Int)) + (1 : Int))] w28 (fun r33 w34 => ∃ b35 : Bool, r33 = .bool b35 ∧ br (!b35) (Value.bool false = .bool (vSh (d + 1) n) ∧ Ext w w34) (InR .i64 (st15.1 + (1 : Int)) ∧ K16 ((st15.1 + (1 : Int)), ()) w34))))))))) (Value.bool true = .bool (vSh (d + 1) n) ∧ Ext w w17)))) := by
      intro h4
      refine br_i (fun f => ?_) (fun f => br_i (fun g => ?_) (fun g => fin ?_))
      · refine ⟨?_, e13⟩
        have f' : ¬ n.bs.length = n.ns.length := by simp at f; omega
        rw [vSh_no]; simp [partS, f']
      · refine ⟨?_, e13⟩
        have f' : ¬ n.ks.length = n.ns.length := by simp at g; omega
        rw [vSh_no]; simp [partS, f']
      · have q3 : n.bs.length = n.ns.length := by simp at f; omega
        have q4 : n.ks.length = n.ns.length := by simp at g; omega
        rw [q3, q4]
        rcases h4 with h4 | h4
        · simp [partS, f2, f5', h4]
        · simp [partS, f1, f2, h4]
    refine br_d (fun q5 => br_i (fun q4 => ?_) (fun q4 => ?_)) (fun q5 => ?_)
    · refine ⟨?_, e13⟩
      have f' : ¬ n.k = 4 := by rw [← hk]; simpa using q4
      have g' : ¬ n.ns = [] := fun e => by
        have := congrArg List.length e
        rw [List.length_nil] at this
        omega
      rw [vSh_no]; simp [partS, f', g']
    · exact tail (.inl (by rw [← hk]; simpa using q4))
    · exact tail (.inr (by omega))

theorem c_impl_isShape1 {S : Nat → Prop} {w : World} {c : ShC} {n : Sh} (h : ShAt S w c n) :
    CallR Try.prog 35 [c.v, .int .i64 1] w (fun v w' => v = .bool (vSh 5 n) ∧ Ext w w') := c_impl_isShape 5 w c n (by omega) h

theorem c_impl_ValidShape {S : Nat → Prop} {w : World} {c : ShC} {n : Sh} (h : ShAt S w c n) :
    CallR Try.prog 11 [c.v] w (fun v w' => v = .bool (vSh 5 n) ∧ Ext w w') := by
  refine fn_impl_ValidShape _ _ _ _ _ _ ?_
  unfold g_impl_ValidShape
  refine shBox fun w1 e1 r1 => ?_
  obtain ⟨k0, k1, k2, k3⟩ := Row.sh r1
  simp only [add_nought, exI k0, exL k1, exL k2, exL k3]
  exact (c_impl_isShape1 (h.ext e1)).go fun w2 e2 => ⟨_, rfl, rfl, e1.trans e2⟩

theorem c_laws_FnExactValidShape {w : World} {c : ShC} {n : Sh} (h : ShAt (fun _ => True) w c n) :
    CallR Try.prog 3 [c.v] w (fun v w' => v = .bool true ∧ Ext w w') := by
  refine fn_laws_FnExactValidShape _ _ _ _ _ _ ?_
  unfold g_laws_FnExactValidShape
  refine shBox fun w1 e1 r1 => ?_
  obtain ⟨k0, k1, k2, k3⟩ := Row.sh r1
  simp only [add_nought, exI k0, exL k1, exL k2, exL k3]
  refine (c_laws_szShape _ w1 c n 1048576 (Nat.le_refl _) (h.ext e1) (by omega) (by omega)).mono ?_
  rintro _ w2 ⟨hv, e2⟩
  rcases hv with rfl | ⟨rfl, hpos⟩
  · exact ⟨_, rfl, br_dt (by omega) ⟨by simp, e1.trans e2⟩⟩
  have hz : mzS n ≤ 1048576 := by omega
  refine ⟨_, rfl, br_df (by omega) ?_⟩
  simp only [exI (e2.get k0), exL (e2.get k1), exL (e2.get k2), exL (e2.get k3)]
  have e02 := e1.trans e2
  refine (c_laws_toShape _ w2 c n (Nat.le_refl _) hz (h.ext e02)).mono ?_
  rintro _ w3 ⟨x3, rfl, h3, e3⟩
  have e03 := e02.trans e3
  refine ⟨_, _, _, _, rfl, (c_spec_ValidShape h3).go fun w4 e4 => ⟨_, rfl, ?_⟩⟩
  have e04 := e03.trans e4
  have e14 := (e2.trans e3).trans e4
  simp only [exI (e14.get k0), exL (e14.get k1), exL (e14.get k2), exL (e14.get k3)]
  refine (c_laws_toShape _ w4 c n (Nat.le_refl _) hz (h.ext e04)).mono ?_
  rintro _ w5 ⟨x5, rfl, h5, e5⟩
  have e05 := e04.trans e5
  refine ⟨_, _, _, _, rfl, local4c fun w6 r6 e6 => ?_⟩
  obtain ⟨m0, m1, m2, m3⟩ := Row.sh (c := x5) r6
  simp only [exI m0, exL m1, exL m2, exL m3]
  have e06 := e05.trans e6
  refine (c_impl_ValidShape (h5.ext e6)).go fun w7 e7 => ⟨_, rfl, br_f (by simp) ?_⟩
  have e07 := e06.trans e7
  refine ⟨fun w' => Ext w7 w', fun w' he => he, fun w8 (e8 : Ext w7 w8) => ⟨e8, ?_⟩⟩
  have e78 := e7.trans e8
  refine ⟨x5.k, fun w' (he : Ext w7 w') => (e7.trans he).get m0, x5.sn, fun w' (he : Ext w7 w') => (e7.trans he).get m1, x5.sb, fun w' (he : Ext w7 w') => (e7.trans he).get m2, x5.sk, fun w' (he : Ext w7 w') => (e7.trans he).get m3, ?_⟩
  have e48 := (e5.trans e6).trans e78
  have e18 := e14.trans e48
  simp only [exI (e18.get k0), exL (e18.get k1), exL (e18.get k2), exL (e18.get k3)]
  refine ⟨e8, ?_⟩
  have e08 := e04.trans e48
  refine (c_laws_toShape _ w8 c n (Nat.le_refl _) hz (h.ext e08)).mono ?_
  rintro _ w9 ⟨x9, rfl, h9, e9⟩
  refine ⟨_, _, _, _, rfl, e8.trans e9, ?_⟩
  have h5' := ((h5.ext e6).ext e78).ext e9
  exact (c_laws_eqShape _ w9 x5 x9 n (Nat.le_refl _) h5' h9).go fun w10 e10 => ⟨_, rfl, br_f (by simp) ⟨by simp, (e08.trans e9).trans e10⟩⟩
end Go.Proofs
