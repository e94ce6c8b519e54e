/-
  What functions of this seat compute, part 'NodeHelp': contracts over their readable predicates. Conditions: each theorem's own hypotheses.
-/
import Derived.Test.YtcgfhchmpoaiiaaBase
import Derived.Test.YtcgfhchmpoaiiaaOpen
import Derived.Test.YtcgfhchmpoaiiaaGen
import Derived.Test.YtcgfhchmpoaiiaaCSmall
import Derived.Test.YtcgfhchmpoaiiaaCOrder
import Derived.Test.YtcgfhchmpoaiiaaCNode
import Derived.Test.YtcgfhchmpoaiiaaCNodeText
import Derived.Test.YtcgfhchmpoaiiaaCNodeValid
import Derived.Test.YtcgfhchmpoaiiaaCNodeSpec
import Derived.Test.YtcgfhchmpoaiiaaCHelpS
namespace Go.Proofs
open Go Go.Vc Go.RowKit
set_option maxRecDepth 100000
set_option linter.unusedVariables false
--! C:Small C:Order C:Node C:NodeText C:NodeValid C:NodeSpec C:HelpS
/-! ## The helpers on nodes -/

mutual
def mz : Nd → Nat
  | .mk _ _ t ns ks => t.size + (ns.length + (sizeS ns).toNat) + (ks.length + mzL ks)
def mzL : List Nd → Nat
  | [] => 0
  | n :: r => mz n + mzL r
end

theorem mz_eq (n : Nd) : mz n = n.t.size + (n.ns.length + (sizeS n.ns).toNat) + (n.ks.length + mzL n.ks) := by cases n; simp only [mz]; rfl
theorem mzL_append : ∀ (a b : List Nd), mzL (a ++ b) = mzL a + mzL b
  | [], b => by simp [mzL]
  | x :: r, b => by simp only [List.cons_append, mzL, mzL_append r b]; omega
theorem mz_kid {n x : Nd} {pre post : List Nd} (h : n.ks = pre ++ x :: post) : mz x ≤ mz n := by
  rw [mz_eq n, h, mzL_append]; simp only [mzL]; omega

theorem c_szNodeS_of {S : Nat → Prop} {w : World} {c : NdC} {n : Nd} (left : Int) (h : NdAt S w c n) (h0 : 0 ≤ left) (h1 : left ≤ 1048576)
    (ih : ∀ x ∈ n.ks, ∀ (w : World) (c : NdC) (left : Int), NdAt S w c x → 0 ≤ left → left ≤ 1048576 → CallR Try.prog 17 [c.v, .int .i64 left] w (fun v w' => (v = .int .i64 (-1) ∨ (v = .int .i64 (left - mz x) ∧ 0 ≤ left - mz x)) ∧ Ext w w')) :
    CallR Try.prog 45 [.slice c.sk.a c.sk.len c.sk.cap, .int .i64 left] w (fun v w' => (v = .int .i64 (-1) ∨ (v = .int .i64 (left - n.ks.length - mzL n.ks) ∧ 0 ≤ left - n.ks.length - mzL n.ks)) ∧ Ext w w') := by
  refine fn_laws_szNodeS _ _ _ _ ?_
  unfold g_laws_szNodeS
  have hk := h.klen
  have hm := h.out.2.2.2.2.2.2.1
  unfold maxLen at hm
  refine ⟨inR_i64 (by omega) (by omega), br_d (fun h2 => ⟨.inl rfl, Ext.refl _⟩) (fun h2 => ?_)⟩
  refine sLoop_list n.ks (fun pre t w' => Ext w w' ∧ t.1 = left - n.ks.length - mzL pre ∧ 0 ≤ t.1) ⟨Ext.refl _, by simp [mzL, hk.1], by simp; omega⟩ ?_ ?_
  · rintro K pre post x ⟨t, u⟩ w1 hx ⟨he, ht, hp⟩ hK _
    have hl := mid_len hx
    obtain ⟨_, dd, a, hsa, hd', g0, g1, g2, g3, g4⟩ := (h.ext he).kid (i := pre.length) (mid_get hx)
    simp only at ht hp
    refine br_dt (by first | omega | (simp only; omega)) (onSome_i hsa ⟨⟨by first | omega | (simp only; omega), by first | omega | (simp only; omega)⟩, ?_⟩)
    simp only [exI g0, exI g1, exS g2, exL g3, exL g4]
    refine (ih x (by rw [hx]; simp) w1 dd t hd' hp (by omega)).mono ?_
    rintro _ w2 ⟨hv, e2⟩
    rcases hv with rfl | ⟨rfl, hpos⟩
    · exact ⟨_, rfl, br_dt (by omega) ⟨.inl (by simp), he.trans e2⟩⟩
    · refine ⟨_, rfl, br_df (by omega) ⟨inR_i64 (by omega) (by omega), hK _ _ ⟨he.trans e2, ?_, hpos⟩⟩⟩
      rw [mzL_append]; simp only [mzL]; omega
  · rintro K ⟨t, u⟩ w1 ⟨he, ht, hp⟩ _
    simp only at ht hp
    exact br_df (by first | omega | (simp only; omega)) ⟨.inr ⟨by rw [ht], by omega⟩, he⟩

theorem c_laws_szNode {S : Nat → Prop} : ∀ (N : Nat) (w : World) (c : NdC) (n : Nd) (left : Int), cnt n ≤ N → NdAt S w c n → 0 ≤ left → left ≤ 1048576 →
    CallR Try.prog 17 [c.v, .int .i64 left] w (fun v w' => (v = .int .i64 (-1) ∨ (v = .int .i64 (left - mz n) ∧ 0 ≤ left - mz n)) ∧ Ext w w') := by
  intro N
  induction N with
  | zero => intro w c n _ h; have := cnt_pos n; omega
  | succ N ih =>
    intro w c n left hN h hl0 hl1
    refine fn_laws_szNode _ _ _ _ _ _ _ _ ?_
    unfold g_laws_szNode
    refine ndStart fun w1 e1 r1 => ?_
    obtain ⟨k0, k1, k2, k3, k4⟩ := Row.nd r1
    obtain ⟨_, _, ht, hn, hts, hnl, hkl, hns, _⟩ := h.out
    have hz := mz_eq n
    have hsz := sizeS_nonneg n.ns
    have hts' := hts
    unfold maxLen at hts'
    rw [exS k2]
    refine ⟨inR_i64 (by omega) (by omega), br_d (fun h2 => ⟨.inl (by simp), e1⟩) (fun h2 => ?_)⟩
    rw [exL k3]
    refine (c_laws_szStringS _ (hn.ext e1) (by omega) (by omega) hnl hns).mono ?_
    rintro _ w2 ⟨hv, e2⟩
    rcases hv with rfl | ⟨rfl, hpos⟩
    · exact ⟨_, rfl, br_dt (by omega) ⟨.inl (by simp), e1.trans e2⟩⟩
    refine ⟨_, rfl, br_df (by omega) ?_⟩
    rw [exL (e2.get k4)]
    refine (c_szNodeS_of _ ((h.ext e1).ext e2) (by omega) (by omega) (fun x hx w c left => ih w c x left (by have := cnt_kid hx; omega))).mono ?_
    rintro _ w3 ⟨hv, e3⟩
    have e13 := (e1.trans e2).trans e3
    rcases hv with rfl | ⟨rfl, hpos'⟩
    · exact ⟨_, rfl, br_dt (by omega) ⟨.inl (by simp), e13⟩⟩
    refine ⟨_, rfl, br_df (by omega) ⟨.inr ⟨?_, ?_⟩, e13⟩⟩
    · congr 1; rw [hz, ht]; omega
    · rw [hz]; rw [ht] at hpos'; omega

/-! ### A tree anew -/

def zeroN : NdC := ⟨0, 0, ⟨#[]⟩, ⟨none, 0, 0⟩, ⟨none, 0, 0⟩⟩

theorem Row.put5 {w : World} {b : Nat} {A B : List NdC} {x y : NdC} {e : TypeId} {K : World → Prop} (r : Row w b ((A ++ x :: B).flatMap cN) e) (hk : ∀ w', Row w' b ((A ++ y :: B).flatMap cN) e → Chg b w w' → K w') :
    Wr w ((⟨b, 0, none⟩ : Addr).add ((A.length : Int).toNat * 5)) ∧ letW (w.setCell ((⟨b, 0, none⟩ : Addr).add ((A.length : Int).toNat * 5)) (.int .i64 y.k)) (fun w1 => Wr w1 (((⟨b, 0, none⟩ : Addr).add ((A.length : Int).toNat * 5)).add 1) ∧
      letW (w1.setCell (((⟨b, 0, none⟩ : Addr).add ((A.length : Int).toNat * 5)).add 1) (.int .i64 y.m)) (fun w2 => Wr w2 (((⟨b, 0, none⟩ : Addr).add ((A.length : Int).toNat * 5)).add 2) ∧ letW (w2.setCell (((⟨b, 0, none⟩ : Addr).add ((A.length : Int).toNat * 5)).add 2) (.string y.t))
        (fun w3 => Wr w3 (((⟨b, 0, none⟩ : Addr).add ((A.length : Int).toNat * 5)).add 3) ∧ letW (w3.setCell (((⟨b, 0, none⟩ : Addr).add ((A.length : Int).toNat * 5)).add 3) (.slice y.sn.a y.sn.len y.sn.cap))
          (fun w4 => Wr w4 (((⟨b, 0, none⟩ : Addr).add ((A.length : Int).toNat * 5)).add 4) ∧ letW (w4.setCell (((⟨b, 0, none⟩ : Addr).add ((A.length : Int).toNat * 5)).add 4) (.slice y.sk.a y.sk.len y.sk.cap)) K)))) := by
  have fA : (A.flatMap cN).length = A.length * 5 := flatMap_len cN_len A
  rw [show (A ++ x :: B).flatMap cN = A.flatMap cN ++ .int .i64 x.k :: (.int .i64 x.m :: .string x.t :: .slice x.sn.a x.sn.len x.sn.cap :: .slice x.sk.a x.sk.len x.sk.cap :: B.flatMap cN) by simp [cN]] at r
  obtain ⟨p1, r1⟩ := Row.setMid (A := A.flatMap cN) (p := (⟨b, 0, none⟩ : Addr).add ((A.length : Int).toNat * 5)) r (by rw [Int.toNat_natCast, fA]) (.int .i64 y.k)
  obtain ⟨p2, r2⟩ := Row.setMid (A := A.flatMap cN ++ [.int .i64 y.k]) (B := .string x.t :: .slice x.sn.a x.sn.len x.sn.cap :: .slice x.sk.a x.sk.len x.sk.cap :: B.flatMap cN) (o := .int .i64 x.m) (p := ((⟨b, 0, none⟩ : Addr).add ((A.length : Int).toNat * 5)).add 1) (by simpa using r1) (by simp [fA, add_add']) (.int .i64 y.m)
  obtain ⟨p3, r3⟩ := Row.setMid (A := A.flatMap cN ++ [.int .i64 y.k, .int .i64 y.m]) (B := .slice x.sn.a x.sn.len x.sn.cap :: .slice x.sk.a x.sk.len x.sk.cap :: B.flatMap cN) (o := .string x.t) (p := ((⟨b, 0, none⟩ : Addr).add ((A.length : Int).toNat * 5)).add 2) (by simpa using r2) (by simp [fA, add_add']) (.string y.t)
  obtain ⟨p4, r4⟩ := Row.setMid (A := A.flatMap cN ++ [.int .i64 y.k, .int .i64 y.m, .string y.t]) (B := .slice x.sk.a x.sk.len x.sk.cap :: B.flatMap cN) (o := .slice x.sn.a x.sn.len x.sn.cap) (p := ((⟨b, 0, none⟩ : Addr).add ((A.length : Int).toNat * 5)).add 3) (by simpa using r3) (by simp [fA, add_add']) (.slice y.sn.a y.sn.len y.sn.cap)
  obtain ⟨p5, r5⟩ := Row.setMid (A := A.flatMap cN ++ [.int .i64 y.k, .int .i64 y.m, .string y.t, .slice y.sn.a y.sn.len y.sn.cap]) (B := B.flatMap cN) (o := .slice x.sk.a x.sk.len x.sk.cap) (p := ((⟨b, 0, none⟩ : Addr).add ((A.length : Int).toNat * 5)).add 4) (by simpa using r4) (by simp [fA, add_add']) (.slice y.sk.a y.sk.len y.sk.cap)
  refine ⟨p1, p2, p3, p4, p5, hk _ (by simpa [cN] using r5) ?_⟩
  exact (((((Chg.refl b w).set (by simp only [add_block]) _).set (by simp only [add_block]) _).set (by simp only [add_block]) _).set (by simp only [add_block]) _).set (by simp only [add_block]) _

theorem c_toNodeS_of {S : Nat → Prop} {w : World} {c : NdC} {n : Nd} (h : NdAt S w c n) (hz : mz n ≤ 1048576)
    (ih : ∀ x ∈ n.ks, mz x ≤ 1048576 → ∀ (w : World) (c : NdC), NdAt S w c x → CallR Try.prog 19 [c.v] w (fun v w' => ∃ d : NdC, v = d.v ∧ NdAt (fun k => w.heap.size ≤ k) w' d x ∧ Ext w w')) :
    CallR Try.prog 47 [.slice c.sk.a c.sk.len c.sk.cap] w (fun v w' => ∃ ds : List NdC, ds.length = n.ks.length ∧ v = .slice (some ⟨w.heap.size, 0, none⟩) n.ks.length n.ks.length ∧ Row w' w.heap.size (ds.flatMap cN) 40 ∧
      (∀ (i : Nat) d x, ds[i]? = some d → n.ks[i]? = some x → NdAt (fun k => w.heap.size < k) w' d x) ∧ Ext w w') := by
  refine fn_laws_toNodeS _ _ _ ?_
  unfold g_laws_toNodeS
  have hk := h.klen
  have hz' := mz_eq n
  refine ⟨⟨by omega, by omega, by omega, by omega⟩, letW_i fun w1 hw1 => ?_⟩
  have e1 : Ext w w1 := by rw [hw1]; exact (Ext.refl w).alloc _
  have r1 : Row w1 w.heap.size ((List.replicate n.ks.length zeroN).flatMap cN) 40 := by
    have hm := madeCells_agg (cN zeroN) (by simp [cN]) n.ks.length
    have hf : (List.replicate n.ks.length (cN zeroN)).flatten = (List.replicate n.ks.length zeroN).flatMap cN := by simp [List.flatMap_replicate]
    rw [hw1, hk.1, Int.toNat_natCast]
    rw [hf] at hm
    have : (cN zeroN).length = 5 := rfl
    rw [this] at hm
    have hm' : madeCells #[.int .i64 0, .int .i64 0, .string (⟨#[]⟩ : ByteArray), .slice none 0 0, .slice none 0 0] (n.ks.length * 5) = ((List.replicate n.ks.length zeroN).flatMap cN).toArray := hm
    rw [hm']
    exact Row.new w _ _
  have hs1 : w.heap.size < w1.heap.size := by rw [hw1]; simp
  clear hw1
  refine sLoop_list n.ks (fun pre _ w' => ∃ ds : List NdC, ds.length = pre.length ∧ Ext w w' ∧ w.heap.size < w'.heap.size ∧ Row w' w.heap.size ((ds ++ List.replicate (n.ks.length - ds.length) zeroN).flatMap cN) 40 ∧
    (∀ (i : Nat) d x, ds[i]? = some d → pre[i]? = some x → NdAt (fun k => w.heap.size < k) w' d x)) ⟨[], rfl, e1, hs1, by simpa using r1, fun i d x hd => by simp at hd⟩ ?_ ?_
  · rintro K pre post x t w3 hx ⟨ds, hdl, he, hs, hr, hds⟩ hK _
    have hl := mid_len hx
    obtain ⟨_, dd, a, hsa, hd', g0, g1, g2, g3, g4⟩ := (h.ext he).kid (i := pre.length) (mid_get hx)
    refine br_dt (by first | omega | (simp only; omega)) (onSome_i hsa ⟨⟨by first | omega | (simp only; omega), by first | omega | (simp only; omega)⟩, ?_⟩)
    simp only [exI g0, exI g1, exS g2, exL g3, exL g4]
    refine (ih x (by rw [hx]; simp) (by have := mz_kid hx; omega) w3 dd hd').mono ?_
    rintro _ w4 ⟨d, rfl, hd4, e4⟩
    refine ⟨_, _, _, _, _, rfl, ⟨by omega, by omega⟩, ?_⟩
    have hr4 := hr.ext e4
    rw [show n.ks.length - ds.length = (n.ks.length - (ds ++ [d]).length) + 1 by simp; omega, List.replicate_succ] at hr4
    rw [← hdl]
    refine Row.put5 (y := d) hr4 fun w5 r5 c5 => ⟨inR_i64 (by omega) (by omega), ?_⟩
    rw [hdl]
    refine hK _ _ ⟨ds ++ [d], by simp [hdl], (he.trans e4).chg c5 (Nat.le_refl _), ?_, by simpa using r5, ?_⟩
    · have := c5.size; have := e4.size; omega
    · intro i d1 x1 hi1 hi2
      by_cases hlt : i < ds.length
      · rw [List.getElem?_append_left hlt] at hi1
        rw [List.getElem?_append_left (by omega)] at hi2
        exact ((hds i d1 x1 hi1 hi2).ext e4).chg c5 (Nat.lt_irrefl _)
      · have hi : i = ds.length := by
          have := (List.getElem?_eq_some_iff.1 hi1).1
          simp at this; omega
        subst hi
        rw [List.getElem?_append_right (Nat.le_refl _)] at hi1
        rw [hdl, List.getElem?_append_right (Nat.le_refl _)] at hi2
        simp at hi1 hi2
        subst hi1 hi2
        exact (hd4.mono (S' := fun k => w.heap.size < k) fun k hk _ => Nat.lt_of_lt_of_le hs hk).chg c5 (Nat.lt_irrefl _)
  · rintro K t w3 ⟨ds, hdl, he, hs, hr, hds⟩ _
    refine br_df (by first | omega | (simp only; omega)) ⟨ds, hdl, ?_, ?_, hds, he⟩
    · rw [hk.1, Int.toNat_natCast]
    · have : n.ks.length - ds.length = 0 := by omega
      rw [this] at hr
      simpa using hr
end Go.Proofs
