/-
  What functions of this seat compute, part 'NodeLaws3': contracts over their readable predicates. Conditions: each theorem's own hypotheses.
-/
import Derived.Test.YtodncmkmipabaaaBase
import Derived.Test.YtodncmkmipabaaaOpen
import Derived.Test.YtodncmkmipabaaaGen
import Derived.Test.YtodncmkmipabaaaCSmall
import Derived.Test.YtodncmkmipabaaaCOrder
import Derived.Test.YtodncmkmipabaaaCNode
import Derived.Test.YtodncmkmipabaaaCNodeText
import Derived.Test.YtodncmkmipabaaaCNodeValid
import Derived.Test.YtodncmkmipabaaaCNodeSpec
import Derived.Test.YtodncmkmipabaaaCHelpS
import Derived.Test.YtodncmkmipabaaaCNodeHelp
import Derived.Test.YtodncmkmipabaaaCNodeHelp2
import Derived.Test.YtodncmkmipabaaaCNodeTop
import Derived.Test.YtodncmkmipabaaaCNodeCopy
import Derived.Test.YtodncmkmipabaaaCNodeAdd
import Derived.Test.YtodncmkmipabaaaCDraw
import Derived.Test.YtodncmkmipabaaaCNodeDraw
import Derived.Test.YtodncmkmipabaaaCNodeDraw2
namespace Go.Proofs
open Go Go.Vc Go.RowKit
set_option maxRecDepth 100000
set_option linter.unusedVariables false
--! C:Small C:Order C:Node C:NodeText C:NodeValid C:NodeSpec C:HelpS C:NodeHelp C:NodeHelp2 C:NodeTop C:NodeCopy C:NodeAdd C:Draw C:NodeDraw C:NodeDraw2
/-! ## Nodes: the laws on draws -/

theorem shp_up : ∀ (d : Nat) (n : Nd), shp d n = true → shp (d + 1) n = true
  | 0, n, h => by cases h
  | d + 1, n, h => by
    have h1 : parts n = true ∧ ∀ x ∈ n.ks, shp d x = true := by simpa [shp] using h
    have h2 : parts n = true ∧ ∀ x ∈ n.ks, shp (d + 1) x = true := ⟨h1.1, fun x hx => shp_up d x (h1.2 x hx)⟩
    rw [shp]
    simp only [Bool.and_eq_true, List.all_eq_true]
    exact h2

theorem vNd_kid {n x : Nd} (h : vNd n = true) (hx : x ∈ n.ks) : vNd x = true := by
  simp only [vNd, Bool.and_eq_true, decide_eq_true_eq] at h ⊢
  have h1 : parts n = true ∧ ∀ y ∈ n.ks, shp 4 y = true := by simpa [shp] using h.1
  have := cnt_kid hx
  exact ⟨shp_up 4 x (h1.2 x hx), by omega⟩

theorem parts_of {n : Nd} (h : vNd n = true) : parts n = true := by
  have := vNd_shp h
  rw [shp, Bool.and_eq_true] at this
  exact this.1

theorem dpt_shp : ∀ (d : Nat) (n : Nd), shp d n = true → dpt n ≤ d
  | 0, n, h => by cases h
  | d + 1, n, h => by
    have h1 : parts n = true ∧ ∀ x ∈ n.ks, shp d x = true := by simpa [shp] using h
    have key : ∀ l : List Nd, (∀ x ∈ l, dpt x ≤ d) → dptL l ≤ d := by
      intro l
      induction l with
      | nil => intro _; simp [dptL]
      | cons x r ih =>
        intro hx
        have a1 := hx x (by simp)
        have a2 := ih fun y hy => hx y (by simp [hy])
        simp only [dptL]; omega
    have := key n.ks fun x hx => dpt_shp d x (h1.2 x hx)
    rw [dpt_eq]; omega

theorem c_spec_DrawNodeCount {w : World} {s : Sl} {bs : List UInt8} (hs : Bytes w s bs) {Φ : Value → World → Prop} (hk : ∀ c n w', NdAt (fun _ => True) w' c n → Ext w w' → Φ (NdC.v c) w') : CallR Try.prog 22 [.slice s.a s.len s.cap] w Φ := by
  refine fn_spec_DrawNodeCount _ _ _ ?_
  unfold g_spec_DrawNodeCount
  refine letW_i fun w1 hw1 => ?_
  have e1 : Ext w w1 := by rw [hw1]; exact (Ext.refl w).alloc _
  have ra : Row w1 w.heap.size (cN zeroN) 30 := by rw [hw1]; exact Row.new w (cN zeroN) _
  clear hw1
  have z1 := ra.lt
  refine (c_spec_newReader (hs.ext e1)).mono ?_
  rintro _ w3 ⟨rfl, h3, e3⟩
  have z3 := e3.size
  refine ⟨_, rfl, c_anyNode h3 (by omega) fun c n w6 hn c6 => ⟨_, _, _, _, _, rfl, outNd (d := c) ((ra.ext e3).chg c6 (by omega)) fun w' r' c' => hk c n w' ((hn.chg c' (by omega)).mono fun _ _ _ => trivial) ?_⟩⟩
  exact ((e1.trans e3).chg c6 (by omega)).chg c' (Nat.le_refl _)

theorem c_spec_DrawNodeDepth {w : World} {s : Sl} {bs : List UInt8} (hs : Bytes w s bs) {Φ : Value → World → Prop} (hk : ∀ c n w', NdAt (fun _ => True) w' c n → Ext w w' → Φ (NdC.v c) w') : CallR Try.prog 23 [.slice s.a s.len s.cap] w Φ := by
  refine fn_spec_DrawNodeDepth _ _ _ ?_
  unfold g_spec_DrawNodeDepth
  refine letW_i fun w1 hw1 => ?_
  have e1 : Ext w w1 := by rw [hw1]; exact (Ext.refl w).alloc _
  have ra : Row w1 w.heap.size (cN zeroN) 30 := by rw [hw1]; exact Row.new w (cN zeroN) _
  clear hw1
  have z1 := ra.lt
  refine (c_spec_newReader (hs.ext e1)).mono ?_
  rintro _ w3 ⟨rfl, h3, e3⟩
  have z3 := e3.size
  refine ⟨_, rfl, c_anyNode h3 (by omega) fun c n w6 hn c6 => ⟨_, _, _, _, _, rfl, outNd (d := c) ((ra.ext e3).chg c6 (by omega)) fun w' r' c' => hk c n w' ((hn.chg c' (by omega)).mono fun _ _ _ => trivial) ?_⟩⟩
  exact ((e1.trans e3).chg c6 (by omega)).chg c' (Nat.le_refl _)

theorem c_spec_DrawIsPlain {w : World} {s : Sl} {bs : List UInt8} (hs : Bytes w s bs) {Φ : Value → World → Prop} (hk : ∀ c n w', NdAt (fun _ => True) w' c n → Ext w w' → Φ (NdC.v c) w') : CallR Try.prog 24 [.slice s.a s.len s.cap] w Φ := by
  refine fn_spec_DrawIsPlain _ _ _ ?_
  unfold g_spec_DrawIsPlain
  refine letW_i fun w1 hw1 => ?_
  have e1 : Ext w w1 := by rw [hw1]; exact (Ext.refl w).alloc _
  have ra : Row w1 w.heap.size (cN zeroN) 30 := by rw [hw1]; exact Row.new w (cN zeroN) _
  clear hw1
  have z1 := ra.lt
  refine (c_spec_newReader (hs.ext e1)).mono ?_
  rintro _ w3 ⟨rfl, h3, e3⟩
  have z3 := e3.size
  refine ⟨_, rfl, c_anyNode h3 (by omega) fun c n w6 hn c6 => ⟨_, _, _, _, _, rfl, outNd (d := c) ((ra.ext e3).chg c6 (by omega)) fun w' r' c' => hk c n w' ((hn.chg c' (by omega)).mono fun _ _ _ => trivial) ?_⟩⟩
  exact ((e1.trans e3).chg c6 (by omega)).chg c' (Nat.le_refl _)

set_option maxHeartbeats 2000000 in
theorem c_laws_FnNodeCount {w : World} {s : Sl} {bs : List UInt8} (hs : Bytes w s bs) (hm : s.cap ≤ maxLen) : CallR Try.prog 7 [.slice s.a s.len s.cap] w (fun v w' => v = .bool true ∧ Ext w w') := by
  refine fn_laws_FnNodeCount _ _ _ ?_
  unfold g_laws_FnNodeCount
  refine br_d (fun _ => ⟨rfl, Ext.refl _⟩) (fun _ => ?_)
  refine c_spec_DrawNodeCount hs fun c n w2 h2 e2 => ⟨_, _, _, _, _, rfl, local5 fun w13 r13 e13 => ?_⟩
  obtain ⟨k0, k1, k2, k3, k4⟩ := Row.nd (c := c) r13
  simp only [exI k0, exI k1, exS k2, exL k3, exL k4]
  have e013 := e2.trans e13
  have h13 := h2.ext e13
  refine (c_impl_NodeCount h13).go fun w20 e20 => ⟨_, rfl, ?_⟩
  simp only [exI (e20.get k0), exI (e20.get k1), exS (e20.get k2), exL (e20.get k3), exL (e20.get k4)]
  refine (c_spec_NodeCount (h13.ext e20)).go fun w28 e28 => ⟨_, rfl, ?_⟩
  have e1328 := e20.trans e28
  have e028 := e013.trans e1328
  have h28 := h13.ext e1328
  refine br_f (by simp) (br_d (fun hneg => ?_) (fun hneg => ?_))
  · simp only [exI (e1328.get k0), exI (e1328.get k1), exS (e1328.get k2), exL (e1328.get k3), exL (e1328.get k4)]
    exact (c_spec_NodeCount h28).go fun w36 e36 => ⟨_, rfl, by simp, e028.trans e36⟩
  have hv : vNd n = true := by
    cases hh : vNd n with
    | true => rfl
    | false => rw [if_neg (by simp [hh])] at hneg; omega
  have hv' := hv
  simp only [vNd, Bool.and_eq_true, decide_eq_true_eq] at hv'
  rw [if_pos hv]
  have hkl := h28.klen
  have h6 := parts_len (parts_of hv)
  refine sLoop_list n.ks (fun pre t w' => Ext w28 w' ∧ t = ((1 + cntL pre : Int), ())) ⟨Ext.refl _, rfl⟩ ?_ ?_
  · intro K pre post x t w3 hx ⟨he, ht⟩ hK _
    subst ht
    have hl := mid_len hx
    simp only [exL ((e1328.trans he).get k4)]
    refine br_dt (by first | omega | (simp only; omega)) ?_
    obtain ⟨_, dd, a, hsa, hd', g0, g1, g2, g3, g4⟩ := (h28.ext he).kid (i := pre.length) (mid_get hx)
    refine onSome_i hsa ⟨⟨by first | omega | (simp only; omega), by first | omega | (simp only; omega)⟩, ?_⟩
    simp only [exI g0, exI g1, exS g2, exL g3, exL g4]
    have hvx := vNd_kid hv (x := x) (by rw [hx]; simp)
    have hc1 := cnt_le_of hx
    refine (c_impl_NodeCount hd').go fun w4 e4 => ⟨_, rfl, ?_⟩
    rw [if_pos hvx]
    refine ⟨inR_i64 (by omega) (by omega), inR_i64 (by omega) (by omega), hK _ _ ⟨he.trans e4, ?_⟩⟩
    rw [cntL_append]
    simp only [cntL, Prod.mk.injEq, and_true]
    omega
  · intro K t w3 ⟨he, ht⟩ _
    subst ht
    simp only [exL ((e1328.trans he).get k4)]
    refine br_df (by first | omega | (simp only; omega)) ?_
    have hcn := cnt_eq n
    rw [beqI]
    refine br_dt (by first | omega | (simp only; omega)) ⟨?_, e028.trans he⟩
    congr 1
    exact decide_eq_true (by omega)

set_option maxHeartbeats 2000000 in
theorem c_laws_FnNodeDepth {w : World} {s : Sl} {bs : List UInt8} (hs : Bytes w s bs) (hm : s.cap ≤ maxLen) : CallR Try.prog 8 [.slice s.a s.len s.cap] w (fun v w' => v = .bool true ∧ Ext w w') := by
  refine fn_laws_FnNodeDepth _ _ _ ?_
  unfold g_laws_FnNodeDepth
  refine br_d (fun _ => ⟨rfl, Ext.refl _⟩) (fun _ => ?_)
  refine c_spec_DrawNodeDepth hs fun c n w2 h2 e2 => ⟨_, _, _, _, _, rfl, local5 fun w13 r13 e13 => ?_⟩
  obtain ⟨k0, k1, k2, k3, k4⟩ := Row.nd (c := c) r13
  simp only [exI k0, exI k1, exS k2, exL k3, exL k4]
  have e013 := e2.trans e13
  have h13 := h2.ext e13
  refine (c_impl_NodeDepth h13).go fun w20 e20 => ⟨_, rfl, ?_⟩
  simp only [exI (e20.get k0), exI (e20.get k1), exS (e20.get k2), exL (e20.get k3), exL (e20.get k4)]
  refine (c_spec_NodeDepth (h13.ext e20)).go fun w28 e28 => ⟨_, rfl, ?_⟩
  have e1328 := e20.trans e28
  have e028 := e013.trans e1328
  have h28 := h13.ext e1328
  refine br_f (by simp) (br_d (fun hneg => ?_) (fun hneg => ?_))
  · simp only [exI (e1328.get k0), exI (e1328.get k1), exS (e1328.get k2), exL (e1328.get k3), exL (e1328.get k4)]
    exact (c_spec_NodeDepth h28).go fun w36 e36 => ⟨_, rfl, by simp, e028.trans e36⟩
  have hv : vNd n = true := by
    cases hh : vNd n with
    | true => rfl
    | false => rw [if_neg (by simp [hh])] at hneg; omega
  have hv' := hv
  simp only [vNd, Bool.and_eq_true, decide_eq_true_eq] at hv'
  rw [if_pos hv]
  have hkl := h28.klen
  have h6 := parts_len (parts_of hv)
  have hd5 := dpt_shp 5 n (vNd_shp hv)
  have hdc := dpt_le_cnt _ n (Nat.le_refl _)
  refine sLoop_list n.ks (fun pre t w' => Ext w28 w' ∧ t = ((dptL pre : Int), ())) ⟨Ext.refl _, rfl⟩ ?_ ?_
  · intro K pre post x t w3 hx ⟨he, ht⟩ hK _
    subst ht
    have hl := mid_len hx
    simp only [exL ((e1328.trans he).get k4)]
    refine br_dt (by first | omega | (simp only; omega)) ?_
    obtain ⟨_, dd, a, hsa, hd', g0, g1, g2, g3, g4⟩ := (h28.ext he).kid (i := pre.length) (mid_get hx)
    refine onSome_i hsa ⟨⟨by first | omega | (simp only; omega), by first | omega | (simp only; omega)⟩, ?_⟩
    simp only [exI g0, exI g1, exS g2, exL g3, exL g4]
    have hvx := vNd_kid hv (x := x) (by rw [hx]; simp)
    refine (c_impl_NodeDepth hd').go fun w4 e4 => ⟨_, rfl, ?_⟩
    rw [if_pos hvx]
    refine ⟨inR_i64 (by omega) (by omega), hK _ _ ⟨he.trans e4, ?_⟩⟩
    rw [dptL_snoc]
    simp only [Prod.mk.injEq, and_true]
    omega
  · intro K t w3 ⟨he, ht⟩ _
    subst ht
    simp only [exL ((e1328.trans he).get k4)]
    refine br_df (by first | omega | (simp only; omega)) ?_
    have hcn := dpt_eq n
    refine ⟨inR_i64 (by first | omega | (simp only; omega)) (by first | omega | (simp only; omega)), ?_⟩
    rw [beqI]
    refine br_dt (by first | omega | (simp only; omega)) (br_dt (by first | omega | (simp only; omega)) ?_)
    have e133 := e1328.trans he
    simp only [exI (e133.get k0), exI (e133.get k1), exS (e133.get k2), exL (e133.get k3), exL (e133.get k4)]
    refine (c_impl_NodeCount (h28.ext he)).go fun w4 e4 => ⟨_, rfl, ?_, (e028.trans he).trans e4⟩
    rw [if_pos hv]
    congr 1
    exact decide_eq_true (by omega)
end Go.Proofs
