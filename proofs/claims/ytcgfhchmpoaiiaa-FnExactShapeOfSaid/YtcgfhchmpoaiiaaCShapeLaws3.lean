/-
  What functions of this seat compute, part 'ShapeLaws3': contracts over their readable predicates. Conditions: each theorem's own hypotheses.
-/
import Derived.Test.YtcgfhchmpoaiiaaBase
import Derived.Test.YtcgfhchmpoaiiaaOpen
import Derived.Test.YtcgfhchmpoaiiaaGen
import Derived.Test.YtcgfhchmpoaiiaaCSmall
import Derived.Test.YtcgfhchmpoaiiaaCOrder
import Derived.Test.YtcgfhchmpoaiiaaCNode
import Derived.Test.YtcgfhchmpoaiiaaCNodeText
import Derived.Test.YtcgfhchmpoaiiaaCNodeValid
import Derived.Test.YtcgfhchmpoaiiaaCNodeSpec
import Derived.Test.YtcgfhchmpoaiiaaCHelpS
import Derived.Test.YtcgfhchmpoaiiaaCNodeHelp
import Derived.Test.YtcgfhchmpoaiiaaCNodeHelp2
import Derived.Test.YtcgfhchmpoaiiaaCNodeTop
import Derived.Test.YtcgfhchmpoaiiaaCMark
import Derived.Test.YtcgfhchmpoaiiaaCStrMark
import Derived.Test.YtcgfhchmpoaiiaaCCells
import Derived.Test.YtcgfhchmpoaiiaaCShape
import Derived.Test.YtcgfhchmpoaiiaaCShape2
import Derived.Test.YtcgfhchmpoaiiaaCShapeOf
import Derived.Test.YtcgfhchmpoaiiaaCShapeOf2
import Derived.Test.YtcgfhchmpoaiiaaCShapeOf3
import Derived.Test.YtcgfhchmpoaiiaaCShapeOf4
import Derived.Test.YtcgfhchmpoaiiaaCMarkShape
import Derived.Test.YtcgfhchmpoaiiaaCMarkShape2
import Derived.Test.YtcgfhchmpoaiiaaCMarkShape3
import Derived.Test.YtcgfhchmpoaiiaaCMarkShape4
import Derived.Test.YtcgfhchmpoaiiaaCNodeMark
import Derived.Test.YtcgfhchmpoaiiaaCMarkNode
namespace Go.Proofs
open Go Go.Vc Go.RowKit
set_option maxRecDepth 100000
set_option linter.unusedVariables false
--! C:Small C:Order C:Node C:NodeText C:NodeValid C:NodeSpec C:HelpS C:NodeHelp C:NodeHelp2 C:NodeTop C:Mark C:StrMark C:Cells C:Shape C:Shape2 C:ShapeOf C:ShapeOf2 C:ShapeOf3 C:ShapeOf4 C:MarkShape C:MarkShape2 C:MarkShape3 C:MarkShape4 C:NodeMark C:MarkNode
/-! ## ShapeOf: the exact law -/

theorem ext_chgF {F : Nat → Prop} {a w w' : World} (h : Ext a w) (hc : ChgF F w w') (hF : ∀ k, F k → a.heap.size ≤ k) : Ext a w' :=
  ⟨hc.os.trans h.os, hc.tape.trans h.tape, hc.output.trans h.output, Nat.le_trans h.size hc.size, fun k hk => (hc.block k (Nat.lt_of_lt_of_le hk h.size) (fun e => by have := hF k e; omega)).trans (h.block k hk)⟩

def bnd : Nat → Nat
  | 0 => 0
  | d + 1 => 18 + 6 * bnd d

theorem cm_shOf : ∀ (d : Nat) (n : Nd), shp d n = true → cm (shOf n) ≤ bnd d := by
  intro d
  induction d with
  | zero => intro n h; cases h
  | succ d ih =>
    intro n h
    simp only [shp, Bool.and_eq_true, List.all_eq_true] at h
    obtain ⟨hp, hk⟩ := h
    obtain ⟨_, _, h6⟩ := parts_names hp
    rw [shOf_eq]
    simp only [cm, bnd, List.length_replicate]
    have : ∀ (m : Nat) (ks : List Nd), (∀ x ∈ ks, shp d x = true) → cmL (shOfL m ks) ≤ m * (1 + bnd d) := by
      intro m
      induction m with
      | zero => intro ks _; simp [shOfL, cmL]
      | succ m ihm =>
        intro ks hks
        cases ks with
        | nil => simp [shOfL, cmL]
        | cons x r =>
          have h1 := ih x (hks x (by simp))
          have h2 := ihm r fun y hy => hks y (by simp [hy])
          simp only [shOfL, cmL, Nat.succ_mul]
          omega
    have h1 := this n.ns.length n.ks hk
    have h2 : n.ns.length * (1 + bnd d) ≤ 6 * (1 + bnd d) := Nat.mul_le_mul_right _ h6
    omega

theorem cm_shO (n : Nd) : cm (shO n) ≤ 1000000 := by
  unfold shO
  cases hv : vNd n with
  | false => simp [pickSh, zSh, cm, cmL]
  | true =>
    have h1 := cm_shOf 5 n (vNd_shp hv)
    have h2 : bnd 5 ≤ 1000000 := by decide
    exact Nat.le_trans h1 h2

set_option maxHeartbeats 4000000 in
theorem c_laws_FnExactShapeOf {w : World} {c : NdC} {n : Nd} (h : NdAt (fun _ => True) w c n) : CallR Try.prog 6 [c.v] w (fun v w' => v = .bool true ∧ Ext w w') := by
  refine fn_laws_FnExactShapeOf _ _ _ _ _ _ _ ?_
  unfold g_laws_FnExactShapeOf
  have hcm := cm_shO n
  refine ndStart fun w1 e1 r1 => ?_
  obtain ⟨k0, k1, k2, k3, k4⟩ := Row.nd r1
  simp only [exI k0, exI k1, exS k2, exL k3, exL k4]
  refine (c_laws_szNode _ w1 c n 1048576 (Nat.le_refl _) (h.ext e1) (by omega) (by omega)).mono ?_
  rintro _ w2 ⟨hv, e2⟩
  rcases hv with rfl | ⟨rfl, hpos⟩
  · exact ⟨_, rfl, br_dt (by omega) ⟨by simp, e1.trans e2⟩⟩
  have hz : mz n ≤ 1048576 := by omega
  refine ⟨_, rfl, br_df (by omega) ?_⟩
  simp only [exI (e2.get k0), exI (e2.get k1), exS (e2.get k2), exL (e2.get k3), exL (e2.get k4)]
  have e02 := e1.trans e2
  refine (c_laws_toNode _ w2 c n (Nat.le_refl _) hz (h.ext e02)).mono ?_
  rintro _ w3 ⟨x3, rfl, h3, e3⟩
  have e03 := e02.trans e3
  refine ⟨_, _, _, _, _, rfl, (c_spec_ShapeOf h3).mono ?_⟩
  rintro _ w4 ⟨q0, F0, rfl, m0, hF0, e4⟩
  have e04 := e03.trans e4
  refine ⟨_, _, _, _, _, rfl, local4c fun w5 r5 e5 => ?_⟩
  have r5' : Row w5 w4.heap.size (cSh q0) 31 := r5
  have e05 := e04.trans e5
  have e15 := ((e2.trans e3).trans e4).trans e5
  simp only [exI (e15.get k0), exI (e15.get k1), exS (e15.get k2), exL (e15.get k3), exL (e15.get k4)]
  refine (c_toNodeM _ w5 c n (Nat.le_refl _) hz (h.ext e05)).mono ?_
  rintro _ w6 ⟨x6, Fx, rfl, mx, hFx, e6⟩
  have e06 := e05.trans e6
  refine ⟨_, _, _, _, _, rfl, local5 fun w7 r7 e7 => ?_⟩
  have r7' : Row w7 w6.heap.size (cN x6) 40 := r7
  have e07 := e06.trans e7
  obtain ⟨n0, n1, n2, n3, n4⟩ := Row.nd r7'
  simp only [exI n0, exI n1, exS n2, exL n3, exL n4]
  have mx7 := mx.ext e7
  refine (c_impl_ShapeOf mx7.at_).mono ?_
  rintro _ w8 ⟨qg, Fg, rfl, mg, hFg, e8⟩
  have e08 := e07.trans e8
  refine ⟨_, _, _, _, _, rfl, local4c fun w9 r9 e9 => ?_⟩
  have r9' : Row w9 w8.heap.size (cSh qg) 31 := r9
  have e09 := e08.trans e9
  have e79 := e8.trans e9
  have e59 := (e6.trans e7).trans e79
  obtain ⟨g0, g1, g2, g3⟩ := Row.sh r9'
  have r59 := r5'.ext e59
  obtain ⟨s0, s1, s2, s3⟩ := Row.sh r59
  simp only [add_nought, exI g0, exL g1, exL g2, exL g3, exI s0, exL s1, exL s2, exL s3]
  have m09 := m0.ext (e5.trans e59)
  have mg9 := mg.ext e9
  have mx9 := mx7.ext e79
  have r79 := r7'.ext e79
  have r19 := (r1.ext e15).ext e59
  refine (c_laws_eqShape _ w9 qg q0 (shO n) (Nat.le_refl _) mg9.at_ m09.at_).go fun w10 e10 => ⟨_, rfl, br_f (by simp) (br_f (by simp) ?_)⟩
  refine ⟨fun w' => Ext w10 w', fun w' he => he, fun w11 (e11 : Ext w10 w11) => ⟨e11, ?_⟩⟩
  obtain ⟨n0, n1, n2, n3, n4⟩ := Row.nd r79
  rw [add_nought] at n0
  refine ⟨x6.k, fun w' (he : Ext w10 w') => (e10.trans he).get n0, x6.m, fun w' (he : Ext w10 w') => (e10.trans he).get n1, x6.t, fun w' (he : Ext w10 w') => (e10.trans he).get n2, x6.sn, fun w' (he : Ext w10 w') => (e10.trans he).get n3, x6.sk, fun w' (he : Ext w10 w') => (e10.trans he).get n4, ?_⟩
  have e911 := e10.trans e11
  obtain ⟨j0, j1, j2, j3, j4⟩ := Row.nd (r19.ext e911)
  rw [add_nought] at j0
  simp only [exI j0, exI j1, exS j2, exL j3, exL j4]
  have e011 := e09.trans e911
  refine ⟨e11, (c_laws_toNode _ w11 c n (Nat.le_refl _) hz (h.ext e011)).mono ?_⟩
  rintro _ w12 ⟨y, rfl, hy, e12⟩
  refine ⟨_, _, _, _, _, rfl, e11.trans e12, ?_⟩
  have e912 := e911.trans e12
  refine (c_laws_eqNode _ w12 x6 y n (Nat.le_refl _) (mx9.ext e912).at_ hy).go fun w13 e13 => ⟨_, rfl, br_f (by simp) ?_⟩
  have e913 := e912.trans e13
  obtain ⟨n0, n1, n2, n3, n4⟩ := Row.nd (r79.ext e913)
  rw [add_nought] at n0
  simp only [exI n0, exI n1, exS n2, exL n3, exL n4]
  have z9 := e913.size
  have z67 := e7.size
  have z79 := e79.size
  have z89 := e9.size
  have z78 := e8.size
  have z45 := r5'.lt
  have z05 := e05.size
  have z07 := e07.size
  have z01 := r1.lt
  have z15 := e15.size
  have z56 := e6.size
  have z34 := e4.size
  have z03 := e03.size
  refine (c_laws_markNode 1 (mx9.ext e913) (fun j hj => by have := hFx j hj; omega) (by omega) (by omega) hz).mono ?_
  rintro _ w14 ⟨rfl, c14⟩
  refine ⟨_, rfl, br_df (by omega) ?_⟩
  have e013 := e09.trans e913
  have e014 : Ext w w14 := ext_chgF e013 c14 fun j hj => by have := hFx j hj; omega
  have keepX : ∀ {b : Nat} {vs : List Value} {T : TypeId}, Row w13 b vs T → ¬ Fx b → Row w14 b vs T := fun hr hn => hr.of_same (c14.block _ hr.lt hn)
  have r114 := keepX (r19.ext e913) (fun hf => by have := hFx _ hf; omega)
  have r514 := keepX (r59.ext e913) (fun hf => by have := hFx _ hf; omega)
  have r914 := keepX (r9'.ext e913) (fun hf => by have := hFx _ hf; omega)
  have m014 : ShM w14 F0 q0 (shO n) := (m09.ext e913).keep fun j hj hlt => c14.block j hlt fun hf => by have := hFx _ hf; have := hF0 j hj; omega
  have mg14 : ShM w14 Fg qg (shO n) := (mg9.ext e913).keep fun j hj hlt => c14.block j hlt fun hf => by have := hFx _ hf; have := hFg j hj; omega
  have z14 := c14.size
  clear keepX
  obtain ⟨g0, g1, g2, g3⟩ := Row.sh r914
  obtain ⟨s0, s1, s2, s3⟩ := Row.sh r514
  simp only [add_nought, exI g0, exL g1, exL g2, exL g3, exI s0, exL s1, exL s2, exL s3]
  refine (c_laws_eqShape _ w14 qg q0 (shO n) (Nat.le_refl _) mg14.at_ m014.at_).go fun w15 e15' => ⟨_, rfl, br_f (by simp) (br_f (by simp) ?_)⟩
  obtain ⟨g0, g1, g2, g3⟩ := Row.sh (r914.ext e15')
  simp only [add_nought, exI g0, exL g1, exL g2, exL g3]
  have z1415 := e15'.size
  refine (c_laws_markShape 1 (mg14.ext e15') (fun j hj => by have := hFg j hj; omega) (by omega) (by omega) hcm).mono ?_
  rintro _ w16 ⟨rfl, mk16, c16⟩
  have e015 := e014.trans e15'
  have e016 : Ext w w16 := ext_chgF e015 c16 fun j hj => by have := hFg j hj; omega
  have keepG : ∀ {b : Nat} {vs : List Value} {T : TypeId}, Row w15 b vs T → ¬ Fg b → Row w16 b vs T := fun hr hn => hr.of_same (c16.block _ hr.lt hn)
  have r116 := keepG (r114.ext e15') (fun hf => by have := hFg _ hf; omega)
  have r516 := keepG (r514.ext e15') (fun hf => by have := hFg _ hf; omega)
  have r916 := keepG (r914.ext e15') (fun hf => by have := hFg _ hf; omega)
  have m016 : ShM w16 F0 q0 (shO n) := (m014.ext e15').keep fun j hj hlt => c16.block j hlt fun hf => by have := hFg _ hf; have := hF0 j hj; omega
  obtain ⟨g0, g1, g2, g3⟩ := Row.sh r916
  simp only [add_nought, exI g0, exL g1, exL g2, exL g3]
  refine ⟨_, rfl, ?_⟩
  refine (c_laws_heldShape 1 mk16.at_ (by omega) (by omega) hcm).go fun w17 e17 => ⟨_, rfl, br_df (by omega) (br_f (by simp) ?_)⟩
  obtain ⟨j0, j1, j2, j3, j4⟩ := Row.nd (r116.ext e17)
  rw [add_nought] at j0
  simp only [exI j0, exI j1, exS j2, exL j3, exL j4]
  have e017 := e016.trans e17
  refine (c_laws_toNode _ w17 c n (Nat.le_refl _) hz (h.ext e017)).mono ?_
  rintro _ w18 ⟨y2, rfl, hy2, e18⟩
  refine ⟨_, _, _, _, _, rfl, (c_impl_ShapeOf hy2).mono ?_⟩
  rintro _ w19 ⟨qh, Fh, rfl, mh, hFh, e19⟩
  refine ⟨_, _, _, _, _, rfl, local4c fun w20 r20 e20 => ?_⟩
  have r20' : Row w20 w19.heap.size (cSh qh) 31 := r20
  have e1620 := ((e17.trans e18).trans e19).trans e20
  obtain ⟨g0, g1, g2, g3⟩ := Row.sh r20'
  obtain ⟨s0, s1, s2, s3⟩ := Row.sh (r516.ext e1620)
  simp only [add_nought, exI g0, exL g1, exL g2, exL g3, exI s0, exL s1, exL s2, exL s3]
  refine (c_laws_eqShape _ w20 qh q0 (shO n) (Nat.le_refl _) (mh.ext e20).at_ (m016.ext e1620).at_).go fun w21 e21 => ⟨_, rfl, br_f (by simp) (br_f (by simp) ?_)⟩
  have e1621 := e1620.trans e21
  obtain ⟨g0, g1, g2, g3⟩ := Row.sh (r916.ext e1621)
  simp only [add_nought, exI g0, exL g1, exL g2, exL g3]
  exact (c_laws_heldShape 1 (mk16.ext e1621).at_ (by omega) (by omega) hcm).go fun w22 e22 => ⟨_, rfl, br_df (by omega) (br_f (by simp) ⟨by simp, (e016.trans e1621).trans e22⟩)⟩
end Go.Proofs
