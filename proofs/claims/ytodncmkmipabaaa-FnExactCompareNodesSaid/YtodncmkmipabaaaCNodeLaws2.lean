/-
  What functions of this seat compute, part 'NodeLaws2': contracts over their readable predicates. Conditions: each theorem's own hypotheses.
-/
import Derived.Test.YtodncmkmipabaaaBase
import Derived.Test.YtodncmkmipabaaaOpen
import Derived.Test.YtodncmkmipabaaaGen
import Derived.Test.YtodncmkmipabaaaCSmall
import Derived.Test.YtodncmkmipabaaaCOrder
import Derived.Test.YtodncmkmipabaaaCNode
import Derived.Test.YtodncmkmipabaaaCNodeText
import Derived.Test.YtodncmkmipabaaaCNodeValid
import Derived.Test.YtodncmkmipabaaaCNodeSpec
import Derived.Test.YtodncmkmipabaaaCHelpS
import Derived.Test.YtodncmkmipabaaaCNodeHelp
import Derived.Test.YtodncmkmipabaaaCNodeHelp2
import Derived.Test.YtodncmkmipabaaaCNodeTop
import Derived.Test.YtodncmkmipabaaaCNodeCmp
namespace Go.Proofs
open Go Go.Vc Go.RowKit
set_option maxRecDepth 100000
set_option linter.unusedVariables false
--! C:Small C:Order C:Node C:NodeText C:NodeValid C:NodeSpec C:HelpS C:NodeHelp C:NodeHelp2 C:NodeTop C:NodeCmp
/-! ## Nodes compared: the law -/

theorem c_spec_CompareNodes {S S' : Nat → Prop} {w : World} {ca cb : NdC} {a b : Nd} (ha : NdAt S w ca a) (hb : NdAt S' w cb b) : CallR Try.prog 26 [ca.v, cb.v] w (fun v w' => v = .int .i64 (if vNd a = true ∧ vNd b = true then cmpN 5 a b else 2) ∧ Ext w w') := by
  refine fn_spec_CompareNodes _ _ _ _ _ _ _ _ _ _ _ _ ?_
  unfold g_spec_CompareNodes
  refine ndStart fun w1 e1 r1 => ndStart fun w2 e2 r2 => ?_
  obtain ⟨k0, k1, k2, k3, k4⟩ := Row.nd (r1.ext e2)
  obtain ⟨m0, m1, m2, m3, m4⟩ := Row.nd r2
  have e02 := e1.trans e2
  simp only [exI k0, exI k1, exS k2, exL k3, exL k4]
  refine (c_spec_validNode (ha.ext e02)).go fun w3 e3 => ⟨_, rfl, br_i (fun g => ⟨?_, e02.trans e3⟩) (fun g => ?_)⟩
  · have g' : vNd a = false := nott g
    rw [if_neg (by simp [g'])]
  have va : vNd a = true := notf g
  simp only [exI (e3.get m0), exI (e3.get m1), exS (e3.get m2), exL (e3.get m3), exL (e3.get m4)]
  refine (c_spec_validNode (hb.ext (e02.trans e3))).go fun w4 e4 => ⟨_, rfl, br_i (fun g => ⟨?_, (e02.trans e3).trans e4⟩) (fun g => ?_)⟩
  · have g' : vNd b = false := nott g
    rw [if_neg (by simp [g'])]
  have vb : vNd b = true := notf g
  have e24 := e3.trans e4
  simp only [exI (e24.get k0), exI (e24.get k1), exS (e24.get k2), exL (e24.get k3), exL (e24.get k4)]
  simp only [exI (e24.get m0), exI (e24.get m1), exS (e24.get m2), exL (e24.get m3), exL (e24.get m4)]
  refine (c_spec_compare 5 w4 ca cb a b (vNd_shp va) (vNd_shp vb) (ha.ext (e02.trans e24)) (hb.ext (e02.trans e24))).go fun w5 e5 => ⟨_, rfl, ?_, (e02.trans e24).trans e5⟩
  rw [if_pos ⟨va, vb⟩]

theorem c_impl_CompareNodes {S S' : Nat → Prop} {w : World} {ca cb : NdC} {a b : Nd} (ha : NdAt S w ca a) (hb : NdAt S' w cb b) : CallR Try.prog 27 [ca.v, cb.v] w (fun v w' => v = .int .i64 (if vNd a = true ∧ vNd b = true then cmpN 5 a b else 2) ∧ Ext w w') := by
  refine fn_impl_CompareNodes _ _ _ _ _ _ _ _ _ _ _ _ ?_
  unfold g_impl_CompareNodes
  refine ndStart fun w1 e1 r1 => ndStart fun w2 e2 r2 => ?_
  obtain ⟨k0, k1, k2, k3, k4⟩ := Row.nd (r1.ext e2)
  obtain ⟨m0, m1, m2, m3, m4⟩ := Row.nd r2
  have e02 := e1.trans e2
  simp only [exI k0, exI k1, exS k2, exL k3, exL k4]
  refine (c_impl_ValidNode (ha.ext e02)).go fun w3 e3 => ⟨_, rfl, br_i (fun g => ⟨?_, e02.trans e3⟩) (fun g => ?_)⟩
  · have g' : vNd a = false := nott g
    rw [if_neg (by simp [g'])]
  have va : vNd a = true := notf g
  simp only [exI (e3.get m0), exI (e3.get m1), exS (e3.get m2), exL (e3.get m3), exL (e3.get m4)]
  refine (c_impl_ValidNode (hb.ext (e02.trans e3))).go fun w4 e4 => ⟨_, rfl, br_i (fun g => ⟨?_, (e02.trans e3).trans e4⟩) (fun g => ?_)⟩
  · have g' : vNd b = false := nott g
    rw [if_neg (by simp [g'])]
  have vb : vNd b = true := notf g
  have e24 := e3.trans e4
  simp only [exI (e24.get k0), exI (e24.get k1), exS (e24.get k2), exL (e24.get k3), exL (e24.get k4)]
  simp only [exI (e24.get m0), exI (e24.get m1), exS (e24.get m2), exL (e24.get m3), exL (e24.get m4)]
  refine (c_impl_compareValid 5 w4 ca cb a b (vNd_shp va) (vNd_shp vb) (ha.ext (e02.trans e24)) (hb.ext (e02.trans e24))).go fun w5 e5 => ⟨_, rfl, ?_, (e02.trans e24).trans e5⟩
  rw [if_pos ⟨va, vb⟩]

set_option maxHeartbeats 2000000 in
theorem c_laws_FnExactCompareNodes {w : World} {ca : NdC} {a : Nd} {cb : NdC} {b : Nd} (ha : NdAt (fun _ => True) w ca a) (hb : NdAt (fun _ => True) w cb b) : CallR Try.prog 10 [ca.v, cb.v] w (fun v w' => v = .bool true ∧ Ext w w') := by
  refine fn_laws_FnExactCompareNodes _ _ _ _ _ _ _ _ _ _ _ _ ?_
  unfold g_laws_FnExactCompareNodes
  refine ndStart fun w1 e1 r1 => ndStart fun w2 e2 r2 => ?_
  obtain ⟨k0, k1, k2, k3, k4⟩ := Row.nd (r1.ext e2)
  obtain ⟨m0, m1, m2, m3, m4⟩ := Row.nd r2
  have e02 := e1.trans e2
  simp only [exI k0, exI k1, exS k2, exL k3, exL k4]
  refine (c_laws_szNode _ w2 ca a 1048576 (Nat.le_refl _) (ha.ext e02) (by omega) (by omega)).mono ?_
  rintro _ w3 ⟨hv, e3⟩
  rcases hv with rfl | ⟨rfl, hpos⟩
  · exact ⟨_, rfl, br_dt (by omega) ⟨by simp, e02.trans e3⟩⟩
  have hza : mz a ≤ 1048576 := by omega
  refine ⟨_, rfl, br_df (by omega) ?_⟩
  simp only [exI (e3.get m0), exI (e3.get m1), exS (e3.get m2), exL (e3.get m3), exL (e3.get m4)]
  refine (c_laws_szNode _ w3 cb b _ (Nat.le_refl _) (hb.ext (e02.trans e3)) hpos (by omega)).mono ?_
  rintro _ w4 ⟨hv, e4⟩
  rcases hv with rfl | ⟨rfl, hpos'⟩
  · exact ⟨_, rfl, br_dt (by omega) ⟨by simp, (e02.trans e3).trans e4⟩⟩
  have hzb : mz b ≤ 1048576 := by omega
  refine ⟨_, rfl, br_df (by omega) ?_⟩
  have e24 := e3.trans e4
  refine ⟨fun w' => Ext w4 w', fun w' he => he, fun w5 (e5 : Ext w4 w5) => ?_⟩
  have e25 := e24.trans e5
  simp only [exI (e25.get k0), exI (e25.get k1), exS (e25.get k2), exL (e25.get k3), exL (e25.get k4)]
  refine ⟨e5, (c_laws_toNode _ w5 ca a (Nat.le_refl _) hza (ha.ext (e02.trans e25))).mono ?_⟩
  rintro _ w6 ⟨xa, rfl, hxa, e6⟩
  have e26 := e25.trans e6
  have e46 : Ext w4 w6 := e5.trans e6
  refine ⟨_, _, _, _, _, rfl, e46, e46, cb.k, fun w' (he : Ext w4 w') => (e24.trans he).get m0, cb.m, fun w' (he : Ext w4 w') => (e24.trans he).get m1, cb.t, fun w' (he : Ext w4 w') => (e24.trans he).get m2, cb.sn, fun w' (he : Ext w4 w') => (e24.trans he).get m3, cb.sk, fun w' (he : Ext w4 w') => (e24.trans he).get m4, ?_⟩
  refine (c_laws_toNode _ w6 cb b (Nat.le_refl _) hzb (hb.ext (e02.trans e26))).mono ?_
  rintro _ w7 ⟨xb, rfl, hxb, e7⟩
  have e27 := e26.trans e7
  refine ⟨_, _, _, _, _, rfl, (c_spec_CompareNodes (hxa.ext e7) hxb).go fun w8 e8 => ⟨_, rfl, ?_⟩⟩
  have e28 := e27.trans e8
  simp only [exI (e28.get k0), exI (e28.get k1), exS (e28.get k2), exL (e28.get k3), exL (e28.get k4)]
  refine (c_laws_toNode _ w8 ca a (Nat.le_refl _) hza (ha.ext (e02.trans e28))).mono ?_
  rintro _ w9 ⟨ya, rfl, hya, e9⟩
  refine ⟨_, _, _, _, _, rfl, local5 fun w10 r10 e10 => ?_⟩
  obtain ⟨p0, p1, p2, p3, p4⟩ := Row.nd (c := ya) r10
  have e210 := (e28.trans e9).trans e10
  simp only [exI (e210.get m0), exI (e210.get m1), exS (e210.get m2), exL (e210.get m3), exL (e210.get m4)]
  refine (c_laws_toNode _ w10 cb b (Nat.le_refl _) hzb (hb.ext (e02.trans e210))).mono ?_
  rintro _ w11 ⟨yb, rfl, hyb, e11⟩
  refine ⟨_, _, _, _, _, rfl, local5 fun w12 r12 e12 => ?_⟩
  obtain ⟨q0, q1, q2, q3, q4⟩ := Row.nd (c := yb) r12
  have e1012 := e11.trans e12
  simp only [exI (e1012.get p0), exI (e1012.get p1), exS (e1012.get p2), exL (e1012.get p3), exL (e1012.get p4)]
  simp only [exI q0, exI q1, exS q2, exL q3, exL q4]
  have hya' := (hya.ext e10).ext e1012
  have hyb' := hyb.ext e12
  have e212 := e210.trans e1012
  refine (c_impl_CompareNodes hya' hyb').go fun w13 e13 => ⟨_, rfl, br_f (by simp) ?_⟩
  have e213 := e212.trans e13
  have e1013 := e1012.trans e13
  refine ⟨fun w' => Ext w13 w', fun w' he => he, fun w14 (e14 : Ext w13 w14) => ⟨e14, ya.k, fun w' (he : Ext w13 w') => (e1013.trans he).get p0, ya.m, fun w' (he : Ext w13 w') => (e1013.trans he).get p1, ya.t, fun w' (he : Ext w13 w') => (e1013.trans he).get p2, ya.sn, fun w' (he : Ext w13 w') => (e1013.trans he).get p3, ya.sk, fun w' (he : Ext w13 w') => (e1013.trans he).get p4, ?_⟩⟩
  have e214 := e213.trans e14
  simp only [exI (e214.get k0), exI (e214.get k1), exS (e214.get k2), exL (e214.get k3), exL (e214.get k4)]
  refine ⟨e14, (c_laws_toNode _ w14 ca a (Nat.le_refl _) hza (ha.ext (e02.trans e214))).mono ?_⟩
  rintro _ w15 ⟨za, rfl, hza', e15⟩
  refine ⟨_, _, _, _, _, rfl, e14.trans e15, ?_⟩
  refine (c_laws_eqNode _ w15 ya za a (Nat.le_refl _) (((hya'.ext e13).ext e14).ext e15) hza').go fun w16 e16 => ⟨_, rfl, br_f (by simp) ?_⟩
  have e1316 := (e14.trans e15).trans e16
  have e216 := e213.trans e1316
  have e1216 := e13.trans e1316
  refine ⟨fun w' => Ext w16 w', fun w' he => he, fun w17 (e17 : Ext w16 w17) => ⟨e17, yb.k, fun w' (he : Ext w16 w') => (e1216.trans he).get q0, yb.m, fun w' (he : Ext w16 w') => (e1216.trans he).get q1, yb.t, fun w' (he : Ext w16 w') => (e1216.trans he).get q2, yb.sn, fun w' (he : Ext w16 w') => (e1216.trans he).get q3, yb.sk, fun w' (he : Ext w16 w') => (e1216.trans he).get q4, ?_⟩⟩
  have e217 := e216.trans e17
  simp only [exI (e217.get m0), exI (e217.get m1), exS (e217.get m2), exL (e217.get m3), exL (e217.get m4)]
  refine ⟨e17, (c_laws_toNode _ w17 cb b (Nat.le_refl _) hzb (hb.ext (e02.trans e217))).mono ?_⟩
  rintro _ w18 ⟨zb, rfl, hzb', e18⟩
  refine ⟨_, _, _, _, _, rfl, e17.trans e18, ?_⟩
  exact (c_laws_eqNode _ w18 yb zb b (Nat.le_refl _) (((hyb'.ext e1216).ext e17).ext e18) hzb').go fun w19 e19 => ⟨_, rfl, br_f (by simp) ⟨by simp, ((e02.trans e217).trans e18).trans e19⟩⟩
end Go.Proofs
