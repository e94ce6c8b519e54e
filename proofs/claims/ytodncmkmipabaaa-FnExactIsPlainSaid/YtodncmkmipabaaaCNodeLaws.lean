/-
  What functions of this seat compute, part 'NodeLaws': contracts over their readable predicates. Conditions: each theorem's own hypotheses.
-/
import Derived.Test.YtodncmkmipabaaaBase
import Derived.Test.YtodncmkmipabaaaOpen
import Derived.Test.YtodncmkmipabaaaGen
import Derived.Test.YtodncmkmipabaaaCSmall
import Derived.Test.YtodncmkmipabaaaCOrder
import Derived.Test.YtodncmkmipabaaaCNode
import Derived.Test.YtodncmkmipabaaaCNodeText
import Derived.Test.YtodncmkmipabaaaCNodeValid
import Derived.Test.YtodncmkmipabaaaCNodeSpec
import Derived.Test.YtodncmkmipabaaaCHelpS
import Derived.Test.YtodncmkmipabaaaCNodeHelp
import Derived.Test.YtodncmkmipabaaaCNodeHelp2
import Derived.Test.YtodncmkmipabaaaCNodeTop
namespace Go.Proofs
open Go Go.Vc Go.RowKit
set_option maxRecDepth 100000
set_option linter.unusedVariables false
--! C:Small C:Order C:Node C:NodeText C:NodeValid C:NodeSpec C:HelpS C:NodeHelp C:NodeHelp2 C:NodeTop
/-! ## Nodes: the exact laws -/

set_option maxHeartbeats 1000000 in
theorem c_laws_FnExactValidNode {w : World} {c : NdC} {n : Nd} (h : NdAt (fun _ => True) w c n) : CallR Try.prog 3 [c.v] w (fun v w' => v = .bool true ∧ Ext w w') := by
  refine fn_laws_FnExactValidNode _ _ _ _ _ _ _ ?_
  unfold g_laws_FnExactValidNode
  refine ndStart fun w1 e1 r1 => ?_
  obtain ⟨k0, k1, k2, k3, k4⟩ := Row.nd r1
  simp only [exI k0, exI k1, exS k2, exL k3, exL k4]
  refine (c_laws_szNode _ w1 c n 1048576 (Nat.le_refl _) (h.ext e1) (by omega) (by omega)).mono ?_
  rintro _ w2 ⟨hv, e2⟩
  rcases hv with rfl | ⟨rfl, hpos⟩
  · exact ⟨_, rfl, br_dt (by omega) ⟨by simp, e1.trans e2⟩⟩
  have hz : mz n ≤ 1048576 := by omega
  refine ⟨_, rfl, br_df (by omega) ?_⟩
  simp only [exI (e2.get k0), exI (e2.get k1), exS (e2.get k2), exL (e2.get k3), exL (e2.get k4)]
  have e02 := e1.trans e2
  refine (c_laws_toNode _ w2 c n (Nat.le_refl _) hz (h.ext e02)).mono ?_
  rintro _ w3 ⟨x3, rfl, h3, e3⟩
  have e03 := e02.trans e3
  refine ⟨_, _, _, _, _, rfl, (c_spec_ValidNode h3).go fun w4 e4 => ⟨_, rfl, ?_⟩⟩
  have e04 := e03.trans e4
  have e14 := (e2.trans e3).trans e4
  simp only [exI (e14.get k0), exI (e14.get k1), exS (e14.get k2), exL (e14.get k3), exL (e14.get k4)]
  refine (c_laws_toNode _ w4 c n (Nat.le_refl _) hz (h.ext e04)).mono ?_
  rintro _ w5 ⟨x5, rfl, h5, e5⟩
  have e05 := e04.trans e5
  refine ⟨_, _, _, _, _, rfl, local5 fun w6 r6 e6 => ?_⟩
  obtain ⟨m0, m1, m2, m3, m4⟩ := Row.nd (c := x5) r6
  simp only [exI m0, exI m1, exS m2, exL m3, exL m4]
  have e06 := e05.trans e6
  refine (c_impl_ValidNode (h5.ext e6)).go fun w7 e7 => ⟨_, rfl, br_f (by simp) ?_⟩
  have e07 := e06.trans e7
  refine ⟨fun w' => Ext w7 w', fun w' he => he, fun w8 (e8 : Ext w7 w8) => ⟨e8, ?_⟩⟩
  have e78 := e7.trans e8
  refine ⟨x5.k, fun w' (he : Ext w7 w') => (e7.trans he).get m0, x5.m, fun w' (he : Ext w7 w') => (e7.trans he).get m1, x5.t, fun w' (he : Ext w7 w') => (e7.trans he).get m2, x5.sn, fun w' (he : Ext w7 w') => (e7.trans he).get m3, x5.sk, fun w' (he : Ext w7 w') => (e7.trans he).get m4, ?_⟩
  have e48 := (e5.trans e6).trans e78
  have e18 := e14.trans e48
  simp only [exI (e18.get k0), exI (e18.get k1), exS (e18.get k2), exL (e18.get k3), exL (e18.get k4)]
  refine ⟨e8, ?_⟩
  have e08 := e04.trans e48
  refine (c_laws_toNode _ w8 c n (Nat.le_refl _) hz (h.ext e08)).mono ?_
  rintro _ w9 ⟨x9, rfl, h9, e9⟩
  refine ⟨_, _, _, _, _, rfl, e8.trans e9, ?_⟩
  have h5' := ((h5.ext e6).ext e78).ext e9
  exact (c_laws_eqNode _ w9 x5 x9 n (Nat.le_refl _) h5' h9).go fun w10 e10 => ⟨_, rfl, br_f (by simp) ⟨by simp, (e08.trans e9).trans e10⟩⟩

set_option maxHeartbeats 1000000 in
theorem c_laws_FnExactNodeCount {w : World} {c : NdC} {n : Nd} (h : NdAt (fun _ => True) w c n) : CallR Try.prog 4 [c.v] w (fun v w' => v = .bool true ∧ Ext w w') := by
  refine fn_laws_FnExactNodeCount _ _ _ _ _ _ _ ?_
  unfold g_laws_FnExactNodeCount
  refine ndStart fun w1 e1 r1 => ?_
  obtain ⟨k0, k1, k2, k3, k4⟩ := Row.nd r1
  simp only [exI k0, exI k1, exS k2, exL k3, exL k4]
  refine (c_laws_szNode _ w1 c n 1048576 (Nat.le_refl _) (h.ext e1) (by omega) (by omega)).mono ?_
  rintro _ w2 ⟨hv, e2⟩
  rcases hv with rfl | ⟨rfl, hpos⟩
  · exact ⟨_, rfl, br_dt (by omega) ⟨by simp, e1.trans e2⟩⟩
  have hz : mz n ≤ 1048576 := by omega
  refine ⟨_, rfl, br_df (by omega) ?_⟩
  simp only [exI (e2.get k0), exI (e2.get k1), exS (e2.get k2), exL (e2.get k3), exL (e2.get k4)]
  have e02 := e1.trans e2
  refine (c_laws_toNode _ w2 c n (Nat.le_refl _) hz (h.ext e02)).mono ?_
  rintro _ w3 ⟨x3, rfl, h3, e3⟩
  have e03 := e02.trans e3
  refine ⟨_, _, _, _, _, rfl, (c_spec_NodeCount h3).go fun w4 e4 => ⟨_, rfl, ?_⟩⟩
  have e04 := e03.trans e4
  have e14 := (e2.trans e3).trans e4
  simp only [exI (e14.get k0), exI (e14.get k1), exS (e14.get k2), exL (e14.get k3), exL (e14.get k4)]
  refine (c_laws_toNode _ w4 c n (Nat.le_refl _) hz (h.ext e04)).mono ?_
  rintro _ w5 ⟨x5, rfl, h5, e5⟩
  have e05 := e04.trans e5
  refine ⟨_, _, _, _, _, rfl, local5 fun w6 r6 e6 => ?_⟩
  obtain ⟨m0, m1, m2, m3, m4⟩ := Row.nd (c := x5) r6
  simp only [exI m0, exI m1, exS m2, exL m3, exL m4]
  have e06 := e05.trans e6
  refine (c_impl_NodeCount (h5.ext e6)).go fun w7 e7 => ⟨_, rfl, br_f (by simp) ?_⟩
  have e07 := e06.trans e7
  refine ⟨fun w' => Ext w7 w', fun w' he => he, fun w8 (e8 : Ext w7 w8) => ⟨e8, ?_⟩⟩
  have e78 := e7.trans e8
  refine ⟨x5.k, fun w' (he : Ext w7 w') => (e7.trans he).get m0, x5.m, fun w' (he : Ext w7 w') => (e7.trans he).get m1, x5.t, fun w' (he : Ext w7 w') => (e7.trans he).get m2, x5.sn, fun w' (he : Ext w7 w') => (e7.trans he).get m3, x5.sk, fun w' (he : Ext w7 w') => (e7.trans he).get m4, ?_⟩
  have e48 := (e5.trans e6).trans e78
  have e18 := e14.trans e48
  simp only [exI (e18.get k0), exI (e18.get k1), exS (e18.get k2), exL (e18.get k3), exL (e18.get k4)]
  refine ⟨e8, ?_⟩
  have e08 := e04.trans e48
  refine (c_laws_toNode _ w8 c n (Nat.le_refl _) hz (h.ext e08)).mono ?_
  rintro _ w9 ⟨x9, rfl, h9, e9⟩
  refine ⟨_, _, _, _, _, rfl, e8.trans e9, ?_⟩
  have h5' := ((h5.ext e6).ext e78).ext e9
  exact (c_laws_eqNode _ w9 x5 x9 n (Nat.le_refl _) h5' h9).go fun w10 e10 => ⟨_, rfl, br_f (by simp) ⟨by simp, (e08.trans e9).trans e10⟩⟩

set_option maxHeartbeats 1000000 in
theorem c_laws_FnExactNodeDepth {w : World} {c : NdC} {n : Nd} (h : NdAt (fun _ => True) w c n) : CallR Try.prog 5 [c.v] w (fun v w' => v = .bool true ∧ Ext w w') := by
  refine fn_laws_FnExactNodeDepth _ _ _ _ _ _ _ ?_
  unfold g_laws_FnExactNodeDepth
  refine ndStart fun w1 e1 r1 => ?_
  obtain ⟨k0, k1, k2, k3, k4⟩ := Row.nd r1
  simp only [exI k0, exI k1, exS k2, exL k3, exL k4]
  refine (c_laws_szNode _ w1 c n 1048576 (Nat.le_refl _) (h.ext e1) (by omega) (by omega)).mono ?_
  rintro _ w2 ⟨hv, e2⟩
  rcases hv with rfl | ⟨rfl, hpos⟩
  · exact ⟨_, rfl, br_dt (by omega) ⟨by simp, e1.trans e2⟩⟩
  have hz : mz n ≤ 1048576 := by omega
  refine ⟨_, rfl, br_df (by omega) ?_⟩
  simp only [exI (e2.get k0), exI (e2.get k1), exS (e2.get k2), exL (e2.get k3), exL (e2.get k4)]
  have e02 := e1.trans e2
  refine (c_laws_toNode _ w2 c n (Nat.le_refl _) hz (h.ext e02)).mono ?_
  rintro _ w3 ⟨x3, rfl, h3, e3⟩
  have e03 := e02.trans e3
  refine ⟨_, _, _, _, _, rfl, (c_spec_NodeDepth h3).go fun w4 e4 => ⟨_, rfl, ?_⟩⟩
  have e04 := e03.trans e4
  have e14 := (e2.trans e3).trans e4
  simp only [exI (e14.get k0), exI (e14.get k1), exS (e14.get k2), exL (e14.get k3), exL (e14.get k4)]
  refine (c_laws_toNode _ w4 c n (Nat.le_refl _) hz (h.ext e04)).mono ?_
  rintro _ w5 ⟨x5, rfl, h5, e5⟩
  have e05 := e04.trans e5
  refine ⟨_, _, _, _, _, rfl, local5 fun w6 r6 e6 => ?_⟩
  obtain ⟨m0, m1, m2, m3, m4⟩ := Row.nd (c := x5) r6
  simp only [exI m0, exI m1, exS m2, exL m3, exL m4]
  have e06 := e05.trans e6
  refine (c_impl_NodeDepth (h5.ext e6)).go fun w7 e7 => ⟨_, rfl, br_f (by simp) ?_⟩
  have e07 := e06.trans e7
  refine ⟨fun w' => Ext w7 w', fun w' he => he, fun w8 (e8 : Ext w7 w8) => ⟨e8, ?_⟩⟩
  have e78 := e7.trans e8
  refine ⟨x5.k, fun w' (he : Ext w7 w') => (e7.trans he).get m0, x5.m, fun w' (he : Ext w7 w') => (e7.trans he).get m1, x5.t, fun w' (he : Ext w7 w') => (e7.trans he).get m2, x5.sn, fun w' (he : Ext w7 w') => (e7.trans he).get m3, x5.sk, fun w' (he : Ext w7 w') => (e7.trans he).get m4, ?_⟩
  have e48 := (e5.trans e6).trans e78
  have e18 := e14.trans e48
  simp only [exI (e18.get k0), exI (e18.get k1), exS (e18.get k2), exL (e18.get k3), exL (e18.get k4)]
  refine ⟨e8, ?_⟩
  have e08 := e04.trans e48
  refine (c_laws_toNode _ w8 c n (Nat.le_refl _) hz (h.ext e08)).mono ?_
  rintro _ w9 ⟨x9, rfl, h9, e9⟩
  refine ⟨_, _, _, _, _, rfl, e8.trans e9, ?_⟩
  have h5' := ((h5.ext e6).ext e78).ext e9
  exact (c_laws_eqNode _ w9 x5 x9 n (Nat.le_refl _) h5' h9).go fun w10 e10 => ⟨_, rfl, br_f (by simp) ⟨by simp, (e08.trans e9).trans e10⟩⟩

set_option maxHeartbeats 1000000 in
theorem c_laws_FnExactIsPlain {w : World} {c : NdC} {n : Nd} (h : NdAt (fun _ => True) w c n) : CallR Try.prog 6 [c.v] w (fun v w' => v = .bool true ∧ Ext w w') := by
  refine fn_laws_FnExactIsPlain _ _ _ _ _ _ _ ?_
  unfold g_laws_FnExactIsPlain
  refine ndStart fun w1 e1 r1 => ?_
  obtain ⟨k0, k1, k2, k3, k4⟩ := Row.nd r1
  simp only [exI k0, exI k1, exS k2, exL k3, exL k4]
  refine (c_laws_szNode _ w1 c n 1048576 (Nat.le_refl _) (h.ext e1) (by omega) (by omega)).mono ?_
  rintro _ w2 ⟨hv, e2⟩
  rcases hv with rfl | ⟨rfl, hpos⟩
  · exact ⟨_, rfl, br_dt (by omega) ⟨by simp, e1.trans e2⟩⟩
  have hz : mz n ≤ 1048576 := by omega
  refine ⟨_, rfl, br_df (by omega) ?_⟩
  simp only [exI (e2.get k0), exI (e2.get k1), exS (e2.get k2), exL (e2.get k3), exL (e2.get k4)]
  have e02 := e1.trans e2
  refine (c_laws_toNode _ w2 c n (Nat.le_refl _) hz (h.ext e02)).mono ?_
  rintro _ w3 ⟨x3, rfl, h3, e3⟩
  have e03 := e02.trans e3
  refine ⟨_, _, _, _, _, rfl, (c_spec_IsPlain h3).go fun w4 e4 => ⟨_, rfl, ?_⟩⟩
  have e04 := e03.trans e4
  have e14 := (e2.trans e3).trans e4
  simp only [exI (e14.get k0), exI (e14.get k1), exS (e14.get k2), exL (e14.get k3), exL (e14.get k4)]
  refine (c_laws_toNode _ w4 c n (Nat.le_refl _) hz (h.ext e04)).mono ?_
  rintro _ w5 ⟨x5, rfl, h5, e5⟩
  have e05 := e04.trans e5
  refine ⟨_, _, _, _, _, rfl, local5 fun w6 r6 e6 => ?_⟩
  obtain ⟨m0, m1, m2, m3, m4⟩ := Row.nd (c := x5) r6
  simp only [exI m0, exI m1, exS m2, exL m3, exL m4]
  have e06 := e05.trans e6
  refine (c_impl_IsPlain (h5.ext e6)).go fun w7 e7 => ⟨_, rfl, br_f (by simp) ?_⟩
  have e07 := e06.trans e7
  refine ⟨fun w' => Ext w7 w', fun w' he => he, fun w8 (e8 : Ext w7 w8) => ⟨e8, ?_⟩⟩
  have e78 := e7.trans e8
  refine ⟨x5.k, fun w' (he : Ext w7 w') => (e7.trans he).get m0, x5.m, fun w' (he : Ext w7 w') => (e7.trans he).get m1, x5.t, fun w' (he : Ext w7 w') => (e7.trans he).get m2, x5.sn, fun w' (he : Ext w7 w') => (e7.trans he).get m3, x5.sk, fun w' (he : Ext w7 w') => (e7.trans he).get m4, ?_⟩
  have e48 := (e5.trans e6).trans e78
  have e18 := e14.trans e48
  simp only [exI (e18.get k0), exI (e18.get k1), exS (e18.get k2), exL (e18.get k3), exL (e18.get k4)]
  refine ⟨e8, ?_⟩
  have e08 := e04.trans e48
  refine (c_laws_toNode _ w8 c n (Nat.le_refl _) hz (h.ext e08)).mono ?_
  rintro _ w9 ⟨x9, rfl, h9, e9⟩
  refine ⟨_, _, _, _, _, rfl, e8.trans e9, ?_⟩
  have h5' := ((h5.ext e6).ext e78).ext e9
  exact (c_laws_eqNode _ w9 x5 x9 n (Nat.le_refl _) h5' h9).go fun w10 e10 => ⟨_, rfl, br_f (by simp) ⟨by simp, (e08.trans e9).trans e10⟩⟩
end Go.Proofs
