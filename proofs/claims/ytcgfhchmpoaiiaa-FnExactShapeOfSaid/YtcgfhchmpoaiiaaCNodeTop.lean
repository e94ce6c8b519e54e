/-
  What functions of this seat compute, part 'NodeTop': contracts over their readable predicates. Conditions: each theorem's own hypotheses.
-/
import Derived.Test.YtcgfhchmpoaiiaaBase
import Derived.Test.YtcgfhchmpoaiiaaOpen
import Derived.Test.YtcgfhchmpoaiiaaGen
import Derived.Test.YtcgfhchmpoaiiaaCSmall
import Derived.Test.YtcgfhchmpoaiiaaCOrder
import Derived.Test.YtcgfhchmpoaiiaaCNode
import Derived.Test.YtcgfhchmpoaiiaaCNodeText
import Derived.Test.YtcgfhchmpoaiiaaCNodeValid
import Derived.Test.YtcgfhchmpoaiiaaCNodeSpec
namespace Go.Proofs
open Go Go.Vc Go.RowKit
set_option maxRecDepth 100000
set_option linter.unusedVariables false
--! C:Small C:Order C:Node C:NodeText C:NodeValid C:NodeSpec
/-! ## Nodes: the answers -/

theorem vNd_shp {n : Nd} (h : vNd n = true) : shp 5 n = true := by
  simp only [vNd, Bool.and_eq_true] at h; exact h.1

theorem c_spec_validNode {S : Nat → Prop} {w : World} {c : NdC} {n : Nd} (h : NdAt S w c n) : CallR Try.prog 43 [c.v] w (fun v w' => v = .bool (vNd n) ∧ Ext w w') := by
  refine fn_spec_validNode _ _ _ _ _ _ _ ?_
  unfold g_spec_validNode
  refine ndStart fun w1 e1 r1 => ?_
  obtain ⟨k0, k1, k2, k3, k4⟩ := Row.nd r1
  simp only [exI k0, exI k1, exS k2, exL k3, exL k4]
  refine (c_spec_shape 5 w1 c n (by omega) (h.ext e1)).go fun w2 e2 => ⟨_, rfl, br_i (fun g => ?_) (fun g => ⟨by simp [vNd, g], e1.trans e2⟩)⟩
  simp only [exI (e2.get k0), exI (e2.get k1), exS (e2.get k2), exL (e2.get k3), exL (e2.get k4)]
  have hb := shp_5 (Nat.le_refl 5) g
  refine (c_spec_count _ w2 c n (Nat.le_refl _) (by omega) ((h.ext e1).ext e2)).go fun w3 e3 => ⟨_, rfl, ?_, (e1.trans e2).trans e3⟩
  simp only [vNd, g, Bool.true_and]
  congr 2
  rw [eq_iff_iff]; omega





end Go.Proofs
