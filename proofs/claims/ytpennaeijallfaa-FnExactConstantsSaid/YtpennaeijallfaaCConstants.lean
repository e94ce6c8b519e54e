/-
  What functions of this seat compute, part 'Constants': contracts over their readable predicates. Conditions: each theorem's own hypotheses.
-/
import Derived.Test.YtpennaeijallfaaBase
import Derived.Test.YtpennaeijallfaaOpen
import Derived.Test.YtpennaeijallfaaGen
namespace Go.Proofs
open Go Go.Vc Go.RowKit
set_option maxRecDepth 100000
set_option linter.unusedVariables false
--!
/-! ## The constants -/

theorem c_laws_FnExactConstants {w : World} : CallR Try.prog 3 [] w (fun v w' => v = .bool true ∧ Ext w w') := by
  refine fn_laws_FnExactConstants _ _ ?_
  unfold g_laws_FnExactConstants
  exact ⟨rfl, Ext.refl _⟩
end Go.Proofs
