/-
  What functions of this seat compute, part 'Small': contracts over their readable predicates. Conditions: each theorem's own hypotheses.
-/
import Derived.Test.YtcgfhchmpoaiiaaBase
import Derived.Test.YtcgfhchmpoaiiaaOpen
import Derived.Test.YtcgfhchmpoaiiaaGen
namespace Go.Proofs
open Go Go.Vc Go.RowKit
set_option maxRecDepth 100000
set_option linter.unusedVariables false
--!
/-! ## Ranges and names -/

theorem c_spec_inRange (n lo hi : Int) (w : World) : CallR Try.prog 58 [.int .i64 n, .int .i64 lo, .int .i64 hi] w (fun v w' => v = .bool (decide (lo ≤ n ∧ n ≤ hi)) ∧ Ext w w') := by
  refine fn_spec_inRange _ _ _ _ _ ?_
  unfold g_spec_inRange
  exact br_d (fun h1 => ⟨by simp [h1], Ext.refl _⟩) (fun h1 => ⟨by simp [h1], Ext.refl _⟩)

def isLet (c : UInt8) : Bool := (97 ≤ c.toNat && c.toNat ≤ 122) || (48 ≤ c.toNat && c.toNat ≤ 57)
def vName (s : ByteArray) : Bool := s.data.toList.all isLet && decide (1 ≤ s.size ∧ s.size ≤ 8)

theorem seqB_nil (s : ByteArray) : seqB s (⟨#[]⟩ : ByteArray) = decide (s.size = 0) := by
  rw [seqB_eq]
  congr 1
  rw [eq_iff_iff]
  constructor
  · rintro rfl; rfl
  · intro h
    cases s
    simp only [ByteArray.size] at h
    congr
    exact Array.eq_empty_of_size_eq_zero h


end Go.Proofs
