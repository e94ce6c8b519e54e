/-
  What functions of this seat compute, part 'TagsShelf': contracts over their readable predicates. Conditions: each theorem's own hypotheses.
-/
import Derived.Test.YtpofoikpmafnbaaBase
import Derived.Test.YtpofoikpmafnbaaOpen
import Derived.Test.YtpofoikpmafnbaaGen
import Derived.Test.YtpofoikpmafnbaaCTags
import Derived.Test.YtpofoikpmafnbaaShelf
namespace Go.Proofs
open Go Go.Vc Go.RowKit
set_option maxRecDepth 100000
set_option linter.unusedVariables false
--! C:Tags S
/-! ## Tags: the library's search for a letter -/

theorem c_strings_IndexByte (s : ByteArray) (c : Int) (w : World) : CallR Try.prog 35 [.string s, .int .u8 c] w (fun v w' => v = .int .i64 (Lib.indexByte s.data.toList c.toNat.toUInt8) ∧ w' = w) :=
  .inl ⟨by kernel_rfl, (Try.strings_IndexByte s c w).mono fun e w' ⟨h1, h2⟩ => ⟨_, h1, rfl, h2⟩⟩

theorem c_isSum (s : ByteArray) (w : World) : CallR Try.prog 23 [.string s] w (fun v w' => v = .bool (vTag s) ∧ Ext w w') := c_impl_isSum c_strings_IndexByte s w
end Go.Proofs
