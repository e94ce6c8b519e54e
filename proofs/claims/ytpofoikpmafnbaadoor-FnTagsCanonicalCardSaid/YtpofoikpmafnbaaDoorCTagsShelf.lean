/-
  What functions of this seat compute, part 'TagsShelf': contracts over their readable predicates. Conditions: each theorem's own hypotheses.
-/
import Derived.Test.YtpofoikpmafnbaaDoorBase
import Derived.Test.YtpofoikpmafnbaaDoorOpen
import Derived.Test.YtpofoikpmafnbaaDoorGen
import Derived.Test.YtpofoikpmafnbaaDoorCTags
import Derived.Test.YtpofoikpmafnbaaDoorShelf
namespace Go.Proofs
open Go Go.Vc Go.RowKit
set_option maxRecDepth 100000
set_option linter.unusedVariables false
--! C:Tags S
/-! ## Tags: the library's search for a letter -/

theorem c_strings_IndexByte (s : ByteArray) (c : Int) (w : World) : CallR Tryd.prog 31 [.string s, .int .u8 c] w (fun v w' => v = .int .i64 (Lib.indexByte s.data.toList c.toNat.toUInt8) ∧ w' = w) :=
  .inl ⟨by kernel_rfl, (Tryd.strings_IndexByte s c w).mono fun e w' ⟨h1, h2⟩ => ⟨_, h1, rfl, h2⟩⟩

theorem c_isSum (s : ByteArray) (w : World) : CallR Tryd.prog 18 [.string s] w (fun v w' => v = .bool (vTag s) ∧ Ext w w') := c_impl_isSum c_strings_IndexByte s w
end Go.Proofs
