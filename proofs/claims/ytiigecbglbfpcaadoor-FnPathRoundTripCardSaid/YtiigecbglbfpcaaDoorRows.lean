/-
  NARROWER THAN 'FOR EVERY INPUT', by the rows' own cells (each row's printed sentence says how): FnPathCanonical: laid · FnPathSlash: laid · FnExactParsePath: laid · FnPathRoundTrip: laid.
  DERIVED. THE GIVEN ROWS OF THIS SEAT. 4 by the template 'for every input the law returns true; each argument reads behind the call as it read before'; 0 by the template 'total and deterministic' (their statements: YtiigecbglbfpcaaDoorTotals.lean).
  GIVEN WITH THE SEED: the statements are not yours to turn. If you find one false, say at which input.
  Laid BY PROGRAM, IN A SANDBOX (cutbox-rows.mjs): the forced cells as the released guide's own fill.sh prints them over the translation 5f08c17fcf33cf64… (all of the seat's roots in one cut). By AI agents, Wed Nov 11 2026. No macro, syntax, notation, axiom, sorry.
-/
import Derived.Test.YtiigecbglbfpcaaDoorChecked
import GoSem.PinnedTables
import GoSem.Claim
import GoSem.ClaimJoined
import GoSem.ClaimMapViews
import Derived.JoinedTies
import Derived.KernelRfl
namespace Go.Proofs.YtiigecbglbfpcaaDoor
/- THE CELL 'sum', in the pinned program and in every row, IS THE sha256 OF THE DUMP (.gsa) THAT YtiigecbglbfpcaaDoorProg.lean LOADS. Nothing in Lean hashes anything: it is a label: what it is worth is what the hold of that sum in a sandbox is worth. -/
noncomputable def Tryd.pinned : Pinned := { name := "ytiigecbglbfpcaadoor", sum := "5f08c17fcf33cf648844988368f5b4a9bea0b6795a9d446522760f421cfeef7d", checked := Tryd.checked }
namespace Rows
def none {H : Type} : Left H := { results := [], args := [] }

/- WHAT THE LISTED PACKAGE-LEVEL VARIABLES READ AS WHEN THE CALL BEGINS. Each datum BY PROGRAM (the guide's laid-datum.mjs) off the statement by which the dump's own 'gosem.cut.vars' lays the variable. In a bare row this is a premise. The card (YtiigecbglbfpcaaDoorCards.lean) ties it to the program's text. -/
def laid_unicode_utf8_acceptRanges {H : Type} : DataW H := .agg [.agg [.lit (.int .u8 128), .lit (.int .u8 191)], .agg [.lit (.int .u8 160), .lit (.int .u8 191)], .agg [.lit (.int .u8 128), .lit (.int .u8 159)], .agg [.lit (.int .u8 144), .lit (.int .u8 191)], .agg [.lit (.int .u8 128), .lit (.int .u8 143)], .agg [.lit (.int .u8 0), .lit (.int .u8 0)], .agg [.lit (.int .u8 0), .lit (.int .u8 0)], .agg [.lit (.int .u8 0), .lit (.int .u8 0)], .agg [.lit (.int .u8 0), .lit (.int .u8 0)], .agg [.lit (.int .u8 0), .lit (.int .u8 0)], .agg [.lit (.int .u8 0), .lit (.int .u8 0)], .agg [.lit (.int .u8 0), .lit (.int .u8 0)], .agg [.lit (.int .u8 0), .lit (.int .u8 0)], .agg [.lit (.int .u8 0), .lit (.int .u8 0)], .agg [.lit (.int .u8 0), .lit (.int .u8 0)], .agg [.lit (.int .u8 0), .lit (.int .u8 0)]]
/-- One of Go's own tables, pinned by name: the form's constant. -/
def laid_unicode_utf8_first : DataW Unit := Go.Pinned.utf8First

/-- 'laws.FnPathCanonical': WHATEVER THE INPUT: true; the input reads as it did. -/
def fnPathCanonicalSpec : ChangeSpec := { name := "fnPathCanonical", fn := fun _ => fun
  | [d] => { results := [.lit (.bool true)], args := [d] }
  | _ => none }
def fnPathCanonicalRow : OpenClaim := { program := "ytiigecbglbfpcaadoor", sum := "5f08c17fcf33cf648844988368f5b4a9bea0b6795a9d446522760f421cfeef7d", func := "loop.example/resourcestore/laws.FnPathCanonical", spec := "fnPathCanonical", inPlace := ["internal/bytealg.CountString", "internal/bytealg.IndexByteString", "internal/bytealg.IndexString", "internal/abi.NoEscape"], named := ["unicode/utf8.first", "unicode/utf8.acceptRanges", "internal/bytealg.MaxLen"], apart := false, laid := [("unicode/utf8.acceptRanges", laid_unicode_utf8_acceptRanges), ("unicode/utf8.first", laid_unicode_utf8_first)] }
def FnPathCanonicalSaid : Prop := fnPathCanonicalRow.holds Tryd.pinned (OpenSpec.ofChange fnPathCanonicalSpec)

/-- ITS FALSE NEIGHBOUR: 'it returns false'. Refute it at one input. -/
def fnPathCanonicalWrong : ChangeSpec := { name := "fnPathCanonical", fn := fun _ => fun
  | [d] => { results := [.lit (.bool false)], args := [d] }
  | _ => none }
def FnPathCanonicalWrongFalsely : Prop := fnPathCanonicalRow.holds Tryd.pinned (OpenSpec.ofChange fnPathCanonicalWrong)

/-- 'laws.FnPathSlash': WHATEVER THE INPUT: true; the input reads as it did. -/
def fnPathSlashSpec : ChangeSpec := { name := "fnPathSlash", fn := fun _ => fun
  | [d] => { results := [.lit (.bool true)], args := [d] }
  | _ => none }
def fnPathSlashRow : OpenClaim := { program := "ytiigecbglbfpcaadoor", sum := "5f08c17fcf33cf648844988368f5b4a9bea0b6795a9d446522760f421cfeef7d", func := "loop.example/resourcestore/laws.FnPathSlash", spec := "fnPathSlash", inPlace := ["internal/abi.NoEscape", "internal/bytealg.CountString", "internal/bytealg.IndexByteString", "internal/bytealg.IndexString"], named := ["unicode/utf8.first", "unicode/utf8.acceptRanges", "internal/bytealg.MaxLen"], apart := false, laid := [("unicode/utf8.acceptRanges", laid_unicode_utf8_acceptRanges), ("unicode/utf8.first", laid_unicode_utf8_first)] }
def FnPathSlashSaid : Prop := fnPathSlashRow.holds Tryd.pinned (OpenSpec.ofChange fnPathSlashSpec)

/-- ITS FALSE NEIGHBOUR: 'it returns false'. Refute it at one input. -/
def fnPathSlashWrong : ChangeSpec := { name := "fnPathSlash", fn := fun _ => fun
  | [d] => { results := [.lit (.bool false)], args := [d] }
  | _ => none }
def FnPathSlashWrongFalsely : Prop := fnPathSlashRow.holds Tryd.pinned (OpenSpec.ofChange fnPathSlashWrong)

/-- 'laws.FnExactParsePath': WHATEVER THE INPUT: true; the input reads as it did. -/
def fnExactParsePathSpec : ChangeSpec := { name := "fnExactParsePath", fn := fun _ => fun
  | [d] => { results := [.lit (.bool true)], args := [d] }
  | _ => none }
def fnExactParsePathRow : OpenClaim := { program := "ytiigecbglbfpcaadoor", sum := "5f08c17fcf33cf648844988368f5b4a9bea0b6795a9d446522760f421cfeef7d", func := "loop.example/resourcestore/laws.FnExactParsePath", spec := "fnExactParsePath", inPlace := ["internal/bytealg.CountString", "internal/bytealg.IndexByteString", "internal/bytealg.IndexString", "internal/abi.NoEscape"], named := ["unicode/utf8.first", "unicode/utf8.acceptRanges", "internal/bytealg.MaxLen"], apart := false, laid := [("unicode/utf8.acceptRanges", laid_unicode_utf8_acceptRanges), ("unicode/utf8.first", laid_unicode_utf8_first)] }
def FnExactParsePathSaid : Prop := fnExactParsePathRow.holds Tryd.pinned (OpenSpec.ofChange fnExactParsePathSpec)

/-- ITS FALSE NEIGHBOUR: 'it returns false'. Refute it at one input. -/
def fnExactParsePathWrong : ChangeSpec := { name := "fnExactParsePath", fn := fun _ => fun
  | [d] => { results := [.lit (.bool false)], args := [d] }
  | _ => none }
def FnExactParsePathWrongFalsely : Prop := fnExactParsePathRow.holds Tryd.pinned (OpenSpec.ofChange fnExactParsePathWrong)

/-- 'laws.FnPathRoundTrip': WHATEVER THE INPUT: true; the input reads as it did. -/
def fnPathRoundTripSpec : ChangeSpec := { name := "fnPathRoundTrip", fn := fun _ => fun
  | [d] => { results := [.lit (.bool true)], args := [d] }
  | _ => none }
def fnPathRoundTripRow : OpenClaim := { program := "ytiigecbglbfpcaadoor", sum := "5f08c17fcf33cf648844988368f5b4a9bea0b6795a9d446522760f421cfeef7d", func := "loop.example/resourcestore/laws.FnPathRoundTrip", spec := "fnPathRoundTrip", inPlace := ["internal/abi.NoEscape", "internal/bytealg.CountString", "internal/bytealg.IndexByteString", "internal/bytealg.IndexString"], named := ["unicode/utf8.first", "unicode/utf8.acceptRanges", "internal/bytealg.MaxLen"], apart := false, laid := [("unicode/utf8.acceptRanges", laid_unicode_utf8_acceptRanges), ("unicode/utf8.first", laid_unicode_utf8_first)] }
def FnPathRoundTripSaid : Prop := fnPathRoundTripRow.holds Tryd.pinned (OpenSpec.ofChange fnPathRoundTripSpec)

/-- ITS FALSE NEIGHBOUR: 'it returns false'. Refute it at one input. -/
def fnPathRoundTripWrong : ChangeSpec := { name := "fnPathRoundTrip", fn := fun _ => fun
  | [d] => { results := [.lit (.bool false)], args := [d] }
  | _ => none }
def FnPathRoundTripWrongFalsely : Prop := fnPathRoundTripRow.holds Tryd.pinned (OpenSpec.ofChange fnPathRoundTripWrong)

/- THE SECOND FORM. 'bulk': how many values and letters a reading holds, each counted each time it is reached (what is shared counts as often as it is met; a slice's spare places count too). A statement '..UptoSaid' is the law's where the arguments, and the package variables that the reading takes, are together of bulk at most 1048576: NARROWER than '..Said'. Prove '..Said' where nothing that the law and all that it calls make is longer than what came in: it says more and counts as full. Else prove '..UptoSaid'. A law counts once. -/
mutual
def uptoBulk {H : Type} : DataW H → Nat
  | .lit (.string bytes) => bytes.length + 1
  | .lit _ => 1
  | .nil => 1
  | .ptr d => uptoBulk d + 1
  | .slice elems spare => uptoBulkAll elems + uptoBulkAll spare + 1
  | .agg parts => uptoBulkAll parts + 1
  | .iface _ d => uptoBulk d + 1
  | .map entries => uptoBulkEntries entries + 1
  | .held _ => 1
def uptoBulkAll {H : Type} : List (DataW H) → Nat
  | [] => 0
  | d :: r => uptoBulk d + uptoBulkAll r
def uptoBulkEntries {H : Type} : List (Lit × DataW H) → Nat
  | [] => 0
  | x :: r => uptoBulkEntry x + uptoBulkEntries r
def uptoBulkEntry {H : Type} : Lit × DataW H → Nat
  | (.string bytes, d) => bytes.length + uptoBulk d + 1
  | (_, d) => uptoBulk d + 1
 end
def uptoSmall : (H : Type) → List (DataW H) → Bool := fun _ ds => decide (uptoBulkAll ds ≤ 1048576)
def OpenSpec.upto (s : _root_.Go.ChangeSpec) : _root_.Go.OpenSpec := { _root_.Go.OpenSpec.ofChange s with cond := some uptoSmall }

/-- 'laws.FnPathCanonical', WHERE WHAT IT READS IS OF BULK AT MOST 1048576: true; the input reads as it did. -/
def fnPathCanonicalUptoRow : OpenClaim := { program := "ytiigecbglbfpcaadoor", sum := "5f08c17fcf33cf648844988368f5b4a9bea0b6795a9d446522760f421cfeef7d", func := "loop.example/resourcestore/laws.FnPathCanonical", spec := "fnPathCanonical", inPlace := ["internal/bytealg.CountString", "internal/bytealg.IndexByteString", "internal/bytealg.IndexString", "internal/abi.NoEscape"], named := ["unicode/utf8.first", "unicode/utf8.acceptRanges", "internal/bytealg.MaxLen"], apart := false, laid := [("unicode/utf8.acceptRanges", laid_unicode_utf8_acceptRanges), ("unicode/utf8.first", laid_unicode_utf8_first)], narrowed := true }
def FnPathCanonicalUptoSaid : Prop := fnPathCanonicalUptoRow.holds Tryd.pinned (OpenSpec.upto fnPathCanonicalSpec)

/-- 'laws.FnPathSlash', WHERE WHAT IT READS IS OF BULK AT MOST 1048576: true; the input reads as it did. -/
def fnPathSlashUptoRow : OpenClaim := { program := "ytiigecbglbfpcaadoor", sum := "5f08c17fcf33cf648844988368f5b4a9bea0b6795a9d446522760f421cfeef7d", func := "loop.example/resourcestore/laws.FnPathSlash", spec := "fnPathSlash", inPlace := ["internal/abi.NoEscape", "internal/bytealg.CountString", "internal/bytealg.IndexByteString", "internal/bytealg.IndexString"], named := ["unicode/utf8.first", "unicode/utf8.acceptRanges", "internal/bytealg.MaxLen"], apart := false, laid := [("unicode/utf8.acceptRanges", laid_unicode_utf8_acceptRanges), ("unicode/utf8.first", laid_unicode_utf8_first)], narrowed := true }
def FnPathSlashUptoSaid : Prop := fnPathSlashUptoRow.holds Tryd.pinned (OpenSpec.upto fnPathSlashSpec)

/-- 'laws.FnExactParsePath', WHERE WHAT IT READS IS OF BULK AT MOST 1048576: true; the input reads as it did. -/
def fnExactParsePathUptoRow : OpenClaim := { program := "ytiigecbglbfpcaadoor", sum := "5f08c17fcf33cf648844988368f5b4a9bea0b6795a9d446522760f421cfeef7d", func := "loop.example/resourcestore/laws.FnExactParsePath", spec := "fnExactParsePath", inPlace := ["internal/bytealg.CountString", "internal/bytealg.IndexByteString", "internal/bytealg.IndexString", "internal/abi.NoEscape"], named := ["unicode/utf8.first", "unicode/utf8.acceptRanges", "internal/bytealg.MaxLen"], apart := false, laid := [("unicode/utf8.acceptRanges", laid_unicode_utf8_acceptRanges), ("unicode/utf8.first", laid_unicode_utf8_first)], narrowed := true }
def FnExactParsePathUptoSaid : Prop := fnExactParsePathUptoRow.holds Tryd.pinned (OpenSpec.upto fnExactParsePathSpec)

/-- 'laws.FnPathRoundTrip', WHERE WHAT IT READS IS OF BULK AT MOST 1048576: true; the input reads as it did. -/
def fnPathRoundTripUptoRow : OpenClaim := { program := "ytiigecbglbfpcaadoor", sum := "5f08c17fcf33cf648844988368f5b4a9bea0b6795a9d446522760f421cfeef7d", func := "loop.example/resourcestore/laws.FnPathRoundTrip", spec := "fnPathRoundTrip", inPlace := ["internal/abi.NoEscape", "internal/bytealg.CountString", "internal/bytealg.IndexByteString", "internal/bytealg.IndexString"], named := ["unicode/utf8.first", "unicode/utf8.acceptRanges", "internal/bytealg.MaxLen"], apart := false, laid := [("unicode/utf8.acceptRanges", laid_unicode_utf8_acceptRanges), ("unicode/utf8.first", laid_unicode_utf8_first)], narrowed := true }
def FnPathRoundTripUptoSaid : Prop := fnPathRoundTripUptoRow.holds Tryd.pinned (OpenSpec.upto fnPathRoundTripSpec)

end Rows
end Go.Proofs.YtiigecbglbfpcaaDoor
