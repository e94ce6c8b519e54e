/-
  No cell of these rows narrows 'for every input' (looked for: loops, veiled, ifaces, maps, wideKeys, modest, calm, conditions, laid).
  DERIVED. THE GIVEN ROWS OF THIS SEAT. 7 by the template 'for every input the law returns true; each argument reads behind the call as it read before'; 0 by the template 'total and deterministic' (their statements: YtpofoikpmafnbaaTotals.lean).
  GIVEN WITH THE SEED: the statements are not yours to turn. If you find one false, say at which input.
  Laid BY PROGRAM, IN A SANDBOX (cutbox-rows.mjs): the forced cells as the released guide's own fill.sh prints them over the translation 28c6eb0201ef54ee… (all of the seat's roots in one cut). By AI agents, Wed Nov 11 2026. No macro, syntax, notation, axiom, sorry.
-/
import Derived.Test.YtpofoikpmafnbaaChecked
import GoSem.Claim
import GoSem.ClaimJoined
import GoSem.ClaimMapViews
import Derived.JoinedTies
import Derived.KernelRfl
namespace Go.Proofs.Ytpofoikpmafnbaa
/- THE CELL 'sum', in the pinned program and in every row, IS THE sha256 OF THE DUMP (.gsa) THAT YtpofoikpmafnbaaProg.lean LOADS. Nothing in Lean hashes anything: it is a label: what it is worth is what the hold of that sum in a sandbox is worth. -/
noncomputable def Try.pinned : Pinned := { name := "ytpofoikpmafnbaa", sum := "28c6eb0201ef54ee97a01a34ae117df3f4fdf51fb80d13edb891de5dffe7224b", checked := Try.checked }
namespace Rows
def none {H : Type} : Left H := { results := [], args := [] }

/-- 'laws.FnExactCheckTags': WHATEVER THE INPUT: true; the input reads as it did. -/
def fnExactCheckTagsSpec : ChangeSpec := { name := "fnExactCheckTags", fn := fun _ => fun
  | [d1, d2, d3, d4] => { results := [.lit (.bool true)], args := [d1, d2, d3, d4] }
  | _ => none }
def fnExactCheckTagsRow : OpenClaim := { program := "ytpofoikpmafnbaa", sum := "28c6eb0201ef54ee97a01a34ae117df3f4fdf51fb80d13edb891de5dffe7224b", func := "loop.example/resourcestore/laws.FnExactCheckTags", spec := "fnExactCheckTags", inPlace := ["internal/bytealg.IndexByteString"], apart := false }
def FnExactCheckTagsSaid : Prop := fnExactCheckTagsRow.holds Try.pinned (OpenSpec.ofChange fnExactCheckTagsSpec)

/-- ITS FALSE NEIGHBOUR: 'it returns false'. Refute it at one input. -/
def fnExactCheckTagsWrong : ChangeSpec := { name := "fnExactCheckTags", fn := fun _ => fun
  | [d1, d2, d3, d4] => { results := [.lit (.bool false)], args := [d1, d2, d3, d4] }
  | _ => none }
def FnExactCheckTagsWrongFalsely : Prop := fnExactCheckTagsRow.holds Try.pinned (OpenSpec.ofChange fnExactCheckTagsWrong)

/-- 'laws.FnCheckTags': WHATEVER THE INPUT: true; the input reads as it did. -/
def fnCheckTagsSpec : ChangeSpec := { name := "fnCheckTags", fn := fun _ => fun
  | [d] => { results := [.lit (.bool true)], args := [d] }
  | _ => none }
def fnCheckTagsRow : OpenClaim := { program := "ytpofoikpmafnbaa", sum := "28c6eb0201ef54ee97a01a34ae117df3f4fdf51fb80d13edb891de5dffe7224b", func := "loop.example/resourcestore/laws.FnCheckTags", spec := "fnCheckTags", inPlace := ["internal/bytealg.IndexByteString"], apart := false }
def FnCheckTagsSaid : Prop := fnCheckTagsRow.holds Try.pinned (OpenSpec.ofChange fnCheckTagsSpec)

/-- ITS FALSE NEIGHBOUR: 'it returns false'. Refute it at one input. -/
def fnCheckTagsWrong : ChangeSpec := { name := "fnCheckTags", fn := fun _ => fun
  | [d] => { results := [.lit (.bool false)], args := [d] }
  | _ => none }
def FnCheckTagsWrongFalsely : Prop := fnCheckTagsRow.holds Try.pinned (OpenSpec.ofChange fnCheckTagsWrong)

/-- 'laws.FnCheckTagsAll': WHATEVER THE INPUT: true; the input reads as it did. -/
def fnCheckTagsAllSpec : ChangeSpec := { name := "fnCheckTagsAll", fn := fun _ => fun
  | [d] => { results := [.lit (.bool true)], args := [d] }
  | _ => none }
def fnCheckTagsAllRow : OpenClaim := { program := "ytpofoikpmafnbaa", sum := "28c6eb0201ef54ee97a01a34ae117df3f4fdf51fb80d13edb891de5dffe7224b", func := "loop.example/resourcestore/laws.FnCheckTagsAll", spec := "fnCheckTagsAll", inPlace := ["internal/bytealg.IndexByteString"], apart := false }
def FnCheckTagsAllSaid : Prop := fnCheckTagsAllRow.holds Try.pinned (OpenSpec.ofChange fnCheckTagsAllSpec)

/-- ITS FALSE NEIGHBOUR: 'it returns false'. Refute it at one input. -/
def fnCheckTagsAllWrong : ChangeSpec := { name := "fnCheckTagsAll", fn := fun _ => fun
  | [d] => { results := [.lit (.bool false)], args := [d] }
  | _ => none }
def FnCheckTagsAllWrongFalsely : Prop := fnCheckTagsAllRow.holds Try.pinned (OpenSpec.ofChange fnCheckTagsAllWrong)

/-- 'laws.FnCheckTagsReads': WHATEVER THE INPUT: true; the input reads as it did. -/
def fnCheckTagsReadsSpec : ChangeSpec := { name := "fnCheckTagsReads", fn := fun _ => fun
  | [d] => { results := [.lit (.bool true)], args := [d] }
  | _ => none }
def fnCheckTagsReadsRow : OpenClaim := { program := "ytpofoikpmafnbaa", sum := "28c6eb0201ef54ee97a01a34ae117df3f4fdf51fb80d13edb891de5dffe7224b", func := "loop.example/resourcestore/laws.FnCheckTagsReads", spec := "fnCheckTagsReads", inPlace := ["internal/bytealg.IndexByteString"], apart := false }
def FnCheckTagsReadsSaid : Prop := fnCheckTagsReadsRow.holds Try.pinned (OpenSpec.ofChange fnCheckTagsReadsSpec)

/-- ITS FALSE NEIGHBOUR: 'it returns false'. Refute it at one input. -/
def fnCheckTagsReadsWrong : ChangeSpec := { name := "fnCheckTagsReads", fn := fun _ => fun
  | [d] => { results := [.lit (.bool false)], args := [d] }
  | _ => none }
def FnCheckTagsReadsWrongFalsely : Prop := fnCheckTagsReadsRow.holds Try.pinned (OpenSpec.ofChange fnCheckTagsReadsWrong)

/-- 'laws.FnCheckTagsWant': WHATEVER THE INPUT: true; the input reads as it did. -/
def fnCheckTagsWantSpec : ChangeSpec := { name := "fnCheckTagsWant", fn := fun _ => fun
  | [d] => { results := [.lit (.bool true)], args := [d] }
  | _ => none }
def fnCheckTagsWantRow : OpenClaim := { program := "ytpofoikpmafnbaa", sum := "28c6eb0201ef54ee97a01a34ae117df3f4fdf51fb80d13edb891de5dffe7224b", func := "loop.example/resourcestore/laws.FnCheckTagsWant", spec := "fnCheckTagsWant", inPlace := ["internal/bytealg.IndexByteString"], apart := false }
def FnCheckTagsWantSaid : Prop := fnCheckTagsWantRow.holds Try.pinned (OpenSpec.ofChange fnCheckTagsWantSpec)

/-- ITS FALSE NEIGHBOUR: 'it returns false'. Refute it at one input. -/
def fnCheckTagsWantWrong : ChangeSpec := { name := "fnCheckTagsWant", fn := fun _ => fun
  | [d] => { results := [.lit (.bool false)], args := [d] }
  | _ => none }
def FnCheckTagsWantWrongFalsely : Prop := fnCheckTagsWantRow.holds Try.pinned (OpenSpec.ofChange fnCheckTagsWantWrong)

/-- 'laws.FnExactFormatTags': WHATEVER THE INPUT: true; the input reads as it did. -/
def fnExactFormatTagsSpec : ChangeSpec := { name := "fnExactFormatTags", fn := fun _ => fun
  | [d] => { results := [.lit (.bool true)], args := [d] }
  | _ => none }
def fnExactFormatTagsRow : OpenClaim := { program := "ytpofoikpmafnbaa", sum := "28c6eb0201ef54ee97a01a34ae117df3f4fdf51fb80d13edb891de5dffe7224b", func := "loop.example/resourcestore/laws.FnExactFormatTags", spec := "fnExactFormatTags", inPlace := ["internal/bytealg.IndexByteString", "internal/abi.NoEscape"], apart := false }
def FnExactFormatTagsSaid : Prop := fnExactFormatTagsRow.holds Try.pinned (OpenSpec.ofChange fnExactFormatTagsSpec)

/-- ITS FALSE NEIGHBOUR: 'it returns false'. Refute it at one input. -/
def fnExactFormatTagsWrong : ChangeSpec := { name := "fnExactFormatTags", fn := fun _ => fun
  | [d] => { results := [.lit (.bool false)], args := [d] }
  | _ => none }
def FnExactFormatTagsWrongFalsely : Prop := fnExactFormatTagsRow.holds Try.pinned (OpenSpec.ofChange fnExactFormatTagsWrong)

/-- 'laws.FnFormatTagsOne': WHATEVER THE INPUT: true; the input reads as it did. -/
def fnFormatTagsOneSpec : ChangeSpec := { name := "fnFormatTagsOne", fn := fun _ => fun
  | [d] => { results := [.lit (.bool true)], args := [d] }
  | _ => none }
def fnFormatTagsOneRow : OpenClaim := { program := "ytpofoikpmafnbaa", sum := "28c6eb0201ef54ee97a01a34ae117df3f4fdf51fb80d13edb891de5dffe7224b", func := "loop.example/resourcestore/laws.FnFormatTagsOne", spec := "fnFormatTagsOne", inPlace := ["internal/bytealg.IndexByteString", "internal/abi.NoEscape"], apart := false }
def FnFormatTagsOneSaid : Prop := fnFormatTagsOneRow.holds Try.pinned (OpenSpec.ofChange fnFormatTagsOneSpec)

/-- ITS FALSE NEIGHBOUR: 'it returns false'. Refute it at one input. -/
def fnFormatTagsOneWrong : ChangeSpec := { name := "fnFormatTagsOne", fn := fun _ => fun
  | [d] => { results := [.lit (.bool false)], args := [d] }
  | _ => none }
def FnFormatTagsOneWrongFalsely : Prop := fnFormatTagsOneRow.holds Try.pinned (OpenSpec.ofChange fnFormatTagsOneWrong)

/- THE SECOND FORM. 'bulk': how many values and letters a reading holds, each counted each time it is reached (what is shared counts as often as it is met; a slice's spare places count too). A statement '..UptoSaid' is the law's where the arguments, and the package variables that the reading takes, are together of bulk at most 1048576: NARROWER than '..Said'. Prove '..Said' where nothing that the law and all that it calls make is longer than what came in: it says more and counts as full. Else prove '..UptoSaid'. A law counts once. -/
mutual
def uptoBulk {H : Type} : DataW H → Nat
  | .lit (.string bytes) => bytes.length + 1
  | .lit _ => 1
  | .nil => 1
  | .ptr d => uptoBulk d + 1
  | .slice elems spare => uptoBulkAll elems + uptoBulkAll spare + 1
  | .agg parts => uptoBulkAll parts + 1
  | .iface _ d => uptoBulk d + 1
  | .map entries => uptoBulkEntries entries + 1
  | .held _ => 1
def uptoBulkAll {H : Type} : List (DataW H) → Nat
  | [] => 0
  | d :: r => uptoBulk d + uptoBulkAll r
def uptoBulkEntries {H : Type} : List (Lit × DataW H) → Nat
  | [] => 0
  | x :: r => uptoBulkEntry x + uptoBulkEntries r
def uptoBulkEntry {H : Type} : Lit × DataW H → Nat
  | (.string bytes, d) => bytes.length + uptoBulk d + 1
  | (_, d) => uptoBulk d + 1
 end
def uptoSmall : (H : Type) → List (DataW H) → Bool := fun _ ds => decide (uptoBulkAll ds ≤ 1048576)
def OpenSpec.upto (s : _root_.Go.ChangeSpec) : _root_.Go.OpenSpec := { _root_.Go.OpenSpec.ofChange s with cond := some uptoSmall }

/-- 'laws.FnExactCheckTags', WHERE WHAT IT READS IS OF BULK AT MOST 1048576: true; the input reads as it did. -/
def fnExactCheckTagsUptoRow : OpenClaim := { program := "ytpofoikpmafnbaa", sum := "28c6eb0201ef54ee97a01a34ae117df3f4fdf51fb80d13edb891de5dffe7224b", func := "loop.example/resourcestore/laws.FnExactCheckTags", spec := "fnExactCheckTags", inPlace := ["internal/bytealg.IndexByteString"], apart := false, narrowed := true }
def FnExactCheckTagsUptoSaid : Prop := fnExactCheckTagsUptoRow.holds Try.pinned (OpenSpec.upto fnExactCheckTagsSpec)

/-- 'laws.FnCheckTags', WHERE WHAT IT READS IS OF BULK AT MOST 1048576: true; the input reads as it did. -/
def fnCheckTagsUptoRow : OpenClaim := { program := "ytpofoikpmafnbaa", sum := "28c6eb0201ef54ee97a01a34ae117df3f4fdf51fb80d13edb891de5dffe7224b", func := "loop.example/resourcestore/laws.FnCheckTags", spec := "fnCheckTags", inPlace := ["internal/bytealg.IndexByteString"], apart := false, narrowed := true }
def FnCheckTagsUptoSaid : Prop := fnCheckTagsUptoRow.holds Try.pinned (OpenSpec.upto fnCheckTagsSpec)

/-- 'laws.FnCheckTagsAll', WHERE WHAT IT READS IS OF BULK AT MOST 1048576: true; the input reads as it did. -/
def fnCheckTagsAllUptoRow : OpenClaim := { program := "ytpofoikpmafnbaa", sum := "28c6eb0201ef54ee97a01a34ae117df3f4fdf51fb80d13edb891de5dffe7224b", func := "loop.example/resourcestore/laws.FnCheckTagsAll", spec := "fnCheckTagsAll", inPlace := ["internal/bytealg.IndexByteString"], apart := false, narrowed := true }
def FnCheckTagsAllUptoSaid : Prop := fnCheckTagsAllUptoRow.holds Try.pinned (OpenSpec.upto fnCheckTagsAllSpec)

/-- 'laws.FnCheckTagsReads', WHERE WHAT IT READS IS OF BULK AT MOST 1048576: true; the input reads as it did. -/
def fnCheckTagsReadsUptoRow : OpenClaim := { program := "ytpofoikpmafnbaa", sum := "28c6eb0201ef54ee97a01a34ae117df3f4fdf51fb80d13edb891de5dffe7224b", func := "loop.example/resourcestore/laws.FnCheckTagsReads", spec := "fnCheckTagsReads", inPlace := ["internal/bytealg.IndexByteString"], apart := false, narrowed := true }
def FnCheckTagsReadsUptoSaid : Prop := fnCheckTagsReadsUptoRow.holds Try.pinned (OpenSpec.upto fnCheckTagsReadsSpec)

/-- 'laws.FnCheckTagsWant', WHERE WHAT IT READS IS OF BULK AT MOST 1048576: true; the input reads as it did. -/
def fnCheckTagsWantUptoRow : OpenClaim := { program := "ytpofoikpmafnbaa", sum := "28c6eb0201ef54ee97a01a34ae117df3f4fdf51fb80d13edb891de5dffe7224b", func := "loop.example/resourcestore/laws.FnCheckTagsWant", spec := "fnCheckTagsWant", inPlace := ["internal/bytealg.IndexByteString"], apart := false, narrowed := true }
def FnCheckTagsWantUptoSaid : Prop := fnCheckTagsWantUptoRow.holds Try.pinned (OpenSpec.upto fnCheckTagsWantSpec)

/-- 'laws.FnExactFormatTags', WHERE WHAT IT READS IS OF BULK AT MOST 1048576: true; the input reads as it did. -/
def fnExactFormatTagsUptoRow : OpenClaim := { program := "ytpofoikpmafnbaa", sum := "28c6eb0201ef54ee97a01a34ae117df3f4fdf51fb80d13edb891de5dffe7224b", func := "loop.example/resourcestore/laws.FnExactFormatTags", spec := "fnExactFormatTags", inPlace := ["internal/bytealg.IndexByteString", "internal/abi.NoEscape"], apart := false, narrowed := true }
def FnExactFormatTagsUptoSaid : Prop := fnExactFormatTagsUptoRow.holds Try.pinned (OpenSpec.upto fnExactFormatTagsSpec)

/-- 'laws.FnFormatTagsOne', WHERE WHAT IT READS IS OF BULK AT MOST 1048576: true; the input reads as it did. -/
def fnFormatTagsOneUptoRow : OpenClaim := { program := "ytpofoikpmafnbaa", sum := "28c6eb0201ef54ee97a01a34ae117df3f4fdf51fb80d13edb891de5dffe7224b", func := "loop.example/resourcestore/laws.FnFormatTagsOne", spec := "fnFormatTagsOne", inPlace := ["internal/bytealg.IndexByteString", "internal/abi.NoEscape"], apart := false, narrowed := true }
def FnFormatTagsOneUptoSaid : Prop := fnFormatTagsOneUptoRow.holds Try.pinned (OpenSpec.upto fnFormatTagsOneSpec)

end Rows
end Go.Proofs.Ytpofoikpmafnbaa
