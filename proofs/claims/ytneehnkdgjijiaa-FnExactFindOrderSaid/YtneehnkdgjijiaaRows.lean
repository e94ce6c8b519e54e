/-
  No cell of these rows narrows 'for every input' (looked for: loops, veiled, ifaces, maps, wideKeys, modest, calm, conditions, laid).
  DERIVED. THE GIVEN ROWS OF THIS SEAT. 8 by the template 'for every input the law returns true; each argument reads behind the call as it read before'; 0 by the template 'total and deterministic' (their statements: YtneehnkdgjijiaaTotals.lean).
  GIVEN WITH THE SEED: the statements are not yours to turn. If you find one false, say at which input.
  Laid BY PROGRAM, IN A SANDBOX (cutbox-rows.mjs): the forced cells as the released guide's own fill.sh prints them over the translation be6674aefba87006… (all of the seat's roots in one cut). By AI agents, Wed Nov 11 2026. No macro, syntax, notation, axiom, sorry.
-/
import Derived.Test.YtneehnkdgjijiaaChecked
import GoSem.Claim
import GoSem.ClaimJoined
import GoSem.ClaimMapViews
import Derived.JoinedTies
import Derived.KernelRfl
namespace Go.Proofs.Ytneehnkdgjijiaa
/- THE CELL 'sum', in the pinned program and in every row, IS THE sha256 OF THE DUMP (.gsa) THAT YtneehnkdgjijiaaProg.lean LOADS. Nothing in Lean hashes anything: it is a label: what it is worth is what the hold of that sum in a sandbox is worth. -/
noncomputable def Try.pinned : Pinned := { name := "ytneehnkdgjijiaa", sum := "be6674aefba8700615ca8702b0e53f66562de8cb1e5f0c5567f0f04e3d7048e0", checked := Try.checked }
namespace Rows
def none {H : Type} : Left H := { results := [], args := [] }

/-- 'laws.FnFindOrderReads': WHATEVER THE INPUT: true; the input reads as it did. -/
def fnFindOrderReadsSpec : ChangeSpec := { name := "fnFindOrderReads", fn := fun _ => fun
  | [d] => { results := [.lit (.bool true)], args := [d] }
  | _ => none }
def fnFindOrderReadsRow : OpenClaim := { program := "ytneehnkdgjijiaa", sum := "be6674aefba8700615ca8702b0e53f66562de8cb1e5f0c5567f0f04e3d7048e0", func := "loop.example/resourcestore/laws.FnFindOrderReads", spec := "fnFindOrderReads", recurses := true, apart := false }
def FnFindOrderReadsSaid : Prop := fnFindOrderReadsRow.holds Try.pinned (OpenSpec.ofChange fnFindOrderReadsSpec)

/-- ITS FALSE NEIGHBOUR: 'it returns false'. Refute it at one input. -/
def fnFindOrderReadsWrong : ChangeSpec := { name := "fnFindOrderReads", fn := fun _ => fun
  | [d] => { results := [.lit (.bool false)], args := [d] }
  | _ => none }
def FnFindOrderReadsWrongFalsely : Prop := fnFindOrderReadsRow.holds Try.pinned (OpenSpec.ofChange fnFindOrderReadsWrong)

/-- 'laws.FnFindOrderShift': WHATEVER THE INPUT: true; the input reads as it did. -/
def fnFindOrderShiftSpec : ChangeSpec := { name := "fnFindOrderShift", fn := fun _ => fun
  | [d] => { results := [.lit (.bool true)], args := [d] }
  | _ => none }
def fnFindOrderShiftRow : OpenClaim := { program := "ytneehnkdgjijiaa", sum := "be6674aefba8700615ca8702b0e53f66562de8cb1e5f0c5567f0f04e3d7048e0", func := "loop.example/resourcestore/laws.FnFindOrderShift", spec := "fnFindOrderShift", recurses := true, apart := false }
def FnFindOrderShiftSaid : Prop := fnFindOrderShiftRow.holds Try.pinned (OpenSpec.ofChange fnFindOrderShiftSpec)

/-- ITS FALSE NEIGHBOUR: 'it returns false'. Refute it at one input. -/
def fnFindOrderShiftWrong : ChangeSpec := { name := "fnFindOrderShift", fn := fun _ => fun
  | [d] => { results := [.lit (.bool false)], args := [d] }
  | _ => none }
def FnFindOrderShiftWrongFalsely : Prop := fnFindOrderShiftRow.holds Try.pinned (OpenSpec.ofChange fnFindOrderShiftWrong)

/-- 'laws.FnFindOrderWrites': WHATEVER THE INPUT: true; the input reads as it did. -/
def fnFindOrderWritesSpec : ChangeSpec := { name := "fnFindOrderWrites", fn := fun _ => fun
  | [d] => { results := [.lit (.bool true)], args := [d] }
  | _ => none }
def fnFindOrderWritesRow : OpenClaim := { program := "ytneehnkdgjijiaa", sum := "be6674aefba8700615ca8702b0e53f66562de8cb1e5f0c5567f0f04e3d7048e0", func := "loop.example/resourcestore/laws.FnFindOrderWrites", spec := "fnFindOrderWrites", recurses := true, apart := false }
def FnFindOrderWritesSaid : Prop := fnFindOrderWritesRow.holds Try.pinned (OpenSpec.ofChange fnFindOrderWritesSpec)

/-- ITS FALSE NEIGHBOUR: 'it returns false'. Refute it at one input. -/
def fnFindOrderWritesWrong : ChangeSpec := { name := "fnFindOrderWrites", fn := fun _ => fun
  | [d] => { results := [.lit (.bool false)], args := [d] }
  | _ => none }
def FnFindOrderWritesWrongFalsely : Prop := fnFindOrderWritesRow.holds Try.pinned (OpenSpec.ofChange fnFindOrderWritesWrong)

/-- 'laws.FnExactCheckOrder': WHATEVER THE INPUT: true; the input reads as it did. -/
def fnExactCheckOrderSpec : ChangeSpec := { name := "fnExactCheckOrder", fn := fun _ => fun
  | [d1, d2] => { results := [.lit (.bool true)], args := [d1, d2] }
  | _ => none }
def fnExactCheckOrderRow : OpenClaim := { program := "ytneehnkdgjijiaa", sum := "be6674aefba8700615ca8702b0e53f66562de8cb1e5f0c5567f0f04e3d7048e0", func := "loop.example/resourcestore/laws.FnExactCheckOrder", spec := "fnExactCheckOrder", apart := false }
def FnExactCheckOrderSaid : Prop := fnExactCheckOrderRow.holds Try.pinned (OpenSpec.ofChange fnExactCheckOrderSpec)

/-- ITS FALSE NEIGHBOUR: 'it returns false'. Refute it at one input. -/
def fnExactCheckOrderWrong : ChangeSpec := { name := "fnExactCheckOrder", fn := fun _ => fun
  | [d1, d2] => { results := [.lit (.bool false)], args := [d1, d2] }
  | _ => none }
def FnExactCheckOrderWrongFalsely : Prop := fnExactCheckOrderRow.holds Try.pinned (OpenSpec.ofChange fnExactCheckOrderWrong)

/-- 'laws.FnCheckOrderTimes': WHATEVER THE INPUT: true; the input reads as it did. -/
def fnCheckOrderTimesSpec : ChangeSpec := { name := "fnCheckOrderTimes", fn := fun _ => fun
  | [d] => { results := [.lit (.bool true)], args := [d] }
  | _ => none }
def fnCheckOrderTimesRow : OpenClaim := { program := "ytneehnkdgjijiaa", sum := "be6674aefba8700615ca8702b0e53f66562de8cb1e5f0c5567f0f04e3d7048e0", func := "loop.example/resourcestore/laws.FnCheckOrderTimes", spec := "fnCheckOrderTimes", recurses := true, apart := false }
def FnCheckOrderTimesSaid : Prop := fnCheckOrderTimesRow.holds Try.pinned (OpenSpec.ofChange fnCheckOrderTimesSpec)

/-- ITS FALSE NEIGHBOUR: 'it returns false'. Refute it at one input. -/
def fnCheckOrderTimesWrong : ChangeSpec := { name := "fnCheckOrderTimes", fn := fun _ => fun
  | [d] => { results := [.lit (.bool false)], args := [d] }
  | _ => none }
def FnCheckOrderTimesWrongFalsely : Prop := fnCheckOrderTimesRow.holds Try.pinned (OpenSpec.ofChange fnCheckOrderTimesWrong)

/-- 'laws.FnFindOrder': WHATEVER THE INPUT: true; the input reads as it did. -/
def fnFindOrderSpec : ChangeSpec := { name := "fnFindOrder", fn := fun _ => fun
  | [d] => { results := [.lit (.bool true)], args := [d] }
  | _ => none }
def fnFindOrderRow : OpenClaim := { program := "ytneehnkdgjijiaa", sum := "be6674aefba8700615ca8702b0e53f66562de8cb1e5f0c5567f0f04e3d7048e0", func := "loop.example/resourcestore/laws.FnFindOrder", spec := "fnFindOrder", recurses := true, apart := false }
def FnFindOrderSaid : Prop := fnFindOrderRow.holds Try.pinned (OpenSpec.ofChange fnFindOrderSpec)

/-- ITS FALSE NEIGHBOUR: 'it returns false'. Refute it at one input. -/
def fnFindOrderWrong : ChangeSpec := { name := "fnFindOrder", fn := fun _ => fun
  | [d] => { results := [.lit (.bool false)], args := [d] }
  | _ => none }
def FnFindOrderWrongFalsely : Prop := fnFindOrderRow.holds Try.pinned (OpenSpec.ofChange fnFindOrderWrong)

/-- 'laws.FnExactFindOrder': WHATEVER THE INPUT: true; the input reads as it did. -/
def fnExactFindOrderSpec : ChangeSpec := { name := "fnExactFindOrder", fn := fun _ => fun
  | [d] => { results := [.lit (.bool true)], args := [d] }
  | _ => none }
def fnExactFindOrderRow : OpenClaim := { program := "ytneehnkdgjijiaa", sum := "be6674aefba8700615ca8702b0e53f66562de8cb1e5f0c5567f0f04e3d7048e0", func := "loop.example/resourcestore/laws.FnExactFindOrder", spec := "fnExactFindOrder", recurses := true, apart := false }
def FnExactFindOrderSaid : Prop := fnExactFindOrderRow.holds Try.pinned (OpenSpec.ofChange fnExactFindOrderSpec)

/-- ITS FALSE NEIGHBOUR: 'it returns false'. Refute it at one input. -/
def fnExactFindOrderWrong : ChangeSpec := { name := "fnExactFindOrder", fn := fun _ => fun
  | [d] => { results := [.lit (.bool false)], args := [d] }
  | _ => none }
def FnExactFindOrderWrongFalsely : Prop := fnExactFindOrderRow.holds Try.pinned (OpenSpec.ofChange fnExactFindOrderWrong)

/-- 'laws.FnCheckOrder': WHATEVER THE INPUT: true; the input reads as it did. -/
def fnCheckOrderSpec : ChangeSpec := { name := "fnCheckOrder", fn := fun _ => fun
  | [d] => { results := [.lit (.bool true)], args := [d] }
  | _ => none }
def fnCheckOrderRow : OpenClaim := { program := "ytneehnkdgjijiaa", sum := "be6674aefba8700615ca8702b0e53f66562de8cb1e5f0c5567f0f04e3d7048e0", func := "loop.example/resourcestore/laws.FnCheckOrder", spec := "fnCheckOrder", recurses := true, apart := false }
def FnCheckOrderSaid : Prop := fnCheckOrderRow.holds Try.pinned (OpenSpec.ofChange fnCheckOrderSpec)

/-- ITS FALSE NEIGHBOUR: 'it returns false'. Refute it at one input. -/
def fnCheckOrderWrong : ChangeSpec := { name := "fnCheckOrder", fn := fun _ => fun
  | [d] => { results := [.lit (.bool false)], args := [d] }
  | _ => none }
def FnCheckOrderWrongFalsely : Prop := fnCheckOrderRow.holds Try.pinned (OpenSpec.ofChange fnCheckOrderWrong)

/- THE SECOND FORM. 'bulk': how many values and letters a reading holds, each counted each time it is reached (what is shared counts as often as it is met; a slice's spare places count too). A statement '..UptoSaid' is the law's where the arguments, and the package variables that the reading takes, are together of bulk at most 1048576: NARROWER than '..Said'. Prove '..Said' where nothing that the law and all that it calls make is longer than what came in: it says more and counts as full. Else prove '..UptoSaid'. A law counts once. -/
mutual
def uptoBulk {H : Type} : DataW H → Nat
  | .lit (.string bytes) => bytes.length + 1
  | .lit _ => 1
  | .nil => 1
  | .ptr d => uptoBulk d + 1
  | .slice elems spare => uptoBulkAll elems + uptoBulkAll spare + 1
  | .agg parts => uptoBulkAll parts + 1
  | .iface _ d => uptoBulk d + 1
  | .map entries => uptoBulkEntries entries + 1
  | .held _ => 1
def uptoBulkAll {H : Type} : List (DataW H) → Nat
  | [] => 0
  | d :: r => uptoBulk d + uptoBulkAll r
def uptoBulkEntries {H : Type} : List (Lit × DataW H) → Nat
  | [] => 0
  | x :: r => uptoBulkEntry x + uptoBulkEntries r
def uptoBulkEntry {H : Type} : Lit × DataW H → Nat
  | (.string bytes, d) => bytes.length + uptoBulk d + 1
  | (_, d) => uptoBulk d + 1
 end
def uptoSmall : (H : Type) → List (DataW H) → Bool := fun _ ds => decide (uptoBulkAll ds ≤ 1048576)
def OpenSpec.upto (s : _root_.Go.ChangeSpec) : _root_.Go.OpenSpec := { _root_.Go.OpenSpec.ofChange s with cond := some uptoSmall }

/-- 'laws.FnFindOrderReads', WHERE WHAT IT READS IS OF BULK AT MOST 1048576: true; the input reads as it did. -/
def fnFindOrderReadsUptoRow : OpenClaim := { program := "ytneehnkdgjijiaa", sum := "be6674aefba8700615ca8702b0e53f66562de8cb1e5f0c5567f0f04e3d7048e0", func := "loop.example/resourcestore/laws.FnFindOrderReads", spec := "fnFindOrderReads", recurses := true, apart := false, narrowed := true }
def FnFindOrderReadsUptoSaid : Prop := fnFindOrderReadsUptoRow.holds Try.pinned (OpenSpec.upto fnFindOrderReadsSpec)

/-- 'laws.FnFindOrderShift', WHERE WHAT IT READS IS OF BULK AT MOST 1048576: true; the input reads as it did. -/
def fnFindOrderShiftUptoRow : OpenClaim := { program := "ytneehnkdgjijiaa", sum := "be6674aefba8700615ca8702b0e53f66562de8cb1e5f0c5567f0f04e3d7048e0", func := "loop.example/resourcestore/laws.FnFindOrderShift", spec := "fnFindOrderShift", recurses := true, apart := false, narrowed := true }
def FnFindOrderShiftUptoSaid : Prop := fnFindOrderShiftUptoRow.holds Try.pinned (OpenSpec.upto fnFindOrderShiftSpec)

/-- 'laws.FnFindOrderWrites', WHERE WHAT IT READS IS OF BULK AT MOST 1048576: true; the input reads as it did. -/
def fnFindOrderWritesUptoRow : OpenClaim := { program := "ytneehnkdgjijiaa", sum := "be6674aefba8700615ca8702b0e53f66562de8cb1e5f0c5567f0f04e3d7048e0", func := "loop.example/resourcestore/laws.FnFindOrderWrites", spec := "fnFindOrderWrites", recurses := true, apart := false, narrowed := true }
def FnFindOrderWritesUptoSaid : Prop := fnFindOrderWritesUptoRow.holds Try.pinned (OpenSpec.upto fnFindOrderWritesSpec)

/-- 'laws.FnExactCheckOrder', WHERE WHAT IT READS IS OF BULK AT MOST 1048576: true; the input reads as it did. -/
def fnExactCheckOrderUptoRow : OpenClaim := { program := "ytneehnkdgjijiaa", sum := "be6674aefba8700615ca8702b0e53f66562de8cb1e5f0c5567f0f04e3d7048e0", func := "loop.example/resourcestore/laws.FnExactCheckOrder", spec := "fnExactCheckOrder", apart := false, narrowed := true }
def FnExactCheckOrderUptoSaid : Prop := fnExactCheckOrderUptoRow.holds Try.pinned (OpenSpec.upto fnExactCheckOrderSpec)

/-- 'laws.FnCheckOrderTimes', WHERE WHAT IT READS IS OF BULK AT MOST 1048576: true; the input reads as it did. -/
def fnCheckOrderTimesUptoRow : OpenClaim := { program := "ytneehnkdgjijiaa", sum := "be6674aefba8700615ca8702b0e53f66562de8cb1e5f0c5567f0f04e3d7048e0", func := "loop.example/resourcestore/laws.FnCheckOrderTimes", spec := "fnCheckOrderTimes", recurses := true, apart := false, narrowed := true }
def FnCheckOrderTimesUptoSaid : Prop := fnCheckOrderTimesUptoRow.holds Try.pinned (OpenSpec.upto fnCheckOrderTimesSpec)

/-- 'laws.FnFindOrder', WHERE WHAT IT READS IS OF BULK AT MOST 1048576: true; the input reads as it did. -/
def fnFindOrderUptoRow : OpenClaim := { program := "ytneehnkdgjijiaa", sum := "be6674aefba8700615ca8702b0e53f66562de8cb1e5f0c5567f0f04e3d7048e0", func := "loop.example/resourcestore/laws.FnFindOrder", spec := "fnFindOrder", recurses := true, apart := false, narrowed := true }
def FnFindOrderUptoSaid : Prop := fnFindOrderUptoRow.holds Try.pinned (OpenSpec.upto fnFindOrderSpec)

/-- 'laws.FnExactFindOrder', WHERE WHAT IT READS IS OF BULK AT MOST 1048576: true; the input reads as it did. -/
def fnExactFindOrderUptoRow : OpenClaim := { program := "ytneehnkdgjijiaa", sum := "be6674aefba8700615ca8702b0e53f66562de8cb1e5f0c5567f0f04e3d7048e0", func := "loop.example/resourcestore/laws.FnExactFindOrder", spec := "fnExactFindOrder", recurses := true, apart := false, narrowed := true }
def FnExactFindOrderUptoSaid : Prop := fnExactFindOrderUptoRow.holds Try.pinned (OpenSpec.upto fnExactFindOrderSpec)

/-- 'laws.FnCheckOrder', WHERE WHAT IT READS IS OF BULK AT MOST 1048576: true; the input reads as it did. -/
def fnCheckOrderUptoRow : OpenClaim := { program := "ytneehnkdgjijiaa", sum := "be6674aefba8700615ca8702b0e53f66562de8cb1e5f0c5567f0f04e3d7048e0", func := "loop.example/resourcestore/laws.FnCheckOrder", spec := "fnCheckOrder", recurses := true, apart := false, narrowed := true }
def FnCheckOrderUptoSaid : Prop := fnCheckOrderUptoRow.holds Try.pinned (OpenSpec.upto fnCheckOrderSpec)

end Rows
end Go.Proofs.Ytneehnkdgjijiaa
