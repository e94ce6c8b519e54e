/-
  NARROWER THAN 'FOR EVERY INPUT', by the rows' own cells (each row's printed sentence says how): FnExactValidNode: loops · FnExactNodeCount: loops · FnExactNodeDepth: loops · FnExactIsPlain: loops · FnExactCompareNodes: loops.
  DERIVED. THE GIVEN ROWS OF THIS SEAT. 8 by the template 'for every input the law returns true; each argument reads behind the call as it read before'; 0 by the template 'total and deterministic' (their statements: YtodncmkmipabaaaTotals.lean).
  GIVEN WITH THE SEED: the statements are not yours to turn. If you find one false, say at which input.
  Laid BY PROGRAM, IN A SANDBOX (cutbox-rows.mjs): the forced cells as the released guide's own fill.sh prints them over the translation fdb6c2b1ee75bae9… (all of the seat's roots in one cut). By AI agents, Wed Nov 11 2026. No macro, syntax, notation, axiom, sorry.
-/
import Derived.Test.YtodncmkmipabaaaChecked
import GoSem.Claim
import GoSem.ClaimJoined
import GoSem.ClaimMapViews
import Derived.JoinedTies
import Derived.KernelRfl
namespace Go.Proofs.Ytodncmkmipabaaa
/- THE CELL 'sum', in the pinned program and in every row, IS THE sha256 OF THE DUMP (.gsa) THAT YtodncmkmipabaaaProg.lean LOADS. Nothing in Lean hashes anything: it is a label: what it is worth is what the hold of that sum in a sandbox is worth. -/
noncomputable def Try.pinned : Pinned := { name := "ytodncmkmipabaaa", sum := "fdb6c2b1ee75bae90a5fcfa951efbedf90a61ecb5e186efba55e2317b8b0fac8", checked := Try.checked }
namespace Rows
def none {H : Type} : Left H := { results := [], args := [] }

/-- 'laws.FnExactValidNode': WHATEVER THE INPUT: true; the input reads as it did. -/
def fnExactValidNodeSpec : ChangeSpec := { name := "fnExactValidNode", fn := fun _ => fun
  | [d] => { results := [.lit (.bool true)], args := [d] }
  | _ => none }
def fnExactValidNodeRow : OpenClaim := { program := "ytodncmkmipabaaa", sum := "fdb6c2b1ee75bae90a5fcfa951efbedf90a61ecb5e186efba55e2317b8b0fac8", func := "loop.example/resourcestore/laws.FnExactValidNode", spec := "fnExactValidNode", recurses := true, loops := true, apart := false }
def FnExactValidNodeSaid : Prop := fnExactValidNodeRow.holds Try.pinned (OpenSpec.ofChange fnExactValidNodeSpec)

/-- ITS FALSE NEIGHBOUR: 'it returns false'. Refute it at one input. -/
def fnExactValidNodeWrong : ChangeSpec := { name := "fnExactValidNode", fn := fun _ => fun
  | [d] => { results := [.lit (.bool false)], args := [d] }
  | _ => none }
def FnExactValidNodeWrongFalsely : Prop := fnExactValidNodeRow.holds Try.pinned (OpenSpec.ofChange fnExactValidNodeWrong)

/-- 'laws.FnExactNodeCount': WHATEVER THE INPUT: true; the input reads as it did. -/
def fnExactNodeCountSpec : ChangeSpec := { name := "fnExactNodeCount", fn := fun _ => fun
  | [d] => { results := [.lit (.bool true)], args := [d] }
  | _ => none }
def fnExactNodeCountRow : OpenClaim := { program := "ytodncmkmipabaaa", sum := "fdb6c2b1ee75bae90a5fcfa951efbedf90a61ecb5e186efba55e2317b8b0fac8", func := "loop.example/resourcestore/laws.FnExactNodeCount", spec := "fnExactNodeCount", recurses := true, loops := true, apart := false }
def FnExactNodeCountSaid : Prop := fnExactNodeCountRow.holds Try.pinned (OpenSpec.ofChange fnExactNodeCountSpec)

/-- ITS FALSE NEIGHBOUR: 'it returns false'. Refute it at one input. -/
def fnExactNodeCountWrong : ChangeSpec := { name := "fnExactNodeCount", fn := fun _ => fun
  | [d] => { results := [.lit (.bool false)], args := [d] }
  | _ => none }
def FnExactNodeCountWrongFalsely : Prop := fnExactNodeCountRow.holds Try.pinned (OpenSpec.ofChange fnExactNodeCountWrong)

/-- 'laws.FnExactNodeDepth': WHATEVER THE INPUT: true; the input reads as it did. -/
def fnExactNodeDepthSpec : ChangeSpec := { name := "fnExactNodeDepth", fn := fun _ => fun
  | [d] => { results := [.lit (.bool true)], args := [d] }
  | _ => none }
def fnExactNodeDepthRow : OpenClaim := { program := "ytodncmkmipabaaa", sum := "fdb6c2b1ee75bae90a5fcfa951efbedf90a61ecb5e186efba55e2317b8b0fac8", func := "loop.example/resourcestore/laws.FnExactNodeDepth", spec := "fnExactNodeDepth", recurses := true, loops := true, apart := false }
def FnExactNodeDepthSaid : Prop := fnExactNodeDepthRow.holds Try.pinned (OpenSpec.ofChange fnExactNodeDepthSpec)

/-- ITS FALSE NEIGHBOUR: 'it returns false'. Refute it at one input. -/
def fnExactNodeDepthWrong : ChangeSpec := { name := "fnExactNodeDepth", fn := fun _ => fun
  | [d] => { results := [.lit (.bool false)], args := [d] }
  | _ => none }
def FnExactNodeDepthWrongFalsely : Prop := fnExactNodeDepthRow.holds Try.pinned (OpenSpec.ofChange fnExactNodeDepthWrong)

/-- 'laws.FnExactIsPlain': WHATEVER THE INPUT: true; the input reads as it did. -/
def fnExactIsPlainSpec : ChangeSpec := { name := "fnExactIsPlain", fn := fun _ => fun
  | [d] => { results := [.lit (.bool true)], args := [d] }
  | _ => none }
def fnExactIsPlainRow : OpenClaim := { program := "ytodncmkmipabaaa", sum := "fdb6c2b1ee75bae90a5fcfa951efbedf90a61ecb5e186efba55e2317b8b0fac8", func := "loop.example/resourcestore/laws.FnExactIsPlain", spec := "fnExactIsPlain", recurses := true, loops := true, apart := false }
def FnExactIsPlainSaid : Prop := fnExactIsPlainRow.holds Try.pinned (OpenSpec.ofChange fnExactIsPlainSpec)

/-- ITS FALSE NEIGHBOUR: 'it returns false'. Refute it at one input. -/
def fnExactIsPlainWrong : ChangeSpec := { name := "fnExactIsPlain", fn := fun _ => fun
  | [d] => { results := [.lit (.bool false)], args := [d] }
  | _ => none }
def FnExactIsPlainWrongFalsely : Prop := fnExactIsPlainRow.holds Try.pinned (OpenSpec.ofChange fnExactIsPlainWrong)

/-- 'laws.FnNodeCount': WHATEVER THE INPUT: true; the input reads as it did. -/
def fnNodeCountSpec : ChangeSpec := { name := "fnNodeCount", fn := fun _ => fun
  | [d] => { results := [.lit (.bool true)], args := [d] }
  | _ => none }
def fnNodeCountRow : OpenClaim := { program := "ytodncmkmipabaaa", sum := "fdb6c2b1ee75bae90a5fcfa951efbedf90a61ecb5e186efba55e2317b8b0fac8", func := "loop.example/resourcestore/laws.FnNodeCount", spec := "fnNodeCount", recurses := true, apart := false }
def FnNodeCountSaid : Prop := fnNodeCountRow.holds Try.pinned (OpenSpec.ofChange fnNodeCountSpec)

/-- ITS FALSE NEIGHBOUR: 'it returns false'. Refute it at one input. -/
def fnNodeCountWrong : ChangeSpec := { name := "fnNodeCount", fn := fun _ => fun
  | [d] => { results := [.lit (.bool false)], args := [d] }
  | _ => none }
def FnNodeCountWrongFalsely : Prop := fnNodeCountRow.holds Try.pinned (OpenSpec.ofChange fnNodeCountWrong)

/-- 'laws.FnNodeDepth': WHATEVER THE INPUT: true; the input reads as it did. -/
def fnNodeDepthSpec : ChangeSpec := { name := "fnNodeDepth", fn := fun _ => fun
  | [d] => { results := [.lit (.bool true)], args := [d] }
  | _ => none }
def fnNodeDepthRow : OpenClaim := { program := "ytodncmkmipabaaa", sum := "fdb6c2b1ee75bae90a5fcfa951efbedf90a61ecb5e186efba55e2317b8b0fac8", func := "loop.example/resourcestore/laws.FnNodeDepth", spec := "fnNodeDepth", recurses := true, apart := false }
def FnNodeDepthSaid : Prop := fnNodeDepthRow.holds Try.pinned (OpenSpec.ofChange fnNodeDepthSpec)

/-- ITS FALSE NEIGHBOUR: 'it returns false'. Refute it at one input. -/
def fnNodeDepthWrong : ChangeSpec := { name := "fnNodeDepth", fn := fun _ => fun
  | [d] => { results := [.lit (.bool false)], args := [d] }
  | _ => none }
def FnNodeDepthWrongFalsely : Prop := fnNodeDepthRow.holds Try.pinned (OpenSpec.ofChange fnNodeDepthWrong)

/-- 'laws.FnIsPlainKinds': WHATEVER THE INPUT: true; the input reads as it did. -/
def fnIsPlainKindsSpec : ChangeSpec := { name := "fnIsPlainKinds", fn := fun _ => fun
  | [d] => { results := [.lit (.bool true)], args := [d] }
  | _ => none }
def fnIsPlainKindsRow : OpenClaim := { program := "ytodncmkmipabaaa", sum := "fdb6c2b1ee75bae90a5fcfa951efbedf90a61ecb5e186efba55e2317b8b0fac8", func := "loop.example/resourcestore/laws.FnIsPlainKinds", spec := "fnIsPlainKinds", recurses := true, apart := false }
def FnIsPlainKindsSaid : Prop := fnIsPlainKindsRow.holds Try.pinned (OpenSpec.ofChange fnIsPlainKindsSpec)

/-- ITS FALSE NEIGHBOUR: 'it returns false'. Refute it at one input. -/
def fnIsPlainKindsWrong : ChangeSpec := { name := "fnIsPlainKinds", fn := fun _ => fun
  | [d] => { results := [.lit (.bool false)], args := [d] }
  | _ => none }
def FnIsPlainKindsWrongFalsely : Prop := fnIsPlainKindsRow.holds Try.pinned (OpenSpec.ofChange fnIsPlainKindsWrong)

/-- 'laws.FnExactCompareNodes': WHATEVER THE INPUT: true; the input reads as it did. -/
def fnExactCompareNodesSpec : ChangeSpec := { name := "fnExactCompareNodes", fn := fun _ => fun
  | [d1, d2] => { results := [.lit (.bool true)], args := [d1, d2] }
  | _ => none }
def fnExactCompareNodesRow : OpenClaim := { program := "ytodncmkmipabaaa", sum := "fdb6c2b1ee75bae90a5fcfa951efbedf90a61ecb5e186efba55e2317b8b0fac8", func := "loop.example/resourcestore/laws.FnExactCompareNodes", spec := "fnExactCompareNodes", inPlace := ["internal/bytealg.abigen_runtime_cmpstring"], recurses := true, loops := true, apart := false }
def FnExactCompareNodesSaid : Prop := fnExactCompareNodesRow.holds Try.pinned (OpenSpec.ofChange fnExactCompareNodesSpec)

/-- ITS FALSE NEIGHBOUR: 'it returns false'. Refute it at one input. -/
def fnExactCompareNodesWrong : ChangeSpec := { name := "fnExactCompareNodes", fn := fun _ => fun
  | [d1, d2] => { results := [.lit (.bool false)], args := [d1, d2] }
  | _ => none }
def FnExactCompareNodesWrongFalsely : Prop := fnExactCompareNodesRow.holds Try.pinned (OpenSpec.ofChange fnExactCompareNodesWrong)

/- THE SECOND FORM. 'bulk': how many values and letters a reading holds, each counted each time it is reached (what is shared counts as often as it is met; a slice's spare places count too). A statement '..UptoSaid' is the law's where the arguments, and the package variables that the reading takes, are together of bulk at most 1048576: NARROWER than '..Said'. Prove '..Said' where nothing that the law and all that it calls make is longer than what came in: it says more and counts as full. Else prove '..UptoSaid'. A law counts once. -/
mutual
def uptoBulk {H : Type} : DataW H → Nat
  | .lit (.string bytes) => bytes.length + 1
  | .lit _ => 1
  | .nil => 1
  | .ptr d => uptoBulk d + 1
  | .slice elems spare => uptoBulkAll elems + uptoBulkAll spare + 1
  | .agg parts => uptoBulkAll parts + 1
  | .iface _ d => uptoBulk d + 1
  | .map entries => uptoBulkEntries entries + 1
  | .held _ => 1
def uptoBulkAll {H : Type} : List (DataW H) → Nat
  | [] => 0
  | d :: r => uptoBulk d + uptoBulkAll r
def uptoBulkEntries {H : Type} : List (Lit × DataW H) → Nat
  | [] => 0
  | x :: r => uptoBulkEntry x + uptoBulkEntries r
def uptoBulkEntry {H : Type} : Lit × DataW H → Nat
  | (.string bytes, d) => bytes.length + uptoBulk d + 1
  | (_, d) => uptoBulk d + 1
 end
def uptoSmall : (H : Type) → List (DataW H) → Bool := fun _ ds => decide (uptoBulkAll ds ≤ 1048576)
def OpenSpec.upto (s : _root_.Go.ChangeSpec) : _root_.Go.OpenSpec := { _root_.Go.OpenSpec.ofChange s with cond := some uptoSmall }

/-- 'laws.FnExactValidNode', WHERE WHAT IT READS IS OF BULK AT MOST 1048576: true; the input reads as it did. -/
def fnExactValidNodeUptoRow : OpenClaim := { program := "ytodncmkmipabaaa", sum := "fdb6c2b1ee75bae90a5fcfa951efbedf90a61ecb5e186efba55e2317b8b0fac8", func := "loop.example/resourcestore/laws.FnExactValidNode", spec := "fnExactValidNode", recurses := true, loops := true, apart := false, narrowed := true }
def FnExactValidNodeUptoSaid : Prop := fnExactValidNodeUptoRow.holds Try.pinned (OpenSpec.upto fnExactValidNodeSpec)

/-- 'laws.FnExactNodeCount', WHERE WHAT IT READS IS OF BULK AT MOST 1048576: true; the input reads as it did. -/
def fnExactNodeCountUptoRow : OpenClaim := { program := "ytodncmkmipabaaa", sum := "fdb6c2b1ee75bae90a5fcfa951efbedf90a61ecb5e186efba55e2317b8b0fac8", func := "loop.example/resourcestore/laws.FnExactNodeCount", spec := "fnExactNodeCount", recurses := true, loops := true, apart := false, narrowed := true }
def FnExactNodeCountUptoSaid : Prop := fnExactNodeCountUptoRow.holds Try.pinned (OpenSpec.upto fnExactNodeCountSpec)

/-- 'laws.FnExactNodeDepth', WHERE WHAT IT READS IS OF BULK AT MOST 1048576: true; the input reads as it did. -/
def fnExactNodeDepthUptoRow : OpenClaim := { program := "ytodncmkmipabaaa", sum := "fdb6c2b1ee75bae90a5fcfa951efbedf90a61ecb5e186efba55e2317b8b0fac8", func := "loop.example/resourcestore/laws.FnExactNodeDepth", spec := "fnExactNodeDepth", recurses := true, loops := true, apart := false, narrowed := true }
def FnExactNodeDepthUptoSaid : Prop := fnExactNodeDepthUptoRow.holds Try.pinned (OpenSpec.upto fnExactNodeDepthSpec)

/-- 'laws.FnExactIsPlain', WHERE WHAT IT READS IS OF BULK AT MOST 1048576: true; the input reads as it did. -/
def fnExactIsPlainUptoRow : OpenClaim := { program := "ytodncmkmipabaaa", sum := "fdb6c2b1ee75bae90a5fcfa951efbedf90a61ecb5e186efba55e2317b8b0fac8", func := "loop.example/resourcestore/laws.FnExactIsPlain", spec := "fnExactIsPlain", recurses := true, loops := true, apart := false, narrowed := true }
def FnExactIsPlainUptoSaid : Prop := fnExactIsPlainUptoRow.holds Try.pinned (OpenSpec.upto fnExactIsPlainSpec)

/-- 'laws.FnNodeCount', WHERE WHAT IT READS IS OF BULK AT MOST 1048576: true; the input reads as it did. -/
def fnNodeCountUptoRow : OpenClaim := { program := "ytodncmkmipabaaa", sum := "fdb6c2b1ee75bae90a5fcfa951efbedf90a61ecb5e186efba55e2317b8b0fac8", func := "loop.example/resourcestore/laws.FnNodeCount", spec := "fnNodeCount", recurses := true, apart := false, narrowed := true }
def FnNodeCountUptoSaid : Prop := fnNodeCountUptoRow.holds Try.pinned (OpenSpec.upto fnNodeCountSpec)

/-- 'laws.FnNodeDepth', WHERE WHAT IT READS IS OF BULK AT MOST 1048576: true; the input reads as it did. -/
def fnNodeDepthUptoRow : OpenClaim := { program := "ytodncmkmipabaaa", sum := "fdb6c2b1ee75bae90a5fcfa951efbedf90a61ecb5e186efba55e2317b8b0fac8", func := "loop.example/resourcestore/laws.FnNodeDepth", spec := "fnNodeDepth", recurses := true, apart := false, narrowed := true }
def FnNodeDepthUptoSaid : Prop := fnNodeDepthUptoRow.holds Try.pinned (OpenSpec.upto fnNodeDepthSpec)

/-- 'laws.FnIsPlainKinds', WHERE WHAT IT READS IS OF BULK AT MOST 1048576: true; the input reads as it did. -/
def fnIsPlainKindsUptoRow : OpenClaim := { program := "ytodncmkmipabaaa", sum := "fdb6c2b1ee75bae90a5fcfa951efbedf90a61ecb5e186efba55e2317b8b0fac8", func := "loop.example/resourcestore/laws.FnIsPlainKinds", spec := "fnIsPlainKinds", recurses := true, apart := false, narrowed := true }
def FnIsPlainKindsUptoSaid : Prop := fnIsPlainKindsUptoRow.holds Try.pinned (OpenSpec.upto fnIsPlainKindsSpec)

/-- 'laws.FnExactCompareNodes', WHERE WHAT IT READS IS OF BULK AT MOST 1048576: true; the input reads as it did. -/
def fnExactCompareNodesUptoRow : OpenClaim := { program := "ytodncmkmipabaaa", sum := "fdb6c2b1ee75bae90a5fcfa951efbedf90a61ecb5e186efba55e2317b8b0fac8", func := "loop.example/resourcestore/laws.FnExactCompareNodes", spec := "fnExactCompareNodes", inPlace := ["internal/bytealg.abigen_runtime_cmpstring"], recurses := true, loops := true, apart := false, narrowed := true }
def FnExactCompareNodesUptoSaid : Prop := fnExactCompareNodesUptoRow.holds Try.pinned (OpenSpec.upto fnExactCompareNodesSpec)

end Rows
end Go.Proofs.Ytodncmkmipabaaa
