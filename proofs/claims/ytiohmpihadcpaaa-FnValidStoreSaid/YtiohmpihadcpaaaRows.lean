/-
  NARROWER THAN 'FOR EVERY INPUT', by the rows' own cells (each row's printed sentence says how): FnExactValidStore: loops · FnExactNewestItem: loops · FnExactKeyCount: loops.
  DERIVED. THE GIVEN ROWS OF THIS SEAT. 4 by the template 'for every input the law returns true; each argument reads behind the call as it read before'; 0 by the template 'total and deterministic' (their statements: YtiohmpihadcpaaaTotals.lean).
  GIVEN WITH THE SEED: the statements are not yours to turn. If you find one false, say at which input.
  Laid BY PROGRAM, IN A SANDBOX (cutbox-rows.mjs): the forced cells as the released guide's own fill.sh prints them over the translation 70069c6a8cf989b7… (all of the seat's roots in one cut). By AI agents, Wed Nov 11 2026. No macro, syntax, notation, axiom, sorry.
-/
import Derived.Test.YtiohmpihadcpaaaChecked
import GoSem.Claim
import GoSem.ClaimJoined
import GoSem.ClaimMapViews
import Derived.JoinedTies
import Derived.KernelRfl
namespace Go.Proofs.Ytiohmpihadcpaaa
/- THE CELL 'sum', in the pinned program and in every row, IS THE sha256 OF THE DUMP (.gsa) THAT YtiohmpihadcpaaaProg.lean LOADS. Nothing in Lean hashes anything: it is a label: what it is worth is what the hold of that sum in a sandbox is worth. -/
noncomputable def Try.pinned : Pinned := { name := "ytiohmpihadcpaaa", sum := "70069c6a8cf989b7e8cd933523424ee9d9aefad26bcc021d621fc41009213c68", checked := Try.checked }
namespace Rows
def none {H : Type} : Left H := { results := [], args := [] }

/-- 'laws.FnExactValidStore': WHATEVER THE INPUT: true; the input reads as it did. -/
def fnExactValidStoreSpec : ChangeSpec := { name := "fnExactValidStore", fn := fun _ => fun
  | [d] => { results := [.lit (.bool true)], args := [d] }
  | _ => none }
def fnExactValidStoreRow : OpenClaim := { program := "ytiohmpihadcpaaa", sum := "70069c6a8cf989b7e8cd933523424ee9d9aefad26bcc021d621fc41009213c68", func := "loop.example/resourcestore/laws.FnExactValidStore", spec := "fnExactValidStore", recurses := true, loops := true, apart := false }
def FnExactValidStoreSaid : Prop := fnExactValidStoreRow.holds Try.pinned (OpenSpec.ofChange fnExactValidStoreSpec)

/-- ITS FALSE NEIGHBOUR: 'it returns false'. Refute it at one input. -/
def fnExactValidStoreWrong : ChangeSpec := { name := "fnExactValidStore", fn := fun _ => fun
  | [d] => { results := [.lit (.bool false)], args := [d] }
  | _ => none }
def FnExactValidStoreWrongFalsely : Prop := fnExactValidStoreRow.holds Try.pinned (OpenSpec.ofChange fnExactValidStoreWrong)

/-- 'laws.FnExactNewestItem': WHATEVER THE INPUT: true; the input reads as it did. -/
def fnExactNewestItemSpec : ChangeSpec := { name := "fnExactNewestItem", fn := fun _ => fun
  | [d] => { results := [.lit (.bool true)], args := [d] }
  | _ => none }
def fnExactNewestItemRow : OpenClaim := { program := "ytiohmpihadcpaaa", sum := "70069c6a8cf989b7e8cd933523424ee9d9aefad26bcc021d621fc41009213c68", func := "loop.example/resourcestore/laws.FnExactNewestItem", spec := "fnExactNewestItem", recurses := true, loops := true, apart := false }
def FnExactNewestItemSaid : Prop := fnExactNewestItemRow.holds Try.pinned (OpenSpec.ofChange fnExactNewestItemSpec)

/-- ITS FALSE NEIGHBOUR: 'it returns false'. Refute it at one input. -/
def fnExactNewestItemWrong : ChangeSpec := { name := "fnExactNewestItem", fn := fun _ => fun
  | [d] => { results := [.lit (.bool false)], args := [d] }
  | _ => none }
def FnExactNewestItemWrongFalsely : Prop := fnExactNewestItemRow.holds Try.pinned (OpenSpec.ofChange fnExactNewestItemWrong)

/-- 'laws.FnValidStore': WHATEVER THE INPUT: true; the input reads as it did. -/
def fnValidStoreSpec : ChangeSpec := { name := "fnValidStore", fn := fun _ => fun
  | [d] => { results := [.lit (.bool true)], args := [d] }
  | _ => none }
def fnValidStoreRow : OpenClaim := { program := "ytiohmpihadcpaaa", sum := "70069c6a8cf989b7e8cd933523424ee9d9aefad26bcc021d621fc41009213c68", func := "loop.example/resourcestore/laws.FnValidStore", spec := "fnValidStore", recurses := true, apart := false }
def FnValidStoreSaid : Prop := fnValidStoreRow.holds Try.pinned (OpenSpec.ofChange fnValidStoreSpec)

/-- ITS FALSE NEIGHBOUR: 'it returns false'. Refute it at one input. -/
def fnValidStoreWrong : ChangeSpec := { name := "fnValidStore", fn := fun _ => fun
  | [d] => { results := [.lit (.bool false)], args := [d] }
  | _ => none }
def FnValidStoreWrongFalsely : Prop := fnValidStoreRow.holds Try.pinned (OpenSpec.ofChange fnValidStoreWrong)

/-- 'laws.FnExactKeyCount': WHATEVER THE INPUT: true; the input reads as it did. -/
def fnExactKeyCountSpec : ChangeSpec := { name := "fnExactKeyCount", fn := fun _ => fun
  | [d] => { results := [.lit (.bool true)], args := [d] }
  | _ => none }
def fnExactKeyCountRow : OpenClaim := { program := "ytiohmpihadcpaaa", sum := "70069c6a8cf989b7e8cd933523424ee9d9aefad26bcc021d621fc41009213c68", func := "loop.example/resourcestore/laws.FnExactKeyCount", spec := "fnExactKeyCount", inPlace := ["internal/bytealg.abigen_runtime_cmpstring"], unfollowed := true, recurses := true, loops := true, apart := false }
def FnExactKeyCountSaid : Prop := fnExactKeyCountRow.holds Try.pinned (OpenSpec.ofChange fnExactKeyCountSpec)

/-- ITS FALSE NEIGHBOUR: 'it returns false'. Refute it at one input. -/
def fnExactKeyCountWrong : ChangeSpec := { name := "fnExactKeyCount", fn := fun _ => fun
  | [d] => { results := [.lit (.bool false)], args := [d] }
  | _ => none }
def FnExactKeyCountWrongFalsely : Prop := fnExactKeyCountRow.holds Try.pinned (OpenSpec.ofChange fnExactKeyCountWrong)

/- THE SECOND FORM. 'bulk': how many values and letters a reading holds, each counted each time it is reached (what is shared counts as often as it is met; a slice's spare places count too). A statement '..UptoSaid' is the law's where the arguments, and the package variables that the reading takes, are together of bulk at most 1048576: NARROWER than '..Said'. Prove '..Said' where nothing that the law and all that it calls make is longer than what came in: it says more and counts as full. Else prove '..UptoSaid'. A law counts once. -/
mutual
def uptoBulk {H : Type} : DataW H → Nat
  | .lit (.string bytes) => bytes.length + 1
  | .lit _ => 1
  | .nil => 1
  | .ptr d => uptoBulk d + 1
  | .slice elems spare => uptoBulkAll elems + uptoBulkAll spare + 1
  | .agg parts => uptoBulkAll parts + 1
  | .iface _ d => uptoBulk d + 1
  | .map entries => uptoBulkEntries entries + 1
  | .held _ => 1
def uptoBulkAll {H : Type} : List (DataW H) → Nat
  | [] => 0
  | d :: r => uptoBulk d + uptoBulkAll r
def uptoBulkEntries {H : Type} : List (Lit × DataW H) → Nat
  | [] => 0
  | x :: r => uptoBulkEntry x + uptoBulkEntries r
def uptoBulkEntry {H : Type} : Lit × DataW H → Nat
  | (.string bytes, d) => bytes.length + uptoBulk d + 1
  | (_, d) => uptoBulk d + 1
 end
def uptoSmall : (H : Type) → List (DataW H) → Bool := fun _ ds => decide (uptoBulkAll ds ≤ 1048576)
def OpenSpec.upto (s : _root_.Go.ChangeSpec) : _root_.Go.OpenSpec := { _root_.Go.OpenSpec.ofChange s with cond := some uptoSmall }

/-- 'laws.FnExactValidStore', WHERE WHAT IT READS IS OF BULK AT MOST 1048576: true; the input reads as it did. -/
def fnExactValidStoreUptoRow : OpenClaim := { program := "ytiohmpihadcpaaa", sum := "70069c6a8cf989b7e8cd933523424ee9d9aefad26bcc021d621fc41009213c68", func := "loop.example/resourcestore/laws.FnExactValidStore", spec := "fnExactValidStore", recurses := true, loops := true, apart := false, narrowed := true }
def FnExactValidStoreUptoSaid : Prop := fnExactValidStoreUptoRow.holds Try.pinned (OpenSpec.upto fnExactValidStoreSpec)

/-- 'laws.FnExactNewestItem', WHERE WHAT IT READS IS OF BULK AT MOST 1048576: true; the input reads as it did. -/
def fnExactNewestItemUptoRow : OpenClaim := { program := "ytiohmpihadcpaaa", sum := "70069c6a8cf989b7e8cd933523424ee9d9aefad26bcc021d621fc41009213c68", func := "loop.example/resourcestore/laws.FnExactNewestItem", spec := "fnExactNewestItem", recurses := true, loops := true, apart := false, narrowed := true }
def FnExactNewestItemUptoSaid : Prop := fnExactNewestItemUptoRow.holds Try.pinned (OpenSpec.upto fnExactNewestItemSpec)

/-- 'laws.FnValidStore', WHERE WHAT IT READS IS OF BULK AT MOST 1048576: true; the input reads as it did. -/
def fnValidStoreUptoRow : OpenClaim := { program := "ytiohmpihadcpaaa", sum := "70069c6a8cf989b7e8cd933523424ee9d9aefad26bcc021d621fc41009213c68", func := "loop.example/resourcestore/laws.FnValidStore", spec := "fnValidStore", recurses := true, apart := false, narrowed := true }
def FnValidStoreUptoSaid : Prop := fnValidStoreUptoRow.holds Try.pinned (OpenSpec.upto fnValidStoreSpec)

/-- 'laws.FnExactKeyCount', WHERE WHAT IT READS IS OF BULK AT MOST 1048576: true; the input reads as it did. -/
def fnExactKeyCountUptoRow : OpenClaim := { program := "ytiohmpihadcpaaa", sum := "70069c6a8cf989b7e8cd933523424ee9d9aefad26bcc021d621fc41009213c68", func := "loop.example/resourcestore/laws.FnExactKeyCount", spec := "fnExactKeyCount", inPlace := ["internal/bytealg.abigen_runtime_cmpstring"], unfollowed := true, recurses := true, loops := true, apart := false, narrowed := true }
def FnExactKeyCountUptoSaid : Prop := fnExactKeyCountUptoRow.holds Try.pinned (OpenSpec.upto fnExactKeyCountSpec)

end Rows
end Go.Proofs.Ytiohmpihadcpaaa
