/-
  NARROWER THAN 'FOR EVERY INPUT', by the rows' own cells (each row's printed sentence says how): FnExactValidShape: loops · FnExactShapeOf: loops.
  DERIVED. THE GIVEN ROWS OF THIS SEAT. 5 by the template 'for every input the law returns true; each argument reads behind the call as it read before'; 0 by the template 'total and deterministic' (their statements: YtcgfhchmpoaiiaaTotals.lean).
  GIVEN WITH THE SEED: the statements are not yours to turn. If you find one false, say at which input.
  Laid BY PROGRAM, IN A SANDBOX (cutbox-rows.mjs): the forced cells as the released guide's own fill.sh prints them over the translation 07dd8d92c51c67c9… (all of the seat's roots in one cut). By AI agents, Wed Nov 11 2026. No macro, syntax, notation, axiom, sorry.
-/
import Derived.Test.YtcgfhchmpoaiiaaChecked
import GoSem.Claim
import GoSem.ClaimJoined
import GoSem.ClaimMapViews
import Derived.JoinedTies
import Derived.KernelRfl
namespace Go.Proofs.Ytcgfhchmpoaiiaa
/- THE CELL 'sum', in the pinned program and in every row, IS THE sha256 OF THE DUMP (.gsa) THAT YtcgfhchmpoaiiaaProg.lean LOADS. Nothing in Lean hashes anything: it is a label: what it is worth is what the hold of that sum in a sandbox is worth. -/
noncomputable def Try.pinned : Pinned := { name := "ytcgfhchmpoaiiaa", sum := "07dd8d92c51c67c91c692d0ae9e870dc54e8e6530d92ae416086eeec9745b7fe", checked := Try.checked }
namespace Rows
def none {H : Type} : Left H := { results := [], args := [] }

/-- 'laws.FnExactValidShape': WHATEVER THE INPUT: true; the input reads as it did. -/
def fnExactValidShapeSpec : ChangeSpec := { name := "fnExactValidShape", fn := fun _ => fun
  | [d] => { results := [.lit (.bool true)], args := [d] }
  | _ => none }
def fnExactValidShapeRow : OpenClaim := { program := "ytcgfhchmpoaiiaa", sum := "07dd8d92c51c67c91c692d0ae9e870dc54e8e6530d92ae416086eeec9745b7fe", func := "loop.example/resourcestore/laws.FnExactValidShape", spec := "fnExactValidShape", recurses := true, loops := true, apart := false }
def FnExactValidShapeSaid : Prop := fnExactValidShapeRow.holds Try.pinned (OpenSpec.ofChange fnExactValidShapeSpec)

/-- ITS FALSE NEIGHBOUR: 'it returns false'. Refute it at one input. -/
def fnExactValidShapeWrong : ChangeSpec := { name := "fnExactValidShape", fn := fun _ => fun
  | [d] => { results := [.lit (.bool false)], args := [d] }
  | _ => none }
def FnExactValidShapeWrongFalsely : Prop := fnExactValidShapeRow.holds Try.pinned (OpenSpec.ofChange fnExactValidShapeWrong)

/-- 'laws.FnValidShape': WHATEVER THE INPUT: true; the input reads as it did. -/
def fnValidShapeSpec : ChangeSpec := { name := "fnValidShape", fn := fun _ => fun
  | [d] => { results := [.lit (.bool true)], args := [d] }
  | _ => none }
def fnValidShapeRow : OpenClaim := { program := "ytcgfhchmpoaiiaa", sum := "07dd8d92c51c67c91c692d0ae9e870dc54e8e6530d92ae416086eeec9745b7fe", func := "loop.example/resourcestore/laws.FnValidShape", spec := "fnValidShape", recurses := true, apart := false }
def FnValidShapeSaid : Prop := fnValidShapeRow.holds Try.pinned (OpenSpec.ofChange fnValidShapeSpec)

/-- ITS FALSE NEIGHBOUR: 'it returns false'. Refute it at one input. -/
def fnValidShapeWrong : ChangeSpec := { name := "fnValidShape", fn := fun _ => fun
  | [d] => { results := [.lit (.bool false)], args := [d] }
  | _ => none }
def FnValidShapeWrongFalsely : Prop := fnValidShapeRow.holds Try.pinned (OpenSpec.ofChange fnValidShapeWrong)

/-- 'laws.FnFitsShapeNeeds': WHATEVER THE INPUT: true; the input reads as it did. -/
def fnFitsShapeNeedsSpec : ChangeSpec := { name := "fnFitsShapeNeeds", fn := fun _ => fun
  | [d] => { results := [.lit (.bool true)], args := [d] }
  | _ => none }
def fnFitsShapeNeedsRow : OpenClaim := { program := "ytcgfhchmpoaiiaa", sum := "07dd8d92c51c67c91c692d0ae9e870dc54e8e6530d92ae416086eeec9745b7fe", func := "loop.example/resourcestore/laws.FnFitsShapeNeeds", spec := "fnFitsShapeNeeds", recurses := true, apart := false }
def FnFitsShapeNeedsSaid : Prop := fnFitsShapeNeedsRow.holds Try.pinned (OpenSpec.ofChange fnFitsShapeNeedsSpec)

/-- ITS FALSE NEIGHBOUR: 'it returns false'. Refute it at one input. -/
def fnFitsShapeNeedsWrong : ChangeSpec := { name := "fnFitsShapeNeeds", fn := fun _ => fun
  | [d] => { results := [.lit (.bool false)], args := [d] }
  | _ => none }
def FnFitsShapeNeedsWrongFalsely : Prop := fnFitsShapeNeedsRow.holds Try.pinned (OpenSpec.ofChange fnFitsShapeNeedsWrong)

/-- 'laws.FnExactShapeOf': WHATEVER THE INPUT: true; the input reads as it did. -/
def fnExactShapeOfSpec : ChangeSpec := { name := "fnExactShapeOf", fn := fun _ => fun
  | [d] => { results := [.lit (.bool true)], args := [d] }
  | _ => none }
def fnExactShapeOfRow : OpenClaim := { program := "ytcgfhchmpoaiiaa", sum := "07dd8d92c51c67c91c692d0ae9e870dc54e8e6530d92ae416086eeec9745b7fe", func := "loop.example/resourcestore/laws.FnExactShapeOf", spec := "fnExactShapeOf", recurses := true, loops := true, apart := false }
def FnExactShapeOfSaid : Prop := fnExactShapeOfRow.holds Try.pinned (OpenSpec.ofChange fnExactShapeOfSpec)

/-- ITS FALSE NEIGHBOUR: 'it returns false'. Refute it at one input. -/
def fnExactShapeOfWrong : ChangeSpec := { name := "fnExactShapeOf", fn := fun _ => fun
  | [d] => { results := [.lit (.bool false)], args := [d] }
  | _ => none }
def FnExactShapeOfWrongFalsely : Prop := fnExactShapeOfRow.holds Try.pinned (OpenSpec.ofChange fnExactShapeOfWrong)

/-- 'laws.FnShapeOf': WHATEVER THE INPUT: true; the input reads as it did. -/
def fnShapeOfSpec : ChangeSpec := { name := "fnShapeOf", fn := fun _ => fun
  | [d] => { results := [.lit (.bool true)], args := [d] }
  | _ => none }
def fnShapeOfRow : OpenClaim := { program := "ytcgfhchmpoaiiaa", sum := "07dd8d92c51c67c91c692d0ae9e870dc54e8e6530d92ae416086eeec9745b7fe", func := "loop.example/resourcestore/laws.FnShapeOf", spec := "fnShapeOf", recurses := true, apart := false }
def FnShapeOfSaid : Prop := fnShapeOfRow.holds Try.pinned (OpenSpec.ofChange fnShapeOfSpec)

/-- ITS FALSE NEIGHBOUR: 'it returns false'. Refute it at one input. -/
def fnShapeOfWrong : ChangeSpec := { name := "fnShapeOf", fn := fun _ => fun
  | [d] => { results := [.lit (.bool false)], args := [d] }
  | _ => none }
def FnShapeOfWrongFalsely : Prop := fnShapeOfRow.holds Try.pinned (OpenSpec.ofChange fnShapeOfWrong)

/- THE SECOND FORM. 'bulk': how many values and letters a reading holds, each counted each time it is reached (what is shared counts as often as it is met; a slice's spare places count too). A statement '..UptoSaid' is the law's where the arguments, and the package variables that the reading takes, are together of bulk at most 1048576: NARROWER than '..Said'. Prove '..Said' where nothing that the law and all that it calls make is longer than what came in: it says more and counts as full. Else prove '..UptoSaid'. A law counts once. -/
mutual
def uptoBulk {H : Type} : DataW H → Nat
  | .lit (.string bytes) => bytes.length + 1
  | .lit _ => 1
  | .nil => 1
  | .ptr d => uptoBulk d + 1
  | .slice elems spare => uptoBulkAll elems + uptoBulkAll spare + 1
  | .agg parts => uptoBulkAll parts + 1
  | .iface _ d => uptoBulk d + 1
  | .map entries => uptoBulkEntries entries + 1
  | .held _ => 1
def uptoBulkAll {H : Type} : List (DataW H) → Nat
  | [] => 0
  | d :: r => uptoBulk d + uptoBulkAll r
def uptoBulkEntries {H : Type} : List (Lit × DataW H) → Nat
  | [] => 0
  | x :: r => uptoBulkEntry x + uptoBulkEntries r
def uptoBulkEntry {H : Type} : Lit × DataW H → Nat
  | (.string bytes, d) => bytes.length + uptoBulk d + 1
  | (_, d) => uptoBulk d + 1
 end
def uptoSmall : (H : Type) → List (DataW H) → Bool := fun _ ds => decide (uptoBulkAll ds ≤ 1048576)
def OpenSpec.upto (s : _root_.Go.ChangeSpec) : _root_.Go.OpenSpec := { _root_.Go.OpenSpec.ofChange s with cond := some uptoSmall }

/-- 'laws.FnExactValidShape', WHERE WHAT IT READS IS OF BULK AT MOST 1048576: true; the input reads as it did. -/
def fnExactValidShapeUptoRow : OpenClaim := { program := "ytcgfhchmpoaiiaa", sum := "07dd8d92c51c67c91c692d0ae9e870dc54e8e6530d92ae416086eeec9745b7fe", func := "loop.example/resourcestore/laws.FnExactValidShape", spec := "fnExactValidShape", recurses := true, loops := true, apart := false, narrowed := true }
def FnExactValidShapeUptoSaid : Prop := fnExactValidShapeUptoRow.holds Try.pinned (OpenSpec.upto fnExactValidShapeSpec)

/-- 'laws.FnValidShape', WHERE WHAT IT READS IS OF BULK AT MOST 1048576: true; the input reads as it did. -/
def fnValidShapeUptoRow : OpenClaim := { program := "ytcgfhchmpoaiiaa", sum := "07dd8d92c51c67c91c692d0ae9e870dc54e8e6530d92ae416086eeec9745b7fe", func := "loop.example/resourcestore/laws.FnValidShape", spec := "fnValidShape", recurses := true, apart := false, narrowed := true }
def FnValidShapeUptoSaid : Prop := fnValidShapeUptoRow.holds Try.pinned (OpenSpec.upto fnValidShapeSpec)

/-- 'laws.FnFitsShapeNeeds', WHERE WHAT IT READS IS OF BULK AT MOST 1048576: true; the input reads as it did. -/
def fnFitsShapeNeedsUptoRow : OpenClaim := { program := "ytcgfhchmpoaiiaa", sum := "07dd8d92c51c67c91c692d0ae9e870dc54e8e6530d92ae416086eeec9745b7fe", func := "loop.example/resourcestore/laws.FnFitsShapeNeeds", spec := "fnFitsShapeNeeds", recurses := true, apart := false, narrowed := true }
def FnFitsShapeNeedsUptoSaid : Prop := fnFitsShapeNeedsUptoRow.holds Try.pinned (OpenSpec.upto fnFitsShapeNeedsSpec)

/-- 'laws.FnExactShapeOf', WHERE WHAT IT READS IS OF BULK AT MOST 1048576: true; the input reads as it did. -/
def fnExactShapeOfUptoRow : OpenClaim := { program := "ytcgfhchmpoaiiaa", sum := "07dd8d92c51c67c91c692d0ae9e870dc54e8e6530d92ae416086eeec9745b7fe", func := "loop.example/resourcestore/laws.FnExactShapeOf", spec := "fnExactShapeOf", recurses := true, loops := true, apart := false, narrowed := true }
def FnExactShapeOfUptoSaid : Prop := fnExactShapeOfUptoRow.holds Try.pinned (OpenSpec.upto fnExactShapeOfSpec)

/-- 'laws.FnShapeOf', WHERE WHAT IT READS IS OF BULK AT MOST 1048576: true; the input reads as it did. -/
def fnShapeOfUptoRow : OpenClaim := { program := "ytcgfhchmpoaiiaa", sum := "07dd8d92c51c67c91c692d0ae9e870dc54e8e6530d92ae416086eeec9745b7fe", func := "loop.example/resourcestore/laws.FnShapeOf", spec := "fnShapeOf", recurses := true, apart := false, narrowed := true }
def FnShapeOfUptoSaid : Prop := fnShapeOfUptoRow.holds Try.pinned (OpenSpec.upto fnShapeOfSpec)

end Rows
end Go.Proofs.Ytcgfhchmpoaiiaa
