/-
  No cell of these rows narrows 'for every input' (looked for: loops, veiled, ifaces, maps, wideKeys, modest, calm, conditions, laid).
  DERIVED. THE GIVEN ROWS OF THIS SEAT. 15 by the template 'for every input the law returns true; each argument reads behind the call as it read before'; 0 by the template 'total and deterministic' (their statements: YtcgmjkokkclciaaTotals.lean).
  GIVEN WITH THE SEED: the statements are not yours to turn. If you find one false, say at which input.
  Laid BY PROGRAM, IN A SANDBOX (cutbox-rows.mjs): the forced cells as the released guide's own fill.sh prints them over the translation 2300f19edd6c009a… (all of the seat's roots in one cut). By AI agents, Wed Nov 11 2026. No macro, syntax, notation, axiom, sorry.
-/
import Derived.Test.YtcgmjkokkclciaaChecked
import GoSem.Claim
import GoSem.ClaimJoined
import GoSem.ClaimMapViews
import Derived.JoinedTies
import Derived.KernelRfl
namespace Go.Proofs.Ytcgmjkokkclciaa
/- THE CELL 'sum', in the pinned program and in every row, IS THE sha256 OF THE DUMP (.gsa) THAT YtcgmjkokkclciaaProg.lean LOADS. Nothing in Lean hashes anything: it is a label: what it is worth is what the hold of that sum in a sandbox is worth. -/
noncomputable def Try.pinned : Pinned := { name := "ytcgmjkokkclciaa", sum := "2300f19edd6c009a64bca519b2731f97ed6664aed2d91a8e0c32f8f126fc6161", checked := Try.checked }
namespace Rows
def none {H : Type} : Left H := { results := [], args := [] }

/-- 'laws.FnExactValidLeases': WHATEVER THE INPUT: true; the input reads as it did. -/
def fnExactValidLeasesSpec : ChangeSpec := { name := "fnExactValidLeases", fn := fun _ => fun
  | [d] => { results := [.lit (.bool true)], args := [d] }
  | _ => none }
def fnExactValidLeasesRow : OpenClaim := { program := "ytcgmjkokkclciaa", sum := "2300f19edd6c009a64bca519b2731f97ed6664aed2d91a8e0c32f8f126fc6161", func := "loop.example/resourcestore/laws.FnExactValidLeases", spec := "fnExactValidLeases", apart := false }
def FnExactValidLeasesSaid : Prop := fnExactValidLeasesRow.holds Try.pinned (OpenSpec.ofChange fnExactValidLeasesSpec)

/-- ITS FALSE NEIGHBOUR: 'it returns false'. Refute it at one input. -/
def fnExactValidLeasesWrong : ChangeSpec := { name := "fnExactValidLeases", fn := fun _ => fun
  | [d] => { results := [.lit (.bool false)], args := [d] }
  | _ => none }
def FnExactValidLeasesWrongFalsely : Prop := fnExactValidLeasesRow.holds Try.pinned (OpenSpec.ofChange fnExactValidLeasesWrong)

/-- 'laws.FnValidLeases': WHATEVER THE INPUT: true; the input reads as it did. -/
def fnValidLeasesSpec : ChangeSpec := { name := "fnValidLeases", fn := fun _ => fun
  | [d] => { results := [.lit (.bool true)], args := [d] }
  | _ => none }
def fnValidLeasesRow : OpenClaim := { program := "ytcgmjkokkclciaa", sum := "2300f19edd6c009a64bca519b2731f97ed6664aed2d91a8e0c32f8f126fc6161", func := "loop.example/resourcestore/laws.FnValidLeases", spec := "fnValidLeases", apart := false }
def FnValidLeasesSaid : Prop := fnValidLeasesRow.holds Try.pinned (OpenSpec.ofChange fnValidLeasesSpec)

/-- ITS FALSE NEIGHBOUR: 'it returns false'. Refute it at one input. -/
def fnValidLeasesWrong : ChangeSpec := { name := "fnValidLeases", fn := fun _ => fun
  | [d] => { results := [.lit (.bool false)], args := [d] }
  | _ => none }
def FnValidLeasesWrongFalsely : Prop := fnValidLeasesRow.holds Try.pinned (OpenSpec.ofChange fnValidLeasesWrong)

/-- 'laws.FnExactHolderOf': WHATEVER THE INPUT: true; the input reads as it did. -/
def fnExactHolderOfSpec : ChangeSpec := { name := "fnExactHolderOf", fn := fun _ => fun
  | [d1, d2, d3] => { results := [.lit (.bool true)], args := [d1, d2, d3] }
  | _ => none }
def fnExactHolderOfRow : OpenClaim := { program := "ytcgmjkokkclciaa", sum := "2300f19edd6c009a64bca519b2731f97ed6664aed2d91a8e0c32f8f126fc6161", func := "loop.example/resourcestore/laws.FnExactHolderOf", spec := "fnExactHolderOf", inPlace := ["internal/bytealg.abigen_runtime_cmpstring"], unfollowed := true, recurses := true, apart := false }
def FnExactHolderOfSaid : Prop := fnExactHolderOfRow.holds Try.pinned (OpenSpec.ofChange fnExactHolderOfSpec)

/-- ITS FALSE NEIGHBOUR: 'it returns false'. Refute it at one input. -/
def fnExactHolderOfWrong : ChangeSpec := { name := "fnExactHolderOf", fn := fun _ => fun
  | [d1, d2, d3] => { results := [.lit (.bool false)], args := [d1, d2, d3] }
  | _ => none }
def FnExactHolderOfWrongFalsely : Prop := fnExactHolderOfRow.holds Try.pinned (OpenSpec.ofChange fnExactHolderOfWrong)

/-- 'laws.FnExactLiveLeases': WHATEVER THE INPUT: true; the input reads as it did. -/
def fnExactLiveLeasesSpec : ChangeSpec := { name := "fnExactLiveLeases", fn := fun _ => fun
  | [d1, d2] => { results := [.lit (.bool true)], args := [d1, d2] }
  | _ => none }
def fnExactLiveLeasesRow : OpenClaim := { program := "ytcgmjkokkclciaa", sum := "2300f19edd6c009a64bca519b2731f97ed6664aed2d91a8e0c32f8f126fc6161", func := "loop.example/resourcestore/laws.FnExactLiveLeases", spec := "fnExactLiveLeases", apart := false }
def FnExactLiveLeasesSaid : Prop := fnExactLiveLeasesRow.holds Try.pinned (OpenSpec.ofChange fnExactLiveLeasesSpec)

/-- ITS FALSE NEIGHBOUR: 'it returns false'. Refute it at one input. -/
def fnExactLiveLeasesWrong : ChangeSpec := { name := "fnExactLiveLeases", fn := fun _ => fun
  | [d1, d2] => { results := [.lit (.bool false)], args := [d1, d2] }
  | _ => none }
def FnExactLiveLeasesWrongFalsely : Prop := fnExactLiveLeasesRow.holds Try.pinned (OpenSpec.ofChange fnExactLiveLeasesWrong)

/-- 'laws.FnLiveLeases': WHATEVER THE INPUT: true; the input reads as it did. -/
def fnLiveLeasesSpec : ChangeSpec := { name := "fnLiveLeases", fn := fun _ => fun
  | [d] => { results := [.lit (.bool true)], args := [d] }
  | _ => none }
def fnLiveLeasesRow : OpenClaim := { program := "ytcgmjkokkclciaa", sum := "2300f19edd6c009a64bca519b2731f97ed6664aed2d91a8e0c32f8f126fc6161", func := "loop.example/resourcestore/laws.FnLiveLeases", spec := "fnLiveLeases", inPlace := ["internal/bytealg.abigen_runtime_cmpstring"], unfollowed := true, recurses := true, apart := false }
def FnLiveLeasesSaid : Prop := fnLiveLeasesRow.holds Try.pinned (OpenSpec.ofChange fnLiveLeasesSpec)

/-- ITS FALSE NEIGHBOUR: 'it returns false'. Refute it at one input. -/
def fnLiveLeasesWrong : ChangeSpec := { name := "fnLiveLeases", fn := fun _ => fun
  | [d] => { results := [.lit (.bool false)], args := [d] }
  | _ => none }
def FnLiveLeasesWrongFalsely : Prop := fnLiveLeasesRow.holds Try.pinned (OpenSpec.ofChange fnLiveLeasesWrong)

/-- 'laws.FnLiveLeasesLater': WHATEVER THE INPUT: true; the input reads as it did. -/
def fnLiveLeasesLaterSpec : ChangeSpec := { name := "fnLiveLeasesLater", fn := fun _ => fun
  | [d] => { results := [.lit (.bool true)], args := [d] }
  | _ => none }
def fnLiveLeasesLaterRow : OpenClaim := { program := "ytcgmjkokkclciaa", sum := "2300f19edd6c009a64bca519b2731f97ed6664aed2d91a8e0c32f8f126fc6161", func := "loop.example/resourcestore/laws.FnLiveLeasesLater", spec := "fnLiveLeasesLater", apart := false }
def FnLiveLeasesLaterSaid : Prop := fnLiveLeasesLaterRow.holds Try.pinned (OpenSpec.ofChange fnLiveLeasesLaterSpec)

/-- ITS FALSE NEIGHBOUR: 'it returns false'. Refute it at one input. -/
def fnLiveLeasesLaterWrong : ChangeSpec := { name := "fnLiveLeasesLater", fn := fun _ => fun
  | [d] => { results := [.lit (.bool false)], args := [d] }
  | _ => none }
def FnLiveLeasesLaterWrongFalsely : Prop := fnLiveLeasesLaterRow.holds Try.pinned (OpenSpec.ofChange fnLiveLeasesLaterWrong)

/-- 'laws.FnHolderOf': WHATEVER THE INPUT: true; the input reads as it did. -/
def fnHolderOfSpec : ChangeSpec := { name := "fnHolderOf", fn := fun _ => fun
  | [d] => { results := [.lit (.bool true)], args := [d] }
  | _ => none }
def fnHolderOfRow : OpenClaim := { program := "ytcgmjkokkclciaa", sum := "2300f19edd6c009a64bca519b2731f97ed6664aed2d91a8e0c32f8f126fc6161", func := "loop.example/resourcestore/laws.FnHolderOf", spec := "fnHolderOf", inPlace := ["internal/bytealg.abigen_runtime_cmpstring"], unfollowed := true, recurses := true, apart := false }
def FnHolderOfSaid : Prop := fnHolderOfRow.holds Try.pinned (OpenSpec.ofChange fnHolderOfSpec)

/-- ITS FALSE NEIGHBOUR: 'it returns false'. Refute it at one input. -/
def fnHolderOfWrong : ChangeSpec := { name := "fnHolderOf", fn := fun _ => fun
  | [d] => { results := [.lit (.bool false)], args := [d] }
  | _ => none }
def FnHolderOfWrongFalsely : Prop := fnHolderOfRow.holds Try.pinned (OpenSpec.ofChange fnHolderOfWrong)

/-- 'laws.FnExactGiveLease': WHATEVER THE INPUT: true; the input reads as it did. -/
def fnExactGiveLeaseSpec : ChangeSpec := { name := "fnExactGiveLease", fn := fun _ => fun
  | [d1, d2, d3, d4] => { results := [.lit (.bool true)], args := [d1, d2, d3, d4] }
  | _ => none }
def fnExactGiveLeaseRow : OpenClaim := { program := "ytcgmjkokkclciaa", sum := "2300f19edd6c009a64bca519b2731f97ed6664aed2d91a8e0c32f8f126fc6161", func := "loop.example/resourcestore/laws.FnExactGiveLease", spec := "fnExactGiveLease", inPlace := ["internal/bytealg.abigen_runtime_cmpstring"], unfollowed := true, recurses := true, apart := false }
def FnExactGiveLeaseSaid : Prop := fnExactGiveLeaseRow.holds Try.pinned (OpenSpec.ofChange fnExactGiveLeaseSpec)

/-- ITS FALSE NEIGHBOUR: 'it returns false'. Refute it at one input. -/
def fnExactGiveLeaseWrong : ChangeSpec := { name := "fnExactGiveLease", fn := fun _ => fun
  | [d1, d2, d3, d4] => { results := [.lit (.bool false)], args := [d1, d2, d3, d4] }
  | _ => none }
def FnExactGiveLeaseWrongFalsely : Prop := fnExactGiveLeaseRow.holds Try.pinned (OpenSpec.ofChange fnExactGiveLeaseWrong)

/-- 'laws.FnGiveLease': WHATEVER THE INPUT: true; the input reads as it did. -/
def fnGiveLeaseSpec : ChangeSpec := { name := "fnGiveLease", fn := fun _ => fun
  | [d] => { results := [.lit (.bool true)], args := [d] }
  | _ => none }
def fnGiveLeaseRow : OpenClaim := { program := "ytcgmjkokkclciaa", sum := "2300f19edd6c009a64bca519b2731f97ed6664aed2d91a8e0c32f8f126fc6161", func := "loop.example/resourcestore/laws.FnGiveLease", spec := "fnGiveLease", inPlace := ["internal/bytealg.abigen_runtime_cmpstring"], unfollowed := true, recurses := true, apart := false }
def FnGiveLeaseSaid : Prop := fnGiveLeaseRow.holds Try.pinned (OpenSpec.ofChange fnGiveLeaseSpec)

/-- ITS FALSE NEIGHBOUR: 'it returns false'. Refute it at one input. -/
def fnGiveLeaseWrong : ChangeSpec := { name := "fnGiveLease", fn := fun _ => fun
  | [d] => { results := [.lit (.bool false)], args := [d] }
  | _ => none }
def FnGiveLeaseWrongFalsely : Prop := fnGiveLeaseRow.holds Try.pinned (OpenSpec.ofChange fnGiveLeaseWrong)

/-- 'laws.FnHolderOfNone': WHATEVER THE INPUT: true; the input reads as it did. -/
def fnHolderOfNoneSpec : ChangeSpec := { name := "fnHolderOfNone", fn := fun _ => fun
  | [d] => { results := [.lit (.bool true)], args := [d] }
  | _ => none }
def fnHolderOfNoneRow : OpenClaim := { program := "ytcgmjkokkclciaa", sum := "2300f19edd6c009a64bca519b2731f97ed6664aed2d91a8e0c32f8f126fc6161", func := "loop.example/resourcestore/laws.FnHolderOfNone", spec := "fnHolderOfNone", inPlace := ["internal/bytealg.abigen_runtime_cmpstring", "slices.overlaps[loop.example/resourcestore/impl.Lease]"], unfollowed := true, recurses := true, apart := false }
def FnHolderOfNoneSaid : Prop := fnHolderOfNoneRow.holds Try.pinned (OpenSpec.ofChange fnHolderOfNoneSpec)

/-- ITS FALSE NEIGHBOUR: 'it returns false'. Refute it at one input. -/
def fnHolderOfNoneWrong : ChangeSpec := { name := "fnHolderOfNone", fn := fun _ => fun
  | [d] => { results := [.lit (.bool false)], args := [d] }
  | _ => none }
def FnHolderOfNoneWrongFalsely : Prop := fnHolderOfNoneRow.holds Try.pinned (OpenSpec.ofChange fnHolderOfNoneWrong)

/-- 'laws.FnTakeLease': WHATEVER THE INPUT: true; the input reads as it did. -/
def fnTakeLeaseSpec : ChangeSpec := { name := "fnTakeLease", fn := fun _ => fun
  | [d] => { results := [.lit (.bool true)], args := [d] }
  | _ => none }
def fnTakeLeaseRow : OpenClaim := { program := "ytcgmjkokkclciaa", sum := "2300f19edd6c009a64bca519b2731f97ed6664aed2d91a8e0c32f8f126fc6161", func := "loop.example/resourcestore/laws.FnTakeLease", spec := "fnTakeLease", inPlace := ["internal/bytealg.abigen_runtime_cmpstring", "slices.overlaps[loop.example/resourcestore/impl.Lease]"], unfollowed := true, recurses := true, apart := false }
def FnTakeLeaseSaid : Prop := fnTakeLeaseRow.holds Try.pinned (OpenSpec.ofChange fnTakeLeaseSpec)

/-- ITS FALSE NEIGHBOUR: 'it returns false'. Refute it at one input. -/
def fnTakeLeaseWrong : ChangeSpec := { name := "fnTakeLease", fn := fun _ => fun
  | [d] => { results := [.lit (.bool false)], args := [d] }
  | _ => none }
def FnTakeLeaseWrongFalsely : Prop := fnTakeLeaseRow.holds Try.pinned (OpenSpec.ofChange fnTakeLeaseWrong)

/-- 'laws.FnTakeLeaseAgain': WHATEVER THE INPUT: true; the input reads as it did. -/
def fnTakeLeaseAgainSpec : ChangeSpec := { name := "fnTakeLeaseAgain", fn := fun _ => fun
  | [d] => { results := [.lit (.bool true)], args := [d] }
  | _ => none }
def fnTakeLeaseAgainRow : OpenClaim := { program := "ytcgmjkokkclciaa", sum := "2300f19edd6c009a64bca519b2731f97ed6664aed2d91a8e0c32f8f126fc6161", func := "loop.example/resourcestore/laws.FnTakeLeaseAgain", spec := "fnTakeLeaseAgain", inPlace := ["internal/bytealg.abigen_runtime_cmpstring", "slices.overlaps[loop.example/resourcestore/impl.Lease]"], unfollowed := true, recurses := true, apart := false }
def FnTakeLeaseAgainSaid : Prop := fnTakeLeaseAgainRow.holds Try.pinned (OpenSpec.ofChange fnTakeLeaseAgainSpec)

/-- ITS FALSE NEIGHBOUR: 'it returns false'. Refute it at one input. -/
def fnTakeLeaseAgainWrong : ChangeSpec := { name := "fnTakeLeaseAgain", fn := fun _ => fun
  | [d] => { results := [.lit (.bool false)], args := [d] }
  | _ => none }
def FnTakeLeaseAgainWrongFalsely : Prop := fnTakeLeaseAgainRow.holds Try.pinned (OpenSpec.ofChange fnTakeLeaseAgainWrong)

/-- 'laws.FnTakeLeaseOthers': WHATEVER THE INPUT: true; the input reads as it did. -/
def fnTakeLeaseOthersSpec : ChangeSpec := { name := "fnTakeLeaseOthers", fn := fun _ => fun
  | [d] => { results := [.lit (.bool true)], args := [d] }
  | _ => none }
def fnTakeLeaseOthersRow : OpenClaim := { program := "ytcgmjkokkclciaa", sum := "2300f19edd6c009a64bca519b2731f97ed6664aed2d91a8e0c32f8f126fc6161", func := "loop.example/resourcestore/laws.FnTakeLeaseOthers", spec := "fnTakeLeaseOthers", inPlace := ["internal/bytealg.abigen_runtime_cmpstring", "slices.overlaps[loop.example/resourcestore/impl.Lease]"], unfollowed := true, recurses := true, apart := false }
def FnTakeLeaseOthersSaid : Prop := fnTakeLeaseOthersRow.holds Try.pinned (OpenSpec.ofChange fnTakeLeaseOthersSpec)

/-- ITS FALSE NEIGHBOUR: 'it returns false'. Refute it at one input. -/
def fnTakeLeaseOthersWrong : ChangeSpec := { name := "fnTakeLeaseOthers", fn := fun _ => fun
  | [d] => { results := [.lit (.bool false)], args := [d] }
  | _ => none }
def FnTakeLeaseOthersWrongFalsely : Prop := fnTakeLeaseOthersRow.holds Try.pinned (OpenSpec.ofChange fnTakeLeaseOthersWrong)

/-- 'laws.FnExactTakeLease': WHATEVER THE INPUT: true; the input reads as it did. -/
def fnExactTakeLeaseSpec : ChangeSpec := { name := "fnExactTakeLease", fn := fun _ => fun
  | [d1, d2, d3, d4, d5] => { results := [.lit (.bool true)], args := [d1, d2, d3, d4, d5] }
  | _ => none }
def fnExactTakeLeaseRow : OpenClaim := { program := "ytcgmjkokkclciaa", sum := "2300f19edd6c009a64bca519b2731f97ed6664aed2d91a8e0c32f8f126fc6161", func := "loop.example/resourcestore/laws.FnExactTakeLease", spec := "fnExactTakeLease", inPlace := ["internal/bytealg.abigen_runtime_cmpstring", "slices.overlaps[loop.example/resourcestore/impl.Lease]"], unfollowed := true, recurses := true, apart := false }
def FnExactTakeLeaseSaid : Prop := fnExactTakeLeaseRow.holds Try.pinned (OpenSpec.ofChange fnExactTakeLeaseSpec)

/-- ITS FALSE NEIGHBOUR: 'it returns false'. Refute it at one input. -/
def fnExactTakeLeaseWrong : ChangeSpec := { name := "fnExactTakeLease", fn := fun _ => fun
  | [d1, d2, d3, d4, d5] => { results := [.lit (.bool false)], args := [d1, d2, d3, d4, d5] }
  | _ => none }
def FnExactTakeLeaseWrongFalsely : Prop := fnExactTakeLeaseRow.holds Try.pinned (OpenSpec.ofChange fnExactTakeLeaseWrong)

/-- 'laws.FnGiveLeaseTake': WHATEVER THE INPUT: true; the input reads as it did. -/
def fnGiveLeaseTakeSpec : ChangeSpec := { name := "fnGiveLeaseTake", fn := fun _ => fun
  | [d] => { results := [.lit (.bool true)], args := [d] }
  | _ => none }
def fnGiveLeaseTakeRow : OpenClaim := { program := "ytcgmjkokkclciaa", sum := "2300f19edd6c009a64bca519b2731f97ed6664aed2d91a8e0c32f8f126fc6161", func := "loop.example/resourcestore/laws.FnGiveLeaseTake", spec := "fnGiveLeaseTake", inPlace := ["internal/bytealg.abigen_runtime_cmpstring", "slices.overlaps[loop.example/resourcestore/impl.Lease]"], unfollowed := true, recurses := true, apart := false }
def FnGiveLeaseTakeSaid : Prop := fnGiveLeaseTakeRow.holds Try.pinned (OpenSpec.ofChange fnGiveLeaseTakeSpec)

/-- ITS FALSE NEIGHBOUR: 'it returns false'. Refute it at one input. -/
def fnGiveLeaseTakeWrong : ChangeSpec := { name := "fnGiveLeaseTake", fn := fun _ => fun
  | [d] => { results := [.lit (.bool false)], args := [d] }
  | _ => none }
def FnGiveLeaseTakeWrongFalsely : Prop := fnGiveLeaseTakeRow.holds Try.pinned (OpenSpec.ofChange fnGiveLeaseTakeWrong)

/- THE SECOND FORM. 'bulk': how many values and letters a reading holds, each counted each time it is reached (what is shared counts as often as it is met; a slice's spare places count too). A statement '..UptoSaid' is the law's where the arguments, and the package variables that the reading takes, are together of bulk at most 1048576: NARROWER than '..Said'. Prove '..Said' where nothing that the law and all that it calls make is longer than what came in: it says more and counts as full. Else prove '..UptoSaid'. A law counts once. -/
mutual
def uptoBulk {H : Type} : DataW H → Nat
  | .lit (.string bytes) => bytes.length + 1
  | .lit _ => 1
  | .nil => 1
  | .ptr d => uptoBulk d + 1
  | .slice elems spare => uptoBulkAll elems + uptoBulkAll spare + 1
  | .agg parts => uptoBulkAll parts + 1
  | .iface _ d => uptoBulk d + 1
  | .map entries => uptoBulkEntries entries + 1
  | .held _ => 1
def uptoBulkAll {H : Type} : List (DataW H) → Nat
  | [] => 0
  | d :: r => uptoBulk d + uptoBulkAll r
def uptoBulkEntries {H : Type} : List (Lit × DataW H) → Nat
  | [] => 0
  | x :: r => uptoBulkEntry x + uptoBulkEntries r
def uptoBulkEntry {H : Type} : Lit × DataW H → Nat
  | (.string bytes, d) => bytes.length + uptoBulk d + 1
  | (_, d) => uptoBulk d + 1
 end
def uptoSmall : (H : Type) → List (DataW H) → Bool := fun _ ds => decide (uptoBulkAll ds ≤ 1048576)
def OpenSpec.upto (s : _root_.Go.ChangeSpec) : _root_.Go.OpenSpec := { _root_.Go.OpenSpec.ofChange s with cond := some uptoSmall }

/-- 'laws.FnExactValidLeases', WHERE WHAT IT READS IS OF BULK AT MOST 1048576: true; the input reads as it did. -/
def fnExactValidLeasesUptoRow : OpenClaim := { program := "ytcgmjkokkclciaa", sum := "2300f19edd6c009a64bca519b2731f97ed6664aed2d91a8e0c32f8f126fc6161", func := "loop.example/resourcestore/laws.FnExactValidLeases", spec := "fnExactValidLeases", apart := false, narrowed := true }
def FnExactValidLeasesUptoSaid : Prop := fnExactValidLeasesUptoRow.holds Try.pinned (OpenSpec.upto fnExactValidLeasesSpec)

/-- 'laws.FnValidLeases', WHERE WHAT IT READS IS OF BULK AT MOST 1048576: true; the input reads as it did. -/
def fnValidLeasesUptoRow : OpenClaim := { program := "ytcgmjkokkclciaa", sum := "2300f19edd6c009a64bca519b2731f97ed6664aed2d91a8e0c32f8f126fc6161", func := "loop.example/resourcestore/laws.FnValidLeases", spec := "fnValidLeases", apart := false, narrowed := true }
def FnValidLeasesUptoSaid : Prop := fnValidLeasesUptoRow.holds Try.pinned (OpenSpec.upto fnValidLeasesSpec)

/-- 'laws.FnExactHolderOf', WHERE WHAT IT READS IS OF BULK AT MOST 1048576: true; the input reads as it did. -/
def fnExactHolderOfUptoRow : OpenClaim := { program := "ytcgmjkokkclciaa", sum := "2300f19edd6c009a64bca519b2731f97ed6664aed2d91a8e0c32f8f126fc6161", func := "loop.example/resourcestore/laws.FnExactHolderOf", spec := "fnExactHolderOf", inPlace := ["internal/bytealg.abigen_runtime_cmpstring"], unfollowed := true, recurses := true, apart := false, narrowed := true }
def FnExactHolderOfUptoSaid : Prop := fnExactHolderOfUptoRow.holds Try.pinned (OpenSpec.upto fnExactHolderOfSpec)

/-- 'laws.FnExactLiveLeases', WHERE WHAT IT READS IS OF BULK AT MOST 1048576: true; the input reads as it did. -/
def fnExactLiveLeasesUptoRow : OpenClaim := { program := "ytcgmjkokkclciaa", sum := "2300f19edd6c009a64bca519b2731f97ed6664aed2d91a8e0c32f8f126fc6161", func := "loop.example/resourcestore/laws.FnExactLiveLeases", spec := "fnExactLiveLeases", apart := false, narrowed := true }
def FnExactLiveLeasesUptoSaid : Prop := fnExactLiveLeasesUptoRow.holds Try.pinned (OpenSpec.upto fnExactLiveLeasesSpec)

/-- 'laws.FnLiveLeases', WHERE WHAT IT READS IS OF BULK AT MOST 1048576: true; the input reads as it did. -/
def fnLiveLeasesUptoRow : OpenClaim := { program := "ytcgmjkokkclciaa", sum := "2300f19edd6c009a64bca519b2731f97ed6664aed2d91a8e0c32f8f126fc6161", func := "loop.example/resourcestore/laws.FnLiveLeases", spec := "fnLiveLeases", inPlace := ["internal/bytealg.abigen_runtime_cmpstring"], unfollowed := true, recurses := true, apart := false, narrowed := true }
def FnLiveLeasesUptoSaid : Prop := fnLiveLeasesUptoRow.holds Try.pinned (OpenSpec.upto fnLiveLeasesSpec)

/-- 'laws.FnLiveLeasesLater', WHERE WHAT IT READS IS OF BULK AT MOST 1048576: true; the input reads as it did. -/
def fnLiveLeasesLaterUptoRow : OpenClaim := { program := "ytcgmjkokkclciaa", sum := "2300f19edd6c009a64bca519b2731f97ed6664aed2d91a8e0c32f8f126fc6161", func := "loop.example/resourcestore/laws.FnLiveLeasesLater", spec := "fnLiveLeasesLater", apart := false, narrowed := true }
def FnLiveLeasesLaterUptoSaid : Prop := fnLiveLeasesLaterUptoRow.holds Try.pinned (OpenSpec.upto fnLiveLeasesLaterSpec)

/-- 'laws.FnHolderOf', WHERE WHAT IT READS IS OF BULK AT MOST 1048576: true; the input reads as it did. -/
def fnHolderOfUptoRow : OpenClaim := { program := "ytcgmjkokkclciaa", sum := "2300f19edd6c009a64bca519b2731f97ed6664aed2d91a8e0c32f8f126fc6161", func := "loop.example/resourcestore/laws.FnHolderOf", spec := "fnHolderOf", inPlace := ["internal/bytealg.abigen_runtime_cmpstring"], unfollowed := true, recurses := true, apart := false, narrowed := true }
def FnHolderOfUptoSaid : Prop := fnHolderOfUptoRow.holds Try.pinned (OpenSpec.upto fnHolderOfSpec)

/-- 'laws.FnExactGiveLease', WHERE WHAT IT READS IS OF BULK AT MOST 1048576: true; the input reads as it did. -/
def fnExactGiveLeaseUptoRow : OpenClaim := { program := "ytcgmjkokkclciaa", sum := "2300f19edd6c009a64bca519b2731f97ed6664aed2d91a8e0c32f8f126fc6161", func := "loop.example/resourcestore/laws.FnExactGiveLease", spec := "fnExactGiveLease", inPlace := ["internal/bytealg.abigen_runtime_cmpstring"], unfollowed := true, recurses := true, apart := false, narrowed := true }
def FnExactGiveLeaseUptoSaid : Prop := fnExactGiveLeaseUptoRow.holds Try.pinned (OpenSpec.upto fnExactGiveLeaseSpec)

/-- 'laws.FnGiveLease', WHERE WHAT IT READS IS OF BULK AT MOST 1048576: true; the input reads as it did. -/
def fnGiveLeaseUptoRow : OpenClaim := { program := "ytcgmjkokkclciaa", sum := "2300f19edd6c009a64bca519b2731f97ed6664aed2d91a8e0c32f8f126fc6161", func := "loop.example/resourcestore/laws.FnGiveLease", spec := "fnGiveLease", inPlace := ["internal/bytealg.abigen_runtime_cmpstring"], unfollowed := true, recurses := true, apart := false, narrowed := true }
def FnGiveLeaseUptoSaid : Prop := fnGiveLeaseUptoRow.holds Try.pinned (OpenSpec.upto fnGiveLeaseSpec)

/-- 'laws.FnHolderOfNone', WHERE WHAT IT READS IS OF BULK AT MOST 1048576: true; the input reads as it did. -/
def fnHolderOfNoneUptoRow : OpenClaim := { program := "ytcgmjkokkclciaa", sum := "2300f19edd6c009a64bca519b2731f97ed6664aed2d91a8e0c32f8f126fc6161", func := "loop.example/resourcestore/laws.FnHolderOfNone", spec := "fnHolderOfNone", inPlace := ["internal/bytealg.abigen_runtime_cmpstring", "slices.overlaps[loop.example/resourcestore/impl.Lease]"], unfollowed := true, recurses := true, apart := false, narrowed := true }
def FnHolderOfNoneUptoSaid : Prop := fnHolderOfNoneUptoRow.holds Try.pinned (OpenSpec.upto fnHolderOfNoneSpec)

/-- 'laws.FnTakeLease', WHERE WHAT IT READS IS OF BULK AT MOST 1048576: true; the input reads as it did. -/
def fnTakeLeaseUptoRow : OpenClaim := { program := "ytcgmjkokkclciaa", sum := "2300f19edd6c009a64bca519b2731f97ed6664aed2d91a8e0c32f8f126fc6161", func := "loop.example/resourcestore/laws.FnTakeLease", spec := "fnTakeLease", inPlace := ["internal/bytealg.abigen_runtime_cmpstring", "slices.overlaps[loop.example/resourcestore/impl.Lease]"], unfollowed := true, recurses := true, apart := false, narrowed := true }
def FnTakeLeaseUptoSaid : Prop := fnTakeLeaseUptoRow.holds Try.pinned (OpenSpec.upto fnTakeLeaseSpec)

/-- 'laws.FnTakeLeaseAgain', WHERE WHAT IT READS IS OF BULK AT MOST 1048576: true; the input reads as it did. -/
def fnTakeLeaseAgainUptoRow : OpenClaim := { program := "ytcgmjkokkclciaa", sum := "2300f19edd6c009a64bca519b2731f97ed6664aed2d91a8e0c32f8f126fc6161", func := "loop.example/resourcestore/laws.FnTakeLeaseAgain", spec := "fnTakeLeaseAgain", inPlace := ["internal/bytealg.abigen_runtime_cmpstring", "slices.overlaps[loop.example/resourcestore/impl.Lease]"], unfollowed := true, recurses := true, apart := false, narrowed := true }
def FnTakeLeaseAgainUptoSaid : Prop := fnTakeLeaseAgainUptoRow.holds Try.pinned (OpenSpec.upto fnTakeLeaseAgainSpec)

/-- 'laws.FnTakeLeaseOthers', WHERE WHAT IT READS IS OF BULK AT MOST 1048576: true; the input reads as it did. -/
def fnTakeLeaseOthersUptoRow : OpenClaim := { program := "ytcgmjkokkclciaa", sum := "2300f19edd6c009a64bca519b2731f97ed6664aed2d91a8e0c32f8f126fc6161", func := "loop.example/resourcestore/laws.FnTakeLeaseOthers", spec := "fnTakeLeaseOthers", inPlace := ["internal/bytealg.abigen_runtime_cmpstring", "slices.overlaps[loop.example/resourcestore/impl.Lease]"], unfollowed := true, recurses := true, apart := false, narrowed := true }
def FnTakeLeaseOthersUptoSaid : Prop := fnTakeLeaseOthersUptoRow.holds Try.pinned (OpenSpec.upto fnTakeLeaseOthersSpec)

/-- 'laws.FnExactTakeLease', WHERE WHAT IT READS IS OF BULK AT MOST 1048576: true; the input reads as it did. -/
def fnExactTakeLeaseUptoRow : OpenClaim := { program := "ytcgmjkokkclciaa", sum := "2300f19edd6c009a64bca519b2731f97ed6664aed2d91a8e0c32f8f126fc6161", func := "loop.example/resourcestore/laws.FnExactTakeLease", spec := "fnExactTakeLease", inPlace := ["internal/bytealg.abigen_runtime_cmpstring", "slices.overlaps[loop.example/resourcestore/impl.Lease]"], unfollowed := true, recurses := true, apart := false, narrowed := true }
def FnExactTakeLeaseUptoSaid : Prop := fnExactTakeLeaseUptoRow.holds Try.pinned (OpenSpec.upto fnExactTakeLeaseSpec)

/-- 'laws.FnGiveLeaseTake', WHERE WHAT IT READS IS OF BULK AT MOST 1048576: true; the input reads as it did. -/
def fnGiveLeaseTakeUptoRow : OpenClaim := { program := "ytcgmjkokkclciaa", sum := "2300f19edd6c009a64bca519b2731f97ed6664aed2d91a8e0c32f8f126fc6161", func := "loop.example/resourcestore/laws.FnGiveLeaseTake", spec := "fnGiveLeaseTake", inPlace := ["internal/bytealg.abigen_runtime_cmpstring", "slices.overlaps[loop.example/resourcestore/impl.Lease]"], unfollowed := true, recurses := true, apart := false, narrowed := true }
def FnGiveLeaseTakeUptoSaid : Prop := fnGiveLeaseTakeUptoRow.holds Try.pinned (OpenSpec.upto fnGiveLeaseTakeSpec)

end Rows
end Go.Proofs.Ytcgmjkokkclciaa
