/-
  DERIVED. GIVEN WITH THE SEED: THE CARDS: each row of YtiigecbglbfpcaaDoorRows.lean that lists a variable, with what it lists TIED to the program's text (the seventh form; the later family's looks); each row that meets fmt, with fmt's text TOLD by the authors' own Lean function (tested against real Go, not proved from fmt's source: count such statements apart). THE CARD IS WHAT COUNTS. Prove the row's statement (the work); the ties are given (YtiigecbglbfpcaaDoorTie.lean); close each card by the builder's one call (the guide's Derived/Test/ToyasCard.lean, 'card_holds'). Laid BY PROGRAM, IN A SANDBOX (cutbox-door.mjs). By AI agents, Wed Nov 11 2026. No macro, syntax, notation, axiom, sorry.
-/
import Derived.Test.YtiigecbglbfpcaaDoorRows
import GoSem.ClaimSeven
namespace Go.Proofs.YtiigecbglbfpcaaDoor
namespace Rows

/-- THE TIED CARD OF 'laws.FnPathCanonical'. -/
def fnPathCanonicalCard : Claim7 := { stood := { row := fnPathCanonicalRow, standIns := [], harness := (true, "5fcfd1dfef9f849abcf735c5a3ada34f767e63545a3fa291ecf764338efdea21"), looks := false }, kinds := [], alts := [], laidByText := true, laidKinds := [.data, .pinned], laidTests := true, laidLooks := .later }
def FnPathCanonicalCardSaid : Prop := Claim7.holds Tryd.pinned (.plain (OpenSpec.ofChange fnPathCanonicalSpec)) fnPathCanonicalCard

/-- THE TIED CARD OF 'laws.FnPathSlash'. -/
def fnPathSlashCard : Claim7 := { stood := { row := fnPathSlashRow, standIns := [], harness := (true, "5fcfd1dfef9f849abcf735c5a3ada34f767e63545a3fa291ecf764338efdea21"), looks := false }, kinds := [], alts := [], laidByText := true, laidKinds := [.data, .pinned], laidTests := true, laidLooks := .later }
def FnPathSlashCardSaid : Prop := Claim7.holds Tryd.pinned (.plain (OpenSpec.ofChange fnPathSlashSpec)) fnPathSlashCard

/-- THE TIED CARD OF 'laws.FnExactParsePath'. -/
def fnExactParsePathCard : Claim7 := { stood := { row := fnExactParsePathRow, standIns := [], harness := (true, "5fcfd1dfef9f849abcf735c5a3ada34f767e63545a3fa291ecf764338efdea21"), looks := false }, kinds := [], alts := [], laidByText := true, laidKinds := [.data, .pinned], laidTests := true, laidLooks := .later }
def FnExactParsePathCardSaid : Prop := Claim7.holds Tryd.pinned (.plain (OpenSpec.ofChange fnExactParsePathSpec)) fnExactParsePathCard

/-- THE TIED CARD OF 'laws.FnPathRoundTrip'. -/
def fnPathRoundTripCard : Claim7 := { stood := { row := fnPathRoundTripRow, standIns := [], harness := (true, "5fcfd1dfef9f849abcf735c5a3ada34f767e63545a3fa291ecf764338efdea21"), looks := false }, kinds := [], alts := [], laidByText := true, laidKinds := [.data, .pinned], laidTests := true, laidLooks := .later }
def FnPathRoundTripCardSaid : Prop := Claim7.holds Tryd.pinned (.plain (OpenSpec.ofChange fnPathRoundTripSpec)) fnPathRoundTripCard

/-- THE SECOND FORM's CARD OF 'laws.FnPathCanonical'. -/
def fnPathCanonicalUptoCard : Claim7 := { stood := { row := fnPathCanonicalUptoRow, standIns := [], harness := (true, "5fcfd1dfef9f849abcf735c5a3ada34f767e63545a3fa291ecf764338efdea21"), looks := false }, kinds := [], alts := [], laidByText := true, laidKinds := [.data, .pinned], laidTests := true, laidLooks := .later }
def FnPathCanonicalUptoCardSaid : Prop := Claim7.holds Tryd.pinned (.plain (OpenSpec.upto fnPathCanonicalSpec)) fnPathCanonicalUptoCard

/-- THE SECOND FORM's CARD OF 'laws.FnPathSlash'. -/
def fnPathSlashUptoCard : Claim7 := { stood := { row := fnPathSlashUptoRow, standIns := [], harness := (true, "5fcfd1dfef9f849abcf735c5a3ada34f767e63545a3fa291ecf764338efdea21"), looks := false }, kinds := [], alts := [], laidByText := true, laidKinds := [.data, .pinned], laidTests := true, laidLooks := .later }
def FnPathSlashUptoCardSaid : Prop := Claim7.holds Tryd.pinned (.plain (OpenSpec.upto fnPathSlashSpec)) fnPathSlashUptoCard

/-- THE SECOND FORM's CARD OF 'laws.FnExactParsePath'. -/
def fnExactParsePathUptoCard : Claim7 := { stood := { row := fnExactParsePathUptoRow, standIns := [], harness := (true, "5fcfd1dfef9f849abcf735c5a3ada34f767e63545a3fa291ecf764338efdea21"), looks := false }, kinds := [], alts := [], laidByText := true, laidKinds := [.data, .pinned], laidTests := true, laidLooks := .later }
def FnExactParsePathUptoCardSaid : Prop := Claim7.holds Tryd.pinned (.plain (OpenSpec.upto fnExactParsePathSpec)) fnExactParsePathUptoCard

/-- THE SECOND FORM's CARD OF 'laws.FnPathRoundTrip'. -/
def fnPathRoundTripUptoCard : Claim7 := { stood := { row := fnPathRoundTripUptoRow, standIns := [], harness := (true, "5fcfd1dfef9f849abcf735c5a3ada34f767e63545a3fa291ecf764338efdea21"), looks := false }, kinds := [], alts := [], laidByText := true, laidKinds := [.data, .pinned], laidTests := true, laidLooks := .later }
def FnPathRoundTripUptoCardSaid : Prop := Claim7.holds Tryd.pinned (.plain (OpenSpec.upto fnPathRoundTripSpec)) fnPathRoundTripUptoCard
end Rows
end Go.Proofs.YtiigecbglbfpcaaDoor
