/-
  DERIVED. GIVEN WITH THE SEED: THE CARDS: each row of YtpofoikpmafnbaaDoorRows.lean that lists a variable, with what it lists TIED to the program's text (the seventh form; the later family's looks); each row that meets fmt, with fmt's text TOLD by the authors' own Lean function (tested against real Go, not proved from fmt's source: count such statements apart). THE CARD IS WHAT COUNTS. Prove the row's statement (the work); the ties are given (YtpofoikpmafnbaaDoorTie.lean); close each card by the builder's one call (the guide's Derived/Test/ToyasCard.lean, 'card_holds'). Laid BY PROGRAM, IN A SANDBOX (cutbox-door.mjs). By AI agents, Wed Nov 11 2026. No macro, syntax, notation, axiom, sorry.
-/
import Derived.Test.YtpofoikpmafnbaaDoorRows
import GoSem.ClaimSeven
namespace Go.Proofs.YtpofoikpmafnbaaDoor
namespace Rows

/-- THE TIED CARD OF 'laws.FnExactParseTags'. -/
def fnExactParseTagsCard : Claim7 := { stood := { row := fnExactParseTagsRow, standIns := [], harness := (true, "40eaf313ce250b3bbf76ed8f28d8101b0d374979ee054a88cb6374338bebaad1"), looks := false }, kinds := [], alts := [], laidByText := true, laidKinds := [.data, .pinned], laidTests := true, laidLooks := .later }
def FnExactParseTagsCardSaid : Prop := Claim7.holds Tryd.pinned (.plain (OpenSpec.ofChange fnExactParseTagsSpec)) fnExactParseTagsCard

/-- THE TIED CARD OF 'laws.FnTagsRoundTrip'. -/
def fnTagsRoundTripCard : Claim7 := { stood := { row := fnTagsRoundTripRow, standIns := [], harness := (true, "40eaf313ce250b3bbf76ed8f28d8101b0d374979ee054a88cb6374338bebaad1"), looks := false }, kinds := [], alts := [], laidByText := true, laidKinds := [.data, .pinned], laidTests := true, laidLooks := .later }
def FnTagsRoundTripCardSaid : Prop := Claim7.holds Tryd.pinned (.plain (OpenSpec.ofChange fnTagsRoundTripSpec)) fnTagsRoundTripCard

/-- THE TIED CARD OF 'laws.FnTagsCanonical'. -/
def fnTagsCanonicalCard : Claim7 := { stood := { row := fnTagsCanonicalRow, standIns := [], harness := (true, "40eaf313ce250b3bbf76ed8f28d8101b0d374979ee054a88cb6374338bebaad1"), looks := false }, kinds := [], alts := [], laidByText := true, laidKinds := [.data, .pinned], laidTests := true, laidLooks := .later }
def FnTagsCanonicalCardSaid : Prop := Claim7.holds Tryd.pinned (.plain (OpenSpec.ofChange fnTagsCanonicalSpec)) fnTagsCanonicalCard

/-- THE SECOND FORM's CARD OF 'laws.FnExactParseTags'. -/
def fnExactParseTagsUptoCard : Claim7 := { stood := { row := fnExactParseTagsUptoRow, standIns := [], harness := (true, "40eaf313ce250b3bbf76ed8f28d8101b0d374979ee054a88cb6374338bebaad1"), looks := false }, kinds := [], alts := [], laidByText := true, laidKinds := [.data, .pinned], laidTests := true, laidLooks := .later }
def FnExactParseTagsUptoCardSaid : Prop := Claim7.holds Tryd.pinned (.plain (OpenSpec.upto fnExactParseTagsSpec)) fnExactParseTagsUptoCard

/-- THE SECOND FORM's CARD OF 'laws.FnTagsRoundTrip'. -/
def fnTagsRoundTripUptoCard : Claim7 := { stood := { row := fnTagsRoundTripUptoRow, standIns := [], harness := (true, "40eaf313ce250b3bbf76ed8f28d8101b0d374979ee054a88cb6374338bebaad1"), looks := false }, kinds := [], alts := [], laidByText := true, laidKinds := [.data, .pinned], laidTests := true, laidLooks := .later }
def FnTagsRoundTripUptoCardSaid : Prop := Claim7.holds Tryd.pinned (.plain (OpenSpec.upto fnTagsRoundTripSpec)) fnTagsRoundTripUptoCard

/-- THE SECOND FORM's CARD OF 'laws.FnTagsCanonical'. -/
def fnTagsCanonicalUptoCard : Claim7 := { stood := { row := fnTagsCanonicalUptoRow, standIns := [], harness := (true, "40eaf313ce250b3bbf76ed8f28d8101b0d374979ee054a88cb6374338bebaad1"), looks := false }, kinds := [], alts := [], laidByText := true, laidKinds := [.data, .pinned], laidTests := true, laidLooks := .later }
def FnTagsCanonicalUptoCardSaid : Prop := Claim7.holds Tryd.pinned (.plain (OpenSpec.upto fnTagsCanonicalSpec)) fnTagsCanonicalUptoCard
end Rows
end Go.Proofs.YtpofoikpmafnbaaDoor
