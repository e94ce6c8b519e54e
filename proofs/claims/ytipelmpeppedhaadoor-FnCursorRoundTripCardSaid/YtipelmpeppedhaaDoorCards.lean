/-
  DERIVED. GIVEN WITH THE SEED: THE CARDS: each row of YtipelmpeppedhaaDoorRows.lean that lists a variable, with what it lists TIED to the program's text (the seventh form; the later family's looks); each row that meets fmt, with fmt's text TOLD by the authors' own Lean function (tested against real Go, not proved from fmt's source: count such statements apart). THE CARD IS WHAT COUNTS. Prove the row's statement (the work); the ties are given (YtipelmpeppedhaaDoorTie.lean); close each card by the builder's one call (the guide's Derived/Test/ToyasCard.lean, 'card_holds'). Laid BY PROGRAM, IN A SANDBOX (cutbox-door.mjs). By AI agents, Wed Nov 11 2026. No macro, syntax, notation, axiom, sorry.
-/
import Derived.Test.YtipelmpeppedhaaDoorRows
import GoSem.ClaimSeven
namespace Go.Proofs.YtipelmpeppedhaaDoor
namespace Rows

/-- THE TIED CARD OF 'laws.FnCursorCanonical'. -/
def fnCursorCanonicalCard : Claim7 := { stood := { row := fnCursorCanonicalRow, standIns := [], harness := (true, "763c6d67774c34cb2ff8172ade41f03ee239e77c4d78c63ef0e62396a8f48af2"), looks := false }, kinds := [], alts := [], laidByText := true, laidKinds := [.data, .data, .data], laidTests := true, laidLooks := .later }
def FnCursorCanonicalCardSaid : Prop := Claim7.holds Tryd.pinned (.plain (OpenSpec.ofChange fnCursorCanonicalSpec)) fnCursorCanonicalCard

/-- THE TIED CARD OF 'laws.FnExactFormatCursor'. -/
def fnExactFormatCursorCard : Claim7 := { stood := { row := fnExactFormatCursorRow, standIns := [], harness := (true, "763c6d67774c34cb2ff8172ade41f03ee239e77c4d78c63ef0e62396a8f48af2"), looks := false }, kinds := [], alts := [], laidByText := true, laidKinds := [.data, .data, .data], laidTests := true, laidLooks := .later }
def FnExactFormatCursorCardSaid : Prop := Claim7.holds Tryd.pinned (.plain (OpenSpec.ofChange fnExactFormatCursorSpec)) fnExactFormatCursorCard

/-- THE TIED CARD OF 'laws.FnExactReadCursor'. -/
def fnExactReadCursorCard : Claim7 := { stood := { row := fnExactReadCursorRow, standIns := [], harness := (true, "763c6d67774c34cb2ff8172ade41f03ee239e77c4d78c63ef0e62396a8f48af2"), looks := false }, kinds := [], alts := [], laidByText := true, laidKinds := [.data, .data, .data], laidTests := true, laidLooks := .later }
def FnExactReadCursorCardSaid : Prop := Claim7.holds Tryd.pinned (.plain (OpenSpec.ofChange fnExactReadCursorSpec)) fnExactReadCursorCard

/-- THE TIED CARD OF 'laws.FnCursorLimit'. -/
def fnCursorLimitCard : Claim7 := { stood := { row := fnCursorLimitRow, standIns := [], harness := (true, "763c6d67774c34cb2ff8172ade41f03ee239e77c4d78c63ef0e62396a8f48af2"), looks := false }, kinds := [], alts := [], laidByText := true, laidKinds := [.data, .data, .data], laidTests := true, laidLooks := .later }
def FnCursorLimitCardSaid : Prop := Claim7.holds Tryd.pinned (.plain (OpenSpec.ofChange fnCursorLimitSpec)) fnCursorLimitCard

/-- THE TIED CARD OF 'laws.FnCursorRoundTrip'. -/
def fnCursorRoundTripCard : Claim7 := { stood := { row := fnCursorRoundTripRow, standIns := [], harness := (true, "763c6d67774c34cb2ff8172ade41f03ee239e77c4d78c63ef0e62396a8f48af2"), looks := false }, kinds := [], alts := [], laidByText := true, laidKinds := [.data, .data, .data], laidTests := true, laidLooks := .later }
def FnCursorRoundTripCardSaid : Prop := Claim7.holds Tryd.pinned (.plain (OpenSpec.ofChange fnCursorRoundTripSpec)) fnCursorRoundTripCard

/-- THE SECOND FORM's CARD OF 'laws.FnCursorCanonical'. -/
def fnCursorCanonicalUptoCard : Claim7 := { stood := { row := fnCursorCanonicalUptoRow, standIns := [], harness := (true, "763c6d67774c34cb2ff8172ade41f03ee239e77c4d78c63ef0e62396a8f48af2"), looks := false }, kinds := [], alts := [], laidByText := true, laidKinds := [.data, .data, .data], laidTests := true, laidLooks := .later }
def FnCursorCanonicalUptoCardSaid : Prop := Claim7.holds Tryd.pinned (.plain (OpenSpec.upto fnCursorCanonicalSpec)) fnCursorCanonicalUptoCard

/-- THE SECOND FORM's CARD OF 'laws.FnExactFormatCursor'. -/
def fnExactFormatCursorUptoCard : Claim7 := { stood := { row := fnExactFormatCursorUptoRow, standIns := [], harness := (true, "763c6d67774c34cb2ff8172ade41f03ee239e77c4d78c63ef0e62396a8f48af2"), looks := false }, kinds := [], alts := [], laidByText := true, laidKinds := [.data, .data, .data], laidTests := true, laidLooks := .later }
def FnExactFormatCursorUptoCardSaid : Prop := Claim7.holds Tryd.pinned (.plain (OpenSpec.upto fnExactFormatCursorSpec)) fnExactFormatCursorUptoCard

/-- THE SECOND FORM's CARD OF 'laws.FnExactReadCursor'. -/
def fnExactReadCursorUptoCard : Claim7 := { stood := { row := fnExactReadCursorUptoRow, standIns := [], harness := (true, "763c6d67774c34cb2ff8172ade41f03ee239e77c4d78c63ef0e62396a8f48af2"), looks := false }, kinds := [], alts := [], laidByText := true, laidKinds := [.data, .data, .data], laidTests := true, laidLooks := .later }
def FnExactReadCursorUptoCardSaid : Prop := Claim7.holds Tryd.pinned (.plain (OpenSpec.upto fnExactReadCursorSpec)) fnExactReadCursorUptoCard

/-- THE SECOND FORM's CARD OF 'laws.FnCursorLimit'. -/
def fnCursorLimitUptoCard : Claim7 := { stood := { row := fnCursorLimitUptoRow, standIns := [], harness := (true, "763c6d67774c34cb2ff8172ade41f03ee239e77c4d78c63ef0e62396a8f48af2"), looks := false }, kinds := [], alts := [], laidByText := true, laidKinds := [.data, .data, .data], laidTests := true, laidLooks := .later }
def FnCursorLimitUptoCardSaid : Prop := Claim7.holds Tryd.pinned (.plain (OpenSpec.upto fnCursorLimitSpec)) fnCursorLimitUptoCard

/-- THE SECOND FORM's CARD OF 'laws.FnCursorRoundTrip'. -/
def fnCursorRoundTripUptoCard : Claim7 := { stood := { row := fnCursorRoundTripUptoRow, standIns := [], harness := (true, "763c6d67774c34cb2ff8172ade41f03ee239e77c4d78c63ef0e62396a8f48af2"), looks := false }, kinds := [], alts := [], laidByText := true, laidKinds := [.data, .data, .data], laidTests := true, laidLooks := .later }
def FnCursorRoundTripUptoCardSaid : Prop := Claim7.holds Tryd.pinned (.plain (OpenSpec.upto fnCursorRoundTripSpec)) fnCursorRoundTripUptoCard
end Rows
end Go.Proofs.YtipelmpeppedhaaDoor
