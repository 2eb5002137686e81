/-
  DERIVED. GIVEN WITH THE SEED: THE CARDS: each row of YthllkjhommnocaaDoorRows.lean that lists a variable, with what it lists TIED to the program's text (the seventh form; the later family's looks); each row that meets fmt, with fmt's text TOLD by the authors' own Lean function (tested against real Go, not proved from fmt's source: count such statements apart). THE CARD IS WHAT COUNTS. Prove the row's statement (the work); the ties are given (YthllkjhommnocaaDoorTie.lean); close each card by the builder's one call (the guide's Derived/Test/ToyasCard.lean, 'card_holds'). Laid BY PROGRAM, IN A SANDBOX (cutbox-door.mjs). By AI agents, Wed Nov 11 2026. No macro, syntax, notation, axiom, sorry.
-/
import Derived.Test.YthllkjhommnocaaDoorRows
import GoSem.ClaimSeven
namespace Go.Proofs.YthllkjhommnocaaDoor
namespace Rows

/-- THE TIED CARD OF 'entrepotlaw12.StrictFits'. -/
def strictFitsCard : Claim7 := { stood := { row := strictFitsRow, standIns := [], harness := (true, "548e4c34660c10c167cc5023bd118fad75740d7a29f06d9eef3bf0c9ead23999"), looks := true }, kinds := [], alts := [], laidByText := true, laidKinds := [.data], laidTests := true, laidLooks := .later }
def StrictFitsCardSaid : Prop := Claim7.holds Tryd.pinned (.plain (OpenSpec.ofChange strictFitsSpec)) strictFitsCard

/-- THE TIED CARD OF 'entrepotlaw12.StrictKnown'. -/
def strictKnownCard : Claim7 := { stood := { row := strictKnownRow, standIns := [], harness := (true, "548e4c34660c10c167cc5023bd118fad75740d7a29f06d9eef3bf0c9ead23999"), looks := true }, kinds := [], alts := [], laidByText := true, laidKinds := [.data], laidTests := true, laidLooks := .later }
def StrictKnownCardSaid : Prop := Claim7.holds Tryd.pinned (.plain (OpenSpec.ofChange strictKnownSpec)) strictKnownCard

/-- THE TIED CARD OF 'entrepotlaw12.StrictThings'. -/
def strictThingsCard : Claim7 := { stood := { row := strictThingsRow, standIns := [], harness := (true, "548e4c34660c10c167cc5023bd118fad75740d7a29f06d9eef3bf0c9ead23999"), looks := true }, kinds := [], alts := [], laidByText := true, laidKinds := [.data], laidTests := true, laidLooks := .later }
def StrictThingsCardSaid : Prop := Claim7.holds Tryd.pinned (.plain (OpenSpec.ofChange strictThingsSpec)) strictThingsCard

/-- THE TIED CARD OF 'entrepotlaw12.StrictPlatforms'. -/
def strictPlatformsCard : Claim7 := { stood := { row := strictPlatformsRow, standIns := [], harness := (true, "548e4c34660c10c167cc5023bd118fad75740d7a29f06d9eef3bf0c9ead23999"), looks := true }, kinds := [], alts := [], laidByText := true, laidKinds := [.data], laidTests := true, laidLooks := .later }
def StrictPlatformsCardSaid : Prop := Claim7.holds Tryd.pinned (.plain (OpenSpec.ofChange strictPlatformsSpec)) strictPlatformsCard

/-- THE SECOND FORM's CARD OF 'entrepotlaw12.StrictFits'. -/
def strictFitsUptoCard : Claim7 := { stood := { row := strictFitsUptoRow, standIns := [], harness := (true, "548e4c34660c10c167cc5023bd118fad75740d7a29f06d9eef3bf0c9ead23999"), looks := true }, kinds := [], alts := [], laidByText := true, laidKinds := [.data], laidTests := true, laidLooks := .later }
def StrictFitsUptoCardSaid : Prop := Claim7.holds Tryd.pinned (.plain (OpenSpec.upto strictFitsSpec)) strictFitsUptoCard

/-- THE SECOND FORM's CARD OF 'entrepotlaw12.StrictKnown'. -/
def strictKnownUptoCard : Claim7 := { stood := { row := strictKnownUptoRow, standIns := [], harness := (true, "548e4c34660c10c167cc5023bd118fad75740d7a29f06d9eef3bf0c9ead23999"), looks := true }, kinds := [], alts := [], laidByText := true, laidKinds := [.data], laidTests := true, laidLooks := .later }
def StrictKnownUptoCardSaid : Prop := Claim7.holds Tryd.pinned (.plain (OpenSpec.upto strictKnownSpec)) strictKnownUptoCard

/-- THE SECOND FORM's CARD OF 'entrepotlaw12.StrictThings'. -/
def strictThingsUptoCard : Claim7 := { stood := { row := strictThingsUptoRow, standIns := [], harness := (true, "548e4c34660c10c167cc5023bd118fad75740d7a29f06d9eef3bf0c9ead23999"), looks := true }, kinds := [], alts := [], laidByText := true, laidKinds := [.data], laidTests := true, laidLooks := .later }
def StrictThingsUptoCardSaid : Prop := Claim7.holds Tryd.pinned (.plain (OpenSpec.upto strictThingsSpec)) strictThingsUptoCard
end Rows
end Go.Proofs.YthllkjhommnocaaDoor
