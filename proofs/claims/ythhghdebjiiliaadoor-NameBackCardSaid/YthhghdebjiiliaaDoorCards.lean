/-
  DERIVED. GIVEN WITH THE SEED: THE CARDS: each row of YthhghdebjiiliaaDoorRows.lean that lists a variable, with what it lists TIED to the program's text (the seventh form; the later family's looks); each row that meets fmt, with fmt's text TOLD by the authors' own Lean function (tested against real Go, not proved from fmt's source: count such statements apart). THE CARD IS WHAT COUNTS. Prove the row's statement (the work); the ties are given (YthhghdebjiiliaaDoorTie.lean); close each card by the builder's one call (the guide's Derived/Test/ToyasCard.lean, 'card_holds'). Laid BY PROGRAM, IN A SANDBOX (cutbox-door.mjs). By AI agents, Wed Nov 11 2026. No macro, syntax, notation, axiom, sorry.
-/
import Derived.Test.YthhghdebjiiliaaDoorRows
import GoSem.ClaimSeven
namespace Go.Proofs.YthhghdebjiiliaaDoor
namespace Rows

/-- THE TIED CARD OF 'entrepotlaw03.NameDigests'. -/
def nameDigestsCard : Claim7 := { stood := { row := nameDigestsRow, standIns := [], harness := (true, "4e1fea3b5cc7b8576e00b2a4d987688ce4f2f131a90a115ecf33927dfc9d375c"), looks := false }, kinds := [], alts := [], laidByText := true, laidKinds := [.data], laidTests := true, laidLooks := .later }
def NameDigestsCardSaid : Prop := Claim7.holds Tryd.pinned (.plain (OpenSpec.ofChange nameDigestsSpec)) nameDigestsCard

/-- THE TIED CARD OF 'entrepotlaw03.NameKnown'. -/
def nameKnownCard : Claim7 := { stood := { row := nameKnownRow, standIns := [], harness := (true, "4e1fea3b5cc7b8576e00b2a4d987688ce4f2f131a90a115ecf33927dfc9d375c"), looks := false }, kinds := [], alts := [], laidByText := true, laidKinds := [.data], laidTests := true, laidLooks := .later }
def NameKnownCardSaid : Prop := Claim7.holds Tryd.pinned (.plain (OpenSpec.ofChange nameKnownSpec)) nameKnownCard

/-- THE TIED CARD OF 'entrepotlaw03.NameBack'. -/
def nameBackCard : Claim7 := { stood := { row := nameBackRow, standIns := [], harness := (true, "4e1fea3b5cc7b8576e00b2a4d987688ce4f2f131a90a115ecf33927dfc9d375c"), looks := false }, kinds := [], alts := [], laidByText := true, laidKinds := [.data], laidTests := true, laidLooks := .later }
def NameBackCardSaid : Prop := Claim7.holds Tryd.pinned (.plain (OpenSpec.ofChange nameBackSpec)) nameBackCard

/-- THE TIED CARD OF 'entrepotlaw03.NameJoins'. -/
def nameJoinsCard : Claim7 := { stood := { row := nameJoinsRow, standIns := [], harness := (true, "4e1fea3b5cc7b8576e00b2a4d987688ce4f2f131a90a115ecf33927dfc9d375c"), looks := false }, kinds := [], alts := [], laidByText := true, laidKinds := [.data], laidTests := true, laidLooks := .later }
def NameJoinsCardSaid : Prop := Claim7.holds Tryd.pinned (.plain (OpenSpec.ofChange nameJoinsSpec)) nameJoinsCard

/-- THE TIED CARD OF 'entrepotlaw03.NamePlaces'. -/
def namePlacesCard : Claim7 := { stood := { row := namePlacesRow, standIns := [], harness := (true, "4e1fea3b5cc7b8576e00b2a4d987688ce4f2f131a90a115ecf33927dfc9d375c"), looks := false }, kinds := [], alts := [], laidByText := true, laidKinds := [.data], laidTests := true, laidLooks := .later }
def NamePlacesCardSaid : Prop := Claim7.holds Tryd.pinned (.plain (OpenSpec.ofChange namePlacesSpec)) namePlacesCard

/-- THE SECOND FORM's CARD OF 'entrepotlaw03.NameDigests'. -/
def nameDigestsUptoCard : Claim7 := { stood := { row := nameDigestsUptoRow, standIns := [], harness := (true, "4e1fea3b5cc7b8576e00b2a4d987688ce4f2f131a90a115ecf33927dfc9d375c"), looks := false }, kinds := [], alts := [], laidByText := true, laidKinds := [.data], laidTests := true, laidLooks := .later }
def NameDigestsUptoCardSaid : Prop := Claim7.holds Tryd.pinned (.plain (OpenSpec.upto nameDigestsSpec)) nameDigestsUptoCard

/-- THE SECOND FORM's CARD OF 'entrepotlaw03.NameKnown'. -/
def nameKnownUptoCard : Claim7 := { stood := { row := nameKnownUptoRow, standIns := [], harness := (true, "4e1fea3b5cc7b8576e00b2a4d987688ce4f2f131a90a115ecf33927dfc9d375c"), looks := false }, kinds := [], alts := [], laidByText := true, laidKinds := [.data], laidTests := true, laidLooks := .later }
def NameKnownUptoCardSaid : Prop := Claim7.holds Tryd.pinned (.plain (OpenSpec.upto nameKnownSpec)) nameKnownUptoCard

/-- THE SECOND FORM's CARD OF 'entrepotlaw03.NameJoins'. -/
def nameJoinsUptoCard : Claim7 := { stood := { row := nameJoinsUptoRow, standIns := [], harness := (true, "4e1fea3b5cc7b8576e00b2a4d987688ce4f2f131a90a115ecf33927dfc9d375c"), looks := false }, kinds := [], alts := [], laidByText := true, laidKinds := [.data], laidTests := true, laidLooks := .later }
def NameJoinsUptoCardSaid : Prop := Claim7.holds Tryd.pinned (.plain (OpenSpec.upto nameJoinsSpec)) nameJoinsUptoCard

/-- THE SECOND FORM's CARD OF 'entrepotlaw03.NamePlaces'. -/
def namePlacesUptoCard : Claim7 := { stood := { row := namePlacesUptoRow, standIns := [], harness := (true, "4e1fea3b5cc7b8576e00b2a4d987688ce4f2f131a90a115ecf33927dfc9d375c"), looks := false }, kinds := [], alts := [], laidByText := true, laidKinds := [.data], laidTests := true, laidLooks := .later }
def NamePlacesUptoCardSaid : Prop := Claim7.holds Tryd.pinned (.plain (OpenSpec.upto namePlacesSpec)) namePlacesUptoCard
end Rows
end Go.Proofs.YthhghdebjiiliaaDoor
