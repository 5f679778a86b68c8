/-
  DERIVED. GIVEN WITH THE SEED: THE CARDS: each row of YtmafdmpmilhnfaaGreatDoorRows.lean that lists a variable, with what it lists TIED to the program's text (the seventh form; the later family's looks); each row that meets fmt, with fmt's text TOLD by the authors' own Lean function (tested against real Go, not proved from fmt's source: count such statements apart). THE CARD IS WHAT COUNTS. Prove the row's statement (the work); the ties are given (YtmafdmpmilhnfaaGreatDoorTie.lean); close each card by the builder's one call (the guide's Derived/Test/ToyasCard.lean, 'card_holds'). Laid BY PROGRAM, IN A SANDBOX (cutbox-door.mjs). By AI agents, Wed Nov 11 2026. No macro, syntax, notation, axiom, sorry.
-/
import Derived.Test.YtmafdmpmilhnfaaGreatDoorRows
import GoSem.ClaimSeven
namespace Go.Proofs.YtmafdmpmilhnfaaGreatDoor
namespace Rows

/-- THE TIED CARD OF 'squintlaw26.ViewPlaces'. -/
def viewPlacesCard : Claim7 := { stood := { row := viewPlacesRow, standIns := [], harness := (true, "3b181b34b401839bc2163a98ab756a1c92765ab99d93c6580fe74b753d60e5ce"), looks := false }, kinds := [], alts := [], laidByText := true, laidKinds := [.data], laidTests := true, laidLooks := .later }
def ViewPlacesCardSaid : Prop := Claim7.holds Tryz.pinned (.plain (OpenSpec.ofChange viewPlacesSpec)) viewPlacesCard

/-- THE TIED CARD OF 'squintlaw26.ViewRefuses'. -/
def viewRefusesCard : Claim7 := { stood := { row := viewRefusesRow, standIns := [], harness := (true, "3b181b34b401839bc2163a98ab756a1c92765ab99d93c6580fe74b753d60e5ce"), looks := false }, kinds := [], alts := [], laidByText := true, laidKinds := [.data], laidTests := true, laidLooks := .later }
def ViewRefusesCardSaid : Prop := Claim7.holds Tryz.pinned (.plain (OpenSpec.ofChange viewRefusesSpec)) viewRefusesCard

/-- THE TIED CARD OF 'squintlaw26.ViewGrows'. -/
def viewGrowsCard : Claim7 := { stood := { row := viewGrowsRow, standIns := [], harness := (true, "3b181b34b401839bc2163a98ab756a1c92765ab99d93c6580fe74b753d60e5ce"), looks := false }, kinds := [], alts := [], laidByText := true, laidKinds := [.data], laidTests := true, laidLooks := .later }
def ViewGrowsCardSaid : Prop := Claim7.holds Tryz.pinned (.plain (OpenSpec.ofChange viewGrowsSpec)) viewGrowsCard

/-- THE TIED CARD OF 'squintlaw26.ViewSame'. -/
def viewSameCard : Claim7 := { stood := { row := viewSameRow, standIns := [], harness := (true, "3b181b34b401839bc2163a98ab756a1c92765ab99d93c6580fe74b753d60e5ce"), looks := false }, kinds := [], alts := [], laidByText := true, laidKinds := [.data], laidTests := true, laidLooks := .later }
def ViewSameCardSaid : Prop := Claim7.holds Tryz.pinned (.plain (OpenSpec.ofChange viewSameSpec)) viewSameCard

/-- THE SECOND FORM's CARD OF 'squintlaw26.ViewPlaces'. -/
def viewPlacesUptoCard : Claim7 := { stood := { row := viewPlacesUptoRow, standIns := [], harness := (true, "3b181b34b401839bc2163a98ab756a1c92765ab99d93c6580fe74b753d60e5ce"), looks := false }, kinds := [], alts := [], laidByText := true, laidKinds := [.data], laidTests := true, laidLooks := .later }
def ViewPlacesUptoCardSaid : Prop := Claim7.holds Tryz.pinned (.plain (OpenSpec.upto viewPlacesSpec)) viewPlacesUptoCard

/-- THE SECOND FORM's CARD OF 'squintlaw26.ViewRefuses'. -/
def viewRefusesUptoCard : Claim7 := { stood := { row := viewRefusesUptoRow, standIns := [], harness := (true, "3b181b34b401839bc2163a98ab756a1c92765ab99d93c6580fe74b753d60e5ce"), looks := false }, kinds := [], alts := [], laidByText := true, laidKinds := [.data], laidTests := true, laidLooks := .later }
def ViewRefusesUptoCardSaid : Prop := Claim7.holds Tryz.pinned (.plain (OpenSpec.upto viewRefusesSpec)) viewRefusesUptoCard

/-- THE SECOND FORM's CARD OF 'squintlaw26.ViewGrows'. -/
def viewGrowsUptoCard : Claim7 := { stood := { row := viewGrowsUptoRow, standIns := [], harness := (true, "3b181b34b401839bc2163a98ab756a1c92765ab99d93c6580fe74b753d60e5ce"), looks := false }, kinds := [], alts := [], laidByText := true, laidKinds := [.data], laidTests := true, laidLooks := .later }
def ViewGrowsUptoCardSaid : Prop := Claim7.holds Tryz.pinned (.plain (OpenSpec.upto viewGrowsSpec)) viewGrowsUptoCard

/-- THE SECOND FORM's CARD OF 'squintlaw26.ViewSame'. -/
def viewSameUptoCard : Claim7 := { stood := { row := viewSameUptoRow, standIns := [], harness := (true, "3b181b34b401839bc2163a98ab756a1c92765ab99d93c6580fe74b753d60e5ce"), looks := false }, kinds := [], alts := [], laidByText := true, laidKinds := [.data], laidTests := true, laidLooks := .later }
def ViewSameUptoCardSaid : Prop := Claim7.holds Tryz.pinned (.plain (OpenSpec.upto viewSameSpec)) viewSameUptoCard
end Rows
end Go.Proofs.YtmafdmpmilhnfaaGreatDoor
