/-
  DERIVED. GIVEN WITH THE SEED: THE CARDS: each row of YtndbcjgbcplgcaaDoorRows.lean that lists a variable, with what it lists TIED to the program's text (the seventh form; the later family's looks); each row that meets fmt, with fmt's text TOLD by the authors' own Lean function (tested against real Go, not proved from fmt's source: count such statements apart). THE CARD IS WHAT COUNTS. Prove the row's statement (the work); the ties are given (YtndbcjgbcplgcaaDoorTie.lean); close each card by the builder's one call (the guide's Derived/Test/ToyasCard.lean, 'card_holds'). Laid BY PROGRAM, IN A SANDBOX (cutbox-door.mjs). By AI agents, Wed Nov 11 2026. No macro, syntax, notation, axiom, sorry.
-/
import Derived.Test.YtndbcjgbcplgcaaDoorRows
import GoSem.ClaimSeven
namespace Go.Proofs.YtndbcjgbcplgcaaDoor
namespace Rows

/-- THE TIED CARD OF 'hedgerowlaw02.FixedClamps'. -/
def fixedClampsCard : Claim7 := { stood := { row := fixedClampsRow, standIns := [], harness := (true, "575111c59a8f5db96961e4a45aa3cbc51762d3d5d7f4acd59c893d0b1a05ed3c"), looks := false }, kinds := [], alts := [], laidByText := true, laidKinds := [.data, .pinned], laidTests := true, laidLooks := .later }
def FixedClampsCardSaid : Prop := Claim7.holds Tryd.pinned (.plain (OpenSpec.ofChange fixedClampsSpec)) fixedClampsCard

/-- THE TIED CARD OF 'hedgerowlaw02.FixedAdds'. -/
def fixedAddsCard : Claim7 := { stood := { row := fixedAddsRow, standIns := [], harness := (true, "575111c59a8f5db96961e4a45aa3cbc51762d3d5d7f4acd59c893d0b1a05ed3c"), looks := false }, kinds := [], alts := [], laidByText := true, laidKinds := [.data, .pinned], laidTests := true, laidLooks := .later }
def FixedAddsCardSaid : Prop := Claim7.holds Tryd.pinned (.plain (OpenSpec.ofChange fixedAddsSpec)) fixedAddsCard

/-- THE TIED CARD OF 'hedgerowlaw02.FixedMuls'. -/
def fixedMulsCard : Claim7 := { stood := { row := fixedMulsRow, standIns := [], harness := (true, "575111c59a8f5db96961e4a45aa3cbc51762d3d5d7f4acd59c893d0b1a05ed3c"), looks := false }, kinds := [], alts := [], laidByText := true, laidKinds := [.data, .pinned], laidTests := true, laidLooks := .later }
def FixedMulsCardSaid : Prop := Claim7.holds Tryd.pinned (.plain (OpenSpec.ofChange fixedMulsSpec)) fixedMulsCard

/-- THE TIED CARD OF 'hedgerowlaw02.FixedDivs'. -/
def fixedDivsCard : Claim7 := { stood := { row := fixedDivsRow, standIns := [], harness := (true, "575111c59a8f5db96961e4a45aa3cbc51762d3d5d7f4acd59c893d0b1a05ed3c"), looks := false }, kinds := [], alts := [], laidByText := true, laidKinds := [.data, .pinned], laidTests := true, laidLooks := .later }
def FixedDivsCardSaid : Prop := Claim7.holds Tryd.pinned (.plain (OpenSpec.ofChange fixedDivsSpec)) fixedDivsCard

/-- THE TIED CARD OF 'hedgerowlaw02.FixedShows'. -/
def fixedShowsCard : Claim7 := { stood := { row := fixedShowsRow, standIns := [], harness := (true, "575111c59a8f5db96961e4a45aa3cbc51762d3d5d7f4acd59c893d0b1a05ed3c"), looks := false }, kinds := [], alts := [], laidByText := true, laidKinds := [.data, .pinned], laidTests := true, laidLooks := .later }
def FixedShowsCardSaid : Prop := Claim7.holds Tryd.pinned (.plain (OpenSpec.ofChange fixedShowsSpec)) fixedShowsCard

/-- THE TIED CARD OF 'hedgerowlaw02.FixedReads'. -/
def fixedReadsCard : Claim7 := { stood := { row := fixedReadsRow, standIns := [], harness := (true, "575111c59a8f5db96961e4a45aa3cbc51762d3d5d7f4acd59c893d0b1a05ed3c"), looks := false }, kinds := [], alts := [], laidByText := true, laidKinds := [.data, .pinned], laidTests := true, laidLooks := .later }
def FixedReadsCardSaid : Prop := Claim7.holds Tryd.pinned (.plain (OpenSpec.ofChange fixedReadsSpec)) fixedReadsCard

/-- THE TIED CARD OF 'hedgerowlaw02.FixedBack'. -/
def fixedBackCard : Claim7 := { stood := { row := fixedBackRow, standIns := [], harness := (true, "575111c59a8f5db96961e4a45aa3cbc51762d3d5d7f4acd59c893d0b1a05ed3c"), looks := false }, kinds := [], alts := [], laidByText := true, laidKinds := [.data, .pinned], laidTests := true, laidLooks := .later }
def FixedBackCardSaid : Prop := Claim7.holds Tryd.pinned (.plain (OpenSpec.ofChange fixedBackSpec)) fixedBackCard

/-- THE TIED CARD OF 'hedgerowlaw02.FixedFloors'. -/
def fixedFloorsCard : Claim7 := { stood := { row := fixedFloorsRow, standIns := [], harness := (true, "575111c59a8f5db96961e4a45aa3cbc51762d3d5d7f4acd59c893d0b1a05ed3c"), looks := false }, kinds := [], alts := [], laidByText := true, laidKinds := [.data, .pinned], laidTests := true, laidLooks := .later }
def FixedFloorsCardSaid : Prop := Claim7.holds Tryd.pinned (.plain (OpenSpec.ofChange fixedFloorsSpec)) fixedFloorsCard

/-- THE TIED CARD OF 'hedgerowlaw02.FixedRises'. -/
def fixedRisesCard : Claim7 := { stood := { row := fixedRisesRow, standIns := [], harness := (true, "575111c59a8f5db96961e4a45aa3cbc51762d3d5d7f4acd59c893d0b1a05ed3c"), looks := false }, kinds := [], alts := [], laidByText := true, laidKinds := [.data, .pinned], laidTests := true, laidLooks := .later }
def FixedRisesCardSaid : Prop := Claim7.holds Tryd.pinned (.plain (OpenSpec.ofChange fixedRisesSpec)) fixedRisesCard

/-- THE TIED CARD OF 'hedgerowlaw02.FixedUnits'. -/
def fixedUnitsCard : Claim7 := { stood := { row := fixedUnitsRow, standIns := [], harness := (true, "575111c59a8f5db96961e4a45aa3cbc51762d3d5d7f4acd59c893d0b1a05ed3c"), looks := false }, kinds := [], alts := [], laidByText := true, laidKinds := [.data, .pinned], laidTests := true, laidLooks := .later }
def FixedUnitsCardSaid : Prop := Claim7.holds Tryd.pinned (.plain (OpenSpec.ofChange fixedUnitsSpec)) fixedUnitsCard

/-- THE SECOND FORM's CARD OF 'hedgerowlaw02.FixedClamps'. -/
def fixedClampsUptoCard : Claim7 := { stood := { row := fixedClampsUptoRow, standIns := [], harness := (true, "575111c59a8f5db96961e4a45aa3cbc51762d3d5d7f4acd59c893d0b1a05ed3c"), looks := false }, kinds := [], alts := [], laidByText := true, laidKinds := [.data, .pinned], laidTests := true, laidLooks := .later }
def FixedClampsUptoCardSaid : Prop := Claim7.holds Tryd.pinned (.plain (OpenSpec.upto fixedClampsSpec)) fixedClampsUptoCard

/-- THE SECOND FORM's CARD OF 'hedgerowlaw02.FixedAdds'. -/
def fixedAddsUptoCard : Claim7 := { stood := { row := fixedAddsUptoRow, standIns := [], harness := (true, "575111c59a8f5db96961e4a45aa3cbc51762d3d5d7f4acd59c893d0b1a05ed3c"), looks := false }, kinds := [], alts := [], laidByText := true, laidKinds := [.data, .pinned], laidTests := true, laidLooks := .later }
def FixedAddsUptoCardSaid : Prop := Claim7.holds Tryd.pinned (.plain (OpenSpec.upto fixedAddsSpec)) fixedAddsUptoCard

/-- THE SECOND FORM's CARD OF 'hedgerowlaw02.FixedMuls'. -/
def fixedMulsUptoCard : Claim7 := { stood := { row := fixedMulsUptoRow, standIns := [], harness := (true, "575111c59a8f5db96961e4a45aa3cbc51762d3d5d7f4acd59c893d0b1a05ed3c"), looks := false }, kinds := [], alts := [], laidByText := true, laidKinds := [.data, .pinned], laidTests := true, laidLooks := .later }
def FixedMulsUptoCardSaid : Prop := Claim7.holds Tryd.pinned (.plain (OpenSpec.upto fixedMulsSpec)) fixedMulsUptoCard

/-- THE SECOND FORM's CARD OF 'hedgerowlaw02.FixedDivs'. -/
def fixedDivsUptoCard : Claim7 := { stood := { row := fixedDivsUptoRow, standIns := [], harness := (true, "575111c59a8f5db96961e4a45aa3cbc51762d3d5d7f4acd59c893d0b1a05ed3c"), looks := false }, kinds := [], alts := [], laidByText := true, laidKinds := [.data, .pinned], laidTests := true, laidLooks := .later }
def FixedDivsUptoCardSaid : Prop := Claim7.holds Tryd.pinned (.plain (OpenSpec.upto fixedDivsSpec)) fixedDivsUptoCard

/-- THE SECOND FORM's CARD OF 'hedgerowlaw02.FixedShows'. -/
def fixedShowsUptoCard : Claim7 := { stood := { row := fixedShowsUptoRow, standIns := [], harness := (true, "575111c59a8f5db96961e4a45aa3cbc51762d3d5d7f4acd59c893d0b1a05ed3c"), looks := false }, kinds := [], alts := [], laidByText := true, laidKinds := [.data, .pinned], laidTests := true, laidLooks := .later }
def FixedShowsUptoCardSaid : Prop := Claim7.holds Tryd.pinned (.plain (OpenSpec.upto fixedShowsSpec)) fixedShowsUptoCard

/-- THE SECOND FORM's CARD OF 'hedgerowlaw02.FixedReads'. -/
def fixedReadsUptoCard : Claim7 := { stood := { row := fixedReadsUptoRow, standIns := [], harness := (true, "575111c59a8f5db96961e4a45aa3cbc51762d3d5d7f4acd59c893d0b1a05ed3c"), looks := false }, kinds := [], alts := [], laidByText := true, laidKinds := [.data, .pinned], laidTests := true, laidLooks := .later }
def FixedReadsUptoCardSaid : Prop := Claim7.holds Tryd.pinned (.plain (OpenSpec.upto fixedReadsSpec)) fixedReadsUptoCard

/-- THE SECOND FORM's CARD OF 'hedgerowlaw02.FixedBack'. -/
def fixedBackUptoCard : Claim7 := { stood := { row := fixedBackUptoRow, standIns := [], harness := (true, "575111c59a8f5db96961e4a45aa3cbc51762d3d5d7f4acd59c893d0b1a05ed3c"), looks := false }, kinds := [], alts := [], laidByText := true, laidKinds := [.data, .pinned], laidTests := true, laidLooks := .later }
def FixedBackUptoCardSaid : Prop := Claim7.holds Tryd.pinned (.plain (OpenSpec.upto fixedBackSpec)) fixedBackUptoCard

/-- THE SECOND FORM's CARD OF 'hedgerowlaw02.FixedFloors'. -/
def fixedFloorsUptoCard : Claim7 := { stood := { row := fixedFloorsUptoRow, standIns := [], harness := (true, "575111c59a8f5db96961e4a45aa3cbc51762d3d5d7f4acd59c893d0b1a05ed3c"), looks := false }, kinds := [], alts := [], laidByText := true, laidKinds := [.data, .pinned], laidTests := true, laidLooks := .later }
def FixedFloorsUptoCardSaid : Prop := Claim7.holds Tryd.pinned (.plain (OpenSpec.upto fixedFloorsSpec)) fixedFloorsUptoCard

/-- THE SECOND FORM's CARD OF 'hedgerowlaw02.FixedRises'. -/
def fixedRisesUptoCard : Claim7 := { stood := { row := fixedRisesUptoRow, standIns := [], harness := (true, "575111c59a8f5db96961e4a45aa3cbc51762d3d5d7f4acd59c893d0b1a05ed3c"), looks := false }, kinds := [], alts := [], laidByText := true, laidKinds := [.data, .pinned], laidTests := true, laidLooks := .later }
def FixedRisesUptoCardSaid : Prop := Claim7.holds Tryd.pinned (.plain (OpenSpec.upto fixedRisesSpec)) fixedRisesUptoCard

/-- THE SECOND FORM's CARD OF 'hedgerowlaw02.FixedUnits'. -/
def fixedUnitsUptoCard : Claim7 := { stood := { row := fixedUnitsUptoRow, standIns := [], harness := (true, "575111c59a8f5db96961e4a45aa3cbc51762d3d5d7f4acd59c893d0b1a05ed3c"), looks := false }, kinds := [], alts := [], laidByText := true, laidKinds := [.data, .pinned], laidTests := true, laidLooks := .later }
def FixedUnitsUptoCardSaid : Prop := Claim7.holds Tryd.pinned (.plain (OpenSpec.upto fixedUnitsSpec)) fixedUnitsUptoCard
end Rows
end Go.Proofs.YtndbcjgbcplgcaaDoor
