/-
  DERIVED. GIVEN WITH THE SEED: THE CARDS: each row of YtmdgfpeglgpiiaaGreatDoorRows.lean that lists a variable, with what it lists TIED to the program's text (the seventh form; the later family's looks); each row that meets fmt, with fmt's text TOLD by the authors' own Lean function (tested against real Go, not proved from fmt's source: count such statements apart). THE CARD IS WHAT COUNTS. Prove the row's statement (the work); the ties are given (YtmdgfpeglgpiiaaGreatDoorTie.lean); close each card by the builder's one call (the guide's Derived/Test/ToyasCard.lean, 'card_holds'). Laid BY PROGRAM, IN A SANDBOX (cutbox-door.mjs). By AI agents, Wed Nov 11 2026. No macro, syntax, notation, axiom, sorry.
-/
import Derived.Test.YtmdgfpeglgpiiaaGreatDoorRows
import GoSem.ClaimSeven
namespace Go.Proofs.YtmdgfpeglgpiiaaGreatDoor
namespace Rows

/-- THE TIED CARD OF 'ullagetop.TopSums'. -/
def topSumsCard : Claim7 := { stood := { row := topSumsRow, standIns := [], harness := (true, "dad581d85041b50d1767ac5fce7866784ea3393a02c56183205e40028671b087"), looks := true }, kinds := [], alts := [], laidByText := true, laidKinds := [.data], laidTests := true, laidLooks := .later }
def TopSumsCardSaid : Prop := Claim7.holds Tryz.pinned (.plain (OpenSpec.ofChange topSumsSpec)) topSumsCard

/-- THE TIED CARD OF 'ullagetop.TopEnds'. -/
def topEndsCard : Claim7 := { stood := { row := topEndsRow, standIns := [], harness := (true, "dad581d85041b50d1767ac5fce7866784ea3393a02c56183205e40028671b087"), looks := true }, kinds := [], alts := [], laidByText := true, laidKinds := [.data], laidTests := true, laidLooks := .later }
def TopEndsCardSaid : Prop := Claim7.holds Tryz.pinned (.plain (OpenSpec.ofChange topEndsSpec)) topEndsCard

/-- THE TIED CARD OF 'ullagetop.TopFrames'. -/
def topFramesCard : Claim7 := { stood := { row := topFramesRow, standIns := [], harness := (true, "dad581d85041b50d1767ac5fce7866784ea3393a02c56183205e40028671b087"), looks := true }, kinds := [], alts := [], laidByText := true, laidKinds := [.data], laidTests := true, laidLooks := .later }
def TopFramesCardSaid : Prop := Claim7.holds Tryz.pinned (.plain (OpenSpec.ofChange topFramesSpec)) topFramesCard

/-- THE TIED CARD OF 'ullagetop.TopStats'. -/
def topStatsCard : Claim7 := { stood := { row := topStatsRow, standIns := [], harness := (true, "dad581d85041b50d1767ac5fce7866784ea3393a02c56183205e40028671b087"), looks := true }, kinds := [], alts := [], laidByText := true, laidKinds := [.data], laidTests := true, laidLooks := .later }
def TopStatsCardSaid : Prop := Claim7.holds Tryz.pinned (.plain (OpenSpec.ofChange topStatsSpec)) topStatsCard

/-- THE TIED CARD OF 'ullagetop.TopErrors'. -/
def topErrorsCard : Claim7 := { stood := { row := topErrorsRow, standIns := [], harness := (true, "dad581d85041b50d1767ac5fce7866784ea3393a02c56183205e40028671b087"), looks := true }, kinds := [], alts := [], laidByText := true, laidKinds := [.data], laidTests := true, laidLooks := .later }
def TopErrorsCardSaid : Prop := Claim7.holds Tryz.pinned (.plain (OpenSpec.ofChange topErrorsSpec)) topErrorsCard

/-- THE TIED CARD OF 'ullagetop.TopPath'. -/
def topPathCard : Claim7 := { stood := { row := topPathRow, standIns := [], harness := (true, "dad581d85041b50d1767ac5fce7866784ea3393a02c56183205e40028671b087"), looks := true }, kinds := [], alts := [], laidByText := true, laidKinds := [.data], laidTests := true, laidLooks := .later }
def TopPathCardSaid : Prop := Claim7.holds Tryz.pinned (.plain (OpenSpec.ofChange topPathSpec)) topPathCard

/-- THE TIED CARD OF 'ullagetop.TopKinds'. -/
def topKindsCard : Claim7 := { stood := { row := topKindsRow, standIns := [], harness := (true, "dad581d85041b50d1767ac5fce7866784ea3393a02c56183205e40028671b087"), looks := true }, kinds := [], alts := [], laidByText := true, laidKinds := [.data], laidTests := true, laidLooks := .later }
def TopKindsCardSaid : Prop := Claim7.holds Tryz.pinned (.plain (OpenSpec.ofChange topKindsSpec)) topKindsCard

/-- THE SECOND FORM's CARD OF 'ullagetop.TopSums'. -/
def topSumsUptoCard : Claim7 := { stood := { row := topSumsUptoRow, standIns := [], harness := (true, "dad581d85041b50d1767ac5fce7866784ea3393a02c56183205e40028671b087"), looks := true }, kinds := [], alts := [], laidByText := true, laidKinds := [.data], laidTests := true, laidLooks := .later }
def TopSumsUptoCardSaid : Prop := Claim7.holds Tryz.pinned (.plain (OpenSpec.upto topSumsSpec)) topSumsUptoCard

/-- THE SECOND FORM's CARD OF 'ullagetop.TopEnds'. -/
def topEndsUptoCard : Claim7 := { stood := { row := topEndsUptoRow, standIns := [], harness := (true, "dad581d85041b50d1767ac5fce7866784ea3393a02c56183205e40028671b087"), looks := true }, kinds := [], alts := [], laidByText := true, laidKinds := [.data], laidTests := true, laidLooks := .later }
def TopEndsUptoCardSaid : Prop := Claim7.holds Tryz.pinned (.plain (OpenSpec.upto topEndsSpec)) topEndsUptoCard

/-- THE SECOND FORM's CARD OF 'ullagetop.TopFrames'. -/
def topFramesUptoCard : Claim7 := { stood := { row := topFramesUptoRow, standIns := [], harness := (true, "dad581d85041b50d1767ac5fce7866784ea3393a02c56183205e40028671b087"), looks := true }, kinds := [], alts := [], laidByText := true, laidKinds := [.data], laidTests := true, laidLooks := .later }
def TopFramesUptoCardSaid : Prop := Claim7.holds Tryz.pinned (.plain (OpenSpec.upto topFramesSpec)) topFramesUptoCard

/-- THE SECOND FORM's CARD OF 'ullagetop.TopStats'. -/
def topStatsUptoCard : Claim7 := { stood := { row := topStatsUptoRow, standIns := [], harness := (true, "dad581d85041b50d1767ac5fce7866784ea3393a02c56183205e40028671b087"), looks := true }, kinds := [], alts := [], laidByText := true, laidKinds := [.data], laidTests := true, laidLooks := .later }
def TopStatsUptoCardSaid : Prop := Claim7.holds Tryz.pinned (.plain (OpenSpec.upto topStatsSpec)) topStatsUptoCard

/-- THE SECOND FORM's CARD OF 'ullagetop.TopErrors'. -/
def topErrorsUptoCard : Claim7 := { stood := { row := topErrorsUptoRow, standIns := [], harness := (true, "dad581d85041b50d1767ac5fce7866784ea3393a02c56183205e40028671b087"), looks := true }, kinds := [], alts := [], laidByText := true, laidKinds := [.data], laidTests := true, laidLooks := .later }
def TopErrorsUptoCardSaid : Prop := Claim7.holds Tryz.pinned (.plain (OpenSpec.upto topErrorsSpec)) topErrorsUptoCard

/-- THE SECOND FORM's CARD OF 'ullagetop.TopPath'. -/
def topPathUptoCard : Claim7 := { stood := { row := topPathUptoRow, standIns := [], harness := (true, "dad581d85041b50d1767ac5fce7866784ea3393a02c56183205e40028671b087"), looks := true }, kinds := [], alts := [], laidByText := true, laidKinds := [.data], laidTests := true, laidLooks := .later }
def TopPathUptoCardSaid : Prop := Claim7.holds Tryz.pinned (.plain (OpenSpec.upto topPathSpec)) topPathUptoCard

/-- THE SECOND FORM's CARD OF 'ullagetop.TopKinds'. -/
def topKindsUptoCard : Claim7 := { stood := { row := topKindsUptoRow, standIns := [], harness := (true, "dad581d85041b50d1767ac5fce7866784ea3393a02c56183205e40028671b087"), looks := true }, kinds := [], alts := [], laidByText := true, laidKinds := [.data], laidTests := true, laidLooks := .later }
def TopKindsUptoCardSaid : Prop := Claim7.holds Tryz.pinned (.plain (OpenSpec.upto topKindsSpec)) topKindsUptoCard
end Rows
end Go.Proofs.YtmdgfpeglgpiiaaGreatDoor
