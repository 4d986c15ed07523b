/-
  DERIVED. GIVEN WITH THE SEED: THE CARDS: each row of YtbjgepnkakcjaaaDoorRows.lean that lists a variable, with what it lists TIED to the program's text (the seventh form; the later family's looks); each row that meets fmt, with fmt's text TOLD by the authors' own Lean function (tested against real Go, not proved from fmt's source: count such statements apart). THE CARD IS WHAT COUNTS. Prove the row's statement (the work); the ties are given (YtbjgepnkakcjaaaDoorTie.lean); close each card by the builder's one call (the guide's Derived/Test/ToyasCard.lean, 'card_holds'). Laid BY PROGRAM, IN A SANDBOX (cutbox-door.mjs). By AI agents, Wed Nov 11 2026. No macro, syntax, notation, axiom, sorry.
-/
import Derived.Test.YtbjgepnkakcjaaaDoorRows
import GoSem.ClaimSeven
namespace Go.Proofs.YtbjgepnkakcjaaaDoor
namespace Rows

/-- THE TIED CARD OF 'larchlaw10.KindReads'. -/
def kindReadsCard : Claim7 := { stood := { row := kindReadsRow, standIns := [], harness := (true, "06ed4c21582e50a6c8fa5b86358236d877d6949f33b6f468d4c58fec16d88255"), looks := false }, kinds := [], alts := [], laidByText := true, laidKinds := [.data, .pinned], laidTests := true, laidLooks := .later }
def KindReadsCardSaid : Prop := Claim7.holds Tryd.pinned (.plain (OpenSpec.ofChange kindReadsSpec)) kindReadsCard

/-- THE TIED CARD OF 'larchlaw10.KindBack'. -/
def kindBackCard : Claim7 := { stood := { row := kindBackRow, standIns := [], harness := (true, "06ed4c21582e50a6c8fa5b86358236d877d6949f33b6f468d4c58fec16d88255"), looks := false }, kinds := [], alts := [], laidByText := true, laidKinds := [.data, .pinned], laidTests := true, laidLooks := .later }
def KindBackCardSaid : Prop := Claim7.holds Tryd.pinned (.plain (OpenSpec.ofChange kindBackSpec)) kindBackCard

/-- THE TIED CARD OF 'larchlaw10.KindTells'. -/
def kindTellsCard : Claim7 := { stood := { row := kindTellsRow, standIns := [], harness := (true, "06ed4c21582e50a6c8fa5b86358236d877d6949f33b6f468d4c58fec16d88255"), looks := false }, kinds := [], alts := [], laidByText := true, laidKinds := [.data, .pinned], laidTests := true, laidLooks := .later }
def KindTellsCardSaid : Prop := Claim7.holds Tryd.pinned (.plain (OpenSpec.ofChange kindTellsSpec)) kindTellsCard

/-- THE TIED CARD OF 'larchlaw10.KindElems'. -/
def kindElemsCard : Claim7 := { stood := { row := kindElemsRow, standIns := [], harness := (true, "06ed4c21582e50a6c8fa5b86358236d877d6949f33b6f468d4c58fec16d88255"), looks := false }, kinds := [], alts := [], laidByText := true, laidKinds := [.data, .pinned], laidTests := true, laidLooks := .later }
def KindElemsCardSaid : Prop := Claim7.holds Tryd.pinned (.plain (OpenSpec.ofChange kindElemsSpec)) kindElemsCard

/-- THE TIED CARD OF 'larchlaw10.KindStands'. -/
def kindStandsCard : Claim7 := { stood := { row := kindStandsRow, standIns := [], harness := (true, "06ed4c21582e50a6c8fa5b86358236d877d6949f33b6f468d4c58fec16d88255"), looks := false }, kinds := [], alts := [], laidByText := true, laidKinds := [.data, .pinned], laidTests := true, laidLooks := .later }
def KindStandsCardSaid : Prop := Claim7.holds Tryd.pinned (.plain (OpenSpec.ofChange kindStandsSpec)) kindStandsCard

/-- THE TIED CARD OF 'larchlaw10.KindOrder'. -/
def kindOrderCard : Claim7 := { stood := { row := kindOrderRow, standIns := [], harness := (true, "06ed4c21582e50a6c8fa5b86358236d877d6949f33b6f468d4c58fec16d88255"), looks := false }, kinds := [], alts := [], laidByText := true, laidKinds := [.data, .pinned], laidTests := true, laidLooks := .later }
def KindOrderCardSaid : Prop := Claim7.holds Tryd.pinned (.plain (OpenSpec.ofChange kindOrderSpec)) kindOrderCard

/-- THE SECOND FORM's CARD OF 'larchlaw10.KindReads'. -/
def kindReadsUptoCard : Claim7 := { stood := { row := kindReadsUptoRow, standIns := [], harness := (true, "06ed4c21582e50a6c8fa5b86358236d877d6949f33b6f468d4c58fec16d88255"), looks := false }, kinds := [], alts := [], laidByText := true, laidKinds := [.data, .pinned], laidTests := true, laidLooks := .later }
def KindReadsUptoCardSaid : Prop := Claim7.holds Tryd.pinned (.plain (OpenSpec.upto kindReadsSpec)) kindReadsUptoCard

/-- THE SECOND FORM's CARD OF 'larchlaw10.KindBack'. -/
def kindBackUptoCard : Claim7 := { stood := { row := kindBackUptoRow, standIns := [], harness := (true, "06ed4c21582e50a6c8fa5b86358236d877d6949f33b6f468d4c58fec16d88255"), looks := false }, kinds := [], alts := [], laidByText := true, laidKinds := [.data, .pinned], laidTests := true, laidLooks := .later }
def KindBackUptoCardSaid : Prop := Claim7.holds Tryd.pinned (.plain (OpenSpec.upto kindBackSpec)) kindBackUptoCard

/-- THE SECOND FORM's CARD OF 'larchlaw10.KindTells'. -/
def kindTellsUptoCard : Claim7 := { stood := { row := kindTellsUptoRow, standIns := [], harness := (true, "06ed4c21582e50a6c8fa5b86358236d877d6949f33b6f468d4c58fec16d88255"), looks := false }, kinds := [], alts := [], laidByText := true, laidKinds := [.data, .pinned], laidTests := true, laidLooks := .later }
def KindTellsUptoCardSaid : Prop := Claim7.holds Tryd.pinned (.plain (OpenSpec.upto kindTellsSpec)) kindTellsUptoCard

/-- THE SECOND FORM's CARD OF 'larchlaw10.KindElems'. -/
def kindElemsUptoCard : Claim7 := { stood := { row := kindElemsUptoRow, standIns := [], harness := (true, "06ed4c21582e50a6c8fa5b86358236d877d6949f33b6f468d4c58fec16d88255"), looks := false }, kinds := [], alts := [], laidByText := true, laidKinds := [.data, .pinned], laidTests := true, laidLooks := .later }
def KindElemsUptoCardSaid : Prop := Claim7.holds Tryd.pinned (.plain (OpenSpec.upto kindElemsSpec)) kindElemsUptoCard

/-- THE SECOND FORM's CARD OF 'larchlaw10.KindStands'. -/
def kindStandsUptoCard : Claim7 := { stood := { row := kindStandsUptoRow, standIns := [], harness := (true, "06ed4c21582e50a6c8fa5b86358236d877d6949f33b6f468d4c58fec16d88255"), looks := false }, kinds := [], alts := [], laidByText := true, laidKinds := [.data, .pinned], laidTests := true, laidLooks := .later }
def KindStandsUptoCardSaid : Prop := Claim7.holds Tryd.pinned (.plain (OpenSpec.upto kindStandsSpec)) kindStandsUptoCard

/-- THE SECOND FORM's CARD OF 'larchlaw10.KindOrder'. -/
def kindOrderUptoCard : Claim7 := { stood := { row := kindOrderUptoRow, standIns := [], harness := (true, "06ed4c21582e50a6c8fa5b86358236d877d6949f33b6f468d4c58fec16d88255"), looks := false }, kinds := [], alts := [], laidByText := true, laidKinds := [.data, .pinned], laidTests := true, laidLooks := .later }
def KindOrderUptoCardSaid : Prop := Claim7.holds Tryd.pinned (.plain (OpenSpec.upto kindOrderSpec)) kindOrderUptoCard
end Rows
end Go.Proofs.YtbjgepnkakcjaaaDoor
