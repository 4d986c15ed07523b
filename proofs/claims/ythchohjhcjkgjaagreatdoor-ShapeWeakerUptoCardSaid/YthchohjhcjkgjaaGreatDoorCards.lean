/-
  DERIVED. GIVEN WITH THE SEED: THE CARDS: each row of YthchohjhcjkgjaaGreatDoorRows.lean that lists a variable, with what it lists TIED to the program's text (the seventh form; the later family's looks); each row that meets fmt, with fmt's text TOLD by the authors' own Lean function (tested against real Go, not proved from fmt's source: count such statements apart). THE CARD IS WHAT COUNTS. Prove the row's statement (the work); the ties are given (YthchohjhcjkgjaaGreatDoorTie.lean); close each card by the builder's one call (the guide's Derived/Test/ToyasCard.lean, 'card_holds'). Laid BY PROGRAM, IN A SANDBOX (cutbox-door.mjs). By AI agents, Wed Nov 11 2026. No macro, syntax, notation, axiom, sorry.
-/
import Derived.Test.YthchohjhcjkgjaaGreatDoorRows
import GoSem.ClaimSeven
namespace Go.Proofs.YthchohjhcjkgjaaGreatDoor
namespace Rows

/-- THE TIED CARD OF 'larchlaw11.ShapeWeaker'. -/
def shapeWeakerCard : Claim7 := { stood := { row := shapeWeakerRow, standIns := [], harness := (true, "ca5176f1697bebc52fbee0d8cd78a7cfd110c6e4aa5630023238cae6544b5da4"), looks := false }, kinds := [], alts := [], laidByText := true, laidKinds := [.data, .pinned], laidTests := true, laidLooks := .later }
def ShapeWeakerCardSaid : Prop := Claim7.holds Tryz.pinned (.plain (OpenSpec.ofChange shapeWeakerSpec)) shapeWeakerCard

/-- THE TIED CARD OF 'larchlaw12.VerifySound'. -/
def verifySoundCard : Claim7 := { stood := { row := verifySoundRow, standIns := [], harness := (true, "ca5176f1697bebc52fbee0d8cd78a7cfd110c6e4aa5630023238cae6544b5da4"), looks := false }, kinds := [], alts := [], laidByText := true, laidKinds := [.data, .widerDeep, .pinned], laidTests := true, laidLooks := .later }
def VerifySoundCardSaid : Prop := Claim7.holds Tryz.pinned (.plain (OpenSpec.ofChange verifySoundSpec)) verifySoundCard

/-- THE TIED CARD OF 'larchlaw12.VerifyStraight'. -/
def verifyStraightCard : Claim7 := { stood := { row := verifyStraightRow, standIns := [], harness := (true, "ca5176f1697bebc52fbee0d8cd78a7cfd110c6e4aa5630023238cae6544b5da4"), looks := false }, kinds := [], alts := [], laidByText := true, laidKinds := [.data, .widerDeep, .pinned], laidTests := true, laidLooks := .later }
def VerifyStraightCardSaid : Prop := Claim7.holds Tryz.pinned (.plain (OpenSpec.ofChange verifyStraightSpec)) verifyStraightCard

/-- THE TIED CARD OF 'larchlaw12.VerifyMaps'. -/
def verifyMapsCard : Claim7 := { stood := { row := verifyMapsRow, standIns := [], harness := (true, "ca5176f1697bebc52fbee0d8cd78a7cfd110c6e4aa5630023238cae6544b5da4"), looks := false }, kinds := [], alts := [], laidByText := true, laidKinds := [.data, .widerDeep, .pinned], laidTests := true, laidLooks := .later }
def VerifyMapsCardSaid : Prop := Claim7.holds Tryz.pinned (.plain (OpenSpec.ofChange verifyMapsSpec)) verifyMapsCard

/-- THE TIED CARD OF 'larchlaw12.VerifyFrames'. -/
def verifyFramesCard : Claim7 := { stood := { row := verifyFramesRow, standIns := [], harness := (true, "ca5176f1697bebc52fbee0d8cd78a7cfd110c6e4aa5630023238cae6544b5da4"), looks := false }, kinds := [], alts := [], laidByText := true, laidKinds := [.data, .widerDeep, .pinned], laidTests := true, laidLooks := .later }
def VerifyFramesCardSaid : Prop := Claim7.holds Tryz.pinned (.plain (OpenSpec.ofChange verifyFramesSpec)) verifyFramesCard

/-- THE SECOND FORM's CARD OF 'larchlaw11.ShapeWeaker'. -/
def shapeWeakerUptoCard : Claim7 := { stood := { row := shapeWeakerUptoRow, standIns := [], harness := (true, "ca5176f1697bebc52fbee0d8cd78a7cfd110c6e4aa5630023238cae6544b5da4"), looks := false }, kinds := [], alts := [], laidByText := true, laidKinds := [.data, .pinned], laidTests := true, laidLooks := .later }
def ShapeWeakerUptoCardSaid : Prop := Claim7.holds Tryz.pinned (.plain (OpenSpec.upto shapeWeakerSpec)) shapeWeakerUptoCard

/-- THE SECOND FORM's CARD OF 'larchlaw12.VerifySound'. -/
def verifySoundUptoCard : Claim7 := { stood := { row := verifySoundUptoRow, standIns := [], harness := (true, "ca5176f1697bebc52fbee0d8cd78a7cfd110c6e4aa5630023238cae6544b5da4"), looks := false }, kinds := [], alts := [], laidByText := true, laidKinds := [.data, .widerDeep, .pinned], laidTests := true, laidLooks := .later }
def VerifySoundUptoCardSaid : Prop := Claim7.holds Tryz.pinned (.plain (OpenSpec.upto verifySoundSpec)) verifySoundUptoCard

/-- THE SECOND FORM's CARD OF 'larchlaw12.VerifyStraight'. -/
def verifyStraightUptoCard : Claim7 := { stood := { row := verifyStraightUptoRow, standIns := [], harness := (true, "ca5176f1697bebc52fbee0d8cd78a7cfd110c6e4aa5630023238cae6544b5da4"), looks := false }, kinds := [], alts := [], laidByText := true, laidKinds := [.data, .widerDeep, .pinned], laidTests := true, laidLooks := .later }
def VerifyStraightUptoCardSaid : Prop := Claim7.holds Tryz.pinned (.plain (OpenSpec.upto verifyStraightSpec)) verifyStraightUptoCard

/-- THE SECOND FORM's CARD OF 'larchlaw12.VerifyMaps'. -/
def verifyMapsUptoCard : Claim7 := { stood := { row := verifyMapsUptoRow, standIns := [], harness := (true, "ca5176f1697bebc52fbee0d8cd78a7cfd110c6e4aa5630023238cae6544b5da4"), looks := false }, kinds := [], alts := [], laidByText := true, laidKinds := [.data, .widerDeep, .pinned], laidTests := true, laidLooks := .later }
def VerifyMapsUptoCardSaid : Prop := Claim7.holds Tryz.pinned (.plain (OpenSpec.upto verifyMapsSpec)) verifyMapsUptoCard

/-- THE SECOND FORM's CARD OF 'larchlaw12.VerifyFrames'. -/
def verifyFramesUptoCard : Claim7 := { stood := { row := verifyFramesUptoRow, standIns := [], harness := (true, "ca5176f1697bebc52fbee0d8cd78a7cfd110c6e4aa5630023238cae6544b5da4"), looks := false }, kinds := [], alts := [], laidByText := true, laidKinds := [.data, .widerDeep, .pinned], laidTests := true, laidLooks := .later }
def VerifyFramesUptoCardSaid : Prop := Claim7.holds Tryz.pinned (.plain (OpenSpec.upto verifyFramesSpec)) verifyFramesUptoCard
end Rows
end Go.Proofs.YthchohjhcjkgjaaGreatDoor
