/-
  DERIVED. GIVEN WITH THE SEED: THE CARDS: each row of YtgpkochbmfhmdaaGreatDoorRows.lean that lists a variable, with what it lists TIED to the program's text (the seventh form; the later family's looks); each row that meets fmt, with fmt's text TOLD by the authors' own Lean function (tested against real Go, not proved from fmt's source: count such statements apart). THE CARD IS WHAT COUNTS. Prove the row's statement (the work); the ties are given (YtgpkochbmfhmdaaGreatDoorTie.lean); close each card by the builder's one call (the guide's Derived/Test/ToyasCard.lean, 'card_holds'). Laid BY PROGRAM, IN A SANDBOX (cutbox-door.mjs). By AI agents, Wed Nov 11 2026. No macro, syntax, notation, axiom, sorry.
-/
import Derived.Test.YtgpkochbmfhmdaaGreatDoorRows
import GoSem.ClaimSeven
namespace Go.Proofs.YtgpkochbmfhmdaaGreatDoor
namespace Rows

/-- THE TIED CARD OF 'larchlaw13.LinkVoid'. -/
def linkVoidCard : Claim7 := { stood := { row := linkVoidRow, standIns := [], harness := (true, "2843c249e2fda3e5eddfa3c24f41b156cbc05c519f7c221970502c491f7abb52"), looks := false }, kinds := [], alts := [], laidByText := true, laidKinds := [.data, .widerDeep, .data, .widerDeep, .pinned], laidTests := true, laidLooks := .later }
def LinkVoidCardSaid : Prop := Claim7.holds Tryz.pinned (.plain (OpenSpec.ofChange linkVoidSpec)) linkVoidCard

/-- THE TIED CARD OF 'larchlaw17.CallBack'. -/
def callBackCard : Claim7 := { stood := { row := callBackRow, standIns := [], harness := (true, "2843c249e2fda3e5eddfa3c24f41b156cbc05c519f7c221970502c491f7abb52"), looks := false }, kinds := [], alts := [], laidByText := true, laidKinds := [.data, .widerDeep, .data, .widerDeep, .pinned], laidTests := true, laidLooks := .later }
def CallBackCardSaid : Prop := Claim7.holds Tryz.pinned (.plain (OpenSpec.ofChange callBackSpec)) callBackCard

/-- THE SECOND FORM's CARD OF 'larchlaw13.LinkVoid'. -/
def linkVoidUptoCard : Claim7 := { stood := { row := linkVoidUptoRow, standIns := [], harness := (true, "2843c249e2fda3e5eddfa3c24f41b156cbc05c519f7c221970502c491f7abb52"), looks := false }, kinds := [], alts := [], laidByText := true, laidKinds := [.data, .widerDeep, .data, .widerDeep, .pinned], laidTests := true, laidLooks := .later }
def LinkVoidUptoCardSaid : Prop := Claim7.holds Tryz.pinned (.plain (OpenSpec.upto linkVoidSpec)) linkVoidUptoCard

/-- THE SECOND FORM's CARD OF 'larchlaw17.CallBack'. -/
def callBackUptoCard : Claim7 := { stood := { row := callBackUptoRow, standIns := [], harness := (true, "2843c249e2fda3e5eddfa3c24f41b156cbc05c519f7c221970502c491f7abb52"), looks := false }, kinds := [], alts := [], laidByText := true, laidKinds := [.data, .widerDeep, .data, .widerDeep, .pinned], laidTests := true, laidLooks := .later }
def CallBackUptoCardSaid : Prop := Claim7.holds Tryz.pinned (.plain (OpenSpec.upto callBackSpec)) callBackUptoCard
end Rows
end Go.Proofs.YtgpkochbmfhmdaaGreatDoor
