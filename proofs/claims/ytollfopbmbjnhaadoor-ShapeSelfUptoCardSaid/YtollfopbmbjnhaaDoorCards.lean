/-
  DERIVED. GIVEN WITH THE SEED: THE CARDS: each row of YtollfopbmbjnhaaDoorRows.lean that lists a variable, with what it lists TIED to the program's text (the seventh form; the later family's looks); each row that meets fmt, with fmt's text TOLD by the authors' own Lean function (tested against real Go, not proved from fmt's source: count such statements apart). THE CARD IS WHAT COUNTS. Prove the row's statement (the work); the ties are given (YtollfopbmbjnhaaDoorTie.lean); close each card by the builder's one call (the guide's Derived/Test/ToyasCard.lean, 'card_holds'). Laid BY PROGRAM, IN A SANDBOX (cutbox-door.mjs). By AI agents, Wed Nov 11 2026. No macro, syntax, notation, axiom, sorry.
-/
import Derived.Test.YtollfopbmbjnhaaDoorRows
import GoSem.ClaimSeven
namespace Go.Proofs.YtollfopbmbjnhaaDoor
namespace Rows

/-- THE TIED CARD OF 'larchlaw11.ShapeSizes'. -/
def shapeSizesCard : Claim7 := { stood := { row := shapeSizesRow, standIns := [], harness := (true, "78863182b3aa9e9e13ab86aacaa124d1c80d18a5c170e37189ad000759e3bb93"), looks := false }, kinds := [], alts := [], laidByText := true, laidKinds := [.data, .pinned], laidTests := true, laidLooks := .later }
def ShapeSizesCardSaid : Prop := Claim7.holds Tryd.pinned (.plain (OpenSpec.ofChange shapeSizesSpec)) shapeSizesCard

/-- THE TIED CARD OF 'larchlaw11.ShapeSelf'. -/
def shapeSelfCard : Claim7 := { stood := { row := shapeSelfRow, standIns := [], harness := (true, "78863182b3aa9e9e13ab86aacaa124d1c80d18a5c170e37189ad000759e3bb93"), looks := false }, kinds := [], alts := [], laidByText := true, laidKinds := [.data, .pinned], laidTests := true, laidLooks := .later }
def ShapeSelfCardSaid : Prop := Claim7.holds Tryd.pinned (.plain (OpenSpec.ofChange shapeSelfSpec)) shapeSelfCard

/-- THE SECOND FORM's CARD OF 'larchlaw11.ShapeSizes'. -/
def shapeSizesUptoCard : Claim7 := { stood := { row := shapeSizesUptoRow, standIns := [], harness := (true, "78863182b3aa9e9e13ab86aacaa124d1c80d18a5c170e37189ad000759e3bb93"), looks := false }, kinds := [], alts := [], laidByText := true, laidKinds := [.data, .pinned], laidTests := true, laidLooks := .later }
def ShapeSizesUptoCardSaid : Prop := Claim7.holds Tryd.pinned (.plain (OpenSpec.upto shapeSizesSpec)) shapeSizesUptoCard

/-- THE SECOND FORM's CARD OF 'larchlaw11.ShapeSelf'. -/
def shapeSelfUptoCard : Claim7 := { stood := { row := shapeSelfUptoRow, standIns := [], harness := (true, "78863182b3aa9e9e13ab86aacaa124d1c80d18a5c170e37189ad000759e3bb93"), looks := false }, kinds := [], alts := [], laidByText := true, laidKinds := [.data, .pinned], laidTests := true, laidLooks := .later }
def ShapeSelfUptoCardSaid : Prop := Claim7.holds Tryd.pinned (.plain (OpenSpec.upto shapeSelfSpec)) shapeSelfUptoCard
end Rows
end Go.Proofs.YtollfopbmbjnhaaDoor
