/-
  NARROWER THAN 'FOR EVERY INPUT', by the rows' own cells (each row's printed sentence says how): LinkVoid: laid · CallBack: laid.
  DERIVED. THE GIVEN ROWS OF THIS SEAT. 2 by the template 'for every input the law returns true; each argument reads behind the call as it read before'; 0 by the template 'total and deterministic' (their statements: YtgpkochbmfhmdaaGreatDoorTotals.lean).
  GIVEN WITH THE SEED: the statements are not yours to turn. If you find one false, say at which input.
  Laid BY PROGRAM, IN A SANDBOX (cutbox-rows.mjs): the forced cells as the released guide's own fill.sh prints them over the translation 9ddd8c5c9f69b1cf… (all of the seat's roots in one cut). By AI agents, Wed Nov 11 2026. No macro, syntax, notation, axiom, sorry.
-/
import Derived.Test.YtgpkochbmfhmdaaGreatDoorChecked
import GoSem.PinnedTables
import GoSem.Claim
import GoSem.ClaimJoined
import GoSem.ClaimMapViews
import Derived.JoinedTies
import Derived.KernelRfl
namespace Go.Proofs.YtgpkochbmfhmdaaGreatDoor
/- THE CELL 'sum', in the pinned program and in every row, IS THE sha256 OF THE DUMP (.gsa) THAT YtgpkochbmfhmdaaGreatDoorProg.lean LOADS. Nothing in Lean hashes anything: it is a label: what it is worth is what the hold of that sum in a sandbox is worth. -/
noncomputable def Tryz.pinned : Pinned := { name := "ytgpkochbmfhmdaagreatdoor", sum := "9ddd8c5c9f69b1cf5737f591429a1db1bf047268a233fecdb1eb5ee1d1f3f174", checked := Tryz.checked }
namespace Rows
def none {H : Type} : Left H := { results := [], args := [] }

/- WHAT THE LISTED PACKAGE-LEVEL VARIABLES READ AS WHEN THE CALL BEGINS. Each datum BY PROGRAM (the guide's laid-datum.mjs) off the statement by which the dump's own 'gosem.cut.vars' lays the variable. In a bare row this is a premise. The card (YtgpkochbmfhmdaaGreatDoorCards.lean) ties it to the program's text. -/
def laid_unicode_utf8_acceptRanges {H : Type} : DataW H := .agg [.agg [.lit (.int .u8 128), .lit (.int .u8 191)], .agg [.lit (.int .u8 160), .lit (.int .u8 191)], .agg [.lit (.int .u8 128), .lit (.int .u8 159)], .agg [.lit (.int .u8 144), .lit (.int .u8 191)], .agg [.lit (.int .u8 128), .lit (.int .u8 143)], .agg [.lit (.int .u8 0), .lit (.int .u8 0)], .agg [.lit (.int .u8 0), .lit (.int .u8 0)], .agg [.lit (.int .u8 0), .lit (.int .u8 0)], .agg [.lit (.int .u8 0), .lit (.int .u8 0)], .agg [.lit (.int .u8 0), .lit (.int .u8 0)], .agg [.lit (.int .u8 0), .lit (.int .u8 0)], .agg [.lit (.int .u8 0), .lit (.int .u8 0)], .agg [.lit (.int .u8 0), .lit (.int .u8 0)], .agg [.lit (.int .u8 0), .lit (.int .u8 0)], .agg [.lit (.int .u8 0), .lit (.int .u8 0)], .agg [.lit (.int .u8 0), .lit (.int .u8 0)]]
def laid_larch_class_kinds {H : Type} : DataW H := .agg [.lit (.int .i64 0), .lit (.int .i64 1), .lit (.int .i64 4), .lit (.int .i64 5), .lit (.int .i64 7)]
def laid_larch_link_faults {H : Type} : DataW H := .agg [.lit (.string [65, 114, 105, 116, 104, 109, 101, 116, 105, 99]), .lit (.string [78, 117, 108, 108]), .lit (.string [73, 110, 100, 101, 120]), .lit (.string [78, 101, 103, 97, 116, 105, 118, 101]), .lit (.string [67, 97, 115, 116]), .lit (.string [83, 116, 111, 114, 101]), .lit (.string [77, 111, 110, 105, 116, 111, 114])]
def laid_larch_link_calls {H : Type} : DataW H := .agg [.agg [.lit (.string [111, 117, 116]), .lit (.string [40, 73, 41, 86])], .agg [.lit (.string [105, 110]), .lit (.string [40, 41, 73])], .agg [.lit (.string [115, 112, 97, 119, 110]), .lit (.string [40, 76, 79, 98, 106, 101, 99, 116, 59, 41, 86])], .agg [.lit (.string [119, 97, 105, 116]), .lit (.string [40, 76, 79, 98, 106, 101, 99, 116, 59, 41, 86])], .agg [.lit (.string [110, 111, 116, 105, 102, 121]), .lit (.string [40, 76, 79, 98, 106, 101, 99, 116, 59, 41, 86])], .agg [.lit (.string [121, 105, 101, 108, 100]), .lit (.string [40, 41, 86])]]
/-- One of Go's own tables, pinned by name: the form's constant. -/
def laid_unicode_utf8_first : DataW Unit := Go.Pinned.utf8First

/-- 'larchlaw13.LinkVoid': WHATEVER THE INPUT: true; the input reads as it did. -/
def linkVoidSpec : ChangeSpec := { name := "linkVoid", fn := fun _ => fun
  | [d] => { results := [.lit (.bool true)], args := [d] }
  | _ => none }
def linkVoidRow : OpenClaim := { program := "ytgpkochbmfhmdaagreatdoor", sum := "9ddd8c5c9f69b1cf5737f591429a1db1bf047268a233fecdb1eb5ee1d1f3f174", func := "larch/larchlaw13.LinkVoid", spec := "linkVoid", inPlace := ["internal/bytealg.IndexByteString", "internal/bytealg.IndexString"], unfollowed := true, recurses := true, named := ["larch/link.faults", "unicode/utf8.first", "unicode/utf8.acceptRanges", "larch/class.kinds", "internal/bytealg.MaxLen", "larch/link.calls"], apart := false, laid := [("unicode/utf8.acceptRanges", laid_unicode_utf8_acceptRanges), ("larch/class.kinds", laid_larch_class_kinds), ("larch/link.faults", laid_larch_link_faults), ("larch/link.calls", laid_larch_link_calls), ("unicode/utf8.first", laid_unicode_utf8_first)] }
def LinkVoidSaid : Prop := linkVoidRow.holds Tryz.pinned (OpenSpec.ofChange linkVoidSpec)

/-- ITS FALSE NEIGHBOUR: 'it returns false'. Refute it at one input. -/
def linkVoidWrong : ChangeSpec := { name := "linkVoid", fn := fun _ => fun
  | [d] => { results := [.lit (.bool false)], args := [d] }
  | _ => none }
def LinkVoidWrongFalsely : Prop := linkVoidRow.holds Tryz.pinned (OpenSpec.ofChange linkVoidWrong)

/-- 'larchlaw17.CallBack': WHATEVER THE INPUT: true; the input reads as it did. -/
def callBackSpec : ChangeSpec := { name := "callBack", fn := fun _ => fun
  | [d1, d2] => { results := [.lit (.bool true)], args := [d1, d2] }
  | _ => none }
def callBackRow : OpenClaim := { program := "ytgpkochbmfhmdaagreatdoor", sum := "9ddd8c5c9f69b1cf5737f591429a1db1bf047268a233fecdb1eb5ee1d1f3f174", func := "larch/larchlaw17.CallBack", spec := "callBack", inPlace := ["internal/bytealg.IndexByteString", "internal/bytealg.IndexString"], unfollowed := true, recurses := true, named := ["larch/link.faults", "unicode/utf8.first", "unicode/utf8.acceptRanges", "larch/class.kinds", "internal/bytealg.MaxLen", "larch/link.calls"], apart := false, laid := [("unicode/utf8.acceptRanges", laid_unicode_utf8_acceptRanges), ("larch/class.kinds", laid_larch_class_kinds), ("larch/link.faults", laid_larch_link_faults), ("larch/link.calls", laid_larch_link_calls), ("unicode/utf8.first", laid_unicode_utf8_first)] }
def CallBackSaid : Prop := callBackRow.holds Tryz.pinned (OpenSpec.ofChange callBackSpec)

/-- ITS FALSE NEIGHBOUR: 'it returns false'. Refute it at one input. -/
def callBackWrong : ChangeSpec := { name := "callBack", fn := fun _ => fun
  | [d1, d2] => { results := [.lit (.bool false)], args := [d1, d2] }
  | _ => none }
def CallBackWrongFalsely : Prop := callBackRow.holds Tryz.pinned (OpenSpec.ofChange callBackWrong)

/- THE SECOND FORM. 'bulk': how many values and letters a reading holds, each counted each time it is reached (what is shared counts as often as it is met; a slice's spare places count too). A statement '..UptoSaid' is the law's where the arguments, and the package variables that the reading takes, are together of bulk at most 1048576: NARROWER than '..Said'. Prove '..Said' where nothing that the law and all that it calls make is longer than what came in: it says more and counts as full. Else prove '..UptoSaid'. A law counts once. -/
mutual
def uptoBulk {H : Type} : DataW H → Nat
  | .lit (.string bytes) => bytes.length + 1
  | .lit _ => 1
  | .nil => 1
  | .ptr d => uptoBulk d + 1
  | .slice elems spare => uptoBulkAll elems + uptoBulkAll spare + 1
  | .agg parts => uptoBulkAll parts + 1
  | .iface _ d => uptoBulk d + 1
  | .map entries => uptoBulkEntries entries + 1
  | .held _ => 1
def uptoBulkAll {H : Type} : List (DataW H) → Nat
  | [] => 0
  | d :: r => uptoBulk d + uptoBulkAll r
def uptoBulkEntries {H : Type} : List (Lit × DataW H) → Nat
  | [] => 0
  | x :: r => uptoBulkEntry x + uptoBulkEntries r
def uptoBulkEntry {H : Type} : Lit × DataW H → Nat
  | (.string bytes, d) => bytes.length + uptoBulk d + 1
  | (_, d) => uptoBulk d + 1
 end
def uptoSmall : (H : Type) → List (DataW H) → Bool := fun _ ds => decide (uptoBulkAll ds ≤ 1048576)
def OpenSpec.upto (s : _root_.Go.ChangeSpec) : _root_.Go.OpenSpec := { _root_.Go.OpenSpec.ofChange s with cond := some uptoSmall }

/-- 'larchlaw13.LinkVoid', WHERE WHAT IT READS IS OF BULK AT MOST 1048576: true; the input reads as it did. -/
def linkVoidUptoRow : OpenClaim := { program := "ytgpkochbmfhmdaagreatdoor", sum := "9ddd8c5c9f69b1cf5737f591429a1db1bf047268a233fecdb1eb5ee1d1f3f174", func := "larch/larchlaw13.LinkVoid", spec := "linkVoid", inPlace := ["internal/bytealg.IndexByteString", "internal/bytealg.IndexString"], unfollowed := true, recurses := true, named := ["larch/link.faults", "unicode/utf8.first", "unicode/utf8.acceptRanges", "larch/class.kinds", "internal/bytealg.MaxLen", "larch/link.calls"], apart := false, laid := [("unicode/utf8.acceptRanges", laid_unicode_utf8_acceptRanges), ("larch/class.kinds", laid_larch_class_kinds), ("larch/link.faults", laid_larch_link_faults), ("larch/link.calls", laid_larch_link_calls), ("unicode/utf8.first", laid_unicode_utf8_first)], narrowed := true }
def LinkVoidUptoSaid : Prop := linkVoidUptoRow.holds Tryz.pinned (OpenSpec.upto linkVoidSpec)

/-- 'larchlaw17.CallBack', WHERE WHAT IT READS IS OF BULK AT MOST 1048576: true; the input reads as it did. -/
def callBackUptoRow : OpenClaim := { program := "ytgpkochbmfhmdaagreatdoor", sum := "9ddd8c5c9f69b1cf5737f591429a1db1bf047268a233fecdb1eb5ee1d1f3f174", func := "larch/larchlaw17.CallBack", spec := "callBack", inPlace := ["internal/bytealg.IndexByteString", "internal/bytealg.IndexString"], unfollowed := true, recurses := true, named := ["larch/link.faults", "unicode/utf8.first", "unicode/utf8.acceptRanges", "larch/class.kinds", "internal/bytealg.MaxLen", "larch/link.calls"], apart := false, laid := [("unicode/utf8.acceptRanges", laid_unicode_utf8_acceptRanges), ("larch/class.kinds", laid_larch_class_kinds), ("larch/link.faults", laid_larch_link_faults), ("larch/link.calls", laid_larch_link_calls), ("unicode/utf8.first", laid_unicode_utf8_first)], narrowed := true }
def CallBackUptoSaid : Prop := callBackUptoRow.holds Tryz.pinned (OpenSpec.upto callBackSpec)

end Rows
end Go.Proofs.YtgpkochbmfhmdaaGreatDoor
