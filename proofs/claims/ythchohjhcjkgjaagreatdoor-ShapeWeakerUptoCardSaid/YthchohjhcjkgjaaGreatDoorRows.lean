/-
  NARROWER THAN 'FOR EVERY INPUT', by the rows' own cells (each row's printed sentence says how): ShapeWeaker: laid · VerifySound: laid · VerifyStraight: laid · VerifyMaps: laid · VerifyFrames: laid.
  DERIVED. THE GIVEN ROWS OF THIS SEAT. 5 by the template 'for every input the law returns true; each argument reads behind the call as it read before'; 0 by the template 'total and deterministic' (their statements: YthchohjhcjkgjaaGreatDoorTotals.lean).
  GIVEN WITH THE SEED: the statements are not yours to turn. If you find one false, say at which input.
  Laid BY PROGRAM, IN A SANDBOX (cutbox-rows.mjs): the forced cells as the released guide's own fill.sh prints them over the translation eea5ca1889d6c993… (all of the seat's roots in one cut). By AI agents, Wed Nov 11 2026. No macro, syntax, notation, axiom, sorry.
-/
import Derived.Test.YthchohjhcjkgjaaGreatDoorChecked
import GoSem.PinnedTables
import GoSem.Claim
import GoSem.ClaimJoined
import GoSem.ClaimMapViews
import Derived.JoinedTies
import Derived.KernelRfl
namespace Go.Proofs.YthchohjhcjkgjaaGreatDoor
/- THE CELL 'sum', in the pinned program and in every row, IS THE sha256 OF THE DUMP (.gsa) THAT YthchohjhcjkgjaaGreatDoorProg.lean LOADS. Nothing in Lean hashes anything: it is a label: what it is worth is what the hold of that sum in a sandbox is worth. -/
noncomputable def Tryz.pinned : Pinned := { name := "ythchohjhcjkgjaagreatdoor", sum := "eea5ca1889d6c993ed6fa01d117ab979b65dcabf55f3a66423e62d58caee836a", checked := Tryz.checked }
namespace Rows
def none {H : Type} : Left H := { results := [], args := [] }

/- WHAT THE LISTED PACKAGE-LEVEL VARIABLES READ AS WHEN THE CALL BEGINS. Each datum BY PROGRAM (the guide's laid-datum.mjs) off the statement by which the dump's own 'gosem.cut.vars' lays the variable. In a bare row this is a premise. The card (YthchohjhcjkgjaaGreatDoorCards.lean) ties it to the program's text. -/
def laid_unicode_utf8_acceptRanges {H : Type} : DataW H := .agg [.agg [.lit (.int .u8 128), .lit (.int .u8 191)], .agg [.lit (.int .u8 160), .lit (.int .u8 191)], .agg [.lit (.int .u8 128), .lit (.int .u8 159)], .agg [.lit (.int .u8 144), .lit (.int .u8 191)], .agg [.lit (.int .u8 128), .lit (.int .u8 143)], .agg [.lit (.int .u8 0), .lit (.int .u8 0)], .agg [.lit (.int .u8 0), .lit (.int .u8 0)], .agg [.lit (.int .u8 0), .lit (.int .u8 0)], .agg [.lit (.int .u8 0), .lit (.int .u8 0)], .agg [.lit (.int .u8 0), .lit (.int .u8 0)], .agg [.lit (.int .u8 0), .lit (.int .u8 0)], .agg [.lit (.int .u8 0), .lit (.int .u8 0)], .agg [.lit (.int .u8 0), .lit (.int .u8 0)], .agg [.lit (.int .u8 0), .lit (.int .u8 0)], .agg [.lit (.int .u8 0), .lit (.int .u8 0)], .agg [.lit (.int .u8 0), .lit (.int .u8 0)]]
/-- One of Go's own tables, pinned by name: the form's constant. -/
def laid_unicode_utf8_first : DataW Unit := Go.Pinned.utf8First
def laid_larch_class_kinds {H : Type} : DataW H := .agg [.lit (.int .i64 0), .lit (.int .i64 1), .lit (.int .i64 4), .lit (.int .i64 5), .lit (.int .i64 7)]

/-- 'larchlaw11.ShapeWeaker': WHATEVER THE INPUT: true; the input reads as it did. -/
def shapeWeakerSpec : ChangeSpec := { name := "shapeWeaker", fn := fun _ => fun
  | [d1, d2, d3, d4] => { results := [.lit (.bool true)], args := [d1, d2, d3, d4] }
  | _ => none }
def shapeWeakerRow : OpenClaim := { program := "ythchohjhcjkgjaagreatdoor", sum := "eea5ca1889d6c993ed6fa01d117ab979b65dcabf55f3a66423e62d58caee836a", func := "larch/larchlaw11.ShapeWeaker", spec := "shapeWeaker", inPlace := ["internal/bytealg.IndexByteString", "internal/bytealg.IndexString"], unfollowed := true, recurses := true, named := ["internal/bytealg.MaxLen", "unicode/utf8.first", "unicode/utf8.acceptRanges"], apart := false, laid := [("unicode/utf8.acceptRanges", laid_unicode_utf8_acceptRanges), ("unicode/utf8.first", laid_unicode_utf8_first)] }
def ShapeWeakerSaid : Prop := shapeWeakerRow.holds Tryz.pinned (OpenSpec.ofChange shapeWeakerSpec)

/-- ITS FALSE NEIGHBOUR: 'it returns false'. Refute it at one input. -/
def shapeWeakerWrong : ChangeSpec := { name := "shapeWeaker", fn := fun _ => fun
  | [d1, d2, d3, d4] => { results := [.lit (.bool false)], args := [d1, d2, d3, d4] }
  | _ => none }
def ShapeWeakerWrongFalsely : Prop := shapeWeakerRow.holds Tryz.pinned (OpenSpec.ofChange shapeWeakerWrong)

/-- 'larchlaw12.VerifySound': WHATEVER THE INPUT: true; the input reads as it did. -/
def verifySoundSpec : ChangeSpec := { name := "verifySound", fn := fun _ => fun
  | [d1, d2, d3] => { results := [.lit (.bool true)], args := [d1, d2, d3] }
  | _ => none }
def verifySoundRow : OpenClaim := { program := "ythchohjhcjkgjaagreatdoor", sum := "eea5ca1889d6c993ed6fa01d117ab979b65dcabf55f3a66423e62d58caee836a", func := "larch/larchlaw12.VerifySound", spec := "verifySound", inPlace := ["internal/bytealg.IndexByteString", "internal/bytealg.IndexString"], unfollowed := true, recurses := true, named := ["larch/class.kinds", "unicode/utf8.first", "unicode/utf8.acceptRanges", "internal/bytealg.MaxLen"], apart := false, laid := [("unicode/utf8.acceptRanges", laid_unicode_utf8_acceptRanges), ("larch/class.kinds", laid_larch_class_kinds), ("unicode/utf8.first", laid_unicode_utf8_first)] }
def VerifySoundSaid : Prop := verifySoundRow.holds Tryz.pinned (OpenSpec.ofChange verifySoundSpec)

/-- ITS FALSE NEIGHBOUR: 'it returns false'. Refute it at one input. -/
def verifySoundWrong : ChangeSpec := { name := "verifySound", fn := fun _ => fun
  | [d1, d2, d3] => { results := [.lit (.bool false)], args := [d1, d2, d3] }
  | _ => none }
def VerifySoundWrongFalsely : Prop := verifySoundRow.holds Tryz.pinned (OpenSpec.ofChange verifySoundWrong)

/-- 'larchlaw12.VerifyStraight': WHATEVER THE INPUT: true; the input reads as it did. -/
def verifyStraightSpec : ChangeSpec := { name := "verifyStraight", fn := fun _ => fun
  | [d1, d2, d3] => { results := [.lit (.bool true)], args := [d1, d2, d3] }
  | _ => none }
def verifyStraightRow : OpenClaim := { program := "ythchohjhcjkgjaagreatdoor", sum := "eea5ca1889d6c993ed6fa01d117ab979b65dcabf55f3a66423e62d58caee836a", func := "larch/larchlaw12.VerifyStraight", spec := "verifyStraight", inPlace := ["internal/bytealg.IndexByteString", "internal/bytealg.IndexString"], unfollowed := true, recurses := true, named := ["larch/class.kinds", "unicode/utf8.first", "unicode/utf8.acceptRanges", "internal/bytealg.MaxLen"], apart := false, laid := [("unicode/utf8.acceptRanges", laid_unicode_utf8_acceptRanges), ("larch/class.kinds", laid_larch_class_kinds), ("unicode/utf8.first", laid_unicode_utf8_first)] }
def VerifyStraightSaid : Prop := verifyStraightRow.holds Tryz.pinned (OpenSpec.ofChange verifyStraightSpec)

/-- ITS FALSE NEIGHBOUR: 'it returns false'. Refute it at one input. -/
def verifyStraightWrong : ChangeSpec := { name := "verifyStraight", fn := fun _ => fun
  | [d1, d2, d3] => { results := [.lit (.bool false)], args := [d1, d2, d3] }
  | _ => none }
def VerifyStraightWrongFalsely : Prop := verifyStraightRow.holds Tryz.pinned (OpenSpec.ofChange verifyStraightWrong)

/-- 'larchlaw12.VerifyMaps': WHATEVER THE INPUT: true; the input reads as it did. -/
def verifyMapsSpec : ChangeSpec := { name := "verifyMaps", fn := fun _ => fun
  | [d1, d2, d3, d4] => { results := [.lit (.bool true)], args := [d1, d2, d3, d4] }
  | _ => none }
def verifyMapsRow : OpenClaim := { program := "ythchohjhcjkgjaagreatdoor", sum := "eea5ca1889d6c993ed6fa01d117ab979b65dcabf55f3a66423e62d58caee836a", func := "larch/larchlaw12.VerifyMaps", spec := "verifyMaps", inPlace := ["internal/bytealg.IndexByteString", "internal/bytealg.IndexString"], unfollowed := true, recurses := true, named := ["larch/class.kinds", "unicode/utf8.first", "unicode/utf8.acceptRanges", "internal/bytealg.MaxLen"], apart := false, laid := [("unicode/utf8.acceptRanges", laid_unicode_utf8_acceptRanges), ("larch/class.kinds", laid_larch_class_kinds), ("unicode/utf8.first", laid_unicode_utf8_first)] }
def VerifyMapsSaid : Prop := verifyMapsRow.holds Tryz.pinned (OpenSpec.ofChange verifyMapsSpec)

/-- ITS FALSE NEIGHBOUR: 'it returns false'. Refute it at one input. -/
def verifyMapsWrong : ChangeSpec := { name := "verifyMaps", fn := fun _ => fun
  | [d1, d2, d3, d4] => { results := [.lit (.bool false)], args := [d1, d2, d3, d4] }
  | _ => none }
def VerifyMapsWrongFalsely : Prop := verifyMapsRow.holds Tryz.pinned (OpenSpec.ofChange verifyMapsWrong)

/-- 'larchlaw12.VerifyFrames': WHATEVER THE INPUT: true; the input reads as it did. -/
def verifyFramesSpec : ChangeSpec := { name := "verifyFrames", fn := fun _ => fun
  | [d1, d2, d3] => { results := [.lit (.bool true)], args := [d1, d2, d3] }
  | _ => none }
def verifyFramesRow : OpenClaim := { program := "ythchohjhcjkgjaagreatdoor", sum := "eea5ca1889d6c993ed6fa01d117ab979b65dcabf55f3a66423e62d58caee836a", func := "larch/larchlaw12.VerifyFrames", spec := "verifyFrames", inPlace := ["internal/bytealg.IndexByteString", "internal/bytealg.IndexString"], unfollowed := true, recurses := true, named := ["larch/class.kinds", "unicode/utf8.first", "unicode/utf8.acceptRanges", "internal/bytealg.MaxLen"], apart := false, laid := [("unicode/utf8.acceptRanges", laid_unicode_utf8_acceptRanges), ("larch/class.kinds", laid_larch_class_kinds), ("unicode/utf8.first", laid_unicode_utf8_first)] }
def VerifyFramesSaid : Prop := verifyFramesRow.holds Tryz.pinned (OpenSpec.ofChange verifyFramesSpec)

/-- ITS FALSE NEIGHBOUR: 'it returns false'. Refute it at one input. -/
def verifyFramesWrong : ChangeSpec := { name := "verifyFrames", fn := fun _ => fun
  | [d1, d2, d3] => { results := [.lit (.bool false)], args := [d1, d2, d3] }
  | _ => none }
def VerifyFramesWrongFalsely : Prop := verifyFramesRow.holds Tryz.pinned (OpenSpec.ofChange verifyFramesWrong)

/- THE SECOND FORM. 'bulk': how many values and letters a reading holds, each counted each time it is reached (what is shared counts as often as it is met; a slice's spare places count too). A statement '..UptoSaid' is the law's where the arguments, and the package variables that the reading takes, are together of bulk at most 1048576: NARROWER than '..Said'. Prove '..Said' where nothing that the law and all that it calls make is longer than what came in: it says more and counts as full. Else prove '..UptoSaid'. A law counts once. -/
mutual
def uptoBulk {H : Type} : DataW H → Nat
  | .lit (.string bytes) => bytes.length + 1
  | .lit _ => 1
  | .nil => 1
  | .ptr d => uptoBulk d + 1
  | .slice elems spare => uptoBulkAll elems + uptoBulkAll spare + 1
  | .agg parts => uptoBulkAll parts + 1
  | .iface _ d => uptoBulk d + 1
  | .map entries => uptoBulkEntries entries + 1
  | .held _ => 1
def uptoBulkAll {H : Type} : List (DataW H) → Nat
  | [] => 0
  | d :: r => uptoBulk d + uptoBulkAll r
def uptoBulkEntries {H : Type} : List (Lit × DataW H) → Nat
  | [] => 0
  | x :: r => uptoBulkEntry x + uptoBulkEntries r
def uptoBulkEntry {H : Type} : Lit × DataW H → Nat
  | (.string bytes, d) => bytes.length + uptoBulk d + 1
  | (_, d) => uptoBulk d + 1
 end
def uptoSmall : (H : Type) → List (DataW H) → Bool := fun _ ds => decide (uptoBulkAll ds ≤ 1048576)
def OpenSpec.upto (s : _root_.Go.ChangeSpec) : _root_.Go.OpenSpec := { _root_.Go.OpenSpec.ofChange s with cond := some uptoSmall }

/-- 'larchlaw11.ShapeWeaker', WHERE WHAT IT READS IS OF BULK AT MOST 1048576: true; the input reads as it did. -/
def shapeWeakerUptoRow : OpenClaim := { program := "ythchohjhcjkgjaagreatdoor", sum := "eea5ca1889d6c993ed6fa01d117ab979b65dcabf55f3a66423e62d58caee836a", func := "larch/larchlaw11.ShapeWeaker", spec := "shapeWeaker", inPlace := ["internal/bytealg.IndexByteString", "internal/bytealg.IndexString"], unfollowed := true, recurses := true, named := ["internal/bytealg.MaxLen", "unicode/utf8.first", "unicode/utf8.acceptRanges"], apart := false, laid := [("unicode/utf8.acceptRanges", laid_unicode_utf8_acceptRanges), ("unicode/utf8.first", laid_unicode_utf8_first)], narrowed := true }
def ShapeWeakerUptoSaid : Prop := shapeWeakerUptoRow.holds Tryz.pinned (OpenSpec.upto shapeWeakerSpec)

/-- 'larchlaw12.VerifySound', WHERE WHAT IT READS IS OF BULK AT MOST 1048576: true; the input reads as it did. -/
def verifySoundUptoRow : OpenClaim := { program := "ythchohjhcjkgjaagreatdoor", sum := "eea5ca1889d6c993ed6fa01d117ab979b65dcabf55f3a66423e62d58caee836a", func := "larch/larchlaw12.VerifySound", spec := "verifySound", inPlace := ["internal/bytealg.IndexByteString", "internal/bytealg.IndexString"], unfollowed := true, recurses := true, named := ["larch/class.kinds", "unicode/utf8.first", "unicode/utf8.acceptRanges", "internal/bytealg.MaxLen"], apart := false, laid := [("unicode/utf8.acceptRanges", laid_unicode_utf8_acceptRanges), ("larch/class.kinds", laid_larch_class_kinds), ("unicode/utf8.first", laid_unicode_utf8_first)], narrowed := true }
def VerifySoundUptoSaid : Prop := verifySoundUptoRow.holds Tryz.pinned (OpenSpec.upto verifySoundSpec)

/-- 'larchlaw12.VerifyStraight', WHERE WHAT IT READS IS OF BULK AT MOST 1048576: true; the input reads as it did. -/
def verifyStraightUptoRow : OpenClaim := { program := "ythchohjhcjkgjaagreatdoor", sum := "eea5ca1889d6c993ed6fa01d117ab979b65dcabf55f3a66423e62d58caee836a", func := "larch/larchlaw12.VerifyStraight", spec := "verifyStraight", inPlace := ["internal/bytealg.IndexByteString", "internal/bytealg.IndexString"], unfollowed := true, recurses := true, named := ["larch/class.kinds", "unicode/utf8.first", "unicode/utf8.acceptRanges", "internal/bytealg.MaxLen"], apart := false, laid := [("unicode/utf8.acceptRanges", laid_unicode_utf8_acceptRanges), ("larch/class.kinds", laid_larch_class_kinds), ("unicode/utf8.first", laid_unicode_utf8_first)], narrowed := true }
def VerifyStraightUptoSaid : Prop := verifyStraightUptoRow.holds Tryz.pinned (OpenSpec.upto verifyStraightSpec)

/-- 'larchlaw12.VerifyMaps', WHERE WHAT IT READS IS OF BULK AT MOST 1048576: true; the input reads as it did. -/
def verifyMapsUptoRow : OpenClaim := { program := "ythchohjhcjkgjaagreatdoor", sum := "eea5ca1889d6c993ed6fa01d117ab979b65dcabf55f3a66423e62d58caee836a", func := "larch/larchlaw12.VerifyMaps", spec := "verifyMaps", inPlace := ["internal/bytealg.IndexByteString", "internal/bytealg.IndexString"], unfollowed := true, recurses := true, named := ["larch/class.kinds", "unicode/utf8.first", "unicode/utf8.acceptRanges", "internal/bytealg.MaxLen"], apart := false, laid := [("unicode/utf8.acceptRanges", laid_unicode_utf8_acceptRanges), ("larch/class.kinds", laid_larch_class_kinds), ("unicode/utf8.first", laid_unicode_utf8_first)], narrowed := true }
def VerifyMapsUptoSaid : Prop := verifyMapsUptoRow.holds Tryz.pinned (OpenSpec.upto verifyMapsSpec)

/-- 'larchlaw12.VerifyFrames', WHERE WHAT IT READS IS OF BULK AT MOST 1048576: true; the input reads as it did. -/
def verifyFramesUptoRow : OpenClaim := { program := "ythchohjhcjkgjaagreatdoor", sum := "eea5ca1889d6c993ed6fa01d117ab979b65dcabf55f3a66423e62d58caee836a", func := "larch/larchlaw12.VerifyFrames", spec := "verifyFrames", inPlace := ["internal/bytealg.IndexByteString", "internal/bytealg.IndexString"], unfollowed := true, recurses := true, named := ["larch/class.kinds", "unicode/utf8.first", "unicode/utf8.acceptRanges", "internal/bytealg.MaxLen"], apart := false, laid := [("unicode/utf8.acceptRanges", laid_unicode_utf8_acceptRanges), ("larch/class.kinds", laid_larch_class_kinds), ("unicode/utf8.first", laid_unicode_utf8_first)], narrowed := true }
def VerifyFramesUptoSaid : Prop := verifyFramesUptoRow.holds Tryz.pinned (OpenSpec.upto verifyFramesSpec)

end Rows
end Go.Proofs.YthchohjhcjkgjaaGreatDoor
