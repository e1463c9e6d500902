/-
  NARROWER THAN 'FOR EVERY INPUT', by the rows' own cells (each row's printed sentence says how): RoomFull: laid · RoomTreeForgets: laid · RoomMoves: laid · RoomNone: laid · RoomTrees: laid · RoomLoads: laid.
  DERIVED. THE GIVEN ROWS OF THIS SEAT. 6 by the template 'for every input the law returns true; each argument reads behind the call as it read before'; 0 by the template 'total and deterministic' (their statements: YtkjplffpihfliaaGreatDoorTotals.lean).
  GIVEN WITH THE SEED: the statements are not yours to turn. If you find one false, say at which input.
  Laid BY PROGRAM, IN A SANDBOX (cutbox-rows.mjs): the forced cells as the released guide's own fill.sh prints them over the translation 07b50575fe34dbef… (all of the seat's roots in one cut). By AI agents, Wed Nov 11 2026. No macro, syntax, notation, axiom, sorry.
-/
import Derived.Test.YtkjplffpihfliaaGreatDoorChecked
import GoSem.PinnedTables
import GoSem.Claim
import GoSem.ClaimJoined
import GoSem.ClaimMapViews
import Derived.JoinedTies
import Derived.KernelRfl
namespace Go.Proofs.YtkjplffpihfliaaGreatDoor
/- THE CELL 'sum', in the pinned program and in every row, IS THE sha256 OF THE DUMP (.gsa) THAT YtkjplffpihfliaaGreatDoorProg.lean LOADS. Nothing in Lean hashes anything: it is a label: what it is worth is what the hold of that sum in a sandbox is worth. -/
noncomputable def Tryz.pinned : Pinned := { name := "ytkjplffpihfliaagreatdoor", sum := "07b50575fe34dbef98c3d21e825ac91fdeac639df1169b11a112bfb806a1a29f", checked := Tryz.checked }
namespace Rows
def none {H : Type} : Left H := { results := [], args := [] }

/- WHAT THE LISTED PACKAGE-LEVEL VARIABLES READ AS WHEN THE CALL BEGINS. Each datum BY PROGRAM (the guide's laid-datum.mjs) off the statement by which the dump's own 'gosem.cut.vars' lays the variable. In a bare row this is a premise. The card (YtkjplffpihfliaaGreatDoorCards.lean) ties it to the program's text. -/
def laid_unicode_utf8_acceptRanges {H : Type} : DataW H := .agg [.agg [.lit (.int .u8 128), .lit (.int .u8 191)], .agg [.lit (.int .u8 160), .lit (.int .u8 191)], .agg [.lit (.int .u8 128), .lit (.int .u8 159)], .agg [.lit (.int .u8 144), .lit (.int .u8 191)], .agg [.lit (.int .u8 128), .lit (.int .u8 143)], .agg [.lit (.int .u8 0), .lit (.int .u8 0)], .agg [.lit (.int .u8 0), .lit (.int .u8 0)], .agg [.lit (.int .u8 0), .lit (.int .u8 0)], .agg [.lit (.int .u8 0), .lit (.int .u8 0)], .agg [.lit (.int .u8 0), .lit (.int .u8 0)], .agg [.lit (.int .u8 0), .lit (.int .u8 0)], .agg [.lit (.int .u8 0), .lit (.int .u8 0)], .agg [.lit (.int .u8 0), .lit (.int .u8 0)], .agg [.lit (.int .u8 0), .lit (.int .u8 0)], .agg [.lit (.int .u8 0), .lit (.int .u8 0)], .agg [.lit (.int .u8 0), .lit (.int .u8 0)]]
/-- One of Go's own tables, pinned by name: the form's constant. -/
def laid_unicode_utf8_first : DataW Unit := Go.Pinned.utf8First

/-- 'amnestylaw09.RoomFull': WHATEVER THE INPUT: true; the input reads as it did. -/
def roomFullSpec : ChangeSpec := { name := "roomFull", fn := fun _ => fun
  | [d1, d2, d3] => { results := [.lit (.bool true)], args := [d1, d2, d3] }
  | _ => none }
def roomFullRow : OpenClaim := { program := "ytkjplffpihfliaagreatdoor", sum := "07b50575fe34dbef98c3d21e825ac91fdeac639df1169b11a112bfb806a1a29f", func := "amnesty/amnestylaw09.RoomFull", spec := "roomFull", inPlace := ["slices.overlaps[[]byte]", "internal/bytealg.CountString", "internal/bytealg.IndexByteString", "internal/bytealg.IndexString", "internal/bytealg.Compare", "internal/bytealg.MakeNoZero", "internal/bytealg.abigen_runtime_cmpstring"], unfollowed := true, recurses := true, named := ["unicode/utf8.first", "unicode/utf8.acceptRanges", "internal/bytealg.MaxLen"], apart := false, laid := [("unicode/utf8.acceptRanges", laid_unicode_utf8_acceptRanges), ("unicode/utf8.first", laid_unicode_utf8_first)] }
def RoomFullSaid : Prop := roomFullRow.holds Tryz.pinned (OpenSpec.ofChange roomFullSpec)

/-- ITS FALSE NEIGHBOUR: 'it returns false'. Refute it at one input. -/
def roomFullWrong : ChangeSpec := { name := "roomFull", fn := fun _ => fun
  | [d1, d2, d3] => { results := [.lit (.bool false)], args := [d1, d2, d3] }
  | _ => none }
def RoomFullWrongFalsely : Prop := roomFullRow.holds Tryz.pinned (OpenSpec.ofChange roomFullWrong)

/-- 'amnestylaw09.RoomTreeForgets': WHATEVER THE INPUT: true; the input reads as it did. -/
def roomTreeForgetsSpec : ChangeSpec := { name := "roomTreeForgets", fn := fun _ => fun
  | [d1, d2] => { results := [.lit (.bool true)], args := [d1, d2] }
  | _ => none }
def roomTreeForgetsRow : OpenClaim := { program := "ytkjplffpihfliaagreatdoor", sum := "07b50575fe34dbef98c3d21e825ac91fdeac639df1169b11a112bfb806a1a29f", func := "amnesty/amnestylaw09.RoomTreeForgets", spec := "roomTreeForgets", inPlace := ["slices.overlaps[[]byte]", "internal/bytealg.CountString", "internal/bytealg.IndexByteString", "internal/bytealg.IndexString", "internal/bytealg.abigen_runtime_cmpstring", "internal/bytealg.Compare", "internal/bytealg.MakeNoZero"], unfollowed := true, recurses := true, named := ["unicode/utf8.first", "unicode/utf8.acceptRanges", "internal/bytealg.MaxLen"], apart := false, laid := [("unicode/utf8.acceptRanges", laid_unicode_utf8_acceptRanges), ("unicode/utf8.first", laid_unicode_utf8_first)] }
def RoomTreeForgetsSaid : Prop := roomTreeForgetsRow.holds Tryz.pinned (OpenSpec.ofChange roomTreeForgetsSpec)

/-- ITS FALSE NEIGHBOUR: 'it returns false'. Refute it at one input. -/
def roomTreeForgetsWrong : ChangeSpec := { name := "roomTreeForgets", fn := fun _ => fun
  | [d1, d2] => { results := [.lit (.bool false)], args := [d1, d2] }
  | _ => none }
def RoomTreeForgetsWrongFalsely : Prop := roomTreeForgetsRow.holds Tryz.pinned (OpenSpec.ofChange roomTreeForgetsWrong)

/-- 'amnestylaw09.RoomMoves': WHATEVER THE INPUT: true; the input reads as it did. -/
def roomMovesSpec : ChangeSpec := { name := "roomMoves", fn := fun _ => fun
  | [d1, d2, d3, d4] => { results := [.lit (.bool true)], args := [d1, d2, d3, d4] }
  | _ => none }
def roomMovesRow : OpenClaim := { program := "ytkjplffpihfliaagreatdoor", sum := "07b50575fe34dbef98c3d21e825ac91fdeac639df1169b11a112bfb806a1a29f", func := "amnesty/amnestylaw09.RoomMoves", spec := "roomMoves", inPlace := ["slices.overlaps[[]byte]", "internal/bytealg.CountString", "internal/bytealg.IndexByteString", "internal/bytealg.IndexString", "internal/bytealg.abigen_runtime_cmpstring", "internal/bytealg.Compare", "internal/bytealg.MakeNoZero"], unfollowed := true, recurses := true, named := ["unicode/utf8.first", "unicode/utf8.acceptRanges", "internal/bytealg.MaxLen"], apart := false, laid := [("unicode/utf8.acceptRanges", laid_unicode_utf8_acceptRanges), ("unicode/utf8.first", laid_unicode_utf8_first)] }
def RoomMovesSaid : Prop := roomMovesRow.holds Tryz.pinned (OpenSpec.ofChange roomMovesSpec)

/-- ITS FALSE NEIGHBOUR: 'it returns false'. Refute it at one input. -/
def roomMovesWrong : ChangeSpec := { name := "roomMoves", fn := fun _ => fun
  | [d1, d2, d3, d4] => { results := [.lit (.bool false)], args := [d1, d2, d3, d4] }
  | _ => none }
def RoomMovesWrongFalsely : Prop := roomMovesRow.holds Tryz.pinned (OpenSpec.ofChange roomMovesWrong)

/-- 'amnestylaw09.RoomNone': WHATEVER THE INPUT: true; the input reads as it did. -/
def roomNoneSpec : ChangeSpec := { name := "roomNone", fn := fun _ => fun
  | [d1, d2, d3, d4] => { results := [.lit (.bool true)], args := [d1, d2, d3, d4] }
  | _ => none }
def roomNoneRow : OpenClaim := { program := "ytkjplffpihfliaagreatdoor", sum := "07b50575fe34dbef98c3d21e825ac91fdeac639df1169b11a112bfb806a1a29f", func := "amnesty/amnestylaw09.RoomNone", spec := "roomNone", inPlace := ["internal/bytealg.CountString", "internal/bytealg.IndexByteString", "internal/bytealg.IndexString", "slices.overlaps[[]byte]", "internal/bytealg.abigen_runtime_cmpstring", "internal/bytealg.Compare", "internal/bytealg.MakeNoZero"], unfollowed := true, recurses := true, named := ["unicode/utf8.first", "unicode/utf8.acceptRanges", "internal/bytealg.MaxLen"], apart := false, laid := [("unicode/utf8.acceptRanges", laid_unicode_utf8_acceptRanges), ("unicode/utf8.first", laid_unicode_utf8_first)] }
def RoomNoneSaid : Prop := roomNoneRow.holds Tryz.pinned (OpenSpec.ofChange roomNoneSpec)

/-- ITS FALSE NEIGHBOUR: 'it returns false'. Refute it at one input. -/
def roomNoneWrong : ChangeSpec := { name := "roomNone", fn := fun _ => fun
  | [d1, d2, d3, d4] => { results := [.lit (.bool false)], args := [d1, d2, d3, d4] }
  | _ => none }
def RoomNoneWrongFalsely : Prop := roomNoneRow.holds Tryz.pinned (OpenSpec.ofChange roomNoneWrong)

/-- 'amnestylaw09.RoomTrees': WHATEVER THE INPUT: true; the input reads as it did. -/
def roomTreesSpec : ChangeSpec := { name := "roomTrees", fn := fun _ => fun
  | [d1, d2] => { results := [.lit (.bool true)], args := [d1, d2] }
  | _ => none }
def roomTreesRow : OpenClaim := { program := "ytkjplffpihfliaagreatdoor", sum := "07b50575fe34dbef98c3d21e825ac91fdeac639df1169b11a112bfb806a1a29f", func := "amnesty/amnestylaw09.RoomTrees", spec := "roomTrees", inPlace := ["slices.overlaps[[]byte]", "internal/bytealg.CountString", "internal/bytealg.IndexByteString", "internal/bytealg.IndexString", "internal/bytealg.abigen_runtime_cmpstring", "internal/bytealg.Compare", "internal/bytealg.MakeNoZero"], unfollowed := true, recurses := true, named := ["unicode/utf8.first", "unicode/utf8.acceptRanges", "internal/bytealg.MaxLen"], apart := false, laid := [("unicode/utf8.acceptRanges", laid_unicode_utf8_acceptRanges), ("unicode/utf8.first", laid_unicode_utf8_first)] }
def RoomTreesSaid : Prop := roomTreesRow.holds Tryz.pinned (OpenSpec.ofChange roomTreesSpec)

/-- ITS FALSE NEIGHBOUR: 'it returns false'. Refute it at one input. -/
def roomTreesWrong : ChangeSpec := { name := "roomTrees", fn := fun _ => fun
  | [d1, d2] => { results := [.lit (.bool false)], args := [d1, d2] }
  | _ => none }
def RoomTreesWrongFalsely : Prop := roomTreesRow.holds Tryz.pinned (OpenSpec.ofChange roomTreesWrong)

/-- 'amnestylaw09.RoomLoads': WHATEVER THE INPUT: true; the input reads as it did. -/
def roomLoadsSpec : ChangeSpec := { name := "roomLoads", fn := fun _ => fun
  | [d1, d2] => { results := [.lit (.bool true)], args := [d1, d2] }
  | _ => none }
def roomLoadsRow : OpenClaim := { program := "ytkjplffpihfliaagreatdoor", sum := "07b50575fe34dbef98c3d21e825ac91fdeac639df1169b11a112bfb806a1a29f", func := "amnesty/amnestylaw09.RoomLoads", spec := "roomLoads", inPlace := ["slices.overlaps[[]byte]", "internal/bytealg.CountString", "internal/bytealg.IndexByteString", "internal/bytealg.IndexString", "internal/bytealg.abigen_runtime_cmpstring", "internal/bytealg.Compare", "internal/bytealg.MakeNoZero"], unfollowed := true, recurses := true, named := ["unicode/utf8.first", "unicode/utf8.acceptRanges", "internal/bytealg.MaxLen"], apart := false, laid := [("unicode/utf8.acceptRanges", laid_unicode_utf8_acceptRanges), ("unicode/utf8.first", laid_unicode_utf8_first)] }
def RoomLoadsSaid : Prop := roomLoadsRow.holds Tryz.pinned (OpenSpec.ofChange roomLoadsSpec)

/-- ITS FALSE NEIGHBOUR: 'it returns false'. Refute it at one input. -/
def roomLoadsWrong : ChangeSpec := { name := "roomLoads", fn := fun _ => fun
  | [d1, d2] => { results := [.lit (.bool false)], args := [d1, d2] }
  | _ => none }
def RoomLoadsWrongFalsely : Prop := roomLoadsRow.holds Tryz.pinned (OpenSpec.ofChange roomLoadsWrong)

/- THE SECOND FORM. 'bulk': how many values and letters a reading holds, each counted each time it is reached (what is shared counts as often as it is met; a slice's spare places count too). A statement '..UptoSaid' is the law's where the arguments, and the package variables that the reading takes, are together of bulk at most 1048576: NARROWER than '..Said'. Prove '..Said' where nothing that the law and all that it calls make is longer than what came in: it says more and counts as full. Else prove '..UptoSaid'. A law counts once. -/
mutual
def uptoBulk {H : Type} : DataW H → Nat
  | .lit (.string bytes) => bytes.length + 1
  | .lit _ => 1
  | .nil => 1
  | .ptr d => uptoBulk d + 1
  | .slice elems spare => uptoBulkAll elems + uptoBulkAll spare + 1
  | .agg parts => uptoBulkAll parts + 1
  | .iface _ d => uptoBulk d + 1
  | .map entries => uptoBulkEntries entries + 1
  | .held _ => 1
def uptoBulkAll {H : Type} : List (DataW H) → Nat
  | [] => 0
  | d :: r => uptoBulk d + uptoBulkAll r
def uptoBulkEntries {H : Type} : List (Lit × DataW H) → Nat
  | [] => 0
  | x :: r => uptoBulkEntry x + uptoBulkEntries r
def uptoBulkEntry {H : Type} : Lit × DataW H → Nat
  | (.string bytes, d) => bytes.length + uptoBulk d + 1
  | (_, d) => uptoBulk d + 1
 end
def uptoSmall : (H : Type) → List (DataW H) → Bool := fun _ ds => decide (uptoBulkAll ds ≤ 1048576)
def OpenSpec.upto (s : _root_.Go.ChangeSpec) : _root_.Go.OpenSpec := { _root_.Go.OpenSpec.ofChange s with cond := some uptoSmall }

/-- 'amnestylaw09.RoomFull', WHERE WHAT IT READS IS OF BULK AT MOST 1048576: true; the input reads as it did. -/
def roomFullUptoRow : OpenClaim := { program := "ytkjplffpihfliaagreatdoor", sum := "07b50575fe34dbef98c3d21e825ac91fdeac639df1169b11a112bfb806a1a29f", func := "amnesty/amnestylaw09.RoomFull", spec := "roomFull", inPlace := ["slices.overlaps[[]byte]", "internal/bytealg.CountString", "internal/bytealg.IndexByteString", "internal/bytealg.IndexString", "internal/bytealg.Compare", "internal/bytealg.MakeNoZero", "internal/bytealg.abigen_runtime_cmpstring"], unfollowed := true, recurses := true, named := ["unicode/utf8.first", "unicode/utf8.acceptRanges", "internal/bytealg.MaxLen"], apart := false, laid := [("unicode/utf8.acceptRanges", laid_unicode_utf8_acceptRanges), ("unicode/utf8.first", laid_unicode_utf8_first)], narrowed := true }
def RoomFullUptoSaid : Prop := roomFullUptoRow.holds Tryz.pinned (OpenSpec.upto roomFullSpec)

/-- 'amnestylaw09.RoomTreeForgets', WHERE WHAT IT READS IS OF BULK AT MOST 1048576: true; the input reads as it did. -/
def roomTreeForgetsUptoRow : OpenClaim := { program := "ytkjplffpihfliaagreatdoor", sum := "07b50575fe34dbef98c3d21e825ac91fdeac639df1169b11a112bfb806a1a29f", func := "amnesty/amnestylaw09.RoomTreeForgets", spec := "roomTreeForgets", inPlace := ["slices.overlaps[[]byte]", "internal/bytealg.CountString", "internal/bytealg.IndexByteString", "internal/bytealg.IndexString", "internal/bytealg.abigen_runtime_cmpstring", "internal/bytealg.Compare", "internal/bytealg.MakeNoZero"], unfollowed := true, recurses := true, named := ["unicode/utf8.first", "unicode/utf8.acceptRanges", "internal/bytealg.MaxLen"], apart := false, laid := [("unicode/utf8.acceptRanges", laid_unicode_utf8_acceptRanges), ("unicode/utf8.first", laid_unicode_utf8_first)], narrowed := true }
def RoomTreeForgetsUptoSaid : Prop := roomTreeForgetsUptoRow.holds Tryz.pinned (OpenSpec.upto roomTreeForgetsSpec)

/-- 'amnestylaw09.RoomMoves', WHERE WHAT IT READS IS OF BULK AT MOST 1048576: true; the input reads as it did. -/
def roomMovesUptoRow : OpenClaim := { program := "ytkjplffpihfliaagreatdoor", sum := "07b50575fe34dbef98c3d21e825ac91fdeac639df1169b11a112bfb806a1a29f", func := "amnesty/amnestylaw09.RoomMoves", spec := "roomMoves", inPlace := ["slices.overlaps[[]byte]", "internal/bytealg.CountString", "internal/bytealg.IndexByteString", "internal/bytealg.IndexString", "internal/bytealg.abigen_runtime_cmpstring", "internal/bytealg.Compare", "internal/bytealg.MakeNoZero"], unfollowed := true, recurses := true, named := ["unicode/utf8.first", "unicode/utf8.acceptRanges", "internal/bytealg.MaxLen"], apart := false, laid := [("unicode/utf8.acceptRanges", laid_unicode_utf8_acceptRanges), ("unicode/utf8.first", laid_unicode_utf8_first)], narrowed := true }
def RoomMovesUptoSaid : Prop := roomMovesUptoRow.holds Tryz.pinned (OpenSpec.upto roomMovesSpec)

/-- 'amnestylaw09.RoomNone', WHERE WHAT IT READS IS OF BULK AT MOST 1048576: true; the input reads as it did. -/
def roomNoneUptoRow : OpenClaim := { program := "ytkjplffpihfliaagreatdoor", sum := "07b50575fe34dbef98c3d21e825ac91fdeac639df1169b11a112bfb806a1a29f", func := "amnesty/amnestylaw09.RoomNone", spec := "roomNone", inPlace := ["internal/bytealg.CountString", "internal/bytealg.IndexByteString", "internal/bytealg.IndexString", "slices.overlaps[[]byte]", "internal/bytealg.abigen_runtime_cmpstring", "internal/bytealg.Compare", "internal/bytealg.MakeNoZero"], unfollowed := true, recurses := true, named := ["unicode/utf8.first", "unicode/utf8.acceptRanges", "internal/bytealg.MaxLen"], apart := false, laid := [("unicode/utf8.acceptRanges", laid_unicode_utf8_acceptRanges), ("unicode/utf8.first", laid_unicode_utf8_first)], narrowed := true }
def RoomNoneUptoSaid : Prop := roomNoneUptoRow.holds Tryz.pinned (OpenSpec.upto roomNoneSpec)

/-- 'amnestylaw09.RoomTrees', WHERE WHAT IT READS IS OF BULK AT MOST 1048576: true; the input reads as it did. -/
def roomTreesUptoRow : OpenClaim := { program := "ytkjplffpihfliaagreatdoor", sum := "07b50575fe34dbef98c3d21e825ac91fdeac639df1169b11a112bfb806a1a29f", func := "amnesty/amnestylaw09.RoomTrees", spec := "roomTrees", inPlace := ["slices.overlaps[[]byte]", "internal/bytealg.CountString", "internal/bytealg.IndexByteString", "internal/bytealg.IndexString", "internal/bytealg.abigen_runtime_cmpstring", "internal/bytealg.Compare", "internal/bytealg.MakeNoZero"], unfollowed := true, recurses := true, named := ["unicode/utf8.first", "unicode/utf8.acceptRanges", "internal/bytealg.MaxLen"], apart := false, laid := [("unicode/utf8.acceptRanges", laid_unicode_utf8_acceptRanges), ("unicode/utf8.first", laid_unicode_utf8_first)], narrowed := true }
def RoomTreesUptoSaid : Prop := roomTreesUptoRow.holds Tryz.pinned (OpenSpec.upto roomTreesSpec)

/-- 'amnestylaw09.RoomLoads', WHERE WHAT IT READS IS OF BULK AT MOST 1048576: true; the input reads as it did. -/
def roomLoadsUptoRow : OpenClaim := { program := "ytkjplffpihfliaagreatdoor", sum := "07b50575fe34dbef98c3d21e825ac91fdeac639df1169b11a112bfb806a1a29f", func := "amnesty/amnestylaw09.RoomLoads", spec := "roomLoads", inPlace := ["slices.overlaps[[]byte]", "internal/bytealg.CountString", "internal/bytealg.IndexByteString", "internal/bytealg.IndexString", "internal/bytealg.abigen_runtime_cmpstring", "internal/bytealg.Compare", "internal/bytealg.MakeNoZero"], unfollowed := true, recurses := true, named := ["unicode/utf8.first", "unicode/utf8.acceptRanges", "internal/bytealg.MaxLen"], apart := false, laid := [("unicode/utf8.acceptRanges", laid_unicode_utf8_acceptRanges), ("unicode/utf8.first", laid_unicode_utf8_first)], narrowed := true }
def RoomLoadsUptoSaid : Prop := roomLoadsUptoRow.holds Tryz.pinned (OpenSpec.upto roomLoadsSpec)

end Rows
end Go.Proofs.YtkjplffpihfliaaGreatDoor
