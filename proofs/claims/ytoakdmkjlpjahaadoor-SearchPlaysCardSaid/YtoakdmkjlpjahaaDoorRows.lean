/-
  NARROWER THAN 'FOR EVERY INPUT', by the rows' own cells (each row's printed sentence says how): SearchWords: laid · SearchOrder: laid · SearchNarrows: laid · SearchPlays: laid · SearchGone: laid · SearchNone: laid.
  DERIVED. THE GIVEN ROWS OF THIS SEAT. 6 by the template 'for every input the law returns true; each argument reads behind the call as it read before'; 0 by the template 'total and deterministic' (their statements: YtoakdmkjlpjahaaDoorTotals.lean).
  GIVEN WITH THE SEED: the statements are not yours to turn. If you find one false, say at which input.
  Laid BY PROGRAM, IN A SANDBOX (cutbox-rows.mjs): the forced cells as the released guide's own fill.sh prints them over the translation 1e1b7e0e1c3de3d6… (all of the seat's roots in one cut). By AI agents, Wed Nov 11 2026. No macro, syntax, notation, axiom, sorry.
-/
import Derived.Test.YtoakdmkjlpjahaaDoorChecked
import GoSem.PinnedTables
import GoSem.Claim
import GoSem.ClaimJoined
import GoSem.ClaimMapViews
import Derived.JoinedTies
import Derived.KernelRfl
namespace Go.Proofs.YtoakdmkjlpjahaaDoor
/- THE CELL 'sum', in the pinned program and in every row, IS THE sha256 OF THE DUMP (.gsa) THAT YtoakdmkjlpjahaaDoorProg.lean LOADS. Nothing in Lean hashes anything: it is a label: what it is worth is what the hold of that sum in a sandbox is worth. -/
noncomputable def Tryd.pinned : Pinned := { name := "ytoakdmkjlpjahaadoor", sum := "1e1b7e0e1c3de3d627b1432f618f6b33655929e27bd437cba5f7aa5ab20c7698", checked := Tryd.checked }
namespace Rows
def none {H : Type} : Left H := { results := [], args := [] }

/- WHAT THE LISTED PACKAGE-LEVEL VARIABLES READ AS WHEN THE CALL BEGINS. Each datum BY PROGRAM (the guide's laid-datum.mjs) off the statement by which the dump's own 'gosem.cut.vars' lays the variable. In a bare row this is a premise. The card (YtoakdmkjlpjahaaDoorCards.lean) ties it to the program's text. -/
def laid_unicode_utf8_acceptRanges {H : Type} : DataW H := .agg [.agg [.lit (.int .u8 128), .lit (.int .u8 191)], .agg [.lit (.int .u8 160), .lit (.int .u8 191)], .agg [.lit (.int .u8 128), .lit (.int .u8 159)], .agg [.lit (.int .u8 144), .lit (.int .u8 191)], .agg [.lit (.int .u8 128), .lit (.int .u8 143)], .agg [.lit (.int .u8 0), .lit (.int .u8 0)], .agg [.lit (.int .u8 0), .lit (.int .u8 0)], .agg [.lit (.int .u8 0), .lit (.int .u8 0)], .agg [.lit (.int .u8 0), .lit (.int .u8 0)], .agg [.lit (.int .u8 0), .lit (.int .u8 0)], .agg [.lit (.int .u8 0), .lit (.int .u8 0)], .agg [.lit (.int .u8 0), .lit (.int .u8 0)], .agg [.lit (.int .u8 0), .lit (.int .u8 0)], .agg [.lit (.int .u8 0), .lit (.int .u8 0)], .agg [.lit (.int .u8 0), .lit (.int .u8 0)], .agg [.lit (.int .u8 0), .lit (.int .u8 0)]]
/-- One of Go's own tables, pinned by name: the form's constant. -/
def laid_unicode_utf8_first : DataW Unit := Go.Pinned.utf8First

/-- 'agoralaw30.SearchWords': WHATEVER THE INPUT: true; the input reads as it did. -/
def searchWordsSpec : ChangeSpec := { name := "searchWords", fn := fun _ => fun
  | [d] => { results := [.lit (.bool true)], args := [d] }
  | _ => none }
def searchWordsRow : OpenClaim := { program := "ytoakdmkjlpjahaadoor", sum := "1e1b7e0e1c3de3d627b1432f618f6b33655929e27bd437cba5f7aa5ab20c7698", func := "agora/agoralaw30.SearchWords", spec := "searchWords", inPlace := ["internal/abi.NoEscape", "slices.overlaps[string]"], unfollowed := true, recurses := true, named := ["unicode/utf8.first", "unicode/utf8.acceptRanges"], apart := false, laid := [("unicode/utf8.acceptRanges", laid_unicode_utf8_acceptRanges), ("unicode/utf8.first", laid_unicode_utf8_first)] }
def SearchWordsSaid : Prop := searchWordsRow.holds Tryd.pinned (OpenSpec.ofChange searchWordsSpec)

/-- ITS FALSE NEIGHBOUR: 'it returns false'. Refute it at one input. -/
def searchWordsWrong : ChangeSpec := { name := "searchWords", fn := fun _ => fun
  | [d] => { results := [.lit (.bool false)], args := [d] }
  | _ => none }
def SearchWordsWrongFalsely : Prop := searchWordsRow.holds Tryd.pinned (OpenSpec.ofChange searchWordsWrong)

/-- 'agoralaw30.SearchOrder': WHATEVER THE INPUT: true; the input reads as it did. -/
def searchOrderSpec : ChangeSpec := { name := "searchOrder", fn := fun _ => fun
  | [d1, d2, d3] => { results := [.lit (.bool true)], args := [d1, d2, d3] }
  | _ => none }
def searchOrderRow : OpenClaim := { program := "ytoakdmkjlpjahaadoor", sum := "1e1b7e0e1c3de3d627b1432f618f6b33655929e27bd437cba5f7aa5ab20c7698", func := "agora/agoralaw30.SearchOrder", spec := "searchOrder", inPlace := ["internal/abi.NoEscape", "slices.overlaps[string]"], unfollowed := true, recurses := true, named := ["unicode/utf8.first", "unicode/utf8.acceptRanges"], apart := false, laid := [("unicode/utf8.acceptRanges", laid_unicode_utf8_acceptRanges), ("unicode/utf8.first", laid_unicode_utf8_first)] }
def SearchOrderSaid : Prop := searchOrderRow.holds Tryd.pinned (OpenSpec.ofChange searchOrderSpec)

/-- ITS FALSE NEIGHBOUR: 'it returns false'. Refute it at one input. -/
def searchOrderWrong : ChangeSpec := { name := "searchOrder", fn := fun _ => fun
  | [d1, d2, d3] => { results := [.lit (.bool false)], args := [d1, d2, d3] }
  | _ => none }
def SearchOrderWrongFalsely : Prop := searchOrderRow.holds Tryd.pinned (OpenSpec.ofChange searchOrderWrong)

/-- 'agoralaw30.SearchNarrows': WHATEVER THE INPUT: true; the input reads as it did. -/
def searchNarrowsSpec : ChangeSpec := { name := "searchNarrows", fn := fun _ => fun
  | [d1, d2, d3] => { results := [.lit (.bool true)], args := [d1, d2, d3] }
  | _ => none }
def searchNarrowsRow : OpenClaim := { program := "ytoakdmkjlpjahaadoor", sum := "1e1b7e0e1c3de3d627b1432f618f6b33655929e27bd437cba5f7aa5ab20c7698", func := "agora/agoralaw30.SearchNarrows", spec := "searchNarrows", inPlace := ["internal/abi.NoEscape", "slices.overlaps[string]"], unfollowed := true, recurses := true, named := ["unicode/utf8.first", "unicode/utf8.acceptRanges"], apart := false, laid := [("unicode/utf8.acceptRanges", laid_unicode_utf8_acceptRanges), ("unicode/utf8.first", laid_unicode_utf8_first)] }
def SearchNarrowsSaid : Prop := searchNarrowsRow.holds Tryd.pinned (OpenSpec.ofChange searchNarrowsSpec)

/-- ITS FALSE NEIGHBOUR: 'it returns false'. Refute it at one input. -/
def searchNarrowsWrong : ChangeSpec := { name := "searchNarrows", fn := fun _ => fun
  | [d1, d2, d3] => { results := [.lit (.bool false)], args := [d1, d2, d3] }
  | _ => none }
def SearchNarrowsWrongFalsely : Prop := searchNarrowsRow.holds Tryd.pinned (OpenSpec.ofChange searchNarrowsWrong)

/-- 'agoralaw30.SearchPlays': WHATEVER THE INPUT: true; the input reads as it did. -/
def searchPlaysSpec : ChangeSpec := { name := "searchPlays", fn := fun _ => fun
  | [d1, d2] => { results := [.lit (.bool true)], args := [d1, d2] }
  | _ => none }
def searchPlaysRow : OpenClaim := { program := "ytoakdmkjlpjahaadoor", sum := "1e1b7e0e1c3de3d627b1432f618f6b33655929e27bd437cba5f7aa5ab20c7698", func := "agora/agoralaw30.SearchPlays", spec := "searchPlays", inPlace := ["internal/abi.NoEscape", "slices.overlaps[string]"], unfollowed := true, recurses := true, named := ["unicode/utf8.first", "unicode/utf8.acceptRanges"], apart := false, laid := [("unicode/utf8.acceptRanges", laid_unicode_utf8_acceptRanges), ("unicode/utf8.first", laid_unicode_utf8_first)] }
def SearchPlaysSaid : Prop := searchPlaysRow.holds Tryd.pinned (OpenSpec.ofChange searchPlaysSpec)

/-- ITS FALSE NEIGHBOUR: 'it returns false'. Refute it at one input. -/
def searchPlaysWrong : ChangeSpec := { name := "searchPlays", fn := fun _ => fun
  | [d1, d2] => { results := [.lit (.bool false)], args := [d1, d2] }
  | _ => none }
def SearchPlaysWrongFalsely : Prop := searchPlaysRow.holds Tryd.pinned (OpenSpec.ofChange searchPlaysWrong)

/-- 'agoralaw30.SearchGone': WHATEVER THE INPUT: true; the input reads as it did. -/
def searchGoneSpec : ChangeSpec := { name := "searchGone", fn := fun _ => fun
  | [d1, d2, d3] => { results := [.lit (.bool true)], args := [d1, d2, d3] }
  | _ => none }
def searchGoneRow : OpenClaim := { program := "ytoakdmkjlpjahaadoor", sum := "1e1b7e0e1c3de3d627b1432f618f6b33655929e27bd437cba5f7aa5ab20c7698", func := "agora/agoralaw30.SearchGone", spec := "searchGone", inPlace := ["internal/abi.NoEscape", "slices.overlaps[string]"], unfollowed := true, recurses := true, named := ["unicode/utf8.first", "unicode/utf8.acceptRanges"], apart := false, laid := [("unicode/utf8.acceptRanges", laid_unicode_utf8_acceptRanges), ("unicode/utf8.first", laid_unicode_utf8_first)] }
def SearchGoneSaid : Prop := searchGoneRow.holds Tryd.pinned (OpenSpec.ofChange searchGoneSpec)

/-- ITS FALSE NEIGHBOUR: 'it returns false'. Refute it at one input. -/
def searchGoneWrong : ChangeSpec := { name := "searchGone", fn := fun _ => fun
  | [d1, d2, d3] => { results := [.lit (.bool false)], args := [d1, d2, d3] }
  | _ => none }
def SearchGoneWrongFalsely : Prop := searchGoneRow.holds Tryd.pinned (OpenSpec.ofChange searchGoneWrong)

/-- 'agoralaw30.SearchNone': WHATEVER THE INPUT: true; the input reads as it did. -/
def searchNoneSpec : ChangeSpec := { name := "searchNone", fn := fun _ => fun
  | [d1, d2, d3] => { results := [.lit (.bool true)], args := [d1, d2, d3] }
  | _ => none }
def searchNoneRow : OpenClaim := { program := "ytoakdmkjlpjahaadoor", sum := "1e1b7e0e1c3de3d627b1432f618f6b33655929e27bd437cba5f7aa5ab20c7698", func := "agora/agoralaw30.SearchNone", spec := "searchNone", inPlace := ["internal/abi.NoEscape", "slices.overlaps[string]"], unfollowed := true, recurses := true, named := ["unicode/utf8.first", "unicode/utf8.acceptRanges"], apart := false, laid := [("unicode/utf8.acceptRanges", laid_unicode_utf8_acceptRanges), ("unicode/utf8.first", laid_unicode_utf8_first)] }
def SearchNoneSaid : Prop := searchNoneRow.holds Tryd.pinned (OpenSpec.ofChange searchNoneSpec)

/-- ITS FALSE NEIGHBOUR: 'it returns false'. Refute it at one input. -/
def searchNoneWrong : ChangeSpec := { name := "searchNone", fn := fun _ => fun
  | [d1, d2, d3] => { results := [.lit (.bool false)], args := [d1, d2, d3] }
  | _ => none }
def SearchNoneWrongFalsely : Prop := searchNoneRow.holds Tryd.pinned (OpenSpec.ofChange searchNoneWrong)

/- THE SECOND FORM. 'bulk': how many values and letters a reading holds, each counted each time it is reached (what is shared counts as often as it is met; a slice's spare places count too). A statement '..UptoSaid' is the law's where the arguments, and the package variables that the reading takes, are together of bulk at most 1048576: NARROWER than '..Said'. Prove '..Said' where nothing that the law and all that it calls make is longer than what came in: it says more and counts as full. Else prove '..UptoSaid'. A law counts once. -/
mutual
def uptoBulk {H : Type} : DataW H → Nat
  | .lit (.string bytes) => bytes.length + 1
  | .lit _ => 1
  | .nil => 1
  | .ptr d => uptoBulk d + 1
  | .slice elems spare => uptoBulkAll elems + uptoBulkAll spare + 1
  | .agg parts => uptoBulkAll parts + 1
  | .iface _ d => uptoBulk d + 1
  | .map entries => uptoBulkEntries entries + 1
  | .held _ => 1
def uptoBulkAll {H : Type} : List (DataW H) → Nat
  | [] => 0
  | d :: r => uptoBulk d + uptoBulkAll r
def uptoBulkEntries {H : Type} : List (Lit × DataW H) → Nat
  | [] => 0
  | x :: r => uptoBulkEntry x + uptoBulkEntries r
def uptoBulkEntry {H : Type} : Lit × DataW H → Nat
  | (.string bytes, d) => bytes.length + uptoBulk d + 1
  | (_, d) => uptoBulk d + 1
 end
def uptoSmall : (H : Type) → List (DataW H) → Bool := fun _ ds => decide (uptoBulkAll ds ≤ 1048576)
def OpenSpec.upto (s : _root_.Go.ChangeSpec) : _root_.Go.OpenSpec := { _root_.Go.OpenSpec.ofChange s with cond := some uptoSmall }

/-- 'agoralaw30.SearchWords', WHERE WHAT IT READS IS OF BULK AT MOST 1048576: true; the input reads as it did. -/
def searchWordsUptoRow : OpenClaim := { program := "ytoakdmkjlpjahaadoor", sum := "1e1b7e0e1c3de3d627b1432f618f6b33655929e27bd437cba5f7aa5ab20c7698", func := "agora/agoralaw30.SearchWords", spec := "searchWords", inPlace := ["internal/abi.NoEscape", "slices.overlaps[string]"], unfollowed := true, recurses := true, named := ["unicode/utf8.first", "unicode/utf8.acceptRanges"], apart := false, laid := [("unicode/utf8.acceptRanges", laid_unicode_utf8_acceptRanges), ("unicode/utf8.first", laid_unicode_utf8_first)], narrowed := true }
def SearchWordsUptoSaid : Prop := searchWordsUptoRow.holds Tryd.pinned (OpenSpec.upto searchWordsSpec)

/-- 'agoralaw30.SearchOrder', WHERE WHAT IT READS IS OF BULK AT MOST 1048576: true; the input reads as it did. -/
def searchOrderUptoRow : OpenClaim := { program := "ytoakdmkjlpjahaadoor", sum := "1e1b7e0e1c3de3d627b1432f618f6b33655929e27bd437cba5f7aa5ab20c7698", func := "agora/agoralaw30.SearchOrder", spec := "searchOrder", inPlace := ["internal/abi.NoEscape", "slices.overlaps[string]"], unfollowed := true, recurses := true, named := ["unicode/utf8.first", "unicode/utf8.acceptRanges"], apart := false, laid := [("unicode/utf8.acceptRanges", laid_unicode_utf8_acceptRanges), ("unicode/utf8.first", laid_unicode_utf8_first)], narrowed := true }
def SearchOrderUptoSaid : Prop := searchOrderUptoRow.holds Tryd.pinned (OpenSpec.upto searchOrderSpec)

/-- 'agoralaw30.SearchNarrows', WHERE WHAT IT READS IS OF BULK AT MOST 1048576: true; the input reads as it did. -/
def searchNarrowsUptoRow : OpenClaim := { program := "ytoakdmkjlpjahaadoor", sum := "1e1b7e0e1c3de3d627b1432f618f6b33655929e27bd437cba5f7aa5ab20c7698", func := "agora/agoralaw30.SearchNarrows", spec := "searchNarrows", inPlace := ["internal/abi.NoEscape", "slices.overlaps[string]"], unfollowed := true, recurses := true, named := ["unicode/utf8.first", "unicode/utf8.acceptRanges"], apart := false, laid := [("unicode/utf8.acceptRanges", laid_unicode_utf8_acceptRanges), ("unicode/utf8.first", laid_unicode_utf8_first)], narrowed := true }
def SearchNarrowsUptoSaid : Prop := searchNarrowsUptoRow.holds Tryd.pinned (OpenSpec.upto searchNarrowsSpec)

/-- 'agoralaw30.SearchPlays', WHERE WHAT IT READS IS OF BULK AT MOST 1048576: true; the input reads as it did. -/
def searchPlaysUptoRow : OpenClaim := { program := "ytoakdmkjlpjahaadoor", sum := "1e1b7e0e1c3de3d627b1432f618f6b33655929e27bd437cba5f7aa5ab20c7698", func := "agora/agoralaw30.SearchPlays", spec := "searchPlays", inPlace := ["internal/abi.NoEscape", "slices.overlaps[string]"], unfollowed := true, recurses := true, named := ["unicode/utf8.first", "unicode/utf8.acceptRanges"], apart := false, laid := [("unicode/utf8.acceptRanges", laid_unicode_utf8_acceptRanges), ("unicode/utf8.first", laid_unicode_utf8_first)], narrowed := true }
def SearchPlaysUptoSaid : Prop := searchPlaysUptoRow.holds Tryd.pinned (OpenSpec.upto searchPlaysSpec)

/-- 'agoralaw30.SearchGone', WHERE WHAT IT READS IS OF BULK AT MOST 1048576: true; the input reads as it did. -/
def searchGoneUptoRow : OpenClaim := { program := "ytoakdmkjlpjahaadoor", sum := "1e1b7e0e1c3de3d627b1432f618f6b33655929e27bd437cba5f7aa5ab20c7698", func := "agora/agoralaw30.SearchGone", spec := "searchGone", inPlace := ["internal/abi.NoEscape", "slices.overlaps[string]"], unfollowed := true, recurses := true, named := ["unicode/utf8.first", "unicode/utf8.acceptRanges"], apart := false, laid := [("unicode/utf8.acceptRanges", laid_unicode_utf8_acceptRanges), ("unicode/utf8.first", laid_unicode_utf8_first)], narrowed := true }
def SearchGoneUptoSaid : Prop := searchGoneUptoRow.holds Tryd.pinned (OpenSpec.upto searchGoneSpec)

/-- 'agoralaw30.SearchNone', WHERE WHAT IT READS IS OF BULK AT MOST 1048576: true; the input reads as it did. -/
def searchNoneUptoRow : OpenClaim := { program := "ytoakdmkjlpjahaadoor", sum := "1e1b7e0e1c3de3d627b1432f618f6b33655929e27bd437cba5f7aa5ab20c7698", func := "agora/agoralaw30.SearchNone", spec := "searchNone", inPlace := ["internal/abi.NoEscape", "slices.overlaps[string]"], unfollowed := true, recurses := true, named := ["unicode/utf8.first", "unicode/utf8.acceptRanges"], apart := false, laid := [("unicode/utf8.acceptRanges", laid_unicode_utf8_acceptRanges), ("unicode/utf8.first", laid_unicode_utf8_first)], narrowed := true }
def SearchNoneUptoSaid : Prop := searchNoneUptoRow.holds Tryd.pinned (OpenSpec.upto searchNoneSpec)

end Rows
end Go.Proofs.YtoakdmkjlpjahaaDoor
