/-
  No cell of these rows narrows 'for every input' (looked for: loops, veiled, ifaces, maps, wideKeys, modest, calm, conditions, laid).
  DERIVED. THE GIVEN ROWS OF THIS SEAT. 7 by the template 'for every input the law returns true; each argument reads behind the call as it read before'; 0 by the template 'total and deterministic' (their statements: YtpmhhbdfompbhaaTotals.lean).
  GIVEN WITH THE SEED: the statements are not yours to turn. If you find one false, say at which input.
  Laid BY PROGRAM, IN A SANDBOX (cutbox-rows.mjs): the forced cells as the released guide's own fill.sh prints them over the translation 84f11f54dc09a828… (all of the seat's roots in one cut). By AI agents, Wed Nov 11 2026. No macro, syntax, notation, axiom, sorry.
-/
import Derived.Test.YtpmhhbdfompbhaaChecked
import GoSem.Claim
import GoSem.ClaimJoined
import GoSem.ClaimMapViews
import Derived.JoinedTies
import Derived.KernelRfl
namespace Go.Proofs.Ytpmhhbdfompbhaa
/- THE CELL 'sum', in the pinned program and in every row, IS THE sha256 OF THE DUMP (.gsa) THAT YtpmhhbdfompbhaaProg.lean LOADS. Nothing in Lean hashes anything: it is a label: what it is worth is what the hold of that sum in a sandbox is worth. -/
noncomputable def Try.pinned : Pinned := { name := "ytpmhhbdfompbhaa", sum := "84f11f54dc09a8280727a5f646276786969f1ce869f771bbfc482569cff2d75a", checked := Try.checked }
namespace Rows
def none {H : Type} : Left H := { results := [], args := [] }

/-- 'agoralaw08.DagHeads': WHATEVER THE INPUT: true; the input reads as it did. -/
def dagHeadsSpec : ChangeSpec := { name := "dagHeads", fn := fun _ => fun
  | [d1, d2] => { results := [.lit (.bool true)], args := [d1, d2] }
  | _ => none }
def dagHeadsRow : OpenClaim := { program := "ytpmhhbdfompbhaa", sum := "84f11f54dc09a8280727a5f646276786969f1ce869f771bbfc482569cff2d75a", func := "agora/agoralaw08.DagHeads", spec := "dagHeads", unfollowed := true, recurses := true, apart := false }
def DagHeadsSaid : Prop := dagHeadsRow.holds Try.pinned (OpenSpec.ofChange dagHeadsSpec)

/-- ITS FALSE NEIGHBOUR: 'it returns false'. Refute it at one input. -/
def dagHeadsWrong : ChangeSpec := { name := "dagHeads", fn := fun _ => fun
  | [d1, d2] => { results := [.lit (.bool false)], args := [d1, d2] }
  | _ => none }
def DagHeadsWrongFalsely : Prop := dagHeadsRow.holds Try.pinned (OpenSpec.ofChange dagHeadsWrong)

/-- 'agoralaw08.DagUnion': WHATEVER THE INPUT: true; the input reads as it did. -/
def dagUnionSpec : ChangeSpec := { name := "dagUnion", fn := fun _ => fun
  | [d1, d2, d3] => { results := [.lit (.bool true)], args := [d1, d2, d3] }
  | _ => none }
def dagUnionRow : OpenClaim := { program := "ytpmhhbdfompbhaa", sum := "84f11f54dc09a8280727a5f646276786969f1ce869f771bbfc482569cff2d75a", func := "agora/agoralaw08.DagUnion", spec := "dagUnion", unfollowed := true, recurses := true, apart := false }
def DagUnionSaid : Prop := dagUnionRow.holds Try.pinned (OpenSpec.ofChange dagUnionSpec)

/-- ITS FALSE NEIGHBOUR: 'it returns false'. Refute it at one input. -/
def dagUnionWrong : ChangeSpec := { name := "dagUnion", fn := fun _ => fun
  | [d1, d2, d3] => { results := [.lit (.bool false)], args := [d1, d2, d3] }
  | _ => none }
def DagUnionWrongFalsely : Prop := dagUnionRow.holds Try.pinned (OpenSpec.ofChange dagUnionWrong)

/-- 'agoralaw08.DagTops': WHATEVER THE INPUT: true; the input reads as it did. -/
def dagTopsSpec : ChangeSpec := { name := "dagTops", fn := fun _ => fun
  | [d1, d2] => { results := [.lit (.bool true)], args := [d1, d2] }
  | _ => none }
def dagTopsRow : OpenClaim := { program := "ytpmhhbdfompbhaa", sum := "84f11f54dc09a8280727a5f646276786969f1ce869f771bbfc482569cff2d75a", func := "agora/agoralaw08.DagTops", spec := "dagTops", unfollowed := true, recurses := true, apart := false }
def DagTopsSaid : Prop := dagTopsRow.holds Try.pinned (OpenSpec.ofChange dagTopsSpec)

/-- ITS FALSE NEIGHBOUR: 'it returns false'. Refute it at one input. -/
def dagTopsWrong : ChangeSpec := { name := "dagTops", fn := fun _ => fun
  | [d1, d2] => { results := [.lit (.bool false)], args := [d1, d2] }
  | _ => none }
def DagTopsWrongFalsely : Prop := dagTopsRow.holds Try.pinned (OpenSpec.ofChange dagTopsWrong)

/-- 'agoralaw08.DagReaches': WHATEVER THE INPUT: true; the input reads as it did. -/
def dagReachesSpec : ChangeSpec := { name := "dagReaches", fn := fun _ => fun
  | [d1, d2] => { results := [.lit (.bool true)], args := [d1, d2] }
  | _ => none }
def dagReachesRow : OpenClaim := { program := "ytpmhhbdfompbhaa", sum := "84f11f54dc09a8280727a5f646276786969f1ce869f771bbfc482569cff2d75a", func := "agora/agoralaw08.DagReaches", spec := "dagReaches", unfollowed := true, recurses := true, apart := false }
def DagReachesSaid : Prop := dagReachesRow.holds Try.pinned (OpenSpec.ofChange dagReachesSpec)

/-- ITS FALSE NEIGHBOUR: 'it returns false'. Refute it at one input. -/
def dagReachesWrong : ChangeSpec := { name := "dagReaches", fn := fun _ => fun
  | [d1, d2] => { results := [.lit (.bool false)], args := [d1, d2] }
  | _ => none }
def DagReachesWrongFalsely : Prop := dagReachesRow.holds Try.pinned (OpenSpec.ofChange dagReachesWrong)

/-- 'agoralaw08.DagBack': WHATEVER THE INPUT: true; the input reads as it did. -/
def dagBackSpec : ChangeSpec := { name := "dagBack", fn := fun _ => fun
  | [d1, d2] => { results := [.lit (.bool true)], args := [d1, d2] }
  | _ => none }
def dagBackRow : OpenClaim := { program := "ytpmhhbdfompbhaa", sum := "84f11f54dc09a8280727a5f646276786969f1ce869f771bbfc482569cff2d75a", func := "agora/agoralaw08.DagBack", spec := "dagBack", unfollowed := true, recurses := true, apart := false }
def DagBackSaid : Prop := dagBackRow.holds Try.pinned (OpenSpec.ofChange dagBackSpec)

/-- ITS FALSE NEIGHBOUR: 'it returns false'. Refute it at one input. -/
def dagBackWrong : ChangeSpec := { name := "dagBack", fn := fun _ => fun
  | [d1, d2] => { results := [.lit (.bool false)], args := [d1, d2] }
  | _ => none }
def DagBackWrongFalsely : Prop := dagBackRow.holds Try.pinned (OpenSpec.ofChange dagBackWrong)

/-- 'agoralaw08.DagPlays': WHATEVER THE INPUT: true; the input reads as it did. -/
def dagPlaysSpec : ChangeSpec := { name := "dagPlays", fn := fun _ => fun
  | [d1, d2] => { results := [.lit (.bool true)], args := [d1, d2] }
  | _ => none }
def dagPlaysRow : OpenClaim := { program := "ytpmhhbdfompbhaa", sum := "84f11f54dc09a8280727a5f646276786969f1ce869f771bbfc482569cff2d75a", func := "agora/agoralaw08.DagPlays", spec := "dagPlays", unfollowed := true, recurses := true, apart := false }
def DagPlaysSaid : Prop := dagPlaysRow.holds Try.pinned (OpenSpec.ofChange dagPlaysSpec)

/-- ITS FALSE NEIGHBOUR: 'it returns false'. Refute it at one input. -/
def dagPlaysWrong : ChangeSpec := { name := "dagPlays", fn := fun _ => fun
  | [d1, d2] => { results := [.lit (.bool false)], args := [d1, d2] }
  | _ => none }
def DagPlaysWrongFalsely : Prop := dagPlaysRow.holds Try.pinned (OpenSpec.ofChange dagPlaysWrong)

/-- 'agoralaw08.DagNone': WHATEVER THE INPUT: true; the input reads as it did. -/
def dagNoneSpec : ChangeSpec := { name := "dagNone", fn := fun _ => fun
  | [d] => { results := [.lit (.bool true)], args := [d] }
  | _ => none }
def dagNoneRow : OpenClaim := { program := "ytpmhhbdfompbhaa", sum := "84f11f54dc09a8280727a5f646276786969f1ce869f771bbfc482569cff2d75a", func := "agora/agoralaw08.DagNone", spec := "dagNone", unfollowed := true, recurses := true, apart := false }
def DagNoneSaid : Prop := dagNoneRow.holds Try.pinned (OpenSpec.ofChange dagNoneSpec)

/-- ITS FALSE NEIGHBOUR: 'it returns false'. Refute it at one input. -/
def dagNoneWrong : ChangeSpec := { name := "dagNone", fn := fun _ => fun
  | [d] => { results := [.lit (.bool false)], args := [d] }
  | _ => none }
def DagNoneWrongFalsely : Prop := dagNoneRow.holds Try.pinned (OpenSpec.ofChange dagNoneWrong)

/- THE SECOND FORM. 'bulk': how many values and letters a reading holds, each counted each time it is reached (what is shared counts as often as it is met; a slice's spare places count too). A statement '..UptoSaid' is the law's where the arguments, and the package variables that the reading takes, are together of bulk at most 1048576: NARROWER than '..Said'. Prove '..Said' where nothing that the law and all that it calls make is longer than what came in: it says more and counts as full. Else prove '..UptoSaid'. A law counts once. -/
mutual
def uptoBulk {H : Type} : DataW H → Nat
  | .lit (.string bytes) => bytes.length + 1
  | .lit _ => 1
  | .nil => 1
  | .ptr d => uptoBulk d + 1
  | .slice elems spare => uptoBulkAll elems + uptoBulkAll spare + 1
  | .agg parts => uptoBulkAll parts + 1
  | .iface _ d => uptoBulk d + 1
  | .map entries => uptoBulkEntries entries + 1
  | .held _ => 1
def uptoBulkAll {H : Type} : List (DataW H) → Nat
  | [] => 0
  | d :: r => uptoBulk d + uptoBulkAll r
def uptoBulkEntries {H : Type} : List (Lit × DataW H) → Nat
  | [] => 0
  | x :: r => uptoBulkEntry x + uptoBulkEntries r
def uptoBulkEntry {H : Type} : Lit × DataW H → Nat
  | (.string bytes, d) => bytes.length + uptoBulk d + 1
  | (_, d) => uptoBulk d + 1
 end
def uptoSmall : (H : Type) → List (DataW H) → Bool := fun _ ds => decide (uptoBulkAll ds ≤ 1048576)
def OpenSpec.upto (s : _root_.Go.ChangeSpec) : _root_.Go.OpenSpec := { _root_.Go.OpenSpec.ofChange s with cond := some uptoSmall }

/-- 'agoralaw08.DagHeads', WHERE WHAT IT READS IS OF BULK AT MOST 1048576: true; the input reads as it did. -/
def dagHeadsUptoRow : OpenClaim := { program := "ytpmhhbdfompbhaa", sum := "84f11f54dc09a8280727a5f646276786969f1ce869f771bbfc482569cff2d75a", func := "agora/agoralaw08.DagHeads", spec := "dagHeads", unfollowed := true, recurses := true, apart := false, narrowed := true }
def DagHeadsUptoSaid : Prop := dagHeadsUptoRow.holds Try.pinned (OpenSpec.upto dagHeadsSpec)

/-- 'agoralaw08.DagUnion', WHERE WHAT IT READS IS OF BULK AT MOST 1048576: true; the input reads as it did. -/
def dagUnionUptoRow : OpenClaim := { program := "ytpmhhbdfompbhaa", sum := "84f11f54dc09a8280727a5f646276786969f1ce869f771bbfc482569cff2d75a", func := "agora/agoralaw08.DagUnion", spec := "dagUnion", unfollowed := true, recurses := true, apart := false, narrowed := true }
def DagUnionUptoSaid : Prop := dagUnionUptoRow.holds Try.pinned (OpenSpec.upto dagUnionSpec)

/-- 'agoralaw08.DagTops', WHERE WHAT IT READS IS OF BULK AT MOST 1048576: true; the input reads as it did. -/
def dagTopsUptoRow : OpenClaim := { program := "ytpmhhbdfompbhaa", sum := "84f11f54dc09a8280727a5f646276786969f1ce869f771bbfc482569cff2d75a", func := "agora/agoralaw08.DagTops", spec := "dagTops", unfollowed := true, recurses := true, apart := false, narrowed := true }
def DagTopsUptoSaid : Prop := dagTopsUptoRow.holds Try.pinned (OpenSpec.upto dagTopsSpec)

/-- 'agoralaw08.DagReaches', WHERE WHAT IT READS IS OF BULK AT MOST 1048576: true; the input reads as it did. -/
def dagReachesUptoRow : OpenClaim := { program := "ytpmhhbdfompbhaa", sum := "84f11f54dc09a8280727a5f646276786969f1ce869f771bbfc482569cff2d75a", func := "agora/agoralaw08.DagReaches", spec := "dagReaches", unfollowed := true, recurses := true, apart := false, narrowed := true }
def DagReachesUptoSaid : Prop := dagReachesUptoRow.holds Try.pinned (OpenSpec.upto dagReachesSpec)

/-- 'agoralaw08.DagBack', WHERE WHAT IT READS IS OF BULK AT MOST 1048576: true; the input reads as it did. -/
def dagBackUptoRow : OpenClaim := { program := "ytpmhhbdfompbhaa", sum := "84f11f54dc09a8280727a5f646276786969f1ce869f771bbfc482569cff2d75a", func := "agora/agoralaw08.DagBack", spec := "dagBack", unfollowed := true, recurses := true, apart := false, narrowed := true }
def DagBackUptoSaid : Prop := dagBackUptoRow.holds Try.pinned (OpenSpec.upto dagBackSpec)

/-- 'agoralaw08.DagPlays', WHERE WHAT IT READS IS OF BULK AT MOST 1048576: true; the input reads as it did. -/
def dagPlaysUptoRow : OpenClaim := { program := "ytpmhhbdfompbhaa", sum := "84f11f54dc09a8280727a5f646276786969f1ce869f771bbfc482569cff2d75a", func := "agora/agoralaw08.DagPlays", spec := "dagPlays", unfollowed := true, recurses := true, apart := false, narrowed := true }
def DagPlaysUptoSaid : Prop := dagPlaysUptoRow.holds Try.pinned (OpenSpec.upto dagPlaysSpec)

/-- 'agoralaw08.DagNone', WHERE WHAT IT READS IS OF BULK AT MOST 1048576: true; the input reads as it did. -/
def dagNoneUptoRow : OpenClaim := { program := "ytpmhhbdfompbhaa", sum := "84f11f54dc09a8280727a5f646276786969f1ce869f771bbfc482569cff2d75a", func := "agora/agoralaw08.DagNone", spec := "dagNone", unfollowed := true, recurses := true, apart := false, narrowed := true }
def DagNoneUptoSaid : Prop := dagNoneUptoRow.holds Try.pinned (OpenSpec.upto dagNoneSpec)

end Rows
end Go.Proofs.Ytpmhhbdfompbhaa
