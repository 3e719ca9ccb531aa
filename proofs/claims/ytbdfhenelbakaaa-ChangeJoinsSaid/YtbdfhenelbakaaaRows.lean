/-
  No cell of these rows narrows 'for every input' (looked for: loops, veiled, ifaces, maps, wideKeys, modest, calm, conditions, laid).
  DERIVED. THE GIVEN ROWS OF THIS SEAT. 5 by the template 'for every input the law returns true; each argument reads behind the call as it read before'; 0 by the template 'total and deterministic' (their statements: YtbdfhenelbakaaaTotals.lean).
  GIVEN WITH THE SEED: the statements are not yours to turn. If you find one false, say at which input.
  Laid BY PROGRAM, IN A SANDBOX (cutbox-rows.mjs): the forced cells as the released guide's own fill.sh prints them over the translation 1efaf00978290101… (all of the seat's roots in one cut). By AI agents, Wed Nov 11 2026. No macro, syntax, notation, axiom, sorry.
-/
import Derived.Test.YtbdfhenelbakaaaChecked
import GoSem.Claim
import GoSem.ClaimJoined
import GoSem.ClaimMapViews
import Derived.JoinedTies
import Derived.KernelRfl
namespace Go.Proofs.Ytbdfhenelbakaaa
/- THE CELL 'sum', in the pinned program and in every row, IS THE sha256 OF THE DUMP (.gsa) THAT YtbdfhenelbakaaaProg.lean LOADS. Nothing in Lean hashes anything: it is a label: what it is worth is what the hold of that sum in a sandbox is worth. -/
noncomputable def Try.pinned : Pinned := { name := "ytbdfhenelbakaaa", sum := "1efaf0097829010182ff57963eeb32f6e504cb0e47f698099c0599c26cd70815", checked := Try.checked }
namespace Rows
def none {H : Type} : Left H := { results := [], args := [] }

/-- 'agoralaw29.ChangeDiffs': WHATEVER THE INPUT: true; the input reads as it did. -/
def changeDiffsSpec : ChangeSpec := { name := "changeDiffs", fn := fun _ => fun
  | [d1, d2] => { results := [.lit (.bool true)], args := [d1, d2] }
  | _ => none }
def changeDiffsRow : OpenClaim := { program := "ytbdfhenelbakaaa", sum := "1efaf0097829010182ff57963eeb32f6e504cb0e47f698099c0599c26cd70815", func := "agora/agoralaw29.ChangeDiffs", spec := "changeDiffs", unfollowed := true, recurses := true, plainKeys := false, apart := false }
def ChangeDiffsSaid : Prop := changeDiffsRow.holds Try.pinned (OpenSpec.ofChange changeDiffsSpec)

/-- ITS FALSE NEIGHBOUR: 'it returns false'. Refute it at one input. -/
def changeDiffsWrong : ChangeSpec := { name := "changeDiffs", fn := fun _ => fun
  | [d1, d2] => { results := [.lit (.bool false)], args := [d1, d2] }
  | _ => none }
def ChangeDiffsWrongFalsely : Prop := changeDiffsRow.holds Try.pinned (OpenSpec.ofChange changeDiffsWrong)

/-- 'agoralaw29.ChangeBack': WHATEVER THE INPUT: true; the input reads as it did. -/
def changeBackSpec : ChangeSpec := { name := "changeBack", fn := fun _ => fun
  | [d1, d2] => { results := [.lit (.bool true)], args := [d1, d2] }
  | _ => none }
def changeBackRow : OpenClaim := { program := "ytbdfhenelbakaaa", sum := "1efaf0097829010182ff57963eeb32f6e504cb0e47f698099c0599c26cd70815", func := "agora/agoralaw29.ChangeBack", spec := "changeBack", unfollowed := true, recurses := true, plainKeys := false, apart := false }
def ChangeBackSaid : Prop := changeBackRow.holds Try.pinned (OpenSpec.ofChange changeBackSpec)

/-- ITS FALSE NEIGHBOUR: 'it returns false'. Refute it at one input. -/
def changeBackWrong : ChangeSpec := { name := "changeBack", fn := fun _ => fun
  | [d1, d2] => { results := [.lit (.bool false)], args := [d1, d2] }
  | _ => none }
def ChangeBackWrongFalsely : Prop := changeBackRow.holds Try.pinned (OpenSpec.ofChange changeBackWrong)

/-- 'agoralaw29.ChangeSorts': WHATEVER THE INPUT: true; the input reads as it did. -/
def changeSortsSpec : ChangeSpec := { name := "changeSorts", fn := fun _ => fun
  | [d] => { results := [.lit (.bool true)], args := [d] }
  | _ => none }
def changeSortsRow : OpenClaim := { program := "ytbdfhenelbakaaa", sum := "1efaf0097829010182ff57963eeb32f6e504cb0e47f698099c0599c26cd70815", func := "agora/agoralaw29.ChangeSorts", spec := "changeSorts", unfollowed := true, recurses := true, plainKeys := false, apart := false }
def ChangeSortsSaid : Prop := changeSortsRow.holds Try.pinned (OpenSpec.ofChange changeSortsSpec)

/-- ITS FALSE NEIGHBOUR: 'it returns false'. Refute it at one input. -/
def changeSortsWrong : ChangeSpec := { name := "changeSorts", fn := fun _ => fun
  | [d] => { results := [.lit (.bool false)], args := [d] }
  | _ => none }
def ChangeSortsWrongFalsely : Prop := changeSortsRow.holds Try.pinned (OpenSpec.ofChange changeSortsWrong)

/-- 'agoralaw29.ChangeSteps': WHATEVER THE INPUT: true; the input reads as it did. -/
def changeStepsSpec : ChangeSpec := { name := "changeSteps", fn := fun _ => fun
  | [d1, d2, d3] => { results := [.lit (.bool true)], args := [d1, d2, d3] }
  | _ => none }
def changeStepsRow : OpenClaim := { program := "ytbdfhenelbakaaa", sum := "1efaf0097829010182ff57963eeb32f6e504cb0e47f698099c0599c26cd70815", func := "agora/agoralaw29.ChangeSteps", spec := "changeSteps", unfollowed := true, recurses := true, plainKeys := false, apart := false }
def ChangeStepsSaid : Prop := changeStepsRow.holds Try.pinned (OpenSpec.ofChange changeStepsSpec)

/-- ITS FALSE NEIGHBOUR: 'it returns false'. Refute it at one input. -/
def changeStepsWrong : ChangeSpec := { name := "changeSteps", fn := fun _ => fun
  | [d1, d2, d3] => { results := [.lit (.bool false)], args := [d1, d2, d3] }
  | _ => none }
def ChangeStepsWrongFalsely : Prop := changeStepsRow.holds Try.pinned (OpenSpec.ofChange changeStepsWrong)

/-- 'agoralaw29.ChangeJoins': WHATEVER THE INPUT: true; the input reads as it did. -/
def changeJoinsSpec : ChangeSpec := { name := "changeJoins", fn := fun _ => fun
  | [d1, d2] => { results := [.lit (.bool true)], args := [d1, d2] }
  | _ => none }
def changeJoinsRow : OpenClaim := { program := "ytbdfhenelbakaaa", sum := "1efaf0097829010182ff57963eeb32f6e504cb0e47f698099c0599c26cd70815", func := "agora/agoralaw29.ChangeJoins", spec := "changeJoins", unfollowed := true, recurses := true, plainKeys := false, apart := false }
def ChangeJoinsSaid : Prop := changeJoinsRow.holds Try.pinned (OpenSpec.ofChange changeJoinsSpec)

/-- ITS FALSE NEIGHBOUR: 'it returns false'. Refute it at one input. -/
def changeJoinsWrong : ChangeSpec := { name := "changeJoins", fn := fun _ => fun
  | [d1, d2] => { results := [.lit (.bool false)], args := [d1, d2] }
  | _ => none }
def ChangeJoinsWrongFalsely : Prop := changeJoinsRow.holds Try.pinned (OpenSpec.ofChange changeJoinsWrong)

/- THE SECOND FORM. 'bulk': how many values and letters a reading holds, each counted each time it is reached (what is shared counts as often as it is met; a slice's spare places count too). A statement '..UptoSaid' is the law's where the arguments, and the package variables that the reading takes, are together of bulk at most 1048576: NARROWER than '..Said'. Prove '..Said' where nothing that the law and all that it calls make is longer than what came in: it says more and counts as full. Else prove '..UptoSaid'. A law counts once. -/
mutual
def uptoBulk {H : Type} : DataW H → Nat
  | .lit (.string bytes) => bytes.length + 1
  | .lit _ => 1
  | .nil => 1
  | .ptr d => uptoBulk d + 1
  | .slice elems spare => uptoBulkAll elems + uptoBulkAll spare + 1
  | .agg parts => uptoBulkAll parts + 1
  | .iface _ d => uptoBulk d + 1
  | .map entries => uptoBulkEntries entries + 1
  | .held _ => 1
def uptoBulkAll {H : Type} : List (DataW H) → Nat
  | [] => 0
  | d :: r => uptoBulk d + uptoBulkAll r
def uptoBulkEntries {H : Type} : List (Lit × DataW H) → Nat
  | [] => 0
  | x :: r => uptoBulkEntry x + uptoBulkEntries r
def uptoBulkEntry {H : Type} : Lit × DataW H → Nat
  | (.string bytes, d) => bytes.length + uptoBulk d + 1
  | (_, d) => uptoBulk d + 1
 end
def uptoSmall : (H : Type) → List (DataW H) → Bool := fun _ ds => decide (uptoBulkAll ds ≤ 1048576)
def OpenSpec.upto (s : _root_.Go.ChangeSpec) : _root_.Go.OpenSpec := { _root_.Go.OpenSpec.ofChange s with cond := some uptoSmall }

/-- 'agoralaw29.ChangeDiffs', WHERE WHAT IT READS IS OF BULK AT MOST 1048576: true; the input reads as it did. -/
def changeDiffsUptoRow : OpenClaim := { program := "ytbdfhenelbakaaa", sum := "1efaf0097829010182ff57963eeb32f6e504cb0e47f698099c0599c26cd70815", func := "agora/agoralaw29.ChangeDiffs", spec := "changeDiffs", unfollowed := true, recurses := true, plainKeys := false, apart := false, narrowed := true }
def ChangeDiffsUptoSaid : Prop := changeDiffsUptoRow.holds Try.pinned (OpenSpec.upto changeDiffsSpec)

/-- 'agoralaw29.ChangeBack', WHERE WHAT IT READS IS OF BULK AT MOST 1048576: true; the input reads as it did. -/
def changeBackUptoRow : OpenClaim := { program := "ytbdfhenelbakaaa", sum := "1efaf0097829010182ff57963eeb32f6e504cb0e47f698099c0599c26cd70815", func := "agora/agoralaw29.ChangeBack", spec := "changeBack", unfollowed := true, recurses := true, plainKeys := false, apart := false, narrowed := true }
def ChangeBackUptoSaid : Prop := changeBackUptoRow.holds Try.pinned (OpenSpec.upto changeBackSpec)

/-- 'agoralaw29.ChangeSorts', WHERE WHAT IT READS IS OF BULK AT MOST 1048576: true; the input reads as it did. -/
def changeSortsUptoRow : OpenClaim := { program := "ytbdfhenelbakaaa", sum := "1efaf0097829010182ff57963eeb32f6e504cb0e47f698099c0599c26cd70815", func := "agora/agoralaw29.ChangeSorts", spec := "changeSorts", unfollowed := true, recurses := true, plainKeys := false, apart := false, narrowed := true }
def ChangeSortsUptoSaid : Prop := changeSortsUptoRow.holds Try.pinned (OpenSpec.upto changeSortsSpec)

/-- 'agoralaw29.ChangeSteps', WHERE WHAT IT READS IS OF BULK AT MOST 1048576: true; the input reads as it did. -/
def changeStepsUptoRow : OpenClaim := { program := "ytbdfhenelbakaaa", sum := "1efaf0097829010182ff57963eeb32f6e504cb0e47f698099c0599c26cd70815", func := "agora/agoralaw29.ChangeSteps", spec := "changeSteps", unfollowed := true, recurses := true, plainKeys := false, apart := false, narrowed := true }
def ChangeStepsUptoSaid : Prop := changeStepsUptoRow.holds Try.pinned (OpenSpec.upto changeStepsSpec)

/-- 'agoralaw29.ChangeJoins', WHERE WHAT IT READS IS OF BULK AT MOST 1048576: true; the input reads as it did. -/
def changeJoinsUptoRow : OpenClaim := { program := "ytbdfhenelbakaaa", sum := "1efaf0097829010182ff57963eeb32f6e504cb0e47f698099c0599c26cd70815", func := "agora/agoralaw29.ChangeJoins", spec := "changeJoins", unfollowed := true, recurses := true, plainKeys := false, apart := false, narrowed := true }
def ChangeJoinsUptoSaid : Prop := changeJoinsUptoRow.holds Try.pinned (OpenSpec.upto changeJoinsSpec)

end Rows
end Go.Proofs.Ytbdfhenelbakaaa
