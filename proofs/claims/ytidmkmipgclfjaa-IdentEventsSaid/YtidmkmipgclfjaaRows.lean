/-
  No cell of these rows narrows 'for every input' (looked for: loops, veiled, ifaces, maps, wideKeys, modest, calm, conditions, laid).
  DERIVED. THE GIVEN ROWS OF THIS SEAT. 6 by the template 'for every input the law returns true; each argument reads behind the call as it read before'; 0 by the template 'total and deterministic' (their statements: YtidmkmipgclfjaaTotals.lean).
  GIVEN WITH THE SEED: the statements are not yours to turn. If you find one false, say at which input.
  Laid BY PROGRAM, IN A SANDBOX (cutbox-rows.mjs): the forced cells as the released guide's own fill.sh prints them over the translation 76f06abb02610f22… (all of the seat's roots in one cut). By AI agents, Wed Nov 11 2026. No macro, syntax, notation, axiom, sorry.
-/
import Derived.Test.YtidmkmipgclfjaaChecked
import GoSem.Claim
import GoSem.ClaimJoined
import GoSem.ClaimMapViews
import Derived.JoinedTies
import Derived.KernelRfl
namespace Go.Proofs.Ytidmkmipgclfjaa
/- THE CELL 'sum', in the pinned program and in every row, IS THE sha256 OF THE DUMP (.gsa) THAT YtidmkmipgclfjaaProg.lean LOADS. Nothing in Lean hashes anything: it is a label: what it is worth is what the hold of that sum in a sandbox is worth. -/
noncomputable def Try.pinned : Pinned := { name := "ytidmkmipgclfjaa", sum := "76f06abb02610f22c08cb4fdd6a32c377f6271ef8bb75113217a6a3a4820ca83", checked := Try.checked }
namespace Rows
def none {H : Type} : Left H := { results := [], args := [] }

/-- 'agoralaw04.IdentUsers': WHATEVER THE INPUT: true; the input reads as it did. -/
def identUsersSpec : ChangeSpec := { name := "identUsers", fn := fun _ => fun
  | [d] => { results := [.lit (.bool true)], args := [d] }
  | _ => none }
def identUsersRow : OpenClaim := { program := "ytidmkmipgclfjaa", sum := "76f06abb02610f22c08cb4fdd6a32c377f6271ef8bb75113217a6a3a4820ca83", func := "agora/agoralaw04.IdentUsers", spec := "identUsers", inPlace := ["internal/bytealg.IndexByteString", "internal/bytealg.IndexString"], unfollowed := true, recurses := true, named := ["internal/bytealg.MaxLen"], apart := false }
def IdentUsersSaid : Prop := identUsersRow.holds Try.pinned (OpenSpec.ofChange identUsersSpec)

/-- ITS FALSE NEIGHBOUR: 'it returns false'. Refute it at one input. -/
def identUsersWrong : ChangeSpec := { name := "identUsers", fn := fun _ => fun
  | [d] => { results := [.lit (.bool false)], args := [d] }
  | _ => none }
def IdentUsersWrongFalsely : Prop := identUsersRow.holds Try.pinned (OpenSpec.ofChange identUsersWrong)

/-- 'agoralaw04.IdentHome': WHATEVER THE INPUT: true; the input reads as it did. -/
def identHomeSpec : ChangeSpec := { name := "identHome", fn := fun _ => fun
  | [d] => { results := [.lit (.bool true)], args := [d] }
  | _ => none }
def identHomeRow : OpenClaim := { program := "ytidmkmipgclfjaa", sum := "76f06abb02610f22c08cb4fdd6a32c377f6271ef8bb75113217a6a3a4820ca83", func := "agora/agoralaw04.IdentHome", spec := "identHome", inPlace := ["internal/bytealg.IndexByteString", "internal/bytealg.IndexString"], unfollowed := true, recurses := true, named := ["internal/bytealg.MaxLen"], apart := false }
def IdentHomeSaid : Prop := identHomeRow.holds Try.pinned (OpenSpec.ofChange identHomeSpec)

/-- ITS FALSE NEIGHBOUR: 'it returns false'. Refute it at one input. -/
def identHomeWrong : ChangeSpec := { name := "identHome", fn := fun _ => fun
  | [d] => { results := [.lit (.bool false)], args := [d] }
  | _ => none }
def IdentHomeWrongFalsely : Prop := identHomeRow.holds Try.pinned (OpenSpec.ofChange identHomeWrong)

/-- 'agoralaw04.IdentApart': WHATEVER THE INPUT: true; the input reads as it did. -/
def identApartSpec : ChangeSpec := { name := "identApart", fn := fun _ => fun
  | [d1, d2] => { results := [.lit (.bool true)], args := [d1, d2] }
  | _ => none }
def identApartRow : OpenClaim := { program := "ytidmkmipgclfjaa", sum := "76f06abb02610f22c08cb4fdd6a32c377f6271ef8bb75113217a6a3a4820ca83", func := "agora/agoralaw04.IdentApart", spec := "identApart", inPlace := ["internal/bytealg.IndexByteString", "internal/bytealg.IndexString"], unfollowed := true, recurses := true, named := ["internal/bytealg.MaxLen"], apart := false }
def IdentApartSaid : Prop := identApartRow.holds Try.pinned (OpenSpec.ofChange identApartSpec)

/-- ITS FALSE NEIGHBOUR: 'it returns false'. Refute it at one input. -/
def identApartWrong : ChangeSpec := { name := "identApart", fn := fun _ => fun
  | [d1, d2] => { results := [.lit (.bool false)], args := [d1, d2] }
  | _ => none }
def IdentApartWrongFalsely : Prop := identApartRow.holds Try.pinned (OpenSpec.ofChange identApartWrong)

/-- 'agoralaw04.IdentMakes': WHATEVER THE INPUT: true; the input reads as it did. -/
def identMakesSpec : ChangeSpec := { name := "identMakes", fn := fun _ => fun
  | [d1, d2] => { results := [.lit (.bool true)], args := [d1, d2] }
  | _ => none }
def identMakesRow : OpenClaim := { program := "ytidmkmipgclfjaa", sum := "76f06abb02610f22c08cb4fdd6a32c377f6271ef8bb75113217a6a3a4820ca83", func := "agora/agoralaw04.IdentMakes", spec := "identMakes", inPlace := ["internal/bytealg.IndexByteString", "internal/bytealg.IndexString"], unfollowed := true, recurses := true, named := ["internal/bytealg.MaxLen"], apart := false }
def IdentMakesSaid : Prop := identMakesRow.holds Try.pinned (OpenSpec.ofChange identMakesSpec)

/-- ITS FALSE NEIGHBOUR: 'it returns false'. Refute it at one input. -/
def identMakesWrong : ChangeSpec := { name := "identMakes", fn := fun _ => fun
  | [d1, d2] => { results := [.lit (.bool false)], args := [d1, d2] }
  | _ => none }
def IdentMakesWrongFalsely : Prop := identMakesRow.holds Try.pinned (OpenSpec.ofChange identMakesWrong)

/-- 'agoralaw04.IdentEvents': WHATEVER THE INPUT: true; the input reads as it did. -/
def identEventsSpec : ChangeSpec := { name := "identEvents", fn := fun _ => fun
  | [d] => { results := [.lit (.bool true)], args := [d] }
  | _ => none }
def identEventsRow : OpenClaim := { program := "ytidmkmipgclfjaa", sum := "76f06abb02610f22c08cb4fdd6a32c377f6271ef8bb75113217a6a3a4820ca83", func := "agora/agoralaw04.IdentEvents", spec := "identEvents", inPlace := ["internal/bytealg.IndexByteString", "internal/bytealg.IndexString"], unfollowed := true, recurses := true, named := ["internal/bytealg.MaxLen"], apart := false }
def IdentEventsSaid : Prop := identEventsRow.holds Try.pinned (OpenSpec.ofChange identEventsSpec)

/-- ITS FALSE NEIGHBOUR: 'it returns false'. Refute it at one input. -/
def identEventsWrong : ChangeSpec := { name := "identEvents", fn := fun _ => fun
  | [d] => { results := [.lit (.bool false)], args := [d] }
  | _ => none }
def IdentEventsWrongFalsely : Prop := identEventsRow.holds Try.pinned (OpenSpec.ofChange identEventsWrong)

/-- 'agoralaw04.IdentNames': WHATEVER THE INPUT: true; the input reads as it did. -/
def identNamesSpec : ChangeSpec := { name := "identNames", fn := fun _ => fun
  | [d] => { results := [.lit (.bool true)], args := [d] }
  | _ => none }
def identNamesRow : OpenClaim := { program := "ytidmkmipgclfjaa", sum := "76f06abb02610f22c08cb4fdd6a32c377f6271ef8bb75113217a6a3a4820ca83", func := "agora/agoralaw04.IdentNames", spec := "identNames", inPlace := ["internal/bytealg.IndexByteString", "internal/bytealg.IndexString"], unfollowed := true, recurses := true, named := ["internal/bytealg.MaxLen"], apart := false }
def IdentNamesSaid : Prop := identNamesRow.holds Try.pinned (OpenSpec.ofChange identNamesSpec)

/-- ITS FALSE NEIGHBOUR: 'it returns false'. Refute it at one input. -/
def identNamesWrong : ChangeSpec := { name := "identNames", fn := fun _ => fun
  | [d] => { results := [.lit (.bool false)], args := [d] }
  | _ => none }
def IdentNamesWrongFalsely : Prop := identNamesRow.holds Try.pinned (OpenSpec.ofChange identNamesWrong)

/- THE SECOND FORM. 'bulk': how many values and letters a reading holds, each counted each time it is reached (what is shared counts as often as it is met; a slice's spare places count too). A statement '..UptoSaid' is the law's where the arguments, and the package variables that the reading takes, are together of bulk at most 1048576: NARROWER than '..Said'. Prove '..Said' where nothing that the law and all that it calls make is longer than what came in: it says more and counts as full. Else prove '..UptoSaid'. A law counts once. -/
mutual
def uptoBulk {H : Type} : DataW H → Nat
  | .lit (.string bytes) => bytes.length + 1
  | .lit _ => 1
  | .nil => 1
  | .ptr d => uptoBulk d + 1
  | .slice elems spare => uptoBulkAll elems + uptoBulkAll spare + 1
  | .agg parts => uptoBulkAll parts + 1
  | .iface _ d => uptoBulk d + 1
  | .map entries => uptoBulkEntries entries + 1
  | .held _ => 1
def uptoBulkAll {H : Type} : List (DataW H) → Nat
  | [] => 0
  | d :: r => uptoBulk d + uptoBulkAll r
def uptoBulkEntries {H : Type} : List (Lit × DataW H) → Nat
  | [] => 0
  | x :: r => uptoBulkEntry x + uptoBulkEntries r
def uptoBulkEntry {H : Type} : Lit × DataW H → Nat
  | (.string bytes, d) => bytes.length + uptoBulk d + 1
  | (_, d) => uptoBulk d + 1
 end
def uptoSmall : (H : Type) → List (DataW H) → Bool := fun _ ds => decide (uptoBulkAll ds ≤ 1048576)
def OpenSpec.upto (s : _root_.Go.ChangeSpec) : _root_.Go.OpenSpec := { _root_.Go.OpenSpec.ofChange s with cond := some uptoSmall }

/-- 'agoralaw04.IdentUsers', WHERE WHAT IT READS IS OF BULK AT MOST 1048576: true; the input reads as it did. -/
def identUsersUptoRow : OpenClaim := { program := "ytidmkmipgclfjaa", sum := "76f06abb02610f22c08cb4fdd6a32c377f6271ef8bb75113217a6a3a4820ca83", func := "agora/agoralaw04.IdentUsers", spec := "identUsers", inPlace := ["internal/bytealg.IndexByteString", "internal/bytealg.IndexString"], unfollowed := true, recurses := true, named := ["internal/bytealg.MaxLen"], apart := false, narrowed := true }
def IdentUsersUptoSaid : Prop := identUsersUptoRow.holds Try.pinned (OpenSpec.upto identUsersSpec)

/-- 'agoralaw04.IdentHome', WHERE WHAT IT READS IS OF BULK AT MOST 1048576: true; the input reads as it did. -/
def identHomeUptoRow : OpenClaim := { program := "ytidmkmipgclfjaa", sum := "76f06abb02610f22c08cb4fdd6a32c377f6271ef8bb75113217a6a3a4820ca83", func := "agora/agoralaw04.IdentHome", spec := "identHome", inPlace := ["internal/bytealg.IndexByteString", "internal/bytealg.IndexString"], unfollowed := true, recurses := true, named := ["internal/bytealg.MaxLen"], apart := false, narrowed := true }
def IdentHomeUptoSaid : Prop := identHomeUptoRow.holds Try.pinned (OpenSpec.upto identHomeSpec)

/-- 'agoralaw04.IdentApart', WHERE WHAT IT READS IS OF BULK AT MOST 1048576: true; the input reads as it did. -/
def identApartUptoRow : OpenClaim := { program := "ytidmkmipgclfjaa", sum := "76f06abb02610f22c08cb4fdd6a32c377f6271ef8bb75113217a6a3a4820ca83", func := "agora/agoralaw04.IdentApart", spec := "identApart", inPlace := ["internal/bytealg.IndexByteString", "internal/bytealg.IndexString"], unfollowed := true, recurses := true, named := ["internal/bytealg.MaxLen"], apart := false, narrowed := true }
def IdentApartUptoSaid : Prop := identApartUptoRow.holds Try.pinned (OpenSpec.upto identApartSpec)

/-- 'agoralaw04.IdentMakes', WHERE WHAT IT READS IS OF BULK AT MOST 1048576: true; the input reads as it did. -/
def identMakesUptoRow : OpenClaim := { program := "ytidmkmipgclfjaa", sum := "76f06abb02610f22c08cb4fdd6a32c377f6271ef8bb75113217a6a3a4820ca83", func := "agora/agoralaw04.IdentMakes", spec := "identMakes", inPlace := ["internal/bytealg.IndexByteString", "internal/bytealg.IndexString"], unfollowed := true, recurses := true, named := ["internal/bytealg.MaxLen"], apart := false, narrowed := true }
def IdentMakesUptoSaid : Prop := identMakesUptoRow.holds Try.pinned (OpenSpec.upto identMakesSpec)

/-- 'agoralaw04.IdentEvents', WHERE WHAT IT READS IS OF BULK AT MOST 1048576: true; the input reads as it did. -/
def identEventsUptoRow : OpenClaim := { program := "ytidmkmipgclfjaa", sum := "76f06abb02610f22c08cb4fdd6a32c377f6271ef8bb75113217a6a3a4820ca83", func := "agora/agoralaw04.IdentEvents", spec := "identEvents", inPlace := ["internal/bytealg.IndexByteString", "internal/bytealg.IndexString"], unfollowed := true, recurses := true, named := ["internal/bytealg.MaxLen"], apart := false, narrowed := true }
def IdentEventsUptoSaid : Prop := identEventsUptoRow.holds Try.pinned (OpenSpec.upto identEventsSpec)

/-- 'agoralaw04.IdentNames', WHERE WHAT IT READS IS OF BULK AT MOST 1048576: true; the input reads as it did. -/
def identNamesUptoRow : OpenClaim := { program := "ytidmkmipgclfjaa", sum := "76f06abb02610f22c08cb4fdd6a32c377f6271ef8bb75113217a6a3a4820ca83", func := "agora/agoralaw04.IdentNames", spec := "identNames", inPlace := ["internal/bytealg.IndexByteString", "internal/bytealg.IndexString"], unfollowed := true, recurses := true, named := ["internal/bytealg.MaxLen"], apart := false, narrowed := true }
def IdentNamesUptoSaid : Prop := identNamesUptoRow.holds Try.pinned (OpenSpec.upto identNamesSpec)

end Rows
end Go.Proofs.Ytidmkmipgclfjaa
