/-
  No cell of these rows narrows 'for every input' (looked for: loops, veiled, ifaces, maps, wideKeys, modest, calm, conditions, laid).
  DERIVED. THE GIVEN ROWS OF THIS SEAT. 6 by the template 'for every input the law returns true; each argument reads behind the call as it read before'; 0 by the template 'total and deterministic' (their statements: YtamhmecfjkahdaaTotals.lean).
  GIVEN WITH THE SEED: the statements are not yours to turn. If you find one false, say at which input.
  Laid BY PROGRAM, IN A SANDBOX (cutbox-rows.mjs): the forced cells as the released guide's own fill.sh prints them over the translation a8565e4b5bbe195b… (all of the seat's roots in one cut). By AI agents, Wed Nov 11 2026. No macro, syntax, notation, axiom, sorry.
-/
import Derived.Test.YtamhmecfjkahdaaChecked
import GoSem.Claim
import GoSem.ClaimJoined
import GoSem.ClaimMapViews
import Derived.JoinedTies
import Derived.KernelRfl
namespace Go.Proofs.Ytamhmecfjkahdaa
/- THE CELL 'sum', in the pinned program and in every row, IS THE sha256 OF THE DUMP (.gsa) THAT YtamhmecfjkahdaaProg.lean LOADS. Nothing in Lean hashes anything: it is a label: what it is worth is what the hold of that sum in a sandbox is worth. -/
noncomputable def Try.pinned : Pinned := { name := "ytamhmecfjkahdaa", sum := "a8565e4b5bbe195b9a7f5da7e6aedeb6552b0ace0d5729c0a5f5981bdd657238", checked := Try.checked }
namespace Rows
def none {H : Type} : Left H := { results := [], args := [] }

/-- 'agoralaw37.InboxAll': WHATEVER THE INPUT: true; the input reads as it did. -/
def inboxAllSpec : ChangeSpec := { name := "inboxAll", fn := fun _ => fun
  | [d1, d2] => { results := [.lit (.bool true)], args := [d1, d2] }
  | _ => none }
def inboxAllRow : OpenClaim := { program := "ytamhmecfjkahdaa", sum := "a8565e4b5bbe195b9a7f5da7e6aedeb6552b0ace0d5729c0a5f5981bdd657238", func := "agora/agoralaw37.InboxAll", spec := "inboxAll", inPlace := ["internal/bytealg.IndexByteString", "internal/bytealg.IndexString"], unfollowed := true, recurses := true, named := ["internal/bytealg.MaxLen"], plainKeys := false, apart := false }
def InboxAllSaid : Prop := inboxAllRow.holds Try.pinned (OpenSpec.ofChange inboxAllSpec)

/-- ITS FALSE NEIGHBOUR: 'it returns false'. Refute it at one input. -/
def inboxAllWrong : ChangeSpec := { name := "inboxAll", fn := fun _ => fun
  | [d1, d2] => { results := [.lit (.bool false)], args := [d1, d2] }
  | _ => none }
def InboxAllWrongFalsely : Prop := inboxAllRow.holds Try.pinned (OpenSpec.ofChange inboxAllWrong)

/-- 'agoralaw37.InboxAgain': WHATEVER THE INPUT: true; the input reads as it did. -/
def inboxAgainSpec : ChangeSpec := { name := "inboxAgain", fn := fun _ => fun
  | [d1, d2] => { results := [.lit (.bool true)], args := [d1, d2] }
  | _ => none }
def inboxAgainRow : OpenClaim := { program := "ytamhmecfjkahdaa", sum := "a8565e4b5bbe195b9a7f5da7e6aedeb6552b0ace0d5729c0a5f5981bdd657238", func := "agora/agoralaw37.InboxAgain", spec := "inboxAgain", inPlace := ["internal/bytealg.IndexByteString", "internal/bytealg.IndexString"], unfollowed := true, recurses := true, named := ["internal/bytealg.MaxLen"], plainKeys := false, apart := false }
def InboxAgainSaid : Prop := inboxAgainRow.holds Try.pinned (OpenSpec.ofChange inboxAgainSpec)

/-- ITS FALSE NEIGHBOUR: 'it returns false'. Refute it at one input. -/
def inboxAgainWrong : ChangeSpec := { name := "inboxAgain", fn := fun _ => fun
  | [d1, d2] => { results := [.lit (.bool false)], args := [d1, d2] }
  | _ => none }
def InboxAgainWrongFalsely : Prop := inboxAgainRow.holds Try.pinned (OpenSpec.ofChange inboxAgainWrong)

/-- 'agoralaw37.InboxFull': WHATEVER THE INPUT: true; the input reads as it did. -/
def inboxFullSpec : ChangeSpec := { name := "inboxFull", fn := fun _ => fun
  | [] => { results := [.lit (.bool true)], args := [] }
  | _ => none }
def inboxFullRow : OpenClaim := { program := "ytamhmecfjkahdaa", sum := "a8565e4b5bbe195b9a7f5da7e6aedeb6552b0ace0d5729c0a5f5981bdd657238", func := "agora/agoralaw37.InboxFull", spec := "inboxFull", inPlace := ["internal/bytealg.IndexByteString", "internal/bytealg.IndexString"], unfollowed := true, recurses := true, named := ["internal/bytealg.MaxLen"], plainKeys := false, apart := false }
def InboxFullSaid : Prop := inboxFullRow.holds Try.pinned (OpenSpec.ofChange inboxFullSpec)

/-- ITS FALSE NEIGHBOUR: 'it returns false'. Refute it at one input. -/
def inboxFullWrong : ChangeSpec := { name := "inboxFull", fn := fun _ => fun
  | [] => { results := [.lit (.bool false)], args := [] }
  | _ => none }
def InboxFullWrongFalsely : Prop := inboxFullRow.holds Try.pinned (OpenSpec.ofChange inboxFullWrong)

/-- 'agoralaw37.InboxPlays': WHATEVER THE INPUT: true; the input reads as it did. -/
def inboxPlaysSpec : ChangeSpec := { name := "inboxPlays", fn := fun _ => fun
  | [d] => { results := [.lit (.bool true)], args := [d] }
  | _ => none }
def inboxPlaysRow : OpenClaim := { program := "ytamhmecfjkahdaa", sum := "a8565e4b5bbe195b9a7f5da7e6aedeb6552b0ace0d5729c0a5f5981bdd657238", func := "agora/agoralaw37.InboxPlays", spec := "inboxPlays", inPlace := ["internal/bytealg.IndexByteString", "internal/bytealg.IndexString"], unfollowed := true, recurses := true, named := ["internal/bytealg.MaxLen"], plainKeys := false, apart := false }
def InboxPlaysSaid : Prop := inboxPlaysRow.holds Try.pinned (OpenSpec.ofChange inboxPlaysSpec)

/-- ITS FALSE NEIGHBOUR: 'it returns false'. Refute it at one input. -/
def inboxPlaysWrong : ChangeSpec := { name := "inboxPlays", fn := fun _ => fun
  | [d] => { results := [.lit (.bool false)], args := [d] }
  | _ => none }
def InboxPlaysWrongFalsely : Prop := inboxPlaysRow.holds Try.pinned (OpenSpec.ofChange inboxPlaysWrong)

/-- 'agoralaw37.InboxOnce': WHATEVER THE INPUT: true; the input reads as it did. -/
def inboxOnceSpec : ChangeSpec := { name := "inboxOnce", fn := fun _ => fun
  | [d1, d2] => { results := [.lit (.bool true)], args := [d1, d2] }
  | _ => none }
def inboxOnceRow : OpenClaim := { program := "ytamhmecfjkahdaa", sum := "a8565e4b5bbe195b9a7f5da7e6aedeb6552b0ace0d5729c0a5f5981bdd657238", func := "agora/agoralaw37.InboxOnce", spec := "inboxOnce", inPlace := ["internal/bytealg.IndexByteString", "internal/bytealg.IndexString"], unfollowed := true, recurses := true, named := ["internal/bytealg.MaxLen"], plainKeys := false, apart := false }
def InboxOnceSaid : Prop := inboxOnceRow.holds Try.pinned (OpenSpec.ofChange inboxOnceSpec)

/-- ITS FALSE NEIGHBOUR: 'it returns false'. Refute it at one input. -/
def inboxOnceWrong : ChangeSpec := { name := "inboxOnce", fn := fun _ => fun
  | [d1, d2] => { results := [.lit (.bool false)], args := [d1, d2] }
  | _ => none }
def InboxOnceWrongFalsely : Prop := inboxOnceRow.holds Try.pinned (OpenSpec.ofChange inboxOnceWrong)

/-- 'agoralaw37.InboxNone': WHATEVER THE INPUT: true; the input reads as it did. -/
def inboxNoneSpec : ChangeSpec := { name := "inboxNone", fn := fun _ => fun
  | [d] => { results := [.lit (.bool true)], args := [d] }
  | _ => none }
def inboxNoneRow : OpenClaim := { program := "ytamhmecfjkahdaa", sum := "a8565e4b5bbe195b9a7f5da7e6aedeb6552b0ace0d5729c0a5f5981bdd657238", func := "agora/agoralaw37.InboxNone", spec := "inboxNone", inPlace := ["internal/bytealg.IndexByteString", "internal/bytealg.IndexString"], unfollowed := true, recurses := true, named := ["internal/bytealg.MaxLen"], plainKeys := false, apart := false }
def InboxNoneSaid : Prop := inboxNoneRow.holds Try.pinned (OpenSpec.ofChange inboxNoneSpec)

/-- ITS FALSE NEIGHBOUR: 'it returns false'. Refute it at one input. -/
def inboxNoneWrong : ChangeSpec := { name := "inboxNone", fn := fun _ => fun
  | [d] => { results := [.lit (.bool false)], args := [d] }
  | _ => none }
def InboxNoneWrongFalsely : Prop := inboxNoneRow.holds Try.pinned (OpenSpec.ofChange inboxNoneWrong)

/- THE SECOND FORM. 'bulk': how many values and letters a reading holds, each counted each time it is reached (what is shared counts as often as it is met; a slice's spare places count too). A statement '..UptoSaid' is the law's where the arguments, and the package variables that the reading takes, are together of bulk at most 1048576: NARROWER than '..Said'. Prove '..Said' where nothing that the law and all that it calls make is longer than what came in: it says more and counts as full. Else prove '..UptoSaid'. A law counts once. -/
mutual
def uptoBulk {H : Type} : DataW H → Nat
  | .lit (.string bytes) => bytes.length + 1
  | .lit _ => 1
  | .nil => 1
  | .ptr d => uptoBulk d + 1
  | .slice elems spare => uptoBulkAll elems + uptoBulkAll spare + 1
  | .agg parts => uptoBulkAll parts + 1
  | .iface _ d => uptoBulk d + 1
  | .map entries => uptoBulkEntries entries + 1
  | .held _ => 1
def uptoBulkAll {H : Type} : List (DataW H) → Nat
  | [] => 0
  | d :: r => uptoBulk d + uptoBulkAll r
def uptoBulkEntries {H : Type} : List (Lit × DataW H) → Nat
  | [] => 0
  | x :: r => uptoBulkEntry x + uptoBulkEntries r
def uptoBulkEntry {H : Type} : Lit × DataW H → Nat
  | (.string bytes, d) => bytes.length + uptoBulk d + 1
  | (_, d) => uptoBulk d + 1
 end
def uptoSmall : (H : Type) → List (DataW H) → Bool := fun _ ds => decide (uptoBulkAll ds ≤ 1048576)
def OpenSpec.upto (s : _root_.Go.ChangeSpec) : _root_.Go.OpenSpec := { _root_.Go.OpenSpec.ofChange s with cond := some uptoSmall }

/-- 'agoralaw37.InboxAll', WHERE WHAT IT READS IS OF BULK AT MOST 1048576: true; the input reads as it did. -/
def inboxAllUptoRow : OpenClaim := { program := "ytamhmecfjkahdaa", sum := "a8565e4b5bbe195b9a7f5da7e6aedeb6552b0ace0d5729c0a5f5981bdd657238", func := "agora/agoralaw37.InboxAll", spec := "inboxAll", inPlace := ["internal/bytealg.IndexByteString", "internal/bytealg.IndexString"], unfollowed := true, recurses := true, named := ["internal/bytealg.MaxLen"], plainKeys := false, apart := false, narrowed := true }
def InboxAllUptoSaid : Prop := inboxAllUptoRow.holds Try.pinned (OpenSpec.upto inboxAllSpec)

/-- 'agoralaw37.InboxAgain', WHERE WHAT IT READS IS OF BULK AT MOST 1048576: true; the input reads as it did. -/
def inboxAgainUptoRow : OpenClaim := { program := "ytamhmecfjkahdaa", sum := "a8565e4b5bbe195b9a7f5da7e6aedeb6552b0ace0d5729c0a5f5981bdd657238", func := "agora/agoralaw37.InboxAgain", spec := "inboxAgain", inPlace := ["internal/bytealg.IndexByteString", "internal/bytealg.IndexString"], unfollowed := true, recurses := true, named := ["internal/bytealg.MaxLen"], plainKeys := false, apart := false, narrowed := true }
def InboxAgainUptoSaid : Prop := inboxAgainUptoRow.holds Try.pinned (OpenSpec.upto inboxAgainSpec)

/-- 'agoralaw37.InboxFull', WHERE WHAT IT READS IS OF BULK AT MOST 1048576: true; the input reads as it did. -/
def inboxFullUptoRow : OpenClaim := { program := "ytamhmecfjkahdaa", sum := "a8565e4b5bbe195b9a7f5da7e6aedeb6552b0ace0d5729c0a5f5981bdd657238", func := "agora/agoralaw37.InboxFull", spec := "inboxFull", inPlace := ["internal/bytealg.IndexByteString", "internal/bytealg.IndexString"], unfollowed := true, recurses := true, named := ["internal/bytealg.MaxLen"], plainKeys := false, apart := false, narrowed := true }
def InboxFullUptoSaid : Prop := inboxFullUptoRow.holds Try.pinned (OpenSpec.upto inboxFullSpec)

/-- 'agoralaw37.InboxPlays', WHERE WHAT IT READS IS OF BULK AT MOST 1048576: true; the input reads as it did. -/
def inboxPlaysUptoRow : OpenClaim := { program := "ytamhmecfjkahdaa", sum := "a8565e4b5bbe195b9a7f5da7e6aedeb6552b0ace0d5729c0a5f5981bdd657238", func := "agora/agoralaw37.InboxPlays", spec := "inboxPlays", inPlace := ["internal/bytealg.IndexByteString", "internal/bytealg.IndexString"], unfollowed := true, recurses := true, named := ["internal/bytealg.MaxLen"], plainKeys := false, apart := false, narrowed := true }
def InboxPlaysUptoSaid : Prop := inboxPlaysUptoRow.holds Try.pinned (OpenSpec.upto inboxPlaysSpec)

/-- 'agoralaw37.InboxOnce', WHERE WHAT IT READS IS OF BULK AT MOST 1048576: true; the input reads as it did. -/
def inboxOnceUptoRow : OpenClaim := { program := "ytamhmecfjkahdaa", sum := "a8565e4b5bbe195b9a7f5da7e6aedeb6552b0ace0d5729c0a5f5981bdd657238", func := "agora/agoralaw37.InboxOnce", spec := "inboxOnce", inPlace := ["internal/bytealg.IndexByteString", "internal/bytealg.IndexString"], unfollowed := true, recurses := true, named := ["internal/bytealg.MaxLen"], plainKeys := false, apart := false, narrowed := true }
def InboxOnceUptoSaid : Prop := inboxOnceUptoRow.holds Try.pinned (OpenSpec.upto inboxOnceSpec)

/-- 'agoralaw37.InboxNone', WHERE WHAT IT READS IS OF BULK AT MOST 1048576: true; the input reads as it did. -/
def inboxNoneUptoRow : OpenClaim := { program := "ytamhmecfjkahdaa", sum := "a8565e4b5bbe195b9a7f5da7e6aedeb6552b0ace0d5729c0a5f5981bdd657238", func := "agora/agoralaw37.InboxNone", spec := "inboxNone", inPlace := ["internal/bytealg.IndexByteString", "internal/bytealg.IndexString"], unfollowed := true, recurses := true, named := ["internal/bytealg.MaxLen"], plainKeys := false, apart := false, narrowed := true }
def InboxNoneUptoSaid : Prop := inboxNoneUptoRow.holds Try.pinned (OpenSpec.upto inboxNoneSpec)

end Rows
end Go.Proofs.Ytamhmecfjkahdaa
