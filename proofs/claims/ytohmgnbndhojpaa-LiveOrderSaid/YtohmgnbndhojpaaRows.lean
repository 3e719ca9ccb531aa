/-
  No cell of these rows narrows 'for every input' (looked for: loops, veiled, ifaces, maps, wideKeys, modest, calm, conditions, laid).
  DERIVED. THE GIVEN ROWS OF THIS SEAT. 6 by the template 'for every input the law returns true; each argument reads behind the call as it read before'; 0 by the template 'total and deterministic' (their statements: YtohmgnbndhojpaaTotals.lean).
  GIVEN WITH THE SEED: the statements are not yours to turn. If you find one false, say at which input.
  Laid BY PROGRAM, IN A SANDBOX (cutbox-rows.mjs): the forced cells as the released guide's own fill.sh prints them over the translation 4ac8bf15ca9f5906… (all of the seat's roots in one cut). By AI agents, Wed Nov 11 2026. No macro, syntax, notation, axiom, sorry.
-/
import Derived.Test.YtohmgnbndhojpaaChecked
import GoSem.Claim
import GoSem.ClaimJoined
import GoSem.ClaimMapViews
import Derived.JoinedTies
import Derived.KernelRfl
namespace Go.Proofs.Ytohmgnbndhojpaa
/- THE CELL 'sum', in the pinned program and in every row, IS THE sha256 OF THE DUMP (.gsa) THAT YtohmgnbndhojpaaProg.lean LOADS. Nothing in Lean hashes anything: it is a label: what it is worth is what the hold of that sum in a sandbox is worth. -/
noncomputable def Try.pinned : Pinned := { name := "ytohmgnbndhojpaa", sum := "4ac8bf15ca9f59062cf316b5a228b4a186421f877de67c2c6656260d4af18b09", checked := Try.checked }
namespace Rows
def none {H : Type} : Left H := { results := [], args := [] }

/-- 'agoralaw35.LiveFades': WHATEVER THE INPUT: true; the input reads as it did. -/
def liveFadesSpec : ChangeSpec := { name := "liveFades", fn := fun _ => fun
  | [d1, d2, d3] => { results := [.lit (.bool true)], args := [d1, d2, d3] }
  | _ => none }
def liveFadesRow : OpenClaim := { program := "ytohmgnbndhojpaa", sum := "4ac8bf15ca9f59062cf316b5a228b4a186421f877de67c2c6656260d4af18b09", func := "agora/agoralaw35.LiveFades", spec := "liveFades", inPlace := ["internal/bytealg.IndexByteString", "internal/bytealg.IndexString"], unfollowed := true, recurses := true, named := ["internal/bytealg.MaxLen"], plainKeys := false, apart := false }
def LiveFadesSaid : Prop := liveFadesRow.holds Try.pinned (OpenSpec.ofChange liveFadesSpec)

/-- ITS FALSE NEIGHBOUR: 'it returns false'. Refute it at one input. -/
def liveFadesWrong : ChangeSpec := { name := "liveFades", fn := fun _ => fun
  | [d1, d2, d3] => { results := [.lit (.bool false)], args := [d1, d2, d3] }
  | _ => none }
def LiveFadesWrongFalsely : Prop := liveFadesRow.holds Try.pinned (OpenSpec.ofChange liveFadesWrong)

/-- 'agoralaw35.LiveLast': WHATEVER THE INPUT: true; the input reads as it did. -/
def liveLastSpec : ChangeSpec := { name := "liveLast", fn := fun _ => fun
  | [d1, d2] => { results := [.lit (.bool true)], args := [d1, d2] }
  | _ => none }
def liveLastRow : OpenClaim := { program := "ytohmgnbndhojpaa", sum := "4ac8bf15ca9f59062cf316b5a228b4a186421f877de67c2c6656260d4af18b09", func := "agora/agoralaw35.LiveLast", spec := "liveLast", inPlace := ["internal/bytealg.IndexByteString", "internal/bytealg.IndexString"], unfollowed := true, recurses := true, named := ["internal/bytealg.MaxLen"], plainKeys := false, apart := false }
def LiveLastSaid : Prop := liveLastRow.holds Try.pinned (OpenSpec.ofChange liveLastSpec)

/-- ITS FALSE NEIGHBOUR: 'it returns false'. Refute it at one input. -/
def liveLastWrong : ChangeSpec := { name := "liveLast", fn := fun _ => fun
  | [d1, d2] => { results := [.lit (.bool false)], args := [d1, d2] }
  | _ => none }
def LiveLastWrongFalsely : Prop := liveLastRow.holds Try.pinned (OpenSpec.ofChange liveLastWrong)

/-- 'agoralaw35.LiveOrder': WHATEVER THE INPUT: true; the input reads as it did. -/
def liveOrderSpec : ChangeSpec := { name := "liveOrder", fn := fun _ => fun
  | [d1, d2] => { results := [.lit (.bool true)], args := [d1, d2] }
  | _ => none }
def liveOrderRow : OpenClaim := { program := "ytohmgnbndhojpaa", sum := "4ac8bf15ca9f59062cf316b5a228b4a186421f877de67c2c6656260d4af18b09", func := "agora/agoralaw35.LiveOrder", spec := "liveOrder", inPlace := ["internal/bytealg.IndexByteString", "internal/bytealg.IndexString"], unfollowed := true, recurses := true, named := ["internal/bytealg.MaxLen"], plainKeys := false, apart := false }
def LiveOrderSaid : Prop := liveOrderRow.holds Try.pinned (OpenSpec.ofChange liveOrderSpec)

/-- ITS FALSE NEIGHBOUR: 'it returns false'. Refute it at one input. -/
def liveOrderWrong : ChangeSpec := { name := "liveOrder", fn := fun _ => fun
  | [d1, d2] => { results := [.lit (.bool false)], args := [d1, d2] }
  | _ => none }
def LiveOrderWrongFalsely : Prop := liveOrderRow.holds Try.pinned (OpenSpec.ofChange liveOrderWrong)

/-- 'agoralaw35.LivePlays': WHATEVER THE INPUT: true; the input reads as it did. -/
def livePlaysSpec : ChangeSpec := { name := "livePlays", fn := fun _ => fun
  | [d1, d2, d3] => { results := [.lit (.bool true)], args := [d1, d2, d3] }
  | _ => none }
def livePlaysRow : OpenClaim := { program := "ytohmgnbndhojpaa", sum := "4ac8bf15ca9f59062cf316b5a228b4a186421f877de67c2c6656260d4af18b09", func := "agora/agoralaw35.LivePlays", spec := "livePlays", inPlace := ["internal/bytealg.IndexByteString", "internal/bytealg.IndexString"], unfollowed := true, recurses := true, named := ["internal/bytealg.MaxLen"], plainKeys := false, apart := false }
def LivePlaysSaid : Prop := livePlaysRow.holds Try.pinned (OpenSpec.ofChange livePlaysSpec)

/-- ITS FALSE NEIGHBOUR: 'it returns false'. Refute it at one input. -/
def livePlaysWrong : ChangeSpec := { name := "livePlays", fn := fun _ => fun
  | [d1, d2, d3] => { results := [.lit (.bool false)], args := [d1, d2, d3] }
  | _ => none }
def LivePlaysWrongFalsely : Prop := livePlaysRow.holds Try.pinned (OpenSpec.ofChange livePlaysWrong)

/-- 'agoralaw35.LiveSweeps': WHATEVER THE INPUT: true; the input reads as it did. -/
def liveSweepsSpec : ChangeSpec := { name := "liveSweeps", fn := fun _ => fun
  | [d1, d2, d3] => { results := [.lit (.bool true)], args := [d1, d2, d3] }
  | _ => none }
def liveSweepsRow : OpenClaim := { program := "ytohmgnbndhojpaa", sum := "4ac8bf15ca9f59062cf316b5a228b4a186421f877de67c2c6656260d4af18b09", func := "agora/agoralaw35.LiveSweeps", spec := "liveSweeps", inPlace := ["internal/bytealg.IndexByteString", "internal/bytealg.IndexString"], unfollowed := true, recurses := true, named := ["internal/bytealg.MaxLen"], plainKeys := false, apart := false }
def LiveSweepsSaid : Prop := liveSweepsRow.holds Try.pinned (OpenSpec.ofChange liveSweepsSpec)

/-- ITS FALSE NEIGHBOUR: 'it returns false'. Refute it at one input. -/
def liveSweepsWrong : ChangeSpec := { name := "liveSweeps", fn := fun _ => fun
  | [d1, d2, d3] => { results := [.lit (.bool false)], args := [d1, d2, d3] }
  | _ => none }
def LiveSweepsWrongFalsely : Prop := liveSweepsRow.holds Try.pinned (OpenSpec.ofChange liveSweepsWrong)

/-- 'agoralaw35.LiveNone': WHATEVER THE INPUT: true; the input reads as it did. -/
def liveNoneSpec : ChangeSpec := { name := "liveNone", fn := fun _ => fun
  | [d1, d2] => { results := [.lit (.bool true)], args := [d1, d2] }
  | _ => none }
def liveNoneRow : OpenClaim := { program := "ytohmgnbndhojpaa", sum := "4ac8bf15ca9f59062cf316b5a228b4a186421f877de67c2c6656260d4af18b09", func := "agora/agoralaw35.LiveNone", spec := "liveNone", inPlace := ["internal/bytealg.IndexByteString", "internal/bytealg.IndexString"], unfollowed := true, recurses := true, named := ["internal/bytealg.MaxLen"], plainKeys := false, apart := false }
def LiveNoneSaid : Prop := liveNoneRow.holds Try.pinned (OpenSpec.ofChange liveNoneSpec)

/-- ITS FALSE NEIGHBOUR: 'it returns false'. Refute it at one input. -/
def liveNoneWrong : ChangeSpec := { name := "liveNone", fn := fun _ => fun
  | [d1, d2] => { results := [.lit (.bool false)], args := [d1, d2] }
  | _ => none }
def LiveNoneWrongFalsely : Prop := liveNoneRow.holds Try.pinned (OpenSpec.ofChange liveNoneWrong)

/- THE SECOND FORM. 'bulk': how many values and letters a reading holds, each counted each time it is reached (what is shared counts as often as it is met; a slice's spare places count too). A statement '..UptoSaid' is the law's where the arguments, and the package variables that the reading takes, are together of bulk at most 1048576: NARROWER than '..Said'. Prove '..Said' where nothing that the law and all that it calls make is longer than what came in: it says more and counts as full. Else prove '..UptoSaid'. A law counts once. -/
mutual
def uptoBulk {H : Type} : DataW H → Nat
  | .lit (.string bytes) => bytes.length + 1
  | .lit _ => 1
  | .nil => 1
  | .ptr d => uptoBulk d + 1
  | .slice elems spare => uptoBulkAll elems + uptoBulkAll spare + 1
  | .agg parts => uptoBulkAll parts + 1
  | .iface _ d => uptoBulk d + 1
  | .map entries => uptoBulkEntries entries + 1
  | .held _ => 1
def uptoBulkAll {H : Type} : List (DataW H) → Nat
  | [] => 0
  | d :: r => uptoBulk d + uptoBulkAll r
def uptoBulkEntries {H : Type} : List (Lit × DataW H) → Nat
  | [] => 0
  | x :: r => uptoBulkEntry x + uptoBulkEntries r
def uptoBulkEntry {H : Type} : Lit × DataW H → Nat
  | (.string bytes, d) => bytes.length + uptoBulk d + 1
  | (_, d) => uptoBulk d + 1
 end
def uptoSmall : (H : Type) → List (DataW H) → Bool := fun _ ds => decide (uptoBulkAll ds ≤ 1048576)
def OpenSpec.upto (s : _root_.Go.ChangeSpec) : _root_.Go.OpenSpec := { _root_.Go.OpenSpec.ofChange s with cond := some uptoSmall }

/-- 'agoralaw35.LiveFades', WHERE WHAT IT READS IS OF BULK AT MOST 1048576: true; the input reads as it did. -/
def liveFadesUptoRow : OpenClaim := { program := "ytohmgnbndhojpaa", sum := "4ac8bf15ca9f59062cf316b5a228b4a186421f877de67c2c6656260d4af18b09", func := "agora/agoralaw35.LiveFades", spec := "liveFades", inPlace := ["internal/bytealg.IndexByteString", "internal/bytealg.IndexString"], unfollowed := true, recurses := true, named := ["internal/bytealg.MaxLen"], plainKeys := false, apart := false, narrowed := true }
def LiveFadesUptoSaid : Prop := liveFadesUptoRow.holds Try.pinned (OpenSpec.upto liveFadesSpec)

/-- 'agoralaw35.LiveLast', WHERE WHAT IT READS IS OF BULK AT MOST 1048576: true; the input reads as it did. -/
def liveLastUptoRow : OpenClaim := { program := "ytohmgnbndhojpaa", sum := "4ac8bf15ca9f59062cf316b5a228b4a186421f877de67c2c6656260d4af18b09", func := "agora/agoralaw35.LiveLast", spec := "liveLast", inPlace := ["internal/bytealg.IndexByteString", "internal/bytealg.IndexString"], unfollowed := true, recurses := true, named := ["internal/bytealg.MaxLen"], plainKeys := false, apart := false, narrowed := true }
def LiveLastUptoSaid : Prop := liveLastUptoRow.holds Try.pinned (OpenSpec.upto liveLastSpec)

/-- 'agoralaw35.LiveOrder', WHERE WHAT IT READS IS OF BULK AT MOST 1048576: true; the input reads as it did. -/
def liveOrderUptoRow : OpenClaim := { program := "ytohmgnbndhojpaa", sum := "4ac8bf15ca9f59062cf316b5a228b4a186421f877de67c2c6656260d4af18b09", func := "agora/agoralaw35.LiveOrder", spec := "liveOrder", inPlace := ["internal/bytealg.IndexByteString", "internal/bytealg.IndexString"], unfollowed := true, recurses := true, named := ["internal/bytealg.MaxLen"], plainKeys := false, apart := false, narrowed := true }
def LiveOrderUptoSaid : Prop := liveOrderUptoRow.holds Try.pinned (OpenSpec.upto liveOrderSpec)

/-- 'agoralaw35.LivePlays', WHERE WHAT IT READS IS OF BULK AT MOST 1048576: true; the input reads as it did. -/
def livePlaysUptoRow : OpenClaim := { program := "ytohmgnbndhojpaa", sum := "4ac8bf15ca9f59062cf316b5a228b4a186421f877de67c2c6656260d4af18b09", func := "agora/agoralaw35.LivePlays", spec := "livePlays", inPlace := ["internal/bytealg.IndexByteString", "internal/bytealg.IndexString"], unfollowed := true, recurses := true, named := ["internal/bytealg.MaxLen"], plainKeys := false, apart := false, narrowed := true }
def LivePlaysUptoSaid : Prop := livePlaysUptoRow.holds Try.pinned (OpenSpec.upto livePlaysSpec)

/-- 'agoralaw35.LiveSweeps', WHERE WHAT IT READS IS OF BULK AT MOST 1048576: true; the input reads as it did. -/
def liveSweepsUptoRow : OpenClaim := { program := "ytohmgnbndhojpaa", sum := "4ac8bf15ca9f59062cf316b5a228b4a186421f877de67c2c6656260d4af18b09", func := "agora/agoralaw35.LiveSweeps", spec := "liveSweeps", inPlace := ["internal/bytealg.IndexByteString", "internal/bytealg.IndexString"], unfollowed := true, recurses := true, named := ["internal/bytealg.MaxLen"], plainKeys := false, apart := false, narrowed := true }
def LiveSweepsUptoSaid : Prop := liveSweepsUptoRow.holds Try.pinned (OpenSpec.upto liveSweepsSpec)

/-- 'agoralaw35.LiveNone', WHERE WHAT IT READS IS OF BULK AT MOST 1048576: true; the input reads as it did. -/
def liveNoneUptoRow : OpenClaim := { program := "ytohmgnbndhojpaa", sum := "4ac8bf15ca9f59062cf316b5a228b4a186421f877de67c2c6656260d4af18b09", func := "agora/agoralaw35.LiveNone", spec := "liveNone", inPlace := ["internal/bytealg.IndexByteString", "internal/bytealg.IndexString"], unfollowed := true, recurses := true, named := ["internal/bytealg.MaxLen"], plainKeys := false, apart := false, narrowed := true }
def LiveNoneUptoSaid : Prop := liveNoneUptoRow.holds Try.pinned (OpenSpec.upto liveNoneSpec)

end Rows
end Go.Proofs.Ytohmgnbndhojpaa
