/-
  No cell of these rows narrows 'for every input' (looked for: loops, veiled, ifaces, maps, wideKeys, modest, calm, conditions, laid).
  DERIVED. THE GIVEN ROWS OF THIS SEAT. 5 by the template 'for every input the law returns true; each argument reads behind the call as it read before'; 0 by the template 'total and deterministic' (their statements: YtdgdkgfkeinhbaaTotals.lean).
  GIVEN WITH THE SEED: the statements are not yours to turn. If you find one false, say at which input.
  Laid BY PROGRAM, IN A SANDBOX (cutbox-rows.mjs): the forced cells as the released guide's own fill.sh prints them over the translation c8a4be6860b03104… (all of the seat's roots in one cut). By AI agents, Wed Nov 11 2026. No macro, syntax, notation, axiom, sorry.
-/
import Derived.Test.YtdgdkgfkeinhbaaChecked
import GoSem.Claim
import GoSem.ClaimJoined
import GoSem.ClaimMapViews
import Derived.JoinedTies
import Derived.KernelRfl
namespace Go.Proofs.Ytdgdkgfkeinhbaa
/- THE CELL 'sum', in the pinned program and in every row, IS THE sha256 OF THE DUMP (.gsa) THAT YtdgdkgfkeinhbaaProg.lean LOADS. Nothing in Lean hashes anything: it is a label: what it is worth is what the hold of that sum in a sandbox is worth. -/
noncomputable def Try.pinned : Pinned := { name := "ytdgdkgfkeinhbaa", sum := "c8a4be6860b03104bbc9b1f653cfb97c1774580f7e2cfdbd686675c22691e3d4", checked := Try.checked }
namespace Rows
def none {H : Type} : Left H := { results := [], args := [] }

/-- 'agoralaw03.OracleApart': WHATEVER THE INPUT: true; the input reads as it did. -/
def oracleApartSpec : ChangeSpec := { name := "oracleApart", fn := fun _ => fun
  | [d] => { results := [.lit (.bool true)], args := [d] }
  | _ => none }
def oracleApartRow : OpenClaim := { program := "ytdgdkgfkeinhbaa", sum := "c8a4be6860b03104bbc9b1f653cfb97c1774580f7e2cfdbd686675c22691e3d4", func := "agora/agoralaw03.OracleApart", spec := "oracleApart", unfollowed := true, recurses := true, plainKeys := false, apart := false }
def OracleApartSaid : Prop := oracleApartRow.holds Try.pinned (OpenSpec.ofChange oracleApartSpec)

/-- ITS FALSE NEIGHBOUR: 'it returns false'. Refute it at one input. -/
def oracleApartWrong : ChangeSpec := { name := "oracleApart", fn := fun _ => fun
  | [d] => { results := [.lit (.bool false)], args := [d] }
  | _ => none }
def OracleApartWrongFalsely : Prop := oracleApartRow.holds Try.pinned (OpenSpec.ofChange oracleApartWrong)

/-- 'agoralaw03.OracleForges': WHATEVER THE INPUT: true; the input reads as it did. -/
def oracleForgesSpec : ChangeSpec := { name := "oracleForges", fn := fun _ => fun
  | [d1, d2, d3] => { results := [.lit (.bool true)], args := [d1, d2, d3] }
  | _ => none }
def oracleForgesRow : OpenClaim := { program := "ytdgdkgfkeinhbaa", sum := "c8a4be6860b03104bbc9b1f653cfb97c1774580f7e2cfdbd686675c22691e3d4", func := "agora/agoralaw03.OracleForges", spec := "oracleForges", unfollowed := true, recurses := true, plainKeys := false, apart := false }
def OracleForgesSaid : Prop := oracleForgesRow.holds Try.pinned (OpenSpec.ofChange oracleForgesSpec)

/-- ITS FALSE NEIGHBOUR: 'it returns false'. Refute it at one input. -/
def oracleForgesWrong : ChangeSpec := { name := "oracleForges", fn := fun _ => fun
  | [d1, d2, d3] => { results := [.lit (.bool false)], args := [d1, d2, d3] }
  | _ => none }
def OracleForgesWrongFalsely : Prop := oracleForgesRow.holds Try.pinned (OpenSpec.ofChange oracleForgesWrong)

/-- 'agoralaw03.OracleStays': WHATEVER THE INPUT: true; the input reads as it did. -/
def oracleStaysSpec : ChangeSpec := { name := "oracleStays", fn := fun _ => fun
  | [d1, d2, d3] => { results := [.lit (.bool true)], args := [d1, d2, d3] }
  | _ => none }
def oracleStaysRow : OpenClaim := { program := "ytdgdkgfkeinhbaa", sum := "c8a4be6860b03104bbc9b1f653cfb97c1774580f7e2cfdbd686675c22691e3d4", func := "agora/agoralaw03.OracleStays", spec := "oracleStays", unfollowed := true, recurses := true, plainKeys := false, apart := false }
def OracleStaysSaid : Prop := oracleStaysRow.holds Try.pinned (OpenSpec.ofChange oracleStaysSpec)

/-- ITS FALSE NEIGHBOUR: 'it returns false'. Refute it at one input. -/
def oracleStaysWrong : ChangeSpec := { name := "oracleStays", fn := fun _ => fun
  | [d1, d2, d3] => { results := [.lit (.bool false)], args := [d1, d2, d3] }
  | _ => none }
def OracleStaysWrongFalsely : Prop := oracleStaysRow.holds Try.pinned (OpenSpec.ofChange oracleStaysWrong)

/-- 'agoralaw03.OraclePlays': WHATEVER THE INPUT: true; the input reads as it did. -/
def oraclePlaysSpec : ChangeSpec := { name := "oraclePlays", fn := fun _ => fun
  | [d1, d2] => { results := [.lit (.bool true)], args := [d1, d2] }
  | _ => none }
def oraclePlaysRow : OpenClaim := { program := "ytdgdkgfkeinhbaa", sum := "c8a4be6860b03104bbc9b1f653cfb97c1774580f7e2cfdbd686675c22691e3d4", func := "agora/agoralaw03.OraclePlays", spec := "oraclePlays", unfollowed := true, recurses := true, plainKeys := false, apart := false }
def OraclePlaysSaid : Prop := oraclePlaysRow.holds Try.pinned (OpenSpec.ofChange oraclePlaysSpec)

/-- ITS FALSE NEIGHBOUR: 'it returns false'. Refute it at one input. -/
def oraclePlaysWrong : ChangeSpec := { name := "oraclePlays", fn := fun _ => fun
  | [d1, d2] => { results := [.lit (.bool false)], args := [d1, d2] }
  | _ => none }
def OraclePlaysWrongFalsely : Prop := oraclePlaysRow.holds Try.pinned (OpenSpec.ofChange oraclePlaysWrong)

/-- 'agoralaw03.OracleNone': WHATEVER THE INPUT: true; the input reads as it did. -/
def oracleNoneSpec : ChangeSpec := { name := "oracleNone", fn := fun _ => fun
  | [d1, d2] => { results := [.lit (.bool true)], args := [d1, d2] }
  | _ => none }
def oracleNoneRow : OpenClaim := { program := "ytdgdkgfkeinhbaa", sum := "c8a4be6860b03104bbc9b1f653cfb97c1774580f7e2cfdbd686675c22691e3d4", func := "agora/agoralaw03.OracleNone", spec := "oracleNone", unfollowed := true, recurses := true, plainKeys := false, apart := false }
def OracleNoneSaid : Prop := oracleNoneRow.holds Try.pinned (OpenSpec.ofChange oracleNoneSpec)

/-- ITS FALSE NEIGHBOUR: 'it returns false'. Refute it at one input. -/
def oracleNoneWrong : ChangeSpec := { name := "oracleNone", fn := fun _ => fun
  | [d1, d2] => { results := [.lit (.bool false)], args := [d1, d2] }
  | _ => none }
def OracleNoneWrongFalsely : Prop := oracleNoneRow.holds Try.pinned (OpenSpec.ofChange oracleNoneWrong)

/- THE SECOND FORM. 'bulk': how many values and letters a reading holds, each counted each time it is reached (what is shared counts as often as it is met; a slice's spare places count too). A statement '..UptoSaid' is the law's where the arguments, and the package variables that the reading takes, are together of bulk at most 1048576: NARROWER than '..Said'. Prove '..Said' where nothing that the law and all that it calls make is longer than what came in: it says more and counts as full. Else prove '..UptoSaid'. A law counts once. -/
mutual
def uptoBulk {H : Type} : DataW H → Nat
  | .lit (.string bytes) => bytes.length + 1
  | .lit _ => 1
  | .nil => 1
  | .ptr d => uptoBulk d + 1
  | .slice elems spare => uptoBulkAll elems + uptoBulkAll spare + 1
  | .agg parts => uptoBulkAll parts + 1
  | .iface _ d => uptoBulk d + 1
  | .map entries => uptoBulkEntries entries + 1
  | .held _ => 1
def uptoBulkAll {H : Type} : List (DataW H) → Nat
  | [] => 0
  | d :: r => uptoBulk d + uptoBulkAll r
def uptoBulkEntries {H : Type} : List (Lit × DataW H) → Nat
  | [] => 0
  | x :: r => uptoBulkEntry x + uptoBulkEntries r
def uptoBulkEntry {H : Type} : Lit × DataW H → Nat
  | (.string bytes, d) => bytes.length + uptoBulk d + 1
  | (_, d) => uptoBulk d + 1
 end
def uptoSmall : (H : Type) → List (DataW H) → Bool := fun _ ds => decide (uptoBulkAll ds ≤ 1048576)
def OpenSpec.upto (s : _root_.Go.ChangeSpec) : _root_.Go.OpenSpec := { _root_.Go.OpenSpec.ofChange s with cond := some uptoSmall }

/-- 'agoralaw03.OracleApart', WHERE WHAT IT READS IS OF BULK AT MOST 1048576: true; the input reads as it did. -/
def oracleApartUptoRow : OpenClaim := { program := "ytdgdkgfkeinhbaa", sum := "c8a4be6860b03104bbc9b1f653cfb97c1774580f7e2cfdbd686675c22691e3d4", func := "agora/agoralaw03.OracleApart", spec := "oracleApart", unfollowed := true, recurses := true, plainKeys := false, apart := false, narrowed := true }
def OracleApartUptoSaid : Prop := oracleApartUptoRow.holds Try.pinned (OpenSpec.upto oracleApartSpec)

/-- 'agoralaw03.OracleForges', WHERE WHAT IT READS IS OF BULK AT MOST 1048576: true; the input reads as it did. -/
def oracleForgesUptoRow : OpenClaim := { program := "ytdgdkgfkeinhbaa", sum := "c8a4be6860b03104bbc9b1f653cfb97c1774580f7e2cfdbd686675c22691e3d4", func := "agora/agoralaw03.OracleForges", spec := "oracleForges", unfollowed := true, recurses := true, plainKeys := false, apart := false, narrowed := true }
def OracleForgesUptoSaid : Prop := oracleForgesUptoRow.holds Try.pinned (OpenSpec.upto oracleForgesSpec)

/-- 'agoralaw03.OracleStays', WHERE WHAT IT READS IS OF BULK AT MOST 1048576: true; the input reads as it did. -/
def oracleStaysUptoRow : OpenClaim := { program := "ytdgdkgfkeinhbaa", sum := "c8a4be6860b03104bbc9b1f653cfb97c1774580f7e2cfdbd686675c22691e3d4", func := "agora/agoralaw03.OracleStays", spec := "oracleStays", unfollowed := true, recurses := true, plainKeys := false, apart := false, narrowed := true }
def OracleStaysUptoSaid : Prop := oracleStaysUptoRow.holds Try.pinned (OpenSpec.upto oracleStaysSpec)

/-- 'agoralaw03.OraclePlays', WHERE WHAT IT READS IS OF BULK AT MOST 1048576: true; the input reads as it did. -/
def oraclePlaysUptoRow : OpenClaim := { program := "ytdgdkgfkeinhbaa", sum := "c8a4be6860b03104bbc9b1f653cfb97c1774580f7e2cfdbd686675c22691e3d4", func := "agora/agoralaw03.OraclePlays", spec := "oraclePlays", unfollowed := true, recurses := true, plainKeys := false, apart := false, narrowed := true }
def OraclePlaysUptoSaid : Prop := oraclePlaysUptoRow.holds Try.pinned (OpenSpec.upto oraclePlaysSpec)

/-- 'agoralaw03.OracleNone', WHERE WHAT IT READS IS OF BULK AT MOST 1048576: true; the input reads as it did. -/
def oracleNoneUptoRow : OpenClaim := { program := "ytdgdkgfkeinhbaa", sum := "c8a4be6860b03104bbc9b1f653cfb97c1774580f7e2cfdbd686675c22691e3d4", func := "agora/agoralaw03.OracleNone", spec := "oracleNone", unfollowed := true, recurses := true, plainKeys := false, apart := false, narrowed := true }
def OracleNoneUptoSaid : Prop := oracleNoneUptoRow.holds Try.pinned (OpenSpec.upto oracleNoneSpec)

end Rows
end Go.Proofs.Ytdgdkgfkeinhbaa
