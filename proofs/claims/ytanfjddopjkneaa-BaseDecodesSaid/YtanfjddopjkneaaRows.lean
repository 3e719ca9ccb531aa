/-
  No cell of these rows narrows 'for every input' (looked for: loops, veiled, ifaces, maps, wideKeys, modest, calm, conditions, laid).
  DERIVED. THE GIVEN ROWS OF THIS SEAT. 6 by the template 'for every input the law returns true; each argument reads behind the call as it read before'; 0 by the template 'total and deterministic' (their statements: YtanfjddopjkneaaTotals.lean).
  GIVEN WITH THE SEED: the statements are not yours to turn. If you find one false, say at which input.
  Laid BY PROGRAM, IN A SANDBOX (cutbox-rows.mjs): the forced cells as the released guide's own fill.sh prints them over the translation 0a3560c654df08df… (all of the seat's roots in one cut). By AI agents, Wed Nov 11 2026. No macro, syntax, notation, axiom, sorry.
-/
import Derived.Test.YtanfjddopjkneaaChecked
import GoSem.Claim
import GoSem.ClaimJoined
import GoSem.ClaimMapViews
import Derived.JoinedTies
import Derived.KernelRfl
namespace Go.Proofs.Ytanfjddopjkneaa
/- THE CELL 'sum', in the pinned program and in every row, IS THE sha256 OF THE DUMP (.gsa) THAT YtanfjddopjkneaaProg.lean LOADS. Nothing in Lean hashes anything: it is a label: what it is worth is what the hold of that sum in a sandbox is worth. -/
noncomputable def Try.pinned : Pinned := { name := "ytanfjddopjkneaa", sum := "0a3560c654df08df20ab22e861cea75b817e794cc829c98a8366aa5e03dbf91e", checked := Try.checked }
namespace Rows
def none {H : Type} : Left H := { results := [], args := [] }

/-- 'agoralaw02.BaseEncodes': WHATEVER THE INPUT: true; the input reads as it did. -/
def baseEncodesSpec : ChangeSpec := { name := "baseEncodes", fn := fun _ => fun
  | [d] => { results := [.lit (.bool true)], args := [d] }
  | _ => none }
def baseEncodesRow : OpenClaim := { program := "ytanfjddopjkneaa", sum := "0a3560c654df08df20ab22e861cea75b817e794cc829c98a8366aa5e03dbf91e", func := "agora/agoralaw02.BaseEncodes", spec := "baseEncodes", inPlace := ["internal/bytealg.IndexByteString"], apart := false }
def BaseEncodesSaid : Prop := baseEncodesRow.holds Try.pinned (OpenSpec.ofChange baseEncodesSpec)

/-- ITS FALSE NEIGHBOUR: 'it returns false'. Refute it at one input. -/
def baseEncodesWrong : ChangeSpec := { name := "baseEncodes", fn := fun _ => fun
  | [d] => { results := [.lit (.bool false)], args := [d] }
  | _ => none }
def BaseEncodesWrongFalsely : Prop := baseEncodesRow.holds Try.pinned (OpenSpec.ofChange baseEncodesWrong)

/-- 'agoralaw02.BaseDecodes': WHATEVER THE INPUT: true; the input reads as it did. -/
def baseDecodesSpec : ChangeSpec := { name := "baseDecodes", fn := fun _ => fun
  | [d] => { results := [.lit (.bool true)], args := [d] }
  | _ => none }
def baseDecodesRow : OpenClaim := { program := "ytanfjddopjkneaa", sum := "0a3560c654df08df20ab22e861cea75b817e794cc829c98a8366aa5e03dbf91e", func := "agora/agoralaw02.BaseDecodes", spec := "baseDecodes", inPlace := ["internal/bytealg.IndexByteString"], apart := false }
def BaseDecodesSaid : Prop := baseDecodesRow.holds Try.pinned (OpenSpec.ofChange baseDecodesSpec)

/-- ITS FALSE NEIGHBOUR: 'it returns false'. Refute it at one input. -/
def baseDecodesWrong : ChangeSpec := { name := "baseDecodes", fn := fun _ => fun
  | [d] => { results := [.lit (.bool false)], args := [d] }
  | _ => none }
def BaseDecodesWrongFalsely : Prop := baseDecodesRow.holds Try.pinned (OpenSpec.ofChange baseDecodesWrong)

/-- 'agoralaw02.BaseBack': WHATEVER THE INPUT: true; the input reads as it did. -/
def baseBackSpec : ChangeSpec := { name := "baseBack", fn := fun _ => fun
  | [d] => { results := [.lit (.bool true)], args := [d] }
  | _ => none }
def baseBackRow : OpenClaim := { program := "ytanfjddopjkneaa", sum := "0a3560c654df08df20ab22e861cea75b817e794cc829c98a8366aa5e03dbf91e", func := "agora/agoralaw02.BaseBack", spec := "baseBack", inPlace := ["internal/bytealg.IndexByteString"], apart := false }
def BaseBackSaid : Prop := baseBackRow.holds Try.pinned (OpenSpec.ofChange baseBackSpec)

/-- ITS FALSE NEIGHBOUR: 'it returns false'. Refute it at one input. -/
def baseBackWrong : ChangeSpec := { name := "baseBack", fn := fun _ => fun
  | [d] => { results := [.lit (.bool false)], args := [d] }
  | _ => none }
def BaseBackWrongFalsely : Prop := baseBackRow.holds Try.pinned (OpenSpec.ofChange baseBackWrong)

/-- 'agoralaw02.BaseOnce': WHATEVER THE INPUT: true; the input reads as it did. -/
def baseOnceSpec : ChangeSpec := { name := "baseOnce", fn := fun _ => fun
  | [d] => { results := [.lit (.bool true)], args := [d] }
  | _ => none }
def baseOnceRow : OpenClaim := { program := "ytanfjddopjkneaa", sum := "0a3560c654df08df20ab22e861cea75b817e794cc829c98a8366aa5e03dbf91e", func := "agora/agoralaw02.BaseOnce", spec := "baseOnce", inPlace := ["internal/bytealg.IndexByteString"], apart := false }
def BaseOnceSaid : Prop := baseOnceRow.holds Try.pinned (OpenSpec.ofChange baseOnceSpec)

/-- ITS FALSE NEIGHBOUR: 'it returns false'. Refute it at one input. -/
def baseOnceWrong : ChangeSpec := { name := "baseOnce", fn := fun _ => fun
  | [d] => { results := [.lit (.bool false)], args := [d] }
  | _ => none }
def BaseOnceWrongFalsely : Prop := baseOnceRow.holds Try.pinned (OpenSpec.ofChange baseOnceWrong)

/-- 'agoralaw02.BaseSizes': WHATEVER THE INPUT: true; the input reads as it did. -/
def baseSizesSpec : ChangeSpec := { name := "baseSizes", fn := fun _ => fun
  | [d1, d2] => { results := [.lit (.bool true)], args := [d1, d2] }
  | _ => none }
def baseSizesRow : OpenClaim := { program := "ytanfjddopjkneaa", sum := "0a3560c654df08df20ab22e861cea75b817e794cc829c98a8366aa5e03dbf91e", func := "agora/agoralaw02.BaseSizes", spec := "baseSizes", inPlace := ["internal/bytealg.IndexByteString"], apart := false }
def BaseSizesSaid : Prop := baseSizesRow.holds Try.pinned (OpenSpec.ofChange baseSizesSpec)

/-- ITS FALSE NEIGHBOUR: 'it returns false'. Refute it at one input. -/
def baseSizesWrong : ChangeSpec := { name := "baseSizes", fn := fun _ => fun
  | [d1, d2] => { results := [.lit (.bool false)], args := [d1, d2] }
  | _ => none }
def BaseSizesWrongFalsely : Prop := baseSizesRow.holds Try.pinned (OpenSpec.ofChange baseSizesWrong)

/-- 'agoralaw02.BaseCuts': WHATEVER THE INPUT: true; the input reads as it did. -/
def baseCutsSpec : ChangeSpec := { name := "baseCuts", fn := fun _ => fun
  | [d1, d2] => { results := [.lit (.bool true)], args := [d1, d2] }
  | _ => none }
def baseCutsRow : OpenClaim := { program := "ytanfjddopjkneaa", sum := "0a3560c654df08df20ab22e861cea75b817e794cc829c98a8366aa5e03dbf91e", func := "agora/agoralaw02.BaseCuts", spec := "baseCuts", inPlace := ["internal/bytealg.IndexByteString"], apart := false }
def BaseCutsSaid : Prop := baseCutsRow.holds Try.pinned (OpenSpec.ofChange baseCutsSpec)

/-- ITS FALSE NEIGHBOUR: 'it returns false'. Refute it at one input. -/
def baseCutsWrong : ChangeSpec := { name := "baseCuts", fn := fun _ => fun
  | [d1, d2] => { results := [.lit (.bool false)], args := [d1, d2] }
  | _ => none }
def BaseCutsWrongFalsely : Prop := baseCutsRow.holds Try.pinned (OpenSpec.ofChange baseCutsWrong)

/- THE SECOND FORM. 'bulk': how many values and letters a reading holds, each counted each time it is reached (what is shared counts as often as it is met; a slice's spare places count too). A statement '..UptoSaid' is the law's where the arguments, and the package variables that the reading takes, are together of bulk at most 1048576: NARROWER than '..Said'. Prove '..Said' where nothing that the law and all that it calls make is longer than what came in: it says more and counts as full. Else prove '..UptoSaid'. A law counts once. -/
mutual
def uptoBulk {H : Type} : DataW H → Nat
  | .lit (.string bytes) => bytes.length + 1
  | .lit _ => 1
  | .nil => 1
  | .ptr d => uptoBulk d + 1
  | .slice elems spare => uptoBulkAll elems + uptoBulkAll spare + 1
  | .agg parts => uptoBulkAll parts + 1
  | .iface _ d => uptoBulk d + 1
  | .map entries => uptoBulkEntries entries + 1
  | .held _ => 1
def uptoBulkAll {H : Type} : List (DataW H) → Nat
  | [] => 0
  | d :: r => uptoBulk d + uptoBulkAll r
def uptoBulkEntries {H : Type} : List (Lit × DataW H) → Nat
  | [] => 0
  | x :: r => uptoBulkEntry x + uptoBulkEntries r
def uptoBulkEntry {H : Type} : Lit × DataW H → Nat
  | (.string bytes, d) => bytes.length + uptoBulk d + 1
  | (_, d) => uptoBulk d + 1
 end
def uptoSmall : (H : Type) → List (DataW H) → Bool := fun _ ds => decide (uptoBulkAll ds ≤ 1048576)
def OpenSpec.upto (s : _root_.Go.ChangeSpec) : _root_.Go.OpenSpec := { _root_.Go.OpenSpec.ofChange s with cond := some uptoSmall }

/-- 'agoralaw02.BaseEncodes', WHERE WHAT IT READS IS OF BULK AT MOST 1048576: true; the input reads as it did. -/
def baseEncodesUptoRow : OpenClaim := { program := "ytanfjddopjkneaa", sum := "0a3560c654df08df20ab22e861cea75b817e794cc829c98a8366aa5e03dbf91e", func := "agora/agoralaw02.BaseEncodes", spec := "baseEncodes", inPlace := ["internal/bytealg.IndexByteString"], apart := false, narrowed := true }
def BaseEncodesUptoSaid : Prop := baseEncodesUptoRow.holds Try.pinned (OpenSpec.upto baseEncodesSpec)

/-- 'agoralaw02.BaseDecodes', WHERE WHAT IT READS IS OF BULK AT MOST 1048576: true; the input reads as it did. -/
def baseDecodesUptoRow : OpenClaim := { program := "ytanfjddopjkneaa", sum := "0a3560c654df08df20ab22e861cea75b817e794cc829c98a8366aa5e03dbf91e", func := "agora/agoralaw02.BaseDecodes", spec := "baseDecodes", inPlace := ["internal/bytealg.IndexByteString"], apart := false, narrowed := true }
def BaseDecodesUptoSaid : Prop := baseDecodesUptoRow.holds Try.pinned (OpenSpec.upto baseDecodesSpec)

/-- 'agoralaw02.BaseBack', WHERE WHAT IT READS IS OF BULK AT MOST 1048576: true; the input reads as it did. -/
def baseBackUptoRow : OpenClaim := { program := "ytanfjddopjkneaa", sum := "0a3560c654df08df20ab22e861cea75b817e794cc829c98a8366aa5e03dbf91e", func := "agora/agoralaw02.BaseBack", spec := "baseBack", inPlace := ["internal/bytealg.IndexByteString"], apart := false, narrowed := true }
def BaseBackUptoSaid : Prop := baseBackUptoRow.holds Try.pinned (OpenSpec.upto baseBackSpec)

/-- 'agoralaw02.BaseOnce', WHERE WHAT IT READS IS OF BULK AT MOST 1048576: true; the input reads as it did. -/
def baseOnceUptoRow : OpenClaim := { program := "ytanfjddopjkneaa", sum := "0a3560c654df08df20ab22e861cea75b817e794cc829c98a8366aa5e03dbf91e", func := "agora/agoralaw02.BaseOnce", spec := "baseOnce", inPlace := ["internal/bytealg.IndexByteString"], apart := false, narrowed := true }
def BaseOnceUptoSaid : Prop := baseOnceUptoRow.holds Try.pinned (OpenSpec.upto baseOnceSpec)

/-- 'agoralaw02.BaseSizes', WHERE WHAT IT READS IS OF BULK AT MOST 1048576: true; the input reads as it did. -/
def baseSizesUptoRow : OpenClaim := { program := "ytanfjddopjkneaa", sum := "0a3560c654df08df20ab22e861cea75b817e794cc829c98a8366aa5e03dbf91e", func := "agora/agoralaw02.BaseSizes", spec := "baseSizes", inPlace := ["internal/bytealg.IndexByteString"], apart := false, narrowed := true }
def BaseSizesUptoSaid : Prop := baseSizesUptoRow.holds Try.pinned (OpenSpec.upto baseSizesSpec)

/-- 'agoralaw02.BaseCuts', WHERE WHAT IT READS IS OF BULK AT MOST 1048576: true; the input reads as it did. -/
def baseCutsUptoRow : OpenClaim := { program := "ytanfjddopjkneaa", sum := "0a3560c654df08df20ab22e861cea75b817e794cc829c98a8366aa5e03dbf91e", func := "agora/agoralaw02.BaseCuts", spec := "baseCuts", inPlace := ["internal/bytealg.IndexByteString"], apart := false, narrowed := true }
def BaseCutsUptoSaid : Prop := baseCutsUptoRow.holds Try.pinned (OpenSpec.upto baseCutsSpec)

end Rows
end Go.Proofs.Ytanfjddopjkneaa
