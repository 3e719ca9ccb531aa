/-
  DERIVED. GIVEN WITH THE SEED: THE CARDS: each row of YtgefinddmggpnaaDoorRows.lean that lists a variable, with what it lists TIED to the program's text (the seventh form; the later family's looks); each row that meets fmt, with fmt's text TOLD by the authors' own Lean function (tested against real Go, not proved from fmt's source: count such statements apart). THE CARD IS WHAT COUNTS. Prove the row's statement (the work); the ties are given (YtgefinddmggpnaaDoorTie.lean); close each card by the builder's one call (the guide's Derived/Test/ToyasCard.lean, 'card_holds'). Laid BY PROGRAM, IN A SANDBOX (cutbox-door.mjs). By AI agents, Wed Nov 11 2026. No macro, syntax, notation, axiom, sorry.
-/
import Derived.Test.YtgefinddmggpnaaDoorRows
import GoSem.ClaimSeven
namespace Go.Proofs.YtgefinddmggpnaaDoor
namespace Rows

/-- THE TIED CARD OF 'agoralaw38.AliasPages'. -/
def aliasPagesCard : Claim7 := { stood := { row := aliasPagesRow, standIns := [], harness := (true, "48e3be613d8a7ac8c4b7679e5d64c6cea65802f2389d9b3eb483030bab5251a9"), looks := false }, kinds := [], alts := [], laidByText := true, laidKinds := [.data, .pinned], laidTests := true, laidLooks := .later }
def AliasPagesCardSaid : Prop := Claim7.holds Tryd.pinned (.plain (OpenSpec.ofChange aliasPagesSpec)) aliasPagesCard

/-- THE TIED CARD OF 'agoralaw38.AliasLists'. -/
def aliasListsCard : Claim7 := { stood := { row := aliasListsRow, standIns := [], harness := (true, "48e3be613d8a7ac8c4b7679e5d64c6cea65802f2389d9b3eb483030bab5251a9"), looks := false }, kinds := [], alts := [], laidByText := true, laidKinds := [.data, .pinned], laidTests := true, laidLooks := .later }
def AliasListsCardSaid : Prop := Claim7.holds Tryd.pinned (.plain (OpenSpec.ofChange aliasListsSpec)) aliasListsCard

/-- THE TIED CARD OF 'agoralaw38.AliasNone'. -/
def aliasNoneCard : Claim7 := { stood := { row := aliasNoneRow, standIns := [], harness := (true, "48e3be613d8a7ac8c4b7679e5d64c6cea65802f2389d9b3eb483030bab5251a9"), looks := false }, kinds := [], alts := [], laidByText := true, laidKinds := [.data, .pinned], laidTests := true, laidLooks := .later }
def AliasNoneCardSaid : Prop := Claim7.holds Tryd.pinned (.plain (OpenSpec.ofChange aliasNoneSpec)) aliasNoneCard

/-- THE SECOND FORM's CARD OF 'agoralaw38.AliasPages'. -/
def aliasPagesUptoCard : Claim7 := { stood := { row := aliasPagesUptoRow, standIns := [], harness := (true, "48e3be613d8a7ac8c4b7679e5d64c6cea65802f2389d9b3eb483030bab5251a9"), looks := false }, kinds := [], alts := [], laidByText := true, laidKinds := [.data, .pinned], laidTests := true, laidLooks := .later }
def AliasPagesUptoCardSaid : Prop := Claim7.holds Tryd.pinned (.plain (OpenSpec.upto aliasPagesSpec)) aliasPagesUptoCard

/-- THE SECOND FORM's CARD OF 'agoralaw38.AliasLists'. -/
def aliasListsUptoCard : Claim7 := { stood := { row := aliasListsUptoRow, standIns := [], harness := (true, "48e3be613d8a7ac8c4b7679e5d64c6cea65802f2389d9b3eb483030bab5251a9"), looks := false }, kinds := [], alts := [], laidByText := true, laidKinds := [.data, .pinned], laidTests := true, laidLooks := .later }
def AliasListsUptoCardSaid : Prop := Claim7.holds Tryd.pinned (.plain (OpenSpec.upto aliasListsSpec)) aliasListsUptoCard

/-- THE SECOND FORM's CARD OF 'agoralaw38.AliasNone'. -/
def aliasNoneUptoCard : Claim7 := { stood := { row := aliasNoneUptoRow, standIns := [], harness := (true, "48e3be613d8a7ac8c4b7679e5d64c6cea65802f2389d9b3eb483030bab5251a9"), looks := false }, kinds := [], alts := [], laidByText := true, laidKinds := [.data, .pinned], laidTests := true, laidLooks := .later }
def AliasNoneUptoCardSaid : Prop := Claim7.holds Tryd.pinned (.plain (OpenSpec.upto aliasNoneSpec)) aliasNoneUptoCard
end Rows
end Go.Proofs.YtgefinddmggpnaaDoor
