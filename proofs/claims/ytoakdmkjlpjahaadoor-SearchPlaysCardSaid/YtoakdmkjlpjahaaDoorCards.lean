/-
  DERIVED. GIVEN WITH THE SEED: THE CARDS: each row of YtoakdmkjlpjahaaDoorRows.lean that lists a variable, with what it lists TIED to the program's text (the seventh form; the later family's looks); each row that meets fmt, with fmt's text TOLD by the authors' own Lean function (tested against real Go, not proved from fmt's source: count such statements apart). THE CARD IS WHAT COUNTS. Prove the row's statement (the work); the ties are given (YtoakdmkjlpjahaaDoorTie.lean); close each card by the builder's one call (the guide's Derived/Test/ToyasCard.lean, 'card_holds'). Laid BY PROGRAM, IN A SANDBOX (cutbox-door.mjs). By AI agents, Wed Nov 11 2026. No macro, syntax, notation, axiom, sorry.
-/
import Derived.Test.YtoakdmkjlpjahaaDoorRows
import GoSem.ClaimSeven
namespace Go.Proofs.YtoakdmkjlpjahaaDoor
namespace Rows

/-- THE TIED CARD OF 'agoralaw30.SearchWords'. -/
def searchWordsCard : Claim7 := { stood := { row := searchWordsRow, standIns := [], harness := (true, "14bcf9d269fa60694aa7c4cf45b0e177d6757fa46e642cb7db6b65bb274fd7e5"), looks := false }, kinds := [], alts := [], laidByText := true, laidKinds := [.data, .pinned], laidTests := true, laidLooks := .later }
def SearchWordsCardSaid : Prop := Claim7.holds Tryd.pinned (.plain (OpenSpec.ofChange searchWordsSpec)) searchWordsCard

/-- THE TIED CARD OF 'agoralaw30.SearchOrder'. -/
def searchOrderCard : Claim7 := { stood := { row := searchOrderRow, standIns := [], harness := (true, "14bcf9d269fa60694aa7c4cf45b0e177d6757fa46e642cb7db6b65bb274fd7e5"), looks := false }, kinds := [], alts := [], laidByText := true, laidKinds := [.data, .pinned], laidTests := true, laidLooks := .later }
def SearchOrderCardSaid : Prop := Claim7.holds Tryd.pinned (.plain (OpenSpec.ofChange searchOrderSpec)) searchOrderCard

/-- THE TIED CARD OF 'agoralaw30.SearchNarrows'. -/
def searchNarrowsCard : Claim7 := { stood := { row := searchNarrowsRow, standIns := [], harness := (true, "14bcf9d269fa60694aa7c4cf45b0e177d6757fa46e642cb7db6b65bb274fd7e5"), looks := false }, kinds := [], alts := [], laidByText := true, laidKinds := [.data, .pinned], laidTests := true, laidLooks := .later }
def SearchNarrowsCardSaid : Prop := Claim7.holds Tryd.pinned (.plain (OpenSpec.ofChange searchNarrowsSpec)) searchNarrowsCard

/-- THE TIED CARD OF 'agoralaw30.SearchPlays'. -/
def searchPlaysCard : Claim7 := { stood := { row := searchPlaysRow, standIns := [], harness := (true, "14bcf9d269fa60694aa7c4cf45b0e177d6757fa46e642cb7db6b65bb274fd7e5"), looks := false }, kinds := [], alts := [], laidByText := true, laidKinds := [.data, .pinned], laidTests := true, laidLooks := .later }
def SearchPlaysCardSaid : Prop := Claim7.holds Tryd.pinned (.plain (OpenSpec.ofChange searchPlaysSpec)) searchPlaysCard

/-- THE TIED CARD OF 'agoralaw30.SearchGone'. -/
def searchGoneCard : Claim7 := { stood := { row := searchGoneRow, standIns := [], harness := (true, "14bcf9d269fa60694aa7c4cf45b0e177d6757fa46e642cb7db6b65bb274fd7e5"), looks := false }, kinds := [], alts := [], laidByText := true, laidKinds := [.data, .pinned], laidTests := true, laidLooks := .later }
def SearchGoneCardSaid : Prop := Claim7.holds Tryd.pinned (.plain (OpenSpec.ofChange searchGoneSpec)) searchGoneCard

/-- THE TIED CARD OF 'agoralaw30.SearchNone'. -/
def searchNoneCard : Claim7 := { stood := { row := searchNoneRow, standIns := [], harness := (true, "14bcf9d269fa60694aa7c4cf45b0e177d6757fa46e642cb7db6b65bb274fd7e5"), looks := false }, kinds := [], alts := [], laidByText := true, laidKinds := [.data, .pinned], laidTests := true, laidLooks := .later }
def SearchNoneCardSaid : Prop := Claim7.holds Tryd.pinned (.plain (OpenSpec.ofChange searchNoneSpec)) searchNoneCard

/-- THE SECOND FORM's CARD OF 'agoralaw30.SearchWords'. -/
def searchWordsUptoCard : Claim7 := { stood := { row := searchWordsUptoRow, standIns := [], harness := (true, "14bcf9d269fa60694aa7c4cf45b0e177d6757fa46e642cb7db6b65bb274fd7e5"), looks := false }, kinds := [], alts := [], laidByText := true, laidKinds := [.data, .pinned], laidTests := true, laidLooks := .later }
def SearchWordsUptoCardSaid : Prop := Claim7.holds Tryd.pinned (.plain (OpenSpec.upto searchWordsSpec)) searchWordsUptoCard

/-- THE SECOND FORM's CARD OF 'agoralaw30.SearchOrder'. -/
def searchOrderUptoCard : Claim7 := { stood := { row := searchOrderUptoRow, standIns := [], harness := (true, "14bcf9d269fa60694aa7c4cf45b0e177d6757fa46e642cb7db6b65bb274fd7e5"), looks := false }, kinds := [], alts := [], laidByText := true, laidKinds := [.data, .pinned], laidTests := true, laidLooks := .later }
def SearchOrderUptoCardSaid : Prop := Claim7.holds Tryd.pinned (.plain (OpenSpec.upto searchOrderSpec)) searchOrderUptoCard

/-- THE SECOND FORM's CARD OF 'agoralaw30.SearchNarrows'. -/
def searchNarrowsUptoCard : Claim7 := { stood := { row := searchNarrowsUptoRow, standIns := [], harness := (true, "14bcf9d269fa60694aa7c4cf45b0e177d6757fa46e642cb7db6b65bb274fd7e5"), looks := false }, kinds := [], alts := [], laidByText := true, laidKinds := [.data, .pinned], laidTests := true, laidLooks := .later }
def SearchNarrowsUptoCardSaid : Prop := Claim7.holds Tryd.pinned (.plain (OpenSpec.upto searchNarrowsSpec)) searchNarrowsUptoCard

/-- THE SECOND FORM's CARD OF 'agoralaw30.SearchPlays'. -/
def searchPlaysUptoCard : Claim7 := { stood := { row := searchPlaysUptoRow, standIns := [], harness := (true, "14bcf9d269fa60694aa7c4cf45b0e177d6757fa46e642cb7db6b65bb274fd7e5"), looks := false }, kinds := [], alts := [], laidByText := true, laidKinds := [.data, .pinned], laidTests := true, laidLooks := .later }
def SearchPlaysUptoCardSaid : Prop := Claim7.holds Tryd.pinned (.plain (OpenSpec.upto searchPlaysSpec)) searchPlaysUptoCard

/-- THE SECOND FORM's CARD OF 'agoralaw30.SearchGone'. -/
def searchGoneUptoCard : Claim7 := { stood := { row := searchGoneUptoRow, standIns := [], harness := (true, "14bcf9d269fa60694aa7c4cf45b0e177d6757fa46e642cb7db6b65bb274fd7e5"), looks := false }, kinds := [], alts := [], laidByText := true, laidKinds := [.data, .pinned], laidTests := true, laidLooks := .later }
def SearchGoneUptoCardSaid : Prop := Claim7.holds Tryd.pinned (.plain (OpenSpec.upto searchGoneSpec)) searchGoneUptoCard

/-- THE SECOND FORM's CARD OF 'agoralaw30.SearchNone'. -/
def searchNoneUptoCard : Claim7 := { stood := { row := searchNoneUptoRow, standIns := [], harness := (true, "14bcf9d269fa60694aa7c4cf45b0e177d6757fa46e642cb7db6b65bb274fd7e5"), looks := false }, kinds := [], alts := [], laidByText := true, laidKinds := [.data, .pinned], laidTests := true, laidLooks := .later }
def SearchNoneUptoCardSaid : Prop := Claim7.holds Tryd.pinned (.plain (OpenSpec.upto searchNoneSpec)) searchNoneUptoCard
end Rows
end Go.Proofs.YtoakdmkjlpjahaaDoor
