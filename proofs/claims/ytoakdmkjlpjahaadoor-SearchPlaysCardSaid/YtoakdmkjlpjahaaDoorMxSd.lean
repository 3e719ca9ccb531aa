/-
  The abstract machine: texts by their bytes.
-/
import Derived.Test.YtoakdmkjlpjahaaDoorMxSa
namespace Go.Mx
open Go.RowKit
set_option linter.unusedVariables false

/-- The text of these bytes. -/
def tx (l : List UInt8) : ByteArray := ⟨l.toArray⟩
theorem mk_tx (a : Array UInt8) : (ByteArray.mk a) = tx a.toList := by simp [tx]
theorem tx_data (l : List UInt8) : (tx l).data = l.toArray := rfl
theorem tx_size (l : List UInt8) : (tx l).size = l.length := by simp [tx, ByteArray.size]
theorem tx_list (l : List UInt8) : (tx l).toList = l := by
  have : ∀ b : ByteArray, b.toList = b.data.toList := fun b => by
    exact ByteArray.toList_eq b
  rw [this]; simp [tx]
theorem tx_inj (a b : List UInt8) : (tx a = tx b) = (a = b) := by simp [tx]
theorem tx_of (s : ByteArray) : ∃ l, s = tx l := ⟨s.data.toList, by simp [tx]⟩
theorem tx_eq (a b : List UInt8) : ((tx a).toList == (tx b).toList) = decide (a = b) := by
  rw [tx_list, tx_list, Bool.eq_iff_iff]; simp
theorem tx_app (a b : List UInt8) : tx a ++ tx b = tx (a ++ b) := by
  apply ByteArray.ext; simp [tx]
theorem addStr_tx (a b : List UInt8) (h : a.length + b.length ≤ 4611686018427387904) : addStr (tx a) (tx b) = some (.v (.string (tx (a ++ b)))) := by
  unfold addStr
  rw [tx_size, tx_size, if_pos h, tx_app]
theorem extract_tx (l : List UInt8) (a b : Nat) : (tx l).extract a b = tx ((l.drop a).take (b - a)) := by
  apply ByteArray.ext
  simp [tx, ByteArray.data_extract, List.extract_eq_take_drop]
theorem sliceStr_tx (l : List UInt8) (a b : Int) (h : 0 ≤ a ∧ a ≤ b ∧ b ≤ l.length) : sliceStr (tx l) a b = some (.v (.string (tx ((l.drop a.toNat).take (b.toNat - a.toNat))))) := by
  unfold sliceStr
  rw [tx_size, if_pos h, extract_tx]
theorem indexStr_tx (l : List UInt8) (k : IntKind) (i : Nat) (h : i < l.length) : indexStr (.v (.string (tx l))) (.v (.int k i)) = some (u8A (l.getD i 0)) := by
  have hs : i < (tx l).size := by rw [tx_size]; exact h
  simp only [indexStr]
  rw [dif_pos ⟨by omega, by simpa using hs⟩]
  unfold u8A
  congr 3
  simp [tx, h, List.getD_eq_getElem?_getD]
  rfl
theorem indexStr_tx0 (c : UInt8) (l : List UInt8) (k : IntKind) : indexStr (.v (.string (tx (c :: l)))) (.v (.int k 0)) = some (u8A c) := indexStr_tx (c :: l) k 0 (by simp)
theorem lenT_tx (H : Hp) (l : List UInt8) : lenT H (some .string) (some (.v (.string (tx l)))) = some (.av (.v (.int .i64 l.length))) := by rw [lenT_str, tx_size]
theorem u8_v (b : UInt8) : AV.v (.int .u8 b.toNat) = u8A b := rfl
theorem flat_le2 {α : Type} {f : α → List AV} {n : Nat} (hn : ∀ x, (f x).length = n) {x : α} {l : List α} {i : Nat} (h : l[i]? = some x) : i * n + n ≤ (l.map (fun a => (f a).length)).sum := by
  have := flat_le hn h
  rwa [List.length_flatMap] at this
end Go.Mx
