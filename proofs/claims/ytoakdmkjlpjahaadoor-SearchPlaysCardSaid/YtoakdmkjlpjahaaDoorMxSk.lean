/-
  The abstract machine: bits of small whole numbers.
-/
import Derived.Test.YtoakdmkjlpjahaaDoorMxR
namespace Go.Mx
open Go.RowKit
set_option linter.unusedVariables false

theorem andI_i32 (x y : Int) (m : Nat) (h : 0 ≤ x ∧ x < 2147483648) (hy : y = 2 ^ m - 1) (hm : m ≤ 32) : andI .i32 x y = x % 2 ^ m := by
  unfold andI
  show IntKind.i32.wrap ((BitVec.ofInt 32 x &&& BitVec.ofInt 32 y).toNat : Int) = _
  rw [bv_mask m (by simp; omega) hy hm]
  have := Int.emod_nonneg x (b := 2 ^ m) (Int.ne_of_gt (Int.pow_pos (by decide)))
  have h2 : x % 2 ^ m ≤ x := emod_le h.1 m
  exact wr_i32 ⟨by omega, by omega⟩
theorem orI_i32 (x y : Int) (m : Nat) (q : Int) (hx : x = q * 2 ^ m) (h0 : 0 ≤ q) (hn : x + y < 2147483648) (hy : 0 ≤ y ∧ y < 2 ^ m) (hm : m ≤ 32) : orI .i32 x y = x + y := by
  unfold orI
  show IntKind.i32.wrap ((BitVec.ofInt 32 x ||| BitVec.ofInt 32 y).toNat : Int) = _
  have hx0 : 0 ≤ x := by rw [hx]; exact Int.mul_nonneg h0 (Int.le_of_lt (Int.pow_pos (by decide)))
  rw [bv_or m q hx h0 (by simp; omega) hy hm]
  exact wr_i32 ⟨by omega, by omega⟩
theorem orI_u8 (x y : Int) (m : Nat) (q : Int) (hx : x = q * 2 ^ m) (h0 : 0 ≤ q) (hn : x + y < 256) (hy : 0 ≤ y ∧ y < 2 ^ m) (hm : m ≤ 8) : orI .u8 x y = x + y := by
  unfold orI
  show IntKind.u8.wrap ((BitVec.ofInt 8 x ||| BitVec.ofInt 8 y).toNat : Int) = _
  have hx0 : 0 ≤ x := by rw [hx]; exact Int.mul_nonneg h0 (Int.le_of_lt (Int.pow_pos (by decide)))
  rw [bv_or m q hx h0 (by simp; omega) hy hm]
  exact wr_u8 ⟨by omega, by omega⟩
theorem andNotI_all (x : Int) : andNotI .i32 x (-1) = 0 := by
  unfold andNotI
  show IntKind.i32.wrap ((BitVec.ofInt 32 x &&& ~~~ BitVec.ofInt 32 (-1)).toNat : Int) = 0
  have : ~~~ BitVec.ofInt 32 (-1) = 0#32 := by decide
  rw [this]
  simp
  rfl
end Go.Mx
