import Derived.Test.YtidmkmipgclfjaaPA
namespace Go.Proofs.Ytidmkmipgclfjaa.P
open Go.Mx
set_option linter.unusedVariables false
set_option linter.unusedSimpArgs false

def alpha : ByteArray := ⟨#[65, 66, 67, 68, 69, 70, 71, 72, 73, 74, 75, 76, 77, 78, 79, 80, 81, 82, 83, 84, 85, 86, 87, 88, 89, 90, 97, 98, 99, 100, 101, 102, 103, 104, 105, 106, 107, 108, 109, 110, 111, 112, 113, 114, 115, 116, 117, 118, 119, 120, 121, 122, 48, 49, 50, 51, 52, 53, 54, 55, 56, 57, 43, 47]⟩
def letter (n : Nat) : UInt8 := alpha.data.getD n 0

theorem alpha_at (k : IntKind) (i : Int) (h : 0 ≤ i ∧ i < 64) :
    indexStr (.v (.string ⟨#[65, 66, 67, 68, 69, 70, 71, 72, 73, 74, 75, 76, 77, 78, 79, 80, 81, 82, 83, 84, 85, 86, 87, 88, 89, 90, 97, 98, 99, 100, 101, 102, 103, 104, 105, 106, 107, 108, 109, 110, 111, 112, 113, 114, 115, 116, 117, 118, 119, 120, 121, 122, 48, 49, 50, 51, 52, 53, 54, 55, 56, 57, 43, 47]⟩)) (.v (.int k i)) = some (u8A (letter i.toNat)) := by
  have hs : i.toNat < alpha.size := by have : alpha.size = 64 := by decide
                                       omega
  show indexStr (.v (.string alpha)) (.v (.int k i)) = _
  simp only [indexStr]
  rw [dif_pos ⟨h.1, hs⟩]
  unfold u8A letter
  have : alpha.data.getD i.toNat 0 = alpha[i.toNat]'hs := by
    rw [Array.getD_eq_getD_getElem?, Array.getElem?_eq_getElem (by exact hs)]
    rfl
  rw [this]

/-- Four letters of three bytes. -/
def quad (n : Nat) : List UInt8 := [letter (n / 262144 % 64), letter (n / 4096 % 64), letter (n / 64 % 64), letter (n % 64)]
theorem quad_length (n : Nat) : (quad n).length = 4 := rfl
def encB : List UInt8 → List UInt8
  | [] => []
  | [a] => (quad (a.toNat * 65536)).take 2
  | [a, b] => (quad (a.toNat * 65536 + b.toNat * 256)).take 3
  | a :: b :: c :: r => quad (a.toNat * 65536 + b.toNat * 256 + c.toNat) ++ encB r

theorem encB_length : ∀ (l : List UInt8), ((encB l).length : Int) = sizeB l.length
  | [] => by simp [encB, sizeB]
  | [a] => by simp [encB, quad, sizeB]
  | [a, b] => by simp [encB, quad, sizeB]
  | a :: b :: c :: r => by
    have ih := encB_length r
    have e : (encB (a :: b :: c :: r)).length = 4 + (encB r).length := by simp [encB, quad]; omega
    rw [e]
    simp only [List.length_cons]
    unfold sizeB at ih ⊢
    generalize r.length = m at ih ⊢
    by_cases h1 : (m : Int) ≤ 0
    · rw [if_pos h1] at ih
      rw [if_neg (by omega)]
      split <;> omega
    · rw [if_neg h1] at ih
      rw [if_neg (by omega)]
      split <;> split at ih <;> omega

def n3 (r : List UInt8) : Nat := (r.getD 0 0).toNat * 65536 + (r.getD 1 0).toNat * 256 + (r.getD 2 0).toNat
theorem encB_step {r : List UInt8} (h : 0 < r.length) : encB r = (quad (n3 r)).take (min r.length 3 + 1) ++ encB (r.drop 3) := by
  rcases r with _ | ⟨a, _ | ⟨b, _ | ⟨c, r⟩⟩⟩
  · simp at h
  · simp [encB, n3, quad]
  · simp [encB, n3, quad]
  · simp [encB, n3, quad]
theorem copy3 (r : List UInt8) : splice [AV.v (.int .u8 0), .v (.int .u8 0), .v (.int .u8 0)] 0 (List.take (min r.length 3) (List.map u8A r)) = [u8A (r.getD 0 0), u8A (r.getD 1 0), u8A (r.getD 2 0)] := by
  rcases r with _ | ⟨a, _ | ⟨b, _ | ⟨c, r⟩⟩⟩
  · rfl
  · rfl
  · rfl
  · rw [show min (a :: b :: c :: r).length 3 = 3 from by simp]; rfl

def encKeeps : List (Nat × Keep) := [(2, ⟨[0, 3], [], []⟩), (7, ⟨[0, 3, 5, 6, 32, 33], [], []⟩)]

end Go.Proofs.Ytidmkmipgclfjaa.P
