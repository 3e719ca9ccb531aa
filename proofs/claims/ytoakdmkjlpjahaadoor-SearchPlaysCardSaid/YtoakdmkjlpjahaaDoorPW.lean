import Derived.Test.YtoakdmkjlpjahaaDoorPB
import Derived.Test.YtoakdmkjlpjahaaDoorMxSk
import Derived.Test.YtoakdmkjlpjahaaDoorMxSi
import Derived.Test.YtoakdmkjlpjahaaDoorPT
import Derived.Test.YtoakdmkjlpjahaaDoorPH
import Derived.Test.YtoakdmkjlpjahaaDoorPG
namespace Go.Proofs.YtoakdmkjlpjahaaDoor
open Go.Mx
set_option linter.unusedVariables false
set_option linter.unusedSimpArgs false
set_option linter.unnecessarySimpa false
set_option maxRecDepth 100000

/-! ### The document's letters: agoraref01.Letter, Rune -/
/-- Is a number a letter's? -/
def isL (c : Nat) : Bool := decide (c < 55296) || (decide (57343 < c) && decide (c ≤ 1114111))
theorem isletter_sp (c : Nat) (H : Hp) (Q : AV → Hp → Prop) (h : Q (.v (.bool (isL c))) H) : Sp Tryd.prog 78 [.v (.int .i64 (c : Int))] Q H := by
  refine Sp.body [] ⟨[], [], []⟩ [] mo Tryd.func78 rfl (Nat.le_of_ble_eq_true rfl) (by kernel_rfl) ?_
  have a0 : (0 : Int) ≤ (c : Int) := by omega
  by_cases h1 : c ≤ 1114111
  · have a1 : (c : Int) ≤ 1114111 := by omega
    by_cases h2 : c < 55296
    · have a2 : (c : Int) < 55296 := by omega
      have : isL c = true := by simp [isL, h2]
      rw [this] at h
      simp [ev_seq, ev_ret, ev_region2, evOps_nil, evOps_cons, opG_none, opG_some, opJ, opU_ft, opU_ff, isU_bool, opK_eq, opA_move, opA_assign, opA_pick, opA_bin, putO_some, putH_lt, putV_lt, condB_true, binT_some, binA, avO_some, pickT, io_lss, io_leq, io_geq, opS, opV, Go.Mx.look, fr0, argSlots, seqK, Fr.known, retK, retA, resA, mapO, orO_some, eqT_some, tk3, a1, a2]
      exact h
    · have a2 : ¬ (c : Int) < 55296 := by omega
      by_cases h3 : 57343 < c
      · have a3 : (57343 : Int) < (c : Int) := by omega
        have : isL c = true := by simp [isL, h1, h3]
        rw [this] at h
        simp [ev_seq, ev_ret, ev_region2, evOps_nil, evOps_cons, opG_none, opG_some, opJ, opU_ft, opU_ff, isU_bool, opK_eq, opA_move, opA_assign, opA_pick, opA_bin, putO_some, putH_lt, condB_true, condB_false, binT_some, binA, avO_some, pickT, io_lss, io_leq, io_gtr, io_geq, opS, opV, Go.Mx.look, fr0, argSlots, seqK, Fr.known, retK, retA, resA, mapO, orO_some, eqT_some, tk3, a1, a2, a3]
        exact h
      · have a3 : ¬ (57343 : Int) < (c : Int) := by omega
        have : isL c = false := by simp [isL, h2, h3]
        rw [this] at h
        simp [ev_seq, ev_ret, ev_region2, evOps_nil, evOps_cons, opG_none, opG_some, opJ, opU_ft, opU_ff, isU_bool, opK_eq, opA_move, opA_assign, opA_pick, opA_bin, putO_some, putH_lt, condB_true, condB_false, binT_some, binA, avO_some, pickT, io_lss, io_leq, io_gtr, io_geq, opS, opV, Go.Mx.look, fr0, argSlots, seqK, Fr.known, retK, retA, resA, mapO, orO_some, eqT_some, tk3, a1, a2, a3]
        exact h
  · have a1 : ¬ (c : Int) ≤ 1114111 := by omega
    have : isL c = false := by simp [isL, h1]; omega
    rw [this] at h
    simp [ev_seq, ev_ret, ev_region2, evOps_nil, evOps_cons, opG_none, opG_some, opJ, opU_true, opU_ft, isU_undef, isU_bool, opK_eq, opA_move, opA_assign, opA_pick, opA_bin, putO_some, putH_lt, putV_lt, condB_true, condB_false, binT_some, binA, avO_some, pickT, io_leq, io_geq, opS, opV, Go.Mx.look, fr0, argSlots, seqK, Fr.known, retK, retA, resA, mapO, orO_some, eqT_some, tk3, a1]
    exact h
/-- What is gathered behind so many bytes. -/
def accR (c0 : Nat) (f : Nat → Nat) : Nat → Nat
  | 0 => c0
  | i + 1 => accR c0 f i * 64 + f (i + 1) % 64
theorem accR_lt {c0 : Nat} (f : Nat → Nat) (h : c0 < 32) : ∀ i, accR c0 f i < 32 * 64 ^ i
  | 0 => by simpa [accR] using h
  | i + 1 => by
    have := accR_lt f h i
    have h2 := Nat.mod_lt (f (i + 1)) (show 0 < 64 by omega)
    unfold accR
    rw [Nat.pow_succ]
    omega
/-- The byte at a place. -/
def byt (l : List UInt8) (at_ i : Nat) : Nat := (l.getD (at_ + i) 0).toNat
/-- The document's letter at a place. -/
def runeR (l : List UInt8) (at_ : Nat) : Nat × Nat := if dec (l.drop at_) = (65533, 1) then (0, 0) else dec (l.drop at_)
theorem dec_drop {l : List UInt8} {at_ : Nat} (h : at_ < l.length) : dec (l.drop at_) = Go.Lib.decodeN (l.length - at_) (byt l at_ 0) (byt l at_ 1) (byt l at_ 2) (byt l at_ 3) := by
  have hne : l.drop at_ = l.getD at_ 0 :: l.drop (at_ + 1) := by
    rw [List.drop_eq_getElem_cons h]
    simp [List.getD_eq_getElem?_getD, h]
  rw [hne, dec_cons]
  have e : (l.drop (at_ + 1)).length + 1 = l.length - at_ := by rw [List.length_drop]; omega
  rw [e]
  simp only [byt, List.getD_eq_getElem?_getD, List.getElem?_drop, Nat.add_zero, Nat.add_assoc, Nat.reduceAdd]
theorem byt_lt (l : List UInt8) (at_ i : Nat) : byt l at_ i < 256 := UInt8.toNat_lt _
/-- So many bytes follow. -/
def Fol (l : List UInt8) (at_ m : Nat) : Prop := ∀ j, 1 ≤ j → j ≤ m → at_ + j < l.length ∧ byt l at_ j / 64 = 2
theorem runeR_of {l : List UInt8} {at_ : Nat} (h : at_ < l.length) {x : Nat × Nat} (hx : Go.Lib.decodeN (l.length - at_) (byt l at_ 0) (byt l at_ 1) (byt l at_ 2) (byt l at_ 3) = x) : runeR l at_ = if x = (65533, 1) then (0, 0) else x := by
  unfold runeR
  rw [dec_drop h, hx]
theorem runeR_ascii {l : List UInt8} {at_ : Nat} (h : at_ < l.length) (hb : byt l at_ 0 < 128) : runeR l at_ = (byt l at_ 0, 1) := by
  rw [runeR_of h (x := (byt l at_ 0, 1)) (by unfold Go.Lib.decodeN; rw [if_pos hb]), if_neg (by simp; omega)]
theorem runeR_bad {l : List UInt8} {at_ : Nat} (h : at_ < l.length) (hb : (128 ≤ byt l at_ 0 ∧ byt l at_ 0 < 192) ∨ 248 ≤ byt l at_ 0) : runeR l at_ = (0, 0) := by
  have := byt_lt l at_ 0
  rw [runeR_of h (x := (65533, 1)) (by
    unfold Go.Lib.decodeN
    rw [if_neg (by omega), if_neg (by omega), if_neg (by omega), if_neg (by omega)]), if_pos rfl]
/-- The ways: how many bytes follow, what is the least, and what the first byte bears. -/
structure WayR (b0 m least c0 : Nat) : Prop where
  k : (m = 1 ∧ least = 128 ∧ 192 ≤ b0 ∧ b0 < 224 ∧ c0 = b0 % 32) ∨ (m = 2 ∧ least = 2048 ∧ 224 ≤ b0 ∧ b0 < 240 ∧ c0 = b0 % 16) ∨ (m = 3 ∧ least = 65536 ∧ 240 ≤ b0 ∧ b0 < 248 ∧ c0 = b0 % 8)
theorem runeR_way {l : List UInt8} {at_ m least c0 : Nat} (h : at_ < l.length) (hw : WayR (byt l at_ 0) m least c0) (hf : Fol l at_ m) :
    runeR l at_ = if least ≤ accR c0 (byt l at_) m ∧ isL (accR c0 (byt l at_) m) = true then (accR c0 (byt l at_) m, m + 1) else (0, 0) := by
  have h1 := byt_lt l at_ 1
  have h2 := byt_lt l at_ 2
  have h3 := byt_lt l at_ 3
  rcases hw.k with ⟨rfl, rfl, k1, k2, rfl⟩ | ⟨rfl, rfl, k1, k2, rfl⟩ | ⟨rfl, rfl, k1, k2, rfl⟩
  · have f1 := hf 1 (by omega) (by omega)
    have ea : accR (byt l at_ 0 % 32) (byt l at_) 1 = byt l at_ 0 % 32 * 64 + byt l at_ 1 % 64 := rfl
    rw [ea]
    by_cases hc : byt l at_ 0 % 32 * 64 + byt l at_ 1 % 64 ≥ 128
    · rw [runeR_of h (x := (byt l at_ 0 % 32 * 64 + byt l at_ 1 % 64, 2)) (by
        unfold Go.Lib.decodeN
        rw [if_neg (by omega), if_pos ⟨by omega, by omega, f1.2⟩, if_pos hc]), if_neg (by simp), if_pos ⟨hc, by simp [isL]; omega⟩]
    · rw [runeR_of h (x := (65533, 1)) (by
        unfold Go.Lib.decodeN
        rw [if_neg (by omega), if_pos ⟨by omega, by omega, f1.2⟩, if_neg hc]), if_pos rfl, if_neg (fun h => hc h.1)]
  · have f1 := hf 1 (by omega) (by omega)
    have f2 := hf 2 (by omega) (by omega)
    have ea : accR (byt l at_ 0 % 16) (byt l at_) 2 = byt l at_ 0 % 16 * 4096 + byt l at_ 1 % 64 * 64 + byt l at_ 2 % 64 := by simp only [accR, Nat.zero_add, Nat.reduceAdd]; omega
    rw [ea]
    by_cases hc : byt l at_ 0 % 16 * 4096 + byt l at_ 1 % 64 * 64 + byt l at_ 2 % 64 ≥ 2048 ∧ (byt l at_ 0 % 16 * 4096 + byt l at_ 1 % 64 * 64 + byt l at_ 2 % 64 < 55296 ∨ 57344 ≤ byt l at_ 0 % 16 * 4096 + byt l at_ 1 % 64 * 64 + byt l at_ 2 % 64 ∧ byt l at_ 0 % 16 * 4096 + byt l at_ 1 % 64 * 64 + byt l at_ 2 % 64 ≤ 1114111)
    · rw [runeR_of h (x := (byt l at_ 0 % 16 * 4096 + byt l at_ 1 % 64 * 64 + byt l at_ 2 % 64, 3)) (by
        unfold Go.Lib.decodeN
        rw [if_neg (by omega), if_neg (by omega), if_pos ⟨by omega, ⟨by omega, f1.2⟩, by omega, f2.2⟩, if_pos hc]), if_neg (by simp)]
      generalize byt l at_ 0 % 16 * 4096 + byt l at_ 1 % 64 * 64 + byt l at_ 2 % 64 = c at hc ⊢
      rw [if_pos ⟨hc.1, by simp [isL]; omega⟩]
    · rw [runeR_of h (x := (65533, 1)) (by
        unfold Go.Lib.decodeN
        rw [if_neg (by omega), if_neg (by omega), if_pos ⟨by omega, ⟨by omega, f1.2⟩, by omega, f2.2⟩, if_neg hc]), if_pos rfl]
      generalize byt l at_ 0 % 16 * 4096 + byt l at_ 1 % 64 * 64 + byt l at_ 2 % 64 = c at hc ⊢
      rw [if_neg (fun h => hc (by simp [isL] at h; omega))]
  · have f1 := hf 1 (by omega) (by omega)
    have f2 := hf 2 (by omega) (by omega)
    have f3 := hf 3 (by omega) (by omega)
    have ea : accR (byt l at_ 0 % 8) (byt l at_) 3 = byt l at_ 0 % 8 * 262144 + byt l at_ 1 % 64 * 4096 + byt l at_ 2 % 64 * 64 + byt l at_ 3 % 64 := by simp only [accR, Nat.zero_add, Nat.reduceAdd]; omega
    rw [ea]
    by_cases hc : byt l at_ 0 % 8 * 262144 + byt l at_ 1 % 64 * 4096 + byt l at_ 2 % 64 * 64 + byt l at_ 3 % 64 ≥ 65536 ∧ (byt l at_ 0 % 8 * 262144 + byt l at_ 1 % 64 * 4096 + byt l at_ 2 % 64 * 64 + byt l at_ 3 % 64 < 55296 ∨ 57344 ≤ byt l at_ 0 % 8 * 262144 + byt l at_ 1 % 64 * 4096 + byt l at_ 2 % 64 * 64 + byt l at_ 3 % 64 ∧ byt l at_ 0 % 8 * 262144 + byt l at_ 1 % 64 * 4096 + byt l at_ 2 % 64 * 64 + byt l at_ 3 % 64 ≤ 1114111)
    · rw [runeR_of h (x := (byt l at_ 0 % 8 * 262144 + byt l at_ 1 % 64 * 4096 + byt l at_ 2 % 64 * 64 + byt l at_ 3 % 64, 4)) (by
        unfold Go.Lib.decodeN
        rw [if_neg (by omega), if_neg (by omega), if_neg (by omega), if_pos ⟨by omega, ⟨by omega, f1.2⟩, ⟨by omega, f2.2⟩, by omega, f3.2⟩, if_pos hc]), if_neg (by simp)]
      generalize byt l at_ 0 % 8 * 262144 + byt l at_ 1 % 64 * 4096 + byt l at_ 2 % 64 * 64 + byt l at_ 3 % 64 = c at hc ⊢
      rw [if_pos ⟨hc.1, by simp [isL]; omega⟩]
    · rw [runeR_of h (x := (65533, 1)) (by
        unfold Go.Lib.decodeN
        rw [if_neg (by omega), if_neg (by omega), if_neg (by omega), if_pos ⟨by omega, ⟨by omega, f1.2⟩, ⟨by omega, f2.2⟩, by omega, f3.2⟩, if_neg hc]), if_pos rfl]
      generalize byt l at_ 0 % 8 * 262144 + byt l at_ 1 % 64 * 4096 + byt l at_ 2 % 64 * 64 + byt l at_ 3 % 64 = c at hc ⊢
      rw [if_neg (fun h => hc (by simp [isL] at h; omega))]
theorem runeR_cut {l : List UInt8} {at_ m least c0 j : Nat} (h : at_ < l.length) (hw : WayR (byt l at_ 0) m least c0) (hj : 1 ≤ j ∧ j ≤ m) (hf : ¬ (at_ + j < l.length ∧ byt l at_ j / 64 = 2)) : runeR l at_ = (0, 0) := by
  have : Go.Lib.decodeN (l.length - at_) (byt l at_ 0) (byt l at_ 1) (byt l at_ 2) (byt l at_ 3) = (65533, 1) := by
    unfold Go.Lib.decodeN
    rcases hw.k with ⟨rfl, rfl, k1, k2, rfl⟩ | ⟨rfl, rfl, k1, k2, rfl⟩ | ⟨rfl, rfl, k1, k2, rfl⟩
    · obtain rfl : j = 1 := by omega
      rw [if_neg (by omega), if_neg (by omega), if_neg (by omega), if_neg (by omega)]
    · rw [if_neg (by omega), if_neg (by omega), if_neg (by rcases (show j = 1 ∨ j = 2 by omega) with rfl | rfl <;> omega), if_neg (by omega)]
    · rw [if_neg (by omega), if_neg (by omega), if_neg (by omega), if_neg (by rcases (show j = 1 ∨ j = 2 ∨ j = 3 by omega) with rfl | rfl | rfl <;> omega)]
  rw [runeR_of h this, if_pos rfl]
end Go.Proofs.YtoakdmkjlpjahaaDoor

namespace Go.Proofs.YtoakdmkjlpjahaaDoor
open Go.Mx
set_option linter.unusedVariables false
set_option linter.unusedSimpArgs false
set_option linter.unnecessarySimpa false
set_option maxRecDepth 100000

theorem Fol.snoc {l : List UInt8} {a m : Nat} (h : Fol l a m) (h1 : a + (m + 1) < l.length) (h2 : byt l a (m + 1) / 64 = 2) : Fol l a (m + 1) := by
  intro j hj hm
  rcases Nat.lt_or_ge j (m + 1) with h3 | h3
  · exact h j hj (by omega)
  · obtain rfl : j = m + 1 := by omega
    exact ⟨h1, h2⟩
def RnInv (l : List UInt8) (a many least c0 : Nat) (H : Hp) (n : Nat) (xs : List AV) (H2 : Hp) : Prop :=
  ∃ i : Nat, i ≤ many ∧ n = many - i ∧ xs = [.v (.string (tx l)), .v (.int .i64 (a : Int)), .v (.int .i64 (accR c0 (byt l a) i : Int)), .v (.int .i64 (many : Int)), .v (.int .i64 (least : Int)), .v (.int .i64 ((i : Int) + 1))] ∧ Fol l a i ∧ H2 = H
theorem and192 (b : Nat) (hb : b < 256) : (andI .u8 (b : Int) 192 = 128) = (b / 64 = 2) := by
  have : ∀ b : Nat, b < 256 → decide (andI .u8 (b : Int) 192 = 128) = decide (b / 64 = 2) := by decide +kernel
  exact decide_eq_decide.1 (this b hb) |> propext
theorem orI_i64 (x y : Int) (m : Nat) (q : Int) (hx : x = q * 2 ^ m) (h0 : 0 ≤ q) (hn : x + y < 9223372036854775808) (hy : 0 ≤ y ∧ y < 2 ^ m) (hm : m ≤ 64) : orI .i64 x y = x + y := by
  unfold orI
  show IntKind.i64.wrap ((BitVec.ofInt 64 x ||| BitVec.ofInt 64 y).toNat : Int) = _
  have hx0 : 0 ≤ x := by rw [hx]; exact Int.mul_nonneg h0 (Int.le_of_lt (Int.pow_pos (by decide)))
  rw [bv_or m q hx h0 (by simp; omega) hy hm]
  exact wr_i64 ⟨by omega, by omega⟩
theorem shl_or (x y : Nat) (hx : x < 8388608) : orI .i64 (shlI .i64 (x : Int) 6) (IntKind.i64.wrap (andI .u8 ((y % 256 : Nat) : Int) 63)) = ((x * 64 + y % 256 % 64 : Nat) : Int) := by
  rw [andI_u8 _ 63 6 (by omega) (by rfl) (by omega), wr_i64 (x := ((y % 256 : Nat) : Int) % 2 ^ 6) (by omega)]
  rw [show (6 : Int) = ((6 : Nat) : Int) from rfl, shlI_eq _ _ _ (by decide), wr_i64 (by omega)]
  rw [orI_i64 _ _ 6 (x : Int) rfl (by omega) (by omega) (by omega) (by omega)]
  omega
set_option maxHeartbeats 4000000 in
theorem rune_sp (l : List UInt8) (a : Nat) (ha : a < l.length) (hl : l.length ≤ 1000000) (H : Hp) (Q : AV → Hp → Prop) (h : Q (.tup [.v (.int .i64 ((runeR l a).1 : Nat)), .v (.int .i64 ((runeR l a).2 : Nat))]) H) : Sp Tryd.prog 63 [.v (.string (tx l)), .v (.int .i64 (a : Int))] Q H := by
  refine Sp.body [(19, ⟨[0, 1, 6, 7, 8, 9], [], []⟩)] ⟨[], [], []⟩ [] mo Tryd.func63 rfl (Nat.le_of_ble_eq_true rfl) (by kernel_rfl) ?_
  have hb := byt_lt l a 0
  have ix0 : indexStr (.v (.string (tx l))) (.v (.int .i64 (a : Int))) = some (.v (.int .u8 (byt l a 0 : Nat))) := indexStr_tx l .i64 a ha
  have w0 : IntKind.i64.wrap ((byt l a 0 : Nat) : Int) = ((byt l a 0 : Nat) : Int) := wr_i64 (by omega)
  by_cases h0 : byt l a 0 < 128
  · have h0' : ((byt l a 0 : Nat) : Int) < 128 := by omega
    rw [runeR_ascii ha h0] at h
    simp [ev_seq, ev_cond2, ev_ret, ev_region2, evOps_nil, evOps_cons, opG_none, opA_move, opA_assign, opA_bin, opA_index, opA_convert, putO_some, putH_lt, condB_true, binT_some, binA, avO_some, indexT, convV, convT, io_lss, opS, opV, Go.Mx.look, fr0, argSlots, seqK, Fr.known, retK, retA, resA, mapO, convInt, orO_some, eqT_some, tk3, Tryd.underlying3, Tryd.underlying5, Tryd.underlying9, ix0, w0, h0']
    exact h
  have h0' : ¬ ((byt l a 0 : Nat) : Int) < 128 := by omega
  by_cases g1 : 192 ≤ byt l a 0 ∧ byt l a 0 < 224
  · have hw : WayR (byt l a 0) 1 128 (byt l a 0 % 32) := ⟨by omega⟩
    have g1 : (192 : Int) ≤ ((byt l a 0 : Nat) : Int) := by omega
    have g2 : ((byt l a 0 : Nat) : Int) < 224 := by omega
    have ga : andI .i64 ((byt l a 0 : Nat) : Int) 31 = ((byt l a 0 % 32 : Nat) : Int) := by
      rw [andI_i64 _ 31 5 (by omega) (by rfl) (by omega)]; omega
    have hlt := fun i => accR_lt (c0 := byt l a 0 % 32) (byt l a) (by omega) i
    simp [ev_skip, ev_seq, ev_cond2, ev_block, ev_region2, ev_loop, loopK, evOps_nil, evOps_cons, opG_none, opG_some, opJ, opU_ft, isU_bool, opK_eq, opA_move, opA_assign, opA_pick, opA_bin, opA_index, opA_convert, putO_some, putH_lt, condB_true, condB_false, binT_some, binA, avO_some, pickT, indexT, convV, convT, io_and, io_lss, io_geq, opS, opV, Go.Mx.look, fr0, argSlots, seqK, blockK, Fr.known, mapO, convInt, headK, getV, getB, chkP, firstReg, orO_some, eqT_some, tk3, Tryd.underlying3, Tryd.underlying5, Tryd.underlying9, ix0, w0, h0', g1, g2, ga]
    refine LoopC.intro (fun n xs _ H2 => RnInv l a 1 128 (byt l a 0 % 32) H n xs H2) 1 ⟨0, by omega, by omega, by simp [accR], fun j h1 h2 => by omega, rfl⟩ ?_
    rintro n xs bs H2 ⟨i, hi, rfl, rfl, hf, rfl⟩
    by_cases him : i < 1
    · have k1 : ((i : Int) + 1) ≤ 1 := by omega
      have k2 : IntKind.i64.wrap ((a : Int) + ((i : Int) + 1)) = ((a + (i + 1) : Nat) : Int) := by rw [wr_i64 (by omega)]; omega
      have k4 : IntKind.i64.wrap ((i : Int) + 1 + 1) = (((i + 1 : Nat) : Int)) + 1 := by rw [wr_i64 (by omega)]; omega
      by_cases hin : a + (i + 1) < l.length
      · have k3 : ¬ ((l.length : Int) ≤ ((a + (i + 1) : Nat) : Int)) := by omega
        have ix1 : indexStr (.v (.string (tx l))) (.v (.int .i64 ((a + (i + 1) : Nat) : Int))) = some (.v (.int .u8 (byt l a (i + 1) : Nat))) := indexStr_tx l .i64 (a + (i + 1)) hin
        have hb1 := byt_lt l a (i + 1)
        have an := and192 (byt l a (i + 1)) hb1
        generalize hpos : ((a + (i + 1) : Nat) : Int) = pos at k2 k3 ix1
        by_cases hc : byt l a (i + 1) / 64 = 2
        · have an1 : (andI .u8 ((byt l a (i + 1) : Nat) : Int) 192 = 128) = True := by rw [an]; simp [hc]
          have hacc := hlt i
          have hpw : 64 ^ i ≤ 64 ^ 2 := Nat.pow_le_pow_right (by omega) (by omega)
          have so : orI .i64 (shlI .i64 ((accR (byt l a 0 % 32) (byt l a) i : Nat) : Int) 6) (IntKind.i64.wrap (andI .u8 ((byt l a (i + 1) : Nat) : Int) 63)) = ((accR (byt l a 0 % 32) (byt l a) (i + 1) : Nat) : Int) := by
            have := shl_or (accR (byt l a 0 % 32) (byt l a) i) (byt l a (i + 1)) (by omega)
            rw [Nat.mod_eq_of_lt hb1] at this
            rw [this]; rfl
          have hf1 := hf.snoc hin hc
          obtain ⟨c1, hc1⟩ : ∃ c1, c1 = accR (byt l a 0 % 32) (byt l a) (i + 1) := ⟨_, rfl⟩
          rw [← hc1] at so
          simp [ev_skip, ev_seq, ev_cond2, ev_block, ev_region2, evOps_nil, evOps_cons, opG_none, opG_some, opJ, opU_ff, isU_bool, opK_eq, opA_move, opA_assign, opA_pick, opA_bin, opA_index, opA_len, opA_convert, putO_some, putH_lt, condB_true, condB_false, CondP_false, binT_some, binA, avO_some, pickT, lenT_str, indexT, convV, convT, io_add, io_shl, io_and, io_or, io_neq, io_leq, io_geq, opS, opV, Go.Mx.look, seqK, blockK, Fr.known, mapO, convInt, headK, getV, getB, chkP, mkFr, slotsOf, ptrsOf, boxesOf, orO_some, eqT_some, tk3, Tryd.underlying3, tk5, Tryd.underlying5, Tryd.underlying9, tx_size, k1, k2, k3, ix1, an1, so, k4]
          exact ⟨1 - (i + 1), by omega, i + 1, by omega, rfl, by subst hc1; simp, hf1, rfl⟩
        · have an1 : (andI .u8 ((byt l a (i + 1) : Nat) : Int) 192 = 128) = False := by rw [an]; simp [hc]
          rw [runeR_cut ha hw (j := i + 1) (by omega) (fun h => hc h.2)] at h
          simp [ev_skip, ev_seq, ev_cond2, ev_block, ev_ret, ev_region2, evOps_nil, evOps_cons, opG_none, opG_some, opJ, opU_ff, isU_bool, opK_eq, opA_move, opA_assign, opA_pick, opA_bin, opA_index, opA_len, putO_some, putH_lt, condB_true, condB_false, CondP_true, binT_some, binA, avO_some, pickT, lenT_str, indexT, io_add, io_and, io_neq, io_leq, io_geq, opS, opV, Go.Mx.look, seqK, blockK, Fr.known, retK, retA, resA, mapO, mkFr, slotsOf, ptrsOf, boxesOf, orO_some, eqT_some, tk3, tk5, Tryd.underlying9, tx_size, k1, k2, k3, ix1, an1]
          exact h
      · have k3 : ((l.length : Int) ≤ ((a + (i + 1) : Nat) : Int)) := by omega
        generalize hpos : ((a + (i + 1) : Nat) : Int) = pos at k2 k3
        rw [runeR_cut ha hw (j := i + 1) (by omega) (fun h => hin h.1)] at h
        simp [ev_skip, ev_seq, ev_cond2, ev_block, ev_ret, ev_region2, evOps_nil, evOps_cons, opG_none, opG_some, opJ, opU_ff, isU_bool, opA_move, opA_assign, opA_pick, opA_bin, opA_len, putO_some, putH_lt, putV_lt, condB_true, binT_some, binA, avO_some, pickT, lenT_str, io_add, io_leq, io_geq, opS, opV, Go.Mx.look, seqK, blockK, Fr.known, retK, retA, resA, mapO, mkFr, slotsOf, ptrsOf, boxesOf, orO_some, eqT_some, tk3, Tryd.underlying9, tx_size, k1, k2, k3]
        exact h
    · obtain rfl : i = 1 := by omega
      rw [runeR_way ha hw hf] at h
      generalize accR (byt l a 0 % 32) (byt l a) 1 = c at h
      by_cases q1 : c < 128
      · have q1' : (c : Int) < 128 := by omega
        rw [if_neg (by omega)] at h
        simp [ev_seq, ev_cond2, ev_exit, ev_ret, ev_region2, evOps_nil, evOps_cons, opG_none, opG_some, opJ, opU_ff, isU_bool, opA_move, opA_assign, opA_pick, opA_bin, putO_some, putH_lt, putV_lt, condB_true, condB_false, binT_some, binA, avO_some, pickT, io_lss, io_leq, opS, opV, Go.Mx.look, seqK, blockK, Fr.known, retK, retA, resA, mapO, mkFr, slotsOf, ptrsOf, boxesOf, orO_some, eqT_some, tk3, q1']
        exact h
      · have q1' : ¬ (c : Int) < 128 := by omega
        simp [ev_seq, ev_cond2, ev_exit, ev_region2, evOps_nil, evOps_cons, opG_none, opG_some, opJ, opU_ff, isU_bool, opK_eq, opA_move, opA_bin, opA_call, putO_some, putH_lt, condB_false, binT_some, binA, avO_some, io_lss, io_leq, opS, opV, Go.Mx.look, seqK, blockK, Fr.known, mapO, callA, mkFr, slotsOf, ptrsOf, boxesOf, orO_some, eqT_some, tk3, ok78, q1']
        refine isletter_sp c _ _ ?_
        cases hq : isL c with
        | true =>
          rw [if_pos ⟨by omega, hq⟩] at h
          simp [ev_skip, ev_seq, ev_cond2, ev_ret, ev_region2, evOps_nil, evOps_cons, opG_none, opG_some, opJ, opU_ff, isU_bool, opK_eq, opA_move, opA_assign, opA_pick, opA_bin, opA_un, putO_some, putH_lt, putC_lt, condB_false, binT_some, binA, avO_some, pickT, unT, io_add, opS, opV, Go.Mx.look, seqK, Fr.known, retK, retA, resA, mapO, unA, orO_some, eqT_some, tk3]
          exact h
        | false =>
          rw [if_neg (by rw [hq]; simp)] at h
          simp [ev_seq, ev_cond2, ev_ret, ev_region2, evOps_nil, evOps_cons, opG_none, opG_some, opJ, opU_ff, isU_bool, opK_eq, opA_assign, opA_pick, opA_un, putO_some, putH_lt, putC_lt, condB_true, condB_false, pickT, unT, opS, opV, Go.Mx.look, seqK, Fr.known, retK, retA, resA, mapO, unA]
          exact h
  by_cases g2 : 224 ≤ byt l a 0 ∧ byt l a 0 < 240
  · have hw : WayR (byt l a 0) 2 2048 (byt l a 0 % 16) := ⟨by omega⟩
    have g1 : (224 : Int) ≤ ((byt l a 0 : Nat) : Int) := by omega
    have g2 : ((byt l a 0 : Nat) : Int) < 240 := by omega
    have n1 : (192 : Int) ≤ ((byt l a 0 : Nat) : Int) := by omega
    have m1 : ¬ ((byt l a 0 : Nat) : Int) < 224 := by omega
    have ga : andI .i64 ((byt l a 0 : Nat) : Int) 15 = ((byt l a 0 % 16 : Nat) : Int) := by
      rw [andI_i64 _ 15 4 (by omega) (by rfl) (by omega)]; omega
    have hlt := fun i => accR_lt (c0 := byt l a 0 % 16) (byt l a) (by omega) i
    simp [ev_skip, ev_seq, ev_cond2, ev_block, ev_region2, ev_loop, loopK, evOps_nil, evOps_cons, opG_none, opG_some, opJ, opU_ft, isU_bool, opK_eq, opA_move, opA_assign, opA_pick, opA_bin, opA_index, opA_convert, putO_some, putH_lt, condB_true, condB_false, binT_some, binA, avO_some, pickT, indexT, convV, convT, io_and, io_lss, io_geq, opS, opV, Go.Mx.look, fr0, argSlots, seqK, blockK, Fr.known, mapO, convInt, headK, getV, getB, chkP, firstReg, orO_some, eqT_some, tk3, Tryd.underlying3, Tryd.underlying5, Tryd.underlying9, ix0, w0, h0', g1, g2, ga, n1, m1]
    refine LoopC.intro (fun n xs _ H2 => RnInv l a 2 2048 (byt l a 0 % 16) H n xs H2) 2 ⟨0, by omega, by omega, by simp [accR], fun j h1 h2 => by omega, rfl⟩ ?_
    rintro n xs bs H2 ⟨i, hi, rfl, rfl, hf, rfl⟩
    by_cases him : i < 2
    · have k1 : ((i : Int) + 1) ≤ 2 := by omega
      have k2 : IntKind.i64.wrap ((a : Int) + ((i : Int) + 1)) = ((a + (i + 1) : Nat) : Int) := by rw [wr_i64 (by omega)]; omega
      have k4 : IntKind.i64.wrap ((i : Int) + 1 + 1) = (((i + 1 : Nat) : Int)) + 1 := by rw [wr_i64 (by omega)]; omega
      by_cases hin : a + (i + 1) < l.length
      · have k3 : ¬ ((l.length : Int) ≤ ((a + (i + 1) : Nat) : Int)) := by omega
        have ix1 : indexStr (.v (.string (tx l))) (.v (.int .i64 ((a + (i + 1) : Nat) : Int))) = some (.v (.int .u8 (byt l a (i + 1) : Nat))) := indexStr_tx l .i64 (a + (i + 1)) hin
        have hb1 := byt_lt l a (i + 1)
        have an := and192 (byt l a (i + 1)) hb1
        generalize hpos : ((a + (i + 1) : Nat) : Int) = pos at k2 k3 ix1
        by_cases hc : byt l a (i + 1) / 64 = 2
        · have an1 : (andI .u8 ((byt l a (i + 1) : Nat) : Int) 192 = 128) = True := by rw [an]; simp [hc]
          have hacc := hlt i
          have hpw : 64 ^ i ≤ 64 ^ 2 := Nat.pow_le_pow_right (by omega) (by omega)
          have so : orI .i64 (shlI .i64 ((accR (byt l a 0 % 16) (byt l a) i : Nat) : Int) 6) (IntKind.i64.wrap (andI .u8 ((byt l a (i + 1) : Nat) : Int) 63)) = ((accR (byt l a 0 % 16) (byt l a) (i + 1) : Nat) : Int) := by
            have := shl_or (accR (byt l a 0 % 16) (byt l a) i) (byt l a (i + 1)) (by omega)
            rw [Nat.mod_eq_of_lt hb1] at this
            rw [this]; rfl
          have hf1 := hf.snoc hin hc
          obtain ⟨c1, hc1⟩ : ∃ c1, c1 = accR (byt l a 0 % 16) (byt l a) (i + 1) := ⟨_, rfl⟩
          rw [← hc1] at so
          simp [ev_skip, ev_seq, ev_cond2, ev_block, ev_region2, evOps_nil, evOps_cons, opG_none, opG_some, opJ, opU_ff, isU_bool, opK_eq, opA_move, opA_assign, opA_pick, opA_bin, opA_index, opA_len, opA_convert, putO_some, putH_lt, condB_true, condB_false, CondP_false, binT_some, binA, avO_some, pickT, lenT_str, indexT, convV, convT, io_add, io_shl, io_and, io_or, io_neq, io_leq, io_geq, opS, opV, Go.Mx.look, seqK, blockK, Fr.known, mapO, convInt, headK, getV, getB, chkP, mkFr, slotsOf, ptrsOf, boxesOf, orO_some, eqT_some, tk3, Tryd.underlying3, tk5, Tryd.underlying5, Tryd.underlying9, tx_size, k1, k2, k3, ix1, an1, so, k4]
          exact ⟨2 - (i + 1), by omega, i + 1, by omega, rfl, by subst hc1; simp, hf1, rfl⟩
        · have an1 : (andI .u8 ((byt l a (i + 1) : Nat) : Int) 192 = 128) = False := by rw [an]; simp [hc]
          rw [runeR_cut ha hw (j := i + 1) (by omega) (fun h => hc h.2)] at h
          simp [ev_skip, ev_seq, ev_cond2, ev_block, ev_ret, ev_region2, evOps_nil, evOps_cons, opG_none, opG_some, opJ, opU_ff, isU_bool, opK_eq, opA_move, opA_assign, opA_pick, opA_bin, opA_index, opA_len, putO_some, putH_lt, condB_true, condB_false, CondP_true, binT_some, binA, avO_some, pickT, lenT_str, indexT, io_add, io_and, io_neq, io_leq, io_geq, opS, opV, Go.Mx.look, seqK, blockK, Fr.known, retK, retA, resA, mapO, mkFr, slotsOf, ptrsOf, boxesOf, orO_some, eqT_some, tk3, tk5, Tryd.underlying9, tx_size, k1, k2, k3, ix1, an1]
          exact h
      · have k3 : ((l.length : Int) ≤ ((a + (i + 1) : Nat) : Int)) := by omega
        generalize hpos : ((a + (i + 1) : Nat) : Int) = pos at k2 k3
        rw [runeR_cut ha hw (j := i + 1) (by omega) (fun h => hin h.1)] at h
        simp [ev_skip, ev_seq, ev_cond2, ev_block, ev_ret, ev_region2, evOps_nil, evOps_cons, opG_none, opG_some, opJ, opU_ff, isU_bool, opA_move, opA_assign, opA_pick, opA_bin, opA_len, putO_some, putH_lt, putV_lt, condB_true, binT_some, binA, avO_some, pickT, lenT_str, io_add, io_leq, io_geq, opS, opV, Go.Mx.look, seqK, blockK, Fr.known, retK, retA, resA, mapO, mkFr, slotsOf, ptrsOf, boxesOf, orO_some, eqT_some, tk3, Tryd.underlying9, tx_size, k1, k2, k3]
        exact h
    · obtain rfl : i = 2 := by omega
      rw [runeR_way ha hw hf] at h
      generalize accR (byt l a 0 % 16) (byt l a) 2 = c at h
      by_cases q1 : c < 2048
      · have q1' : (c : Int) < 2048 := by omega
        rw [if_neg (by omega)] at h
        simp [ev_seq, ev_cond2, ev_exit, ev_ret, ev_region2, evOps_nil, evOps_cons, opG_none, opG_some, opJ, opU_ff, isU_bool, opA_move, opA_assign, opA_pick, opA_bin, putO_some, putH_lt, putV_lt, condB_true, condB_false, binT_some, binA, avO_some, pickT, io_lss, io_leq, opS, opV, Go.Mx.look, seqK, blockK, Fr.known, retK, retA, resA, mapO, mkFr, slotsOf, ptrsOf, boxesOf, orO_some, eqT_some, tk3, q1']
        exact h
      · have q1' : ¬ (c : Int) < 2048 := by omega
        simp [ev_seq, ev_cond2, ev_exit, ev_region2, evOps_nil, evOps_cons, opG_none, opG_some, opJ, opU_ff, isU_bool, opK_eq, opA_move, opA_bin, opA_call, putO_some, putH_lt, condB_false, binT_some, binA, avO_some, io_lss, io_leq, opS, opV, Go.Mx.look, seqK, blockK, Fr.known, mapO, callA, mkFr, slotsOf, ptrsOf, boxesOf, orO_some, eqT_some, tk3, ok78, q1']
        refine isletter_sp c _ _ ?_
        cases hq : isL c with
        | true =>
          rw [if_pos ⟨by omega, hq⟩] at h
          simp [ev_skip, ev_seq, ev_cond2, ev_ret, ev_region2, evOps_nil, evOps_cons, opG_none, opG_some, opJ, opU_ff, isU_bool, opK_eq, opA_move, opA_assign, opA_pick, opA_bin, opA_un, putO_some, putH_lt, putC_lt, condB_false, binT_some, binA, avO_some, pickT, unT, io_add, opS, opV, Go.Mx.look, seqK, Fr.known, retK, retA, resA, mapO, unA, orO_some, eqT_some, tk3]
          exact h
        | false =>
          rw [if_neg (by rw [hq]; simp)] at h
          simp [ev_seq, ev_cond2, ev_ret, ev_region2, evOps_nil, evOps_cons, opG_none, opG_some, opJ, opU_ff, isU_bool, opK_eq, opA_assign, opA_pick, opA_un, putO_some, putH_lt, putC_lt, condB_true, condB_false, pickT, unT, opS, opV, Go.Mx.look, seqK, Fr.known, retK, retA, resA, mapO, unA]
          exact h
  by_cases g3 : 240 ≤ byt l a 0 ∧ byt l a 0 < 248
  · have hw : WayR (byt l a 0) 3 65536 (byt l a 0 % 8) := ⟨by omega⟩
    have g1 : (240 : Int) ≤ ((byt l a 0 : Nat) : Int) := by omega
    have g2 : ((byt l a 0 : Nat) : Int) < 248 := by omega
    have n1 : (192 : Int) ≤ ((byt l a 0 : Nat) : Int) := by omega
    have m1 : ¬ ((byt l a 0 : Nat) : Int) < 224 := by omega
    have n2 : (224 : Int) ≤ ((byt l a 0 : Nat) : Int) := by omega
    have m2 : ¬ ((byt l a 0 : Nat) : Int) < 240 := by omega
    have ga : andI .i64 ((byt l a 0 : Nat) : Int) 7 = ((byt l a 0 % 8 : Nat) : Int) := by
      rw [andI_i64 _ 7 3 (by omega) (by rfl) (by omega)]; omega
    have hlt := fun i => accR_lt (c0 := byt l a 0 % 8) (byt l a) (by omega) i
    simp [ev_skip, ev_seq, ev_cond2, ev_block, ev_region2, ev_loop, loopK, evOps_nil, evOps_cons, opG_none, opG_some, opJ, opU_ft, isU_bool, opK_eq, opA_move, opA_assign, opA_pick, opA_bin, opA_index, opA_convert, putO_some, putH_lt, condB_true, condB_false, binT_some, binA, avO_some, pickT, indexT, convV, convT, io_and, io_lss, io_geq, opS, opV, Go.Mx.look, fr0, argSlots, seqK, blockK, Fr.known, mapO, convInt, headK, getV, getB, chkP, firstReg, orO_some, eqT_some, tk3, Tryd.underlying3, Tryd.underlying5, Tryd.underlying9, ix0, w0, h0', g1, g2, ga, n1, m1, n2, m2]
    refine LoopC.intro (fun n xs _ H2 => RnInv l a 3 65536 (byt l a 0 % 8) H n xs H2) 3 ⟨0, by omega, by omega, by simp [accR], fun j h1 h2 => by omega, rfl⟩ ?_
    rintro n xs bs H2 ⟨i, hi, rfl, rfl, hf, rfl⟩
    by_cases him : i < 3
    · have k1 : ((i : Int) + 1) ≤ 3 := by omega
      have k2 : IntKind.i64.wrap ((a : Int) + ((i : Int) + 1)) = ((a + (i + 1) : Nat) : Int) := by rw [wr_i64 (by omega)]; omega
      have k4 : IntKind.i64.wrap ((i : Int) + 1 + 1) = (((i + 1 : Nat) : Int)) + 1 := by rw [wr_i64 (by omega)]; omega
      by_cases hin : a + (i + 1) < l.length
      · have k3 : ¬ ((l.length : Int) ≤ ((a + (i + 1) : Nat) : Int)) := by omega
        have ix1 : indexStr (.v (.string (tx l))) (.v (.int .i64 ((a + (i + 1) : Nat) : Int))) = some (.v (.int .u8 (byt l a (i + 1) : Nat))) := indexStr_tx l .i64 (a + (i + 1)) hin
        have hb1 := byt_lt l a (i + 1)
        have an := and192 (byt l a (i + 1)) hb1
        generalize hpos : ((a + (i + 1) : Nat) : Int) = pos at k2 k3 ix1
        by_cases hc : byt l a (i + 1) / 64 = 2
        · have an1 : (andI .u8 ((byt l a (i + 1) : Nat) : Int) 192 = 128) = True := by rw [an]; simp [hc]
          have hacc := hlt i
          have hpw : 64 ^ i ≤ 64 ^ 2 := Nat.pow_le_pow_right (by omega) (by omega)
          have so : orI .i64 (shlI .i64 ((accR (byt l a 0 % 8) (byt l a) i : Nat) : Int) 6) (IntKind.i64.wrap (andI .u8 ((byt l a (i + 1) : Nat) : Int) 63)) = ((accR (byt l a 0 % 8) (byt l a) (i + 1) : Nat) : Int) := by
            have := shl_or (accR (byt l a 0 % 8) (byt l a) i) (byt l a (i + 1)) (by omega)
            rw [Nat.mod_eq_of_lt hb1] at this
            rw [this]; rfl
          have hf1 := hf.snoc hin hc
          obtain ⟨c1, hc1⟩ : ∃ c1, c1 = accR (byt l a 0 % 8) (byt l a) (i + 1) := ⟨_, rfl⟩
          rw [← hc1] at so
          simp [ev_skip, ev_seq, ev_cond2, ev_block, ev_region2, evOps_nil, evOps_cons, opG_none, opG_some, opJ, opU_ff, isU_bool, opK_eq, opA_move, opA_assign, opA_pick, opA_bin, opA_index, opA_len, opA_convert, putO_some, putH_lt, condB_true, condB_false, CondP_false, binT_some, binA, avO_some, pickT, lenT_str, indexT, convV, convT, io_add, io_shl, io_and, io_or, io_neq, io_leq, io_geq, opS, opV, Go.Mx.look, seqK, blockK, Fr.known, mapO, convInt, headK, getV, getB, chkP, mkFr, slotsOf, ptrsOf, boxesOf, orO_some, eqT_some, tk3, Tryd.underlying3, tk5, Tryd.underlying5, Tryd.underlying9, tx_size, k1, k2, k3, ix1, an1, so, k4]
          exact ⟨3 - (i + 1), by omega, i + 1, by omega, rfl, by subst hc1; simp, hf1, rfl⟩
        · have an1 : (andI .u8 ((byt l a (i + 1) : Nat) : Int) 192 = 128) = False := by rw [an]; simp [hc]
          rw [runeR_cut ha hw (j := i + 1) (by omega) (fun h => hc h.2)] at h
          simp [ev_skip, ev_seq, ev_cond2, ev_block, ev_ret, ev_region2, evOps_nil, evOps_cons, opG_none, opG_some, opJ, opU_ff, isU_bool, opK_eq, opA_move, opA_assign, opA_pick, opA_bin, opA_index, opA_len, putO_some, putH_lt, condB_true, condB_false, CondP_true, binT_some, binA, avO_some, pickT, lenT_str, indexT, io_add, io_and, io_neq, io_leq, io_geq, opS, opV, Go.Mx.look, seqK, blockK, Fr.known, retK, retA, resA, mapO, mkFr, slotsOf, ptrsOf, boxesOf, orO_some, eqT_some, tk3, tk5, Tryd.underlying9, tx_size, k1, k2, k3, ix1, an1]
          exact h
      · have k3 : ((l.length : Int) ≤ ((a + (i + 1) : Nat) : Int)) := by omega
        generalize hpos : ((a + (i + 1) : Nat) : Int) = pos at k2 k3
        rw [runeR_cut ha hw (j := i + 1) (by omega) (fun h => hin h.1)] at h
        simp [ev_skip, ev_seq, ev_cond2, ev_block, ev_ret, ev_region2, evOps_nil, evOps_cons, opG_none, opG_some, opJ, opU_ff, isU_bool, opA_move, opA_assign, opA_pick, opA_bin, opA_len, putO_some, putH_lt, putV_lt, condB_true, binT_some, binA, avO_some, pickT, lenT_str, io_add, io_leq, io_geq, opS, opV, Go.Mx.look, seqK, blockK, Fr.known, retK, retA, resA, mapO, mkFr, slotsOf, ptrsOf, boxesOf, orO_some, eqT_some, tk3, Tryd.underlying9, tx_size, k1, k2, k3]
        exact h
    · obtain rfl : i = 3 := by omega
      rw [runeR_way ha hw hf] at h
      generalize accR (byt l a 0 % 8) (byt l a) 3 = c at h
      by_cases q1 : c < 65536
      · have q1' : (c : Int) < 65536 := by omega
        rw [if_neg (by omega)] at h
        simp [ev_seq, ev_cond2, ev_exit, ev_ret, ev_region2, evOps_nil, evOps_cons, opG_none, opG_some, opJ, opU_ff, isU_bool, opA_move, opA_assign, opA_pick, opA_bin, putO_some, putH_lt, putV_lt, condB_true, condB_false, binT_some, binA, avO_some, pickT, io_lss, io_leq, opS, opV, Go.Mx.look, seqK, blockK, Fr.known, retK, retA, resA, mapO, mkFr, slotsOf, ptrsOf, boxesOf, orO_some, eqT_some, tk3, q1']
        exact h
      · have q1' : ¬ (c : Int) < 65536 := by omega
        simp [ev_seq, ev_cond2, ev_exit, ev_region2, evOps_nil, evOps_cons, opG_none, opG_some, opJ, opU_ff, isU_bool, opK_eq, opA_move, opA_bin, opA_call, putO_some, putH_lt, condB_false, binT_some, binA, avO_some, io_lss, io_leq, opS, opV, Go.Mx.look, seqK, blockK, Fr.known, mapO, callA, mkFr, slotsOf, ptrsOf, boxesOf, orO_some, eqT_some, tk3, ok78, q1']
        refine isletter_sp c _ _ ?_
        cases hq : isL c with
        | true =>
          rw [if_pos ⟨by omega, hq⟩] at h
          simp [ev_skip, ev_seq, ev_cond2, ev_ret, ev_region2, evOps_nil, evOps_cons, opG_none, opG_some, opJ, opU_ff, isU_bool, opK_eq, opA_move, opA_assign, opA_pick, opA_bin, opA_un, putO_some, putH_lt, putC_lt, condB_false, binT_some, binA, avO_some, pickT, unT, io_add, opS, opV, Go.Mx.look, seqK, Fr.known, retK, retA, resA, mapO, unA, orO_some, eqT_some, tk3]
          exact h
        | false =>
          rw [if_neg (by rw [hq]; simp)] at h
          simp [ev_seq, ev_cond2, ev_ret, ev_region2, evOps_nil, evOps_cons, opG_none, opG_some, opJ, opU_ff, isU_bool, opK_eq, opA_assign, opA_pick, opA_un, putO_some, putH_lt, putC_lt, condB_true, condB_false, pickT, unT, opS, opV, Go.Mx.look, seqK, Fr.known, retK, retA, resA, mapO, unA]
          exact h
  rw [runeR_bad ha (by omega)] at h
  by_cases c1 : byt l a 0 < 192
  · have e1 : ¬ (192 : Int) ≤ ((byt l a 0 : Nat) : Int) := by omega
    have e2 : ¬ (224 : Int) ≤ ((byt l a 0 : Nat) : Int) := by omega
    have e3 : ¬ (240 : Int) ≤ ((byt l a 0 : Nat) : Int) := by omega
    simp [ev_skip, ev_seq, ev_cond2, ev_block, ev_ret, ev_region2, evOps_nil, evOps_cons, opG_none, opG_some, opJ, opU_ft, isU_bool, opA_move, opA_assign, opA_pick, opA_bin, opA_index, opA_convert, putO_some, putH_lt, putV_lt, condB_false, binT_some, binA, avO_some, pickT, indexT, convV, convT, io_lss, io_geq, opS, opV, Go.Mx.look, fr0, argSlots, seqK, blockK, Fr.known, retK, retA, resA, mapO, convInt, orO_some, eqT_some, tk3, Tryd.underlying3, Tryd.underlying5, Tryd.underlying9, ix0, w0, h0', e1, e2, e3]
    exact h
  · have e1 : (192 : Int) ≤ ((byt l a 0 : Nat) : Int) := by omega
    have e2 : (224 : Int) ≤ ((byt l a 0 : Nat) : Int) := by omega
    have e3 : (240 : Int) ≤ ((byt l a 0 : Nat) : Int) := by omega
    have f1 : ¬ ((byt l a 0 : Nat) : Int) < 224 := by omega
    have f2 : ¬ ((byt l a 0 : Nat) : Int) < 240 := by omega
    have f3 : ¬ ((byt l a 0 : Nat) : Int) < 248 := by omega
    simp [ev_skip, ev_seq, ev_cond2, ev_block, ev_ret, ev_region2, evOps_nil, evOps_cons, opG_none, opG_some, opJ, opU_ft, isU_bool, opK_eq, opA_move, opA_assign, opA_pick, opA_bin, opA_index, opA_convert, putO_some, putH_lt, condB_true, condB_false, binT_some, binA, avO_some, pickT, indexT, convV, convT, io_lss, io_geq, opS, opV, Go.Mx.look, fr0, argSlots, seqK, blockK, Fr.known, retK, retA, resA, mapO, convInt, orO_some, eqT_some, tk3, Tryd.underlying3, Tryd.underlying5, Tryd.underlying9, ix0, w0, h0', e1, e2, e3, f1, f2, f3]
    exact h
end Go.Proofs.YtoakdmkjlpjahaaDoor

namespace Go.Proofs.YtoakdmkjlpjahaaDoor
open Go.Mx
set_option linter.unusedVariables false
set_option linter.unusedSimpArgs false
set_option linter.unnecessarySimpa false
set_option maxRecDepth 100000

/-! ### The document's Low, letter -/
def lowB (c : UInt8) : UInt8 := if 65 ≤ c.toNat ∧ c.toNat ≤ 90 then UInt8.ofNat (c.toNat + 32) else c
def lowL (l : List UInt8) : List UInt8 := l.map lowB
theorem lowB_nat (c : UInt8) : (lowB c).toNat = if 65 ≤ c.toNat ∧ c.toNat ≤ 90 then c.toNat + 32 else c.toNat := by
  unfold lowB
  split
  · rename_i h
    rw [UInt8.toNat_ofNat']; omega
  · rfl
def LowInv (l : List UInt8) (H : Hp) (n : Nat) (xs : List AV) (H2 : Hp) : Prop :=
  ∃ i : Nat, i ≤ l.length ∧ n = l.length - i ∧ xs = [.v (.string (tx l)), .v (.string (tx (lowL (l.take i)))), .v (.int .i64 (i : Int))] ∧ H2 = H
theorem low_sp (l : List UInt8) (hl : l.length ≤ 1000000) (H : Hp) (Q : AV → Hp → Prop) (h : Q (.v (.string (tx (lowL l)))) H) : Sp Tryd.prog 48 [.v (.string (tx l))] Q H := by
  refine Sp.body [(3, ⟨[0, 3, 4], [], []⟩)] ⟨[], [], []⟩ [] mo Tryd.func48 rfl (Nat.le_of_ble_eq_true rfl) (by kernel_rfl) ?_
  simp [ev_seq, ev_block, ev_region2, ev_loop, loopK, evOps_nil, evOps_cons, opG_none, opA_assign, putO_some, putH_lt, opS, opV, Go.Mx.look, fr0, argSlots, seqK, mapO, headK, getV, getB, chkP, firstReg, mk_tx]
  refine LoopC.intro (fun n xs _ H2 => LowInv l H n xs H2) l.length ⟨0, by omega, by omega, by simp [lowL], rfl⟩ ?_
  rintro n xs bs H2 ⟨i, hi, rfl, rfl, rfl⟩
  by_cases hlt : i < l.length
  · have hlt' : (i : Int) < (l.length : Int) := by omega
    have ix := indexStr_tx l .i64 i hlt
    obtain ⟨c, hc⟩ : ∃ c, c = l.getD i 0 := ⟨_, rfl⟩
    rw [← hc] at ix
    have hget : l[i]? = some c := by rw [hc, List.getD_eq_getElem?_getD, List.getElem?_eq_getElem hlt]; rfl
    have hcn := UInt8.toNat_lt c
    have w1 : IntKind.i64.wrap ((i : Int) + 1) = (i : Int) + 1 := wr_i64 (by omega)
    have htk : lowL (l.take (i + 1)) = lowL (l.take i) ++ [lowB c] := by
      rw [List.take_add_one, hget]; simp [lowL]
    have hle : (lowL (l.take i)).length ≤ 1000000 := by simp [lowL]; omega
    have hcat := addStr_tx (lowL (l.take i)) [lowB c] (by simp; omega)
    have hnat := lowB_nat c
    have hby : ∀ d : UInt8, bytesOf [.v (.int .u8 (d.toNat : Int))] = some [d] := fun d => bytesOf_one d []
    have fin : ∀ H3, H3 = H2 → ∃ m, m < l.length - i ∧ LowInv l H2 m [.v (.string (tx l)), .v (.string (tx (lowL (l.take i) ++ [lowB c]))), .v (.int .i64 ((i : Int) + 1))] H3 := fun H3 e =>
      ⟨l.length - (i + 1), by omega, i + 1, by omega, rfl, by rw [htk]; simp, e⟩
    by_cases h1 : 65 ≤ c.toNat
    · have h1' : (65 : Int) ≤ (c.toNat : Int) := by omega
      by_cases h2 : c.toNat ≤ 90
      · have h2' : (c.toNat : Int) ≤ 90 := by omega
        rw [if_pos ⟨h1, h2⟩] at hnat
        have w2 : IntKind.u8.wrap ((c.toNat : Int) - 65) = (c.toNat : Int) - 65 := wr_u8 (by omega)
        have w3 : IntKind.u8.wrap ((c.toNat : Int) - 65 + 97) = ((lowB c).toNat : Int) := by rw [wr_u8 (by omega)]; omega
        simp [ev_skip, ev_seq, ev_cond2, ev_block, ev_region2, evOps_nil, evOps_cons, opG_none, opG_some, opJ, opU_ft, isU_bool, opK_eq, opA_move, opA_assign, opA_pick, opA_bin, opA_index, opA_len, opA_buildSlice, opA_convert, putO_some, putH_lt, condB_true, binT_some, binA, avO_some, pickT, lenT_str, indexT, buildSliceT, convV, convT, io_add, io_sub, io_lss, io_leq, io_geq, strOp, opS, opV, Go.Mx.look, seqK, blockK, Fr.known, mapO, strOf, cellsA_v, okPart_v, Value.oneCell', fillA, headK, getV, getB, chkP, mkFr, slotsOf, ptrsOf, boxesOf, bindO, orO_some, eqT_some, tk3, sz5, tk5, ze5, Tryd.underlying5, tk9, Tryd.underlying9, Tryd.underlying80, mk_tx, tx_size, hlt', ix, u8A, h1', h2', w2, w3, hby, hcat, w1]
        exact fin _ rfl
      · have h2' : ¬ (c.toNat : Int) ≤ 90 := by omega
        have hb : lowB c = c := by unfold lowB; rw [if_neg (fun h => h2 h.2)]
        rw [hb] at hcat fin
        simp [ev_skip, ev_seq, ev_cond2, ev_block, ev_region2, evOps_nil, evOps_cons, opG_none, opG_some, opJ, opU_ft, isU_bool, opK_eq, opA_move, opA_assign, opA_pick, opA_bin, opA_index, opA_len, opA_buildSlice, opA_convert, putO_some, putH_lt, condB_true, condB_false, binT_some, binA, avO_some, pickT, lenT_str, indexT, buildSliceT, convV, convT, io_add, io_lss, io_leq, io_geq, strOp, opS, opV, Go.Mx.look, seqK, blockK, Fr.known, mapO, strOf, cellsA_v, okPart_v, Value.oneCell', fillA, headK, getV, getB, chkP, mkFr, slotsOf, ptrsOf, boxesOf, bindO, orO_some, eqT_some, tk3, sz5, tk5, ze5, Tryd.underlying5, tk9, Tryd.underlying9, Tryd.underlying80, mk_tx, tx_size, hlt', ix, u8A, h1', h2', hby, hcat, w1]
        exact fin _ rfl
    · have h1' : ¬ (65 : Int) ≤ (c.toNat : Int) := by omega
      have hb : lowB c = c := by unfold lowB; rw [if_neg (fun h => h1 h.1)]
      rw [hb] at hcat fin
      simp [ev_skip, ev_seq, ev_cond2, ev_block, ev_region2, evOps_nil, evOps_cons, opG_none, opG_some, opJ, opU_ft, isU_bool, opA_move, opA_assign, opA_pick, opA_bin, opA_index, opA_len, opA_buildSlice, opA_convert, putO_some, putH_lt, putV_lt, condB_true, condB_false, binT_some, binA, avO_some, pickT, lenT_str, indexT, buildSliceT, convV, convT, io_add, io_lss, io_geq, strOp, opS, opV, Go.Mx.look, seqK, blockK, Fr.known, mapO, strOf, cellsA_v, okPart_v, Value.oneCell', fillA, headK, getV, getB, chkP, mkFr, slotsOf, ptrsOf, boxesOf, bindO, orO_some, eqT_some, tk3, sz5, tk5, ze5, Tryd.underlying5, tk9, Tryd.underlying9, Tryd.underlying80, mk_tx, tx_size, hlt', ix, u8A, h1', hby, hcat, w1]
      exact fin _ rfl
  · have hii : i = l.length := by omega
    subst hii
    have hlt' : ¬ ((l.length : Int) < (l.length : Int)) := by omega
    simp [ev_seq, ev_cond2, ev_exit, ev_ret, ev_region2, evOps_nil, evOps_cons, opG_none, opA_move, opA_assign, opA_bin, opA_len, putO_some, putH_lt, condB_false, binT_some, binA, avO_some, lenT_str, io_lss, opS, opV, Go.Mx.look, seqK, blockK, Fr.known, retK, retA, resA, mapO, mkFr, slotsOf, ptrsOf, boxesOf, orO_some, eqT_some, tk3, Tryd.underlying9, tx_size]
    exact h
/-- Is a letter a word's? -/
def letR (u : List UInt8) : Bool := decide (1 < u.length) || (decide (97 ≤ (u.getD 0 0).toNat) && decide ((u.getD 0 0).toNat ≤ 122)) || (decide (65 ≤ (u.getD 0 0).toNat) && decide ((u.getD 0 0).toNat ≤ 90)) || (decide (48 ≤ (u.getD 0 0).toNat) && decide ((u.getD 0 0).toNat ≤ 57)) || decide ((u.getD 0 0).toNat = 95)
theorem letR_sp (u : List UInt8) (hu : u ≠ []) (H : Hp) (Q : AV → Hp → Prop) (h : Q (.v (.bool (letR u))) H) : Sp Tryd.prog 49 [.v (.string (tx u))] Q H := by
  refine Sp.body [] ⟨[], [], []⟩ [] mo Tryd.func49 rfl (Nat.le_of_ble_eq_true rfl) (by kernel_rfl) ?_
  have hpos : 0 < u.length := List.length_pos_iff.2 hu
  have ix : indexStr (.v (.string (tx u))) (.v (.int .i64 0)) = some (u8A (u.getD 0 0)) := indexStr_tx u .i64 0 hpos
  have e95 : (((u.getD 0 0).toNat : Int) = 95) = ((u.getD 0 0).toNat = 95) := by apply propext; omega
  have e95b : (((u.getD 0 0).toNat : Int) == 95) = decide ((u.getD 0 0).toNat = 95) := by rw [Bool.eq_iff_iff]; simp; omega
  unfold letR at h
  generalize (u.getD 0 0) = c at ix e95 e95b h
  by_cases h1 : 1 < u.length
  · have h1' : (1 : Int) < (u.length : Int) := by omega
    simp [h1] at h
    simp [ev_seq, ev_ret, ev_region2, evOps_nil, evOps_cons, opG_none, opG_some, opJ, opU_true, opU_ff, isU_undef, isU_bool, opA_move, opA_assign, opA_pick, opA_bin, opA_index, opA_len, putO_some, putH_lt, putV_lt, condB_true, binT_some, binA, avO_some, pickT, lenT_str, indexT, io_gtr, opS, opV, Go.Mx.look, fr0, argSlots, seqK, Fr.known, retK, retA, resA, mapO, orO_some, eqT_some, tk3, Tryd.underlying9, tx_size, ix, u8A, h1']
    exact h
  have h1' : ¬ (1 : Int) < (u.length : Int) := by omega
  by_cases a1 : 97 ≤ c.toNat
  · have a1' : (97 : Int) ≤ (c.toNat : Int) := by omega
    have b1 : ¬ c.toNat ≤ 90 := by omega
    have b1' : ¬ (c.toNat : Int) ≤ 90 := by omega
    have b2 : 65 ≤ c.toNat := by omega
    have b2' : (65 : Int) ≤ (c.toNat : Int) := by omega
    have b3 : ¬ c.toNat ≤ 57 := by omega
    have b3' : ¬ (c.toNat : Int) ≤ 57 := by omega
    have b4 : 48 ≤ c.toNat := by omega
    have b4' : (48 : Int) ≤ (c.toNat : Int) := by omega
    have b5 : ¬ c.toNat = 95 := by omega
    by_cases a2 : c.toNat ≤ 122
    · have a2' : (c.toNat : Int) ≤ 122 := by omega
      simp [h1, a1, a2] at h
      simp [ev_seq, ev_ret, ev_region2, evOps_nil, evOps_cons, opG_none, opG_some, opJ, opU_true, opU_ft, opU_ff, isU_undef, isU_bool, opK_eq, opA_move, opA_assign, opA_pick, opA_bin, opA_index, opA_len, putO_some, putH_lt, putV_lt, condB_true, condB_false, binT_some, binA, avO_some, pickT, lenT_str, indexT, io_leq, io_gtr, io_geq, opS, opV, Go.Mx.look, fr0, argSlots, seqK, Fr.known, retK, retA, resA, mapO, orO_some, eqT_some, tk3, tk5, Tryd.underlying9, tx_size, ix, u8A, h1', a1', a2']
      exact h
    · have a2' : ¬ (c.toNat : Int) ≤ 122 := by omega
      simp [h1, a1, a2, b1, b2, b3, b4, b5] at h
      simp [ev_seq, ev_ret, ev_region2, evOps_nil, evOps_cons, opG_none, opG_some, opJ, opU_ft, opU_ff, isU_bool, opK_eq, opA_move, opA_assign, opA_pick, opA_bin, opA_index, opA_len, putO_some, putH_lt, condB_true, condB_false, binT_some, binA, avO_some, pickT, lenT_str, indexT, io_eql, io_leq, io_gtr, io_geq, opS, opV, Go.Mx.look, fr0, argSlots, seqK, Fr.known, retK, retA, resA, mapO, orO_some, eqT_some, tk3, tk5, Tryd.underlying9, tx_size, ix, u8A, h1', a1', a2', b1', b2', b3', b4', e95b, b5]
      exact h
  · have a1' : ¬ (97 : Int) ≤ (c.toNat : Int) := by omega
    by_cases b2 : 65 ≤ c.toNat
    · have b2' : (65 : Int) ≤ (c.toNat : Int) := by omega
      have b3 : ¬ c.toNat ≤ 57 := by omega
      have b3' : ¬ (c.toNat : Int) ≤ 57 := by omega
      have b4 : 48 ≤ c.toNat := by omega
      have b4' : (48 : Int) ≤ (c.toNat : Int) := by omega
      by_cases b1 : c.toNat ≤ 90
      · have b1' : (c.toNat : Int) ≤ 90 := by omega
        simp [h1, a1, b1, b2] at h
        simp [ev_seq, ev_ret, ev_region2, evOps_nil, evOps_cons, opG_none, opG_some, opJ, opU_true, opU_ft, opU_ff, isU_undef, isU_bool, opK_eq, opA_move, opA_assign, opA_pick, opA_bin, opA_index, opA_len, putO_some, putH_lt, putV_lt, condB_true, condB_false, binT_some, binA, avO_some, pickT, lenT_str, indexT, io_leq, io_gtr, io_geq, opS, opV, Go.Mx.look, fr0, argSlots, seqK, Fr.known, retK, retA, resA, mapO, orO_some, eqT_some, tk3, tk5, Tryd.underlying9, tx_size, ix, u8A, h1', a1', b1', b2']
        exact h
      · have b1' : ¬ (c.toNat : Int) ≤ 90 := by omega
        by_cases b5 : c.toNat = 95
        · simp [h1, b5] at h
          simp [ev_seq, ev_ret, ev_region2, evOps_nil, evOps_cons, opG_none, opG_some, opJ, opU_ft, opU_ff, isU_bool, opK_eq, opA_move, opA_assign, opA_pick, opA_bin, opA_index, opA_len, putO_some, putH_lt, putV_lt, condB_true, condB_false, binT_some, binA, avO_some, pickT, lenT_str, indexT, io_eql, io_leq, io_gtr, io_geq, opS, opV, Go.Mx.look, fr0, argSlots, seqK, Fr.known, retK, retA, resA, mapO, orO_some, eqT_some, tk3, tk5, Tryd.underlying9, tx_size, ix, u8A, h1', b5]
          exact h
        · simp [h1, a1, b1, b2, b3, b4, b5] at h
          simp [ev_seq, ev_ret, ev_region2, evOps_nil, evOps_cons, opG_none, opG_some, opJ, opU_ft, opU_ff, isU_bool, opK_eq, opA_move, opA_assign, opA_pick, opA_bin, opA_index, opA_len, putO_some, putH_lt, putV_lt, condB_true, condB_false, binT_some, binA, avO_some, pickT, lenT_str, indexT, io_eql, io_leq, io_gtr, io_geq, opS, opV, Go.Mx.look, fr0, argSlots, seqK, Fr.known, retK, retA, resA, mapO, orO_some, eqT_some, tk3, tk5, Tryd.underlying9, tx_size, ix, u8A, h1', a1', b1', b2', b3', b4', e95b, b5]
          exact h
    · have b2' : ¬ (65 : Int) ≤ (c.toNat : Int) := by omega
      have b5 : ¬ c.toNat = 95 := by omega
      by_cases b4 : 48 ≤ c.toNat
      · have b4' : (48 : Int) ≤ (c.toNat : Int) := by omega
        by_cases b3 : c.toNat ≤ 57
        · have b3' : (c.toNat : Int) ≤ 57 := by omega
          simp [h1, a1, b2, b3, b4] at h
          simp [ev_seq, ev_ret, ev_region2, evOps_nil, evOps_cons, opG_none, opG_some, opJ, opU_ft, opU_ff, isU_bool, opK_eq, opA_move, opA_assign, opA_pick, opA_bin, opA_index, opA_len, putO_some, putH_lt, putV_lt, condB_true, condB_false, binT_some, binA, avO_some, pickT, lenT_str, indexT, io_leq, io_gtr, io_geq, opS, opV, Go.Mx.look, fr0, argSlots, seqK, Fr.known, retK, retA, resA, mapO, orO_some, eqT_some, tk3, tk5, Tryd.underlying9, tx_size, ix, u8A, h1', a1', b2', b3', b4']
          exact h
        · have b3' : ¬ (c.toNat : Int) ≤ 57 := by omega
          simp [h1, a1, b2, b3, b4, b5] at h
          simp [ev_seq, ev_ret, ev_region2, evOps_nil, evOps_cons, opG_none, opG_some, opJ, opU_ft, opU_ff, isU_bool, opK_eq, opA_move, opA_assign, opA_pick, opA_bin, opA_index, opA_len, putO_some, putH_lt, putV_lt, condB_true, condB_false, binT_some, binA, avO_some, pickT, lenT_str, indexT, io_eql, io_leq, io_gtr, io_geq, opS, opV, Go.Mx.look, fr0, argSlots, seqK, Fr.known, retK, retA, resA, mapO, orO_some, eqT_some, tk3, tk5, Tryd.underlying9, tx_size, ix, u8A, h1', a1', b2', b3', b4', e95b, b5]
          exact h
      · have b4' : ¬ (48 : Int) ≤ (c.toNat : Int) := by omega
        simp [h1, a1, b2, b4, b5] at h
        simp [ev_seq, ev_ret, ev_region2, evOps_nil, evOps_cons, opG_none, opG_some, opJ, opU_ft, opU_ff, isU_bool, opK_eq, opA_move, opA_assign, opA_pick, opA_bin, opA_index, opA_len, putO_some, putH_lt, putV_lt, condB_false, binT_some, binA, avO_some, pickT, lenT_str, indexT, io_eql, io_gtr, io_geq, opS, opV, Go.Mx.look, fr0, argSlots, seqK, Fr.known, retK, retA, resA, mapO, orO_some, eqT_some, tk3, tk5, Tryd.underlying9, tx_size, ix, u8A, h1', a1', b2', b4', e95b, b5]
        exact h
end Go.Proofs.YtoakdmkjlpjahaaDoor

namespace Go.Proofs.YtoakdmkjlpjahaaDoor
open Go.Mx
set_option linter.unusedVariables false
set_option linter.unusedSimpArgs false
set_option linter.unnecessarySimpa false

/-! ### The document's letters are the program's -/
/-- The letters of a text. -/
def ltrF : Nat → LB → List LB
  | 0, _ => []
  | f + 1, l => if l = [] then [] else l.take (dec l).2 :: ltrF f (l.drop (dec l).2)
def ltrs (l : LB) : List LB := ltrF l.length l
theorem ltrF_fuel : ∀ (f g : Nat) (l : LB), l.length ≤ f → l.length ≤ g → ltrF f l = ltrF g l
  | 0, g, l, h, _ => by
    have : l = [] := List.length_eq_zero_iff.1 (by omega)
    subst this
    cases g <;> simp [ltrF]
  | f + 1, 0, l, _, h => by
    have : l = [] := List.length_eq_zero_iff.1 (by omega)
    subst this
    simp [ltrF]
  | f + 1, g + 1, l, h1, h2 => by
    unfold ltrF
    split
    · rfl
    · rename_i hne
      have := dec_pos l hne
      have hl : 0 < l.length := List.length_pos_iff.2 hne
      rw [ltrF_fuel f g _ (by rw [List.length_drop]; omega) (by rw [List.length_drop]; omega)]
theorem ltrs_nil : ltrs [] = [] := rfl
theorem ltrs_step (l : LB) (h : l ≠ []) : ltrs l = l.take (dec l).2 :: ltrs (l.drop (dec l).2) := by
  have hl : 0 < l.length := List.length_pos_iff.2 h
  have hp := dec_pos l h
  obtain ⟨f, hf⟩ : ∃ f, l.length = f + 1 := ⟨l.length - 1, by omega⟩
  unfold ltrs
  rw [hf]
  show (if l = [] then [] else l.take (dec l).2 :: ltrF f (l.drop (dec l).2)) = _
  rw [if_neg h, ltrF_fuel f (l.drop (dec l).2).length _ (by rw [List.length_drop]; omega) (Nat.le_refl _)]
theorem ltrs_ne : ∀ (n : Nat) (l : LB), l.length ≤ n → (ltrs l).length ≤ l.length ∧ ∀ u ∈ ltrs l, u ≠ [] ∧ u.length ≤ l.length
  | 0, l, h => by
    have : l = [] := List.length_eq_zero_iff.1 (by omega)
    subst this; simp [ltrs_nil]
  | n + 1, l, h => by
    by_cases hl : l = []
    · subst hl; simp [ltrs_nil]
    · have hp := dec_pos l hl
      have hle := dec_le l hl
      obtain ⟨h1, h2⟩ := ltrs_ne n (l.drop (dec l).2) (by rw [List.length_drop]; omega)
      rw [List.length_drop] at h1
      rw [ltrs_step l hl]
      refine ⟨by rw [List.length_cons]; exact Nat.le_trans (Nat.succ_le_succ h1) (by omega), fun u hu => ?_⟩
      rcases List.mem_cons.1 hu with rfl | hu
      · refine ⟨fun h0 => ?_, by rw [List.length_take]; omega⟩
        have := congrArg List.length h0
        rw [List.length_take, List.length_nil] at this
        omega
      · have := h2 u hu
        rw [List.length_drop] at this
        exact ⟨this.1, by omega⟩
/-- A letter, or what parts words. -/
def tokR (u : LB) : Tok := if letR u = true then .let_ u else .gap (decide (u = [42]))
theorem decN_low {m b0 b1 b2 b3 b1' b2' b3' : Nat} (h1 : b1' = b1 ∨ (b1 / 64 ≠ 2 ∧ b1' / 64 ≠ 2)) (h2 : b2' = b2 ∨ (b2 / 64 ≠ 2 ∧ b2' / 64 ≠ 2)) (h3 : b3' = b3 ∨ (b3 / 64 ≠ 2 ∧ b3' / 64 ≠ 2)) : Go.Lib.decodeN m b0 b1' b2' b3' = Go.Lib.decodeN m b0 b1 b2 b3 := by
  have q1 : (1 < m ∧ b1' / 64 = 2) ↔ (1 < m ∧ b1 / 64 = 2) := by
    rcases h1 with rfl | h1
    · exact Iff.rfl
    · exact ⟨fun h => absurd h.2 h1.2, fun h => absurd h.2 h1.1⟩
  have q2 : (2 < m ∧ b2' / 64 = 2) ↔ (2 < m ∧ b2 / 64 = 2) := by
    rcases h2 with rfl | h2
    · exact Iff.rfl
    · exact ⟨fun h => absurd h.2 h2.2, fun h => absurd h.2 h2.1⟩
  have q3 : (3 < m ∧ b3' / 64 = 2) ↔ (3 < m ∧ b3 / 64 = 2) := by
    rcases h3 with rfl | h3
    · exact Iff.rfl
    · exact ⟨fun h => absurd h.2 h3.2, fun h => absurd h.2 h3.1⟩
  have e1 : b1 / 64 = 2 → b1' = b1 := fun h => h1.elim id (fun q => absurd h q.1)
  have e2 : b2 / 64 = 2 → b2' = b2 := fun h => h2.elim id (fun q => absurd h q.1)
  have e3 : b3 / 64 = 2 → b3' = b3 := fun h => h3.elim id (fun q => absurd h q.1)
  unfold Go.Lib.decodeN
  by_cases c0 : b0 < 128
  · rw [if_pos c0, if_pos c0]
  · rw [if_neg c0, if_neg c0]
    by_cases c1 : b0 / 32 = 6 ∧ (1 < m ∧ b1 / 64 = 2)
    · rw [if_pos c1, if_pos ⟨c1.1, q1.2 c1.2⟩, e1 c1.2.2]
    · rw [if_neg c1, if_neg (fun h => c1 ⟨h.1, q1.1 h.2⟩)]
      by_cases c2 : b0 / 16 = 14 ∧ (1 < m ∧ b1 / 64 = 2) ∧ (2 < m ∧ b2 / 64 = 2)
      · rw [if_pos c2, if_pos ⟨c2.1, q1.2 c2.2.1, q2.2 c2.2.2⟩, e1 c2.2.1.2, e2 c2.2.2.2]
      · rw [if_neg c2, if_neg (fun h => c2 ⟨h.1, q1.1 h.2.1, q2.1 h.2.2⟩)]
        by_cases c3 : b0 / 8 = 30 ∧ (1 < m ∧ b1 / 64 = 2) ∧ (2 < m ∧ b2 / 64 = 2) ∧ (3 < m ∧ b3 / 64 = 2)
        · rw [if_pos c3, if_pos ⟨c3.1, q1.2 c3.2.1, q2.2 c3.2.2.1, q3.2 c3.2.2.2⟩, e1 c3.2.1.2, e2 c3.2.2.1.2, e3 c3.2.2.2.2]
        · rw [if_neg c3, if_neg (fun h => c3 ⟨h.1, q1.1 h.2.1, q2.1 h.2.2.1, q3.1 h.2.2.2⟩)]
theorem low_same (t : LB) (j : Nat) : ((lowL t).getD j 0).toNat = (t.getD j 0).toNat ∨ ((t.getD j 0).toNat / 64 ≠ 2 ∧ ((lowL t).getD j 0).toNat / 64 ≠ 2) := by
  have e : (lowL t).getD j 0 = lowB (t.getD j 0) := by
    unfold lowL
    rw [List.getD_eq_getElem?_getD, List.getD_eq_getElem?_getD, List.getElem?_map]
    cases t[j]? with
    | none => rfl
    | some c => rfl
  rw [e, lowB_nat]
  split
  · right; omega
  · left; rfl
theorem lowL_len (l : LB) : (lowL l).length = l.length := by simp [lowL]
theorem dec_low (c : UInt8) (t : LB) (hc : 128 ≤ c.toNat) : dec (lowL (c :: t)) = dec (c :: t) := by
  have hb : lowB c = c := by unfold lowB; rw [if_neg (by omega)]
  have e : lowL (c :: t) = c :: lowL t := by simp [lowL, hb]
  rw [e, dec_cons, dec_cons, lowL_len]
  exact decN_low (low_same t 0) (low_same t 1) (low_same t 2)
theorem enc_byte {c : Nat} (hc : c < 128) : Lib.encodeRune (c : Int) = [UInt8.ofNat c] := by
  unfold Lib.encodeRune
  rw [Lib.encodeRuneZ_one (by omega) (by omega)]
  simp
theorem decN_two {m b0 b1 b2 b3 : Nat} (h0 : 128 ≤ b0) (hv : ¬ ((Go.Lib.decodeN m b0 b1 b2 b3).1 = 65533 ∧ (Go.Lib.decodeN m b0 b1 b2 b3).2 = 1)) : 128 ≤ (Go.Lib.decodeN m b0 b1 b2 b3).1 ∧ 2 ≤ (Go.Lib.decodeN m b0 b1 b2 b3).2 := by
  unfold Go.Lib.decodeN at hv ⊢
  rw [if_neg (by omega)] at hv ⊢
  (repeat' split at hv) <;> (repeat' split) <;> simp_all <;> omega
theorem low_drop (l : LB) (n : Nat) : (lowL l).drop n = lowL (l.drop n) := by simp [lowL]
theorem tks_low : ∀ (n : Nat) (l : LB), l.length ≤ n → tks l = (ltrs (lowL l)).map tokR
  | 0, l, h => by
    have : l = [] := List.length_eq_zero_iff.1 (by omega)
    subst this; rfl
  | n + 1, l, h => by
    by_cases hl : l = []
    · subst hl; rfl
    · obtain ⟨c, t, rfl⟩ := List.exists_cons_of_ne_nil hl
      have hlow : lowL (c :: t) ≠ [] := by simp [lowL]
      have hp := dec_pos _ hl
      rw [tks_step _ hl, ltrs_step _ hlow, List.map_cons]
      by_cases hc : c.toNat < 128
      · have hd : dec (c :: t) = (c.toNat, 1) := dec_ascii c t hc
        have el : lowL (c :: t) = lowB c :: lowL t := by simp [lowL]
        have hn := lowB_nat c
        have hcn := UInt8.toNat_lt c
        have hlb : (lowB c).toNat = lowC c.toNat := by
          rw [hn]; unfold lowC; rfl
        have hlt : (lowB c).toNat < 128 := by rw [hn]; split <;> omega
        have hd2 : dec (lowL (c :: t)) = ((lowB c).toNat, 1) := by rw [el]; exact dec_ascii _ _ hlt
        have hu : (lowL (c :: t)).take 1 = [lowB c] := by rw [el]; rfl
        rw [hd2]
        show _ = tokR ((lowL (c :: t)).take 1) :: (ltrs ((lowL (c :: t)).drop 1)).map tokR
        rw [hu, hd, low_drop]
        show _ :: tks ((c :: t).drop 1) = _
        rw [tks_low n ((c :: t).drop 1) (by simp; simp at h; omega)]
        congr 1
        unfold tok1 tokR
        rw [hd]
        simp only
        have hlr : letR [lowB c] = letB (lowC c.toNat) 1 := by
          rw [← hlb]
          have hno : ¬ (65 ≤ (lowB c).toNat ∧ (lowB c).toNat ≤ 90) := by rw [hn]; split <;> omega
          have e0 : ([lowB c].getD 0 0) = lowB c := rfl
          unfold letR letB
          rw [e0]
          have b1 : decide (1 < [lowB c].length) = false := by simp
          have b2 : decide (128 ≤ (lowB c).toNat) = false := by simp; omega
          have b3 : (decide (65 ≤ (lowB c).toNat) && decide ((lowB c).toNat ≤ 90)) = false := by
            rw [Bool.eq_false_iff]; intro h2; simp at h2; exact hno ⟨h2.1, h2.2⟩
          rw [b1, b2, b3]
          simp
        rw [hlr, ← hlb, enc_byte hlt]
        have e1 : UInt8.ofNat (lowB c).toNat = lowB c := by simp
        rw [e1]
        have e2 : decide ((lowB c).toNat = 42) = decide ([lowB c] = [42]) := by
          apply decide_eq_decide.2
          constructor
          · intro h2
            have : lowB c = 42 := UInt8.toNat_inj.1 h2
            rw [this]
          · intro h2
            simp at h2; rw [h2]; rfl
        rw [e2]
      · have hc' : 128 ≤ c.toNat := by omega
        have hd := dec_low c t hc'
        rw [hd, low_drop, ← tks_low n _ (by rw [List.length_drop]; omega)]
        congr 1
        have hle := dec_le _ hlow
        rw [hd, lowL_len] at hle
        unfold tok1 tokR
        by_cases hv : (dec (c :: t)).1 = 65533 ∧ (dec (c :: t)).2 = 1
        · have e1 : dec (c :: t) = (65533, 1) := Prod.ext hv.1 hv.2
          rw [e1]
          have hb : lowB c = c := by unfold lowB; rw [if_neg (by omega)]
          have el : (lowL (c :: t)).take 1 = [c] := by simp [lowL, hb]
          show (if letB (lowC 65533) 1 = true then _ else _) = if letR ((lowL (c :: t)).take 1) = true then _ else Tok.gap (decide ((lowL (c :: t)).take 1 = [42]))
          rw [el]
          have f1 : letB (lowC 65533) 1 = false := by decide
          have f2 : letR [c] = false := by
            unfold letR
            have e0 : ([c].getD 0 0) = c := rfl
            rw [e0]
            simp
            omega
          have f3 : ¬ ([c] = ([42] : LB)) := by
            intro h2; simp at h2; subst h2; exact absurd hc' (by decide)
          rw [f1, f2, decide_eq_false f3]
          rfl
        · have h2 := decN_two (m := t.length + 1) (b1 := (t.getD 0 0).toNat) (b2 := (t.getD 1 0).toNat) (b3 := (t.getD 2 0).toNat) hc' (by rw [← dec_cons]; exact hv)
          rw [← dec_cons] at h2
          have hlowc : lowC (dec (c :: t)).1 = (dec (c :: t)).1 := by unfold lowC; rw [if_neg (by omega)]
          have hlen : ((lowL (c :: t)).take (dec (c :: t)).2).length = (dec (c :: t)).2 := by rw [List.length_take, lowL_len]; omega
          have f1 : letB (dec (c :: t)).1 (dec (c :: t)).2 = true := by
            unfold letB
            simp
            right
            exact ⟨h2.1, Decidable.not_and_iff_not_or_not.1 hv⟩
          have f2 : letR ((lowL (c :: t)).take (dec (c :: t)).2) = true := by
            unfold letR
            rw [hlen]
            simp
            omega
          rw [hlowc, if_pos f1, if_pos f2]
          congr 1
          have := Lib.encode_decode (lowL (c :: t)) hlow (by rw [← dec_L _ hlow, hd]; exact hv)
          rw [← dec_L _ hlow, hd] at this
          exact this
theorem splL_ltrs (l : LB) : splL l = grp ((ltrs (lowL l)).map tokR) [] := by
  rw [splL_grp, tks_low l.length l (Nat.le_refl _)]
end Go.Proofs.YtoakdmkjlpjahaaDoor

namespace Go.Proofs.YtoakdmkjlpjahaaDoor
open Go.Mx
set_option linter.unusedVariables false
set_option linter.unusedSimpArgs false
set_option linter.unnecessarySimpa false
set_option maxRecDepth 100000

/-! ### The document's Letters, Split, Words -/
theorem txC_cells (l : List LB) : ∀ c ∈ l.flatMap txC, Low 0 c := by
  intro c hc
  obtain ⟨x, _, hx⟩ := List.mem_flatMap.1 hc
  simp [txC] at hx; subst hx; simp
theorem rune_max {l : LB} {a : Nat} (h : a < l.length) : max 1 (runeR l a).2 = (dec (l.drop a)).2 := by
  have hne : l.drop a ≠ [] := by
    intro h0
    have := congrArg List.length h0
    rw [List.length_drop, List.length_nil] at this
    omega
  have hp := dec_pos _ hne
  unfold runeR
  split
  · rename_i h0; rw [h0]; rfl
  · omega
def LtInv (l : LB) (H : Hp) (n : Nat) (xs : List AV) (H2 : Hp) : Prop :=
  ∃ (i : Nat) (acc : List LB) (v : AV), i ≤ l.length ∧ n = l.length - i ∧ acc.length ≤ i ∧ acc ++ ltrs (l.drop i) = ltrs l ∧ xs = [.v (.string (tx l)), v, .v (.int .i64 (i : Int))] ∧ NewK 1 H H2 acc.length (acc.flatMap txC) v ∧ Same [] H H2
theorem letters_sp (l : LB) (hl : l.length ≤ 1000000) (H : Hp) (Q : AV → Hp → Prop) (h : Q (rowT (ltrs l)) H) : Sp Tryd.prog 47 [.v (.string (tx l))] Q H := by
  refine Sp.newK ?_
  refine Sp.body [(3, ⟨[0, 3, 4], [], []⟩)] ⟨[], [], []⟩ [] mo Tryd.func47 rfl (Nat.le_of_ble_eq_true rfl) (by kernel_rfl) ?_
  simp [ev_seq, ev_block, ev_region2, ev_loop, loopK, evOps_nil, evOps_cons, opG_none, opA_assign, putO_some, putH_lt, opS, opV, Go.Mx.look, fr0, argSlots, seqK, mapO, headK, getV, getB, chkP, firstReg]
  refine LoopC.intro (fun n xs _ H2 => LtInv l H n xs H2) l.length ⟨0, [], .v (.slice none 0 0), by omega, by omega, by simp, by simp, by simp, NewK.nil _ _ _, Same.refl _ _⟩ ?_
  rintro n xs bs H2 ⟨i, acc, v, hi, rfl, ha, hall, rfl, hk, hs⟩
  have hsz : (tx l).size = l.length := tx_size l
  by_cases hlt : i < l.length
  · have hlt' : (i : Int) < (l.length : Int) := by omega
    have hne : l.drop i ≠ [] := by
      intro h0
      have := congrArg List.length h0
      rw [List.length_drop, List.length_nil] at this
      omega
    have hp := dec_pos _ hne
    have hle := dec_le _ hne
    rw [List.length_drop] at hle
    have hmx := rune_max hlt
    have hstep := ltrs_step _ hne
    rw [List.drop_drop] at hstep
    simp [ev_skip, ev_seq, ev_cond2, ev_block, ev_region2, evOps_nil, evOps_cons, opG_none, opA_move, opA_bin, opA_len, opA_call, putO_some, putH_lt, condB_true, binT_some, binA, avO_some, lenT_str, io_lss, opS, opV, Go.Mx.look, seqK, Fr.known, mapO, callA, mkFr, slotsOf, ptrsOf, boxesOf, orO_some, eqT_some, tk3, Tryd.underlying9, ok63, hsz, hlt']
    refine rune_sp l i hlt hl _ _ ?_
    generalize (runeR l i).1 = c
    generalize (runeR l i).2 = k at hmx
    generalize hd : (dec (l.drop i)).2 = d at hp hle hmx hstep
    have hsl := sliceStr_tx l (i : Int) ((i + d : Nat) : Int) ⟨by omega, by omega, by omega⟩
    have e1 : (((i + d : Nat) : Int)).toNat - ((i : Int)).toNat = d := by omega
    have e2 : ((i : Int)).toNat = i := by omega
    rw [e1, e2] at hsl
    have hmx' : (if (k : Int) < 1 then (1 : Int) else (k : Int)) = (d : Int) := by split <;> omega
    have hmx2 : (if (1 : Int) < (k : Int) then (k : Int) else (1 : Int)) = (d : Int) := by split <;> omega
    have w1 : IntKind.i64.wrap ((i : Int) + (d : Int)) = ((i + d : Nat) : Int) := by rw [wr_i64 (by omega)]; omega
    generalize hpos : ((i + d : Nat) : Int) = pos at w1 hsl
    simp [ev_seq, ev_region2, evOps_nil, evOps_cons, opG_none, opA_move, opA_assign, opA_bin, opA_extract, opA_max, opA_buildSlice, opA_append, opA_slice, putO_some, putH_lt, putC_lt, binT_some, binA, avO_some, extractT, maxT, maxA, buildSliceT, appendT, bndT, sliceT, io_add, opS, opV, Go.Mx.look, seqK, mapO, extractA, cellsA_v, okPart_v, Value.oneCell', sliceA, fillA, bindO, srcTy, orO_some, eqT_some, tk3, sz9, by9, ze9, Tryd.underlying9, st23, Tryd.underlying23, hmx2, w1, hsl]
    refine hk.app (c := txC ((l.drop i).take d)) rfl hs.1 ⟨by omega, by omega⟩ ?_
    intro v' H3 fp hk3 hs3 hfp
    simp [ev_region2, evOps_nil, evOps_cons, opG_none, opA_move, opA_assign, opA_bin, putO_some, putH_lt, putC_lt, binT_some, binA, avO_some, io_add, opS, opV, Go.Mx.look, seqK, blockK, mapO, headK, getV, getB, chkP, orO_some, eqT_some, tk3, w1]
    exact ⟨l.length - (i + d), by omega, i + d, acc ++ [(l.drop i).take d], v', by omega, rfl, by simp; omega, by rw [← hall, hstep]; simp, by rw [hpos], by simpa using hk3, hs.new hs3 (fun j hj => (hfp j hj).1)⟩
  · have hii : i = l.length := by omega
    subst hii
    have hlt' : ¬ ((l.length : Int) < (l.length : Int)) := by omega
    have hfin : acc = ltrs l := by rw [← hall]; simp [ltrs_nil]
    simp [ev_seq, ev_cond2, ev_exit, ev_ret, ev_region2, evOps_nil, evOps_cons, opG_none, opA_move, opA_assign, opA_bin, opA_len, putO_some, putH_lt, condB_false, binT_some, binA, avO_some, lenT_str, io_lss, opS, opV, Go.Mx.look, seqK, blockK, Fr.known, retK, retA, resA, mapO, mkFr, slotsOf, ptrsOf, boxesOf, orO_some, eqT_some, tk3, Tryd.underlying9, hsz]
    rw [hfin] at hk
    exact ⟨hs, 1, _, _, hk, txC_cells _, h⟩
def SpInv (l : LB) (L : List LB) (cl : List AV) (H : Hp) (n : Nat) (xs : List AV) (H2 : Hp) : Prop :=
  ∃ (i : Nat) (acc : List W2) (cur : LB) (v : AV), i ≤ L.length + 1 ∧ n = L.length + 1 - i ∧ acc.length ≤ i ∧ cur.length ≤ i * l.length ∧
    (i ≤ L.length → acc ++ grp ((L.drop i).map tokR) cur = splL l) ∧ (L.length < i → acc = splL l) ∧
    xs = [.row false L.length cl, v, .v (.string (tx cur)), .v (.int .i64 (i : Int))] ∧ NewK 2 H H2 acc.length (acc.flatMap wdC) v ∧ Same [] H H2
theorem wdC_cells (l : List W2) : ∀ c ∈ l.flatMap wdC, Low 0 c := by
  intro c hc
  obtain ⟨x, _, hx⟩ := List.mem_flatMap.1 hc
  simp [wdC] at hx
  rcases hx with rfl | rfl <;> simp
theorem splitR_sp (l : LB) (hl : l.length ≤ 1000) (H : Hp) (Q : AV → Hp → Prop) (h : Q (rowW (splL l)) H) : Sp Tryd.prog 27 [.v (.string (tx l))] Q H := by
  refine Sp.newK ?_
  refine Sp.body [(5, ⟨[3, 4, 5, 6], [], []⟩)] ⟨[], [], []⟩ [] mo Tryd.func27 rfl (Nat.le_of_ble_eq_true rfl) (by kernel_rfl) ?_
  have hll := lowL_len l
  obtain ⟨hln, hlu⟩ := ltrs_ne _ (lowL l) (Nat.le_refl _)
  have hspl := splL_ltrs l
  have hc0 : ((tx ([] : LB)).toList = ([] : LB)) = True := by rw [tx_list]; simp
  simp [ev_seq, ev_region2, evOps_nil, evOps_cons, opG_none, opA_move, opA_assign, opA_call, putO_some, putH_lt, opS, opV, Go.Mx.look, fr0, argSlots, seqK, mapO, callA, ok48]
  refine low_sp l (by omega) _ _ ?_
  simp [evOps_cons, opG_none, opA_call, putC_lt, opS, opV, Go.Mx.look, mapO, callA, ok47]
  refine letters_sp (lowL l) (by omega) _ _ ?_
  unfold rowT
  have lc : ((ltrs (lowL l)).flatMap txC).length = (ltrs (lowL l)).length := by rw [flat_len txC_len, Nat.mul_one]
  have lg : ∀ {i : Nat} {w : LB}, (ltrs (lowL l))[i]? = some w → ((ltrs (lowL l)).flatMap txC)[i]? = some (.v (.string (tx w))) := fun {i w} hw => by
    rw [flat_st, List.getElem?_map]; simp [stC, hw]
  generalize (ltrs (lowL l)).flatMap txC = cl at lc lg ⊢
  simp [ev_seq, ev_block, ev_region2, ev_loop, loopK, evOps_nil, evOps_cons, opG_none, opA_assign, putO_some, putH_lt, putC_lt, opS, opV, Go.Mx.look, seqK, mapO, headK, getV, getB, chkP, firstReg]
  refine LoopC.intro (fun n xs _ H2 => SpInv l (ltrs (lowL l)) cl H n xs H2) ((ltrs (lowL l)).length + 1) ⟨0, [], [], .v (.slice none 0 0), by omega, by omega, by simp, by simp, fun _ => by simpa using hspl.symm, fun h => by omega, by simp [tx], NewK.nil _ _ _, Same.refl _ _⟩ ?_
  rintro n xs bs H2 ⟨i, acc, cur, v, hi, rfl, ha, hcl, hall, hend, rfl, hk, hs⟩
  have hmul : i * l.length ≤ 1001 * 1000 := Nat.mul_le_mul (by omega) hl
  generalize hL : ltrs (lowL l) = L at *
  by_cases hle : i ≤ L.length
  · have hle' : (i : Int) ≤ (L.length : Int) := by omega
    have hall := hall hle
    have w1 : IntKind.i64.wrap ((i : Int) + 1) = (i : Int) + 1 := wr_i64 (by omega)
    have hm1 : i * l.length ≤ (i + 1) * l.length := Nat.mul_le_mul_right _ (by omega)
    by_cases hlt : i < L.length
    · obtain ⟨u, hu⟩ : ∃ u, L[i]? = some u := ⟨_, List.getElem?_eq_getElem hlt⟩
      have hlt' : (i : Int) < (L.length : Int) := by omega
      have a1 := lg hu
      have a2 : i < cl.length := by omega
      have a3 : cl[i] = .v (.string (tx u)) := (List.getElem?_eq_some_iff.1 a1).2
      have hum := hlu u (List.mem_of_getElem? hu)
      have hdrop : L.drop i = u :: L.drop (i + 1) := by
        rw [List.drop_eq_getElem_cons hlt]
        congr 1
        exact (List.getElem?_eq_some_iff.1 hu).2
      rw [hdrop, List.map_cons] at hall
      simp [ev_skip, ev_seq, ev_cond2, ev_block, ev_region2, evOps_nil, evOps_cons, opG_none, opG_some, opJ, opU_ft, isU_bool, opK_eq, opA_move, opA_bin, opA_load, opA_indexAddr, opA_len, opA_call, putO_some, putH_lt, condB_true, binT_some, binA, avO_some, loadT, lenT_row, indexAddrT, io_lss, io_leq, opS, opV, Go.Mx.look, seqK, Fr.known, mapO, callA, partA, loadA, loadS, indexAddrA, mkFr, slotsOf, ptrsOf, boxesOf, orO_some, eqT_some, tk3, sz9, ag9, Tryd.underlying23, ok49, hle', hlt', a2, a3]
      refine letR_sp u hum.1 _ _ ?_
      cases hL1 : letR u with
      | true =>
        have ht : tokR u = .let_ u := by unfold tokR; rw [if_pos hL1]
        rw [ht] at hall
        simp only [grp] at hall
        have hcat := addStr_tx cur u (by omega)
        simp [ev_seq, ev_cond2, ev_exit, ev_region2, evOps_nil, evOps_cons, opG_none, opA_move, opA_assign, opA_pick, opA_bin, opA_load, opA_indexAddr, putO_some, putH_lt, putC_lt, condB_true, binT_some, binA, avO_some, pickT, loadT, indexAddrT, io_add, strOp, opS, opV, Go.Mx.look, seqK, blockK, Fr.known, mapO, partA, loadA, loadS, indexAddrA, headK, getV, getB, chkP, orO_some, eqT_some, tk3, sz9, ag9, tk9, Tryd.underlying23, hlt', a2, a3, hcat, w1]
        exact ⟨L.length + 1 - (i + 1), by omega, i + 1, acc, cur ++ u, v, by omega, rfl, by omega, by rw [List.length_append, Nat.add_mul, Nat.one_mul]; omega, fun _ => hall, fun h => by omega, by simp, hk, hs⟩
      | false =>
        have ht : tokR u = .gap (decide (u = [42])) := by unfold tokR; rw [if_neg (by rw [hL1]; simp)]
        rw [ht] at hall
        simp only [grp] at hall
        have h42b : ((tx u).toList == [42]) = decide (u = [42]) := by rw [tx_list]; rw [Bool.eq_iff_iff]; simp
        by_cases hc : cur = []
        · subst hc
          rw [if_pos rfl] at hall
          simp [ev_skip, ev_seq, ev_cond2, ev_region2, evOps_nil, evOps_cons, opG_none, opA_move, opA_assign, opA_pick, opA_bin, putO_some, putH_lt, putC_lt, condB_false, CondP_false, binT_some, binA, avO_some, pickT, io_add, strOp, opS, opV, Go.Mx.look, seqK, blockK, Fr.known, mapO, headK, getV, getB, chkP, orO_some, eqT_some, tk3, tk9, w1, hc0]
          exact ⟨L.length + 1 - (i + 1), by omega, i + 1, acc, [], v, by omega, rfl, by omega, by simp, fun _ => hall, fun h => by omega, by simp [tx], hk, hs⟩
        · rw [if_neg hc] at hall
          have hcn : ((tx cur).toList = ([] : LB)) = False := by rw [tx_list]; simp [hc]
          by_cases hst : u = [42]
          · rw [decide_eq_true hst] at hall h42b
            simp [ev_skip, ev_seq, ev_cond2, ev_region2, evOps_nil, evOps_cons, opG_none, opG_some, opJ, opU_ft, isU_bool, opK_eq, opA_move, opA_pick, opA_bin, opA_load, opA_indexAddr, opA_len, opA_buildSlice, opA_append, opA_build, putO_some, putH_lt, putC_lt, condB_true, condB_false, CondP_true, binT_some, binA, avO_some, pickT, loadT, lenT_row, indexAddrT, buildSliceT, appendT, repeatL_1, buildZ, partsZ, fillO, aggO, io_lss, strOp, opS, opV, Go.Mx.look, seqK, Fr.known, mapO, cellsA_v, cellsA_agg, okPart_v, okPart_agg, Value.oneCell', partA, loadA, loadS, indexAddrA, fillA, bindO, srcTy, orO_some, eqT_some, tk3, sz9, ag9, tk9, Tryd.underlying23, st57, Tryd.underlying57, sz60, by60, ze60, of60, hlt', a2, a3, hcn, h42b]
            refine hk.app (c := wdC (cur, true)) rfl hs.1 ⟨by omega, by omega⟩ ?_
            intro v' H3 fp hk3 hs3 hfp
            simp [ev_region2, evOps_nil, evOps_cons, opG_none, opA_move, opA_assign, opA_bin, putO_some, putH_lt, putC_lt, binT_some, binA, avO_some, io_add, opS, opV, Go.Mx.look, seqK, blockK, mapO, headK, getV, getB, chkP, orO_some, eqT_some, tk3, w1]
            exact ⟨L.length + 1 - (i + 1), by omega, i + 1, acc ++ [(cur, true)], [], v', by omega, rfl, by simp; omega, by simp, fun _ => by rw [← hall]; simp, fun h => by omega, by simp [tx], by simpa using hk3, hs.new hs3 (fun j hj => (hfp j hj).1)⟩
          · rw [decide_eq_false hst] at hall h42b
            simp [ev_skip, ev_seq, ev_cond2, ev_region2, evOps_nil, evOps_cons, opG_none, opG_some, opJ, opU_ft, isU_bool, opK_eq, opA_move, opA_pick, opA_bin, opA_load, opA_indexAddr, opA_len, opA_buildSlice, opA_append, opA_build, putO_some, putH_lt, putC_lt, condB_true, condB_false, CondP_true, binT_some, binA, avO_some, pickT, loadT, lenT_row, indexAddrT, buildSliceT, appendT, repeatL_1, buildZ, partsZ, fillO, aggO, io_lss, strOp, opS, opV, Go.Mx.look, seqK, Fr.known, mapO, cellsA_v, cellsA_agg, okPart_v, okPart_agg, Value.oneCell', partA, loadA, loadS, indexAddrA, fillA, bindO, srcTy, orO_some, eqT_some, tk3, sz9, ag9, tk9, Tryd.underlying23, st57, Tryd.underlying57, sz60, by60, ze60, of60, hlt', a2, a3, hcn, h42b]
            refine hk.app (c := wdC (cur, false)) rfl hs.1 ⟨by omega, by omega⟩ ?_
            intro v' H3 fp hk3 hs3 hfp
            simp [ev_region2, evOps_nil, evOps_cons, opG_none, opA_move, opA_assign, opA_bin, putO_some, putH_lt, putC_lt, binT_some, binA, avO_some, io_add, opS, opV, Go.Mx.look, seqK, blockK, mapO, headK, getV, getB, chkP, orO_some, eqT_some, tk3, w1]
            exact ⟨L.length + 1 - (i + 1), by omega, i + 1, acc ++ [(cur, false)], [], v', by omega, rfl, by simp; omega, by simp, fun _ => by rw [← hall]; simp, fun h => by omega, by simp [tx], by simpa using hk3, hs.new hs3 (fun j hj => (hfp j hj).1)⟩
    · have hii : i = L.length := by omega
      subst hii
      have hlt' : ¬ ((L.length : Int) < (L.length : Int)) := by omega
      rw [List.drop_length] at hall
      simp only [List.map_nil, grp] at hall
      by_cases hc : cur = []
      · subst hc
        rw [if_pos rfl] at hall
        simp [ev_skip, ev_seq, ev_cond2, ev_block, ev_region2, evOps_nil, evOps_cons, opG_none, opG_some, opJ, opU_ft, isU_bool, opA_move, opA_assign, opA_pick, opA_bin, opA_len, putO_some, putH_lt, putV_lt, condB_true, condB_false, CondP_false, binT_some, binA, avO_some, pickT, lenT_row, io_add, io_lss, io_leq, strOp, opS, opV, Go.Mx.look, seqK, blockK, Fr.known, mapO, headK, getV, getB, chkP, mkFr, slotsOf, ptrsOf, boxesOf, orO_some, eqT_some, tk3, tk9, Tryd.underlying23, w1, hc0]
        exact ⟨L.length + 1, acc, [], v, by omega, by omega, by omega, by simp, fun h => by omega, fun _ => by simpa using hall, by simp [tx], hk, hs⟩
      · rw [if_neg hc] at hall
        have hcn : ((tx cur).toList = ([] : LB)) = False := by rw [tx_list]; simp [hc]
        simp [ev_skip, ev_seq, ev_cond2, ev_block, ev_region2, evOps_nil, evOps_cons, opG_none, opG_some, opJ, opU_ft, isU_bool, opA_move, opA_pick, opA_bin, opA_len, opA_buildSlice, opA_append, opA_build, putO_some, putH_lt, putV_lt, condB_true, condB_false, CondP_true, binT_some, binA, avO_some, pickT, lenT_row, buildSliceT, appendT, repeatL_1, buildZ, partsZ, fillO, aggO, io_lss, io_leq, strOp, opS, opV, Go.Mx.look, seqK, Fr.known, mapO, cellsA_v, cellsA_agg, okPart_v, okPart_agg, Value.oneCell', fillA, mkFr, slotsOf, ptrsOf, boxesOf, bindO, srcTy, orO_some, eqT_some, tk3, tk9, Tryd.underlying23, st57, Tryd.underlying57, sz60, by60, ze60, of60, hcn]
        refine hk.app (c := wdC (cur, false)) rfl hs.1 ⟨by omega, by omega⟩ ?_
        intro v' H3 fp hk3 hs3 hfp
        simp [ev_region2, evOps_nil, evOps_cons, opG_none, opA_move, opA_assign, opA_bin, putO_some, putH_lt, putC_lt, binT_some, binA, avO_some, io_add, opS, opV, Go.Mx.look, seqK, blockK, mapO, headK, getV, getB, chkP, orO_some, eqT_some, tk3, w1]
        exact ⟨L.length + 1, acc ++ [(cur, false)], [], v', by omega, by omega, by simp; omega, by simp, fun h => by omega, fun _ => hall, by simp [tx], by simpa using hk3, hs.new hs3 (fun j hj => (hfp j hj).1)⟩
  · have hle' : ¬ (i : Int) ≤ (L.length : Int) := by omega
    have hacc := hend (by omega)
    simp [ev_seq, ev_cond2, ev_exit, ev_ret, ev_region2, evOps_nil, evOps_cons, opG_none, opA_move, opA_assign, opA_bin, opA_len, putO_some, putH_lt, condB_false, binT_some, binA, avO_some, lenT_row, io_leq, opS, opV, Go.Mx.look, seqK, blockK, Fr.known, retK, retA, resA, mapO, mkFr, slotsOf, ptrsOf, boxesOf, orO_some, eqT_some, tk3, Tryd.underlying23, hle']
    rw [hacc] at hk
    exact ⟨hs, 2, _, _, hk, wdC_cells _, h⟩
end Go.Proofs.YtoakdmkjlpjahaaDoor

namespace Go.Proofs.YtoakdmkjlpjahaaDoor
open Go.Mx
set_option linter.unusedVariables false
set_option linter.unusedSimpArgs false
set_option linter.unnecessarySimpa false
set_option maxRecDepth 100000

theorem wordsR_sp (l : LB) (hl : l.length ≤ 1000) (H : Hp) (Q : AV → Hp → Prop) (h : Q (rowT (wordsL l)) H) : Sp Tryd.prog 11 [.v (.string (tx l))] Q H := by
  refine Sp.newK ?_
  obtain ⟨cs, hcs⟩ : ∃ cs, cs = (splL l).flatMap wdC := ⟨_, rfl⟩
  have hr : rowW (splL l) = .row false (splL l).length cs := by rw [hcs]; rfl
  have lc : cs.length = (splL l).length * 2 := by rw [hcs, flat_len wdC_len]
  have g0 : ∀ {i : Nat} {x : W2}, (splL l)[i]? = some x → cs[i * 2]? = some (.v (.string (tx x.1))) := fun h => by
    have := flat_get wdC_len h 0 (by omega)
    rw [hcs]; simpa [wdC] using this
  have hsl := splL_len l
  clear hcs
  refine Sp.body [(4, ⟨[3, 4, 5], [], []⟩)] ⟨[], [], []⟩ [] mo Tryd.func11 rfl (Nat.le_of_ble_eq_true rfl) (by kernel_rfl) ?_
  simp [ev_seq, ev_region2, evOps_nil, evOps_cons, opG_none, opA_move, opA_assign, opA_call, putO_some, putH_lt, opS, opV, Go.Mx.look, fr0, argSlots, seqK, mapO, callA, ok27]
  refine splitR_sp l hl H _ ?_
  rw [hr]
  simp [ev_seq, ev_block, ev_region2, ev_loop, loopK, evOps_nil, evOps_cons, opG_none, opA_assign, putO_some, putH_lt, putC_lt, opS, opV, Go.Mx.look, seqK, mapO, headK, getV, getB, chkP, firstReg]
  refine LoopC.intro (fun n xs _ H2 => ∃ (i : Nat) (v : AV), i ≤ (splL l).length ∧ n = (splL l).length - i ∧ xs = [.row false (splL l).length cs, v, .v (.int .i64 i)] ∧ NewK 1 H H2 i (((wordsL l).take i).flatMap txC) v ∧ Same [] H H2) (splL l).length ⟨0, .v (.slice none 0 0), by omega, by omega, by simp, NewK.nil _ _ _, Same.refl _ _⟩ ?_
  rintro n xs bs H2 ⟨i, v, hi, rfl, rfl, hk, hs⟩
  by_cases hlt : i < (splL l).length
  · have hx := List.getElem?_eq_getElem hlt
    generalize (splL l)[i] = x at hx
    have gs := g0 hx
    have hle : i * 2 < cs.length := by omega
    have c0 : cs[i * 2] = .v (.string (tx x.1)) := (List.getElem?_eq_some_iff.1 gs).2
    have w1 : IntKind.i64.wrap ((i : Int) + 1) = (i : Int) + 1 := wr_i64 (by omega)
    have hlt' : (i : Int) < ((splL l).length : Int) := by omega
    have htk : (wordsL l).take (i + 1) = (wordsL l).take i ++ [x.1] := by
      rw [List.take_add_one]
      simp [wordsL, hx]
    simp [ev_skip, ev_seq, ev_cond2, ev_block, ev_region2, evOps_nil, evOps_cons, opG_none, opA_move, opA_bin, opA_load, opA_indexAddr, opA_fieldAddr, opA_len, opA_buildSlice, opA_append, putO_some, putH_lt, condB_true, binT_some, binA, avO_some, loadT, lenT_row, fieldAddrT, indexAddrT, buildSliceT, appendT, io_lss, opS, opV, Go.Mx.look, seqK, Fr.known, mapO, cellsA_v, okPart_v, Value.oneCell', partA, loadA, loadS, plusS, indexAddrA, fillA, mkFr, slotsOf, ptrsOf, boxesOf, bindO, srcTy, orO_some, eqT_some, tk3, sz9, ag9, by9, ze9, st23, Tryd.underlying23, Tryd.underlying57, sz60, Tryd.underlying60, hlt', c0, hle]
    refine hk.app (c := txC x.1) rfl hs.1 ⟨by omega, by omega⟩ ?_
    intro v' H3 fp hk3 hs3 hfp
    simp [ev_region2, evOps_nil, evOps_cons, opG_none, opA_move, opA_assign, opA_bin, putO_some, putH_lt, putC_lt, binT_some, binA, avO_some, io_add, opS, opV, Go.Mx.look, seqK, blockK, mapO, headK, getV, getB, chkP, orO_some, eqT_some, tk3, w1]
    exact ⟨(splL l).length - (i + 1), by omega, i + 1, by omega, rfl, v', ⟨rfl, by omega⟩, by rw [htk]; simpa using hk3, hs.new hs3 (fun j hj => (hfp j hj).1)⟩
  · have : i = (splL l).length := by omega
    subst this
    have hlt' : ¬ (((splL l).length : Int) < ((splL l).length : Int)) := by omega
    simp [ev_seq, ev_cond2, ev_exit, ev_ret, ev_region2, evOps_nil, evOps_cons, opG_none, opA_move, opA_assign, opA_bin, opA_len, putO_some, putH_lt, condB_false, binT_some, binA, avO_some, lenT_row, io_lss, opS, opV, Go.Mx.look, seqK, blockK, Fr.known, retK, retA, resA, mapO, mkFr, slotsOf, ptrsOf, boxesOf, orO_some, eqT_some, tk3, Tryd.underlying57]
    have e : (wordsL l).take (splL l).length = wordsL l := List.take_of_length_le (by simp [wordsL])
    rw [e] at hk
    refine ⟨hs, 1, _, _, hk, txC_cells _, ?_⟩
    have : (wordsL l).length = (splL l).length := by simp [wordsL]
    unfold rowT at h
    rw [this] at h
    exact h
/-! ### SearchWords -/
theorem words_law_sp (l : LB) (H : Hp) (hT : Tb H) : Sp Tryd.prog 3 [.v (.string (tx l))] (fun v _ => v = .v (.bool true)) H := by
  refine Sp.body [] ⟨[], [], []⟩ [] mo Tryd.func3 rfl (Nat.le_of_ble_eq_true rfl) (by kernel_rfl) ?_
  have hsz : (tx l).size = l.length := tx_size l
  by_cases hl : l.length ≤ 500
  · have hl' : ¬ ((500 : Int) < (l.length : Int)) := by omega
    have hsl := splL_len l
    have hwl := wordsL_len l
    simp [ev_skip, ev_seq, ev_cond2, ev_region2, evOps_nil, evOps_cons, opG_none, opA_move, opA_assign, opA_bin, opA_len, opA_call, putO_some, putH_lt, condB_false, binT_some, binA, avO_some, lenT_str, io_gtr, opS, opV, Go.Mx.look, fr0, argSlots, seqK, Fr.known, mapO, callA, orO_some, eqT_some, tk3, Tryd.underlying9, ok10, hsz, hl']
    refine words_sp l (by omega) _ hT _ (by omega) ?_
    simp [evOps_cons, opG_none, opA_move, opA_call, putO_some, putH_lt, putC_lt, opS, opV, Go.Mx.look, mapO, callA, rowT, ok11]
    refine wordsR_sp l (by omega) _ _ ?_
    simp [evOps_cons, opG_none, opA_call, putC_lt, opS, opV, Go.Mx.look, mapO, callA, rowT, ok9, rowT]
    refine strings_sp false false _ _ _ _ (by omega) ?_
    simp [evOps_cons, opG_none, opG_some, opJ, opU_ft, isU_bool, opK_eq, opA_move, opA_call, putO_some, putH_lt, putC_lt, condB_true, opS, opV, Go.Mx.look, Fr.known, mapO, callA, ok12]
    refine awake_sp _ _ hT ?_
    simp [ev_ret, evOps_nil, evOps_cons, opG_none, opA_assign, opA_pick, putO_some, putH_lt, putC_lt, pickT, opS, opV, Go.Mx.look, seqK, retK, retA, resA, mapO]
  · have hl' : (500 : Int) < (l.length : Int) := by omega
    simp [ev_seq, ev_cond2, ev_ret, ev_region2, evOps_nil, evOps_cons, opG_none, opA_move, opA_assign, opA_bin, opA_len, putO_some, putH_lt, condB_true, binT_some, binA, avO_some, lenT_str, io_gtr, opS, opV, Go.Mx.look, fr0, argSlots, seqK, Fr.known, retK, retA, resA, mapO, orO_some, eqT_some, tk3, Tryd.underlying9, hsz, hl']
theorem words_law (s : ByteArray) (_ : s.size ≤ 140737488351232) : Sp Tryd.prog 3 [.v (.string s)] (fun v _ => v = .v (.bool true)) [.tab 0 firstT, .tab 1 acceptT] :=
  words_law_sp (txOf s) _ tb_tabs
end Go.Proofs.YtoakdmkjlpjahaaDoor
