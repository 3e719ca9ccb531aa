import Derived.Test.YtidmkmipgclfjaaPC
namespace Go.Proofs.Ytidmkmipgclfjaa.P
open Go.Mx
set_option linter.unusedVariables false
set_option linter.unusedSimpArgs false

theorem encB_append : ∀ (x y : List UInt8), x.length % 3 = 0 → encB (x ++ y) = encB x ++ encB y
  | [], y, _ => by simp [encB]
  | [a], y, h => by simp at h
  | [a, b], y, h => by simp at h
  | a :: b :: c :: r, y, h => by
    simp only [List.cons_append, encB, List.append_assoc]
    rw [encB_append r y (by simp only [List.length_cons] at h; omega)]

theorem num_letter_all : ∀ v : Fin 64, numB (letter v.val) = v.val := by decide +kernel
theorem num_letter {v : Nat} (h : v < 64) : numB (letter v) = v := num_letter_all ⟨v, h⟩
theorem letter_num {c : UInt8} (h : 0 ≤ numB c) : letter (numB c).toNat = c := by
  obtain ⟨n, hn⟩ := Int.eq_ofNat_of_zero_le h
  have := (Lib.indexByte_some (l := alpha.data.toList) (c := c) (o := n) hn).1
  rw [hn]
  unfold letter
  rw [Array.getD_eq_getD_getElem?]
  have h2 : alpha.data[n]? = some c := by simpa using this
  simp [h2]

theorem fold_pre (o : List UInt8) : ∀ (l : List UInt8) (p : List UInt8) (b m : Nat), l.foldl dstep (o ++ p, b, m) = (o ++ (l.foldl dstep (p, b, m)).1, (l.foldl dstep (p, b, m)).2)
  | [], p, b, m => rfl
  | c :: l, p, b, m => by
    simp only [List.foldl_cons]
    by_cases h : 8 ≤ m + 6
    · have e1 : ∀ q, dstep (q, b, m) c = (q ++ [UInt8.ofNat ((b * 64 + (numB c).toNat) / 2 ^ (m + 6 - 8))], (b * 64 + (numB c).toNat) % 2 ^ (m + 6 - 8), m + 6 - 8) := fun q => by simp only [dstep, if_pos h]
      rw [e1, e1, List.append_assoc, fold_pre o l]
    · have e1 : ∀ q, dstep (q, b, m) c = (q, b * 64 + (numB c).toNat, m + 6) := fun q => by simp only [dstep, if_neg h]
      rw [e1, e1, fold_pre o l]

/-- Four letters are read. -/
theorem fold4 (c1 c2 c3 c4 : UInt8) (r : List UInt8) (v1 v2 v3 v4 : Nat) (h1 : (numB c1).toNat = v1) (h2 : (numB c2).toNat = v2) (h3 : (numB c3).toNat = v3) (h4 : (numB c4).toNat = v4) :
    (c1 :: c2 :: c3 :: c4 :: r).foldl dstep ([], 0, 0) = r.foldl dstep ([UInt8.ofNat ((v1 * 64 + v2) / 16), UInt8.ofNat (((v1 * 64 + v2) % 16 * 64 + v3) / 4), UInt8.ofNat (((v1 * 64 + v2) % 16 * 64 + v3) % 4 * 64 + v4)], 0, 0) := by
  simp [dstep, h1, h2, h3, h4, Nat.mod_one]
theorem fold2 (c1 c2 : UInt8) (v1 v2 : Nat) (h1 : (numB c1).toNat = v1) (h2 : (numB c2).toNat = v2) :
    [c1, c2].foldl dstep ([], 0, 0) = ([UInt8.ofNat ((v1 * 64 + v2) / 16)], (v1 * 64 + v2) % 16, 4) := by
  simp [dstep, h1, h2]
theorem fold3 (c1 c2 c3 : UInt8) (v1 v2 v3 : Nat) (h1 : (numB c1).toNat = v1) (h2 : (numB c2).toNat = v2) (h3 : (numB c3).toNat = v3) :
    [c1, c2, c3].foldl dstep ([], 0, 0) = ([UInt8.ofNat ((v1 * 64 + v2) / 16), UInt8.ofNat (((v1 * 64 + v2) % 16 * 64 + v3) / 4)], ((v1 * 64 + v2) % 16 * 64 + v3) % 4, 2) := by
  simp [dstep, h1, h2, h3]

theorem ofNat_eq {a : UInt8} {n : Nat} (h : n = a.toNat) : UInt8.ofNat n = a := by
  subst h; simp

theorem num_all : ∀ (bs : List UInt8), ∀ c ∈ encB bs, 0 ≤ numB c := by
  have hq : ∀ n, ∀ c ∈ quad n, 0 ≤ numB c := by
    intro n c hc
    simp only [quad, List.mem_cons, List.not_mem_nil, or_false] at hc
    rcases hc with rfl | rfl | rfl | rfl <;> rw [num_letter (Nat.mod_lt _ (by decide))] <;> omega
  intro bs
  induction bs using encB.induct with
  | case1 => simp [encB]
  | case2 a => intro c hc; exact hq _ c (List.mem_of_mem_take hc)
  | case3 a b => intro c hc; exact hq _ c (List.mem_of_mem_take hc)
  | case4 a b c r ih =>
    intro x hx
    simp only [encB, List.mem_append] at hx
    rcases hx with hx | hx
    · exact hq _ x hx
    · exact ih x hx

theorem fold_enc (bs : List UInt8) : ∃ m, (encB bs).foldl dstep ([], 0, 0) = (bs, 0, m) := by
  have nl : ∀ n, (numB (letter (n % 64))).toNat = n % 64 := fun n => by rw [num_letter (Nat.mod_lt _ (by decide))]; rfl
  induction bs using encB.induct with
  | case1 => exact ⟨0, rfl⟩
  | case2 a =>
    have ha := a.toNat_lt
    simp only [encB, quad, List.take_succ_cons, List.take_zero]
    rw [fold2 _ _ _ _ (nl _) (nl _)]
    refine ⟨4, ?_⟩
    rw [ofNat_eq (a := a) (by omega), show (a.toNat * 65536 / 262144 % 64 * 64 + a.toNat * 65536 / 4096 % 64) % 16 = 0 from by omega]
  | case3 a b =>
    have ha := a.toNat_lt
    have hb := b.toNat_lt
    simp only [encB, quad, List.take_succ_cons, List.take_zero]
    rw [fold3 _ _ _ _ _ _ (nl _) (nl _) (nl _)]
    refine ⟨2, ?_⟩
    rw [ofNat_eq (a := a) (by omega), ofNat_eq (a := b) (by omega)]
    congr 2
    omega
  | case4 a b c r ih =>
    have ha := a.toNat_lt
    have hb := b.toNat_lt
    have hc := c.toNat_lt
    obtain ⟨m, ih⟩ := ih
    refine ⟨m, ?_⟩
    simp only [encB, quad, List.cons_append, List.nil_append]
    rw [fold4 _ _ _ _ _ _ _ _ _ (nl _) (nl _) (nl _) (nl _)]
    rw [ofNat_eq (a := a) (by omega), ofNat_eq (a := b) (by omega), ofNat_eq (a := c) (by omega)]
    have := fold_pre [a, b, c] (encB r) [] 0 0
    rw [List.append_nil] at this
    rw [this, ih]
    rfl

theorem dec_enc (bs : List UInt8) : decB (encB bs) = (bs, 0, 0) := by
  obtain ⟨m, hm⟩ := fold_enc bs
  have hl := encB_length bs
  unfold decB
  rw [bad_none _ (num_all bs)]
  simp only
  rw [if_neg (by unfold sizeB at hl; split at hl <;> (try split at hl) <;> omega), hm]
  rfl

theorem bad_all : ∀ (l : List UInt8), bad l = none → ∀ c ∈ l, 0 ≤ numB c
  | [], _, c, hc => by simp at hc
  | d :: r, h, c, hc => by
    unfold bad at h
    split at h
    · simp at h
    · simp at h
      rcases List.mem_cons.1 hc with rfl | hc
      · omega
      · exact bad_all r h c hc

theorem enc_fold : ∀ (n : Nat) (l : List UInt8), l.length ≤ n → (∀ c ∈ l, 0 ≤ numB c) → l.length % 4 ≠ 1 → (l.foldl dstep ([], 0, 0)).2.1 = 0 → encB (l.foldl dstep ([], 0, 0)).1 = l
  | _, [], _, _, _, _ => rfl
  | _, [c], _, _, h, _ => by simp at h
  | _, [c1, c2], _, ha, _, h0 => by
    obtain ⟨v1, e1⟩ := Int.eq_ofNat_of_zero_le (ha c1 (by simp))
    obtain ⟨v2, e2⟩ := Int.eq_ofNat_of_zero_le (ha c2 (by simp))
    have l1 := letter_num (ha c1 (by simp)); have l2 := letter_num (ha c2 (by simp))
    have b1 := numB_lt c1; have b2 := numB_lt c2
    rw [e1] at l1 b1; rw [e2] at l2 b2
    simp only [Int.toNat_natCast] at l1 l2
    rw [fold2 c1 c2 v1 v2 (by rw [e1]; rfl) (by rw [e2]; rfl)] at h0 ⊢
    simp only at h0 ⊢
    simp only [encB, quad, List.take_succ_cons, List.take_zero]
    have hx : (UInt8.ofNat ((v1 * 64 + v2) / 16)).toNat = (v1 * 64 + v2) / 16 := by simp; omega
    rw [hx, show (v1 * 64 + v2) / 16 * 65536 / 262144 % 64 = v1 from by omega, show (v1 * 64 + v2) / 16 * 65536 / 4096 % 64 = v2 from by omega, l1, l2]
  | _, [c1, c2, c3], _, ha, _, h0 => by
    obtain ⟨v1, e1⟩ := Int.eq_ofNat_of_zero_le (ha c1 (by simp))
    obtain ⟨v2, e2⟩ := Int.eq_ofNat_of_zero_le (ha c2 (by simp))
    obtain ⟨v3, e3⟩ := Int.eq_ofNat_of_zero_le (ha c3 (by simp))
    have l1 := letter_num (ha c1 (by simp)); have l2 := letter_num (ha c2 (by simp)); have l3 := letter_num (ha c3 (by simp))
    have b1 := numB_lt c1; have b2 := numB_lt c2; have b3 := numB_lt c3
    rw [e1] at l1 b1; rw [e2] at l2 b2; rw [e3] at l3 b3
    simp only [Int.toNat_natCast] at l1 l2 l3
    rw [fold3 c1 c2 c3 v1 v2 v3 (by rw [e1]; rfl) (by rw [e2]; rfl) (by rw [e3]; rfl)] at h0 ⊢
    simp only at h0 ⊢
    simp only [encB, quad, List.take_succ_cons, List.take_zero]
    have hx : (UInt8.ofNat ((v1 * 64 + v2) / 16)).toNat = (v1 * 64 + v2) / 16 := by simp; omega
    have hy : (UInt8.ofNat (((v1 * 64 + v2) % 16 * 64 + v3) / 4)).toNat = ((v1 * 64 + v2) % 16 * 64 + v3) / 4 := by simp; omega
    rw [hx, hy]
    rw [show ((v1 * 64 + v2) / 16 * 65536 + ((v1 * 64 + v2) % 16 * 64 + v3) / 4 * 256) / 262144 % 64 = v1 from by omega, show ((v1 * 64 + v2) / 16 * 65536 + ((v1 * 64 + v2) % 16 * 64 + v3) / 4 * 256) / 4096 % 64 = v2 from by omega, show ((v1 * 64 + v2) / 16 * 65536 + ((v1 * 64 + v2) % 16 * 64 + v3) / 4 * 256) / 64 % 64 = v3 from by omega, l1, l2, l3]
  | n, c1 :: c2 :: c3 :: c4 :: r, hn, ha, h4, h0 => by
    obtain ⟨v1, e1⟩ := Int.eq_ofNat_of_zero_le (ha c1 (by simp))
    obtain ⟨v2, e2⟩ := Int.eq_ofNat_of_zero_le (ha c2 (by simp))
    obtain ⟨v3, e3⟩ := Int.eq_ofNat_of_zero_le (ha c3 (by simp))
    obtain ⟨v4, e4⟩ := Int.eq_ofNat_of_zero_le (ha c4 (by simp))
    have l1 := letter_num (ha c1 (by simp)); have l2 := letter_num (ha c2 (by simp)); have l3 := letter_num (ha c3 (by simp)); have l4 := letter_num (ha c4 (by simp))
    have b1 := numB_lt c1; have b2 := numB_lt c2; have b3 := numB_lt c3; have b4 := numB_lt c4
    rw [e1] at l1 b1; rw [e2] at l2 b2; rw [e3] at l3 b3; rw [e4] at l4 b4
    simp only [Int.toNat_natCast] at l1 l2 l3 l4
    rw [fold4 c1 c2 c3 c4 r v1 v2 v3 v4 (by rw [e1]; rfl) (by rw [e2]; rfl) (by rw [e3]; rfl) (by rw [e4]; rfl)] at h0 ⊢
    have hp := fold_pre [UInt8.ofNat ((v1 * 64 + v2) / 16), UInt8.ofNat (((v1 * 64 + v2) % 16 * 64 + v3) / 4), UInt8.ofNat (((v1 * 64 + v2) % 16 * 64 + v3) % 4 * 64 + v4)] r [] 0 0
    rw [List.append_nil] at hp
    rw [hp] at h0 ⊢
    simp only [List.length_cons] at hn h4
    match n, hn with
    | n + 1, hn =>
    have ih := enc_fold n r (by omega) (fun c hc => ha c (by simp [hc])) (by omega) h0
    simp only [List.cons_append, List.nil_append, encB]
    rw [ih]
    have hx : (UInt8.ofNat ((v1 * 64 + v2) / 16)).toNat = (v1 * 64 + v2) / 16 := by simp; omega
    have hy : (UInt8.ofNat (((v1 * 64 + v2) % 16 * 64 + v3) / 4)).toNat = ((v1 * 64 + v2) % 16 * 64 + v3) / 4 := by simp; omega
    have hz : (UInt8.ofNat (((v1 * 64 + v2) % 16 * 64 + v3) % 4 * 64 + v4)).toNat = ((v1 * 64 + v2) % 16 * 64 + v3) % 4 * 64 + v4 := by simp; omega
    rw [hx, hy, hz]
    have hN : (v1 * 64 + v2) / 16 * 65536 + ((v1 * 64 + v2) % 16 * 64 + v3) / 4 * 256 + (((v1 * 64 + v2) % 16 * 64 + v3) % 4 * 64 + v4) = v1 * 262144 + v2 * 4096 + v3 * 64 + v4 := by omega
    rw [hN]
    unfold quad
    rw [show (v1 * 262144 + v2 * 4096 + v3 * 64 + v4) / 262144 % 64 = v1 from by omega, show (v1 * 262144 + v2 * 4096 + v3 * 64 + v4) / 4096 % 64 = v2 from by omega, show (v1 * 262144 + v2 * 4096 + v3 * 64 + v4) / 64 % 64 = v3 from by omega, show (v1 * 262144 + v2 * 4096 + v3 * 64 + v4) % 64 = v4 from by omega, l1, l2, l3, l4]
    rfl

/-- What is decoded is encoded back, or is nothing. -/
theorem dec_cases (l : List UInt8) : ((decB l).2.1 ≠ 0 ∧ (decB l).1 = []) ∨ ((decB l).2 = (0, 0) ∧ encB (decB l).1 = l) := by
  unfold decB
  cases hb : bad l with
  | some i => left; simp
  | none =>
    simp only
    by_cases h1 : l.length % 4 = 1
    · left; simp [h1]
    · rw [if_neg h1]
      by_cases h0 : (l.foldl dstep ([], 0, 0)).2.1 = 0
      · right
        rw [if_pos h0]
        exact ⟨rfl, enc_fold _ l (Nat.le_refl _) (bad_all l hb) h1 h0⟩
      · left; rw [if_neg h0]; simp

end Go.Proofs.Ytidmkmipgclfjaa.P
