import Derived.Test.YtdgdkgfkeinhbaaPB
import Derived.Lib.IndexLaws
namespace Go.Proofs.Ytdgdkgfkeinhbaa.P
open Go.Mx
set_option linter.unusedVariables false
set_option linter.unusedSimpArgs false

def numB (c : UInt8) : Int := Lib.indexByte alpha.data.toList c
theorem numB_ge (c : UInt8) : -1 ≤ numB c := Lib.indexByte_ge _ _
theorem numB_lt (c : UInt8) : numB c < 64 := by
  rcases (by omega : numB c < 0 ∨ 0 ≤ numB c) with h | h
  · omega
  · obtain ⟨n, hn⟩ := Int.eq_ofNat_of_zero_le h
    have := (Lib.indexByte_some (l := alpha.data.toList) (c := c) (o := n) hn).1
    have h2 := (List.getElem?_eq_some_iff.1 this).1
    have h3 : alpha.data.toList.length = 64 := by decide
    omega

def dstep (st : List UInt8 × Nat × Nat) (c : UInt8) : List UInt8 × Nat × Nat :=
  let b := st.2.1 * 64 + (numB c).toNat
  let n := st.2.2 + 6
  if 8 ≤ n then (st.1 ++ [UInt8.ofNat (b / 2 ^ (n - 8))], b % 2 ^ (n - 8), n - 8) else (st.1, b, n)
def bad : List UInt8 → Option Nat
  | [] => none
  | c :: r => if numB c < 0 then some 0 else (bad r).map (· + 1)
theorem bad_none : ∀ (l : List UInt8), (∀ c ∈ l, 0 ≤ numB c) → bad l = none
  | [], _ => rfl
  | c :: r, h => by
    unfold bad
    rw [if_neg (by have := h c (by simp); omega), bad_none r (fun x hx => h x (by simp [hx]))]
    rfl
theorem bad_some : ∀ (l : List UInt8) (i : Nat) (c : UInt8), (∀ j, j < i → ∀ d, l[j]? = some d → 0 ≤ numB d) → l[i]? = some c → numB c < 0 → bad l = some i
  | [], i, c, _, h, _ => by simp at h
  | d :: r, 0, c, _, h, hc => by simp at h; subst h; simp [bad, hc]
  | d :: r, i + 1, c, ha, h, hc => by
    unfold bad
    have h0 := ha 0 (by omega) d rfl
    rw [if_neg (by omega), bad_some r i c (fun j hj e he => ha (j + 1) (by omega) e (by simpa using he)) (by simpa using h) hc]
    rfl

def decB (l : List UInt8) : List UInt8 × Int × Int :=
  match bad l with
  | some i => ([], 20, i)
  | none => if l.length % 4 = 1 then ([], 22, l.length) else
    let st := l.foldl dstep ([], 0, 0)
    if st.2.1 = 0 then (st.1, 0, 0) else ([], 21, l.length - 1)

theorem num_letter_all : ∀ v : Fin 64, numB (letter v.val) = v.val := by decide +kernel
theorem num_letter {v : Nat} (h : v < 64) : numB (letter v) = v := num_letter_all ⟨v, h⟩
theorem letter_num {c : UInt8} (h : 0 ≤ numB c) : letter (numB c).toNat = c := by
  obtain ⟨n, hn⟩ := Int.eq_ofNat_of_zero_le h
  have := (Lib.indexByte_some (l := alpha.data.toList) (c := c) (o := n) hn).1
  rw [hn]
  unfold letter
  rw [Array.getD_eq_getD_getElem?]
  have h2 : alpha.data[n]? = some c := by simpa using this
  simp [h2]

theorem fold_pre (o : List UInt8) : ∀ (l : List UInt8) (p : List UInt8) (b m : Nat), l.foldl dstep (o ++ p, b, m) = (o ++ (l.foldl dstep (p, b, m)).1, (l.foldl dstep (p, b, m)).2)
  | [], p, b, m => rfl
  | c :: l, p, b, m => by
    simp only [List.foldl_cons]
    by_cases h : 8 ≤ m + 6
    · have e1 : ∀ q, dstep (q, b, m) c = (q ++ [UInt8.ofNat ((b * 64 + (numB c).toNat) / 2 ^ (m + 6 - 8))], (b * 64 + (numB c).toNat) % 2 ^ (m + 6 - 8), m + 6 - 8) := fun q => by simp only [dstep, if_pos h]
      rw [e1, e1, List.append_assoc, fold_pre o l]
    · have e1 : ∀ q, dstep (q, b, m) c = (q, b * 64 + (numB c).toNat, m + 6) := fun q => by simp only [dstep, if_neg h]
      rw [e1, e1, fold_pre o l]

/-- Four letters are read. -/
theorem fold4 (c1 c2 c3 c4 : UInt8) (r : List UInt8) (v1 v2 v3 v4 : Nat) (h1 : (numB c1).toNat = v1) (h2 : (numB c2).toNat = v2) (h3 : (numB c3).toNat = v3) (h4 : (numB c4).toNat = v4) :
    (c1 :: c2 :: c3 :: c4 :: r).foldl dstep ([], 0, 0) = r.foldl dstep ([UInt8.ofNat ((v1 * 64 + v2) / 16), UInt8.ofNat (((v1 * 64 + v2) % 16 * 64 + v3) / 4), UInt8.ofNat (((v1 * 64 + v2) % 16 * 64 + v3) % 4 * 64 + v4)], 0, 0) := by
  simp [dstep, h1, h2, h3, h4, Nat.mod_one]
theorem fold2 (c1 c2 : UInt8) (v1 v2 : Nat) (h1 : (numB c1).toNat = v1) (h2 : (numB c2).toNat = v2) :
    [c1, c2].foldl dstep ([], 0, 0) = ([UInt8.ofNat ((v1 * 64 + v2) / 16)], (v1 * 64 + v2) % 16, 4) := by
  simp [dstep, h1, h2]
theorem fold3 (c1 c2 c3 : UInt8) (v1 v2 v3 : Nat) (h1 : (numB c1).toNat = v1) (h2 : (numB c2).toNat = v2) (h3 : (numB c3).toNat = v3) :
    [c1, c2, c3].foldl dstep ([], 0, 0) = ([UInt8.ofNat ((v1 * 64 + v2) / 16), UInt8.ofNat (((v1 * 64 + v2) % 16 * 64 + v3) / 4)], ((v1 * 64 + v2) % 16 * 64 + v3) % 4, 2) := by
  simp [dstep, h1, h2, h3]

theorem ofNat_eq {a : UInt8} {n : Nat} (h : n = a.toNat) : UInt8.ofNat n = a := by
  subst h; simp

theorem num_all : ∀ (bs : List UInt8), ∀ c ∈ encB bs, 0 ≤ numB c := by
  have hq : ∀ n, ∀ c ∈ quad n, 0 ≤ numB c := by
    intro n c hc
    simp only [quad, List.mem_cons, List.not_mem_nil, or_false] at hc
    rcases hc with rfl | rfl | rfl | rfl <;> rw [num_letter (Nat.mod_lt _ (by decide))] <;> omega
  intro bs
  induction bs using encB.induct with
  | case1 => simp [encB]
  | case2 a => intro c hc; exact hq _ c (List.mem_of_mem_take hc)
  | case3 a b => intro c hc; exact hq _ c (List.mem_of_mem_take hc)
  | case4 a b c r ih =>
    intro x hx
    simp only [encB, List.mem_append] at hx
    rcases hx with hx | hx
    · exact hq _ x hx
    · exact ih x hx

theorem fold_enc (bs : List UInt8) : ∃ m, (encB bs).foldl dstep ([], 0, 0) = (bs, 0, m) := by
  have nl : ∀ n, (numB (letter (n % 64))).toNat = n % 64 := fun n => by rw [num_letter (Nat.mod_lt _ (by decide))]; rfl
  induction bs using encB.induct with
  | case1 => exact ⟨0, rfl⟩
  | case2 a =>
    have ha := a.toNat_lt
    simp only [encB, quad, List.take_succ_cons, List.take_zero]
    rw [fold2 _ _ _ _ (nl _) (nl _)]
    refine ⟨4, ?_⟩
    rw [ofNat_eq (a := a) (by omega), show (a.toNat * 65536 / 262144 % 64 * 64 + a.toNat * 65536 / 4096 % 64) % 16 = 0 from by omega]
  | case3 a b =>
    have ha := a.toNat_lt
    have hb := b.toNat_lt
    simp only [encB, quad, List.take_succ_cons, List.take_zero]
    rw [fold3 _ _ _ _ _ _ (nl _) (nl _) (nl _)]
    refine ⟨2, ?_⟩
    rw [ofNat_eq (a := a) (by omega), ofNat_eq (a := b) (by omega)]
    congr 2
    omega
  | case4 a b c r ih =>
    have ha := a.toNat_lt
    have hb := b.toNat_lt
    have hc := c.toNat_lt
    obtain ⟨m, ih⟩ := ih
    refine ⟨m, ?_⟩
    simp only [encB, quad, List.cons_append, List.nil_append]
    rw [fold4 _ _ _ _ _ _ _ _ _ (nl _) (nl _) (nl _) (nl _)]
    rw [ofNat_eq (a := a) (by omega), ofNat_eq (a := b) (by omega), ofNat_eq (a := c) (by omega)]
    have := fold_pre [a, b, c] (encB r) [] 0 0
    rw [List.append_nil] at this
    rw [this, ih]
    rfl

theorem dec_enc (bs : List UInt8) : decB (encB bs) = (bs, 0, 0) := by
  obtain ⟨m, hm⟩ := fold_enc bs
  have hl := encB_length bs
  unfold decB
  rw [bad_none _ (num_all bs)]
  simp only
  rw [if_neg (by unfold sizeB at hl; split at hl <;> (try split at hl) <;> omega), hm]
  rfl


/-- Other bytes, other letters. -/
theorem encB_inj {x y : List UInt8} (h : encB x = encB y) : x = y := by
  have h1 := dec_enc x
  rw [h, dec_enc y] at h1
  simpa using (congrArg Prod.fst h1).symm
end Go.Proofs.Ytdgdkgfkeinhbaa.P
