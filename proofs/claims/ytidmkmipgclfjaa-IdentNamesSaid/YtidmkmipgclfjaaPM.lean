import Derived.Test.YtidmkmipgclfjaaPI
namespace Go.Proofs.Ytidmkmipgclfjaa.P
open Go.Mx
set_option linter.unusedVariables false
set_option linter.unusedSimpArgs false

def bits6 (v : Nat) : List Nat := (List.range 6).map (fun k => v / 2 ^ (5 - k) % 2)
def bitsD (l : List UInt8) : List Nat := l.flatMap (fun c => bits6 (numB c).toNat)
def chunk8 : List Nat → List UInt8
  | a :: b :: c :: d :: e :: f :: g :: h :: r => UInt8.ofNat (vals [a, b, c, d, e, f, g, h]) :: chunk8 r
  | _ => []
theorem chunk8_take (P : List Nat) (h : 8 ≤ P.length) : chunk8 P = UInt8.ofNat (vals (P.take 8)) :: chunk8 (P.drop 8) := by
  match P, h with
  | a :: b :: c :: d :: e :: f :: g :: h :: r, _ => rfl
theorem chunk8_short (P : List Nat) (h : P.length < 8) : chunk8 P = [] := by
  unfold chunk8
  split
  · simp at h; omega
  · rfl

theorem vals_app (x y : List Nat) : vals (x ++ y) = vals x * 2 ^ y.length + vals y := by
  have key : ∀ (y : List Nat) (a : Nat), y.foldl (fun a b => 2 * a + b) a = a * 2 ^ y.length + y.foldl (fun a b => 2 * a + b) 0 := by
    intro y
    induction y with
    | nil => intro a; simp
    | cons b y ih =>
      intro a
      simp only [List.foldl_cons, List.length_cons, Nat.pow_succ]
      rw [ih (2 * a + b), ih (2 * 0 + b)]
      rw [Nat.add_mul, Nat.mul_comm 2 a, Nat.mul_assoc, Nat.mul_comm 2]
      simp only [Nat.mul_zero, Nat.zero_add]
      omega
  unfold vals
  rw [List.foldl_append, key]

theorem bits6_vals (v : Nat) (h : v < 64) : vals (bits6 v) = v := by
  simp [bits6, List.range, List.range.loop, vals]
  omega
theorem bits6_length (v : Nat) : (bits6 v).length = 6 := by simp [bits6]
theorem bits6_lt (v : Nat) : ∀ b ∈ bits6 v, b < 2 := by
  intro b hb
  simp only [bits6, List.mem_map] at hb
  obtain ⟨j, _, rfl⟩ := hb
  exact Nat.mod_lt _ (by decide)

set_option maxHeartbeats 4000000 in
theorem bits8_vals (x : List Nat) (hl : x.length = 8) (hx : ∀ b ∈ x, b < 2) : bits8 (UInt8.ofNat (vals x)) = x := by
  have hv := vals_lt x hx
  rw [hl] at hv
  match x, hl with
  | [a, b, c, d, e, f, g, h], _ =>
    have ha := hx a (by simp); have hb := hx b (by simp); have hc := hx c (by simp); have hd := hx d (by simp)
    have he := hx e (by simp); have hf := hx f (by simp); have hg := hx g (by simp); have hh := hx h (by simp)
    have hn : (UInt8.ofNat (vals [a, b, c, d, e, f, g, h])).toNat = vals [a, b, c, d, e, f, g, h] := by
      simp
      omega
    unfold bits8
    rw [hn]
    simp [List.range, List.range.loop, vals]
    refine ⟨?_, ?_, ?_, ?_, ?_, ?_, ?_, ?_⟩ <;> omega

theorem dec_bits : ∀ (l : List UInt8) (out : List UInt8) (b m : Nat) (rem : List Nat), (∀ c ∈ l, 0 ≤ numB c) → rem.length = m → vals rem = b → m < 8 → m % 2 = 0 → (∀ x ∈ rem, x < 2) →
    ∃ rem', bitsB out ++ rem ++ bitsD l = bitsB (l.foldl dstep (out, b, m)).1 ++ rem' ∧ rem'.length < 8 ∧ vals rem' = (l.foldl dstep (out, b, m)).2.1 ∧ (∀ x ∈ rem', x < 2)
  | [], out, b, m, rem, _, hm, hb, hm8, _, hr => ⟨rem, by simp [bitsD], by omega, hb, hr⟩
  | c :: l, out, b, m, rem, ha, hm, hb, hm8, hm2, hr => by
    obtain ⟨v, hv⟩ := Int.eq_ofNat_of_zero_le (ha c (by simp))
    have hv64 := numB_lt c
    have hvn : (numB c).toNat = v := by omega
    have hv6 := bits6_vals v (by omega)
    have hl6 := bits6_length v
    have hv2 : vals (rem ++ bits6 v) = b * 64 + v := by rw [vals_app, hv6, hl6, hb]
    have hlen : (rem ++ bits6 v).length = m + 6 := by simp [hl6, hm]
    have hlt : ∀ x ∈ rem ++ bits6 v, x < 2 := fun x hx => (List.mem_append.1 hx).elim (hr x) (bits6_lt v x)
    have hD : bitsD (c :: l) = bits6 v ++ bitsD l := by simp [bitsD, hvn]
    simp only [List.foldl_cons]
    by_cases h8 : 8 ≤ m + 6
    · have hst : dstep (out, b, m) c = (out ++ [UInt8.ofNat ((b * 64 + v) / 2 ^ (m + 6 - 8))], (b * 64 + v) % 2 ^ (m + 6 - 8), m + 6 - 8) := by simp only [dstep, if_pos h8, hvn]
      rw [hst]
      have hsplit := List.take_append_drop 8 (rem ++ bits6 v)
      have hT : ((rem ++ bits6 v).take 8).length = 8 := by rw [List.length_take, hlen]; omega
      have hDl : ((rem ++ bits6 v).drop 8).length = m + 6 - 8 := by rw [List.length_drop, hlen]
      have hTlt : ∀ x ∈ (rem ++ bits6 v).take 8, x < 2 := fun x hx => hlt x (List.mem_of_mem_take hx)
      have hDlt : ∀ x ∈ (rem ++ bits6 v).drop 8, x < 2 := fun x hx => hlt x (List.mem_of_mem_drop hx)
      have hval : vals ((rem ++ bits6 v).take 8) * 2 ^ (m + 6 - 8) + vals ((rem ++ bits6 v).drop 8) = b * 64 + v := by
        have ha1 := vals_app ((rem ++ bits6 v).take 8) ((rem ++ bits6 v).drop 8)
        rw [hsplit, hDl] at ha1
        rw [← hv2, ha1]
      have hdl := vals_lt _ hDlt
      rw [hDl] at hdl
      have hp : 0 < 2 ^ (m + 6 - 8) := Nat.pow_pos (by decide)
      have hq : (b * 64 + v) / 2 ^ (m + 6 - 8) = vals ((rem ++ bits6 v).take 8) := by
        rw [← hval, Nat.mul_comm, Nat.mul_add_div hp, Nat.div_eq_of_lt hdl, Nat.add_zero]
      have hr' : (b * 64 + v) % 2 ^ (m + 6 - 8) = vals ((rem ++ bits6 v).drop 8) := by
        rw [← hval, Nat.mul_comm, Nat.mul_add_mod, Nat.mod_eq_of_lt hdl]
      rw [hq, hr']
      obtain ⟨rem', h1, h2, h3, h4⟩ := dec_bits l (out ++ [UInt8.ofNat (vals ((rem ++ bits6 v).take 8))]) _ (m + 6 - 8) ((rem ++ bits6 v).drop 8) (fun x hx => ha x (by simp [hx])) hDl rfl (by omega) (by omega) hDlt
      refine ⟨rem', ?_, h2, h3, h4⟩
      rw [← h1, hD]
      have hB : bitsB (out ++ [UInt8.ofNat (vals ((rem ++ bits6 v).take 8))]) = bitsB out ++ (rem ++ bits6 v).take 8 := by
        simp only [bitsB, List.flatMap_append, List.flatMap_cons, List.flatMap_nil, List.append_nil]
        rw [bits8_vals _ hT hTlt]
      rw [hB, List.append_assoc (bitsB out) (List.take 8 _), hsplit]
      simp
    · have hst : dstep (out, b, m) c = (out, b * 64 + v, m + 6) := by simp only [dstep, if_neg h8, hvn]
      rw [hst]
      obtain ⟨rem', h1, h2, h3, h4⟩ := dec_bits l out _ (m + 6) (rem ++ bits6 v) (fun x hx => ha x (by simp [hx])) hlen hv2 (by omega) (by omega) hlt
      exact ⟨rem', by rw [← h1, hD]; simp, h2, h3, h4⟩

theorem chunk8_bitsB : ∀ (out : List UInt8) (rem : List Nat), rem.length < 8 → chunk8 (bitsB out ++ rem) = out
  | [], rem, h => by simpa [bitsB] using chunk8_short rem h
  | a :: out, rem, h => by
    have e : bitsB (a :: out) ++ rem = bits8 a ++ (bitsB out ++ rem) := by simp [bitsB]
    have h8 := bits8_length a
    rw [e, chunk8_take _ (by simp [h8]), List.take_append_of_le_length (by omega), List.take_of_length_le (by omega), List.drop_append_of_le_length (by omega), List.drop_of_length_le (by omega), List.nil_append, chunk8_bitsB out rem h]
    congr 1
    have ha := a.toNat_lt
    refine ofNat_eq ?_
    simp [bits8, List.range, List.range.loop, vals]
    omega

theorem vals_zero : ∀ (x : List Nat), vals x = 0 ↔ ∀ b ∈ x, b = 0 := by
  have key : ∀ (x : List Nat) (a : Nat), x.foldl (fun a b => 2 * a + b) a = 0 ↔ a = 0 ∧ ∀ b ∈ x, b = 0 := by
    intro x
    induction x with
    | nil => intro a; simp
    | cons b x ih => intro a; simp only [List.foldl_cons, ih, List.mem_cons, forall_eq_or_imp]; constructor
                     · rintro ⟨h1, h2⟩; exact ⟨by omega, by omega, h2⟩
                     · rintro ⟨h1, h2, h3⟩; exact ⟨by omega, h3⟩
  intro x
  have := key x 0
  simp at this
  exact this

/-- What the reference decodes. -/
theorem dec_ref (l : List UInt8) (ha : ∀ c ∈ l, 0 ≤ numB c) (h4 : l.length % 4 ≠ 1) :
    decB l = if ∀ b ∈ (bitsD l).drop (8 * (chunk8 (bitsD l)).length), b = 0 then (chunk8 (bitsD l), 0, 0) else ([], 21, (l.length : Int) - 1) := by
  obtain ⟨rem, h1, h2, h3, h5⟩ := dec_bits l [] 0 0 [] ha rfl rfl (by decide) (by decide) (by simp)
  simp only [bitsB, List.flatMap_nil, List.nil_append] at h1
  have hc : chunk8 (bitsD l) = (l.foldl dstep ([], 0, 0)).1 := by rw [h1]; exact chunk8_bitsB _ _ h2
  have hd : (bitsD l).drop (8 * (chunk8 (bitsD l)).length) = rem := by
    rw [hc]
    have := bitsB_length (l.foldl dstep ([], 0, 0)).1
    rw [h1]
    exact List.drop_left' this
  rw [hd]
  unfold decB
  rw [bad_none l ha]
  simp only
  rw [if_neg h4, hc]
  have hz := vals_zero rem
  rw [h3] at hz
  by_cases h0 : (l.foldl dstep ([], 0, 0)).2.1 = 0
  · rw [if_pos h0, if_pos (hz.1 h0)]
  · rw [if_neg h0, if_neg (fun h => h0 (hz.2 h))]

end Go.Proofs.Ytidmkmipgclfjaa.P
