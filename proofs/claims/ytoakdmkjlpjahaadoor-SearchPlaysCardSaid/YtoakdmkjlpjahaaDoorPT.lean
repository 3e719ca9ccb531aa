import Derived.Test.YtoakdmkjlpjahaaDoorPF
import Derived.Lib.MapLaws
import Derived.Test.YtoakdmkjlpjahaaDoorPO
import Derived.Test.YtoakdmkjlpjahaaDoorPG
namespace Go.Proofs.YtoakdmkjlpjahaaDoor
open Go.Mx
set_option linter.unusedVariables false
set_option linter.unusedSimpArgs false
set_option linter.unnecessarySimpa false

/-! ### Letters of a text -/
theorem decN_loc {m b0 b1 b2 b3 c n m' b1' b2' b3' : Nat} (h : Go.Lib.decodeN m b0 b1 b2 b3 = (c, n)) (hv : ¬ (c = 65533 ∧ n = 1)) (hm : n ≤ m') (h1 : 1 < n → b1' = b1) (h2 : 2 < n → b2' = b2) (h3 : 3 < n → b3' = b3) : Go.Lib.decodeN m' b0 b1' b2' b3' = (c, n) := by
  unfold Go.Lib.decodeN at h ⊢
  by_cases c0 : b0 < 128
  · rw [if_pos c0] at h ⊢; exact h
  · rw [if_neg c0] at h ⊢
    by_cases c1 : b0 / 32 = 6 ∧ (1 < m ∧ b1 / 64 = 2)
    · rw [if_pos c1] at h
      split at h
      · simp at h
        obtain ⟨rfl, rfl⟩ := h
        rw [h1 (by omega)]
        rw [if_pos ⟨c1.1, by omega, c1.2.2⟩, if_pos (by assumption)]
      · simp at h; omega
    · rw [if_neg c1] at h
      by_cases c2 : b0 / 16 = 14 ∧ (1 < m ∧ b1 / 64 = 2) ∧ (2 < m ∧ b2 / 64 = 2)
      · rw [if_pos c2] at h
        split at h
        · simp at h
          obtain ⟨rfl, rfl⟩ := h
          rw [h1 (by omega), h2 (by omega)]
          rw [if_neg (by omega), if_pos ⟨c2.1, ⟨by omega, c2.2.1.2⟩, by omega, c2.2.2.2⟩, if_pos (by assumption)]
        · simp at h; omega
      · rw [if_neg c2] at h
        by_cases c3 : b0 / 8 = 30 ∧ (1 < m ∧ b1 / 64 = 2) ∧ (2 < m ∧ b2 / 64 = 2) ∧ (3 < m ∧ b3 / 64 = 2)
        · rw [if_pos c3] at h
          split at h
          · simp at h
            obtain ⟨rfl, rfl⟩ := h
            rw [h1 (by omega), h2 (by omega), h3 (by omega)]
            rw [if_neg (by omega), if_neg (by omega), if_pos ⟨c3.1, ⟨by omega, c3.2.1.2⟩, ⟨by omega, c3.2.2.1.2⟩, by omega, c3.2.2.2.2⟩, if_pos (by assumption)]
          · simp at h; omega
        · rw [if_neg c3] at h
          simp at h; omega
/-- Behind the end a byte below 128 is as good as none. -/
theorem decN_end {k b0 b1 b2 b3 m a1 a2 a3 : Nat} (h1 : 1 < k → a1 = b1 ∧ 1 < m) (h2 : 2 < k → a2 = b2 ∧ 2 < m) (h3 : 3 < k → a3 = b3 ∧ 3 < m) (e1 : k = 1 → a1 < 128) (e2 : k = 2 → a2 < 128) (e3 : k = 3 → a3 < 128) (hk : 1 ≤ k) : Go.Lib.decodeN m b0 a1 a2 a3 = Go.Lib.decodeN k b0 b1 b2 b3 := by
  have key : ∀ j x y : Nat, j = 1 ∨ j = 2 ∨ j = 3 → True := fun _ _ _ _ => trivial
  have q1 : (1 < m ∧ a1 / 64 = 2) ↔ (1 < k ∧ b1 / 64 = 2) := by
    constructor
    · rintro ⟨x, y⟩
      rcases Nat.lt_or_ge 1 k with h | h
      · exact ⟨h, by rw [← (h1 h).1]; exact y⟩
      · have := e1 (by omega); omega
    · rintro ⟨x, y⟩
      exact ⟨(h1 x).2, by rw [(h1 x).1]; exact y⟩
  have q2 : (1 < m ∧ a1 / 64 = 2) ∧ (2 < m ∧ a2 / 64 = 2) ↔ (1 < k ∧ b1 / 64 = 2) ∧ (2 < k ∧ b2 / 64 = 2) := by
    rw [q1]
    constructor
    · rintro ⟨x, y, z⟩
      refine ⟨x, ?_⟩
      rcases Nat.lt_or_ge 2 k with h | h
      · exact ⟨h, by rw [← (h2 h).1]; exact z⟩
      · have := e2 (by omega); omega
    · rintro ⟨x, y, z⟩
      exact ⟨x, (h2 y).2, by rw [(h2 y).1]; exact z⟩
  have q3 : (1 < m ∧ a1 / 64 = 2) ∧ (2 < m ∧ a2 / 64 = 2) ∧ (3 < m ∧ a3 / 64 = 2) ↔ (1 < k ∧ b1 / 64 = 2) ∧ (2 < k ∧ b2 / 64 = 2) ∧ (3 < k ∧ b3 / 64 = 2) := by
    constructor
    · rintro ⟨x, y, z⟩
      have h := q2.1 ⟨x, y⟩
      refine ⟨h.1, h.2, ?_⟩
      rcases Nat.lt_or_ge 3 k with h' | h'
      · exact ⟨h', by rw [← (h3 h').1]; exact z.2⟩
      · have := e3 (by omega); omega
    · rintro ⟨x, y, z⟩
      have h := q2.2 ⟨x, y⟩
      exact ⟨h.1, h.2, (h3 z.1).2, by rw [(h3 z.1).1]; exact z.2⟩
  unfold Go.Lib.decodeN
  by_cases c0 : b0 < 128
  · rw [if_pos c0, if_pos c0]
  · rw [if_neg c0, if_neg c0]
    by_cases c1 : b0 / 32 = 6 ∧ (1 < k ∧ b1 / 64 = 2)
    · rw [if_pos c1, if_pos ⟨c1.1, q1.2 c1.2⟩, (h1 c1.2.1).1]
    · rw [if_neg c1, if_neg (fun h => c1 ⟨h.1, q1.1 h.2⟩)]
      by_cases c2 : b0 / 16 = 14 ∧ (1 < k ∧ b1 / 64 = 2) ∧ (2 < k ∧ b2 / 64 = 2)
      · rw [if_pos c2, if_pos ⟨c2.1, q2.2 c2.2⟩, (h1 c2.2.1.1).1, (h2 c2.2.2.1).1]
      · rw [if_neg c2, if_neg (fun h => c2 ⟨h.1, q2.1 h.2⟩)]
        by_cases c3 : b0 / 8 = 30 ∧ (1 < k ∧ b1 / 64 = 2) ∧ (2 < k ∧ b2 / 64 = 2) ∧ (3 < k ∧ b3 / 64 = 2)
        · rw [if_pos c3, if_pos ⟨c3.1, q3.2 c3.2⟩, (h1 c3.2.1.1).1, (h2 c3.2.2.1.1).1, (h3 c3.2.2.2.1).1]
        · rw [if_neg c3, if_neg (fun h => c3 ⟨h.1, q3.1 h.2⟩)]
theorem dec_L (l : LB) (h : l ≠ []) : dec l = Go.Lib.decodeL l := by unfold dec; rw [if_neg h]; rfl
theorem dec_le (l : LB) (h : l ≠ []) : (dec l).2 ≤ l.length := by rw [dec_L l h]; exact Go.Lib.decodeL_le l h
theorem dec_pos (l : LB) (h : l ≠ []) : 1 ≤ (dec l).2 := by
  obtain ⟨c, t, rfl⟩ := List.exists_cons_of_ne_nil h
  rw [dec_cons]
  unfold Go.Lib.decodeN
  (repeat' split) <;> simp
theorem dec_end (x q : LB) (a : UInt8) (hx : x ≠ []) (ha : a.toNat < 128) : dec (x ++ a :: q) = dec x := by
  obtain ⟨c, t, rfl⟩ := List.exists_cons_of_ne_nil hx
  rw [List.cons_append, dec_cons, dec_cons]
  match t with
  | [] => refine decN_end ?_ ?_ ?_ ?_ ?_ ?_ ?_ <;> simp; omega
  | [t0] => refine decN_end ?_ ?_ ?_ ?_ ?_ ?_ ?_ <;> simp; omega
  | [t0, t1] => refine decN_end ?_ ?_ ?_ ?_ ?_ ?_ ?_ <;> simp; omega
  | t0 :: t1 :: t2 :: t => refine decN_end ?_ ?_ ?_ ?_ ?_ ?_ ?_ <;> simp
theorem dec_head (l rest : LB) (h : l ≠ []) (hv : ¬ ((dec l).1 = 65533 ∧ (dec l).2 = 1)) : dec (l.take (dec l).2 ++ rest) = dec l := by
  have hn := dec_pos l h
  have hle := dec_le l h
  obtain ⟨c, t, rfl⟩ := List.exists_cons_of_ne_nil h
  obtain ⟨n, hn'⟩ : ∃ n, (dec (c :: t)).2 = n + 1 := ⟨(dec (c :: t)).2 - 1, by omega⟩
  have hd : dec (c :: t) = ((dec (c :: t)).1, n + 1) := by rw [← hn']
  rw [hn', List.take_succ_cons, List.cons_append, dec_cons, hd]
  rw [dec_cons] at hd
  rw [hn'] at hv hle
  rw [dec_cons] at hv
  simp only [List.length_cons] at hle
  have g : ∀ j, j < n → (t.take n ++ rest).getD j 0 = t.getD j 0 := fun j hj => by
    rw [List.getD_eq_getElem?_getD, List.getD_eq_getElem?_getD, List.getElem?_append_left (by simp; omega), List.getElem?_take, if_pos hj]
  have := decN_loc (m' := (t.take n ++ rest).length + 1) (b1' := ((t.take n ++ rest).getD 0 0).toNat) (b2' := ((t.take n ++ rest).getD 1 0).toNat) (b3' := ((t.take n ++ rest).getD 2 0).toNat) hd hv (by simp; omega) (fun hj => by rw [g 0 (by omega)]) (fun hj => by rw [g 1 (by omega)]) (fun hj => by rw [g 2 (by omega)])
  rw [dec_cons c t]; exact this
end Go.Proofs.YtoakdmkjlpjahaaDoor

namespace Go.Proofs.YtoakdmkjlpjahaaDoor
open Go.Mx
set_option linter.unusedVariables false
set_option linter.unusedSimpArgs false
set_option linter.unnecessarySimpa false

/-! ### A text as letters and gaps -/
inductive Tok where
  | let_ (u : LB)
  | gap (star : Bool)
/-- The first letter, or what stands in its place. -/
def tok1 (l : LB) : Tok := if letB (lowC (dec l).1) (dec l).2 = true then .let_ (Lib.encodeRune (lowC (dec l).1)) else .gap (decide (lowC (dec l).1 = 42))
def tkF : Nat → LB → List Tok
  | 0, _ => []
  | f + 1, l => if l = [] then [] else tok1 l :: tkF f (l.drop (dec l).2)
def tks (l : LB) : List Tok := tkF l.length l
def grp : List Tok → LB → List W2
  | [], cur => if cur = [] then [] else [(cur, false)]
  | .let_ u :: ts, cur => grp ts (cur ++ u)
  | .gap s :: ts, cur => if cur = [] then grp ts [] else (cur, s) :: grp ts []
theorem tkF_fuel : ∀ (f g : Nat) (l : LB), l.length ≤ f → l.length ≤ g → tkF f l = tkF g l
  | 0, g, l, h, _ => by
    have : l = [] := List.length_eq_zero_iff.1 (by omega)
    subst this
    cases g <;> simp [tkF]
  | f + 1, 0, l, _, h => by
    have : l = [] := List.length_eq_zero_iff.1 (by omega)
    subst this
    simp [tkF]
  | f + 1, g + 1, l, h1, h2 => by
    unfold tkF
    split
    · rfl
    · rename_i hne
      have := dec_pos l hne
      have hl : 0 < l.length := List.length_pos_iff.2 hne
      rw [tkF_fuel f g _ (by rw [List.length_drop]; omega) (by rw [List.length_drop]; omega)]
theorem tks_nil : tks [] = [] := rfl
theorem tks_step (l : LB) (h : l ≠ []) : tks l = tok1 l :: tks (l.drop (dec l).2) := by
  have hl : 0 < l.length := List.length_pos_iff.2 h
  have hp := dec_pos l h
  obtain ⟨f, hf⟩ : ∃ f, l.length = f + 1 := ⟨l.length - 1, by omega⟩
  unfold tks
  rw [hf]
  show (if l = [] then [] else tok1 l :: tkF f (l.drop (dec l).2)) = _
  rw [if_neg h, tkF_fuel f (l.drop (dec l).2).length _ (by rw [List.length_drop]; omega) (Nat.le_refl _)]
/-- Split, by letters. -/
theorem splF_grp (l : LB) : ∀ (f pos : Nat) (cur : LB) (acc : List W2), pos ≤ l.length → l.length < pos + f → splF l f pos cur acc = acc ++ grp (tks (l.drop pos)) cur
  | 0, pos, cur, acc, h1, h2 => by omega
  | f + 1, pos, cur, acc, h1, h2 => by
    unfold splF
    rw [if_pos h1]
    by_cases hlt : pos < l.length
    · have hne : l.drop pos ≠ [] := by
        intro h
        have := congrArg List.length h
        simp at this; omega
      have hp := dec_pos _ hne
      have hle := dec_le _ hne
      rw [List.length_drop] at hle
      have hm : max 1 (dec (l.drop pos)).2 = (dec (l.drop pos)).2 := by omega
      rw [hm, tks_step _ hne, List.drop_drop]
      have ih := fun cur acc => splF_grp l f (pos + (dec (l.drop pos)).2) cur acc (by omega) (by omega)
      unfold tok1
      by_cases hL : letB (lowC (dec (l.drop pos)).1) (dec (l.drop pos)).2 = true
      · rw [if_pos ⟨hlt, hL⟩, if_pos hL, ih]; rfl
      · rw [if_neg (fun h => hL h.2), if_neg hL]
        by_cases hc : cur = []
        · rw [if_pos hc, ih, hc]
          simp [grp]
        · rw [if_neg hc, ih]
          simp [grp, hc]
    · have hpl : pos = l.length := by omega
      have hd : l.drop pos = [] := by rw [hpl]; simp
      have e0 : dec [] = (65533, 0) := rfl
      rw [if_neg (fun h => hlt h.1), hd, e0, tks_nil]
      have hlow : lowC 65533 = 65533 := rfl
      have hend : ∀ acc, splF l f (pos + max 1 0) [] acc = acc := fun acc => by
        cases f with
        | zero => rfl
        | succ f => unfold splF; rw [if_neg (by omega)]
      by_cases hc : cur = []
      · rw [if_pos hc, hc, hend]; simp [grp]
      · rw [if_neg hc, hend, hlow]; simp [grp, hc]
theorem splL_grp (l : LB) : splL l = grp (tks l) [] := by
  unfold splL
  rw [splF_grp l _ 0 [] [] (by omega) (by omega)]
  simp
theorem grp_gap (s : Bool) (us : List Tok) : ∀ (ts : List Tok) (cur : LB), grp (ts ++ .gap false :: us) cur = grp ts cur ++ grp us []
  | [], cur => by
    simp only [List.nil_append, grp]
    split <;> simp
  | .let_ u :: ts, cur => by simp only [List.cons_append, grp]; exact grp_gap s us ts _
  | .gap b :: ts, cur => by
    simp only [List.cons_append, grp]
    split
    · exact grp_gap s us ts _
    · rw [grp_gap s us ts]; rfl
theorem low_42 : lowC 42 = 42 := rfl
theorem tok_ascii (a : UInt8) (q : LB) (ha : a.toNat < 128) : tks (a :: q) = (if letB (lowC a.toNat) 1 = true then Tok.let_ (Lib.encodeRune (lowC a.toNat)) else .gap (decide (lowC a.toNat = 42))) :: tks q := by
  rw [tks_step _ (by simp), dec_ascii a q ha]
  unfold tok1
  rw [dec_ascii a q ha]
  rfl
/-- A byte below 128 parts a text. -/
theorem tks_end (a : UInt8) (ha : a.toNat < 128) (q : LB) : ∀ (n : Nat) (x : LB), x.length ≤ n → tks (x ++ a :: q) = tks x ++ tks (a :: q)
  | 0, x, h => by
    have : x = [] := List.length_eq_zero_iff.1 (by omega)
    subst this; rfl
  | n + 1, x, h => by
    by_cases hx : x = []
    · subst hx; rfl
    · have hd := dec_end x q a hx ha
      have hp := dec_pos x hx
      have hle := dec_le x hx
      rw [tks_step _ (by simp), tks_step x hx, hd, List.drop_append_of_le_length hle, List.cons_append]
      rw [tks_end a ha q n (x.drop (dec x).2) (by rw [List.length_drop]; omega)]
      congr 1
      unfold tok1
      rw [hd]
theorem splL_space (p q : LB) : splL (p ++ 32 :: q) = splL p ++ splL q := by
  rw [splL_grp, splL_grp, splL_grp, tks_end 32 (by decide) q p.length p (Nat.le_refl _), tok_ascii 32 q (by decide)]
  have e : letB (lowC (32 : UInt8).toNat) 1 = false := by decide
  have e2 : decide (lowC (32 : UInt8).toNat = 42) = false := by decide
  rw [if_neg (by rw [e]; simp), e2]
  exact grp_gap false _ _ _
/-- A letter's bytes, wherever they stand. -/
def GoodU (u : LB) : Prop := u ≠ [] ∧ ∀ rest, tks (u ++ rest) = .let_ u :: tks rest
theorem lowC_idem (c : Nat) : lowC (lowC c) = lowC c := by
  unfold lowC
  (repeat' split) <;> omega
theorem letB_ascii {c n : Nat} (h : letB c n = true) (hc : c < 128) (m : Nat) : letB c m = true := by
  unfold letB at h ⊢
  simp only [Bool.or_eq_true, Bool.and_eq_true, decide_eq_true_eq] at h ⊢
  rcases h with h | h
  · exact .inl h
  · omega
theorem good_tok (l : LB) (hl : l ≠ []) (hL : letB (lowC (dec l).1) (dec l).2 = true) : GoodU (Lib.encodeRune (lowC (dec l).1)) := by
  by_cases hc : (dec l).1 < 128
  · -- a byte
    have hlow : lowC (dec l).1 < 128 := by unfold lowC; split <;> omega
    have henc : ∀ c : Nat, c < 128 → Lib.encodeRune (c : Int) = [UInt8.ofNat c] := fun c hc => by
      unfold Lib.encodeRune
      rw [Lib.encodeRuneZ_one (by omega) (by omega)]
      simp
    rw [henc _ hlow]
    refine ⟨by simp, fun rest => ?_⟩
    have hn : (UInt8.ofNat (lowC (dec l).1)).toNat = lowC (dec l).1 := by simp; omega
    show tks (UInt8.ofNat (lowC (dec l).1) :: rest) = _
    rw [tok_ascii _ rest (by rw [hn]; exact hlow), hn, lowC_idem, if_pos (letB_ascii hL hlow 1), henc _ hlow]
  · have hlow : lowC (dec l).1 = (dec l).1 := by unfold lowC; rw [if_neg (by omega)]
    rw [hlow] at hL ⊢
    have hv : ¬ ((dec l).1 = 65533 ∧ (dec l).2 = 1) := fun h => by
      unfold letB at hL
      rw [h.1, h.2] at hL
      exact absurd hL (by decide)
    have henc : Lib.encodeRune ((dec l).1 : Int) = l.take (dec l).2 := by
      rw [dec_L l hl] at hv ⊢
      exact Lib.encode_decode l hl hv
    have hp := dec_pos l hl
    have hle := dec_le l hl
    rw [henc]
    have hne : l.take (dec l).2 ≠ [] := fun h => by
      have h2 : (l.take (dec l).2).length = 0 := by rw [h]; rfl
      rw [List.length_take] at h2; omega
    refine ⟨hne, fun rest => ?_⟩
    have hd := dec_head l rest hl hv
    have hlen : (l.take (dec l).2).length = (dec l).2 := by rw [List.length_take]; omega
    rw [tks_step _ (by simp [hne]), hd]
    have hdr : (l.take (dec l).2 ++ rest).drop (dec l).2 = rest := by
      rw [List.drop_left' hlen]
    rw [hdr]
    congr 1
    unfold tok1
    rw [hd, hlow, if_pos hL, henc]
def GoodT : Tok → Prop
  | .let_ u => GoodU u
  | .gap _ => True
theorem good_tks : ∀ (n : Nat) (l : LB), l.length ≤ n → ∀ t ∈ tks l, GoodT t
  | 0, l, h, t, ht => by
    have : l = [] := List.length_eq_zero_iff.1 (by omega)
    subst this; simp [tks_nil] at ht
  | n + 1, l, h, t, ht => by
    by_cases hl : l = []
    · subst hl; simp [tks_nil] at ht
    · rw [tks_step l hl] at ht
      have hp := dec_pos l hl
      rcases List.mem_cons.1 ht with rfl | ht
      · unfold tok1
        split
        · rename_i hL; exact good_tok l hl hL
        · trivial
      · exact good_tks n _ (by rw [List.length_drop]; omega) t ht
/-- A word of letters. -/
def GoodW (w : LB) : Prop := w ≠ [] ∧ ∃ us : List LB, w = us.flatten ∧ ∀ u ∈ us, GoodU u
theorem grp_good : ∀ (ts : List Tok) (us : List LB), (∀ t ∈ ts, GoodT t) → (∀ u ∈ us, GoodU u) → ∀ x ∈ grp ts us.flatten, GoodW x.1
  | [], us, _, hu, x, hx => by
    simp only [grp] at hx
    split at hx
    · simp at hx
    · rename_i hne; simp at hx; subst hx; exact ⟨hne, us, rfl, hu⟩
  | .let_ u :: ts, us, ht, hu, x, hx => by
    simp only [grp] at hx
    have e : us.flatten ++ u = (us ++ [u]).flatten := by simp
    rw [e] at hx
    exact grp_good ts (us ++ [u]) (fun t h => ht t (by simp [h])) (fun v hv => by
      rcases List.mem_append.1 hv with hv | hv
      · exact hu v hv
      · simp at hv; subst hv; exact ht (.let_ v) (by simp)) x hx
  | .gap s :: ts, us, ht, hu, x, hx => by
    simp only [grp] at hx
    have h0 := grp_good ts [] (fun t h => ht t (by simp [h])) (by simp)
    split at hx
    · exact h0 x hx
    · rename_i hne
      rcases List.mem_cons.1 hx with rfl | hx
      · exact ⟨hne, us, rfl, hu⟩
      · exact h0 x hx
theorem word_good {s w : LB} (h : w ∈ wordsL s) : GoodW w := by
  obtain ⟨x, hx, rfl⟩ := List.mem_map.1 h
  rw [splL_grp] at hx
  exact grp_good (tks s) [] (good_tks s.length s (Nat.le_refl _)) (by simp) x hx
theorem tks_word : ∀ (us : List LB), (∀ u ∈ us, GoodU u) → ∀ rest, tks (us.flatten ++ rest) = us.map .let_ ++ tks rest
  | [], _, rest => by simp
  | u :: us, h, rest => by
    have := (h u (by simp)).2 (us.flatten ++ rest)
    simp only [List.flatten_cons, List.append_assoc, List.map_cons, List.cons_append]
    rw [this, tks_word us (fun v hv => h v (by simp [hv])) rest]
theorem grp_lets : ∀ (us : List LB) (ts : List Tok) (cur : LB), grp (us.map .let_ ++ ts) cur = grp ts (cur ++ us.flatten)
  | [], ts, cur => by simp
  | u :: us, ts, cur => by
    simp only [List.map_cons, List.cons_append, grp]
    rw [grp_lets us ts]
    simp
/-- A word is one word; with a star behind it, it begins others. -/
theorem splL_word {s w : LB} (h : w ∈ wordsL s) : splL w = [(w, false)] ∧ splL (w ++ [42]) = [(w, true)] := by
  obtain ⟨hne, us, rfl, hu⟩ := word_good h
  have e1 := tks_word us hu []
  have e2 := tks_word us hu [42]
  rw [List.append_nil] at e1
  have e3 : tks [42] = [.gap true] := by
    rw [tok_ascii 42 [] (by decide)]
    rfl
  constructor
  · rw [splL_grp, e1, grp_lets, tks_nil]
    simp only [List.nil_append, grp]
    rw [if_neg hne]
  · rw [splL_grp, e2, grp_lets, e3]
    simp only [List.nil_append, grp]
    rw [if_neg hne]
    simp
end Go.Proofs.YtoakdmkjlpjahaaDoor

namespace Go.Proofs.YtoakdmkjlpjahaaDoor
open Go.Mx
set_option linter.unusedVariables false
set_option linter.unusedSimpArgs false
set_option linter.unnecessarySimpa false
set_option maxRecDepth 100000

def InInv (H : Hp) (s : LB) (x : Bool) (l : List LB) (cs : List AV) (n : Nat) (xs : List AV) (H2 : Hp) : Prop :=
  ∃ i : Nat, i ≤ l.length ∧ n = l.length - i ∧ xs = [.v (.string (tx s)), .row x l.length cs, .v (.int .i64 (i : Int))] ∧ s ∉ l.take i ∧ H2 = H
theorem in_sp (s : LB) (x : Bool) (l : List LB) (H : Hp) (Q : AV → Hp → Prop) (hl : l.length ≤ 100000) (h : Q (.v (.bool (decide (s ∈ l)))) H) : Sp Tryd.prog 19 [.v (.string (tx s)), .row x l.length (l.flatMap txC)] Q H := by
  refine Sp.body [(2, ⟨[0, 1, 5], [], []⟩)] ⟨[], [], []⟩ [] mo Tryd.func19 rfl (Nat.le_of_ble_eq_true rfl) (by kernel_rfl) ?_
  have lc : (l.flatMap txC).length = l.length := by rw [flat_len txC_len, Nat.mul_one]
  have lg : ∀ {i : Nat} {w : LB}, l[i]? = some w → (l.flatMap txC)[i]? = some (.v (.string (tx w))) := fun {i w} hw => by
    rw [flat_st, List.getElem?_map]; simp [stC, hw]
  generalize l.flatMap txC = cl at lc lg ⊢
  simp [ev_seq, ev_block, ev_region2, ev_loop, loopK, evOps_nil, evOps_cons, opG_none, opA_assign, putO_some, putH_lt, opS, opV, Go.Mx.look, fr0, argSlots, seqK, mapO, headK, getV, getB, chkP, firstReg]
  refine LoopC.intro (fun n xs _ H2 => InInv H s x l cl n xs H2) l.length ⟨0, by omega, by omega, by simp, by simp, rfl⟩ ?_
  rintro n xs bs H2 ⟨i, hi, rfl, rfl, hno, rfl⟩
  by_cases hlt : i < l.length
  · obtain ⟨a, ha⟩ : ∃ a, l[i]? = some a := ⟨_, List.getElem?_eq_getElem hlt⟩
    have hlt' : (i : Int) < (l.length : Int) := by omega
    have a1 := lg ha
    have a2 : i < cl.length := by omega
    have a3 : cl[i] = .v (.string (tx a)) := (List.getElem?_eq_some_iff.1 a1).2
    have w1 : IntKind.i64.wrap ((i : Int) + 1) = (i : Int) + 1 := wr_i64 (by omega)
    by_cases has : a = s
    · have hm : decide (s ∈ l) = true := by simp; rw [← has]; exact List.mem_of_getElem? ha
      rw [hm] at h
      simp [ev_skip, ev_seq, ev_cond2, ev_block, ev_ret, ev_region2, evOps_nil, evOps_cons, opG_none, opA_move, opA_assign, opA_bin, opA_load, opA_indexAddr, opA_len, putO_some, putH_lt, condB_true, binT_some, binA, avO_some, loadT, lenT_row, indexAddrT, io_lss, strOp, opS, opV, Go.Mx.look, seqK, blockK, Fr.known, retK, retA, resA, mapO, partA, loadA, loadS, indexAddrA, mkFr, slotsOf, ptrsOf, boxesOf, orO_some, eqT_some, tk3, sz9, ag9, tk9, Tryd.underlying23, tx_list, hlt', a2, a3, has]
      exact h
    · simp [ev_skip, ev_seq, ev_cond2, ev_block, ev_region2, evOps_nil, evOps_cons, opG_none, opA_move, opA_assign, opA_bin, opA_load, opA_indexAddr, opA_len, putO_some, putH_lt, condB_true, CondP_false, binT_some, binA, avO_some, loadT, lenT_row, indexAddrT, io_add, io_lss, strOp, opS, opV, Go.Mx.look, seqK, blockK, Fr.known, mapO, partA, loadA, loadS, indexAddrA, headK, getV, getB, chkP, mkFr, slotsOf, ptrsOf, boxesOf, orO_some, eqT_some, tk3, sz9, ag9, tk9, Tryd.underlying23, tx_list, hlt', a2, a3, has, w1]
      refine ⟨l.length - (i + 1), by omega, i + 1, by omega, rfl, by simp, ?_, rfl⟩
      rw [List.take_add_one, ha]
      simp; exact ⟨hno, fun e => has e.symm⟩
  · have hii : i = l.length := by omega
    subst hii
    rw [List.take_length] at hno
    have hm : decide (s ∈ l) = false := by simpa using hno
    rw [hm] at h
    have hlt' : ¬ ((l.length : Int) < (l.length : Int)) := by omega
    simp [ev_seq, ev_cond2, ev_exit, ev_ret, ev_region2, evOps_nil, evOps_cons, opG_none, opA_move, opA_assign, opA_bin, opA_len, putO_some, putH_lt, condB_false, binT_some, binA, avO_some, lenT_row, io_lss, opS, opV, Go.Mx.look, seqK, blockK, Fr.known, retK, retA, resA, mapO, mkFr, slotsOf, ptrsOf, boxesOf, orO_some, eqT_some, tk3, Tryd.underlying23]
    exact h
theorem mem_findF {L : List Tx3} {q s : LB} {lim : Int} (hl : (L.length : Int) ≤ lim) (h1 : 1 ≤ lim) : s ∈ findF L q lim ↔ splL q ≠ [] ∧ s ∈ foundL L q := by
  have hf := found_len L q
  unfold findF
  by_cases h0 : splL q = []
  · rw [if_pos (.inl h0)]; simp [h0]
  · rw [if_neg (by rintro (h | h); exact h0 h; omega)]
    rw [List.take_of_length_le (by rw [sortT_len]; omega), (sortT_perm L _).mem_iff]
    simp [h0]
theorem findF_le (L : List Tx3) (q : LB) (lim : Int) : (findF L q lim).length ≤ L.length := by
  have := found_len L q
  unfold findF
  split
  · simp
  · rw [List.length_take, sortT_len]; omega
theorem remL_no {L : List Tx3} {id : LB} (h : id ∉ L.map (·.id)) : remL L id = L := by
  unfold remL
  rw [List.filter_eq_self]
  intro t ht
  simp
  exact fun e => h (e ▸ List.mem_map.2 ⟨t, ht, rfl⟩)
theorem remL_add {L : List Tx3} {t : Tx3} (h : t.id ∉ L.map (·.id)) : remL (L ++ [t]) t.id = L := by
  have h1 := remL_no h
  unfold remL at h1 ⊢
  rw [List.filter_append, h1]
  simp
/-- A word of a text finds it. -/
theorem found_word {L : List Tx3} {t : Tx3} (ht : t ∈ L) {w : LB} (hw : w ∈ wordsL t.s) : splL w ≠ [] ∧ t.id ∈ foundL L w := by
  have h := (splL_word hw).1
  refine ⟨by rw [h]; simp, ?_⟩
  unfold foundL
  refine List.mem_map.2 ⟨t, List.mem_filter.2 ⟨ht, ?_⟩, rfl⟩
  rw [h]
  simp only [List.all_cons, List.all_nil, Bool.and_true, hasW, List.any_eq_true]
  exact ⟨w, hw, by simp [fitsW]⟩
def GoInv (l : List De) (x : De) (q : LB) (a b : Nat) (L : List Tx3) (ws : List LB) (cs : List AV) (n : Nat) (xs : List AV) (bs : List (List AV)) (H2 : Hp) : Prop :=
  ∃ (i : Nat) (fp fq : List Nat), i ≤ ws.length ∧ n = ws.length - i ∧ xs = [.v (.string (tx q)), .ptr a 0 0, .ptr b 0 0, .row false ws.length cs, .v (.int .i64 (i : Int))] ∧ bs = [deC x] ∧ Two H2 a b L (L ++ [txD x]) fp fq ∧ Tb H2
set_option maxHeartbeats 4000000 in
theorem gone_sp (l : List De) (x : De) (q : LB) (H : Hp) (hT : Tb H) : Sp Tryd.prog 7 [rowD l, .agg (deC x), .v (.string (tx q))] (fun v _ => v = .v (.bool true)) H := by
  refine Sp.body [(9, ⟨[2, 7, 8, 10, 11], [(4, 4, 0)], [4]⟩)] ⟨[4], [], pl7⟩ tb7 mo Tryd.func7 rfl (Nat.le_of_ble_eq_true rfl) (by kernel_rfl) ?_
  simp [ev_seq, ev_region2, evOps_nil, evOps_cons, opG_none, opA_move, opA_assign, opA_call, opA_box, putO_some, putH_lt, boxT, opS, opV, Go.Mx.look, fr0, argSlots, seqK, Fr.newBox, dropBp, mapO, callA, cellsA_agg, okPart_agg, newK, ok13, pl7, rowD, deC]
  refine few_sp l false H _ (fun hf => ?_) (fun _ => by simp [ev_seq, ev_cond2, ev_ret, ev_region2, evOps_nil, evOps_cons, opG_none, opG_some, opJ, opU_ff, isU_bool, opA_move, opA_assign, opA_pick, opA_un, putO_some, putH_lt, putC_lt, putV_lt, condB_true, pickT, unT, opS, opV, Go.Mx.look, seqK, Fr.known, retK, retA, resA, mapO, unA])
  simp [evOps_cons, opG_none, opG_some, opJ, opU_ff, isU_bool, opK_eq, opA_move, opA_un, opA_load, opA_call, opA_buildSlice, putO_some, putH_lt, putC_lt, condB_false, unT, loadT, buildSliceT, repeatL_1, opS, opV, Go.Mx.look, Fr.known, mapO, unA, callA, cellsA_agg, okPart_agg, partA, loadS, fillA, bindO, Tryd.underlying27, sz34, ag34, ze34, ok13]
  have hfew := fun Q h1 h0 => few_sp [x] true H Q h1 h0
  simp only [List.length_singleton, List.flatMap_cons, List.flatMap_nil, List.append_nil, deC] at hfew
  refine hfew _ (fun hfx => ?_) (fun _ => by simp [ev_seq, ev_cond2, ev_ret, ev_region2, evOps_nil, evOps_cons, opG_none, opG_some, opJ, opU_ff, isU_bool, opK_eq, opA_move, opA_assign, opA_pick, opA_un, putO_some, putH_lt, putC_lt, putV_lt, condB_true, condB_false, pickT, unT, opS, opV, Go.Mx.look, seqK, Fr.known, retK, retA, resA, mapO, unA])
  have hfx := hfx.2 x (by simp)
  by_cases hq : q.length ≤ 100
  · have hq' : ¬ ((100 : Int) < (q.length : Int)) := by omega
    have hsz : (tx q).size = q.length := tx_size q
    simp [ev_skip, ev_seq, ev_cond2, ev_region2, evOps_nil, evOps_cons, opG_none, opG_some, opJ, opU_ff, isU_bool, opK_eq, opA_move, opA_pick, opA_bin, opA_un, opA_len, opA_call, putO_some, putH_lt, putC_lt, condB_false, binT_some, binA, avO_some, pickT, unT, lenT_str, io_gtr, opS, opV, Go.Mx.look, seqK, Fr.known, mapO, unA, callA, orO_some, eqT_some, tk3, Tryd.underlying9, ok18, hsz, hq']
    refine built_sp l false _ _ hf hT (fun a H1 fp hp hs1 hf1 => ?_)
    have hT1 := hT.keep hs1 (by simp) (by simp)
    simp [evOps_cons, opG_none, opA_move, opA_call, putO_some, putH_lt, putC_lt, opS, opV, Go.Mx.look, mapO, callA, ok18]
    refine built_sp l false _ _ hf hT1 (fun b H2 fq hq2 hs2 hf2 => ?_)
    have hT2 := hT1.keep hs2 (by simp) (by simp)
    have htwo : Two H2 a b (builtL l) (builtL l) fp fq := ⟨hp.same hs2 (by simp), hq2, fun j hj hm => by have := hp.lt j hj; have := hf2 j hm; omega⟩
    clear hp hs1 hf1 hq2 hs2 hf2
    have hbl := builtL_len l
    have h50 := hf.1
    have hLok : ((builtL l).map (·.id)).Nodup := by
      obtain ⟨_, _, _, _, _, _, h3, _⟩ := htwo.1
      exact h3.ids
    generalize builtL l = L at htwo hbl hLok
    simp [ev_seq, ev_region2, evOps_nil, evOps_cons, opG_none, opA_move, opA_assign, opA_load, opA_fieldAddr, opA_call, putO_some, putH_lt, putC_lt, loadT, fieldAddrT, opS, opV, Go.Mx.look, seqK, mapO, callA, partA, loadS, plusS, sz2, ag2, sz9, ag9, Tryd.underlying34, ok15]
    refine add_sp (txD x) H2 _ htwo.2.1 hT2 (by omega) (by omega) (by have := hfx.2; simp [txD]; omega) (fun H3 fq3 hq3 hs3 hf3 => ?_)
    have htwo3 := htwo.right hq3 hs3 hf3
    have hT3 := htwo.2.1.tb hT2 hs3
    clear hq3 hs3 hf3 htwo hT2
    by_cases hbad : (txD x).id = [] ∨ (txD x).id ∈ L.map (·.id)
    · obtain ⟨code, hcode, hcn⟩ : ∃ code, addL L (txD x) = (code, L) ∧ code ≠ 0 := by
        unfold addL
        by_cases h0 : (txD x).id = []
        · exact ⟨1, by rw [if_pos h0], by omega⟩
        · exact ⟨4, by rw [if_neg h0, if_pos (hbad.resolve_left h0)], by omega⟩
      rw [hcode] at htwo3
      have hcn' : ¬ ((code : Int) = 0) := by omega
      rw [hcode]
      simp [ev_seq, ev_cond2, ev_region2, evOps_nil, evOps_cons, opG_none, opA_move, opA_assign, opA_bin, opA_call, putO_some, putH_lt, putC_lt, CondP_true, binT_some, binA, avO_some, io_neq, opS, opV, Go.Mx.look, seqK, Fr.known, mapO, callA, orO_some, eqT_some, tk31, ok17, hcn]
      refine len_sp H3 _ htwo3.2.1 ?_
      simp [evOps_cons, opG_none, opA_move, opA_call, putO_some, putH_lt, putC_lt, opS, opV, Go.Mx.look, mapO, callA, ok17]
      refine len_sp H3 _ htwo3.1 ?_
      simp [evOps_cons, opG_none, opG_some, opJ, opU_ft, isU_bool, opK_eq, opA_move, opA_bin, opA_call, putO_some, putH_lt, putC_lt, condB_true, binT_some, binA, avO_some, io_eql, opS, opV, Go.Mx.look, Fr.known, mapO, callA, orO_some, eqT_some, tk3, ok12]
      refine awake_sp _ _ hT3 ?_
      simp [ev_ret, evOps_nil, evOps_cons, opG_none, opA_assign, opA_pick, putO_some, putH_lt, putC_lt, pickT, opS, opV, Go.Mx.look, seqK, retK, retA, resA, mapO]
    · have hn0 : ¬ (txD x).id = [] := fun h => hbad (.inl h)
      have hn1 : (txD x).id ∉ L.map (·.id) := fun h => hbad (.inr h)
      have hcode : addL L (txD x) = (0, L ++ [txD x]) := by unfold addL; rw [if_neg hn0, if_neg hn1]
      rw [hcode] at htwo3
      rw [hcode]
      have hsl := splL_len x.text
      simp [ev_skip, ev_seq, ev_cond2, ev_region2, evOps_nil, evOps_cons, opG_none, opA_move, opA_assign, opA_bin, opA_load, opA_fieldAddr, opA_call, putO_some, putH_lt, putC_lt, condB_false, binT_some, binA, avO_some, loadT, fieldAddrT, io_neq, opS, opV, Go.Mx.look, seqK, Fr.known, mapO, callA, partA, loadS, plusS, orO_some, eqT_some, sz9, ag9, tk31, Tryd.underlying34, ok10]
      refine words_sp x.text (by have := hfx.2; omega) _ hT3 _ (by have := hfx.2; omega) ?_
      have hwl := wordsL_len x.text
      obtain ⟨cs, hcs⟩ : ∃ cs, cs = (wordsL x.text).flatMap txC := ⟨_, rfl⟩
      have hrt : rowT (wordsL x.text) = .row false (wordsL x.text).length cs := by rw [hcs]; rfl
      rw [hrt]
      have lc : cs.length = (wordsL x.text).length := by rw [hcs, flat_len txC_len, Nat.mul_one]
      have hg : ∀ {i : Nat} {w : LB}, (wordsL x.text)[i]? = some w → cs[i]? = some (.v (.string (tx w))) := fun {i w} hw => by
        rw [hcs, flat_st, List.getElem?_map]; simp [stC, hw]
      simp [ev_seq, ev_block, ev_region2, ev_loop, loopK, evOps_nil, evOps_cons, opG_none, opA_assign, putO_some, putH_lt, putC_lt, opS, opV, Go.Mx.look, seqK, mapO, headK, getV, getB, chkP, firstReg]
      refine LoopC.intro (fun n xs bs H2 => GoInv l x q a b L (wordsL x.text) cs n xs bs H2) (wordsL x.text).length ⟨0, fp, fq3, by omega, by omega, by simp, rfl, htwo3, hT3⟩ ?_
      clear htwo3 hT3
      rintro n xs bs H4 ⟨i, fp, fq, hi, rfl, rfl, rfl, htwo, hT4⟩
      have hlen1 : ((L ++ [txD x]).length : Int) ≤ 100 := by simp; omega
      by_cases hlt : i < (wordsL x.text).length
      · obtain ⟨w, hw⟩ : ∃ w, (wordsL x.text)[i]? = some w := ⟨_, List.getElem?_eq_getElem hlt⟩
        have hlt' : (i : Int) < ((wordsL x.text).length : Int) := by omega
        have h100 := hfx.2
        have w1 : IntKind.i64.wrap ((i : Int) + 1) = (i : Int) + 1 := wr_i64 (by omega)
        have a2 : i < cs.length := by omega
        have a3 : cs[i] = .v (.string (tx w)) := (List.getElem?_eq_some_iff.1 (hg hw)).2
        have hwm := List.mem_of_getElem? hw
        have hws := wordsL_small x.text w hwm
        have hfw := found_word (L := L ++ [txD x]) (t := txD x) (by simp) (w := w) hwm
        have hin : decide ((txD x).id ∈ findF (L ++ [txD x]) w 100) = true := by
          rw [decide_eq_true_eq]
          exact (mem_findF hlen1 (by omega)).2 hfw
        have hfl := findF_le (L ++ [txD x]) w 100
        simp [ev_skip, ev_seq, ev_cond2, ev_block, ev_region2, evOps_nil, evOps_cons, opG_none, opA_move, opA_bin, opA_load, opA_indexAddr, opA_fieldAddr, opA_len, opA_call, putO_some, putH_lt, condB_true, binT_some, binA, avO_some, loadT, lenT_row, fieldAddrT, indexAddrT, io_lss, opS, opV, Go.Mx.look, seqK, Fr.known, mapO, callA, partA, loadA, loadS, plusS, indexAddrA, mkFr, slotsOf, ptrsOf, boxesOf, orO_some, eqT_some, ev_draw, drawK, evP_q, evP_s, opAt_some, tk3, sz9, ag9, Tryd.underlying23, Tryd.underlying34, ok16, deC, hlt', a2, a3]
        refine find_sp w 100 H4 _ htwo.2.1 hT4 (by omega) (by have := hfx.2; omega) ?_
        simp [opG_none, opA_call, putC_lt, loadT, fieldAddrT, opS, opV, Go.Mx.look, mapO, callA, partA, loadS, plusS, evP_s, opAt_some, chkK_eq, sameV_some, sameO_some, allQ_nil, allQ_cons, valQ_none, valS_load, valS_fieldAddr, rowT, sz9, ag9, Tryd.underlying34, ok19, rowT]
        refine in_sp (txD x).id false _ _ _ (by simp at hfl; omega) ?_
        rw [hin]
        simp [ev_skip, ev_cond2, ev_region2, evOps_nil, evOps_cons, opG_none, opA_move, opA_assign, opA_bin, opA_un, putO_some, putH_lt, putC_lt, condB_false, binT_some, binA, avO_some, unT, io_add, opS, opV, Go.Mx.look, seqK, blockK, Fr.known, mapO, unA, headK, getV, getB, chkP, orO_some, eqT_some, evP_nil, evP_q, opAt_some, chkK_eq, allQ_nil, tk3, w1]
        exact ⟨(wordsL x.text).length - (i + 1), by omega, i + 1, fp, fq, by omega, rfl, by simp, by simp [deC], htwo, hT4⟩
      · have hii : i = (wordsL x.text).length := by omega
        subst hii
        have hlt' : ¬ (((wordsL x.text).length : Int) < ((wordsL x.text).length : Int)) := by omega
        have wl : IntKind.i64.wrap ((L.length : Int) + 1) = (L.length : Int) + 1 := wr_i64 (by omega)
        have hrem := remL_add (L := L) (t := txD x) hn1
        have hin1 : decide ((txD x).id ∈ (L ++ [txD x]).map (·.id)) = true := by simp
        have hin2 : decide ((txD x).id ∈ L.map (·.id)) = false := by simpa using hn1
        simp [ev_seq, ev_cond2, ev_exit, ev_region2, evOps_nil, evOps_cons, opG_none, opA_move, opA_bin, opA_len, opA_call, putO_some, putH_lt, condB_false, binT_some, binA, avO_some, lenT_row, io_lss, opS, opV, Go.Mx.look, seqK, blockK, Fr.known, mapO, callA, mkFr, slotsOf, ptrsOf, boxesOf, orO_some, eqT_some, tk3, Tryd.underlying23, ok17, deC]
        refine len_sp H4 _ htwo.2.1 ?_
        simp [evOps_cons, opG_none, opA_move, opA_call, putO_some, putH_lt, putC_lt, opS, opV, Go.Mx.look, mapO, callA, ok17]
        refine len_sp H4 _ htwo.1 ?_
        simp [evOps_cons, opG_none, opG_some, opJ, opU_ft, isU_bool, opK_eq, opA_move, opA_bin, opA_load, opA_fieldAddr, opA_call, putO_some, putH_lt, putC_lt, condB_true, binT_some, binA, avO_some, loadT, fieldAddrT, io_add, io_eql, opS, opV, Go.Mx.look, Fr.known, mapO, callA, partA, loadS, plusS, orO_some, eqT_some, tk3, sz9, ag9, Tryd.underlying34, ok22, wl]
        refine remove_sp (txD x).id H4 _ htwo.2.1 (by omega) (fun H5 fq5 hq5 hs5 hf5 => ?_)
        have htwo5 := htwo.right hq5 hs5 (fun j hj => .inl (hf5 j hj))
        have hT5 := htwo.2.1.tb hT4 hs5
        rw [hrem] at htwo5
        rw [hin1]
        clear hq5 hs5 hf5 htwo
        simp [evOps_cons, opG_none, opG_some, opJ, opU_ft, isU_bool, opK_eq, opA_move, opA_pick, opA_load, opA_fieldAddr, opA_call, putO_some, putH_lt, putC_lt, condB_true, pickT, loadT, fieldAddrT, opS, opV, Go.Mx.look, Fr.known, mapO, callA, partA, loadS, plusS, sz9, ag9, Tryd.underlying34, ok22]
        refine remove_sp (txD x).id H5 _ htwo5.2.1 (by omega) (fun H6 fq6 hq6 hs6 hf6 => ?_)
        have htwo6 := htwo5.right hq6 hs6 (fun j hj => .inl (hf6 j hj))
        have hT6 := htwo5.2.1.tb hT5 hs6
        rw [remL_no hn1] at htwo6
        rw [hin2]
        clear hq6 hs6 hf6 htwo5
        have hfl := findF_le L q 100
        simp [evOps_cons, opG_none, opG_some, opJ, opU_ft, isU_bool, opK_eq, opA_move, opA_pick, opA_un, opA_call, putO_some, putH_lt, putC_lt, condB_true, pickT, unT, opS, opV, Go.Mx.look, Fr.known, mapO, unA, callA, ok16]
        refine find_sp q 100 H6 _ htwo6.1 hT6 (by omega) (by omega) ?_
        simp [evOps_cons, opG_some, opJ, opU_ft, isU_bool, opK_eq, opA_move, opA_call, putO_some, putH_lt, putC_lt, condB_true, opS, opV, Go.Mx.look, Fr.known, mapO, callA, rowT, ok16]
        refine find_sp q 100 H6 _ htwo6.2.1 hT6 (by omega) (by omega) ?_
        simp [evOps_cons, opG_some, opJ, opU_ft, isU_bool, opK_eq, opA_call, putC_lt, condB_true, opS, opV, Go.Mx.look, Fr.known, mapO, callA, rowT, ok9, rowT]
        refine strings_sp false false _ _ H6 _ (by omega) ?_
        simp [evOps_cons, opG_none, opG_some, opJ, opU_ft, isU_bool, opK_eq, opA_move, opA_pick, opA_call, putO_some, putH_lt, putC_lt, condB_true, pickT, opS, opV, Go.Mx.look, Fr.known, mapO, callA, ok17]
        refine len_sp H6 _ htwo6.1 ?_
        simp [evOps_cons, opG_some, opJ, opU_ft, isU_bool, opK_eq, opA_move, opA_call, putO_some, putH_lt, putC_lt, condB_true, opS, opV, Go.Mx.look, Fr.known, mapO, callA, ok17]
        refine len_sp H6 _ htwo6.2.1 ?_
        simp [evOps_cons, opG_none, opG_some, opJ, opU_ft, isU_bool, opK_eq, opA_move, opA_pick, opA_bin, opA_call, putO_some, putH_lt, putC_lt, condB_true, binT_some, binA, avO_some, pickT, io_eql, opS, opV, Go.Mx.look, Fr.known, mapO, callA, orO_some, eqT_some, tk3, ok12]
        refine awake_sp _ _ hT6 ?_
        simp [ev_ret, evOps_nil, evOps_cons, opG_none, opA_assign, opA_pick, putO_some, putH_lt, putC_lt, pickT, opS, opV, Go.Mx.look, seqK, retK, retA, resA, mapO]
  · have hq' : (100 : Int) < (q.length : Int) := by omega
    have hsz : (tx q).size = q.length := tx_size q
    simp [ev_seq, ev_cond2, ev_ret, ev_region2, evOps_nil, evOps_cons, opG_none, opG_some, opJ, opU_ff, isU_bool, opK_eq, opA_move, opA_assign, opA_pick, opA_bin, opA_un, opA_len, putO_some, putH_lt, putC_lt, condB_true, condB_false, binT_some, binA, avO_some, pickT, unT, lenT_str, io_gtr, opS, opV, Go.Mx.look, seqK, Fr.known, retK, retA, resA, mapO, unA, orO_some, eqT_some, tk3, Tryd.underlying9, hsz, hq']
theorem gone_law (l : List De) (x : De) (s : ByteArray) (_ : s.size ≤ 140737488351232) : Sp Tryd.prog 7 [rowD l, .agg (deC x), .v (.string s)] (fun v _ => v = .v (.bool true)) [.tab 0 firstT, .tab 1 acceptT] :=
  gone_sp l x (txOf s) _ tb_tabs
end Go.Proofs.YtoakdmkjlpjahaaDoor
