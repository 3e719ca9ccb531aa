import Derived.Test.YtohmgnbndhojpaaMxSd
namespace Go.Proofs.Ytohmgnbndhojpaa
set_option linter.unusedVariables false

/-- A sign. -/
structure Sg where
  user : ByteArray
  kind : Int
  at_ : Int
  till : Int
deriving DecidableEq
def keyS (s : Sg) : ByteArray × Bool := (s.user, decide (s.kind = 1))
def likeS (a b : Sg) : Bool := decide (keyS a = keyS b)
def countsS (a b : Sg) : Bool := if a.at_ = b.at_ then (if a.kind = b.kind then decide (a.till > b.till) else decide (a.kind > b.kind)) else decide (a.at_ > b.at_)
def txl (s : ByteArray) : List UInt8 := s.toList
theorem txl_inj {s t : ByteArray} : txl s = txl t ↔ s = t := by
  unfold txl
  rw [ByteArray.toList_eq, ByteArray.toList_eq]
  exact ⟨fun h => ByteArray.ext (Array.toList_inj.1 h), fun h => by rw [h]⟩
def aheadS (a b : Sg) : Bool := if a.user = b.user then (decide (a.kind = 1) && !decide (b.kind = 1)) else decide (txl a.user < txl b.user)

theorem lt_tri {s t : ByteArray} (h : s ≠ t) : txl s < txl t ∨ txl t < txl s := by
  rcases Decidable.em (txl s < txl t) with h1 | h1
  · exact .inl h1
  · rcases Decidable.em (txl t < txl s) with h2 | h2
    · exact .inr h2
    · exact absurd (txl_inj.1 (List.le_antisymm (List.not_lt.1 h2) (List.not_lt.1 h1))) h
theorem ahead_trans {a b c : Sg} (h : aheadS a b = true) (k : aheadS b c = true) : aheadS a c = true := by
  unfold aheadS at *
  by_cases e1 : a.user = b.user <;> by_cases e2 : b.user = c.user
  · rw [if_pos e1] at h; rw [if_pos e2] at k
    simp at h k
    exact absurd k.1 h.2
  · rw [if_neg e2] at k
    rw [if_neg (by rw [e1]; exact e2), e1]; exact k
  · rw [if_neg e1] at h
    rw [if_neg (by rw [← e2]; exact e1), ← e2]; exact h
  · rw [if_neg e1] at h; rw [if_neg e2] at k
    simp at h k
    have h3 := List.lt_trans h k
    rw [if_neg (fun e => by rw [e] at h3; exact List.lt_irrefl _ h3)]
    simpa using h3
theorem ahead_irrefl (a : Sg) : aheadS a a = false := by simp [aheadS]
theorem ahead_asym {a b : Sg} (h : aheadS a b = true) : aheadS b a = false := by
  cases hb : aheadS b a with
  | false => rfl
  | true => have := ahead_trans h hb; rw [ahead_irrefl] at this; simp at this
theorem ahead_total {a b : Sg} (h : likeS a b = false) : aheadS a b = true ∨ aheadS b a = true := by
  unfold likeS keyS at h
  unfold aheadS
  by_cases e : a.user = b.user
  · rw [if_pos e, if_pos e.symm]
    simp [e] at h
    by_cases h1 : a.kind = 1 <;> by_cases h2 : b.kind = 1 <;> simp_all
  · rw [if_neg e, if_neg (Ne.symm e)]
    simpa using lt_tri e
theorem ahead_like {a b : Sg} (h : aheadS a b = true) : likeS a b = false := by
  unfold likeS keyS
  unfold aheadS at h
  by_cases e : a.user = b.user
  · rw [if_pos e] at h
    simp at h
    simp [e, h]
  · simp [e]
theorem like_symm (a b : Sg) : likeS a b = likeS b a := by unfold likeS; rw [Bool.eq_iff_iff]; simp [eq_comm]
theorem like_iff {a b : Sg} : likeS a b = true ↔ keyS a = keyS b := by simp [likeS]
theorem like_iff' {a b : Sg} : likeS a b = false ↔ keyS a ≠ keyS b := by simp [likeS]

/-- A row in order: each user and sort once. -/
def Srt (L : List Sg) : Prop := L.Pairwise (fun a b => aheadS a b = true)
theorem Srt.uniq {L : List Sg} (h : Srt L) {a b : Sg} (ha : a ∈ L) (hb : b ∈ L) (hk : keyS a = keyS b) : a = b := by
  induction L with
  | nil => simp at ha
  | cons c r ih =>
    obtain ⟨h1, h2⟩ := List.pairwise_cons.1 h
    rcases List.mem_cons.1 ha with e1 | ha' <;> rcases List.mem_cons.1 hb with e2 | hb'
    · rw [e1, e2]
    · subst e1; exact absurd hk (like_iff'.1 (ahead_like (h1 b hb')))
    · subst e2; exact absurd hk.symm (like_iff'.1 (ahead_like (h1 a ha')))
    · exact ih h2 ha' hb'
theorem Srt.eq {L M : List Sg} (hL : Srt L) (hM : Srt M) (h : ∀ o, o ∈ L ↔ o ∈ M) : L = M := by
  induction L generalizing M with
  | nil =>
    cases M with
    | nil => rfl
    | cons b r => exact absurd ((h b).2 (by simp)) (by simp)
  | cons a l ih =>
    cases M with
    | nil => exact absurd ((h a).1 (by simp)) (by simp)
    | cons b r =>
      obtain ⟨h1, h2⟩ := List.pairwise_cons.1 hL
      obtain ⟨k1, k2⟩ := List.pairwise_cons.1 hM
      have hab : a = b := by
        rcases List.mem_cons.1 ((h a).1 (by simp)) with e | ha
        · exact e
        rcases List.mem_cons.1 ((h b).2 (by simp)) with e | hb
        · exact e.symm
        have := ahead_trans (h1 b hb) (k1 a ha)
        rw [ahead_irrefl] at this; simp at this
      subst hab
      congr 1
      refine ih h2 k2 (fun o => ?_)
      have ne : ∀ {x : List Sg}, (∀ c ∈ x, aheadS a c = true) → a ∉ x := fun hx hm => by have := hx a hm; rw [ahead_irrefl] at this; simp at this
      constructor
      · intro ho
        rcases List.mem_cons.1 ((h o).1 (by simp [ho])) with e | h3
        · subst e; exact absurd ho (ne h1)
        · exact h3
      · intro ho
        rcases List.mem_cons.1 ((h o).2 (by simp [ho])) with e | h3
        · subst e; exact absurd ho (ne k1)
        · exact h3

/-- A sign comes in. -/
def insG (s : Sg) : Bool → List Sg → List Sg
  | d, [] => if d then [] else [s]
  | d, o :: r => if likeS s o then insG s d r else if !d && aheadS s o then s :: o :: insG s true r else o :: insG s d r
theorem ins_true (s : Sg) : ∀ L, insG s true L = L.filter (fun o => !likeS s o)
  | [] => rfl
  | o :: r => by
    simp only [insG]
    by_cases h : likeS s o = true
    · simp [h, ins_true s r]
    · simp [h, ins_true s r]
theorem mem_ins (s : Sg) (o : Sg) : ∀ L, o ∈ insG s false L ↔ o = s ∨ (o ∈ L ∧ likeS s o = false)
  | [] => by simp [insG]
  | x :: r => by
    have ih := mem_ins s o r
    simp only [insG]
    by_cases h : likeS s x = true
    · rw [if_pos h, ih]
      constructor
      · rintro (h1 | ⟨h1, h2⟩)
        · exact .inl h1
        · exact .inr ⟨by simp [h1], h2⟩
      · rintro (h1 | ⟨h1, h2⟩)
        · exact .inl h1
        · rcases List.mem_cons.1 h1 with rfl | h1
          · rw [h] at h2; simp at h2
          · exact .inr ⟨h1, h2⟩
    · rw [if_neg h]
      have h' : likeS s x = false := by simpa using h
      by_cases ha : aheadS s x = true
      · simp only [ha, Bool.not_false, Bool.and_self, if_true, ins_true, List.mem_cons, List.mem_filter]
        constructor
        · rintro (h1 | h1 | ⟨h1, h2⟩)
          · exact .inl h1
          · subst h1; exact .inr ⟨.inl rfl, h'⟩
          · exact .inr ⟨.inr h1, by simpa using h2⟩
        · rintro (h1 | ⟨h1 | h1, h2⟩)
          · exact .inl h1
          · exact .inr (.inl h1)
          · exact .inr (.inr ⟨h1, by simpa using h2⟩)
      · have : (!false && aheadS s x) = false := by simpa using ha
        rw [this]
        simp only [Bool.false_eq_true, if_false, List.mem_cons, ih]
        constructor
        · rintro (h1 | h1 | ⟨h1, h2⟩)
          · subst h1; exact .inr ⟨.inl rfl, h'⟩
          · exact .inl h1
          · exact .inr ⟨.inr h1, h2⟩
        · rintro (h1 | ⟨h1 | h1, h2⟩)
          · exact .inr (.inl h1)
          · exact .inl h1
          · exact .inr (.inr ⟨h1, h2⟩)
theorem Srt.ins {L : List Sg} (h : Srt L) (s : Sg) : Srt (insG s false L) := by
  induction L with
  | nil => simp [insG, Srt]
  | cons o r ih =>
    obtain ⟨h1, h2⟩ := List.pairwise_cons.1 h
    simp only [insG]
    by_cases hl : likeS s o = true
    · rw [if_pos hl]; exact ih h2
    · rw [if_neg hl]
      have hl' : likeS s o = false := by simpa using hl
      by_cases ha : aheadS s o = true
      · simp only [ha, Bool.not_false, Bool.and_self, if_true, ins_true]
        refine List.pairwise_cons.2 ⟨fun x hx => ?_, List.pairwise_cons.2 ⟨fun x hx => h1 x (List.mem_filter.1 hx).1, List.Pairwise.filter _ h2⟩⟩
        rcases List.mem_cons.1 hx with rfl | hx
        · exact ha
        · exact ahead_trans ha (h1 x (List.mem_filter.1 hx).1)
      · have hf : (!false && aheadS s o) = false := by simpa using ha
        rw [hf]
        simp only [Bool.false_eq_true, if_false]
        refine List.pairwise_cons.2 ⟨fun x hx => ?_, ih h2⟩
        rcases (mem_ins s x r).1 hx with rfl | ⟨hx, _⟩
        · exact (ahead_total hl').resolve_left ha
        · exact h1 x hx
theorem ins_len (s : Sg) : ∀ (d : Bool) (L : List Sg), (insG s d L).length ≤ L.length + 1
  | d, [] => by simp only [insG]; split <;> simp
  | d, o :: r => by
    have h1 := ins_len s d r
    have h2 := List.length_filter_le (fun o => !likeS s o) r
    simp only [insG]
    split
    · simp; omega
    · split
      · simp [ins_true]; omega
      · simp; omega

/-- It does not count. -/
def oldS (L : List Sg) (s : Sg) : Bool := L.any (fun o => likeS s o && !countsS s o)
def putL (L : List Sg) (s : Sg) : List Sg := if oldS L s then L else insG s false L
theorem Srt.put {L : List Sg} (h : Srt L) (s : Sg) : Srt (putL L s) := by
  unfold putL; split
  · exact h
  · exact h.ins s
theorem putL_len (L : List Sg) (s : Sg) : (putL L s).length ≤ L.length + 1 := by
  unfold putL; split
  · omega
  · exact ins_len s false L

/-- What is known of a key. -/
def fK (L : List Sg) (k : ByteArray × Bool) : Option Sg := L.find? (fun o => decide (keyS o = k))
theorem fK_iff {L : List Sg} (h : Srt L) {k : ByteArray × Bool} {o : Sg} : fK L k = some o ↔ o ∈ L ∧ keyS o = k := by
  unfold fK
  constructor
  · intro h1
    exact ⟨List.mem_of_find?_eq_some h1, by simpa using List.find?_some h1⟩
  · rintro ⟨h1, h2⟩
    cases hf : L.find? (fun o => decide (keyS o = k)) with
    | none => have := List.find?_eq_none.1 hf o h1; simp [h2] at this
    | some x =>
      have h3 := List.mem_of_find?_eq_some hf
      have h4 : keyS x = k := by simpa using List.find?_some hf
      rw [h.uniq h3 h1 (by rw [h2, h4])]
theorem fK_none {L : List Sg} {k : ByteArray × Bool} : fK L k = none ↔ ∀ o ∈ L, keyS o ≠ k := by
  unfold fK
  rw [List.find?_eq_none]
  simp
theorem fK_ins {L : List Sg} (h : Srt L) (s : Sg) (k : ByteArray × Bool) : fK (insG s false L) k = if k = keyS s then some s else fK L k := by
  by_cases hk : k = keyS s
  · subst hk
    rw [if_pos rfl]
    exact (fK_iff (h.ins s)).2 ⟨(mem_ins s s L).2 (.inl rfl), rfl⟩
  · rw [if_neg hk]
    cases hf : fK L k with
    | none =>
      rw [fK_none] at hf ⊢
      intro o ho
      rcases (mem_ins s o L).1 ho with rfl | ⟨h1, _⟩
      · exact Ne.symm hk
      · exact hf o h1
    | some o =>
      obtain ⟨h1, h2⟩ := (fK_iff h).1 hf
      exact (fK_iff (h.ins s)).2 ⟨(mem_ins s o L).2 (.inr ⟨h1, like_iff'.2 (by rw [h2]; exact Ne.symm hk)⟩), h2⟩
theorem oldS_iff {L : List Sg} (h : Srt L) {s : Sg} : oldS L s = true ↔ ∃ o, fK L (keyS s) = some o ∧ countsS s o = false := by
  unfold oldS
  rw [List.any_eq_true]
  constructor
  · rintro ⟨o, ho, hc⟩
    simp at hc
    exact ⟨o, (fK_iff h).2 ⟨ho, (like_iff.1 hc.1).symm⟩, hc.2⟩
  · rintro ⟨o, ho, hc⟩
    obtain ⟨h1, h2⟩ := (fK_iff h).1 ho
    exact ⟨o, h1, by simp [like_iff.2 h2.symm, hc]⟩
theorem fK_filter {L : List Sg} (h : Srt L) (q : Sg → Bool) (k : ByteArray × Bool) : fK (L.filter q) k = (fK L k).filter q := by
  cases hf : fK L k with
  | none =>
    rw [fK_none] at hf
    simp only [Option.filter_none]
    rw [fK_none]
    intro o ho
    exact hf o (List.mem_filter.1 ho).1
  | some o =>
    obtain ⟨h1, h2⟩ := (fK_iff h).1 hf
    by_cases hq : q o = true
    · simp only [Option.filter, hq, if_true]
      exact (fK_iff (List.Pairwise.filter _ h)).2 ⟨List.mem_filter.2 ⟨h1, hq⟩, h2⟩
    · simp only [Option.filter, hq]
      simp only [Bool.false_eq_true, if_false]
      rw [fK_none]
      intro x hx e
      obtain ⟨h3, h4⟩ := List.mem_filter.1 hx
      rw [h.uniq h3 h1 (by rw [e, h2])] at h4
      exact hq h4
end Go.Proofs.Ytohmgnbndhojpaa
