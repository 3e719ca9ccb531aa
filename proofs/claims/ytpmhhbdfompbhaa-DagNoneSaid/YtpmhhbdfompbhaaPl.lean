/-
  Chapter 8, plain: places, what is found, what is reached; nothing of the program stands here.
-/
import Derived.Lib.SlicesCompact
namespace Go.Dag
set_option linter.unusedVariables false

/-- A name, and the places of its edges. -/
structure Th where
  name : ByteArray
  prev : List Nat
  auth : List Nat

def placeN (L : List Th) (nm : ByteArray) : Option Nat := L.findIdx? (fun t => decide (t.name = nm))
def whereN (n : Nat) (p : Nat → Bool) : List Nat := (List.range n).filter p
def found (L : List Th) (names : List (ByteArray)) : Bool := names.all (fun nm => (placeN L nm).isSome)
def places (L : List Th) (names : List (ByteArray)) : List Nat := whereN L.length (fun i => names.any (fun nm => decide (placeN L nm = some i)))
def addT (L : List Th) (nm : ByteArray) (pr au : List (ByteArray)) : Int × List Th :=
  if nm = ⟨#[]⟩ then (1, L) else if (placeN L nm).isSome = true then (4, L) else if found L pr = true ∧ found L au = true then (0, L ++ [⟨nm, places L pr, places L au⟩]) else (80, L)

/-- Nothing leads forwards; each name stands once. -/
structure Good (L : List Th) : Prop where
  back : ∀ (i : Nat) (t : Th), L[i]? = some t → (∀ k ∈ t.prev, k < i) ∧ (∀ k ∈ t.auth, k < i)
  few : ∀ t : Th, t ∈ L → t.prev.length ≤ L.length ∧ t.auth.length ≤ L.length

theorem placeN_lt {L : List Th} {nm : ByteArray} {i : Nat} (h : placeN L nm = some i) : i < L.length := by
  unfold placeN at h
  exact (List.findIdx?_eq_some_iff_getElem.1 h).1
theorem placeN_app (L : List Th) (t : Th) (nm : ByteArray) : placeN (L ++ [t]) nm = match placeN L nm with | some i => some i | none => if t.name = nm then some L.length else none := by
  unfold placeN
  rw [List.findIdx?_append]
  cases List.findIdx? (fun t => decide (t.name = nm)) L with
  | some i => simp
  | none =>
    by_cases h : t.name = nm
    · simp [h]
    · simp [h]
theorem mem_whereN {n : Nat} {p : Nat → Bool} {i : Nat} : i ∈ whereN n p ↔ i < n ∧ p i = true := by simp [whereN]
theorem whereN_asc (n : Nat) (p : Nat → Bool) : (whereN n p).Pairwise (· < ·) := List.pairwise_lt_range.filter _
theorem whereN_len (n : Nat) (p : Nat → Bool) : (whereN n p).length ≤ n := by
  have := List.length_filter_le p (List.range n)
  simpa [whereN] using this
theorem mem_places {L : List Th} {names : List (ByteArray)} {i : Nat} : i ∈ places L names ↔ ∃ nm ∈ names, placeN L nm = some i := by
  unfold places
  rw [mem_whereN]
  constructor
  · rintro ⟨_, h⟩
    obtain ⟨nm, h1, h2⟩ := List.any_eq_true.1 h
    exact ⟨nm, h1, by simpa using h2⟩
  · rintro ⟨nm, h1, h2⟩
    exact ⟨placeN_lt h2, List.any_eq_true.2 ⟨nm, h1, by simpa using h2⟩⟩
theorem Good.nil : Good [] := ⟨fun i t h => by simp at h, fun t h => by simp at h⟩
theorem Good.add {L : List Th} (h : Good L) (nm : ByteArray) (pr au : List (ByteArray)) : Good (addT L nm pr au).2 := by
  unfold addT
  split
  · exact h
  · split
    · exact h
    · split
      · refine ⟨fun i t hi => ?_, fun t ht => ?_⟩
        rotate_left
        · rcases List.mem_append.1 ht with ht | ht
          · have := h.few t ht; simp; omega
          · simp at ht; subst ht
            have h1 := whereN_len L.length (fun i => pr.any (fun nm => decide (placeN L nm = some i)))
            have h2 := whereN_len L.length (fun i => au.any (fun nm => decide (placeN L nm = some i)))
            simp [places]; omega
        rcases Nat.lt_or_ge i L.length with hl | hl
        · rw [List.getElem?_append_left hl] at hi; exact h.back i t hi
        · rw [List.getElem?_append_right hl] at hi
          have h0 : i - L.length = 0 := by
            rcases Nat.eq_zero_or_pos (i - L.length) with h0 | h0
            · exact h0
            · rw [List.getElem?_eq_none (by simp; omega)] at hi; simp at hi
          rw [h0] at hi; simp at hi; subst hi
          have e : i = L.length := by omega
          subst e
          exact ⟨fun k hk => by obtain ⟨nm, _, h2⟩ := mem_places.1 hk; exact placeN_lt h2, fun k hk => by obtain ⟨nm, _, h2⟩ := mem_places.1 hk; exact placeN_lt h2⟩
      · exact h

/-! ### Rows that rise -/
theorem asc_ext : ∀ {l r : List Int}, l.Pairwise (· < ·) → r.Pairwise (· < ·) → (∀ x, x ∈ l ↔ x ∈ r) → l = r
  | [], [], _, _, _ => rfl
  | [], y :: r, _, _, h => absurd ((h y).2 (by simp)) (by simp)
  | x :: l, [], _, _, h => absurd ((h x).1 (by simp)) (by simp)
  | x :: l, y :: r, hl, hr, h => by
    have hl' := List.pairwise_cons.1 hl
    have hr' := List.pairwise_cons.1 hr
    have hxy : x = y := by
      rcases List.mem_cons.1 ((h x).1 (by simp)) with e | h1
      · exact e
      · rcases List.mem_cons.1 ((h y).2 (by simp)) with e | h2
        · exact e.symm
        · have := hr'.1 x h1
          have := hl'.1 y h2
          omega
    subst hxy
    rw [asc_ext hl'.2 hr'.2 (fun z => ?_)]
    constructor
    · intro hz
      have := hl'.1 z hz
      rcases List.mem_cons.1 ((h z).1 (by simp [hz])) with e | h1
      · omega
      · exact h1
    · intro hz
      have := hr'.1 z hz
      rcases List.mem_cons.1 ((h z).2 (by simp [hz])) with e | h1
      · omega
      · exact h1
def ofN (l : List Nat) : List Int := l.map Int.ofNat
theorem mem_ofN {l : List Nat} {x : Int} : x ∈ ofN l ↔ ∃ i ∈ l, (i : Int) = x := by simp [ofN]
theorem ofN_asc {l : List Nat} (h : l.Pairwise (· < ·)) : (ofN l).Pairwise (· < ·) := by
  unfold ofN
  rw [List.pairwise_map]
  exact h.imp (fun hab => Int.ofNat_lt.2 hab)
def srt (zs : List Int) : List Int := zs.mergeSort (fun x y => decide (x ≤ y))
theorem srt_asc (zs : List Int) : (srt zs).Pairwise (· ≤ ·) := by
  have h := List.pairwise_mergeSort (le := fun x y : Int => decide (x ≤ y)) (fun a b c h1 h2 => by simp at *; omega) (fun a b => by simp; omega) zs
  exact h.imp (fun h => by simpa using h)
theorem mem_srt {zs : List Int} {x : Int} : x ∈ srt zs ↔ x ∈ zs := List.mem_mergeSort
theorem srt_nodup {zs : List Int} (h : zs.Nodup) : (srt zs).Pairwise (· < ·) := by
  have h1 := srt_asc zs
  have h2 : (srt zs).Nodup := (List.mergeSort_perm zs _).nodup_iff.2 h
  rw [List.nodup_iff_pairwise_ne] at h2
  exact (h1.and h2).imp (fun ⟨a, b⟩ => by omega)

theorem compact_sub {zs : List Int} {x : Int} (h : x ∈ Lib.compact zs) : x ∈ zs := by
  unfold Lib.compact Lib.compactUpTo at h
  obtain ⟨i, hi, rfl⟩ := List.mem_map.1 h
  have hlt : i < zs.length := List.mem_range.1 (List.mem_filter.1 hi).1
  rw [getElem!_pos zs.toArray i (by simpa using hlt)]
  simp
theorem compact_sup {zs : List Int} {x : Int} (h : x ∈ zs) : x ∈ Lib.compact zs := by
  obtain ⟨i, hi, rfl⟩ := List.mem_iff_getElem.1 h
  clear h
  induction i with
  | zero =>
    unfold Lib.compact Lib.compactUpTo
    refine List.mem_map.2 ⟨0, List.mem_filter.2 ⟨List.mem_range.2 hi, by simp [Lib.keeps]⟩, ?_⟩
    rw [getElem!_pos zs.toArray 0 (by simpa using hi)]; simp
  | succ i ih =>
    by_cases hk : Lib.keeps zs.toArray (i + 1) = true
    · unfold Lib.compact Lib.compactUpTo
      refine List.mem_map.2 ⟨i + 1, List.mem_filter.2 ⟨List.mem_range.2 hi, hk⟩, ?_⟩
      rw [getElem!_pos zs.toArray (i + 1) (by simpa using hi)]; simp
    · have h2 : zs.toArray[i + 1]! = zs.toArray[i]! := by
        simp only [Lib.keeps, decide_eq_true_eq, not_or] at hk
        have := hk.2
        simp only [Nat.add_sub_cancel] at this
        exact Decidable.not_not.1 this
      rw [getElem!_pos zs.toArray (i + 1) (by simpa using hi), getElem!_pos zs.toArray i (by simp; omega)] at h2
      have h3 : zs[i + 1] = zs[i] := by simpa using h2
      rw [h3]
      exact ih (by omega)
theorem compact_asc {zs : List Int} (h : zs.Pairwise (· ≤ ·)) : (Lib.compact zs).Pairwise (· < ·) := by
  unfold Lib.compact Lib.compactUpTo
  rw [List.pairwise_map]
  refine (List.pairwise_lt_range.filter (Lib.keeps zs.toArray)).imp_of_mem (fun {a b} ha hb hab => ?_)
  obtain ⟨ha1, _⟩ := List.mem_filter.1 ha
  obtain ⟨hb1, hb2⟩ := List.mem_filter.1 hb
  have ha3 := List.mem_range.1 ha1
  have hb3 := List.mem_range.1 hb1
  have hle : ∀ i j (hi : i < zs.length) (hj : j < zs.length), i ≤ j → zs[i] ≤ zs[j] := fun i j hi hj hij => by
    rcases Nat.lt_or_ge i j with h1 | h1
    · exact List.pairwise_iff_getElem.1 h i j hi hj h1
    · have : i = j := by omega
      subst this; exact Int.le_refl _
  simp only [Lib.keeps, decide_eq_true_eq] at hb2
  have hne : zs.toArray[b]! ≠ zs.toArray[b - 1]! := hb2.resolve_left (by omega)
  rw [getElem!_pos zs.toArray b (by simpa using hb3), getElem!_pos zs.toArray (b - 1) (by simp; omega)] at hne
  rw [getElem!_pos zs.toArray a (by simpa using ha3), getElem!_pos zs.toArray b (by simpa using hb3)]
  simp only [List.getElem_toArray] at hne ⊢
  have h1 := hle a (b - 1) ha3 (by omega) (by omega)
  have h2 := hle (b - 1) b (by omega) hb3 (by omega)
  omega

theorem sort_compact {l : List Nat} {n : Nat} {p : Nat → Bool} (hp : ∀ i, i ∈ l ↔ i < n ∧ p i = true) : Lib.compact (srt (ofN l)) = ofN (whereN n p) := by
  refine asc_ext (compact_asc (srt_asc _)) (ofN_asc (whereN_asc n p)) (fun x => ?_)
  have : x ∈ Lib.compact (srt (ofN l)) ↔ x ∈ ofN l := ⟨fun h => mem_srt.1 (compact_sub h), fun h => compact_sup (mem_srt.2 h)⟩
  rw [this, mem_ofN, mem_ofN]
  constructor
  · rintro ⟨i, hi, rfl⟩; exact ⟨i, mem_whereN.2 ((hp i).1 hi), rfl⟩
  · rintro ⟨i, hi, rfl⟩; exact ⟨i, (hp i).2 (mem_whereN.1 hi), rfl⟩
theorem sort_nodup {l : List Nat} {n : Nat} {p : Nat → Bool} (hn : l.Nodup) (hp : ∀ i, i ∈ l ↔ i < n ∧ p i = true) : srt (ofN l) = ofN (whereN n p) := by
  have hnd : (ofN l).Nodup := by
    unfold ofN
    rw [List.nodup_iff_pairwise_ne, List.pairwise_map]
    exact (List.nodup_iff_pairwise_ne.1 hn).imp (fun h e => h (Int.ofNat.inj e))
  refine asc_ext (srt_nodup hnd) (ofN_asc (whereN_asc n p)) (fun x => ?_)
  rw [mem_srt, mem_ofN, mem_ofN]
  constructor
  · rintro ⟨i, hi, rfl⟩; exact ⟨i, mem_whereN.2 ((hp i).1 hi), rfl⟩
  · rintro ⟨i, hi, rfl⟩; exact ⟨i, (hp i).2 (mem_whereN.1 hi), rfl⟩

/-! ### What is reached -/
def edge (L : List Th) (au : Bool) (i : Nat) : List Nat := match L[i]? with
  | some t => if au then t.auth else t.prev
  | none => []
/-- From the last place down: what the places of a row, and what was got, lead to. -/
def scan (E : Nat → List Nat) (l : List Int) : Nat → (Nat → Bool) → Nat → Bool
  | 0, got => got
  | j + 1, got => if decide ((j : Int) ∈ l) || got j then scan E l j (fun k => got k || decide (k ∈ E j)) else scan E l j got
def past (L : List Th) (au : Bool) (l : List Int) : Nat → Bool := scan (edge L au) l L.length (fun _ => false)
def pastL (L : List Th) (au : Bool) (l : List Int) : List Nat := whereN L.length (past L au l)

theorem edge_lt {L : List Th} (h : Good L) {au : Bool} {i k : Nat} (hk : k ∈ edge L au i) : k < i ∧ i < L.length := by
  unfold edge at hk
  cases hi : L[i]? with
  | none => rw [hi] at hk; simp at hk
  | some t =>
    rw [hi] at hk
    have hlt := (List.getElem?_eq_some_iff.1 hi).1
    obtain ⟨h1, h2⟩ := h.back i t hi
    cases au <;> simp at hk
    · exact ⟨h1 k hk, hlt⟩
    · exact ⟨h2 k hk, hlt⟩
theorem scan_spec {E : Nat → List Nat} (hE : ∀ i k, k ∈ E i → k < i) (l : List Int) : ∀ (j : Nat) (got : Nat → Bool) (k : Nat),
    scan E l j got k = true ↔ got k = true ∨ ∃ i, i < j ∧ ((i : Int) ∈ l ∨ scan E l j got i = true) ∧ k ∈ E i
  | 0, got, k => by simp [scan]
  | j + 1, got, k => by
    unfold scan
    by_cases hc : (decide ((j : Int) ∈ l) || got j) = true
    · rw [if_pos hc]
      have ih := fun k => scan_spec hE l j (fun k => got k || decide (k ∈ E j)) k
      have hj : scan E l j (fun k => got k || decide (k ∈ E j)) j = true ↔ got j = true := by
        rw [ih j]
        constructor
        · rintro (h | ⟨i, h1, _, h2⟩)
          · simp at h
            rcases h with h | h
            · exact h
            · exact absurd (hE j j h) (by omega)
          · exact absurd (hE i j h2) (by omega)
        · intro h; exact .inl (by simp [h])
      rw [ih k]
      constructor
      · rintro (h | ⟨i, h1, h2, h3⟩)
        · simp at h
          rcases h with h | h
          · exact .inl h
          · refine .inr ⟨j, by omega, ?_, h⟩
            simp at hc
            rcases hc with hc | hc
            · exact .inl hc
            · exact .inr (hj.2 hc)
        · exact .inr ⟨i, by omega, h2, h3⟩
      · rintro (h | ⟨i, h1, h2, h3⟩)
        · exact .inl (by simp [h])
        · rcases Nat.lt_or_ge i j with h4 | h4
          · exact .inr ⟨i, h4, h2, h3⟩
          · have : i = j := by omega
            subst this
            exact .inl (by simp [h3])
    · rw [if_neg hc]
      have ih := fun k => scan_spec hE l j got k
      have hj : scan E l j got j = true ↔ got j = true := by
        rw [ih j]
        constructor
        · rintro (h | ⟨i, h1, _, h2⟩)
          · exact h
          · exact absurd (hE i j h2) (by omega)
        · intro h; exact .inl h
      rw [ih k]
      constructor
      · rintro (h | ⟨i, h1, h2, h3⟩)
        · exact .inl h
        · exact .inr ⟨i, by omega, h2, h3⟩
      · rintro (h | ⟨i, h1, h2, h3⟩)
        · exact .inl h
        · rcases Nat.lt_or_ge i j with h4 | h4
          · exact .inr ⟨i, h4, h2, h3⟩
          · exfalso
            have : i = j := by omega
            subst this
            simp at hc
            rcases h2 with h2 | h2
            · exact hc.1 h2
            · rw [hj.1 h2] at hc; simp at hc
theorem past_spec {L : List Th} (h : Good L) (au : Bool) (l : List Int) (k : Nat) : past L au l k = true ↔ ∃ i : Nat, ((i : Int) ∈ l ∨ past L au l i = true) ∧ k ∈ edge L au i := by
  unfold past
  rw [scan_spec (fun i k hk => (edge_lt h hk).1)]
  constructor
  · rintro (h1 | ⟨i, h1, h2, h3⟩)
    · simp at h1
    · exact ⟨i, h2, h3⟩
  · rintro ⟨i, h2, h3⟩
    exact .inr ⟨i, (edge_lt h h3).2, h2, h3⟩
theorem past_lt {L : List Th} (h : Good L) {au : Bool} {l : List Int} {k : Nat} (hk : past L au l k = true) : k < L.length := by
  obtain ⟨i, _, h2⟩ := (past_spec h au l k).1 hk
  have := edge_lt h h2
  omega
/-- What holds of all that the row's places, and such ones, lead to holds of what is reached. -/
theorem past_ind {L : List Th} (h : Good L) {au : Bool} {l : List Int} {p : Nat → Prop} (hp : ∀ (i k : Nat), ((i : Int) ∈ l ∨ (past L au l i = true ∧ p i)) → k ∈ edge L au i → p k) {k : Nat} (hk : past L au l k = true) : p k := by
  have : ∀ n k, L.length - k ≤ n → past L au l k = true → p k := by
    intro n
    induction n with
    | zero =>
      intro k hn hk
      have := past_lt h hk
      omega
    | succ n ih =>
      intro k hn hk
      obtain ⟨i, h1, h2⟩ := (past_spec h au l k).1 hk
      have hl := edge_lt h h2
      rcases h1 with h1 | h1
      · exact hp i k (.inl h1) h2
      · exact hp i k (.inr ⟨h1, ih i (by omega) h1⟩) h2
  exact this _ k (Nat.le_refl _) hk
theorem past_mono {L : List Th} (h : Good L) {au : Bool} {l r : List Int} (hs : ∀ i : Nat, (i : Int) ∈ l → (i : Int) ∈ r ∨ past L au r i = true) {k : Nat} (hk : past L au l k = true) : past L au r k = true := by
  refine past_ind h (p := fun k => past L au r k = true) (fun i k h1 h2 => ?_) hk
  rcases h1 with h1 | h1
  · exact (past_spec h au r k).2 ⟨i, hs i h1, h2⟩
  · exact (past_spec h au r k).2 ⟨i, .inr h1.2, h2⟩
theorem past_union {L : List Th} (h : Good L) (au : Bool) (a b : List Int) (k : Nat) : past L au (a ++ b) k = true ↔ past L au a k = true ∨ past L au b k = true := by
  constructor
  · intro hk
    refine past_ind h (p := fun k => past L au a k = true ∨ past L au b k = true) (fun i k h1 h2 => ?_) hk
    rcases h1 with h1 | ⟨_, h1 | h1⟩
    · rcases List.mem_append.1 h1 with h1 | h1
      · exact .inl ((past_spec h au a k).2 ⟨i, .inl h1, h2⟩)
      · exact .inr ((past_spec h au b k).2 ⟨i, .inl h1, h2⟩)
    · exact .inl ((past_spec h au a k).2 ⟨i, .inr h1, h2⟩)
    · exact .inr ((past_spec h au b k).2 ⟨i, .inr h1, h2⟩)
  · rintro (hk | hk)
    · exact past_mono h (fun i hi => .inl (by simp [hi])) hk
    · exact past_mono h (fun i hi => .inl (by simp [hi])) hk
theorem past_past {L : List Th} (h : Good L) (au : Bool) (l : List Int) {k : Nat} (hk : past L au (ofN (pastL L au l)) k = true) : past L au l k = true :=
  past_mono h (fun i hi => .inr (by
    obtain ⟨j, hj, e⟩ := mem_ofN.1 hi
    have : j = i := by omega
    subst this
    exact (mem_whereN.1 hj).2)) hk
theorem past_below {L : List Th} (h : Good L) {au : Bool} {l : List Int} {k : Nat} (hk : past L au l k = true) : ∃ i : Nat, (i : Int) ∈ l ∧ i < L.length ∧ k < i := by
  refine past_ind h (p := fun k => ∃ i : Nat, (i : Int) ∈ l ∧ i < L.length ∧ k < i) (fun i k h1 h2 => ?_) hk
  have hl := edge_lt h h2
  rcases h1 with h1 | ⟨_, j, h3, h4, h5⟩
  · exact ⟨i, h1, hl.2, hl.1⟩
  · exact ⟨j, h3, h4, by omega⟩
/-- What the search has seen when nothing is left to do. -/
theorem seen_past {L : List Th} (h : Good L) {au : Bool} {l : List Int} {seen : Nat → Prop} (h1 : ∀ k, seen k → past L au l k = true) (h2 : ∀ i : Nat, (i : Int) ∈ l ∨ seen i → ∀ k ∈ edge L au i, seen k) (k : Nat) : seen k ↔ past L au l k = true := by
  refine ⟨h1 k, fun hk => past_ind h (p := seen) (fun i k h3 h4 => ?_) hk⟩
  rcases h3 with h3 | h3
  · exact h2 i (.inl h3) k h4
  · exact h2 i (.inr h3.2) k h4

/-- What a number leads to. -/
def edgeZ (L : List Th) (au : Bool) (i : Int) : List Nat := if 0 ≤ i then edge L au i.toNat else []
theorem edgeZ_nat (L : List Th) (au : Bool) (i : Nat) : edgeZ L au i = edge L au i := by unfold edgeZ; rw [if_pos (by omega), Int.toNat_natCast]
theorem edgeZ_lt {L : List Th} (h : Good L) {au : Bool} {x : Int} {k : Nat} (hk : k ∈ edgeZ L au x) : ∃ i : Nat, (i : Int) = x ∧ k ∈ edge L au i ∧ k < i ∧ i < L.length := by
  unfold edgeZ at hk
  split at hk
  · rename_i h0
    have := edge_lt h hk
    exact ⟨x.toNat, by omega, hk, this.1, this.2⟩
  · simp at hk
theorem edgeZ_len {L : List Th} (h : Good L) (au : Bool) (x : Int) : (edgeZ L au x).length ≤ L.length := by
  unfold edgeZ
  split
  · unfold edge
    cases hi : L[x.toNat]? with
    | none => simp
    | some t =>
      have := h.few t (List.mem_of_getElem? hi)
      cases au <;> simp <;> omega
  · simp
/-- The search, under way: what was seen, what is left to do, what is being done. -/
structure Srch (L : List Th) (au : Bool) (l : List Int) (S : List Nat) (T : List Int) (now : Int → Prop) : Prop where
  nodup : S.Nodup
  sub : ∀ k ∈ S, past L au l k = true
  todo : ∀ x ∈ T, x ∈ l ∨ x ∈ ofN S
  clos : ∀ x : Int, (x ∈ l ∨ x ∈ ofN S) → x ∈ T ∨ now x ∨ ∀ k ∈ edgeZ L au x, k ∈ S
theorem Srch.start (L : List Th) (au : Bool) (l : List Int) : Srch L au l [] l (fun _ => False) :=
  ⟨List.nodup_nil, by simp, fun x hx => .inl hx, fun x hx => by
    rcases hx with hx | hx
    · exact .inl hx
    · simp [ofN] at hx⟩
theorem Srch.pop {L : List Th} {au : Bool} {l : List Int} {S : List Nat} {T : List Int} {x : Int} (h : Srch L au l S (T ++ [x]) (fun _ => False)) : (x ∈ l ∨ x ∈ ofN S) ∧ Srch L au l S T (fun y => y = x) := by
  refine ⟨h.todo x (by simp), h.nodup, h.sub, fun y hy => h.todo y (by simp [hy]), fun y hy => ?_⟩
  rcases h.clos y hy with h1 | h1 | h1
  · rcases List.mem_append.1 h1 with h2 | h2
    · exact .inl h2
    · simp at h2; exact .inr (.inl h2)
  · exact h1.elim
  · exact .inr (.inr h1)
theorem Srch.push {L : List Th} {au : Bool} {l : List Int} {S : List Nat} {T : List Int} {x : Int} {now : Int → Prop} (hG : Good L) (h : Srch L au l S T now) (hx : x ∈ l ∨ x ∈ ofN S) {k : Nat} (hk : k ∈ edgeZ L au x) (hn : k ∉ S) : Srch L au l (S ++ [k]) (T ++ [(k : Int)]) now := by
  obtain ⟨i, rfl, h1, h2, h3⟩ := edgeZ_lt hG hk
  have hp : past L au l k = true := (past_spec hG au l k).2 ⟨i, by
    rcases hx with hx | hx
    · exact .inl hx
    · obtain ⟨j, hj, e⟩ := mem_ofN.1 hx
      have : j = i := by omega
      subst this
      exact .inr (h.sub j hj), h1⟩
  refine ⟨?_, fun j hj => ?_, fun y hy => ?_, fun y hy => ?_⟩
  · rw [List.nodup_append]
    exact ⟨h.nodup, by simp, fun a ha b hb hab => hn (by simp at hb; subst hb; rw [← hab]; exact ha)⟩
  · rcases List.mem_append.1 hj with hj | hj
    · exact h.sub j hj
    · simp at hj; subst hj; exact hp
  · rcases List.mem_append.1 hy with hy | hy
    · rcases h.todo y hy with h4 | h4
      · exact .inl h4
      · exact .inr (by simp [ofN] at h4 ⊢; exact .inl h4)
    · simp at hy; subst hy
      exact .inr (by simp [ofN])
  · have hy' : y ∈ l ∨ y ∈ ofN S ∨ y = (k : Int) := by
      rcases hy with hy | hy
      · exact .inl hy
      · simp [ofN] at hy
        rcases hy with hy | hy
        · exact .inr (.inl (by simp [ofN]; exact hy))
        · exact .inr (.inr hy)
    rcases hy' with hy' | hy' | hy'
    · rcases h.clos y (.inl hy') with h5 | h5 | h5
      · exact .inl (by simp [h5])
      · exact .inr (.inl h5)
      · exact .inr (.inr fun j hj => by simp [h5 j hj])
    · rcases h.clos y (.inr hy') with h5 | h5 | h5
      · exact .inl (by simp [h5])
      · exact .inr (.inl h5)
      · exact .inr (.inr fun j hj => by simp [h5 j hj])
    · exact .inl (by simp [hy'])
theorem Srch.done {L : List Th} {au : Bool} {l : List Int} {S : List Nat} {T : List Int} {x : Int} (h : Srch L au l S T (fun y => y = x)) (hk : ∀ k ∈ edgeZ L au x, k ∈ S) : Srch L au l S T (fun _ => False) := by
  refine ⟨h.nodup, h.sub, h.todo, fun y hy => ?_⟩
  rcases h.clos y hy with h5 | h5 | h5
  · exact .inl h5
  · subst h5; exact .inr (.inr hk)
  · exact .inr (.inr h5)
theorem Srch.fin {L : List Th} {au : Bool} {l : List Int} {S : List Nat} (hG : Good L) (h : Srch L au l S [] (fun _ => False)) (k : Nat) : k ∈ S ↔ past L au l k = true := by
  refine seen_past hG h.sub (fun i hi j hj => ?_) k
  have hi' : (i : Int) ∈ l ∨ (i : Int) ∈ ofN S := by
    rcases hi with hi | hi
    · exact .inl hi
    · exact .inr (mem_ofN.2 ⟨i, hi, rfl⟩)
  rcases h.clos i hi' with h5 | h5 | h5
  · simp at h5
  · exact h5.elim
  · exact h5 j (by rw [edgeZ_nat]; exact hj)
theorem Srch.len {L : List Th} {au : Bool} {l : List Int} {S : List Nat} {T : List Int} {now : Int → Prop} (hG : Good L) (h : Srch L au l S T now) : S.length ≤ L.length := by
  have := h.nodup.length_le_of_subset (l₂ := List.range L.length) (fun k hk => List.mem_range.2 (past_lt hG (h.sub k hk)))
  simpa using this

/-! ### Heads -/
/-- The places of a row that are kept, and that no kept one follows. -/
def headsL (L : List Th) (kept : List Bool) : List Nat :=
  whereN (min kept.length L.length) (fun i => kept.getD i false && !((List.range (min kept.length L.length)).any (fun k => kept.getD k false && decide (i ∈ edge L false k))))
theorem mem_heads {L : List Th} {kept : List Bool} {i : Nat} : i ∈ headsL L kept ↔ i < kept.length ∧ i < L.length ∧ kept.getD i false = true ∧ ∀ k, k < kept.length → k < L.length → kept.getD k false = true → i ∉ edge L false k := by
  unfold headsL
  rw [mem_whereN]
  simp only [Bool.and_eq_true, Bool.not_eq_true', List.any_eq_false, List.mem_range, Nat.lt_min, decide_eq_true_eq, not_and]
  constructor
  · rintro ⟨⟨h1, h2⟩, h3, h4⟩; exact ⟨h1, h2, h3, fun k a b c => h4 k ⟨a, b⟩ c⟩
  · rintro ⟨h1, h2, h3, h4⟩; exact ⟨⟨h1, h2⟩, h3, fun k ⟨a, b⟩ c => h4 k a b c⟩
/-- If all that kept places follow is kept: what is kept is a head, or lies in the heads' past, and no head does. -/
theorem tops {L : List Th} (h : Good L) {kept : List Bool} (hk : ∀ i, i < kept.length → i < L.length → kept.getD i false = true → ∀ k ∈ edge L false i, kept.getD k false = true) {i : Nat} (hi : i < kept.length) (hl : i < L.length) :
    (kept.getD i false = true ↔ i ∈ headsL L kept ∨ past L false (ofN (headsL L kept)) i = true) ∧ ¬ (i ∈ headsL L kept ∧ past L false (ofN (headsL L kept)) i = true) := by
  have key : ∀ {k}, past L false (ofN (headsL L kept)) k = true → k < kept.length ∧ kept.getD k false = true ∧ ∃ j, j < kept.length ∧ j < L.length ∧ kept.getD j false = true ∧ k ∈ edge L false j := by
    intro k hkp
    refine past_ind h (p := fun k => k < kept.length ∧ kept.getD k false = true ∧ ∃ j, j < kept.length ∧ j < L.length ∧ kept.getD j false = true ∧ k ∈ edge L false j) (fun i k h1 h2 => ?_) hkp
    have hlt := edge_lt h h2
    rcases h1 with h1 | ⟨_, h3, h4, _⟩
    · obtain ⟨j, hj, e⟩ := mem_ofN.1 h1
      have : j = i := by omega
      subst this
      obtain ⟨a, b, c, _⟩ := mem_heads.1 hj
      exact ⟨by omega, hk j a b c k h2, j, a, b, c, h2⟩
    · exact ⟨by omega, hk i h3 hlt.2 h4 k h2, i, h3, hlt.2, h4, h2⟩
  refine ⟨⟨fun hki => ?_, fun hor => ?_⟩, fun ⟨h1, h2⟩ => ?_⟩
  · have : ∀ n i, L.length - i ≤ n → i < kept.length → i < L.length → kept.getD i false = true → i ∈ headsL L kept ∨ past L false (ofN (headsL L kept)) i = true := by
      intro n
      induction n with
      | zero => intro i h1 h2 h3; omega
      | succ n ih =>
        intro i h1 h2 h3 h4
        by_cases hh : i ∈ headsL L kept
        · exact .inl hh
        · right
          have : ∃ k, k < kept.length ∧ k < L.length ∧ kept.getD k false = true ∧ i ∈ edge L false k := Classical.byContradiction fun hno =>
            hh (mem_heads.2 ⟨h2, h3, h4, fun k a b c d => hno ⟨k, a, b, c, d⟩⟩)
          obtain ⟨k, a, b, c, d⟩ := this
          have hlt := edge_lt h d
          rcases ih k (by omega) a b c with e | e
          · exact (past_spec h _ _ i).2 ⟨k, .inl (mem_ofN.2 ⟨k, e, rfl⟩), d⟩
          · exact (past_spec h _ _ i).2 ⟨k, .inr e, d⟩
    exact this _ i (Nat.le_refl _) hi hl hki
  · rcases hor with h1 | h1
    · exact (mem_heads.1 h1).2.2.1
    · exact (key h1).2.1
  · obtain ⟨_, _, j, a, b, c, d⟩ := key h2
    exact (mem_heads.1 h1).2.2.2 j a b c d
end Go.Dag
