import Derived.Test.YtbdfhenelbakaaaMxSd
namespace Go.Proofs.Ytbdfhenelbakaaa
set_option linter.unusedVariables false

/-- An entry. -/
structure En where
  ty : ByteArray
  ky : ByteArray
  id : ByteArray
deriving DecidableEq
def keyE (e : En) : ByteArray × ByteArray := (e.ty, e.ky)
def likeE (a b : En) : Bool := decide (keyE a = keyE b)
def txl (s : ByteArray) : List UInt8 := s.toList
theorem txl_inj {s t : ByteArray} : txl s = txl t ↔ s = t := by
  unfold txl
  rw [ByteArray.toList_eq, ByteArray.toList_eq]
  exact ⟨fun h => ByteArray.ext (Array.toList_inj.1 h), fun h => by rw [h]⟩
def aheadE (a b : En) : Bool := if a.ty = b.ty then decide (txl a.ky < txl b.ky) else decide (txl a.ty < txl b.ty)
theorem lt_tri {s t : ByteArray} (h : s ≠ t) : txl s < txl t ∨ txl t < txl s := by
  rcases Decidable.em (txl s < txl t) with h1 | h1
  · exact .inl h1
  · rcases Decidable.em (txl t < txl s) with h2 | h2
    · exact .inr h2
    · exact absurd (txl_inj.1 (List.le_antisymm (List.not_lt.1 h2) (List.not_lt.1 h1))) h
theorem ahead_trans {a b c : En} (h : aheadE a b = true) (k : aheadE b c = true) : aheadE a c = true := by
  unfold aheadE at *
  by_cases e1 : a.ty = b.ty <;> by_cases e2 : b.ty = c.ty
  · rw [if_pos e1] at h; rw [if_pos e2] at k
    simp at h k
    rw [if_pos (e1.trans e2)]
    simpa using List.lt_trans h k
  · rw [if_neg e2] at k
    rw [if_neg (by rw [e1]; exact e2), e1]; exact k
  · rw [if_neg e1] at h
    rw [if_neg (by rw [← e2]; exact e1), ← e2]; exact h
  · rw [if_neg e1] at h; rw [if_neg e2] at k
    simp at h k
    have h3 := List.lt_trans h k
    rw [if_neg (fun e => by rw [e] at h3; exact List.lt_irrefl _ h3)]
    simpa using h3
theorem ahead_irrefl (a : En) : aheadE a a = false := by simp [aheadE, List.lt_irrefl]
theorem ahead_asym {a b : En} (h : aheadE a b = true) : aheadE b a = false := by
  cases hb : aheadE b a with
  | false => rfl
  | true => have := ahead_trans h hb; rw [ahead_irrefl] at this; simp at this
theorem ahead_total {a b : En} (h : likeE a b = false) : aheadE a b = true ∨ aheadE b a = true := by
  unfold likeE keyE at h
  unfold aheadE
  by_cases e : a.ty = b.ty
  · rw [if_pos e, if_pos e.symm]
    simp [e] at h
    simpa using lt_tri h
  · rw [if_neg e, if_neg (Ne.symm e)]
    simpa using lt_tri e
theorem ahead_like {a b : En} (h : aheadE a b = true) : likeE a b = false := by
  unfold likeE keyE
  unfold aheadE at h
  by_cases e : a.ty = b.ty
  · rw [if_pos e] at h
    simp at h
    have : a.ky ≠ b.ky := fun e2 => by rw [e2] at h; exact List.lt_irrefl _ h
    simp [e, this]
  · simp [e]
theorem like_symm (a b : En) : likeE a b = likeE b a := by unfold likeE; rw [Bool.eq_iff_iff]; simp [eq_comm]
theorem like_iff {a b : En} : likeE a b = true ↔ keyE a = keyE b := by simp [likeE]
theorem like_iff' {a b : En} : likeE a b = false ↔ keyE a ≠ keyE b := by simp [likeE]

/-- A row in order: each user and sort once. -/
def Srt (L : List En) : Prop := L.Pairwise (fun a b => aheadE a b = true)
theorem Srt.uniq {L : List En} (h : Srt L) {a b : En} (ha : a ∈ L) (hb : b ∈ L) (hk : keyE a = keyE b) : a = b := by
  induction L with
  | nil => simp at ha
  | cons c r ih =>
    obtain ⟨h1, h2⟩ := List.pairwise_cons.1 h
    rcases List.mem_cons.1 ha with e1 | ha' <;> rcases List.mem_cons.1 hb with e2 | hb'
    · rw [e1, e2]
    · subst e1; exact absurd hk (like_iff'.1 (ahead_like (h1 b hb')))
    · subst e2; exact absurd hk.symm (like_iff'.1 (ahead_like (h1 a ha')))
    · exact ih h2 ha' hb'
theorem Srt.eq {L M : List En} (hL : Srt L) (hM : Srt M) (h : ∀ o, o ∈ L ↔ o ∈ M) : L = M := by
  induction L generalizing M with
  | nil =>
    cases M with
    | nil => rfl
    | cons b r => exact absurd ((h b).2 (by simp)) (by simp)
  | cons a l ih =>
    cases M with
    | nil => exact absurd ((h a).1 (by simp)) (by simp)
    | cons b r =>
      obtain ⟨h1, h2⟩ := List.pairwise_cons.1 hL
      obtain ⟨k1, k2⟩ := List.pairwise_cons.1 hM
      have hab : a = b := by
        rcases List.mem_cons.1 ((h a).1 (by simp)) with e | ha
        · exact e
        rcases List.mem_cons.1 ((h b).2 (by simp)) with e | hb
        · exact e.symm
        have := ahead_trans (h1 b hb) (k1 a ha)
        rw [ahead_irrefl] at this; simp at this
      subst hab
      congr 1
      refine ih h2 k2 (fun o => ?_)
      have ne : ∀ {x : List En}, (∀ c ∈ x, aheadE a c = true) → a ∉ x := fun hx hm => by have := hx a hm; rw [ahead_irrefl] at this; simp at this
      constructor
      · intro ho
        rcases List.mem_cons.1 ((h o).1 (by simp [ho])) with e | h3
        · subst e; exact absurd ho (ne h1)
        · exact h3
      · intro ho
        rcases List.mem_cons.1 ((h o).2 (by simp [ho])) with e | h3
        · subst e; exact absurd ho (ne k1)
        · exact h3

/-- A sign comes in. -/
def insG (s : En) : Bool → List En → List En
  | d, [] => if d then [] else [s]
  | d, o :: r => if likeE s o then insG s d r else if !d && aheadE s o then s :: o :: insG s true r else o :: insG s d r
theorem ins_true (s : En) : ∀ L, insG s true L = L.filter (fun o => !likeE s o)
  | [] => rfl
  | o :: r => by
    simp only [insG]
    by_cases h : likeE s o = true
    · simp [h, ins_true s r]
    · simp [h, ins_true s r]
theorem mem_ins (s : En) (o : En) : ∀ L, o ∈ insG s false L ↔ o = s ∨ (o ∈ L ∧ likeE s o = false)
  | [] => by simp [insG]
  | x :: r => by
    have ih := mem_ins s o r
    simp only [insG]
    by_cases h : likeE s x = true
    · rw [if_pos h, ih]
      constructor
      · rintro (h1 | ⟨h1, h2⟩)
        · exact .inl h1
        · exact .inr ⟨by simp [h1], h2⟩
      · rintro (h1 | ⟨h1, h2⟩)
        · exact .inl h1
        · rcases List.mem_cons.1 h1 with rfl | h1
          · rw [h] at h2; simp at h2
          · exact .inr ⟨h1, h2⟩
    · rw [if_neg h]
      have h' : likeE s x = false := by simpa using h
      by_cases ha : aheadE s x = true
      · simp only [ha, Bool.not_false, Bool.and_self, if_true, ins_true, List.mem_cons, List.mem_filter]
        constructor
        · rintro (h1 | h1 | ⟨h1, h2⟩)
          · exact .inl h1
          · subst h1; exact .inr ⟨.inl rfl, h'⟩
          · exact .inr ⟨.inr h1, by simpa using h2⟩
        · rintro (h1 | ⟨h1 | h1, h2⟩)
          · exact .inl h1
          · exact .inr (.inl h1)
          · exact .inr (.inr ⟨h1, by simpa using h2⟩)
      · have : (!false && aheadE s x) = false := by simpa using ha
        rw [this]
        simp only [Bool.false_eq_true, if_false, List.mem_cons, ih]
        constructor
        · rintro (h1 | h1 | ⟨h1, h2⟩)
          · subst h1; exact .inr ⟨.inl rfl, h'⟩
          · exact .inl h1
          · exact .inr ⟨.inr h1, h2⟩
        · rintro (h1 | ⟨h1 | h1, h2⟩)
          · exact .inr (.inl h1)
          · exact .inl h1
          · exact .inr (.inr ⟨h1, h2⟩)
theorem Srt.ins {L : List En} (h : Srt L) (s : En) : Srt (insG s false L) := by
  induction L with
  | nil => simp [insG, Srt]
  | cons o r ih =>
    obtain ⟨h1, h2⟩ := List.pairwise_cons.1 h
    simp only [insG]
    by_cases hl : likeE s o = true
    · rw [if_pos hl]; exact ih h2
    · rw [if_neg hl]
      have hl' : likeE s o = false := by simpa using hl
      by_cases ha : aheadE s o = true
      · simp only [ha, Bool.not_false, Bool.and_self, if_true, ins_true]
        refine List.pairwise_cons.2 ⟨fun x hx => ?_, List.pairwise_cons.2 ⟨fun x hx => h1 x (List.mem_filter.1 hx).1, List.Pairwise.filter _ h2⟩⟩
        rcases List.mem_cons.1 hx with rfl | hx
        · exact ha
        · exact ahead_trans ha (h1 x (List.mem_filter.1 hx).1)
      · have hf : (!false && aheadE s o) = false := by simpa using ha
        rw [hf]
        simp only [Bool.false_eq_true, if_false]
        refine List.pairwise_cons.2 ⟨fun x hx => ?_, ih h2⟩
        rcases (mem_ins s x r).1 hx with rfl | ⟨hx, _⟩
        · exact (ahead_total hl').resolve_left ha
        · exact h1 x hx
theorem ins_len (s : En) : ∀ (d : Bool) (L : List En), (insG s d L).length ≤ L.length + 1
  | d, [] => by simp only [insG]; split <;> simp
  | d, o :: r => by
    have h1 := ins_len s d r
    have h2 := List.length_filter_le (fun o => !likeE s o) r
    simp only [insG]
    split
    · simp; omega
    · split
      · simp [ins_true]; omega
      · simp; omega

/-- What is known of a key. -/
def fK (L : List En) (k : ByteArray × ByteArray) : Option En := L.find? (fun o => decide (keyE o = k))
theorem fK_iff {L : List En} (h : Srt L) {k : ByteArray × ByteArray} {o : En} : fK L k = some o ↔ o ∈ L ∧ keyE o = k := by
  unfold fK
  constructor
  · intro h1
    exact ⟨List.mem_of_find?_eq_some h1, by simpa using List.find?_some h1⟩
  · rintro ⟨h1, h2⟩
    cases hf : L.find? (fun o => decide (keyE o = k)) with
    | none => have := List.find?_eq_none.1 hf o h1; simp [h2] at this
    | some x =>
      have h3 := List.mem_of_find?_eq_some hf
      have h4 : keyE x = k := by simpa using List.find?_some hf
      rw [h.uniq h3 h1 (by rw [h2, h4])]
theorem fK_none {L : List En} {k : ByteArray × ByteArray} : fK L k = none ↔ ∀ o ∈ L, keyE o ≠ k := by
  unfold fK
  rw [List.find?_eq_none]
  simp
theorem fK_ins {L : List En} (h : Srt L) (s : En) (k : ByteArray × ByteArray) : fK (insG s false L) k = if k = keyE s then some s else fK L k := by
  by_cases hk : k = keyE s
  · subst hk
    rw [if_pos rfl]
    exact (fK_iff (h.ins s)).2 ⟨(mem_ins s s L).2 (.inl rfl), rfl⟩
  · rw [if_neg hk]
    cases hf : fK L k with
    | none =>
      rw [fK_none] at hf ⊢
      intro o ho
      rcases (mem_ins s o L).1 ho with rfl | ⟨h1, _⟩
      · exact Ne.symm hk
      · exact hf o h1
    | some o =>
      obtain ⟨h1, h2⟩ := (fK_iff h).1 hf
      exact (fK_iff (h.ins s)).2 ⟨(mem_ins s o L).2 (.inr ⟨h1, like_iff'.2 (by rw [h2]; exact Ne.symm hk)⟩), h2⟩
theorem fK_filter {L : List En} (h : Srt L) (q : En → Bool) (k : ByteArray × ByteArray) : fK (L.filter q) k = (fK L k).filter q := by
  cases hf : fK L k with
  | none =>
    rw [fK_none] at hf
    simp only [Option.filter_none]
    rw [fK_none]
    intro o ho
    exact hf o (List.mem_filter.1 ho).1
  | some o =>
    obtain ⟨h1, h2⟩ := (fK_iff h).1 hf
    by_cases hq : q o = true
    · simp only [Option.filter, hq, if_true]
      exact (fK_iff (List.Pairwise.filter _ h)).2 ⟨List.mem_filter.2 ⟨h1, hq⟩, h2⟩
    · simp only [Option.filter, hq]
      simp only [Bool.false_eq_true, if_false]
      rw [fK_none]
      intro x hx e
      obtain ⟨h3, h4⟩ := List.mem_filter.1 hx
      rw [h.uniq h3 h1 (by rw [e, h2])] at h4
      exact hq h4

/-! ### States -/
abbrev Ky := ByteArray × ByteArray
def noId : ByteArray := ⟨#[]⟩
/-- An entry comes in: one without a name takes its like away. -/
def putE (L : List En) (e : En) : List En := if e.id = noId then L.filter (fun o => !likeE e o) else insG e false L
def dropE (L : List En) (e : En) : List En := L.filter (fun o => !likeE e o)
def sortE (l : List En) : List En := l.foldl putE []
/-- In order, each type and key once, with a name. -/
def Nice (L : List En) : Prop := Srt L ∧ ∀ e ∈ L, e.id ≠ noId
/-- The name that stands at a key. -/
def val (L : List En) (k : Ky) : Option ByteArray := (fK L k).map (·.id)
theorem Nice.nil : Nice [] := ⟨List.Pairwise.nil, by simp⟩
theorem Nice.put {L : List En} (h : Nice L) (e : En) : Nice (putE L e) := by
  unfold putE
  split
  · exact ⟨List.Pairwise.filter _ h.1, fun x hx => h.2 x (List.mem_filter.1 hx).1⟩
  · rename_i hne
    refine ⟨h.1.ins e, fun x hx => ?_⟩
    rcases (mem_ins e x L).1 hx with rfl | ⟨hx, _⟩
    · exact hne
    · exact h.2 x hx
theorem Nice.drop {L : List En} (h : Nice L) (e : En) : Nice (dropE L e) := ⟨List.Pairwise.filter _ h.1, fun x hx => h.2 x (List.mem_filter.1 hx).1⟩
theorem Nice.filter {L : List En} (h : Nice L) (q : En → Bool) : Nice (L.filter q) := ⟨List.Pairwise.filter _ h.1, fun x hx => h.2 x (List.mem_filter.1 hx).1⟩
theorem Nice.puts {L : List En} (h : Nice L) (l : List En) : Nice (l.foldl putE L) := by
  induction l generalizing L with
  | nil => exact h
  | cons e r ih => exact ih (h.put e)
theorem Nice.drops {L : List En} (h : Nice L) (l : List En) : Nice (l.foldl dropE L) := by
  induction l generalizing L with
  | nil => exact h
  | cons e r ih => exact ih (h.drop e)
theorem sort_nice (l : List En) : Nice (sortE l) := Nice.nil.puts l
theorem fK_likeFilter {L : List En} (h : Srt L) (e : En) (k : Ky) : fK (L.filter (fun o => !likeE e o)) k = if k = keyE e then none else fK L k := by
  rw [fK_filter h]
  by_cases hk : k = keyE e
  · rw [if_pos hk]
    cases hf : fK L k with
    | none => rfl
    | some o =>
      obtain ⟨_, h2⟩ := (fK_iff h).1 hf
      simp [Option.filter, like_iff.2 (by rw [h2, hk] : keyE e = keyE o)]
  · rw [if_neg hk]
    cases hf : fK L k with
    | none => rfl
    | some o =>
      obtain ⟨_, h2⟩ := (fK_iff h).1 hf
      simp [Option.filter, like_iff'.2 (by rw [h2]; exact Ne.symm hk : keyE e ≠ keyE o)]
theorem fK_drop {L : List En} (h : Nice L) (e : En) (k : Ky) : fK (dropE L e) k = if k = keyE e then none else fK L k := fK_likeFilter h.1 e k
theorem fK_put {L : List En} (h : Nice L) (e : En) (k : Ky) : fK (putE L e) k = if k = keyE e then (if e.id = noId then none else some e) else fK L k := by
  unfold putE
  by_cases hi : e.id = noId
  · rw [if_pos hi, if_pos hi]; exact fK_likeFilter h.1 e k
  · rw [if_neg hi, if_neg hi]; exact fK_ins h.1 e k
theorem val_eq {L M : List En} (hL : Nice L) (hM : Nice M) (h : ∀ k, val L k = val M k) : L = M := by
  refine Srt.eq hL.1 hM.1 (fun o => ?_)
  have key : ∀ {A B : List En}, Nice A → Nice B → (∀ k, val A k = val B k) → o ∈ A → o ∈ B := fun {A B} hA hB h ho => by
    have h1 := (fK_iff hA.1).2 ⟨ho, rfl⟩
    have h2 := h (keyE o)
    unfold val at h2
    rw [h1] at h2
    cases hf : fK B (keyE o) with
    | none => rw [hf] at h2; simp at h2
    | some x =>
      rw [hf] at h2
      obtain ⟨h3, h4⟩ := (fK_iff hB.1).1 hf
      have : x = o := by
        obtain ⟨xt, xk, xi⟩ := x
        obtain ⟨ot, ok, oi⟩ := o
        simp [keyE] at h4 h2
        obtain ⟨rfl, rfl⟩ := h4
        rw [h2]
      rw [← this]; exact h3
  exact ⟨key hL hM h, key hM hL (fun k => (h k).symm)⟩
/-- What stands behind a change. -/
def applyE (L set gone : List En) : List En := set.foldl putE (gone.foldl dropE L)
theorem val_drops {L : List En} (h : Nice L) (l : List En) (k : Ky) : val (l.foldl dropE L) k = if l.any (fun e => decide (keyE e = k)) then none else val L k := by
  induction l generalizing L with
  | nil => simp
  | cons e r ih =>
    rw [List.foldl_cons, ih (h.drop e)]
    simp only [List.any_cons]
    unfold val
    rw [fK_drop h]
    by_cases hr : r.any (fun e => decide (keyE e = k)) = true
    · simp [hr]
    · by_cases hk : k = keyE e
      · simp [hr, hk]
      · simp [hr, hk, Ne.symm hk]
theorem val_puts {L set : List En} (h : Nice L) (hs : Nice set) (k : Ky) : val (set.foldl putE L) k = (val set k).or (val L k) := by
  induction set generalizing L with
  | nil => simp [val, fK]
  | cons e r ih =>
    obtain ⟨h1, h2⟩ := List.pairwise_cons.1 hs.1
    have hr : Nice r := ⟨h2, fun x hx => hs.2 x (by simp [hx])⟩
    rw [List.foldl_cons, ih (h.put e) hr]
    have hid := hs.2 e (by simp)
    have hput : val (putE L e) k = if k = keyE e then some e.id else val L k := by
      unfold val
      rw [fK_put h, if_neg hid]
      by_cases hk : k = keyE e <;> simp [hk]
    have hcons : val (e :: r) k = if k = keyE e then some e.id else val r k := by
      unfold val fK
      rw [List.find?_cons]
      by_cases hk : keyE e = k
      · simp [hk]
      · simp [hk, Ne.symm hk]
    rw [hput, hcons]
    by_cases hk : k = keyE e
    · rw [if_pos hk, if_pos hk]
      have : fK r k = none := fK_none.2 (fun o ho e2 => like_iff'.1 (ahead_like (h1 o ho)) (by rw [e2, hk]))
      simp [val, this]
    · rw [if_neg hk, if_neg hk]
theorem mem_key {L : List En} (h : Nice L) (k : Ky) : L.any (fun e => decide (keyE e = k)) = (val L k).isSome := by
  rw [Bool.eq_iff_iff, List.any_eq_true]
  unfold val
  rw [Option.isSome_map]
  constructor
  · rintro ⟨e, he, hk⟩
    rw [(fK_iff h.1).2 ⟨he, by simpa using hk⟩]; rfl
  · intro hk
    obtain ⟨e, he⟩ := Option.isSome_iff_exists.1 hk
    obtain ⟨h1, h2⟩ := (fK_iff h.1).1 he
    exact ⟨e, h1, by simpa using h2⟩
theorem val_apply {L set gone : List En} (h : Nice L) (hs : Nice set) (hg : Nice gone) (k : Ky) : val (applyE L set gone) k = (val set k).or (if (val gone k).isSome then none else val L k) := by
  unfold applyE
  rw [val_puts (h.drops gone) hs, val_drops h, mem_key hg]
/-- A row in order is put in order as it is. -/
theorem sort_self {L : List En} (h : Nice L) : sortE L = L := by
  refine val_eq (sort_nice L) h (fun k => ?_)
  unfold sortE
  rw [val_puts Nice.nil h]
  simp [val, fK]
/-- What is told of two states. -/
def setD (A B : List En) : List En := B.filter (fun e => decide (e ∉ A))
def goneD (A B : List En) : List En := A.filter (fun e => !B.any (fun x => decide (keyE x = keyE e)))
theorem val_filter {L : List En} (h : Nice L) (q : En → Bool) (k : Ky) : val (L.filter q) k = ((fK L k).filter q).map (·.id) := by unfold val; rw [fK_filter h.1]
theorem apply_diff {A B : List En} (hA : Nice A) (hB : Nice B) : applyE A (setD A B) (goneD A B) = B := by
  refine val_eq ((hA.drops _).puts _) hB (fun k => ?_)
  rw [val_apply (set := setD A B) (gone := goneD A B) hA (hB.filter _) (hA.filter _)]
  unfold setD goneD
  rw [val_filter hB, val_filter hA]
  unfold val
  cases hb : fK B k with
  | none =>
    cases ha : fK A k with
    | none => rfl
    | some a =>
      obtain ⟨_, h2⟩ := (fK_iff hA.1).1 ha
      have : B.any (fun x => decide (keyE x = keyE a)) = false := by
        rw [h2, mem_key hB]; unfold val; rw [hb]; rfl
      simp [Option.filter, this]
  | some b =>
    obtain ⟨hb1, hb2⟩ := (fK_iff hB.1).1 hb
    by_cases hba : b ∈ A
    · have ha : fK A k = some b := (fK_iff hA.1).2 ⟨hba, hb2⟩
      have : B.any (fun x => decide (keyE x = keyE b)) = true := by
        rw [hb2, mem_key hB]; unfold val; rw [hb]; rfl
      simp [Option.filter, hba, ha, this]
    · simp [Option.filter, hba]
/-- Two changes as one. -/
def hasK (l : List En) (k : Ky) : Bool := l.any (fun e => decide (keyE e = k))
def setJ (dS eS eG : List En) : List En := eS.foldl putE ((dS.filter (fun x => !hasK eS (keyE x) && !hasK eG (keyE x))).foldl putE [])
def goneJ (dG eS eG : List En) : List En := (eG.filter (fun x => !hasK eS (keyE x) && !hasK (sortE dG) (keyE x))).foldl putE ((dG.filter (fun x => !hasK eS (keyE x))).foldl putE [])
theorem setJ_nice (dS eS eG : List En) : Nice (setJ dS eS eG) := (Nice.nil.puts _).puts _
theorem goneJ_nice (dG eS eG : List En) : Nice (goneJ dG eS eG) := (Nice.nil.puts _).puts _
theorem filt_key {L : List En} (h : Nice L) (q : Ky → Bool) (k : Ky) : val (L.filter (fun x => q (keyE x))) k = if q k then val L k else none := by
  rw [val_filter h]
  unfold val
  cases hf : fK L k with
  | none => simp
  | some o =>
    obtain ⟨_, h2⟩ := (fK_iff h.1).1 hf
    simp only [Option.filter, h2]
    split <;> rfl
theorem apply_join {L dS dG eS eG : List En} (h : Nice L) (h1 : Nice dS) (h2 : Nice dG) (h3 : Nice eS) (h4 : Nice eG) : applyE L (setJ dS eS eG) (goneJ dG eS eG) = applyE (applyE L dS dG) eS eG := by
  refine val_eq ((h.drops _).puts _) (((h.drops _).puts _).drops _ |>.puts _) (fun k => ?_)
  have n1 : Nice (dS.filter (fun x => !hasK eS (keyE x) && !hasK eG (keyE x))) := h1.filter _
  have n2 : Nice (dG.filter (fun x => !hasK eS (keyE x))) := h2.filter _
  have n3 : Nice (eG.filter (fun x => !hasK eS (keyE x) && !hasK (sortE dG) (keyE x))) := h4.filter _
  have hLd : Nice (applyE L dS dG) := (h.drops _).puts _
  rw [val_apply h (setJ_nice _ _ _) (goneJ_nice _ _ _), val_apply hLd h3 h4, val_apply h h1 h2]
  have e1 : val (setJ dS eS eG) k = (val eS k).or (if (val eS k).isSome || (val eG k).isSome then none else val dS k) := by
    unfold setJ
    rw [val_puts (Nice.nil.puts _) h3, val_puts Nice.nil n1, filt_key h1 (fun k => !hasK eS k && !hasK eG k)]
    unfold hasK
    rw [mem_key h3, mem_key h4]
    cases (val eS k).isSome <;> cases (val eG k).isSome <;> simp [val, fK]
  have e2 : val (goneJ dG eS eG) k = if (val eS k).isSome then none else (if (val dG k).isSome then none else val eG k).or (val dG k) := by
    unfold goneJ
    rw [val_puts (Nice.nil.puts _) n3, val_puts Nice.nil n2, filt_key h4 (fun k => !hasK eS k && !hasK (sortE dG) k), filt_key h2 (fun k => !hasK eS k), sort_self h2]
    unfold hasK
    rw [mem_key h3, mem_key h2]
    cases (val eS k).isSome <;> cases (val dG k).isSome <;> simp [val, fK]
  rw [e1, e2]
  cases val eS k <;> cases val eG k <;> cases val dS k <;> cases val dG k <;> simp
end Go.Proofs.Ytbdfhenelbakaaa
