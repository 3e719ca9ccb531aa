/-
  The abstract machine: what maps tell, as functions.
-/
import Derived.Test.YtoakdmkjlpjahaaDoorMxSa
namespace Go.Mx
open Go.RowKit
set_option linter.unusedVariables false

/-- A map of this type of keys, at this place, that tells this. -/
def MapAt (P : Program) (kt : TypeId) (H : Hp) (id : Nat) (f : AV → Option AV) : Prop := ∃ es clock, H[id]? = some (.map es clock) ∧ MapOk P kt es clock ∧ ∀ k, lookE k es = f k
section
variable {P : Program} {H H' : Hp} {kt t et : TypeId} {id : Nat} {f : AV → Option AV}
theorem MapAt.same {fp : List Nat} (h : MapAt P kt H id f) (hs : Same fp H H') (hn : id ∉ fp) : MapAt P kt H' id f := by
  obtain ⟨es, c, h1, h2, h3⟩ := h
  exact ⟨es, c, hs.2 _ _ h1 hn, h2, h3⟩
theorem MapAt.lt (h : MapAt P kt H id f) : id < H.length := by obtain ⟨es, c, h1, _⟩ := h; exact Hp.lt h1
theorem MapAt.new (P : Program) (kt : TypeId) (H : Hp) : MapAt P kt (H ++ [.map [] 0]) H.length (fun _ => none) := ⟨[], 0, by simp, MapOk.nil _ _ _, fun k => rfl⟩
theorem MapAt.key {k v : AV} (h : MapAt P kt H id f) (hk : f k = some v) : KGood P kt k := by
  obtain ⟨es, c, h1, h2, h3⟩ := h
  rw [← h3] at hk
  obtain ⟨e, he, rfl, _⟩ := lookE_mem hk
  exact h2.good e he
theorem MapAt.ext {g : AV → Option AV} (h : MapAt P kt H id f) (hg : ∀ k, KGood P kt k → f k = g k) (hn : ∀ k, ¬ KGood P kt k → g k = none) : MapAt P kt H id g := by
  obtain ⟨es, c, h1, h2, h3⟩ := h
  refine ⟨es, c, h1, h2, fun k => ?_⟩
  by_cases hk : KGood P kt k
  · rw [h3, hg k hk]
  · rw [hn k hk]
    exact lookE_none (fun e he e2 => hk (by rw [← e2]; exact h2.good e he))
/-- A look-up tells what the map does, or the zero. -/
theorem MapAt.look (h : MapAt P kt H id f) (ht : P.underlying t = some (.map kt et)) {key : AV} (hk : KGood P kt key) (ok : Bool) : lookV P H t (.mp id) key ok = valOf P et ok (f key) := by
  classical
  obtain ⟨es, c, h1, h2, h3⟩ := h
  simp only [lookV, ht, h1]
  rw [if_pos ⟨h2, hk⟩, h3]
theorem nil_look (ht : P.underlying t = some (.map kt et)) {key : AV} (hk : KGood P kt key) (ok : Bool) : lookV P H t (.v (.map none)) key ok = valOf P et ok none := by
  classical
  simp only [lookV, ht]
  rw [if_pos hk]
open Classical in
theorem MapAt.upd (h : MapAt P kt H id f) (ht : P.underlying t = some (.map kt et)) {key val : AV} (hk : KGood P kt key) {k : Hp → Prop}
    (hq : ∀ H', MapAt P kt H' id (fun x => if x = key then some val else f x) → Same [id] H H' → H'.length = H.length → k H') : updA P H t (.mp id) key val k := by
  obtain ⟨es, c, h1, h2, h3⟩ := h
  simp only [updA, ht, h1]
  refine ⟨h2, hk, hq _ ⟨_, _, List.getElem?_set_self (Hp.lt h1), h2.put hk val, fun x => ?_⟩ (Same.set (by simp)) (by simp)⟩
  rw [lookE_put, h3]
open Classical in
theorem MapAt.del (h : MapAt P kt H id f) (ht : P.underlying t = some (.map kt et)) {key : AV} (hk : KGood P kt key) {k : Hp → Prop}
    (hq : ∀ H', MapAt P kt H' id (fun x => if x = key then none else f x) → Same [id] H H' → H'.length = H.length → k H') : delA P H t (.mp id) key k := by
  obtain ⟨es, c, h1, h2, h3⟩ := h
  simp only [delA, ht, h1]
  refine ⟨h2, hk, hq _ ⟨_, _, List.getElem?_set_self (Hp.lt h1), h2.del key, fun x => ?_⟩ (Same.set (by simp)) (by simp)⟩
  rw [lookE_del, h3]

/-! ### Walks of maps -/
/-- A walk of a map that has not changed since it began: these keys are done. -/
def IterAt (P : Program) (kt : TypeId) (H : Hp) (i m : Nat) (f : AV → Option AV) (n : Nat) (done : List AV) : Prop :=
  ∃ (es : List (Nat × AV × AV)) (clock : Nat) (ds : List (Nat × AV × AV)), H[i]? = some (.mapIter (some m) clock (ds.map (·.1)) clock) ∧ H[m]? = some (.map es clock) ∧ MapOk P kt es clock ∧ (∀ k, lookE k es = f k) ∧ n = es.length ∧
    (∀ d ∈ ds, d ∈ es) ∧ ds.Nodup ∧ done = ds.map (·.2.1)
theorem IterAt.map {i m n : Nat} {done : List AV} (h : IterAt P kt H i m f n done) : MapAt P kt H m f := by
  obtain ⟨es, c, ds, h1, h2, h3, h4, _⟩ := h
  exact ⟨es, c, h2, h3, h4⟩
theorem IterAt.same {i m n : Nat} {done : List AV} {fp : List Nat} (h : IterAt P kt H i m f n done) (hs : Same fp H H') (hi : i ∉ fp) (hm : m ∉ fp) : IterAt P kt H' i m f n done := by
  obtain ⟨es, c, ds, h1, h2, h3⟩ := h
  exact ⟨es, c, ds, hs.2 _ _ h1 hi, hs.2 _ _ h2 hm, h3⟩
theorem nodup_sub {es ds : List (Nat × AV × AV)} (hk : (es.map (·.2.1)).Nodup) (hs : ∀ d ∈ ds, d ∈ es) (hd : ds.Nodup) : (ds.map (·.2.1)).Nodup := by
  rw [List.nodup_iff_pairwise_ne, List.pairwise_map]
  refine (List.nodup_iff_pairwise_ne.1 hd).imp_of_mem (fun {a b} ha hb hab he => hab ?_)
  obtain ⟨x, hx⟩ := List.getElem?_of_mem (hs a ha)
  obtain ⟨y, hy⟩ := List.getElem?_of_mem (hs b hb)
  have e1 : (es.map (·.2.1))[x]? = some a.2.1 := by rw [List.getElem?_map, hx]; rfl
  have e2 : (es.map (·.2.1))[y]? = some b.2.1 := by rw [List.getElem?_map, hy]; rfl
  have hxy : x = y := (List.getElem?_inj (List.getElem?_eq_some_iff.1 e1).1 hk).1 (by rw [e1, e2, he])
  subst hxy
  rw [hx] at hy; simpa using hy
theorem IterAt.nodup {i m n : Nat} {done : List AV} (h : IterAt P kt H i m f n done) : done.Nodup := by
  obtain ⟨es, c, ds, h1, h2, h3, h4, h5, h6, h7, rfl⟩ := h
  exact nodup_sub h3.keys h6 h7
theorem IterAt.mem {i m n : Nat} {done : List AV} (h : IterAt P kt H i m f n done) {k : AV} (hk : k ∈ done) : ∃ v, f k = some v := by
  obtain ⟨es, c, ds, h1, h2, h3, h4, h5, h6, h7, rfl⟩ := h
  obtain ⟨d, hd, rfl⟩ := List.mem_map.1 hk
  obtain ⟨j, hj⟩ := List.getElem?_of_mem (h6 d hd)
  exact ⟨d.2.2, by rw [← h4]; exact lookE_at h3.keys hj rfl⟩
theorem IterAt.le {i m n : Nat} {done : List AV} (h : IterAt P kt H i m f n done) : done.length ≤ n := by
  obtain ⟨es, c, ds, h1, h2, h3, h4, rfl, h6, h7, rfl⟩ := h
  simpa using h7.length_le_of_subset h6
/-- A walk begins. -/
theorem MapAt.range {m : Nat} (h : MapAt P kt H m f) (ht : P.underlying t = some (.map kt et)) {k : AV → Hp → Prop}
    (hq : ∀ H' n, IterAt P kt H' H.length m f n [] → Same [] H H' → H'.length = H.length + 1 → k (.it H.length) H') : rangeA P H t (.mp m) k := by
  obtain ⟨es, c, h1, h2, h3⟩ := h
  simp only [rangeA, ht, h1]
  exact hq _ es.length ⟨es, c, [], by simp, by rw [List.getElem?_append_left (Hp.lt h1)]; exact h1, h2, h3, rfl, by simp, by simp, rfl⟩ (Same.app _ _ _) (by simp)
/-- .. and takes a step, or ends. -/
theorem IterAt.next {i m n : Nat} {done : List AV} (h : IterAt P kt H i m f n done) {k : AV → Hp → Prop}
    (hstep : ∀ H' key v, f key = some v → KGood P kt key → key ∉ done → done.length < n → IterAt P kt H' i m f n (done ++ [key]) → entryA H' (.it i) = some (.tup [key, v]) → Same [i] H H' → H'.length = H.length → k (.tup [.v (.bool true), key, v]) H')
    (hend : (∀ key v, f key = some v → key ∈ done) → k (.tup [.v (.bool false)]) H) : nextA H (.it i) false k := by
  obtain ⟨es, c, ds, h1, h2, h3, h4, rfl, h6, h7, rfl⟩ := h
  have hne : i ≠ m := fun e => by subst e; rw [h1] at h2; simp at h2
  have hstamp : ∀ e ∈ es, ∀ d ∈ ds, e.1 = d.1 → e = d := fun e he d hd hed => by
    obtain ⟨x, hx⟩ := List.getElem?_of_mem he
    obtain ⟨y, hy⟩ := List.getElem?_of_mem (h6 d hd)
    have e1 : (es.map (·.1))[x]? = some e.1 := by rw [List.getElem?_map, hx]; rfl
    have e2 : (es.map (·.1))[y]? = some d.1 := by rw [List.getElem?_map, hy]; rfl
    have hxy : x = y := (List.getElem?_inj (List.getElem?_eq_some_iff.1 e1).1 h3.stamps).1 (by rw [e1, e2, hed])
    subst hxy
    rw [hx] at hy; simpa using hy
  simp only [nextA, h1, h2]
  refine ⟨fun ⟨a, b, hall⟩ => ?_, fun e he hns => ?_, fun hall => hend fun key v hk => ?_⟩
  · obtain ⟨x, l, rfl⟩ := List.exists_cons_of_ne_nil b
    have := hall x (by simp)
    have := h3.born x (by simp)
    omega
  · have hnd : e ∉ ds := fun hd => hns (List.mem_map.2 ⟨e, hd, rfl⟩)
    obtain ⟨j, hj⟩ := List.getElem?_of_mem he
    have hset : (H.set i (.mapIter (some m) c (ds.map (·.1) ++ [e.1]) c))[i]? = some (.mapIter (some m) c ((ds ++ [e]).map (·.1)) c) := by rw [List.getElem?_set_self (Hp.lt h1)]; simp
    have hkeep : (H.set i (.mapIter (some m) c (ds.map (·.1) ++ [e.1]) c))[m]? = some (.map es c) := by rw [List.getElem?_set_ne hne]; exact h2
    have hnew : (ds ++ [e]).Nodup := by
      rw [List.nodup_append]
      exact ⟨h7, by simp, fun a ha b hb hab => hnd (by simp at hb; subst hb; rw [← hab]; exact ha)⟩
    have hsub : ∀ d ∈ ds ++ [e], d ∈ es := fun d hd => by
      rcases List.mem_append.1 hd with hd | hd
      · exact h6 d hd
      · simp at hd; subst hd; exact he
    refine hstep _ e.2.1 e.2.2 (by rw [← h4]; exact lookE_at h3.keys hj rfl) (h3.good e he) (fun hk => ?_) ?_ ⟨es, c, ds ++ [e], hset, hkeep, h3, h4, rfl, hsub, hnew, by simp⟩ ?_ (Same.set (by simp)) (by simp)
    · have := nodup_sub h3.keys hsub hnew
      rw [List.map_append, List.nodup_append] at this
      exact this.2.2 e.2.1 hk e.2.1 (by simp) rfl
    · have := hnew.length_le_of_subset hsub
      simp at this ⊢; omega
    · simp only [entryA, hset, hkeep]
      have hl : ((ds ++ [e]).map (·.1)).getLast? = some e.1 := by simp
      simp only [hl]
      rw [if_pos trivial]
      have hf : es.find? (fun x => x.1 == e.1) = some e := by
        cases hfd : es.find? (fun x => x.1 == e.1) with
        | none => have := List.find?_eq_none.1 hfd e he; simp at this
        | some x =>
          have hx1 := List.mem_of_find?_eq_some hfd
          have hx2 := List.find?_some hfd
          obtain ⟨a, ha⟩ := List.getElem?_of_mem hx1
          have e1 : (es.map (·.1))[a]? = some x.1 := by rw [List.getElem?_map, ha]; rfl
          have e2 : (es.map (·.1))[j]? = some e.1 := by rw [List.getElem?_map, hj]; rfl
          have hxy : a = j := (List.getElem?_inj (List.getElem?_eq_some_iff.1 e1).1 h3.stamps).1 (by rw [e1, e2]; simpa using hx2)
          subst hxy
          rw [ha] at hj; simpa using hj
      rw [hf]; rfl
  · rw [← h4] at hk
    obtain ⟨e, he, rfl, rfl⟩ := lookE_mem hk
    rcases hall e he with h8 | h8
    · obtain ⟨d, hd, hde⟩ := List.mem_map.1 h8
      have := hstamp e he d hd hde.symm
      subst this
      exact List.mem_map.2 ⟨e, hd, rfl⟩
    · have := h3.born e he
      omega
end
end Go.Mx
