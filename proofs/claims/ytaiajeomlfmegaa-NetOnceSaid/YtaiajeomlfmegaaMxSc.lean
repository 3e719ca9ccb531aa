/-
  The abstract machine: what maps tell, as functions.
-/
import Derived.Test.YtaiajeomlfmegaaMxSa
namespace Go.Mx
open Go.RowKit
set_option linter.unusedVariables false

/-- A map of this type of keys, at this place, that tells this. -/
def MapAt (P : Program) (kt : TypeId) (H : Hp) (id : Nat) (f : AV → Option AV) : Prop := ∃ es clock, H[id]? = some (.map es clock) ∧ MapOk P kt es clock ∧ ∀ k, lookE k es = f k
section
variable {P : Program} {H H' : Hp} {kt t et : TypeId} {id : Nat} {f : AV → Option AV}
theorem MapAt.same {fp : List Nat} (h : MapAt P kt H id f) (hs : Same fp H H') (hn : id ∉ fp) : MapAt P kt H' id f := by
  obtain ⟨es, c, h1, h2, h3⟩ := h
  exact ⟨es, c, hs.2 _ _ h1 hn, h2, h3⟩
theorem MapAt.lt (h : MapAt P kt H id f) : id < H.length := by obtain ⟨es, c, h1, _⟩ := h; exact Hp.lt h1
theorem MapAt.new (P : Program) (kt : TypeId) (H : Hp) : MapAt P kt (H ++ [.map [] 0]) H.length (fun _ => none) := ⟨[], 0, by simp, MapOk.nil _ _ _, fun k => rfl⟩
theorem MapAt.key {k v : AV} (h : MapAt P kt H id f) (hk : f k = some v) : KGood P kt k := by
  obtain ⟨es, c, h1, h2, h3⟩ := h
  rw [← h3] at hk
  obtain ⟨e, he, rfl, _⟩ := lookE_mem hk
  exact h2.good e he
theorem MapAt.ext {g : AV → Option AV} (h : MapAt P kt H id f) (hg : ∀ k, KGood P kt k → f k = g k) (hn : ∀ k, ¬ KGood P kt k → g k = none) : MapAt P kt H id g := by
  obtain ⟨es, c, h1, h2, h3⟩ := h
  refine ⟨es, c, h1, h2, fun k => ?_⟩
  by_cases hk : KGood P kt k
  · rw [h3, hg k hk]
  · rw [hn k hk]
    exact lookE_none (fun e he e2 => hk (by rw [← e2]; exact h2.good e he))
/-- A look-up tells what the map does, or the zero. -/
theorem MapAt.look (h : MapAt P kt H id f) (ht : P.underlying t = some (.map kt et)) {key : AV} (hk : KGood P kt key) (ok : Bool) : lookV P H t (.mp id) key ok = valOf P et ok (f key) := by
  classical
  obtain ⟨es, c, h1, h2, h3⟩ := h
  simp only [lookV, ht, h1]
  rw [if_pos ⟨h2, hk⟩, h3]
theorem nil_look (ht : P.underlying t = some (.map kt et)) {key : AV} (hk : KGood P kt key) (ok : Bool) : lookV P H t (.v (.map none)) key ok = valOf P et ok none := by
  classical
  simp only [lookV, ht]
  rw [if_pos hk]
open Classical in
theorem MapAt.upd (h : MapAt P kt H id f) (ht : P.underlying t = some (.map kt et)) {key val : AV} (hk : KGood P kt key) {k : Hp → Prop}
    (hq : ∀ H', MapAt P kt H' id (fun x => if x = key then some val else f x) → Same [id] H H' → H'.length = H.length → k H') : updA P H t (.mp id) key val k := by
  obtain ⟨es, c, h1, h2, h3⟩ := h
  simp only [updA, ht, h1]
  refine ⟨h2, hk, hq _ ⟨_, _, List.getElem?_set_self (Hp.lt h1), h2.put hk val, fun x => ?_⟩ (Same.set (by simp)) (by simp)⟩
  rw [lookE_put, h3]
open Classical in
theorem MapAt.del (h : MapAt P kt H id f) (ht : P.underlying t = some (.map kt et)) {key : AV} (hk : KGood P kt key) {k : Hp → Prop}
    (hq : ∀ H', MapAt P kt H' id (fun x => if x = key then none else f x) → Same [id] H H' → H'.length = H.length → k H') : delA P H t (.mp id) key k := by
  obtain ⟨es, c, h1, h2, h3⟩ := h
  simp only [delA, ht, h1]
  refine ⟨h2, hk, hq _ ⟨_, _, List.getElem?_set_self (Hp.lt h1), h2.del key, fun x => ?_⟩ (Same.set (by simp)) (by simp)⟩
  rw [lookE_del, h3]
end
end Go.Mx
