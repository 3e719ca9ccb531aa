/-
  The abstract machine: keys that are arrays and structures of plain cells.
-/
import Derived.Test.YtoakdmkjlpjahaaDoorMxSa
namespace Go.Mx
open Go.RowKit
set_option linter.unusedVariables false

section
variable {P : Program} {t e : TypeId}
/-- A cell that is a plain key. -/
def PlainAt (P : Program) (e : TypeId) (x : Value) : Prop := ∀ n, (P.keyLits (n + 1) e [x]).isSome = true
theorem PlainAt.str {s : ByteArray} (h : P.underlying e = some .string) (hs : s.size ≤ maxLen) : PlainAt P e (.string s) := fun n => by simp [Program.keyLits, h, hs]
theorem PlainAt.int {k : IntKind} {z : Int} (h : P.underlying e = some (.int k)) (hz : (Lit.int k z).wf = true) : PlainAt P e (.int k z) := fun n => by simp [Program.keyLits, h, hz]
theorem PlainAt.bool {b : Bool} (h : P.underlying e = some .bool) : PlainAt P e (.bool b) := fun n => by simp [Program.keyLits, h]

theorem mapM_isSome {α β : Type} {f : α → Option β} : ∀ l : List α, (∀ x ∈ l, (f x).isSome = true) → (l.mapM f).isSome = true
  | [], _ => rfl
  | x :: l, h => by
    obtain ⟨y, hy⟩ := Option.isSome_iff_exists.1 (h x (by simp))
    obtain ⟨ys, hys⟩ := Option.isSome_iff_exists.1 (mapM_isSome l (fun z hz => h z (by simp [hz])))
    rw [List.mapM_cons, hy]
    simp [hys]

theorem flatV_map : ∀ us : List Value, flatV (us.map .v) = some us
  | [] => rfl
  | u :: us => by simp [flatV, flatV_map us]

/-- An array of plain cells. -/
theorem KGood.array {m : Nat} (A : AggKey P t) (hu : P.underlying t = some (.array m e)) (hk : P.keyType t = true) (hs : P.types.size = (P.types.size - 1) + 1) (hc : P.cellsOf e = 1) (ht : P.cellsOf t = m) {us : List Value} (hl : us.length = m)
    (h : ∀ x ∈ us, PlainAt P e x) : KGood P t (.agg (us.map .v)) := by
  refine KGood.agg A (flatV_map us) ?_
  have hf : (Value.agg us.toArray).formed P t = true := by simp [Value.formed, hu, ht, hl]
  have hkl : (P.keyLits (P.types.size + 1) t us).isSome = true := by
    rw [hs]
    unfold Program.keyLits
    simp only [hu, ht, hl, hc, if_true]
    rw [Option.isSome_map]
    refine mapM_isSome _ (fun i hi => ?_)
    have him : i < us.length := by rw [hl]; simpa using hi
    have : (us.drop (i * 1)).take 1 = [us[i]] := by
      rw [Nat.mul_one, List.drop_eq_getElem_cons him]; rfl
    rw [this]
    exact h _ (List.getElem_mem him) _
  unfold keyOf
  simp only [hu, hk, hf, Bool.and_self, if_true, Value.cells]
  rw [Option.isSome_map]
  exact hkl

/-- A structure of plain cells. -/
theorem KGood.struct {fs : Array Field} (A : AggKey P t) (hu : P.underlying t = some (.struct fs)) (hk : P.keyType t = true) (hs : P.types.size = (P.types.size - 1) + 1) (hb : fs.all (·.name != "_") = true) {us : List Value} (ht : P.cellsOf t = us.length)
    (h : ∀ (i : Nat) (f : Field), fs[i]? = some f → f.offset = i ∧ P.cellsOf f.type = 1 ∧ ∃ x, us[i]? = some x ∧ PlainAt P f.type x) : KGood P t (.agg (us.map .v)) := by
  refine KGood.agg A (flatV_map us) ?_
  have hf : (Value.agg us.toArray).formed P t = true := by simp [Value.formed, hu, ht]
  have hkl : (P.keyLits (P.types.size + 1) t us).isSome = true := by
    rw [hs]
    unfold Program.keyLits
    simp only [hu]
    rw [if_pos ⟨ht.symm, hb⟩, Option.isSome_map]
    refine mapM_isSome _ (fun f hfm => ?_)
    obtain ⟨i, hi⟩ := List.getElem?_of_mem hfm
    obtain ⟨h1, h2, x, h3, h4⟩ := h i f (by simpa using hi)
    have him := (List.getElem?_eq_some_iff.1 h3).1
    have : (us.drop f.offset).take (P.cellsOf f.type) = [x] := by
      rw [h1, h2, List.drop_eq_getElem_cons him]
      rw [List.getElem?_eq_getElem him] at h3
      simp at h3; simp [h3]
    rw [this]
    exact h4 _
  unfold keyOf
  simp only [hu, hk, hf, Bool.and_self, if_true, Value.cells]
  rw [Option.isSome_map]
  exact hkl
end
end Go.Mx
