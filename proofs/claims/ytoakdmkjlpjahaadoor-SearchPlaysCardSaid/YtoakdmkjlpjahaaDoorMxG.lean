/-
  The abstract machine: every operation that changes no memory yields what 'valS' tells.
-/
import Derived.Test.YtoakdmkjlpjahaaDoorMxF
namespace Go.Mx
open Go.RowKit
set_option linter.unusedVariables false

section
variable {P : Program} {N : Nat} {fr : Fr} {H : Hp} {ρ : Rho} {I : Imm} {β : Nat → Option Nat} {a : Act} {w : World}

theorem part_sound {t : TypeId} {g : Bool} {s off : Nat} {cs : List AV} {us : List Value} {x : AV} (hg : aggT P t = some g) (hs : szT P t = some s) (hv : VRs ρ I cs us) (ho : ∀ u ∈ us, u.oneCell' = true)
    (h : partA g off s cs = some x) : ∃ u, (part t us.toArray off).run P w = .ok u w ∧ VR ρ I x u := by
  cases g with
  | true =>
    simp only [partA] at h
    split at h <;> simp at h
    subst h
    rename_i hle
    refine ⟨.agg ((us.drop off).take s).toArray, ?_, .agg _ _ ((hv.drop off).take s).1 ((hv.drop off).take s).2 (fun u hu => ho u (List.mem_of_mem_drop (List.mem_of_mem_take hu)))⟩
    simp only [part, Sem.run_bind, aggT_run hg, Result.andThen_ok, if_true, szT_run hs, Sem.run_pure]
    congr 2
    apply Array.ext'
    simp [List.extract_eq_take_drop]
  | false =>
    simp only [partA] at h
    obtain ⟨u, hu, hx⟩ := hv.get h
    refine ⟨u, ?_, hx⟩
    simp only [part, Sem.run_bind, aggT_run hg, Result.andThen_ok, Bool.false_eq_true, if_false]
    simp [hu]

/-- The cells of related values. -/
theorem cells_vr {x : AV} {u : Value} (h : VR ρ I x u) (hx : okPart x = true) : VRs ρ I (cellsA x) u.cells.toList ∧ ∀ z ∈ u.cells.toList, z.oneCell' = true := by
  cases h with
  | agg cs us h1 h2 h3 => exact ⟨⟨h1, h2⟩, h3⟩
  | tup cs us h1 h2 => simp [okPart, oneA] at hx
  | v =>
    simp only [okPart, oneA] at hx
    have : u.cells = #[u] := by cases u <;> first | rfl | (simp [Value.oneCell'] at hx)
    rw [this]
    exact ⟨VRs.cons (.v u) VRs.nil, by simp [hx]⟩
  | row x n cs us ad cap h1 h2 h3 h4 h5 h6 => exact ⟨VRs.cons (.row x n cs us ad cap h1 h2 h3 h4 h5 h6) VRs.nil, by simp [Value.cells, Value.oneCell']⟩
  | sl id ver sz off n l cap h1 h2 h3 h4 => exact ⟨VRs.cons (.sl id ver sz off n l cap h1 h2 h3 h4) VRs.nil, by simp [Value.cells, Value.oneCell']⟩
  | ptr id ver off l h1 => exact ⟨VRs.cons (.ptr id ver off l h1) VRs.nil, by simp [Value.cells, Value.oneCell']⟩
  | rp cs us ad off h1 h2 h3 => exact ⟨VRs.cons (.rp cs us ad off h1 h2 h3) VRs.nil, by simp [Value.cells, Value.oneCell']⟩
  | mp id l h1 => exact ⟨VRs.cons (.mp id l h1) VRs.nil, by simp [Value.cells, Value.oneCell']⟩
  | it id l h1 => exact ⟨VRs.cons (.it id l h1) VRs.nil, by simp [Value.cells, Value.oneCell']⟩
  | fn f fs cs us vs h1 h2 h3 h4 => exact ⟨VRs.cons (.fn f fs cs us vs h1 h2 h3 h4) VRs.nil, by simp [Value.cells, Value.oneCell']⟩

theorem foldl_set (vs : List Value) : ∀ (k off : Nat) (cells : Array Value), off + k + vs.length ≤ cells.size →
    ((vs.zipIdx k).foldl (fun cs (p : Value × Nat) => cs.setIfInBounds (off + p.2) p.1) cells).toList = cells.toList.take (off + k) ++ vs ++ cells.toList.drop (off + k + vs.length) := by
  induction vs with
  | nil => intro k off cells h; simp
  | cons v vs ih =>
    intro k off cells h
    simp only [List.zipIdx_cons, List.foldl_cons]
    simp only [List.length_cons] at h
    rw [ih (k + 1) off _ (by simp; omega)]
    simp only [Array.toList_setIfInBounds, List.length_cons]
    have hl : off + k < cells.toList.length := by simp; omega
    rw [show off + (k + 1) = off + k + 1 from by omega, show off + k + 1 + vs.length = off + k + (vs.length + 1) from by omega]
    rw [List.drop_set_of_lt (by omega)]
    have : (cells.toList.set (off + k) v).take (off + k + 1) = cells.toList.take (off + k) ++ [v] := by
      rw [List.take_succ_eq_append_getElem (by simpa using hl), List.take_set_of_le (by omega)]
      simp
    rw [this]
    simp

theorem fill_sound (places : Nat → Option (Nat × Nat)) : ∀ (ps : List (Nat × Nat × AV)) (qs : List (Nat × Value)) (cells : List AV) (arr : Array Value) (r : List AV),
    VRs ρ I cells arr.toList → (∀ u ∈ arr.toList, u.oneCell' = true) → qs.length = ps.length → (∀ (i : Nat) (p : Nat × Nat × AV), ps[i]? = some p → ∃ q : Nat × Value, qs[i]? = some q ∧ places q.1 = some (p.1, p.2.1) ∧ VR ρ I p.2.2 q.2) →
    fillA cells ps = some r → ∃ arr', Instr.fill places arr qs = some arr' ∧ VRs ρ I r arr'.toList ∧ ∀ u ∈ arr'.toList, u.oneCell' = true
  | [], qs, cells, arr, r, hv, ho, hl, hq, h => by
    have : qs = [] := by simpa using hl
    subst this
    simp [fillA] at h; subst h
    exact ⟨arr, rfl, hv, ho⟩
  | p :: ps, qs, cells, arr, r, hv, ho, hl, hq, h => by
    obtain ⟨off, size, x⟩ := p
    cases qs with
    | nil => simp at hl
    | cons q qs =>
      obtain ⟨i, v⟩ := q
      obtain ⟨q', hq', hp, hx⟩ := hq 0 _ rfl
      simp at hq'; subst hq'
      simp only at hp hx
      simp only [fillA] at h
      split at h <;> (first | (exfalso; simp at h; done) | skip)
      rename_i hc
      obtain ⟨hc1, hc2, hc3⟩ := hc
      obtain ⟨hcv, hco⟩ := cells_vr hx hc3
      have hsz : v.cells.size = size := by rw [← hc1, ← hcv.1]; simp
      have hasz : arr.size = cells.length := by rw [← hv.1]; simp
      have hf := foldl_set v.cells.toList 0 off arr (by simp; omega)
      simp only [Instr.fill, hp]
      rw [if_neg (by simp; omega)]
      refine fill_sound places ps qs _ _ r ?_ ?_ (by simpa using hl) (fun j p hj => ?_) h
      · have : (v.cells.zipIdx.foldl (fun cs (x : Value × Nat) => match x with | (c, j) => cs.setIfInBounds (off + j) c) arr).toList = arr.toList.take off ++ v.cells.toList ++ arr.toList.drop (off + size) := by
          rw [← Array.foldl_toList]
          have e := hf
          simp only [Nat.add_zero, Array.length_toList, hsz] at e
          simpa using e
        rw [this]
        exact ((hv.take off).append hcv).append (hv.drop (off + size))
      · have : (v.cells.zipIdx.foldl (fun cs (x : Value × Nat) => match x with | (c, j) => cs.setIfInBounds (off + j) c) arr).toList = arr.toList.take off ++ v.cells.toList ++ arr.toList.drop (off + size) := by
          rw [← Array.foldl_toList]
          have e := hf
          simp only [Nat.add_zero, Array.length_toList, hsz] at e
          simpa using e
        rw [this]
        intro u hu
        rcases List.mem_append.1 hu with hu | hu
        · rcases List.mem_append.1 hu with hu | hu
          · exact ho u (List.mem_of_mem_take hu)
          · exact hco u hu
        · exact ho u (List.mem_of_mem_drop hu)
      · obtain ⟨q, hq1, hq2⟩ := hq (j + 1) p (by simpa using hj)
        exact ⟨q, by simpa using hq1, hq2⟩
end
end Go.Mx
