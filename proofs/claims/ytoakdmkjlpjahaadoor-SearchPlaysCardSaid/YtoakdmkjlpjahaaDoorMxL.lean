/-
  The abstract machine: copy, make, literals of slices, texts as bytes.
-/
import Derived.Test.YtoakdmkjlpjahaaDoorMxK
namespace Go.Mx
open Go.RowKit
set_option linter.unusedVariables false
set_option linter.unusedSimpArgs false

section
variable {P : Program} {N : Nat} {fr : Fr} {H : Hp} {ρ : Rho} {I : Imm} {β : Nat → Option Nat} {a : Act} {w w' : World}

theorem copy_sound (hs : StH ρ I H w) {t tx ty e : TypeId} {sz : Nat} {d x : AV} {vd vx : Value} {k : AV → Hp → Prop} (ht : P.underlying t = some (.slice e))
    (hk : (∃ e', P.underlying tx = some (.slice e')) ∧ (∀ s, x ≠ .v (.string s)) ∨ P.underlying tx = some .string ∧ ∃ s, x = .v (.string s))
    (hsz : szT P e = some sz) (hd : VR ρ I d vd) (hx : VR ρ I x vx) (h : copyA H sz d x k) :
    ∃ u w', (Builtin.copy_ #[t, tx] ty #[vd, vx]).run P w = .ok u w' ∧ DoesH ρ I H w w' u k := by
  unfold copyA at h
  split at h <;> (first | exact h.elim | skip)
  rename_i m ys hsrc
  obtain ⟨us, hS, hys, hpre⟩ := src_sound (P := P) hs hk hx hsrc
  split at h
  · rename_i id ver s' off n
    split at h <;> (first | exact h.elim | skip)
    rename_i v' cs hob
    split at h <;> (first | exact h.elim | skip)
    rename_i hc
    obtain ⟨rfl, rfl, hle⟩ := hc
    cases hd with
    | sl _ _ _ _ _ l cap hl hn hcap hmx =>
      obtain ⟨hver, l', hl', hcell⟩ := hs.obj _ _ hob
      rw [hl] at hl'; simp at hl'; subst hl'
      have hmn : min m n * s' ≤ n * s' := Nat.mul_le_mul_right _ (Nat.min_le_right _ _)
      have hmm : min m n * s' ≤ m * s' := Nat.mul_le_mul_right _ (Nat.min_le_left _ _)
      have hyl : (ys.take (min m n * s')).length = min m n * s' := by rw [List.length_take, hys.1.symm, hS.newsLen]; omega
      have hul : (us.take (min m n * s')).length = min m n * s' := by rw [List.length_take, hS.newsLen]; omega
      obtain ⟨w', _, hrun, hg, hcell'⟩ := hcell.write (P := P) (off := off) (hys.take (min m n * s')) (fun u hu => hS.one u (List.mem_of_mem_take hu)) (by rw [hyl]; omega)
      have hfirst := hpre (min m n) (Nat.min_le_left _ _)
      have hr : (Builtin.copy_ #[t, tx] ty #[.slice (some ⟨l.blk, l.base + off, none⟩) n cap, vx]).run P w = .ok (goInt (min m n : Nat)) w' := by
        have hf' : (Builtin.firstCells s' (m.min n) vx).run P w = .ok (us.take (min m n * s')).toArray w := hfirst
        simp only [Builtin.copy_, List.getElem?_toArray, List.getElem?_cons_zero, List.getElem?_cons_succ]
        simp [run_underlying ht, hS.len, szT_run hsz, hf', hrun]
      exact ⟨_, w', hr, _, _, ρ, I, Mv.write (ob := .cells v' (splice cs off (ys.take (min m n * s')))) hs hob (by simp [blkOf, hl]) hg (Ext.refl _ _) (fun _ _ _ => rfl) (b1 := l.blk) (.inl rfl) ⟨hver, l, hl, hcell'⟩ (by simp [blkOf, hl]), .v _, h⟩
  · rename_i xx cs
    cases hd with
    | row _ _ _ vs ad cap h1 h2 h3 h4 h5 h6 =>
      refine ⟨goInt 0, w, ?_, _, H, ρ, I, Mv.refl hs, .v _, h⟩
      have hf := hpre 0 (Nat.zero_le _)
      simp only [Nat.zero_mul, List.take_zero] at hf
      cases ad <;> simp [Builtin.copy_, run_underlying ht, hS.len, szT_run hsz, hf, storeCells, goInt]
  · exact h.elim

theorem make_sound (hs : StH ρ I H w) {t e : TypeId} {zs : List AV} {bytes : Nat} {l c : AV} {vl vc : Value} {k : AV → Hp → Prop} (ht : P.underlying t = some (.slice e))
    (hz : zerosT P e = some zs) (hsz : szT P e = some zs.length) (hb : ((P.info? e).map (·.bytes)) = some bytes) (hl : VR ρ I l vl) (hc : VR ρ I c vc) (h : makeA H bytes zs l c k) :
    ∃ u w', (Instr.makeSlice t vl vc).run P w = .ok u w' ∧ DoesH ρ I H w w' u k := by
  unfold makeA at h
  split at h <;> (first | exact h.elim | skip)
  rename_i k1 l k2 c
  split at h <;> (first | exact h.elim | skip)
  rename_i hc'
  obtain ⟨h0, h1, h2, h3⟩ := hc'
  cases hl; cases hc
  obtain ⟨i, z, hi, hzz, rfl, ho⟩ := zerosT_spec hz
  have hbi : i.bytes = bytes := by simpa [hi] using hb
  have hisz : i.size = z.cells.size := by simpa [szT, hi] using hsz
  have hwl : IntKind.i64.wrap l = l := IntWalk.i64_in _ (by omega)
  have hwc : IntKind.i64.wrap c = c := IntWalk.i64_in _ (by omega)
  have hbig : ¬ (281474976710656 < (bytes : Int) * c) := by
    have : ((bytes * c.toNat : Nat) : Int) ≤ ((140737488355328 : Nat) : Int) := Int.ofNat_le.2 h3
    have e : ((c.toNat : Nat) : Int) = c := Int.toNat_of_nonneg (by omega)
    rw [Int.natCast_mul, e] at this
    have e2 : ((140737488355328 : Nat) : Int) = 140737488355328 := rfl
    rw [e2] at this
    omega
  let arr : Array Value := (Array.range (c.toNat * z.cells.size)).map fun j => (if c.toNat * z.cells.size = 0 then #[] else z.cells)[j % (if c.toNat * z.cells.size = 0 then (#[] : Array Value) else z.cells).size]!
  have hsize : arr.size = c.toNat * z.cells.size := by simp [arr]
  have hget : ∀ j, j < c.toNat * z.cells.size → arr[j]? = z.cells[j % z.cells.size]? := by
    intro j hj
    have hp : 0 < z.cells.size := by
      rcases Nat.eq_zero_or_pos z.cells.size with h0 | h0
      · rw [h0] at hj; simp at hj
      · exact h0
    have hne : ¬ (c.toNat * z.cells.size = 0) := by omega
    have hlt : j % z.cells.size < z.cells.size := Nat.mod_lt _ hp
    simp only [arr, hne, if_false, Array.getElem?_map, Array.getElem?_range, hj, if_true, Option.map_some]
    rw [getElem!_pos z.cells _ hlt, Array.getElem?_eq_getElem hlt]
  have hle : l.toNat * z.cells.size ≤ c.toNat * z.cells.size := Nat.mul_le_mul_right _ (by omega)
  have hrl : (repeatL l.toNat (z.cells.toList.map AV.v)).length = l.toNat * z.cells.size := by simp [repeatL_length]
  have hm := Mv.newCells (T := e) (arr := arr) hs (cs := repeatL l.toNat (z.cells.toList.map AV.v)) (by
      have ha : arr.toList.length = c.toNat * z.cells.size := by simpa using hsize
      refine VRs.of_get (by rw [List.length_take, ha, hrl]; omega) fun j x u hx hu => ?_
      have hj := (List.getElem?_eq_some_iff.1 hx).1
      rw [hrl] at hj
      rw [repeatL_get _ _ _ (by simpa using hj)] at hx
      rw [List.getElem?_take, if_pos (by rw [hrl]; exact hj), Array.getElem?_toList, hget j (by omega)] at hu
      simp only [List.getElem?_map, List.length_map, Array.length_toList, Option.map_eq_some_iff] at hx
      obtain ⟨y, hy, rfl⟩ := hx
      rw [Array.getElem?_toList, hu] at hy
      simp at hy; subst hy
      exact .v _) (by rw [hrl, hsize]; exact hle) (by
      intro u hu
      obtain ⟨j, hj⟩ := List.getElem?_of_mem hu
      have hlt := (List.getElem?_eq_some_iff.1 hj).1
      simp [hsize] at hlt
      rw [Array.getElem?_toList, hget j hlt] at hj
      exact ho u (by have := Array.mem_of_getElem? hj; simpa using this))
  refine ⟨.slice (some ⟨w.heap.size, 0, none⟩) l.toNat c.toNat, w.alloc (.cells arr e), ?_, _, _, _, I, hm, .sl H.length 0 (z.cells.toList.map AV.v).length 0 _ _ c.toNat (Rho.set_self _ _ _ _) (by omega) (by simp [hsize]) (by show c.toNat ≤ 9223372036854775807; omega), by simpa using h⟩
  have hl0 : ¬ (l < 0) := by omega
  have hc0 : ¬ (c < 0) := by omega
  have hcl : ¬ (c < l) := by omega
  by_cases hn : c.toNat * z.cells.size = 0
  · simp [Instr.makeSlice, run_underlying ht, asInt, asIntOf, typeInfo, hi, hbi, hwl, hwc, hl0, hc0, hcl, hbig, sizeOf, hisz, hn, newRow, arr]
  · simp [Instr.makeSlice, run_underlying ht, asInt, asIntOf, typeInfo, hi, hbi, hwl, hwc, hl0, hc0, hcl, hbig, sizeOf, hisz, hn, newRow, zeroValue, hzz, arr]

end
end Go.Mx
