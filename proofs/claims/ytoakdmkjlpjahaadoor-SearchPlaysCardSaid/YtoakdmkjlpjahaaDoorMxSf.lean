/-
  The abstract machine: library functions that work in place on a row of plain values; sorting whole numbers.
-/
import Derived.Test.YtoakdmkjlpjahaaDoorMxSe
import Derived.Shelf.Sort.Plain
import Derived.Shelf.Slices.In.SortNone
import Derived.Shelf.Slices.CompactI
import Derived.Shelf.Slices.Clone
namespace Go.Mx
open Go.RowKit
set_option linter.unusedVariables false

section
variable {α : Type} [Inhabited α] {enc : α → Value} {P : Program} {H : Hp} {ρ : Rho} {I : Imm} {w : World}

theorem Gw.inRow (w : World) (blk off : Nat) (d : Array α) (n : Nat) (os : Array Obj) : Gw (some blk) w (Sort.grow (Sort.putRow enc (Sort.ahead w n) blk off d) os) := by
  refine ⟨rfl, rfl, rfl, by simp, fun b hb hn => ?_⟩
  have hb' : b < (Sort.putRow enc (Sort.ahead w n) blk off d).heap.size := by simpa using hb
  have hne : blk ≠ b := fun e => hn (by rw [e])
  simp only [Sort.grow]
  rw [Array.getElem?_append_left hb']
  simp [Sort.putRow, Sort.mapBlock, Array.getElem?_modify, hne]

theorem CellsR.inRow {blk base size off : Nat} {cs : List AV} (h : CellsR ρ I w blk base size cs) (h1 : ∀ x, (enc x).oneCell' = true) (d : Array α) (hle : off + d.size ≤ cs.length) (n : Nat) (os : Array Obj) :
    CellsR ρ I (Sort.grow (Sort.putRow enc (Sort.ahead w n) blk (base + off) d) os) blk base size (splice cs off (d.toList.map (fun x => .v (enc x)))) := by
  obtain ⟨arr, T, k1, k2, k3, k4⟩ := h
  have hlt : blk < w.heap.size := (Array.getElem?_eq_some_iff.1 k1).1
  refine ⟨Sort.putCells enc (base + off) d arr, T, ?_, by simp [Sort.putCells, k2], by rw [splice_length (by simpa using hle)]; exact k3, fun i c hc => ?_⟩
  · simp only [Sort.grow]
    rw [Array.getElem?_append_left (by simpa using hlt)]
    simp [Sort.putRow, Sort.mapBlock, Array.getElem?_modify, Sort.onCells, k1]
  · rw [splice_get (by simpa using hle)] at hc
    split at hc
    · rename_i hi
      simp only [List.length_map, Array.length_toList] at hi
      rw [List.getElem?_map, Array.getElem?_toList] at hc
      have hlt2 : i - off < d.size := by omega
      rw [Array.getElem?_eq_getElem hlt2] at hc
      simp at hc; subst hc
      have hc0 : i < cs.length := by omega
      obtain ⟨u, hu, _, _⟩ := k4 i _ (List.getElem?_eq_getElem hc0)
      refine ⟨enc d[i - off], ?_, .v _, h1 _⟩
      have e : base + i - (base + off) = i - off := by omega
      simp only [Sort.putCells, Array.getElem?_mapIdx, hu, Option.map_some]
      rw [if_pos (by omega), e, getElem!_pos d _ hlt2]
    · rename_i hi
      simp only [List.length_map, Array.length_toList] at hi
      obtain ⟨u, hu, hv, ho⟩ := k4 i c hc
      refine ⟨u, ?_, hv, ho⟩
      simp only [Sort.putCells, Array.getElem?_mapIdx, hu, Option.map_some]
      rw [if_neg (by omega)]

/-- A library function that works in place on a row: what it hands back is nothing, or that row's first so many. -/
theorem Sp.inPlace (h1 : ∀ x, (enc x).oneCell' = true) {f id ver off : Nat} {cs : List AV} {zs zs' : List α} {Q : AV → Hp → Prop} (m : Option Nat) (hid : H[id]? = some (.cells ver cs)) (hle : off + zs.length ≤ cs.length)
    (hcs : ∀ i x, zs[i]? = some x → cs[off + i]? = some (.v (enc x))) (hl : zs'.length = zs.length) (hm : ∀ k, m = some k → k ≤ zs.length)
    (hc : ∀ blk o cap w, Sort.Holds enc w blk o zs.toArray → blk < w.heap.size → zs.length ≤ cap → Calls P f #[.slice (some ⟨blk, o, none⟩) zs.length cap] w (fun e w' =>
      e = .returned (match m with | none => .tuple #[] | some k => .slice (some ⟨blk, o, none⟩) k cap) ∧ ∃ q os, w' = Sort.grow (Sort.putRow enc (Sort.ahead w q) blk o zs'.toArray) os))
    (hq : Q (match m with | none => .tup [] | some k => .sl id ver 1 off k) (H.set id (.cells ver (splice cs off (zs'.map (fun x => .v (enc x))))))) :
    Sp P f [.sl id ver 1 off zs.length] Q H := by
  intro ρ I w us hs hv
  match us, hv with
  | [], hv => exact absurd hv.1 (by simp)
  | _ :: _ :: _, hv => exact absurd hv.1 (by simp)
  | [u], hv =>
    have h0 : VR ρ I (.sl id ver 1 off zs.length) u := by simpa using hv.2 0 _ rfl
    cases h0 with
    | sl _ _ _ _ _ l cap hl' hn hcap hmx =>
      obtain ⟨hver, l', hl2, hcell⟩ := hs.obj _ _ hid
      rw [hl'] at hl2; simp at hl2; subst hl2
      have hH : Sort.Holds enc w l.blk (l.base + off) zs.toArray := by
        obtain ⟨arr, T, k1, k2, k3, k4⟩ := hcell
        intro j hj
        simp only [List.size_toArray] at hj
        obtain ⟨u, hu, hvr, _⟩ := k4 (off + j) _ (hcs j _ (List.getElem?_eq_getElem hj))
        have e := hvr.v_is
        subst e
        have e2 : l.base + off + j = l.base + (off + j) := Nat.add_assoc _ _ _
        refine ⟨?_, ?_⟩
        · simp only [World.cell?, k1, e2, hu]
          rw [getElem!_pos zs.toArray j (by simpa using hj)]
          simp
        · simp [World.frozen?, k1]
      have hlt : l.blk < w.heap.size := by obtain ⟨arr, T, k1, _⟩ := hcell; exact (Array.getElem?_eq_some_iff.1 k1).1
      refine (hc l.blk (l.base + off) cap w hH hlt hn).mono ?_
      rintro e w' ⟨rfl, q, os, rfl⟩
      have hcell' := hcell.inRow (off := off) h1 zs'.toArray (by simpa [hl] using hle) q os
      have hmv := Mv.write (ob := .cells ver (splice cs off (zs'.map (fun x => .v (enc x))))) hs hid (b0 := l.blk) (by simp [blkOf, hl']) (Gw.inRow w l.blk (l.base + off) zs'.toArray q os) (Ext.refl _ _) (fun _ _ _ => rfl) (b1 := l.blk) (.inl rfl)
        ⟨hver, l, hl', by simpa using hcell'⟩ (by simp [blkOf, hl'])
      refine ⟨_, _, ρ, I, _, rfl, hmv, ?_, hq⟩
      cases m with
      | none => exact .tup [] [] rfl (fun i c hc => by simp at hc)
      | some k => exact .sl id ver 1 off k l cap hl' (Nat.le_trans (hm k rfl) hn) hcap hmx
end

section
variable {P : Program} {H : Hp}
theorem compact_len (zs : List Int) : (Lib.compact zs).length ≤ zs.length := by
  unfold Lib.compact Lib.compactUpTo
  rw [List.length_map]
  exact Nat.le_trans (List.length_filter_le _ _) (by simp)
def intV (z : Int) : AV := .v (.int .i64 z)
def sortI (zs : List Int) : List Int := zs.mergeSort (fun x y => decide (x ≤ y))
theorem sortI_len (zs : List Int) : (sortI zs).length = zs.length := List.length_mergeSort _
/-- Whole numbers are sorted in place. -/
theorem Sp.sortInts {r : Go.Shelf.Ren} (L : Go.Proofs.Lays.n189 P r) {id ver off : Nat} {cs : List AV} {zs : List Int} {Q : AV → Hp → Prop} (hid : H[id]? = some (.cells ver cs)) (hle : off + zs.length ≤ cs.length)
    (hcs : ∀ i x, zs[i]? = some x → cs[off + i]? = some (intV x)) (hb : zs.length < 4611686018427387904) (hq : Q (.tup []) (H.set id (.cells ver (splice cs off ((sortI zs).map intV))))) :
    Sp P (r.f 189) [.sl id ver 1 off zs.length] Q H :=
  Sp.inPlace (enc := Value.int .i64) (zs' := sortI zs) (fun _ => rfl) none hid hle hcs (sortI_len zs) (fun k hk => by simp at hk)
    (fun blk o cap w hH hblk hn => Go.Proofs.Any.slices_Sort_int L blk o cap zs w hH hblk hb) hq
theorem Sp.sortNil {r : Go.Shelf.Ren} (L : Go.Proofs.Lays.n189 P r) {Q : AV → Hp → Prop} (hq : Q (.tup []) H) : Sp P (r.f 189) [.v (.slice none 0 0)] Q H := by
  intro ρ I w us hs hv
  match us, hv with
  | [], hv => exact absurd hv.1 (by simp)
  | _ :: _ :: _, hv => exact absurd hv.1 (by simp)
  | [u], hv =>
    have h0 : VR ρ I (.v (.slice none 0 0)) u := by simpa using hv.2 0 _ rfl
    rw [h0.v_is]
    refine (Go.Proofs.Any.slices_Sort_int_none L none 0 w).mono ?_
    rintro e w' ⟨rfl, rfl⟩
    exact ⟨.tup [], _, ρ, I, H, rfl, Mv.refl hs, .tup [] [] rfl (fun i c hc => by simp at hc), hq⟩
/-- Equal neighbours are made one, in place. -/
theorem Sp.compactInts {r : Go.Shelf.Ren} (L : Go.Proofs.Lays2.n20 P r) {id ver off : Nat} {cs : List AV} {zs : List Int} {Q : AV → Hp → Prop} (hid : H[id]? = some (.cells ver cs)) (hle : off + zs.length ≤ cs.length)
    (hcs : ∀ i x, zs[i]? = some x → cs[off + i]? = some (intV x)) (hb : zs.length ≤ 9223372036854775807)
    (hq : Q (.sl id ver 1 off (Lib.compact zs).length) (H.set id (.cells ver (splice cs off ((Lib.compact zs ++ List.replicate (zs.length - (Lib.compact zs).length) 0).map intV))))) :
    Sp P (r.f 20) [.sl id ver 1 off zs.length] Q H :=
  Sp.inPlace (enc := Value.int .i64) (zs' := Lib.compact zs ++ List.replicate (zs.length - (Lib.compact zs).length) 0) (fun _ => rfl) (some (Lib.compact zs).length) hid hle hcs
    (by have := compact_len zs; simp; omega) (fun k hk => by simp at hk; subst hk; exact compact_len zs)
    (fun blk o cap w hH hblk hn => (Go.Proofs.Any.slices_Compact_int L blk o cap zs w hH hb hn).mono (fun e w' ⟨h1, q, h2⟩ => ⟨h1, q, #[], by rw [h2]; simp⟩)) hq
theorem Sp.compactNil {r : Go.Shelf.Ren} (L : Go.Proofs.Lays2.n20 P r) {Q : AV → Hp → Prop} (hq : Q (.v (.slice none 0 0)) H) : Sp P (r.f 20) [.v (.slice none 0 0)] Q H := by
  intro ρ I w us hs hv
  match us, hv with
  | [], hv => exact absurd hv.1 (by simp)
  | _ :: _ :: _, hv => exact absurd hv.1 (by simp)
  | [u], hv =>
    have h0 : VR ρ I (.v (.slice none 0 0)) u := by simpa using hv.2 0 _ rfl
    rw [h0.v_is]
    refine (Go.Proofs.Any.slices_Compact_int_empty L none 0 w).mono ?_
    rintro e w' ⟨rfl, rfl⟩
    exact ⟨.v (.slice none 0 0), _, ρ, I, H, rfl, Mv.refl hs, .v _, hq⟩
/-- What is handed over, and not written any more, stands by value. -/
theorem Sp.frzArgs {f : Nat} {args : List AV} {Q : AV → Hp → Prop} {id ver : Nat} {cs : List AV} (hid : H[id]? = some (.cells ver cs)) (h : Sp P f (args.map (Go.Mx.frz id ver cs)) Q (H.set id .dead)) : Sp P f args Q H := by
  intro ρ I w us hs hv
  obtain ⟨I', hm, hk⟩ := frz_sound hs hid
  refine (h ρ I' w us hm.st ⟨by simpa using hv.1, fun i c hc => ?_⟩).mono ?_
  · rw [List.getElem?_map] at hc
    cases hg : args[i]? with
    | none => rw [hg] at hc; simp at hc
    | some a => rw [hg] at hc; simp at hc; subst hc; exact hk _ _ (hv.2 i a hg)
  · rintro e w' ⟨v, u, ρ', I2, H', rfl, hm2, hvr, hq⟩
    exact ⟨v, u, ρ', I2, H', rfl, hm.trans hm2, hvr, hq⟩
/-- A slice of cells of size 1: nil if there are none, or an object of its own, laid since. -/
def NewR (H H' : Hp) (cs : List AV) (v : AV) : Prop := (cs = [] ∧ v = .v (.slice none 0 0)) ∨ (cs ≠ [] ∧ ∃ id ver tl, v = .sl id ver 1 0 cs.length ∧ H'[id]? = some (.cells ver (cs ++ tl)) ∧ H.length ≤ id)
theorem NewR.later {H0 H H' : Hp} {cs : List AV} {v : AV} (h : NewR H H' cs v) (hs : H0.length ≤ H.length) : NewR H0 H' cs v := by
  rcases h with h | ⟨h1, id, ver, tl, h2, h3, h4⟩
  · exact .inl h
  · exact .inr ⟨h1, id, ver, tl, h2, h3, Nat.le_trans hs h4⟩
theorem NewR.same {H0 H H' : Hp} {cs : List AV} {v : AV} {fp : List Nat} (h : NewR H0 H cs v) (hs : Same fp H H') (hf : ∀ id ver, v = .sl id ver 1 0 cs.length → id ∉ fp) : NewR H0 H' cs v := by
  rcases h with h | ⟨h1, id, ver, tl, h2, h3, h4⟩
  · exact .inl h
  · exact .inr ⟨h1, id, ver, tl, h2, hs.2 _ _ h3 (hf id ver h2), h4⟩
/-- One is appended. -/
theorem NewR.app {H0 H : Hp} {cs : List AV} {v c : AV} {x : Bool} {bytes : Nat} {k : AV → Hp → Prop} (h : NewR H0 H cs v) (hle : H0.length ≤ H.length) (hb : (cs.length + 1) * bytes ≤ 140737488355328 ∧ cs.length + 1 ≤ 4611686018427387904)
    (hq : ∀ v' H' fp, NewR H0 H' (cs ++ [c]) v' → Same fp H H' → (∀ j ∈ fp, H0.length ≤ j ∧ ∃ ver ds, H[j]? = some (.cells ver ds) ∧ v = .sl j ver 1 0 cs.length) → (∀ id ver a b n, v' = .sl id ver a b n → H.length ≤ id ∨ ∃ ver', v = .sl id ver' 1 0 cs.length) → k v' H') : appA H 1 bytes v (.row x 1 [c]) k := by
  rcases h with ⟨rfl, rfl⟩ | ⟨h1, id, ver, tl, rfl, h3, h4⟩
  · have h1 := hq (.sl H.length 0 1 0 1) (H ++ [.cells 0 [c]]) [] (.inr ⟨by simp, H.length, 0, [], by simp, by simp, hle⟩) (Same.app _ _ _) (by simp) (fun id ver a b n h => by simp at h; exact .inl (by omega))
    simp at hb
    simp [appA, srcA, hb]
    exact h1
  · have h5 := hq (.sl id (ver + 1) 1 0 (cs.length + 1)) (H.set id (.cells (ver + 1) (cs ++ [c]))) [id] (.inr ⟨by simp, id, ver + 1, [], by simp, by rw [List.getElem?_set_self (Hp.lt h3)]; simp, h4⟩) (Same.set (by simp)) (by
      intro j hj; simp at hj; subst hj; exact ⟨h4, _, _, h3, rfl⟩) (fun id' ver' a b n h => by simp at h; obtain ⟨rfl, _⟩ := h; exact .inr ⟨ver, rfl⟩)
    simp [appA, srcA, h3]
    exact ⟨⟨hb.1, by omega⟩, h5⟩
theorem NewR.low {H H' : Hp} {cs : List AV} (hlow : ∀ c ∈ cs, Low 0 c) : Low 0 (if cs = [] then AV.v (.slice none 0 0) else .row false cs.length cs) := by
  split
  · exact .v _
  · rw [low_row]; exact hlow
theorem NewR.row {ρ : Rho} {I : Imm} {w' : World} {H H' : Hp} {cs : List AV} {v : AV} (h : NewR H H' cs v) (hs : Same [] H H') (hst : StH ρ I H' w') :
    ∃ I' G, Mv ρ I H' w' ρ I' (H ++ G) w' ∧ (∀ x u, VR ρ I x u → VR ρ I' x u) ∧ ∀ u, VR ρ I v u → VR ρ I' (if cs = [] then .v (.slice none 0 0) else .row false cs.length cs) u := by
  obtain ⟨G, rfl⟩ := hs.grown
  rcases h with ⟨rfl, rfl⟩ | ⟨hne, id, ver, tl, rfl, hid, hlt⟩
  · exact ⟨I, G, Mv.refl hst, fun x u hu => hu, fun u hu => by simpa using hu⟩
  · obtain ⟨I'', hm', hk⟩ := frz_sound hst hid
    have hset : (H ++ G).set id .dead = H ++ G.set (id - H.length) .dead := by rw [List.set_append_right _ _ hlt]
    rw [hset] at hm'
    refine ⟨I'', _, hm', fun x u hu => hu.ext hm'.ext, fun u hu => ?_⟩
    have hv' := hk _ _ hu
    have e : Go.Mx.frz id ver (cs ++ tl) (.sl id ver 1 0 cs.length) = .row false cs.length cs := by
      simp only [Go.Mx.frz, Go.Mx.frz2, Go.Mx.frz1]
      rw [if_pos ⟨trivial, trivial, by simp⟩]
      simp
    rw [e] at hv'
    rw [if_neg hne]
    exact hv'
/-- What is handed back is such a slice: it stands by value, and what was laid new is forgotten. -/
theorem Sp.newRow {f : Nat} {args : List AV} {Q : AV → Hp → Prop} {cs : List AV} (hlow : ∀ c ∈ cs, Low 0 c)
    (h : Sp P f args (fun v H' => Same [] H H' ∧ NewR H H' cs v ∧ Q (if cs = [] then .v (.slice none 0 0) else .row false cs.length cs) H) H) : Sp P f args Q H := by
  intro ρ I w us hs hv
  refine (h ρ I w us hs hv).mono ?_
  rintro e w' ⟨v, u, ρ', I', H', rfl, hm, hvr, hsame, hn, hq⟩
  obtain ⟨I'', G, hm', _, hk⟩ := hn.row hsame hm.st
  exact ⟨_, u, _, I'', H, rfl, (hm.trans hm').drop hs (Nat.le_refl _) hs.low, VR.cut (hk u hvr) ((NewR.low (H := H) (H' := H') hlow).mono (Nat.zero_le _)), hq⟩
/-- .. or a tuple that begins with such a slice. -/
def NewT (H : Hp) (Q : AV → Hp → Prop) (v : AV) (H' : Hp) : Prop :=
  ∃ v0 vs cs, v = .tup (v0 :: vs) ∧ Same [] H H' ∧ NewR H H' cs v0 ∧ (∀ c ∈ cs, Low 0 c) ∧ (∀ c ∈ vs, ∃ x, c = .v x) ∧ Q (.tup ((if cs = [] then .v (.slice none 0 0) else .row false cs.length cs) :: vs)) H
theorem NewT.mk {H H' : Hp} {Q : AV → Hp → Prop} {v0 : AV} {vs : List AV} (cs : List AV) (h1 : Same [] H H') (h2 : NewR H H' cs v0) (h3 : ∀ c ∈ cs, Low 0 c) (h4 : ∀ c ∈ vs, ∃ x, c = .v x)
    (h5 : Q (.tup ((if cs = [] then .v (.slice none 0 0) else .row false cs.length cs) :: vs)) H) : NewT H Q (.tup (v0 :: vs)) H' := ⟨v0, vs, cs, rfl, h1, h2, h3, h4, h5⟩
theorem Sp.newRowT {f : Nat} {args : List AV} {Q : AV → Hp → Prop} (h : Sp P f args (NewT H Q) H) : Sp P f args Q H := by
  intro ρ I w us hs hv
  refine (h ρ I w us hs hv).mono ?_
  rintro e w' ⟨v, u, ρ', I', H', rfl, hm, hvr, v0, vs, cs, rfl, hsame, hn, hlow, hvs, hq⟩
  obtain ⟨I'', G, hm', hk', hk⟩ := hn.row hsame hm.st
  have hl : Low 0 (.tup ((if cs = [] then AV.v (.slice none 0 0) else .row false cs.length cs) :: vs)) := by
    rw [low_tup]
    intro c hc
    rcases List.mem_cons.1 hc with rfl | hc
    · exact NewR.low (H := H) (H' := H') hlow
    · obtain ⟨x, rfl⟩ := hvs c hc; exact .v _
  cases hvr with
  | tup _ us hlen hus =>
    refine ⟨_, _, _, I'', H, rfl, (hm.trans hm').drop hs (Nat.le_refl _) hs.low, VR.cut (.tup _ us (by simpa using hlen) (fun i c hc => ?_)) (hl.mono (Nat.zero_le _)), hq⟩
    cases i with
    | zero => simp at hc; subst hc; exact hk _ (hus 0 _ rfl)
    | succ i =>
      simp only [List.getElem?_cons_succ] at hc
      obtain ⟨x, rfl⟩ := hvs c (List.mem_of_getElem? hc)
      exact hk' _ _ (hus (i + 1) _ (by simpa using hc))
end
end Go.Mx
