import Derived.Test.YtgefinddmggpnaaDoorMxSf
import Derived.Test.YtgefinddmggpnaaDoorMxSc
import Derived.Test.YtgefinddmggpnaaDoorMxSd
import Derived.Shelf.Slices.CompactS
namespace Go.Mx
open Go.RowKit
set_option linter.unusedVariables false

def MapN (P : Program) (kt : TypeId) (H : Hp) (id : Nat) (f : AV → Option AV) (n : Nat) : Prop := ∃ es clock, H[id]? = some (.map es clock) ∧ MapOk P kt es clock ∧ (∀ k, lookE k es = f k) ∧ es.length = n
section
variable {P : Program} {H H' : Hp} {kt t et : TypeId} {id n : Nat} {f : AV → Option AV}
theorem MapN.at (h : MapN P kt H id f n) : MapAt P kt H id f := by obtain ⟨es, c, h1, h2, h3, _⟩ := h; exact ⟨es, c, h1, h2, h3⟩
theorem MapN.same {fp : List Nat} (h : MapN P kt H id f n) (hs : Same fp H H') (hn : id ∉ fp) : MapN P kt H' id f n := by
  obtain ⟨es, c, h1, h2⟩ := h
  exact ⟨es, c, hs.2 _ _ h1 hn, h2⟩
theorem MapN.new (P : Program) (kt : TypeId) (H : Hp) : MapN P kt (H ++ [.map [] 0]) H.length (fun _ => none) 0 := ⟨[], 0, by simp, MapOk.nil _ _ _, fun k => rfl, rfl⟩
theorem MapN.put (P : Program) (kt : TypeId) (h0 : H[id]? = some (.map [] 0)) : MapN P kt H id (fun _ => none) 0 := ⟨[], 0, h0, MapOk.nil _ _ _, fun k => rfl, rfl⟩
theorem MapN.len (h : MapN P kt H id f n) (a b : TypeId) : lenT H (some (.map a b)) (some (.mp id)) = some (.av (.v (.int .i64 n))) := by
  obtain ⟨es, c, h1, _, _, rfl⟩ := h
  simp [lenT, lenM, h1]
theorem MapN.ext {g : AV → Option AV} (h : MapN P kt H id f n) (hg : ∀ k, f k = g k) : MapN P kt H id g n := by
  have : f = g := funext hg
  rw [← this]; exact h
open Classical in
theorem MapN.upd (h : MapN P kt H id f n) (ht : P.underlying t = some (.map kt et)) {key val : AV} (hk : KGood P kt key) (hnew : f key = none) {k : Hp → Prop}
    (hq : ∀ H', MapN P kt H' id (fun x => if x = key then some val else f x) (n + 1) → Same [id] H H' → H'.length = H.length → k H') : updA P H t (.mp id) key val k := by
  obtain ⟨es, c, h1, h2, h3, rfl⟩ := h
  simp only [updA, ht, h1]
  have hno : ∀ e ∈ es, e.2.1 ≠ key := fun e he e2 => by
    obtain ⟨j, hj⟩ := List.getElem?_of_mem he
    have := lookE_at h2.keys hj e2
    rw [h3, hnew] at this; simp at this
  refine ⟨h2, hk, hq _ ⟨_, _, List.getElem?_set_self (Hp.lt h1), h2.put hk val, fun x => ?_, by rw [(putE_none (clock := c) (val := val) hno).2]; simp⟩ (Same.set (by simp)) (by simp)⟩
  rw [lookE_put, h3]
end

section
variable {P : Program} {H : Hp}
def strV (s : ByteArray) : AV := .v (.string s)
def bytesL (l : List ByteArray) : List (List UInt8) := l.map (fun s => s.data.toList)
def textsL (l : List (List UInt8)) : List ByteArray := l.map tx
theorem enc_tx (l : List UInt8) : Go.Proofs.encStr l = .string (tx l) := rfl
theorem texts_bytes (l : List ByteArray) : textsL (bytesL l) = l := by
  unfold textsL bytesL
  rw [List.map_map]
  conv => rhs; rw [← List.map_id l]
  exact List.map_congr_left fun s _ => by simp [tx]
theorem bytes_texts (l : List (List UInt8)) : bytesL (textsL l) = l := by
  unfold textsL bytesL
  rw [List.map_map]
  conv => rhs; rw [← List.map_id l]
  exact List.map_congr_left fun s _ => by simp [tx]
def sortS (l : List ByteArray) : List ByteArray := textsL ((bytesL l).mergeSort (fun x y => decide (x ≤ y)))
theorem sortS_len (l : List ByteArray) : (sortS l).length = l.length := by simp [sortS, textsL, bytesL, List.length_mergeSort]
def compS (l : List ByteArray) : List ByteArray := textsL (Lib.compact (bytesL l))
theorem strs_enc (l : List (List UInt8)) : l.map (fun x => AV.v (Go.Proofs.encStr x)) = (textsL l).map strV := by simp [textsL, strV, enc_tx]
theorem compact_lenS (zs : List (List UInt8)) : (Lib.compact zs).length ≤ zs.length := by
  unfold Lib.compact Lib.compactUpTo
  rw [List.length_map]
  exact Nat.le_trans (List.length_filter_le _ _) (by simp)
theorem Sp.sortStrs {r : Go.Shelf.Ren} (L : Go.Proofs.Lays.n190 P r) {id ver off : Nat} {cs : List AV} {l : List ByteArray} {Q : AV → Hp → Prop} (hid : H[id]? = some (.cells ver cs)) (hle : off + l.length ≤ cs.length)
    (hcs : ∀ i x, l[i]? = some x → cs[off + i]? = some (strV x)) (hb : l.length < 4611686018427387904) (hq : Q (.tup []) (H.set id (.cells ver (splice cs off ((sortS l).map strV))))) :
    Sp P (r.f 190) [.sl id ver 1 off l.length] Q H := by
  have hlen : (bytesL l).length = l.length := by simp [bytesL]
  have h := Sp.inPlace (P := P) (f := r.f 190) (H := H) (Q := Q) (id := id) (ver := ver) (off := off) (cs := cs) (enc := Go.Proofs.encStr) (zs := bytesL l) (zs' := (bytesL l).mergeSort (fun x y => decide (x ≤ y))) (fun _ => rfl) none hid (by rw [hlen]; exact hle) (fun i x hx => by
      rw [bytesL, List.getElem?_map] at hx
      cases hl : l[i]? with
      | none => rw [hl] at hx; simp at hx
      | some s => rw [hl] at hx; simp at hx; subst hx; rw [hcs i s hl, enc_tx]; simp [strV, tx]) (List.length_mergeSort _) (fun k hk => by simp at hk)
    (fun blk o cap w hH hblk hn => Go.Proofs.Any.slices_Sort_string L blk o cap _ w hH hblk (by rw [hlen]; exact hb)) (by rw [strs_enc]; exact hq)
  rw [hlen] at h
  exact h
theorem Sp.sortNilS {r : Go.Shelf.Ren} (L : Go.Proofs.Lays.n190 P r) {Q : AV → Hp → Prop} (hq : Q (.tup []) H) : Sp P (r.f 190) [.v (.slice none 0 0)] Q H := by
  intro ρ I w us hs hv
  match us, hv with
  | [], hv => exact absurd hv.1 (by simp)
  | _ :: _ :: _, hv => exact absurd hv.1 (by simp)
  | [u], hv =>
    have h0 : VR ρ I (.v (.slice none 0 0)) u := by simpa using hv.2 0 _ rfl
    rw [h0.v_is]
    refine (Go.Proofs.Any.slices_Sort_string_none L none 0 w).mono ?_
    rintro e w' ⟨rfl, rfl⟩
    exact ⟨.tup [], _, ρ, I, H, rfl, Mv.refl hs, .tup [] [] rfl (fun i c hc => by simp at hc), hq⟩
theorem Sp.compactStrs {r : Go.Shelf.Ren} (L : Go.Proofs.Lays.n194 P r) {id ver off : Nat} {cs : List AV} {l : List ByteArray} {Q : AV → Hp → Prop} (hid : H[id]? = some (.cells ver cs)) (hle : off + l.length ≤ cs.length)
    (hcs : ∀ i x, l[i]? = some x → cs[off + i]? = some (strV x)) (hb : l.length ≤ 9223372036854775807)
    (hq : Q (.sl id ver 1 off (compS l).length) (H.set id (.cells ver (splice cs off ((compS l ++ List.replicate (l.length - (compS l).length) (⟨#[]⟩ : ByteArray)).map strV))))) :
    Sp P (r.f 194) [.sl id ver 1 off l.length] Q H := by
  have hlen : (bytesL l).length = l.length := by simp [bytesL]
  have hcl : (compS l).length = (Lib.compact (bytesL l)).length := by simp [compS, textsL]
  have h := Sp.inPlace (P := P) (f := r.f 194) (H := H) (Q := Q) (id := id) (ver := ver) (off := off) (cs := cs) (enc := Go.Proofs.encStr) (zs := bytesL l) (zs' := Lib.compact (bytesL l) ++ List.replicate ((bytesL l).length - (Lib.compact (bytesL l)).length) []) (fun _ => rfl) (some (Lib.compact (bytesL l)).length) hid (by rw [hlen]; exact hle) (fun i x hx => by
      rw [bytesL, List.getElem?_map] at hx
      cases hl : l[i]? with
      | none => rw [hl] at hx; simp at hx
      | some s => rw [hl] at hx; simp at hx; subst hx; rw [hcs i s hl, enc_tx]; simp [strV, tx]) (by have := compact_lenS (bytesL l); simp; omega) (fun k hk => by simp at hk; subst hk; exact compact_lenS _)
    (fun blk o cap w hH hblk hn => (Go.Proofs.Any.slices_Compact_string L blk o cap _ w hH (by rw [hlen]; exact hb) hn).mono (fun e w' ⟨h1, q, h2⟩ => ⟨h1, q, #[], by rw [h2]; simp⟩)) (by
      rw [strs_enc]
      simp only [← hcl, hlen]
      have e : textsL (Lib.compact (bytesL l) ++ List.replicate (l.length - (compS l).length) []) = compS l ++ List.replicate (l.length - (compS l).length) ⟨#[]⟩ := by simp [textsL, compS, tx]
      rw [e]; exact hq)
  rw [hlen] at h
  exact h
theorem Sp.compactNilS {r : Go.Shelf.Ren} (L : Go.Proofs.Lays.n194 P r) {Q : AV → Hp → Prop} (hq : Q (.v (.slice none 0 0)) H) : Sp P (r.f 194) [.v (.slice none 0 0)] Q H := by
  intro ρ I w us hs hv
  match us, hv with
  | [], hv => exact absurd hv.1 (by simp)
  | _ :: _ :: _, hv => exact absurd hv.1 (by simp)
  | [u], hv =>
    have h0 : VR ρ I (.v (.slice none 0 0)) u := by simpa using hv.2 0 _ rfl
    rw [h0.v_is]
    refine (Go.Proofs.Any.slices_Compact_string_empty L none 0 w).mono ?_
    rintro e w' ⟨rfl, rfl⟩
    exact ⟨.v (.slice none 0 0), _, ρ, I, H, rfl, Mv.refl hs, .v _, hq⟩
end

theorem compact_full {zs : List (List UInt8)} : (Lib.compact zs).length = zs.length ↔ ∀ j, j + 1 < zs.length → zs[j + 1]? ≠ zs[j]? := by
  unfold Lib.compact Lib.compactUpTo
  rw [List.length_map]
  have hall : ((List.range zs.length).filter (Lib.keeps zs.toArray)).length = zs.length ↔ ∀ j, j < zs.length → Lib.keeps zs.toArray j = true := by
    constructor
    · intro h j hj
      have h2 : ((List.range zs.length).filter (Lib.keeps zs.toArray)) = List.range zs.length := List.Sublist.eq_of_length List.filter_sublist (by rw [h]; simp)
      have := List.filter_eq_self.1 h2 j (by simpa using hj)
      exact this
    · intro h
      rw [List.filter_eq_self.2 (fun j hj => h j (by simpa using hj))]; simp
  rw [hall]
  constructor
  · intro h j hj e
    have := h (j + 1) hj
    have e2 : zs[j + 1]'hj = zs[j]'(by omega) := by
      rw [List.getElem?_eq_getElem hj, List.getElem?_eq_getElem (by omega)] at e; simpa using e
    have hs : (zs.toArray).size = zs.length := by simp
    unfold Lib.keeps at this
    have q1 : zs.toArray[j + 1]! = zs[j + 1]'hj := by rw [getElem!_pos zs.toArray (j + 1) (by simpa using hj)]; simp
    have q2 : zs.toArray[j + 1 - 1]! = zs[j]'(by omega) := by rw [Nat.add_sub_cancel, getElem!_pos zs.toArray j (by simp; omega)]; simp
    rw [q1, q2] at this
    simp [e2] at this
  · intro h j hj
    cases j with
    | zero => simp [Lib.keeps]
    | succ j =>
      have := h j hj
      unfold Lib.keeps
      have q1 : zs.toArray[j + 1]! = zs[j + 1]'hj := by rw [getElem!_pos zs.toArray (j + 1) (by simpa using hj)]; simp
      have q2 : zs.toArray[j + 1 - 1]! = zs[j]'(by omega) := by rw [Nat.add_sub_cancel, getElem!_pos zs.toArray j (by simp; omega)]; simp
      rw [q1, q2]
      rw [List.getElem?_eq_getElem hj, List.getElem?_eq_getElem (by omega)] at this
      simp at this
      simp [this]
theorem bytes_le_total (x y : List UInt8) : x ≤ y ∨ y ≤ x := List.le_total x y
theorem sorted_full {zs : List (List UInt8)} (hs : zs.Pairwise (· ≤ ·)) : (Lib.compact zs).length = zs.length ↔ zs.Nodup := by
  rw [compact_full]
  constructor
  · intro h
    rw [List.nodup_iff_pairwise_ne, List.pairwise_iff_getElem]
    intro i j hi hj hij e
    have h1 := h i (by omega)
    rw [List.getElem?_eq_getElem (by omega), List.getElem?_eq_getElem (by omega)] at h1
    apply h1
    rw [List.pairwise_iff_getElem] at hs
    have a := hs i (i + 1) hi (by omega) (by omega)
    have b : zs[i + 1]'(by omega) ≤ zs[i]'hi := by
      by_cases e2 : i + 1 = j
      · subst e2; rw [e]; exact List.le_refl _
      · have := hs (i + 1) j (by omega) hj (by omega)
        rw [e]; exact this
    rw [List.le_antisymm a b]
  · intro h j hj e
    have := (List.getElem?_inj hj h).1 e
    omega
theorem sortS_full (l : List ByteArray) : (compS (sortS l)).length = l.length ↔ l.Nodup := by
  have hp : ((bytesL l).mergeSort (fun x y => decide (x ≤ y))).Pairwise (· ≤ ·) := by
    have := List.pairwise_mergeSort (le := fun (x y : List UInt8) => decide (x ≤ y)) (fun a b c h1 h2 => by simpa using List.le_trans (by simpa using h1) (by simpa using h2)) (fun a b => by simpa using bytes_le_total a b) (bytesL l)
    exact this.imp (fun h => by simpa using h)
  have h := sorted_full hp
  unfold compS sortS
  rw [bytes_texts]
  rw [List.length_mergeSort, (List.mergeSort_perm _ _).nodup_iff] at h
  have e1 : (textsL (Lib.compact ((bytesL l).mergeSort fun x y => decide (x ≤ y)))).length = (Lib.compact ((bytesL l).mergeSort fun x y => decide (x ≤ y))).length := by simp [textsL]
  have e2 : (bytesL l).length = l.length := by simp [bytesL]
  have e3 : (bytesL l).Nodup ↔ l.Nodup := by
    unfold bytesL
    rw [List.nodup_iff_pairwise_ne, List.nodup_iff_pairwise_ne, List.pairwise_map]
    refine ⟨fun h => h.imp (fun h e => h (by rw [e])), fun h => h.imp (fun {a b} h e => h ?_)⟩
    have h2 := Array.toList_inj.1 e
    cases a; cases b; simp at h2; rw [h2]
  rw [e1, ← e2, h, e3]
end Go.Mx
