import Derived.Test.YtgefinddmggpnaaDoorMxSf
import Derived.Shelf.SlSortCmp.NoneTotal
namespace Go.Mx
open Go.RowKit
set_option linter.unusedVariables false

section
variable {P : Program} {H : Hp} {ρ : Rho} {I : Imm} {w : World}

theorem CellsR.inFlat {blk base size off : Nat} {cs : List AV} (h : CellsR ρ I w blk base size cs) (d : Array Value) (h1 : ∀ v ∈ d.toList, v.oneCell' = true) (hle : off + d.size ≤ cs.length) (n : Nat) (os : Array Obj) :
    CellsR ρ I (Sort.grow (Sort.putRow (fun x : Value => x) (Sort.ahead w n) blk (base + off) d) os) blk base size (splice cs off (d.toList.map .v)) := by
  obtain ⟨arr, T, k1, k2, k3, k4⟩ := h
  have hlt : blk < w.heap.size := (Array.getElem?_eq_some_iff.1 k1).1
  refine ⟨Sort.putCells (fun x : Value => x) (base + off) d arr, T, ?_, by simp [Sort.putCells, k2], by rw [splice_length (by simpa using hle)]; exact k3, fun i c hc => ?_⟩
  · simp only [Sort.grow]
    rw [Array.getElem?_append_left (by simpa using hlt)]
    simp [Sort.putRow, Sort.mapBlock, Array.getElem?_modify, Sort.onCells, k1]
  · rw [splice_get (by simpa using hle)] at hc
    split at hc
    · rename_i hi
      simp only [List.length_map, Array.length_toList] at hi
      rw [List.getElem?_map, Array.getElem?_toList] at hc
      have hlt2 : i - off < d.size := by omega
      rw [Array.getElem?_eq_getElem hlt2] at hc
      simp at hc; subst hc
      have hc0 : i < cs.length := by omega
      obtain ⟨u, hu, _, _⟩ := k4 i _ (List.getElem?_eq_getElem hc0)
      refine ⟨d[i - off], ?_, .v _, h1 _ (by simp)⟩
      have e : base + i - (base + off) = i - off := by omega
      simp only [Sort.putCells, Array.getElem?_mapIdx, hu, Option.map_some]
      rw [if_pos (by omega), e, getElem!_pos d _ hlt2]
    · rename_i hi
      simp only [List.length_map, Array.length_toList] at hi
      obtain ⟨u, hu, hv, ho⟩ := k4 i c hc
      refine ⟨u, ?_, hv, ho⟩
      simp only [Sort.putCells, Array.getElem?_mapIdx, hu, Option.map_some]
      rw [if_neg (by omega)]

theorem flatK_list {α : Type} [Inhabited α] {enc : α → List Value} {k : Nat} (hk : ∀ x, (enc x).length = k) (d : Array α) : (Go.Sort.flatK enc k d).toList = d.toList.flatMap enc := by
  have hlen : ∀ l : List α, (l.flatMap enc).length = l.length * k := fun l => by
    induction l with
    | nil => simp
    | cons x l ih => rw [List.flatMap_cons, List.length_append, ih, hk, List.length_cons, Nat.succ_mul]; omega
  have hsub : ∀ (l : List α) (i : Nat) (x : α), l[i]? = some x → ((l.flatMap enc).drop (i * k)).take k = enc x := fun l => by
    induction l with
    | nil => intro i x h; simp at h
    | cons y l ih =>
      intro i x h
      cases i with
      | zero =>
        simp at h; subst h
        rw [List.flatMap_cons, Nat.zero_mul, List.drop_zero, List.take_append_of_le_length (by rw [hk]; omega), List.take_of_length_le (by rw [hk]; omega)]
      | succ i =>
        rw [List.flatMap_cons, Nat.succ_mul, List.drop_append, List.drop_of_length_le (by rw [hk]; omega), List.nil_append, hk, Nat.add_sub_cancel]
        exact ih i x (by simpa using h)
  apply List.ext_getElem
  · simp [hlen]
  · intro t h1 h2
    have ht : t < d.size * k := by simpa using h1
    have k0 : 0 < k := by rcases Nat.eq_zero_or_pos k with h | h; · subst h; simp at ht
                          · exact h
    have hdiv : t / k < d.size := Nat.div_lt_of_lt_mul (by rw [Nat.mul_comm]; exact ht)
    have hmod : t % k < k := Nat.mod_lt _ k0
    have hs := hsub d.toList (t / k) d[t / k] (by simp [hdiv])
    have e1 : (d.toList.flatMap enc)[t]? = (enc d[t / k])[t % k]? := by
      rw [← hs, List.getElem?_take, if_pos hmod, List.getElem?_drop]
      congr 1
      rw [Nat.mul_comm]; exact (Nat.div_add_mod t k).symm
    have e2 : (Go.Sort.flatK enc k d).toList[t]? = (enc d[t / k])[t % k]? := by
      rw [Array.getElem?_toList, Array.getElem?_eq_getElem (by simpa using ht)]
      have := Go.Sort.get_flatK enc k d t ht
      rw [getElem!_pos (Go.Sort.flatK enc k d) t (by simpa using ht), getElem!_pos d _ hdiv, getElem!_pos (enc d[t / k]) _ (by rw [hk]; exact hmod)] at this
      rw [this, List.getElem?_eq_getElem (by rw [hk]; exact hmod)]
    rw [List.getElem?_eq_getElem h1, List.getElem?_eq_getElem h2] at *
    rw [← e2] at e1
    simpa using e1.symm

def CmpIs {α : Type} (P : Program) (g : Nat) (enc : α → List Value) (cf : α → α → Int) : Prop :=
  ∀ x y W, Calls P g #[.agg (enc x).toArray, .agg (enc y).toArray] W fun e w' => e = .returned (.int .i64 (cf x y)) ∧ ∃ q os, w' = Go.Sort.grow (W.drewN q) os
def cellsOfK {α : Type} (enc : α → List Value) (x : α) : List AV := (enc x).map .v
theorem Sp.sortFunc {α : Type} [Inhabited α] {r : Go.Shelf.Ren} (L : Go.Proofs.SlLaysF0.n6 P r) {k : Nat} (aE : ∀ w, (isAgg (r.t 24)).run P w = .ok true w) (zE : ∀ w, (Go.sizeOf (r.t 24)).run P w = .ok k w) {enc : α → List Value} (hk : ∀ x, (enc x).length = k)
    (h1 : ∀ x, ∀ v ∈ enc x, v.oneCell' = true) {cf : α → α → Int} (hO : Go.Sort.SWO (Go.Proofs.ltOf cf)) {g : Nat} (eg : ∀ args w, (callFunc g args).run P w = .ok (.enter g args) w) (hcmp : CmpIs P g enc cf)
    {id ver off : Nat} {cs : List AV} {l : List α} {Q : AV → Hp → Prop} (hid : H[id]? = some (.cells ver cs)) (hle : off + l.length * k ≤ cs.length) (hcs : (cs.drop off).take (l.length * k) = l.flatMap (cellsOfK enc)) (hb : l.length < 4611686018427387904)
    (hq : ∀ l' : List α, l'.Perm l → l'.Pairwise (fun x y => Go.Proofs.ltOf cf y x = false) → Q (.tup []) (H.set id (.cells ver (splice cs off (l'.flatMap (cellsOfK enc)))))) :
    Sp P (r.f 6) [.sl id ver k off l.length, .fn (.func g) [] []] Q H := by
  have hflat : ∀ l : List α, l.flatMap (cellsOfK enc) = (l.flatMap enc).map .v := fun l => by
    unfold cellsOfK
    rw [List.map_flatMap]
  intro ρ I w us hs hv
  have hln := hv.1
  match us, hln, hv with
  | [u, u1], _, hv =>
    have h0 : VR ρ I (.sl id ver k off l.length) u := by simpa using hv.2 0 _ rfl
    have hf : VR ρ I (.fn (.func g) [] []) u1 := by simpa using hv.2 1 _ rfl
    obtain rfl : u1 = .func (.func g) #[] #[] := by
      cases hf with
      | fn _ _ _ us vs q1 q2 q3 q4 =>
        have : us = [] := List.eq_nil_of_length_eq_zero q1
        subst this
        have : vs = [] := List.eq_nil_of_length_eq_zero q3
        subst this
        rfl
    cases h0 with
    | sl _ _ _ _ _ lo cap hl' hn hcap =>
      obtain ⟨hver, l', hl2, hcell⟩ := hs.obj _ _ hid
      rw [hl'] at hl2; simp at hl2; subst hl2
      have hH : Go.Sort.HoldsK enc k w lo.blk (lo.base + off) l.toArray := by
        obtain ⟨arr, T, k1, k2, k3, k4⟩ := hcell
        intro j hj
        rw [Go.Sort.size_flatK] at hj
        have hj' : j < l.length * k := by simpa using hj
        have hfl := flatK_list hk l.toArray
        have hx : (l.flatMap (cellsOfK enc))[j]? = some (.v ((Go.Sort.flatK enc k l.toArray)[j]!)) := by
          rw [hflat, List.getElem?_map]
          have : (l.flatMap enc)[j]? = some ((Go.Sort.flatK enc k l.toArray)[j]!) := by
            have e : l.toArray.toList = l := by simp
            rw [e] at hfl
            rw [← hfl, Array.getElem?_toList, Array.getElem?_eq_getElem (by simpa using hj'), getElem!_pos _ _ (by simpa using hj')]
          rw [this]; rfl
        have hc : cs[off + j]? = some (.v ((Go.Sort.flatK enc k l.toArray)[j]!)) := by
          rw [← hx, ← hcs, List.getElem?_take, if_pos hj', List.getElem?_drop]
        obtain ⟨u, hu, hvr, _⟩ := k4 (off + j) _ hc
        have e := hvr.v_is
        subst e
        have e2 : lo.base + off + j = lo.base + (off + j) := Nat.add_assoc _ _ _
        refine ⟨?_, by simp [World.frozen?, k1]⟩
        simp only [World.cell?, k1, e2, hu]
        simp
      have hlt : lo.blk < w.heap.size := by obtain ⟨arr, T, k1, _⟩ := hcell; exact (Array.getElem?_eq_some_iff.1 k1).1
      have hsz : l.toArray.size = l.length := by simp
      have hc := Go.Proofs.AnyQ.slices_SortFunc L k aE zE enc hk h1 cf hO g #[] lo.blk (lo.base + off) cap l.toArray w eg (fun m os dk hdk x y => by simpa using hcmp x y _) hH hlt (by rw [hsz]; exact hb)
      rw [hsz] at hc
      refine hc.mono ?_
      rintro e w' ⟨rfl, d', n, os, hp, hsrt, rfl⟩
      have hd's : d'.size = l.length := by rw [hp.1]; simp
      have hperm : d'.toList.Perm l := by
        have := hp.2.2
        rw [← hd's] at this
        have e1 : d'.extract 0 d'.size = d' := by simp
        have e2 : l.toArray.extract 0 d'.size = l.toArray := by rw [hd's]; simp
        rw [e1, e2] at this
        simpa using this
      have hpw : d'.toList.Pairwise (fun x y => Go.Proofs.ltOf cf y x = false) := by
        rw [List.pairwise_iff_getElem]
        intro i j hi hj hij
        have := hsrt i j (Nat.zero_le _) hij (by simpa [hd's] using hj)
        rw [getElem!_pos d' i (by simpa using hi), getElem!_pos d' j (by simpa using hj)] at this
        simpa using this
      have hfl := flatK_list hk d'
      have hcell' := hcell.inFlat (off := off) (Go.Sort.flatK enc k d') (fun v hv => by
        rw [hfl] at hv
        obtain ⟨x, _, hx⟩ := List.mem_flatMap.1 hv
        exact h1 x v hx) (by rw [Go.Sort.size_flatK, hd's]; exact hle) n os
      rw [hfl, ← hflat] at hcell'
      have hmv := Mv.write (ob := .cells ver (splice cs off (d'.toList.flatMap (cellsOfK enc)))) hs hid (b0 := lo.blk) (by simp [blkOf, hl']) (Gw.inRow (α := Value) (enc := fun x => x) w lo.blk (lo.base + off) (Go.Sort.flatK enc k d') n os) (Ext.refl _ _) (fun _ _ _ => rfl) (b1 := lo.blk) (.inl rfl)
        ⟨hver, lo, hl', hcell'⟩ (by simp [blkOf, hl'])
      exact ⟨.tup [], _, ρ, I, _, rfl, hmv, .tup [] [] rfl (fun i c hc => by simp at hc), hq _ hperm hpw⟩
theorem Sp.sortFuncNil {r : Go.Shelf.Ren} (L : Go.Proofs.SlLaysF0.n6 P r) {g : Nat} {Q : AV → Hp → Prop} (hq : Q (.tup []) H) : Sp P (r.f 6) [.v (.slice none 0 0), .fn (.func g) [] []] Q H := by
  intro ρ I w us hs hv
  have hln := hv.1
  match us, hln, hv with
  | [u, u1], _, hv =>
    have h0 : VR ρ I (.v (.slice none 0 0)) u := by simpa using hv.2 0 _ rfl
    rw [h0.v_is]
    refine (Go.Proofs.AnyF.slices_SortFunc_none L none 0 u1 w).mono ?_
    rintro e w' ⟨rfl, rfl⟩
    exact ⟨.tup [], _, ρ, I, H, rfl, Mv.refl hs, .tup [] [] rfl (fun i c hc => by simp at hc), hq⟩
end
end Go.Mx
