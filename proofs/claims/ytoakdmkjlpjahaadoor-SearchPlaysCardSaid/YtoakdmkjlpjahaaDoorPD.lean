import Derived.Test.YtoakdmkjlpjahaaDoorPC
namespace Go.Proofs.YtoakdmkjlpjahaaDoor
open Go.Mx
set_option linter.unusedVariables false
set_option linter.unusedSimpArgs false
set_option linter.unnecessarySimpa false
set_option maxRecDepth 100000

theorem splF_len (l : List UInt8) : ∀ (f pos : Nat) (cur : List UInt8) (acc : List W2), (splF l f pos cur acc).length ≤ acc.length + f
  | 0, _, _, acc => by simp [splF]
  | f + 1, pos, cur, acc => by
    unfold splF
    have h1 := splF_len l f (pos + max 1 (dec (l.drop pos)).2) (cur ++ Lib.encodeRune (lowC (dec (l.drop pos)).1)) acc
    have h2 := splF_len l f (pos + max 1 (dec (l.drop pos)).2) cur acc
    have h3 := splF_len l f (pos + max 1 (dec (l.drop pos)).2) [] (acc ++ [(cur, decide (lowC (dec (l.drop pos)).1 = 42))])
    simp only [List.length_append, List.length_singleton] at h3
    (repeat' split) <;> omega
theorem splL_len (l : List UInt8) : (splL l).length ≤ l.length + 1 := by
  have := splF_len l (l.length + 1) 0 [] []
  simpa [splL] using this
theorem wordsL_len (l : List UInt8) : (wordsL l).length ≤ l.length + 1 := by
  have := splL_len l
  simpa [wordsL] using this

/-! ### An index: what lies where -/
structure Tx3 where
  id : List UInt8
  ts : Int
  s : List UInt8
deriving DecidableEq
def txV (t : Tx3) : AV := .agg [.v (.int .i64 t.ts), rowT (wordsL t.s)]
def txA (L : List Tx3) : AL := L.map fun t => (t.id, txV t)
structure Ent where
  w : List UInt8
  m : Nat
  S : List (List UInt8)
def wdA (W : List Ent) : AL := W.map fun e => (e.w, .mp e.m)
def stA (S : List (List UInt8)) : AL := S.map fun s => (s, .v (.bool true))
def fpX (a mt mw : Nat) (v : AV) (W : List Ent) : List Nat := a :: mt :: mw :: (slId v ++ W.map (·.m))
/-- The parts of an index. -/
structure IxR (H : Hp) (a mt mw : Nat) (v : AV) (L : List Tx3) (W : List Ent) : Prop where
  c : H[a]? = some (.cells 0 [.mp mt, .mp mw, v])
  t : AsAt H mt (txA L)
  m : AsAt H mw (wdA W)
  o : OwnT 1 H (W.map (·.w)).length ((W.map (·.w)).flatMap txC) v
  s : ∀ e ∈ W, AsAt H e.m (stA e.S)
  d : (fpX a mt mw v W).Nodup
/-- The words tell these pairs of a word and a text. -/
structure WOk (W : List Ent) (R : List UInt8 → List UInt8 → Prop) : Prop where
  lt : (W.map (·.w)).Pairwise (· < ·)
  ne : ∀ e ∈ W, e.S ≠ [] ∧ e.S.Nodup
  pr : ∀ w s, (∃ e ∈ W, e.w = w ∧ s ∈ e.S) ↔ R w s
/-- Texts, each under a name of its own, few and small. -/
structure LOk (N : Nat) (L : List Tx3) : Prop where
  ids : (L.map (·.id)).Nodup
  ne : ∀ t ∈ L, t.id ≠ []
  few : L.length ≤ N
  sm : ∀ t ∈ L, t.s.length ≤ 900
def prL (L : List Tx3) (w s : List UInt8) : Prop := ∃ t ∈ L, t.id = s ∧ w ∈ wordsL t.s
def IxAt (N : Nat) (H : Hp) (a : Nat) (L : List Tx3) (fp : List Nat) : Prop := ∃ mt mw v W, IxR H a mt mw v L W ∧ WOk W (prL L) ∧ LOk N L ∧ fp = fpX a mt mw v W
theorem IxR.same {H H' : Hp} {a mt mw : Nat} {v : AV} {L : List Tx3} {W : List Ent} {fp : List Nat} (h : IxR H a mt mw v L W) (hs : Same fp H H') (hf : ∀ j ∈ fpX a mt mw v W, j ∉ fp) : IxR H' a mt mw v L W := by
  have hf' : ∀ j, (j = a ∨ j = mt ∨ j = mw ∨ j ∈ slId v ∨ ∃ e ∈ W, e.m = j) → j ∉ fp := fun j hj => hf j (by
    unfold fpX
    simp only [List.mem_cons, List.mem_append, List.mem_map]
    exact hj)
  exact ⟨hs.2 _ _ h.c (hf' _ (.inl rfl)), h.t.same hs (hf' _ (.inr (.inl rfl))), h.m.same hs (hf' _ (.inr (.inr (.inl rfl)))), h.o.same hs (fun j hj => hf' j (.inr (.inr (.inr (.inl hj))))), fun e he => (h.s e he).same hs (hf' _ (.inr (.inr (.inr (.inr ⟨e, he, rfl⟩))))), h.d⟩
theorem IxAt.same {N : Nat} {H H' : Hp} {a : Nat} {L : List Tx3} {fp fp' : List Nat} (h : IxAt N H a L fp) (hs : Same fp' H H') (hf : ∀ j ∈ fp, j ∉ fp') : IxAt N H' a L fp := by
  obtain ⟨mt, mw, v, W, h1, h2, h3, rfl⟩ := h
  exact ⟨mt, mw, v, W, h1.same hs hf, h2, h3, rfl⟩
theorem IxR.lt {H : Hp} {a mt mw : Nat} {v : AV} {L : List Tx3} {W : List Ent} (h : IxR H a mt mw v L W) : ∀ j ∈ fpX a mt mw v W, j < H.length := by
  intro j hj
  unfold fpX at hj
  simp only [List.mem_cons, List.mem_append, List.mem_map] at hj
  rcases hj with rfl | rfl | rfl | hj | ⟨e, he, rfl⟩
  · exact Hp.lt h.c
  · exact h.t.lt
  · exact h.m.lt
  · exact h.o.lt j hj
  · exact (h.s e he).lt
theorem IxAt.lt {N : Nat} {H : Hp} {a : Nat} {L : List Tx3} {fp : List Nat} (h : IxAt N H a L fp) : ∀ j ∈ fp, j < H.length := by
  obtain ⟨mt, mw, v, W, h1, h2, h3, rfl⟩ := h
  exact h1.lt
theorem AsAt.obj {H : Hp} {id : Nat} {l : AL} (h : AsAt H id l) : ∃ es c, H[id]? = some (.map es c) := by obtain ⟨f, ⟨es, c, h1, _⟩, _⟩ := h; exact ⟨es, c, h1⟩
theorem IxR.tab {H : Hp} {a mt mw : Nat} {v : AV} {L : List Tx3} {W : List Ent} (h : IxR H a mt mw v L W) {j g : Nat} {us : List Value} (hj : H[j]? = some (.tab g us)) : j ∉ fpX a mt mw v W := by
  intro hm
  unfold fpX at hm
  simp only [List.mem_cons, List.mem_append, List.mem_map] at hm
  rcases hm with rfl | rfl | rfl | hm | ⟨e, he, rfl⟩
  · have := h.c; rw [hj] at this; simp at this
  · obtain ⟨es, c, h1⟩ := h.t.obj; rw [hj] at h1; simp at h1
  · obtain ⟨es, c, h1⟩ := h.m.obj; rw [hj] at h1; simp at h1
  · rcases h.o with ⟨_, _, rfl⟩ | ⟨_, _, id, ver, tl, rfl, h3⟩
    · simp [slId] at hm
    · simp [slId] at hm; subst hm; rw [hj] at h3; simp at h3
  · obtain ⟨es, c, h1⟩ := (h.s e he).obj; rw [hj] at h1; simp at h1
theorem Tb.keep {H H' : Hp} {fp : List Nat} (h : Tb H) (hs : Same fp H H') (h0 : 0 ∉ fp) (h1 : 1 ∉ fp) : Tb H' := ⟨hs.2 _ _ h.1 h0, hs.2 _ _ h.2 h1⟩
theorem IxAt.tb {N : Nat} {H H' : Hp} {a : Nat} {L : List Tx3} {fp : List Nat} (h : IxAt N H a L fp) (hT : Tb H) (hs : Same fp H H') : Tb H' := by
  obtain ⟨mt, mw, v, W, h1, h2, h3, rfl⟩ := h
  exact hT.keep hs (h1.tab hT.1) (h1.tab hT.2)
/-- So few words. -/
theorem words_few {N M : Nat} {W : List Ent} {R : List UInt8 → List UInt8 → Prop} (h : WOk W R) (K : List (List UInt8)) (hK : ∀ w s, R w s → w ∈ K) : W.length ≤ K.length := by
  have hn : (W.map (·.w)).Nodup := List.nodup_iff_pairwise_ne.2 (h.lt.imp (fun {a b} hab e => by subst e; exact absurd hab (List.lt_irrefl _)))
  have := hn.length_le_of_subset (l₂ := K) (fun w hw => by
    obtain ⟨e, he, rfl⟩ := List.mem_map.1 hw
    obtain ⟨s, hs⟩ := List.exists_mem_of_ne_nil _ (h.ne e he).1
    exact hK _ s ((h.pr _ _).1 ⟨e, he, rfl, hs⟩))
  simpa using this
theorem all_words (N : Nat) : ∀ (L : List Tx3), (∀ t ∈ L, t.s.length ≤ 900) → (L.flatMap fun t => wordsL t.s).length ≤ L.length * 901
  | [], _ => by simp
  | t :: L, h => by
    have h1 := all_words N L (fun x hx => h x (List.mem_cons_of_mem _ hx))
    have h2 := wordsL_len t.s
    have h3 := h t (by simp)
    simp only [List.flatMap_cons, List.length_append, List.length_cons]
    rw [Nat.add_mul]
    omega

theorem zA65 : zeroA Tryd.prog 65 = some (.v (.map none)) := by kernel_rfl
theorem zA62 : zeroA Tryd.prog 62 = some (.agg [.v (.int .i64 0), .v (.slice none 0 0)]) := by kernel_rfl
theorem zA4 : zeroA Tryd.prog 4 = some (.v (.bool false)) := by kernel_rfl
/-! ### New, made, Len -/
theorem ixnew (N : Nat) (H : Hp) : IxAt N (H ++ [.map [] 0] ++ [.map [] 0] ++ [.cells 0 [.mp H.length, .mp (H.length + 1), .v (.slice none 0 0)]]) (H.length + 2) [] [H.length + 2, H.length, H.length + 1] := by
  refine ⟨H.length, H.length + 1, .v (.slice none 0 0), [], ⟨?_, AsAt.put ?_, AsAt.put ?_, OwnT.nil _ _, by simp, ?_⟩, ⟨by simp, by simp, ?_⟩, ⟨by simp, by simp, by simp, by simp⟩, rfl⟩
  · rw [List.getElem?_append_right (by simp)]; simp
  · rw [List.getElem?_append_left (by simp), List.getElem?_append_left (by simp), List.getElem?_append_right (by simp)]; simp
  · rw [List.getElem?_append_left (by simp), List.getElem?_append_right (by simp)]; simp
  · simp [fpX, slId]
  · simp [prL]
theorem new_sp (N : Nat) (H : Hp) (Q : AV → Hp → Prop) (h : ∀ a H' fp, IxAt N H' a [] fp → Same [] H H' → (∀ j ∈ fp, H.length ≤ j) → Q (.ptr a 0 0) H') : Sp Tryd.prog 14 [] Q H := by
  refine Sp.body [] ⟨[], [], []⟩ [] mo Tryd.func14 rfl (Nat.le_of_ble_eq_true rfl) (by kernel_rfl) ?_
  have h2 := h _ _ _ (ixnew N H) (by rw [List.append_assoc, List.append_assoc]; exact Same.app _ _ _) (by simp)
  simp [ev_seq, ev_ret, ev_region2, evOps_nil, evOps_cons, opG_none, opA_assign, opA_box, opA_makeMap, opA_build, putO_some, putH_lt, boxT, makeMapT, buildZ, partsZ, fillO, aggO, opS, opV, Go.Mx.look, fr0, argSlots, seqK, retK, retA, resA, mapO, cellsA_agg, cellsA_mp, okPart_agg, okPart_mp, fillA, newK, Tryd.underlying48, Tryd.underlying49, ze51, of51] at h2 ⊢
  exact h2
theorem made_sp {a mt mw : Nat} {v : AV} (H : Hp) (Q : AV → Hp → Prop) (hc : H[a]? = some (.cells 0 [.mp mt, .mp mw, v])) (h : Q (.v (.bool true)) H) : Sp Tryd.prog 28 [.ptr a 0 0] Q H := by
  refine Sp.body [] ⟨[], [], []⟩ [] mo Tryd.func28 rfl (Nat.le_of_ble_eq_true rfl) (by kernel_rfl) ?_
  simp [ev_seq, ev_ret, ev_region2, evOps_nil, evOps_cons, opG_none, opG_some, opJ, opU_ft, isU_bool, opK_eq, opA_move, opA_assign, opA_pick, opA_bin, opA_load, opA_fieldAddr, opA_nilCheck, putO_some, putH_lt, condB_true, binT_some, binA, eqRef, avO_some, pickT, loadT, nilCheckT, fieldAddrT, opS, opV, Go.Mx.look, fr0, argSlots, seqK, Fr.known, retK, retA, resA, mapO, partA, loadA, loadS, plusS, nilCheckS, orO_some, eqT_some, tk29, sz48, ag48, tk48, Tryd.underlying51, hc]
  exact h
def NoIx (H : Hp) (v : AV) : Prop := v = .v (.pointer none) ∨ ∃ b, v = .ptr b 0 0 ∧ H[b]? = some (.cells 0 [.v (.map none), .v (.map none), .v (.slice none 0 0)])
theorem madeN_sp (v : AV) (H : Hp) (Q : AV → Hp → Prop) (hv : NoIx H v) (h : Q (.v (.bool false)) H) : Sp Tryd.prog 28 [v] Q H := by
  refine Sp.body [] ⟨[], [], []⟩ [] mo Tryd.func28 rfl (Nat.le_of_ble_eq_true rfl) (by kernel_rfl) ?_
  rcases hv with rfl | ⟨b, rfl, hb⟩
  · simp [ev_seq, ev_ret, ev_region2, evOps_nil, evOps_cons, opG_none, opG_some, opJ, opU_ft, isU_bool, opA_move, opA_assign, opA_pick, opA_bin, putO_some, putH_lt, putV_lt, condB_false, binT_some, binA, eqRef, avO_some, pickT, opS, opV, Go.Mx.look, fr0, argSlots, seqK, Fr.known, retK, retA, resA, mapO, orO_some, eqT_some, tk29]; exact h
  · simp [ev_seq, ev_ret, ev_region2, evOps_nil, evOps_cons, opG_none, opG_some, opJ, opU_ft, isU_bool, opK_eq, opA_move, opA_assign, opA_pick, opA_bin, opA_load, opA_fieldAddr, opA_nilCheck, putO_some, putH_lt, condB_true, binT_some, binA, eqRef, avO_some, pickT, loadT, nilCheckT, fieldAddrT, opS, opV, Go.Mx.look, fr0, argSlots, seqK, Fr.known, retK, retA, resA, mapO, partA, loadA, loadS, plusS, nilCheckS, orO_some, eqT_some, tk29, sz48, ag48, tk48, Tryd.underlying51, hb]; exact h
theorem ids_txA (L : List Tx3) : (txA L).map (·.1) = L.map (·.id) := by unfold txA; rw [List.map_map]; rfl
theorem len_sp {N : Nat} {a : Nat} {L : List Tx3} {fp : List Nat} (H : Hp) (Q : AV → Hp → Prop) (hp : IxAt N H a L fp) (h : Q (.v (.int .i64 (L.length : Nat))) H) : Sp Tryd.prog 17 [.ptr a 0 0] Q H := by
  obtain ⟨mt, mw, v, W, h1, h2, h3, rfl⟩ := hp
  refine Sp.body [] ⟨[], [], []⟩ [] mo Tryd.func17 rfl (Nat.le_of_ble_eq_true rfl) (by kernel_rfl) ?_
  have hc := h1.c
  have hl := h1.t.len (by rw [ids_txA]; exact h3.ids) 9 62
  have hll : (txA L).length = L.length := by simp [txA]
  rw [hll] at hl
  simp [ev_seq, ev_region2, evOps_nil, evOps_cons, opG_none, opA_move, opA_assign, opA_call, putO_some, putH_lt, opS, opV, Go.Mx.look, fr0, argSlots, seqK, mapO, callA, ok28]
  refine made_sp H _ hc ?_
  simp [ev_skip, ev_seq, ev_cond2, ev_ret, ev_region2, evOps_nil, evOps_cons, opG_none, opA_move, opA_assign, opA_un, opA_load, opA_fieldAddr, opA_nilCheck, opA_len, putO_some, putH_lt, putC_lt, condB_false, unT, loadT, nilCheckT, fieldAddrT, opS, opV, Go.Mx.look, seqK, Fr.known, retK, retA, resA, mapO, unA, partA, loadA, loadS, plusS, nilCheckS, sz48, ag48, Tryd.underlying48, Tryd.underlying51, hc, hl]
  exact h
theorem lenN_sp (v : AV) (H : Hp) (Q : AV → Hp → Prop) (hv : NoIx H v) (h : Q (.v (.int .i64 0)) H) : Sp Tryd.prog 17 [v] Q H := by
  refine Sp.body [] ⟨[], [], []⟩ [] mo Tryd.func17 rfl (Nat.le_of_ble_eq_true rfl) (by kernel_rfl) ?_
  simp [ev_seq, ev_region2, evOps_nil, evOps_cons, opG_none, opA_move, opA_assign, opA_call, putO_some, putH_lt, opS, opV, Go.Mx.look, fr0, argSlots, seqK, mapO, callA, ok28]
  refine madeN_sp v H _ hv ?_
  simp [ev_seq, ev_cond2, ev_ret, ev_region2, evOps_nil, evOps_cons, opG_none, opA_assign, opA_un, putO_some, putH_lt, putC_lt, condB_true, unT, opS, opV, Go.Mx.look, seqK, Fr.known, retK, retA, resA, mapO, unA]
  exact h
/-- How many texts have a word. -/
def countW (L : List Tx3) (w : List UInt8) : Nat := (L.filter fun t => decide (w ∈ wordsL t.s)).length
theorem ids_wdA (W : List Ent) : (wdA W).map (·.1) = W.map (·.w) := by unfold wdA; rw [List.map_map]; rfl
theorem ids_stA (S : List (List UInt8)) : (stA S).map (·.1) = S := by unfold stA; rw [List.map_map]; exact List.map_id' _
theorem count_ent {N : Nat} {L : List Tx3} {W : List Ent} (hW : WOk W (prL L)) (hL : LOk N L) {e : Ent} (he : e ∈ W) : e.S.length = countW L e.w := by
  have huniq : ∀ e2 ∈ W, e2.w = e.w → e2 = e := by
    intro e2 he2 hw
    obtain ⟨i, hi⟩ := List.getElem?_of_mem he
    obtain ⟨j, hj⟩ := List.getElem?_of_mem he2
    have hp := List.pairwise_iff_getElem.1 hW.lt
    rcases Nat.lt_trichotomy i j with hij | hij | hij
    · have := hp i j (by simpa using (List.getElem?_eq_some_iff.1 hi).1) (by simpa using (List.getElem?_eq_some_iff.1 hj).1) hij
      simp only [List.getElem_map, (List.getElem?_eq_some_iff.1 hi).2, (List.getElem?_eq_some_iff.1 hj).2, hw] at this
      exact absurd this (List.lt_irrefl _)
    · subst hij; rw [hi] at hj; simpa using hj.symm
    · have := hp j i (by simpa using (List.getElem?_eq_some_iff.1 hj).1) (by simpa using (List.getElem?_eq_some_iff.1 hi).1) hij
      simp only [List.getElem_map, (List.getElem?_eq_some_iff.1 hi).2, (List.getElem?_eq_some_iff.1 hj).2, hw] at this
      exact absurd this (List.lt_irrefl _)
  have h1 : ∀ s, s ∈ e.S ↔ s ∈ (L.filter fun t => decide (e.w ∈ wordsL t.s)).map (·.id) := by
    intro s
    rw [List.mem_map]
    constructor
    · intro hs
      obtain ⟨t, ht, rfl, hw⟩ := (hW.pr e.w s).1 ⟨e, he, rfl, hs⟩
      exact ⟨t, by simp [ht, hw], rfl⟩
    · rintro ⟨t, ht, rfl⟩
      simp only [List.mem_filter, decide_eq_true_eq] at ht
      obtain ⟨e2, he2, hw2, hs2⟩ := (hW.pr e.w t.id).2 ⟨t, ht.1, rfl, ht.2⟩
      rw [huniq e2 he2 hw2] at hs2
      exact hs2
  have hn : ((L.filter fun t => decide (e.w ∈ wordsL t.s)).map (·.id)).Nodup := hL.ids.sublist ((List.filter_sublist).map _)
  have l1 := (hW.ne e he).2.length_le_of_subset (fun s hs => (h1 s).1 hs)
  have l2 := hn.length_le_of_subset (fun s hs => (h1 s).2 hs)
  rw [List.length_map] at l1 l2
  unfold countW
  omega
theorem texts_sp {N : Nat} {a : Nat} {L : List Tx3} {fp : List Nat} (w : List UInt8) (H : Hp) (Q : AV → Hp → Prop) (hp : IxAt N H a L fp) (h : Q (.v (.int .i64 (countW L w : Nat))) H) : Sp Tryd.prog 20 [.ptr a 0 0, .v (.string (tx w))] Q H := by
  obtain ⟨mt, mw, v, W, h1, h2, h3, rfl⟩ := hp
  refine Sp.body [] ⟨[], [], []⟩ [] mo Tryd.func20 rfl (Nat.le_of_ble_eq_true rfl) (by kernel_rfl) ?_
  have hc := h1.c
  by_cases hw : ∃ e ∈ W, e.w = w
  · obtain ⟨e, he, rfl⟩ := hw
    have hlk := h1.m.look (t := 49) Tryd.underlying49 (x := e.w) (v := .mp e.m) (List.mem_map.2 ⟨e, he, rfl⟩) false
    have hl := (h1.s e he).len (by rw [ids_stA]; exact (h2.ne e he).2) 9 4
    have hll : (stA e.S).length = countW L e.w := by rw [← count_ent h2 h3 he]; simp [stA]
    rw [hll] at hl
    simp [ev_seq, ev_region2, evOps_nil, evOps_cons, opG_none, opA_move, opA_assign, opA_call, putO_some, putH_lt, opS, opV, Go.Mx.look, fr0, argSlots, seqK, mapO, callA, ok28]
    refine made_sp H _ hc ?_
    simp [ev_skip, ev_seq, ev_cond2, ev_ret, ev_region2, evOps_nil, evOps_cons, opG_none, opA_move, opA_assign, opA_un, opA_load, opA_fieldAddr, opA_nilCheck, opA_len, putO_some, putH_lt, putC_lt, condB_false, avO_some, unT, loadT, nilCheckT, fieldAddrT, opS, opV, Go.Mx.look, seqK, Fr.known, retK, retA, resA, mapO, unA, partA, loadA, loadS, plusS, nilCheckS, lookT_some, opA_lookup, sz49, ag49, Tryd.underlying51, Tryd.underlying65, hc, hlk, Go.Mx.valOf, hl]
    exact h
  · have hlk := h1.m.no (t := 49) Tryd.underlying49 (x := w) (fun p hp e => hw (by
      obtain ⟨e2, he2, rfl⟩ := List.mem_map.1 hp
      exact ⟨e2, he2, e⟩)) false
    have h0 : countW L w = 0 := by
      unfold countW
      rw [List.length_eq_zero_iff, List.filter_eq_nil_iff]
      intro t ht hd
      simp only [decide_eq_true_eq] at hd
      obtain ⟨e, he, hew, _⟩ := (h2.pr w t.id).2 ⟨t, ht, rfl, hd⟩
      exact hw ⟨e, he, hew⟩
    rw [h0] at h
    simp [ev_seq, ev_region2, evOps_nil, evOps_cons, opG_none, opA_move, opA_assign, opA_call, putO_some, putH_lt, opS, opV, Go.Mx.look, fr0, argSlots, seqK, mapO, callA, ok28]
    refine made_sp H _ hc ?_
    simp [ev_skip, ev_seq, ev_cond2, ev_ret, ev_region2, evOps_nil, evOps_cons, opG_none, opA_move, opA_assign, opA_un, opA_load, opA_fieldAddr, opA_nilCheck, opA_len, putO_some, putH_lt, putC_lt, condB_false, avO_some, unT, loadT, nilCheckT, lenT_nomp, fieldAddrT, opS, opV, Go.Mx.look, seqK, Fr.known, retK, retA, resA, mapO, unA, partA, loadA, loadS, plusS, nilCheckS, lookT_some, opA_lookup, sz49, ag49, Tryd.underlying51, Tryd.underlying65, hc, hlk, Go.Mx.valOf, zA65]
    exact h
theorem textsN_sp (v : AV) (w : List UInt8) (H : Hp) (Q : AV → Hp → Prop) (hv : NoIx H v) (h : Q (.v (.int .i64 0)) H) : Sp Tryd.prog 20 [v, .v (.string (tx w))] Q H := by
  refine Sp.body [] ⟨[], [], []⟩ [] mo Tryd.func20 rfl (Nat.le_of_ble_eq_true rfl) (by kernel_rfl) ?_
  simp [ev_seq, ev_region2, evOps_nil, evOps_cons, opG_none, opA_move, opA_assign, opA_call, putO_some, putH_lt, opS, opV, Go.Mx.look, fr0, argSlots, seqK, mapO, callA, ok28]
  refine madeN_sp v H _ hv ?_
  simp [ev_seq, ev_cond2, ev_ret, ev_region2, evOps_nil, evOps_cons, opG_none, opA_assign, opA_un, putO_some, putH_lt, putC_lt, condB_true, unT, opS, opV, Go.Mx.look, seqK, Fr.known, retK, retA, resA, mapO, unA]
  exact h
end Go.Proofs.YtoakdmkjlpjahaaDoor

namespace Go.Proofs.YtoakdmkjlpjahaaDoor
open Go.Mx
set_option linter.unusedVariables false
set_option linter.unusedSimpArgs false
set_option linter.unnecessarySimpa false

abbrev LB := List UInt8
/-! ### Sorted rows of texts -/
theorem lt_asym {a b : LB} (h : a < b) : ¬ b < a := fun k => List.lt_irrefl _ (List.lt_trans h k)
def posL (ws : List LB) (x : LB) : Nat := (ws.takeWhile (fun y => decide (y < x))).length
theorem posL_le (ws : List LB) (x : LB) : posL ws x ≤ ws.length := (List.takeWhile_sublist _).length_le
theorem posL_lo : ∀ (ws : List LB) (x : LB) (t : Nat) (y : LB), t < posL ws x → ws[t]? = some y → y < x
  | [], x, t, y, h, _ => by simp [posL] at h
  | w :: ws, x, t, y, h, hy => by
    unfold posL at h
    rw [List.takeWhile_cons] at h
    by_cases hw : w < x
    · rw [if_pos (by simpa using hw)] at h
      cases t with
      | zero => simp at hy; subst hy; exact hw
      | succ t => exact posL_lo ws x t y (by simpa [posL] using h) (by simpa using hy)
    · rw [if_neg (by simpa using hw)] at h
      simp at h
theorem posL_hi : ∀ (ws : List LB) (x : LB), ws.Pairwise (· < ·) → ∀ (t : Nat) (y : LB), posL ws x ≤ t → ws[t]? = some y → ¬ y < x
  | [], x, _, t, y, h, hy => by simp at hy
  | w :: ws, x, hp, t, y, h, hy => by
    unfold posL at h
    rw [List.takeWhile_cons] at h
    by_cases hw : w < x
    · rw [if_pos (by simpa using hw)] at h
      cases t with
      | zero => simp at h
      | succ t => exact posL_hi ws x (List.pairwise_cons.1 hp).2 t y (by simpa [posL] using h) (by simpa using hy)
    · cases t with
      | zero => simp at hy; subst hy; exact hw
      | succ t =>
        have : w < y := (List.pairwise_cons.1 hp).1 y (List.mem_of_getElem? (by simpa using hy))
        exact fun h2 => hw (List.lt_trans this h2)
theorem posL_at (ws : List LB) (x : LB) (hp : ws.Pairwise (· < ·)) : decide (ws[posL ws x]? = some x) = decide (x ∈ ws) := by
  by_cases hx : x ∈ ws
  · obtain ⟨t, ht⟩ := List.getElem?_of_mem hx
    have h1 : posL ws x ≤ t := by
      rcases Nat.lt_or_ge t (posL ws x) with h | h
      · exact absurd (posL_lo ws x t x h ht) (List.lt_irrefl _)
      · exact h
    have htl := (List.getElem?_eq_some_iff.1 ht).1
    have h2 : ws[posL ws x]? = some ws[posL ws x] := List.getElem?_eq_getElem (by omega)
    rcases Nat.lt_or_ge (posL ws x) t with h | h
    · have := List.pairwise_iff_getElem.1 hp (posL ws x) t (by omega) htl h
      rw [(List.getElem?_eq_some_iff.1 ht).2] at this
      exact absurd this (posL_hi ws x hp _ _ (Nat.le_refl _) h2)
    · have : posL ws x = t := by omega
      rw [this, ht]; simp [hx]
  · have : ws[posL ws x]? ≠ some x := fun h => hx (List.mem_of_getElem? h)
    simp [hx, this]
theorem insL_sorted (ws : List LB) (x : LB) (hp : ws.Pairwise (· < ·)) (hx : x ∉ ws) : (insL ws (posL ws x) x).Pairwise (· < ·) := by
  unfold insL
  have h1 : ∀ y ∈ ws.take (posL ws x), y < x := fun y hy => by
    obtain ⟨t, ht⟩ := List.getElem?_of_mem hy
    rw [List.getElem?_take] at ht
    split at ht
    · exact posL_lo ws x t y (by assumption) ht
    · simp at ht
  have h2 : ∀ y ∈ ws.drop (posL ws x), x < y := fun y hy => by
    obtain ⟨t, ht⟩ := List.getElem?_of_mem hy
    rw [List.getElem?_drop] at ht
    have h3 := posL_hi ws x hp _ y (by omega) ht
    have h4 : y ≠ x := fun e => hx (by rw [← e]; exact List.mem_of_getElem? ht)
    rcases Classical.em (x < y) with h | h
    · exact h
    · exact absurd (List.le_antisymm (List.not_lt.1 h) (List.not_lt.1 h3)) h4
  rw [List.pairwise_append, List.pairwise_cons]
  refine ⟨hp.sublist (List.take_sublist _ _), ⟨h2, hp.sublist (List.drop_sublist _ _)⟩, fun a ha b hb => ?_⟩
  rcases List.mem_cons.1 hb with rfl | hb
  · exact h1 a ha
  · exact List.lt_trans (h1 a ha) (h2 b hb)

/-! ### Words come and go -/
def addPr (R : LB → LB → Prop) (w id : LB) : LB → LB → Prop := fun w' s => R w' s ∨ (w' = w ∧ s = id)
theorem WOk.ins {W : List Ent} {R : LB → LB → Prop} (h : WOk W R) (w id : LB) (m : Nat) (hw : w ∉ W.map (·.w)) : WOk (W.take (posL (W.map (·.w)) w) ++ ⟨w, m, [id]⟩ :: W.drop (posL (W.map (·.w)) w)) (addPr R w id) := by
  have hm : ∀ e, e ∈ (W.take (posL (W.map (·.w)) w) ++ ⟨w, m, [id]⟩ :: W.drop (posL (W.map (·.w)) w)) ↔ e ∈ W ∨ e = ⟨w, m, [id]⟩ := fun e => by
    conv => rhs; rw [← List.take_append_drop (posL (W.map (·.w)) w) W]
    simp only [List.mem_append, List.mem_cons]
    constructor
    · rintro (h | h | h)
      · exact .inl (.inl h)
      · exact .inr h
      · exact .inl (.inr h)
    · rintro ((h | h) | h)
      · exact .inl h
      · exact .inr (.inr h)
      · exact .inr (.inl h)
  refine ⟨?_, fun e he => ?_, fun w' s => ?_⟩
  · have := insL_sorted (W.map (·.w)) w h.lt hw
    unfold insL at this
    simpa [List.map_take, List.map_drop] using this
  · rcases (hm e).1 he with he | rfl
    · exact h.ne e he
    · simp
  · unfold addPr
    rw [← h.pr]
    constructor
    · rintro ⟨e, he, rfl, hs⟩
      rcases (hm e).1 he with he | rfl
      · exact .inl ⟨e, he, rfl, hs⟩
      · simp at hs; exact .inr ⟨rfl, hs⟩
    · rintro (⟨e, he, rfl, hs⟩ | ⟨rfl, rfl⟩)
      · exact ⟨e, (hm e).2 (.inl he), rfl, hs⟩
      · exact ⟨_, (hm _).2 (.inr rfl), rfl, by simp⟩
def addS (S : List LB) (id : LB) : List LB := if id ∈ S then S else S ++ [id]
theorem mem_addS (S : List LB) (id s : LB) : s ∈ addS S id ↔ s ∈ S ∨ s = id := by
  unfold addS
  split
  · exact ⟨.inl, fun h => h.elim (fun h => h) fun e => by rw [e]; assumption⟩
  · simp
theorem WOk.put {A B : List Ent} {e : Ent} {R : LB → LB → Prop} (h : WOk (A ++ e :: B) R) (id : LB) : WOk (A ++ ⟨e.w, e.m, addS e.S id⟩ :: B) (addPr R e.w id) := by
  refine ⟨?_, fun x hx => ?_, fun w' s => ?_⟩
  · have := h.lt
    simp only [List.map_append, List.map_cons] at this ⊢; exact this
  · simp only [List.mem_append, List.mem_cons] at hx
    rcases hx with hx | rfl | hx
    · exact h.ne x (by simp [hx])
    · have h1 := h.ne e (by simp)
      refine ⟨fun h0 => ?_, ?_⟩
      · obtain ⟨s, hs⟩ := List.exists_mem_of_ne_nil _ h1.1
        have h0' : addS e.S id = [] := h0
        have := (mem_addS e.S id s).2 (.inl hs)
        rw [h0'] at this; simp at this
      · show (addS e.S id).Nodup
        unfold addS
        split
        · exact h1.2
        · rename_i hn
          rw [List.nodup_append]
          exact ⟨h1.2, by simp, fun a ha b hb => by simp at hb; subst hb; exact fun e => hn (e ▸ ha)⟩
    · exact h.ne x (by simp [hx])
  · unfold addPr
    rw [← h.pr]
    constructor
    · rintro ⟨x, hx, rfl, hs⟩
      simp only [List.mem_append, List.mem_cons] at hx
      rcases hx with hx | rfl | hx
      · exact .inl ⟨x, by simp [hx], rfl, hs⟩
      · rcases (mem_addS _ _ _).1 hs with hs | rfl
        · exact .inl ⟨e, by simp, rfl, hs⟩
        · exact .inr ⟨rfl, rfl⟩
      · exact .inl ⟨x, by simp [hx], rfl, hs⟩
    · rintro (⟨x, hx, rfl, hs⟩ | ⟨rfl, rfl⟩)
      · simp only [List.mem_append, List.mem_cons] at hx
        rcases hx with hx | rfl | hx
        · exact ⟨x, by simp [hx], rfl, hs⟩
        · exact ⟨⟨x.w, x.m, addS x.S id⟩, by simp, rfl, (mem_addS _ _ _).2 (.inl hs)⟩
        · exact ⟨x, by simp [hx], rfl, hs⟩
      · exact ⟨⟨e.w, e.m, addS e.S s⟩, by simp, rfl, (mem_addS _ _ _).2 (.inr rfl)⟩
theorem WOk.cong {W : List Ent} {R R' : LB → LB → Prop} (h : WOk W R) (hr : ∀ w s, R w s ↔ R' w s) : WOk W R' := ⟨h.lt, h.ne, fun w s => (h.pr w s).trans (hr w s)⟩
theorem WOk.split {W : List Ent} {w : LB} (hw : w ∈ W.map (·.w)) : ∃ A e B, W = A ++ e :: B ∧ e.w = w := by
  obtain ⟨e, he, rfl⟩ := List.mem_map.1 hw
  obtain ⟨A, B, hAB⟩ := List.append_of_mem he
  exact ⟨A, e, B, hAB, rfl⟩
end Go.Proofs.YtoakdmkjlpjahaaDoor

namespace Go.Proofs.YtoakdmkjlpjahaaDoor
open Go.Mx
set_option linter.unusedVariables false
set_option linter.unusedSimpArgs false
set_option linter.unnecessarySimpa false
set_option maxRecDepth 100000

theorem stA_add (S : List LB) (id : LB) (p : LB × AV) : p ∈ stA (addS S id) ↔ p = (id, .v (.bool true)) ∨ (p ∈ stA S ∧ p.1 ≠ id) := by
  unfold stA
  simp only [List.mem_map, mem_addS]
  constructor
  · rintro ⟨s, hs | rfl, rfl⟩
    · by_cases h : s = id
      · subst h; exact .inl rfl
      · exact .inr ⟨⟨s, hs, rfl⟩, h⟩
    · exact .inl rfl
  · rintro (rfl | ⟨⟨s, hs, rfl⟩, hne⟩)
    · exact ⟨id, .inr rfl, rfl⟩
    · exact ⟨s, .inl hs, rfl⟩
theorem fpX_mem {a mt mw : Nat} {v : AV} {W : List Ent} {j : Nat} : j ∈ fpX a mt mw v W ↔ j = a ∨ j = mt ∨ j = mw ∨ j ∈ slId v ∨ ∃ e ∈ W, e.m = j := by
  unfold fpX
  simp only [List.mem_cons, List.mem_append, List.mem_map]
/-- What lies apart. -/
structure Apart (a mt mw : Nat) (v : AV) (W : List Ent) : Prop where
  amt : a ≠ mt
  amw : a ≠ mw
  av : a ∉ slId v
  aw : ∀ e ∈ W, e.m ≠ a
  tm : mt ≠ mw
  tv : mt ∉ slId v
  tw : ∀ e ∈ W, e.m ≠ mt
  mv : mw ∉ slId v
  mw' : ∀ e ∈ W, e.m ≠ mw
  vn : (slId v).Nodup
  vw : ∀ e ∈ W, e.m ∉ slId v
  ww : (W.map (·.m)).Nodup
theorem apart_iff {a mt mw : Nat} {v : AV} {W : List Ent} : (fpX a mt mw v W).Nodup ↔ Apart a mt mw v W := by
  unfold fpX
  constructor
  · intro h
    simp only [List.nodup_cons, List.nodup_append, List.mem_cons, List.mem_append, List.mem_map, not_or, not_exists, not_and] at h
    obtain ⟨⟨h1, h2, h3, h4⟩, ⟨h5, h6, h7⟩, ⟨h8, h9⟩, h10, h11, h12⟩ := h
    exact ⟨h1, h2, h3, h4, h5, h6, h7, h8, h9, h10, fun e he hm => h12 _ hm _ ⟨e, he, rfl⟩ rfl, h11⟩
  · intro h
    simp only [List.nodup_cons, List.nodup_append, List.mem_cons, List.mem_append, List.mem_map, not_or, not_exists, not_and]
    exact ⟨⟨h.amt, h.amw, h.av, h.aw⟩, ⟨h.tm, h.tv, h.tw⟩, ⟨h.mv, h.mw'⟩, h.vn, h.ww, fun j hj i ⟨e, he, hm⟩ e2 => h.vw e he (by rw [hm, ← e2]; exact hj)⟩
theorem IxR.putS {H H' : Hp} {a mt mw : Nat} {v : AV} {L : List Tx3} {A B : List Ent} {e : Ent} {S : List LB} (h : IxR H a mt mw v L (A ++ e :: B)) (hS : AsAt H' e.m (stA S)) (hs : Same [e.m] H H') : IxR H' a mt mw v L (A ++ ⟨e.w, e.m, S⟩ :: B) := by
  have d := apart_iff.1 h.d
  have he : e ∈ A ++ e :: B := by simp
  have hww := d.ww
  have n1 : (A ++ (⟨e.w, e.m, S⟩ : Ent) :: B).map (·.m) = (A ++ e :: B).map (·.m) := by simp
  have n2 : (A ++ (⟨e.w, e.m, S⟩ : Ent) :: B).map (·.w) = (A ++ e :: B).map (·.w) := by simp
  have n3 : wdA (A ++ (⟨e.w, e.m, S⟩ : Ent) :: B) = wdA (A ++ e :: B) := by simp [wdA]
  refine ⟨hs.2 _ _ h.c (by simp; exact fun q => d.aw e he q.symm), h.t.same hs (by simp; exact fun q => d.tw e he q.symm), by rw [n3]; exact h.m.same hs (by simp; exact fun q => d.mw' e he q.symm), by rw [n2]; exact h.o.same hs (fun j hj => by simp; exact fun q => d.vw e he (q ▸ hj)), fun x hx => ?_, ?_⟩
  · simp only [List.mem_append, List.mem_cons] at hx
    rw [List.map_append, List.map_cons, List.nodup_append, List.nodup_cons] at hww
    rcases hx with hx | rfl | hx
    · exact (h.s x (by simp [hx])).same hs (by simp; exact fun q => hww.2.2 x.m (List.mem_map.2 ⟨x, hx, rfl⟩) e.m (by simp) q)
    · exact hS
    · exact (h.s x (by simp [hx])).same hs (by simp; exact fun q => hww.2.1.1 (List.mem_map.2 ⟨x, hx, q⟩))
  · have := h.d
    unfold fpX at this ⊢
    rw [n1]; exact this
def addL (L : List Tx3) (t : Tx3) : Nat × List Tx3 := if t.id = [] then (1, L) else if t.id ∈ L.map (·.id) then (4, L) else (0, L ++ [t])
theorem tx_nil_eq (l : LB) : (tx l = ⟨#[]⟩) = (l = []) := by
  apply propext
  rw [show (⟨#[]⟩ : ByteArray) = tx [] from rfl, tx_inj]
theorem wdA_ins (W : List Ent) (k : Nat) (w : LB) (m : Nat) (S : List LB) (hw : w ∉ W.map (·.w)) (p : LB × AV) : p ∈ wdA (W.take k ++ ⟨w, m, S⟩ :: W.drop k) ↔ p = (w, .mp m) ∨ (p ∈ wdA W ∧ p.1 ≠ w) := by
  have hm : ∀ e, e ∈ (W.take k ++ ⟨w, m, S⟩ :: W.drop k) ↔ e ∈ W ∨ e = ⟨w, m, S⟩ := fun e => by
    conv => rhs; rw [← List.take_append_drop k W]
    simp only [List.mem_append, List.mem_cons]
    constructor
    · rintro (h | h | h)
      · exact .inl (.inl h)
      · exact .inr h
      · exact .inl (.inr h)
    · rintro ((h | h) | h)
      · exact .inl h
      · exact .inr (.inr h)
      · exact .inr (.inl h)
  unfold wdA
  simp only [List.mem_map, hm]
  constructor
  · rintro ⟨e, he | rfl, rfl⟩
    · exact .inr ⟨⟨e, he, rfl⟩, fun q => hw (List.mem_map.2 ⟨e, he, q⟩)⟩
    · exact .inl rfl
  · rintro (rfl | ⟨⟨e, he, rfl⟩, _⟩)
    · exact ⟨_, .inr rfl, rfl⟩
    · exact ⟨e, .inl he, rfl⟩
/-- A new word is there. -/
theorem IxR.insW {H H' : Hp} {a mt mw m : Nat} {v v' : AV} {L : List Tx3} {W : List Ent} {w : LB} {S : List LB} {k : Nat} (h : IxR H a mt mw v L W) (hs : Same (a :: mw :: slId v) H H')
    (hc : H'[a]? = some (.cells 0 [.mp mt, .mp mw, v'])) (hm : AsAt H' mw (wdA (W.take k ++ ⟨w, m, S⟩ :: W.drop k))) (ho : OwnT 1 H' (insL (W.map (·.w)) k w).length ((insL (W.map (·.w)) k w).flatMap txC) v') (hS : AsAt H' m (stA S)) (hlm : H.length ≤ m)
    (hv : slId v' = slId v ∨ ∃ q, slId v' = [q] ∧ H.length ≤ q ∧ q ≠ m) : IxR H' a mt mw v' L (W.take k ++ ⟨w, m, S⟩ :: W.drop k) := by
  have d := apart_iff.1 h.d
  have hlt : ∀ j ∈ fpX a mt mw v W, j < H.length := h.lt
  have hmw : ∀ e ∈ W, e.m < H.length := fun e he => hlt _ (fpX_mem.2 (.inr (.inr (.inr (.inr ⟨e, he, rfl⟩)))))
  have hal : a < H.length := hlt a (fpX_mem.2 (.inl rfl))
  have htl : mt < H.length := hlt mt (fpX_mem.2 (.inr (.inl rfl)))
  have hwl : mw < H.length := hlt mw (fpX_mem.2 (.inr (.inr (.inl rfl))))
  have hvl : ∀ j ∈ slId v, j < H.length := fun j hj => hlt j (fpX_mem.2 (.inr (.inr (.inr (.inl hj)))))
  have hin : ∀ e, e ∈ (W.take k ++ ⟨w, m, S⟩ :: W.drop k) → e ∈ W ∨ e = ⟨w, m, S⟩ := fun e he => by
    simp only [List.mem_append, List.mem_cons] at he
    rcases he with h | h | h
    · exact .inl (List.mem_of_mem_take h)
    · exact .inr h
    · exact .inl (List.mem_of_mem_drop h)
  have hno : ∀ j, j < H.length → j ∉ slId v → j ∉ slId v' := fun j hj hn => by
    rcases hv with hv | ⟨q, hv, hq, _⟩
    · rw [hv]; exact hn
    · rw [hv]; simp; omega
  have hmv : m ∉ slId v' := by
    rcases hv with hv | ⟨q, hv, hq, hne⟩
    · rw [hv]; exact fun hm => by have := hvl m hm; omega
    · rw [hv]; simp; exact fun e => hne e.symm
  refine ⟨hc, h.t.same hs (by simp; exact ⟨fun q => d.amt q.symm, d.tm, d.tv⟩), hm, ?_, fun e he => ?_, apart_iff.2 ?_⟩
  · have : (W.take k ++ (⟨w, m, S⟩ : Ent) :: W.drop k).map (·.w) = insL (W.map (·.w)) k w := by simp [insL]
    rw [this]; exact ho
  · rcases hin e he with he | rfl
    · exact (h.s e he).same hs (by simp; exact ⟨d.aw e he, d.mw' e he, d.vw e he⟩)
    · exact hS
  · refine ⟨d.amt, d.amw, hno a hal d.av, fun e he => ?_, d.tm, hno mt htl d.tv, fun e he => ?_, hno mw hwl d.mv, fun e he => ?_, ?_, fun e he => ?_, ?_⟩
    · rcases hin e he with he | rfl
      · exact d.aw e he
      · show m ≠ a; omega
    · rcases hin e he with he | rfl
      · exact d.tw e he
      · show m ≠ mt; omega
    · rcases hin e he with he | rfl
      · exact d.mw' e he
      · show m ≠ mw; omega
    · rcases hv with hv | ⟨q, hv, _⟩
      · rw [hv]; exact d.vn
      · rw [hv]; simp
    · rcases hin e he with he | rfl
      · exact hno _ (hmw e he) (d.vw e he)
      · exact hmv
    · have h2 := d.ww
      rw [← List.take_append_drop k W, List.map_append, List.nodup_append] at h2
      have hne : ∀ e ∈ W, e.m ≠ m := fun e he => by have := hmw e he; omega
      rw [List.map_append, List.map_cons, List.nodup_append, List.nodup_cons]
      refine ⟨h2.1, ⟨fun hm => ?_, h2.2.1⟩, fun x hx y hy => ?_⟩
      · obtain ⟨e, he, hq⟩ := List.mem_map.1 hm
        exact hne e (List.mem_of_mem_drop he) hq
      · rcases List.mem_cons.1 hy with rfl | hy
        · obtain ⟨e, he, rfl⟩ := List.mem_map.1 hx
          exact hne e (List.mem_of_mem_take he)
        · exact h2.2.2 x hx y hy
end Go.Proofs.YtoakdmkjlpjahaaDoor

namespace Go.Proofs.YtoakdmkjlpjahaaDoor
open Go.Mx
set_option linter.unusedVariables false
set_option linter.unusedSimpArgs false
set_option linter.unnecessarySimpa false
set_option maxRecDepth 100000

def AdInv (H : Hp) (a mt mw : Nat) (fp : List Nat) (L : List Tx3) (R : LB → LB → Prop) (id : LB) (ws : List LB) (cs : List AV) (n : Nat) (xs : List AV) (H2 : Hp) : Prop :=
  ∃ (i : Nat) (v : AV) (W : List Ent), i ≤ ws.length ∧ n = ws.length - i ∧ xs = [.ptr a 0 0, .v (.string (tx id)), .row false ws.length cs, .v (.int .i64 ws.length), .v (.int .i64 i)] ∧
    IxR H2 a mt mw v L W ∧ WOk W (fun w s => R w s ∨ (s = id ∧ w ∈ ws.take i)) ∧ Same fp H H2 ∧ (∀ j ∈ fpX a mt mw v W, j ∈ fp ∨ H.length ≤ j)
set_option maxHeartbeats 2000000 in
theorem add_sp {N a : Nat} {L : List Tx3} {fp : List Nat} (t : Tx3) (H : Hp) (Q : AV → Hp → Prop) (hp : IxAt N H a L fp) (hT : Tb H) (hN : N ≤ 100) (hfew : L.length + 1 ≤ N) (hsm : t.s.length ≤ 900)
    (h : ∀ H' fp', IxAt N H' a (addL L t).2 fp' → Same fp H H' → (∀ j ∈ fp', j ∈ fp ∨ H.length ≤ j) → Q (.v (.int .i64 ((addL L t).1 : Nat))) H') :
    Sp Tryd.prog 15 [.ptr a 0 0, .v (.string (tx t.id)), .v (.int .i64 t.ts), .v (.string (tx t.s))] Q H := by
  have hp0 := hp
  obtain ⟨mt, mw, v, W, h1, h2, h3, rfl⟩ := hp
  refine Sp.body [(9, ⟨[0, 1, 43, 44, 45], [], []⟩)] ⟨[9], [78], []⟩ [] mo Tryd.func15 rfl (Nat.le_of_ble_eq_true rfl) (by kernel_rfl) ?_
  have hc := h1.c
  simp [ev_seq, ev_region2, evOps_nil, evOps_cons, opG_none, opA_move, opA_assign, opA_call, putO_some, putH_lt, opS, opV, Go.Mx.look, fr0, argSlots, seqK, mapO, callA, ok28, mk_tx]
  refine made_sp H _ hc ?_
  by_cases hid : t.id = []
  · have e1 : addL L t = (1, L) := by simp [addL, hid]
    rw [e1] at h
    have := h H _ hp0 (Same.refl _ _) (fun j hj => .inl hj)
    simp [ev_seq, ev_cond2, ev_ret, ev_region2, evOps_nil, evOps_cons, opG_none, opG_some, opJ, opU_ff, isU_bool, opK_eq, opA_move, opA_assign, opA_pick, opA_bin, opA_un, putO_some, putH_lt, putC_lt, condB_true, condB_false, binT_some, binA, avO_some, pickT, unT, strOp, opS, opV, Go.Mx.look, seqK, Fr.known, retK, retA, resA, mapO, unA, orO_some, eqT_some, tk9, tx_list, hid]
    exact this
  · by_cases hin : t.id ∈ L.map (·.id)
    · have e1 : addL L t = (4, L) := by simp [addL, hid, hin]
      rw [e1] at h
      have := h H _ hp0 (Same.refl _ _) (fun j hj => .inl hj)
      obtain ⟨t2, ht2, hti⟩ := List.mem_map.1 hin
      have hlk := h1.t.look (t := 48) Tryd.underlying48 (x := t.id) (v := txV t2) (List.mem_map.2 ⟨t2, ht2, by rw [← hti]⟩) true
      simp [ev_skip, ev_seq, ev_cond2, ev_ret, ev_region2, evOps_nil, evOps_cons, opG_none, opG_some, opJ, opU_ff, isU_bool, opK_eq, opA_move, opA_assign, opA_pick, opA_bin, opA_un, opA_extract, opA_load, opA_fieldAddr, opA_nilCheck, opA_alloc, opA_store, putO_some, putH_lt, putC_lt, putU_none, condB_true, condB_false, CondP_false, binT_some, binA, avO_some, pickT, unT, extractT, loadT, nilCheckT, fieldAddrT, allocT, storeT, strOp, opS, opV, Go.Mx.look, seqK, Fr.known, Fr.newBox, dropBp, retK, retA, resA, mapO, unA, extractA, cellsA_agg, okPart_agg, partA, loadA, loadS, plusS, nilCheckS, newK, storeS, orO_some, eqT_some, lookT_some, opA_lookup, rowT, tk9, sz48, ag48, Tryd.underlying51, sz62, ze62, tx_list, hid, hc, hlk, Go.Mx.valOf, txV, rowT]
      exact this
    · have e1 : addL L t = (0, L ++ [t]) := by simp [addL, hid, hin]
      rw [e1] at h
      have hno : ∀ p ∈ txA L, p.1 ≠ t.id := fun p hp e => hin (by rw [← ids_txA]; exact List.mem_map.2 ⟨p, hp, e⟩)
      have hlk := h1.t.no (t := 48) Tryd.underlying48 (x := t.id) hno true
      simp [ev_skip, ev_seq, ev_cond2, ev_region2, evOps_nil, evOps_cons, opG_none, opG_some, opJ, opU_ff, isU_bool, opK_eq, opA_move, opA_assign, opA_pick, opA_bin, opA_un, opA_extract, opA_load, opA_fieldAddr, opA_nilCheck, opA_call, opA_alloc, opA_store, putO_some, putH_lt, putC_lt, putU_none, condB_false, CondP_false, binT_some, binA, avO_some, pickT, unT, extractT, loadT, nilCheckT, fieldAddrT, allocT, storeT, strOp, opS, opV, Go.Mx.look, seqK, Fr.known, Fr.newBox, dropBp, mapO, unA, callA, extractA, cellsA_agg, okPart_agg, partA, loadA, loadS, plusS, nilCheckS, newK, storeS, orO_some, eqT_some, lookT_some, opA_lookup, tk9, sz48, ag48, Tryd.underlying51, sz62, ze62, ok10, tx_list, hid, hc, hlk, Go.Mx.valOf, zA62]
      have hsl := splL_len t.s
      refine words_sp t.s (by omega) _ hT _ (by omega) ?_
      have hwl := wordsL_len t.s
      obtain ⟨cs, hcs⟩ : ∃ cs, cs = (wordsL t.s).flatMap txC := ⟨_, rfl⟩
      have htxV : txV t = .agg [.v (.int .i64 t.ts), .row false (wordsL t.s).length cs] := by rw [hcs]; rfl
      have hrt : rowT (wordsL t.s) = .row false (wordsL t.s).length cs := by rw [hcs]; rfl
      rw [hrt]
      have lc : cs.length = (wordsL t.s).length := by rw [hcs, flat_len txC_len, Nat.mul_one]
      have hg : ∀ {i : Nat} {w : LB}, (wordsL t.s)[i]? = some w → cs[i]? = some (.v (.string (tx w))) := fun {i w} hw => by
        rw [hcs, flat_st, List.getElem?_map]; simp [stC, hw]
      have hpair : ∀ w s, prL (L ++ [t]) w s ↔ prL L w s ∨ (s = t.id ∧ w ∈ wordsL t.s) := fun w s => by
        unfold prL
        constructor
        · rintro ⟨x, hx, rfl, hw⟩
          rcases List.mem_append.1 hx with hx | hx
          · exact .inl ⟨x, hx, rfl, hw⟩
          · simp at hx; subst hx; exact .inr ⟨rfl, hw⟩
        · rintro (⟨x, hx, rfl, hw⟩ | ⟨rfl, hw⟩)
          · exact ⟨x, by simp [hx], rfl, hw⟩
          · exact ⟨t, by simp, rfl, hw⟩
      have h3' : LOk N (L ++ [t]) := by
        refine ⟨?_, fun x hx => ?_, by simpa using hfew, fun x hx => ?_⟩
        · rw [List.map_append, List.nodup_append]
          exact ⟨h3.ids, by simp, fun x hx y hy => by simp at hy; subst hy; exact fun e => hin (e ▸ hx)⟩
        · rcases List.mem_append.1 hx with hx | hx
          · exact h3.ne x hx
          · simp at hx; subst hx; exact hid
        · rcases List.mem_append.1 hx with hx | hx
          · exact h3.sm x hx
          · simp at hx; subst hx; exact hsm
      have hK : ∀ (i : Nat) (W2 : List Ent), WOk W2 (fun w s => prL L w s ∨ (s = t.id ∧ w ∈ (wordsL t.s).take i)) → W2.length ≤ 100000 := fun i W2 hW2 => by
        have := words_few (N := 0) (M := 0) hW2 ((L ++ [t]).flatMap fun x => wordsL x.s) (fun w s hws => by
          obtain ⟨x, hx, _, hw⟩ := (hpair w s).2 (hws.imp (fun h => h) (fun h => ⟨h.1, List.mem_of_mem_take h.2⟩))
          exact List.mem_flatMap.2 ⟨x, hx, hw⟩)
        have h5 := all_words N (L ++ [t]) h3'.sm
        have h6 := h3'.few
        have : (L ++ [t]).length * 901 ≤ 100 * 901 := Nat.mul_le_mul_right _ (by omega)
        omega
      simp [ev_seq, ev_region2, evOps_nil, evOps_cons, opG_none, opA_move, opA_assign, opA_load, opA_fieldAddr, opA_nilCheck, opA_build, putO_some, putH_lt, putC_lt, loadT, nilCheckT, fieldAddrT, buildZ, partsZ, fillO, aggO, opS, opV, Go.Mx.look, seqK, cellsA_v, cellsA_row, okPart_v, okPart_row, Value.oneCell', partA, loadA, loadS, plusS, nilCheckS, fillA, updT_some, opA_upd, sz48, ag48, Tryd.underlying51, ze62, of62, hc]
      refine h1.t.upd (l' := txA (L ++ [t])) Tryd.underlying48 (fun p => ?_) (fun H2 ht2 hs2 hl2 => ?_)
      · unfold txA
        simp only [List.map_append, List.mem_append, List.map_cons, List.map_nil, List.mem_singleton]
        rw [htxV]
        constructor
        · rintro (hp | hp)
          · exact .inr ⟨hp, hno p hp⟩
          · exact .inl hp
        · rintro (hp | ⟨hp, _⟩)
          · exact .inr hp
          · exact .inl hp
      have d := apart_iff.1 h1.d
      have h1' : IxR H2 a mt mw v (L ++ [t]) W := by
        refine ⟨hs2.2 _ _ hc (by simp; exact d.amt), ht2, h1.m.same hs2 (by simp; exact fun q => d.tm q.symm), h1.o.same hs2 (fun j hj => by simp; exact fun q => d.tv (q ▸ hj)), fun e he => (h1.s e he).same hs2 (by simp; exact d.tw e he), h1.d⟩
      have hsf : Same (fpX a mt mw v W) H H2 := hs2.wide (by simp; exact fpX_mem.2 (.inr (.inl rfl)))
      simp [ev_seq, ev_block, ev_region2, ev_loop, loopK, evOps_nil, evOps_cons, opG_none, opA_move, opA_len, putO_some, putH_lt, putU_none, lenT_row, opS, opV, Go.Mx.look, seqK, mapO, headK, getV, getB, chkP, firstReg, Tryd.underlying23]
      refine LoopC.intro (fun n xs _ H2 => AdInv H a mt mw (fpX a mt mw v W) (L ++ [t]) (prL L) t.id (wordsL t.s) cs n xs H2) (wordsL t.s).length ⟨0, v, W, by omega, by omega, by simp, h1', h2.cong (by simp), hsf, fun j hj => .inl hj⟩ ?_
      have hpair2 : ∀ w s, (prL L w s ∨ (s = t.id ∧ w ∈ (wordsL t.s).take (wordsL t.s).length)) ↔ prL (L ++ [t]) w s := fun w s => by rw [hpair, List.take_length]
      clear h1' hsf hs2 hl2 ht2 H2
      generalize hwsg : wordsL t.s = ws at *
      generalize hfp : fpX a mt mw v W = fp at *
      rintro n xs bs H2 ⟨i, v2, W2, hi, rfl, rfl, g1, g2, g3, g4⟩
      have gc := g1.c
      have hW2 := hK i W2 g2
      have hfpx : fpX a mt mw v2 W2 = fpX a mt mw v2 W2 := rfl
      by_cases hlt : i < ws.length
      · obtain ⟨w, hw⟩ : ∃ w, ws[i]? = some w := ⟨_, List.getElem?_eq_getElem hlt⟩
        have hcs1 := hg hw
        have hcl : i < cs.length := by omega
        have hcs2 : cs[i] = .v (.string (tx w)) := (List.getElem?_eq_some_iff.1 hcs1).2
        have hlt' : (i : Int) < (ws.length : Int) := by omega
        have w1 : IntKind.i64.wrap ((i : Int) + 1) = (i : Int) + 1 := wr_i64 (by omega)
        have htk : ws.take (i + 1) = ws.take i ++ [w] := by
          rw [List.take_add_one]; simp [hw]
        have hRi : ∀ w' s, ((prL L w' s ∨ (s = t.id ∧ w' ∈ ws.take i)) ∨ (w' = w ∧ s = t.id)) ↔ (prL L w' s ∨ (s = t.id ∧ w' ∈ ws.take (i + 1))) := fun w' s => by
          rw [htk, List.mem_append, List.mem_singleton]
          constructor
          · rintro ((h | h) | h)
            · exact .inl h
            · exact .inr ⟨h.1, .inl h.2⟩
            · exact .inr ⟨h.2, .inr h.1⟩
          · rintro (h | ⟨h, h2 | h2⟩)
            · exact .inl (.inl h)
            · exact .inl (.inr ⟨h, h2⟩)
            · exact .inr ⟨h2, h⟩
        by_cases hww : w ∈ W2.map (·.w)
        · obtain ⟨A, e, B, rfl, rfl⟩ := WOk.split hww
          have he : e ∈ A ++ e :: B := by simp
          have hlk := g1.m.look (t := 49) Tryd.underlying49 (x := e.w) (v := .mp e.m) (List.mem_map.2 ⟨e, he, rfl⟩) false
          simp [ev_skip, ev_seq, ev_cond2, ev_block, ev_region2, evOps_nil, evOps_cons, opG_none, opA_move, opA_assign, opA_bin, opA_load, opA_indexAddr, opA_fieldAddr, opA_nilCheck, putO_some, putH_lt, condB_true, condB_false, binT_some, binA, eqRef, avO_some, loadT, nilCheckT, fieldAddrT, indexAddrT, io_lss, opS, opV, Go.Mx.look, seqK, Fr.known, partA, loadA, loadS, plusS, indexAddrA, nilCheckS, mkFr, slotsOf, ptrsOf, boxesOf, orO_some, eqT_some, lookT_some, updT_some, opA_lookup, opA_upd, tk3, sz9, ag9, Tryd.underlying23, sz49, ag49, Tryd.underlying51, tk65, hlt', hcl, hcs2, gc, hlk, Go.Mx.valOf]
          refine (g1.s e he).upd (l' := stA (addS e.S t.id)) Tryd.underlying65 (stA_add e.S t.id) (fun H3 hS3 hs3 hl3 => ?_)
          have g1' := g1.putS hS3 hs3
          have hem : e.m ∈ fp ∨ H.length ≤ e.m := g4 _ (fpX_mem.2 (.inr (.inr (.inr (.inr ⟨e, he, rfl⟩)))))
          simp [ev_region2, evOps_nil, evOps_cons, opG_none, opA_move, opA_bin, putO_some, putH_lt, putU_none, binT_some, binA, avO_some, io_add, opS, opV, Go.Mx.look, seqK, blockK, mapO, headK, getV, getB, chkP, orO_some, eqT_some, tk3, w1]
          refine ⟨ws.length - (i + 1), by omega, i + 1, v2, _, by omega, rfl, by simp, g1', (g2.put t.id).cong hRi, g3.trans hs3 (by simpa using hem), fun j hj => ?_⟩
          exact g4 j (by simpa [fpX] using hj)
        · have hlk := g1.m.no (t := 49) Tryd.underlying49 (x := w) (fun p hp e => hww (by rw [← ids_wdA]; exact List.mem_map.2 ⟨p, hp, e⟩)) false
          have d2 := apart_iff.1 g1.d
          have hlt2 := g1.lt
          have hal : a < H2.length := hlt2 a (fpX_mem.2 (.inl rfl))
          have hmwl : mw < H2.length := hlt2 mw (fpX_mem.2 (.inr (.inr (.inl rfl))))
          have hvl : ∀ j ∈ slId v2, j < H2.length := fun j hj => hlt2 j (fpX_mem.2 (.inr (.inr (.inr (.inl hj)))))
          simp [ev_skip, ev_seq, ev_cond2, ev_block, ev_region2, evOps_nil, evOps_cons, opG_none, opA_move, opA_assign, opA_bin, opA_load, opA_indexAddr, opA_fieldAddr, opA_nilCheck, opA_makeMap, putO_some, putH_lt, condB_true, binT_some, binA, eqRef, avO_some, loadT, nilCheckT, fieldAddrT, indexAddrT, makeMapT, io_lss, opS, opV, Go.Mx.look, seqK, Fr.known, partA, loadA, loadS, plusS, indexAddrA, nilCheckS, mkFr, slotsOf, ptrsOf, boxesOf, orO_some, eqT_some, lookT_some, updT_some, opA_lookup, opA_upd, tk3, sz9, ag9, Tryd.underlying23, sz49, ag49, Tryd.underlying51, tk65, Tryd.underlying65, hlt', hcl, hcs2, gc, hlk, Go.Mx.valOf, zA65]
          have gm : AsAt (H2 ++ [.map [] 0]) mw (wdA W2) := g1.m.same (fp := []) (Same.app _ _ _) (by simp)
          have hml := g2.lt
          obtain ⟨k, hk⟩ : ∃ k, k = posL (W2.map (·.w)) w := ⟨_, rfl⟩
          refine gm.upd (l' := wdA (W2.take k ++ ⟨w, H2.length, [t.id]⟩ :: W2.drop k)) Tryd.underlying49 (wdA_ins W2 k w H2.length [t.id] hww) (fun H4 hm4 hs4 hl4 => ?_)
          have hs24 : Same [mw] H2 H4 := (Same.app [mw] H2 _).trans hs4 (fun j hj => .inl hj)
          have hc4 : H4[a]? = some (.cells 0 [.mp mt, .mp mw, v2]) := hs24.2 _ _ gc (by simp; exact d2.amw)
          have ho4 : OwnT 1 H4 (W2.map (·.w)).length ((W2.map (·.w)).flatMap txC) v2 := g1.o.same hs24 (fun j hj => by simp; exact fun q => d2.mv (q ▸ hj))
          have hnew4 : H4[H2.length]? = some (.map [] 0) := hs4.2 _ _ (by simp) (by simp; omega)
          have hl4' : H4.length = H2.length + 1 := by rw [hl4]; simp
          simp [ev_seq, ev_region2, evOps_nil, evOps_cons, opG_none, opA_move, opA_load, opA_fieldAddr, opA_nilCheck, opA_call, putO_some, putH_lt, putU_none, loadT, nilCheckT, fieldAddrT, opS, opV, Go.Mx.look, seqK, mapO, callA, partA, loadA, loadS, plusS, nilCheckS, sz23, ag23, Tryd.underlying51, ok29, hc4]
          have hle : k ≤ (W2.map (·.w)).length := by rw [hk]; exact posL_le _ _
          refine search_sp v2 (W2.map (·.w)) w k H4 _ ho4 (by simpa using hW2) hle (by rw [hk]; exact posL_lo _ _) (by rw [hk]; exact posL_hi _ _ g2.lt) ?_
          simp [ev_region2, evOps_nil, evOps_cons, opG_none, opA_move, opA_assign, opA_extract, opA_load, opA_fieldAddr, opA_nilCheck, opA_call, opA_buildSlice, putO_some, putH_lt, putC_lt, extractT, loadT, nilCheckT, fieldAddrT, buildSliceT, opS, opV, Go.Mx.look, seqK, mapO, callA, extractA, cellsA_v, okPart_v, Value.oneCell', partA, loadA, loadS, plusS, nilCheckS, fillA, bindO, sz9, ze9, sz23, ag23, Tryd.underlying23, Tryd.underlying51, mk_tx, hc4]
          refine insert_sp v2 (W2.map (·.w)) k w H4.length _ _ (ho4.same (fp := []) (Same.app _ _ _) (by simp)) (by simp) (fun hj => by have := hvl _ hj; omega) hle (by simpa using hW2) (fun v' H6 ho6 hs6 hv6 => ?_)
          have hs46 : Same (slId v2) H4 H6 := (Same.app _ _ _).trans hs6 (fun j hj => .inl hj)
          have hc6 : H6[a]? = some (.cells 0 [.mp mt, .mp mw, v2]) := hs46.2 _ _ hc4 d2.av
          have hl6 := hs6.1
          simp at hl6
          have hv6' : ∀ j ∈ slId v', j < H6.length := ho6.lt
          have hnew6 : H6[H2.length]? = some (.map [] 0) := hs46.2 _ _ hnew4 (fun hj => by have := hvl _ hj; omega)
          have hm6 : AsAt H6 mw (wdA (W2.take k ++ ⟨w, H2.length, [t.id]⟩ :: W2.drop k)) := hm4.same hs46 d2.mv
          have hva : a ∉ slId v' := fun hj => by
            rcases hv6 with hv6 | hv6 <;> rw [hv6] at hj
            · exact d2.av hj
            · simp at hj; omega
          have hvm : mw ∉ slId v' := fun hj => by
            rcases hv6 with hv6 | hv6 <;> rw [hv6] at hj
            · exact d2.mv hj
            · simp at hj; omega
          have hal6 : a < H6.length := by omega
          have hcv : cellsA v' = [v'] ∧ okPart v' = true := by
            rcases ho6 with ⟨_, _, rfl⟩ | ⟨_, _, id, ver, tl, rfl, _⟩ <;> exact ⟨rfl, rfl⟩
          simp [ev_region2, evOps_nil, evOps_cons, opG_none, opA_move, opA_load, opA_fieldAddr, opA_nilCheck, opA_store, putO_some, putH_lt, putC_lt, putU_none, loadT, nilCheckT, fieldAddrT, storeT, opS, opV, Go.Mx.look, seqK, partA, loadA, loadS, plusS, nilCheckS, storeS, sz23, sz49, ag49, Tryd.underlying51, hc6, hcv.1, hcv.2]
          generalize hH7 : H6.set a (.cells 0 [.mp mt, .mp mw, v']) = H7
          have hs67 : Same [a] H6 H7 := by rw [← hH7]; exact Same.set (by simp)
          have hc7 : H7[a]? = some (.cells 0 [.mp mt, .mp mw, v']) := by rw [← hH7]; exact List.getElem?_set_self hal6
          have hm7 := hm6.same hs67 (by simp; exact fun q => d2.amw q.symm)
          have ho7 := ho6.same hs67 (fun j hj => by simp; exact fun q => hva (q ▸ hj))
          have hnew7 : H7[H2.length]? = some (.map [] 0) := hs67.2 _ _ hnew6 (by simp; omega)
          have hlk7 := hm7.look (t := 49) Tryd.underlying49 (x := w) (v := .mp H2.length) ((wdA_ins W2 k w H2.length [t.id] hww _).2 (.inl rfl)) false
          simp [evOps_cons, opG_none, opA_move, putO_some, putH_lt, avO_some, opS, opV, Go.Mx.look, lookT_some, updT_some, opA_lookup, opA_upd, hc7, hlk7, Go.Mx.valOf]
          refine (AsAt.put hnew7).upd (l' := stA [t.id]) Tryd.underlying65 (fun p => by simp [stA]) (fun H8 hS8 hs8 hl8 => ?_)
          have hsA : Same (a :: mw :: slId v2) H2 H8 := by
            refine (((hs24.wide (by simp)).trans hs46 (fun j hj => .inl (by simp [hj]))).trans hs67 (fun j hj => .inl (by simp at hj; simp [hj]))).trans hs8 (fun j hj => .inr (by simp at hj; omega))
          have hvc : slId v' = slId v2 ∨ ∃ q, slId v' = [q] ∧ H2.length ≤ q ∧ q ≠ H2.length := by
            rcases hv6 with hv6 | hv6
            · exact .inl hv6
            · exact .inr ⟨_, hv6, by simp; omega, by simp; omega⟩
          have hIx := g1.insW (k := k) (w := w) (S := [t.id]) (m := H2.length) (v' := v') (H' := H8) hsA (hs8.2 _ _ hc7 (by simp; omega)) (hm7.same hs8 (by simp; omega)) (by
            have hil := insL_len (W2.map (·.w)) k w hle
            rw [hil]
            exact ho7.same hs8 (fun j hj => by
              simp
              intro q
              subst q
              rcases hv6 with hv6 | hv6 <;> rw [hv6] at hj
              · have := hvl _ hj; omega
              · simp at hj; omega)) hS8 (Nat.le_refl _) hvc
          simp [ev_region2, evOps_nil, evOps_cons, opG_none, opA_move, opA_bin, putO_some, putH_lt, putU_none, binT_some, binA, avO_some, io_add, opS, opV, Go.Mx.look, seqK, blockK, mapO, headK, getV, getB, chkP, orO_some, eqT_some, tk3, w1]
          have hlHH := g3.1
          refine ⟨ws.length - (i + 1), by omega, i + 1, v', _, by omega, rfl, by simp, hIx, by rw [hk]; exact (g2.ins w t.id H2.length hww).cong hRi, g3.trans hsA (fun j hj => g4 j (fpX_mem.2 (by
            simp only [List.mem_cons] at hj
            rcases hj with hj | hj | hj
            · exact .inl hj
            · exact .inr (.inr (.inl hj))
            · exact .inr (.inr (.inr (.inl hj)))))), fun j hj => ?_⟩
          rcases fpX_mem.1 hj with hj | hj | hj | hj | ⟨e, he, rfl⟩
          · exact g4 j (fpX_mem.2 (.inl hj))
          · exact g4 j (fpX_mem.2 (.inr (.inl hj)))
          · exact g4 j (fpX_mem.2 (.inr (.inr (.inl hj))))
          · rcases hvc with hvc | ⟨q, hvc, hq, _⟩
            · rw [hvc] at hj; exact g4 j (fpX_mem.2 (.inr (.inr (.inr (.inl hj)))))
            · rw [hvc] at hj; simp at hj; right; omega
          · simp only [List.mem_append, List.mem_cons] at he
            rcases he with he | rfl | he
            · exact g4 _ (fpX_mem.2 (.inr (.inr (.inr (.inr ⟨e, List.mem_of_mem_take he, rfl⟩)))))
            · right; exact hlHH
            · exact g4 _ (fpX_mem.2 (.inr (.inr (.inr (.inr ⟨e, List.mem_of_mem_drop he, rfl⟩)))))
      · have : i = ws.length := by omega
        subst this
        have hlt' : ¬ ((ws.length : Int) < (ws.length : Int)) := by omega
        simp [ev_seq, ev_cond2, ev_exit, ev_ret, ev_region2, evOps_nil, evOps_cons, opG_none, opA_assign, opA_bin, putO_some, putH_lt, condB_false, binT_some, binA, avO_some, io_lss, opS, opV, Go.Mx.look, seqK, blockK, Fr.known, retK, retA, resA, mapO, mkFr, slotsOf, ptrsOf, boxesOf, orO_some, eqT_some, tk3]
        exact h H2 _ ⟨mt, mw, v2, W2, g1, g2.cong hpair2, h3', rfl⟩ g3 g4
end Go.Proofs.YtoakdmkjlpjahaaDoor
