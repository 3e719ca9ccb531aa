import Derived.Test.YtoakdmkjlpjahaaDoorPW
import Derived.Test.YtoakdmkjlpjahaaDoorPU
namespace Go.Proofs.YtoakdmkjlpjahaaDoor
open Go.Mx
set_option linter.unusedVariables false
set_option linter.unusedSimpArgs false
set_option linter.unnecessarySimpa false
set_option maxRecDepth 100000

/-! ### Slices of one's own: nil, none, or an object -/
def OwnS (k : Nat) (H : Hp) (n : Nat) (cs : List AV) (v : AV) : Prop := (n = 0 ∧ cs = [] ∧ (v = .v (.slice none 0 0) ∨ v = .row true 0 [])) ∨ (0 < n ∧ cs.length = n * k ∧ ∃ id ver tl, v = .sl id ver k 0 n ∧ H[id]? = some (.cells ver (cs ++ tl)))
section
variable {k n : Nat} {H H' : Hp} {cs c : List AV} {v : AV}
theorem OwnS.nil (k : Nat) (H : Hp) : OwnS k H 0 [] (.v (.slice none 0 0)) := .inl ⟨rfl, rfl, .inl rfl⟩
theorem OwnS.same {fp : List Nat} (h : OwnS k H n cs v) (hs : Same fp H H') (hf : ∀ j ∈ slId v, j ∉ fp) : OwnS k H' n cs v := by
  rcases h with h | ⟨h0, h1, id, ver, tl, rfl, h3⟩
  · exact .inl h
  · exact .inr ⟨h0, h1, id, ver, tl, rfl, hs.2 _ _ h3 (hf id (by simp [slId]))⟩
theorem OwnS.lt (h : OwnS k H n cs v) : ∀ j ∈ slId v, j < H.length := by
  rcases h with ⟨_, _, rfl | rfl⟩ | ⟨h0, h1, id, ver, tl, rfl, h3⟩
  · simp [slId]
  · simp [slId]
  · simpa [slId] using Hp.lt h3
theorem OwnS.lenT (h : OwnS k H n cs v) (H' : Hp) (e : TypeId) : lenT H' (some (.slice e)) (some v) = some (.av (.v (.int .i64 n))) := by
  rcases h with ⟨rfl, _, rfl | rfl⟩ | ⟨h0, h1, id, ver, tl, rfl, h3⟩ <;> rfl
theorem OwnS.cells' (h : OwnS k H n cs v) : cellsA v = [v] ∧ okPart v = true := by
  rcases h with ⟨rfl, _, rfl | rfl⟩ | ⟨h0, h1, id, ver, tl, rfl, h3⟩ <;> exact ⟨rfl, rfl⟩
theorem OwnS.app {x : Bool} {bytes : Nat} {K : AV → Hp → Prop} (h : OwnS k H n cs v) (hc : c.length = k) (hb : (n + 1) * bytes ≤ 140737488355328 ∧ n + 1 ≤ 4611686018427387904)
    (hq : ∀ v' H', OwnS k H' (n + 1) (cs ++ c) v' → Same (slId v) H H' → (slId v' = slId v ∨ slId v' = [H.length]) → K v' H') : appA H k bytes v (.row x 1 c) K := by
  rcases h with ⟨rfl, rfl, rfl | rfl⟩ | ⟨h0, h1, id, ver, tl, rfl, h3⟩
  · have h1 := hq (.sl H.length 0 k 0 1) (H ++ [.cells 0 c]) (.inr ⟨by simp, by simp [hc], H.length, 0, [], by simp, by simp⟩) (Same.app _ _ _) (.inr rfl)
    simp at hb
    simp [appA, srcA, hb, hc]
    exact h1
  · have h1 := hq (.sl H.length 0 k 0 1) (H ++ [.cells 0 c]) (.inr ⟨by simp, by simp [hc], H.length, 0, [], by simp, by simp⟩) (Same.app _ _ _) (.inr rfl)
    simp at hb
    simp [appA, srcA, hb, hc]
    exact h1
  · have h5 := hq (.sl id (ver + 1) k 0 (n + 1)) (H.set id (.cells (ver + 1) (cs ++ c))) (.inr ⟨by omega, by rw [List.length_append, h1, hc, Nat.succ_mul], id, ver + 1, [], by simp, by rw [List.getElem?_set_self (Hp.lt h3)]; simp⟩) (Same.set (by simp [slId])) (.inl rfl)
    simp [appA, srcA, h3, hc]
    refine ⟨⟨by omega, hb.1, by omega⟩, ?_⟩
    have e : (cs ++ tl).take (n * k) = cs := by rw [← h1]; simp
    rw [e]; exact h5
theorem OwnS.appM {m : Nat} {x : Bool} {bytes : Nat} {K : AV → Hp → Prop} (h : OwnS k H n cs v) (hc : c.length = m * k) (hb : (n + m) * bytes ≤ 140737488355328 ∧ n + m ≤ 4611686018427387904)
    (hq : ∀ v' H', OwnS k H' (n + m) (cs ++ c) v' → Same (slId v) H H' → (slId v' = slId v ∨ slId v' = [H.length]) → K v' H') : appA H k bytes v (.row x m c) K := by
  by_cases hm : m = 0
  · subst hm
    have hc0 : c = [] := by simpa using hc
    subst hc0
    rcases h with ⟨rfl, rfl, rfl | rfl⟩ | ⟨h0, h1, id, ver, tl, rfl, h3⟩
    · have := hq _ H (.inl ⟨rfl, rfl, .inl rfl⟩) (Same.refl _ _) (.inl rfl)
      simp [appA, srcA]; exact this
    · have := hq _ H (.inl ⟨rfl, rfl, .inr rfl⟩) (Same.refl _ _) (.inl rfl)
      simp [appA, srcA]; exact this
    · have h5 := hq (.sl id (ver + 1) k 0 n) (H.set id (.cells (ver + 1) cs)) (.inr ⟨h0, by simpa using h1, id, ver + 1, [], by simp, by rw [List.getElem?_set_self (Hp.lt h3)]; simp⟩) (Same.set (by simp [slId])) (.inl rfl)
      simp [appA, srcA, h3]
      refine ⟨⟨by omega, hb.1, hb.2⟩, ?_⟩
      have e : (cs ++ tl).take (n * k) = cs := by rw [← h1]; simp
      rw [e]; exact h5
  · rcases h with ⟨rfl, rfl, rfl | rfl⟩ | ⟨h0, h1, id, ver, tl, rfl, h3⟩
    · have h1 := hq (.sl H.length 0 k 0 m) (H ++ [.cells 0 c]) (.inr ⟨by omega, by simp [hc], H.length, 0, [], by simp, by simp⟩) (Same.app _ _ _) (.inr rfl)
      simp at hb
      simp [appA, srcA, hb, hc, hm]
      exact h1
    · have h1 := hq (.sl H.length 0 k 0 m) (H ++ [.cells 0 c]) (.inr ⟨by omega, by simp [hc], H.length, 0, [], by simp, by simp⟩) (Same.app _ _ _) (.inr rfl)
      simp at hb
      simp [appA, srcA, hb, hc, hm]
      exact h1
    · have h5 := hq (.sl id (ver + 1) k 0 (n + m)) (H.set id (.cells (ver + 1) (cs ++ c))) (.inr ⟨by omega, by rw [List.length_append, h1, hc, Nat.add_mul], id, ver + 1, [], by simp, by rw [List.getElem?_set_self (Hp.lt h3)]; simp⟩) (Same.set (by simp [slId])) (.inl rfl)
      simp [appA, srcA, h3, hc]
      refine ⟨⟨by omega, hb.1, by omega⟩, ?_⟩
      have e : (cs ++ tl).take (n * k) = cs := by rw [← h1]; simp
      rw [e]; exact h5
end
theorem appA_src {H : Hp} {k b m : Nat} {v s : AV} {c : List AV} {K : AV → Hp → Prop} (h : srcA H k s = some (m, c)) (hc : c.length = m * k) (q : appA H k b v (.row true m c) K) : appA H k b v s K := by
  unfold appA at q ⊢
  have e : srcA H k (.row true m c) = some (m, c) := by simp [srcA, hc]
  rw [h]; rw [e] at q
  exact q
theorem slice_hi {k id ver n a : Nat} (hk : 0 < k) (hn : 0 < n) (ha : a ≤ n) : sliceSl k id ver k 0 n 0 (a : Int) = some (.sl id ver k 0 a) := by
  unfold sliceSl
  rw [if_pos rfl, if_pos (by omega), if_pos (by omega)]
  simp
theorem slice_lo {k id ver n a : Nat} (ha : a ≤ n) (m : Int) (hm : m = n) : ∃ v, sliceSl k id ver k 0 n (a : Int) m = some v ∧ ((∃ off m, v = .sl id ver k off m) ∨ v = .row false 0 []) ∧ ∀ (H : Hp) (cs : List AV), H[id]? = some (.cells ver cs) → n * k ≤ cs.length → srcA H k v = some (n - a, (cs.drop (a * k)).take ((n - a) * k)) := by
  subst hm
  by_cases hlt : a < n
  · refine ⟨.sl id ver k (0 + (a : Int).toNat * k) ((n : Int) - (a : Int)).toNat, ?_, .inl ⟨_, _, rfl⟩, fun H cs hid hl => ?_⟩
    · unfold sliceSl
      rw [if_pos rfl, if_pos (by omega), if_pos (by omega)]
    · have e : ((n : Int) - (a : Int)).toNat = n - a := by omega
      rw [e]
      have e2 : a * k + (n - a) * k = n * k := by rw [← Nat.add_mul]; congr 1; omega
      simp [srcA, hid]
      omega
  · refine ⟨.row false 0 [], ?_, .inr rfl, fun H cs hid hl => ?_⟩
    · unfold sliceSl
      rw [if_pos rfl, if_pos (by omega), if_neg (by omega)]
    · have e : n - a = 0 := by omega
      rw [e]
      simp [srcA]

/-! ### fits, has -/
theorem fitsW_iff (x : W2) (o : LB) : fitsW x o = (decide (x.1 = o) || (x.2 && (decide (x.1.length < o.length) && decide (o.take x.1.length = x.1)))) := by
  unfold fitsW
  have e1 : decide (o = x.1) = decide (x.1 = o) := by apply decide_eq_decide.2; exact ⟨fun h => h.symm, fun h => h.symm⟩
  rw [e1]
  by_cases h : x.1 = o
  · simp [h]
  · have : x.1.isPrefixOf o = (decide (x.1.length < o.length) && decide (o.take x.1.length = x.1)) := by
      rw [Bool.eq_iff_iff]
      simp only [List.isPrefixOf_iff_prefix, Bool.and_eq_true, decide_eq_true_eq]
      constructor
      · intro hp
        have hp2 := hp
        obtain ⟨t, rfl⟩ := hp
        refine ⟨?_, by simp⟩
        cases t with
        | nil => simp at h
        | cons a t => simp
      · rintro ⟨_, h2⟩
        rw [← h2]; exact List.take_prefix _ _
    rw [this]
theorem fits_sp (x : W2) (o : LB) (H : Hp) (Q : AV → Hp → Prop) (h : Q (.v (.bool (fitsW x o))) H) : Sp Tryd.prog 59 [.agg (wdC x), .v (.string (tx o))] Q H := by
  refine Sp.body [] ⟨[2], [], pl59⟩ tb59 mo Tryd.func59 rfl (Nat.le_of_ble_eq_true rfl) (by kernel_rfl) ?_
  rw [fitsW_iff] at h
  have hs1 : (tx x.1).size = x.1.length := tx_size _
  have hs2 : (tx o).size = o.length := tx_size _
  have hb : ((tx x.1).toList == (tx o).toList) = decide (x.1 = o) := tx_eq _ _
  by_cases h1 : x.1 = o
  · rw [decide_eq_true h1] at h hb
    simp at h
    simp [ev_seq, ev_ret, ev_region2, evOps_nil, evOps_cons, opG_none, opG_some, opJ, opU_true, opU_ff, isU_undef, isU_bool, opA_move, opA_assign, opA_pick, opA_bin, opA_load, opA_fieldAddr, opA_box, putO_some, putH_lt, putV_lt, condB_true, binT_some, binA, avO_some, pickT, loadT, fieldAddrT, boxT, strOp, opS, opV, Go.Mx.look, fr0, argSlots, seqK, Fr.known, Fr.newBox, dropBp, retK, retA, resA, mapO, cellsA_agg, okPart_agg, partA, loadS, plusS, newK, orO_some, eqT_some, ev_draw, drawK, evP_nil, evP_q, evP_s, opAt_some, chkK_eq, allQ_nil, sz9, ag9, tk9, Tryd.underlying60, pl59, wdC, hb]
    exact h
  · rw [decide_eq_false h1] at h hb
    cases h2 : x.2 with
    | false =>
      simp [h2] at h
      simp [ev_seq, ev_ret, ev_region2, evOps_nil, evOps_cons, opG_none, opG_some, opJ, opU_ft, opU_ff, isU_bool, opK_eq, opA_move, opA_assign, opA_pick, opA_bin, opA_load, opA_fieldAddr, opA_box, putO_some, putH_lt, putV_lt, condB_false, binT_some, binA, avO_some, pickT, loadT, fieldAddrT, boxT, strOp, opS, opV, Go.Mx.look, fr0, argSlots, seqK, Fr.known, Fr.newBox, dropBp, retK, retA, resA, mapO, cellsA_agg, okPart_agg, partA, loadS, plusS, newK, orO_some, eqT_some, ev_draw, drawK, evP_nil, evP_q, evP_s, opAt_some, chkK_eq, allQ_nil, sz4, ag4, sz9, ag9, tk9, Tryd.underlying60, pl59, wdC, hb, h2]
      exact h
    | true =>
      by_cases h3 : x.1.length < o.length
      · have h3' : (x.1.length : Int) < (o.length : Int) := by omega
        have hsl := sliceStr_tx o 0 (x.1.length : Int) ⟨by omega, by omega, by omega⟩
        simp at hsl
        have hb2 : ((tx (o.take x.1.length)).toList == (tx x.1).toList) = decide (o.take x.1.length = x.1) := tx_eq _ _
        simp [h2, h3] at h
        simp [ev_seq, ev_ret, ev_region2, evOps_nil, evOps_cons, opG_none, opG_some, opJ, opU_ft, opU_ff, isU_bool, opK_eq, opA_move, opA_assign, opA_pick, opA_bin, opA_load, opA_fieldAddr, opA_len, opA_box, opA_slice, putO_some, putH_lt, condB_true, condB_false, binT_some, binA, avO_some, pickT, loadT, lenT_str, fieldAddrT, boxT, bndT, sliceT, io_gtr, strOp, opS, opV, Go.Mx.look, fr0, argSlots, seqK, Fr.known, Fr.newBox, dropBp, retK, retA, resA, mapO, cellsA_agg, okPart_agg, partA, loadS, plusS, sliceA, newK, orO_some, eqT_some, ev_draw, drawK, evP_nil, evP_q, evP_s, opAt_some, chkK_eq, allQ_nil, tk3, sz4, ag4, sz9, ag9, tk9, Tryd.underlying9, Tryd.underlying60, pl59, wdC, hb, h2, h3', hs1, hs2, hsl, hb2]
        exact h
      · have h3' : ¬ (x.1.length : Int) < (o.length : Int) := by omega
        simp [h2, h3] at h
        simp [ev_seq, ev_ret, ev_region2, evOps_nil, evOps_cons, opG_none, opG_some, opJ, opU_ft, opU_ff, isU_bool, opK_eq, opA_move, opA_assign, opA_pick, opA_bin, opA_load, opA_fieldAddr, opA_len, opA_box, putO_some, putH_lt, putV_lt, condB_true, condB_false, binT_some, binA, avO_some, pickT, loadT, lenT_str, fieldAddrT, boxT, io_gtr, strOp, opS, opV, Go.Mx.look, fr0, argSlots, seqK, Fr.known, Fr.newBox, dropBp, retK, retA, resA, mapO, cellsA_agg, okPart_agg, partA, loadS, plusS, newK, orO_some, eqT_some, ev_draw, drawK, evP_nil, evP_q, evP_s, opAt_some, chkK_eq, allQ_nil, tk3, sz4, ag4, sz9, ag9, tk9, Tryd.underlying9, Tryd.underlying60, pl59, wdC, hb, h2, h3', hs1, hs2]
        exact h
def HasInv (x : W2) (L : List LB) (cl : List AV) (H : Hp) (n : Nat) (xs : List AV) (bs : List (List AV)) (H2 : Hp) : Prop :=
  ∃ i : Nat, i ≤ L.length ∧ n = L.length - i ∧ xs = [.row false L.length cl, .v (.int .i64 (i : Int))] ∧ bs = [wdC x] ∧ (L.take i).any (fitsW x) = false ∧ H2 = H
theorem has_sp (s : LB) (x : W2) (hs : s.length ≤ 1000) (H : Hp) (Q : AV → Hp → Prop) (h : Q (.v (.bool (hasW s x))) H) : Sp Tryd.prog 40 [.v (.string (tx s)), .agg (wdC x)] Q H := by
  refine Sp.body [(3, ⟨[5, 6], [(3, 3, 0)], [3]⟩)] ⟨[3], [], pl40⟩ tb40 mo Tryd.func40 rfl (Nat.le_of_ble_eq_true rfl) (by kernel_rfl) ?_
  have hwl := wordsL_len s
  simp [ev_seq, ev_region2, evOps_nil, evOps_cons, opG_none, opA_move, opA_assign, opA_call, opA_box, putO_some, putH_lt, boxT, opS, opV, Go.Mx.look, fr0, argSlots, seqK, Fr.newBox, dropBp, mapO, callA, cellsA_agg, okPart_agg, newK, ok11, pl40, wdC]
  refine wordsR_sp s hs _ _ ?_
  unfold hasW at h
  simp only [rowT]
  generalize wordsL s = L at *
  have gL := fun {i : Nat} {w : LB} (h : L[i]? = some w) => row_get L h
  generalize L.flatMap txC = cl at gL ⊢
  simp [ev_seq, ev_block, ev_region2, ev_loop, loopK, evOps_nil, evOps_cons, opG_none, opA_assign, putO_some, putH_lt, putC_lt, opS, opV, Go.Mx.look, seqK, mapO, headK, getV, getB, chkP, firstReg]
  refine LoopC.intro (fun n xs bs H2 => HasInv x L cl H n xs bs H2) L.length ⟨0, by omega, by omega, by simp, rfl, by simp, rfl⟩ ?_
  rintro n xs bs H2 ⟨i, hi, rfl, rfl, rfl, hno, rfl⟩
  by_cases hlt : i < L.length
  · obtain ⟨w, hw⟩ : ∃ w, L[i]? = some w := ⟨_, List.getElem?_eq_getElem hlt⟩
    have hlt' : (i : Int) < (L.length : Int) := by omega
    have w1 : IntKind.i64.wrap ((i : Int) + 1) = (i : Int) + 1 := wr_i64 (by omega)
    obtain ⟨a2, a4⟩ := gL hw
    have a3 : cl[i] = .v (.string (tx w)) := (List.getElem?_eq_some_iff.1 a4).2
    have hfit := fits_sp x w
    simp only [wdC] at hfit
    simp [ev_skip, ev_seq, ev_cond2, ev_block, ev_region2, evOps_nil, evOps_cons, opG_none, opA_move, opA_bin, opA_load, opA_indexAddr, opA_len, opA_call, putO_some, putH_lt, condB_true, binT_some, binA, avO_some, loadT, lenT_row, indexAddrT, io_lss, opS, opV, Go.Mx.look, seqK, Fr.known, mapO, callA, partA, loadA, loadS, indexAddrA, mkFr, slotsOf, ptrsOf, boxesOf, orO_some, eqT_some, ev_draw, drawK, evP_q, evP_s, opAt_some, tk3, sz9, ag9, Tryd.underlying23, sz60, ag60, ok59, hlt', a2, a3, wdC]
    refine hfit _ _ ?_
    cases hf : fitsW x w with
    | true =>
      have : L.any (fitsW x) = true := List.any_eq_true.2 ⟨w, List.mem_of_getElem? hw, hf⟩
      rw [this] at h
      simp [ev_seq, ev_cond2, ev_ret, ev_region2, evOps_nil, evOps_cons, opG_none, opA_assign, putO_some, putH_lt, putC_lt, condB_true, opS, opV, Go.Mx.look, seqK, blockK, Fr.known, retK, retA, resA, mapO, evP_nil, chkK_eq, allQ_nil]
      exact h
    | false =>
      simp [ev_skip, ev_cond2, ev_region2, evOps_nil, evOps_cons, opG_none, opA_move, opA_assign, opA_bin, putO_some, putH_lt, putC_lt, condB_false, binT_some, binA, avO_some, io_add, opS, opV, Go.Mx.look, seqK, blockK, Fr.known, mapO, headK, getV, getB, chkP, orO_some, eqT_some, evP_nil, chkK_eq, allQ_nil, tk3, w1]
      exact ⟨L.length - (i + 1), by omega, i + 1, by omega, rfl, by simp, rfl, by rw [List.take_add_one, hw, List.any_append, hno]; simp [hf], rfl⟩
  · have hii : i = L.length := by omega
    subst hii
    have hlt' : ¬ ((L.length : Int) < (L.length : Int)) := by omega
    rw [List.take_length] at hno
    rw [hno] at h
    simp [ev_seq, ev_cond2, ev_exit, ev_ret, ev_region2, evOps_nil, evOps_cons, opG_none, opA_move, opA_assign, opA_bin, opA_len, putO_some, putH_lt, condB_false, binT_some, binA, avO_some, lenT_row, io_lss, opS, opV, Go.Mx.look, seqK, blockK, Fr.known, retK, retA, resA, mapO, mkFr, slotsOf, ptrsOf, boxesOf, orO_some, eqT_some, tk3, Tryd.underlying23]
    exact h
/-! ### The document's index -/
def t3C (t : Tx3) : List AV := [.v (.string (tx t.id)), .v (.int .i64 t.ts), .v (.string (tx t.s))]
theorem t3C_len (t : Tx3) : (t3C t).length = 3 := rfl
structure RfR (H : Hp) (b : Nat) (v : AV) (L : List Tx3) : Prop where
  c : H[b]? = some (.cells 0 [v])
  o : OwnS 3 H L.length (L.flatMap t3C) v
  d : b ∉ slId v
def RfAt (H : Hp) (b : Nat) (L : List Tx3) (fp : List Nat) : Prop := ∃ v, RfR H b v L ∧ fp = b :: slId v
theorem RfR.same {H H' : Hp} {b : Nat} {v : AV} {L : List Tx3} {fp : List Nat} (h : RfR H b v L) (hs : Same fp H H') (hf : ∀ j, j = b ∨ j ∈ slId v → j ∉ fp) : RfR H' b v L :=
  ⟨hs.2 _ _ h.c (hf _ (.inl rfl)), h.o.same hs (fun j hj => hf j (.inr hj)), h.d⟩
theorem RfAt.same {H H' : Hp} {b : Nat} {L : List Tx3} {fp fp' : List Nat} (h : RfAt H b L fp) (hs : Same fp' H H') (hf : ∀ j ∈ fp, j ∉ fp') : RfAt H' b L fp := by
  obtain ⟨v, h1, rfl⟩ := h
  exact ⟨v, h1.same hs (fun j hj => hf j (by simpa using hj)), rfl⟩
theorem RfAt.lt {H : Hp} {b : Nat} {L : List Tx3} {fp : List Nat} (h : RfAt H b L fp) : ∀ j ∈ fp, j < H.length := by
  obtain ⟨v, h1, rfl⟩ := h
  intro j hj
  rcases List.mem_cons.1 hj with rfl | hj
  · exact Hp.lt h1.c
  · exact h1.o.lt j hj
theorem RfAt.tab {H : Hp} {b : Nat} {L : List Tx3} {fp : List Nat} (h : RfAt H b L fp) {j g : Nat} {us : List Value} (hj : H[j]? = some (.tab g us)) : j ∉ fp := by
  obtain ⟨v, h1, rfl⟩ := h
  intro hm
  rcases List.mem_cons.1 hm with rfl | hm
  · rw [h1.c] at hj; simp at hj
  · rcases h1.o with ⟨_, _, rfl | rfl⟩ | ⟨_, _, id, ver, tl, rfl, h3⟩
    · simp [slId] at hm
    · simp [slId] at hm
    · simp [slId] at hm; subst hm; rw [h3] at hj; simp at hj
theorem RfAt.tb {H H' : Hp} {b : Nat} {L : List Tx3} {fp : List Nat} (h : RfAt H b L fp) (hT : Tb H) (hs : Same fp H H') : Tb H' := hT.keep hs (h.tab hT.1) (h.tab hT.2)
/-- Where a text lies. -/
theorem RfR.at_ {H : Hp} {b : Nat} {v : AV} {L : List Tx3} (h : RfR H b v L) {i : Nat} {t : Tx3} (ht : L[i]? = some t) : ∃ id ver cs, v = .sl id ver 3 0 L.length ∧ H[id]? = some (.cells ver cs) ∧ cs[i * 3]? = some (.v (.string (tx t.id))) ∧ cs[i * 3 + 1]? = some (.v (.int .i64 t.ts)) ∧ cs[i * 3 + 2]? = some (.v (.string (tx t.s))) := by
  have hlt := (List.getElem?_eq_some_iff.1 ht).1
  rcases h.o with ⟨h0, _⟩ | ⟨_, h1, id, ver, tl, rfl, h3⟩
  · omega
  · have g := fun j hj => flat_get t3C_len ht j hj
    have hle := flat_le t3C_len ht
    have ap : ∀ j, j < 3 → (L.flatMap t3C ++ tl)[i * 3 + j]? = (t3C t)[j]? := fun j hj => by
      rw [List.getElem?_append_left (by omega)]; exact g j hj
    exact ⟨id, ver, _, rfl, h3, by simpa [t3C] using ap 0 (by omega), by simpa [t3C] using ap 1 (by omega), by simpa [t3C] using ap 2 (by omega)⟩
def FdInv (L : List Tx3) (b : Nat) (id : LB) (H : Hp) (n : Nat) (xs : List AV) (H2 : Hp) : Prop :=
  ∃ i : Nat, i ≤ L.length ∧ n = L.length - i ∧ xs = [.ptr b 0 0, .v (.string (tx id)), .v (.int .i64 (i : Int))] ∧ H2 = H ∧ ∀ t ∈ L.take i, t.id ≠ id
theorem findR_sp {b : Nat} {v : AV} {L : List Tx3} (id : LB) (H : Hp) (Q : AV → Hp → Prop) (hp : RfR H b v L) (hl : L.length ≤ 100000)
    (h0 : id ∉ L.map (·.id) → Q (.v (.int .i64 (-1))) H) (h1 : ∀ A t B, L = A ++ t :: B → t.id = id → Q (.v (.int .i64 (A.length : Nat))) H) : Sp Tryd.prog 38 [.ptr b 0 0, .v (.string (tx id))] Q H := by
  refine Sp.body [(2, ⟨[0, 1, 5], [], []⟩)] ⟨[], [], []⟩ [] mo Tryd.func38 rfl (Nat.le_of_ble_eq_true rfl) (by kernel_rfl) ?_
  have hc := hp.c
  have hln := hp.o.lenT
  simp [ev_seq, ev_block, ev_region2, ev_loop, loopK, evOps_nil, evOps_cons, opG_none, opA_assign, putO_some, putH_lt, opS, opV, Go.Mx.look, fr0, argSlots, seqK, mapO, headK, getV, getB, chkP, firstReg]
  refine LoopC.intro (fun n xs _ H2 => FdInv L b id H n xs H2) L.length ⟨0, by omega, by omega, by simp, rfl, by simp⟩ ?_
  rintro n xs bs H2 ⟨i, hi, rfl, rfl, rfl, hno⟩
  by_cases hlt : i < L.length
  · obtain ⟨t, ht⟩ : ∃ t, L[i]? = some t := ⟨_, List.getElem?_eq_getElem hlt⟩
    obtain ⟨idv, ver, cs, rfl, hid, g0, g1, g2⟩ := hp.at_ ht
    have hlt' : (i : Int) < (L.length : Int) := by omega
    have w1 : IntKind.i64.wrap ((i : Int) + 1) = (i : Int) + 1 := wr_i64 (by omega)
    have hsp : L = L.take i ++ t :: L.drop (i + 1) := by
      conv => lhs; rw [← List.take_append_drop i L]
      rw [List.drop_eq_getElem_cons hlt]
      rw [List.getElem?_eq_getElem hlt] at ht; simp at ht; rw [ht]
    have htl : ((tx t.id).toList = (tx id).toList) = (t.id = id) := by rw [tx_list, tx_list]
    have hA : (L.take i).length = i := by rw [List.length_take]; omega
    by_cases he : t.id = id
    · have := h1 _ _ _ hsp he
      rw [hA] at this
      simp [ev_skip, ev_seq, ev_cond2, ev_block, ev_ret, ev_region2, evOps_nil, evOps_cons, opG_none, opA_move, opA_assign, opA_bin, opA_load, opA_indexAddr, opA_fieldAddr, opA_nilCheck, opA_len, putO_some, putH_lt, condB_true, binT_some, binA, avO_some, loadT, nilCheckT, fieldAddrT, indexAddrT, io_lss, strOp, opS, opV, Go.Mx.look, seqK, blockK, Fr.known, retK, retA, resA, mapO, partA, loadA, loadS, plusS, indexAddrA, nilCheckS, mkFr, slotsOf, ptrsOf, boxesOf, orO_some, eqT_some, tk3, sz9, ag9, tk9, sz43, ag43, Tryd.underlying43, Tryd.underlying45, sz76, Tryd.underlying76, hc, hln, hlt', hid, g0, he]
      exact this
    · simp [ev_skip, ev_seq, ev_cond2, ev_block, ev_region2, evOps_nil, evOps_cons, opG_none, opA_move, opA_assign, opA_bin, opA_load, opA_indexAddr, opA_fieldAddr, opA_nilCheck, opA_len, putO_some, putH_lt, condB_true, CondP_false, binT_some, binA, avO_some, loadT, nilCheckT, fieldAddrT, indexAddrT, io_add, io_lss, strOp, opS, opV, Go.Mx.look, seqK, blockK, Fr.known, mapO, partA, loadA, loadS, plusS, indexAddrA, nilCheckS, headK, getV, getB, chkP, mkFr, slotsOf, ptrsOf, boxesOf, orO_some, eqT_some, tk3, sz9, ag9, tk9, sz43, ag43, Tryd.underlying43, Tryd.underlying45, sz76, Tryd.underlying76, hc, hln, hlt', hid, g0, htl, he, w1]
      exact ⟨L.length - (i + 1), by omega, i + 1, by omega, rfl, by simp, rfl, fun x hx => by
        rw [List.take_add_one, ht] at hx
        rcases List.mem_append.1 hx with hx | hx
        · exact hno x hx
        · simp at hx; subst hx; exact he⟩
  · have hii : i = L.length := by omega
    subst hii
    have hlt' : ¬ ((L.length : Int) < (L.length : Int)) := by omega
    rw [List.take_length] at hno
    simp [ev_seq, ev_cond2, ev_exit, ev_ret, ev_region2, evOps_nil, evOps_cons, opG_none, opA_move, opA_assign, opA_bin, opA_load, opA_fieldAddr, opA_nilCheck, opA_len, putO_some, putH_lt, condB_false, binT_some, binA, avO_some, loadT, nilCheckT, fieldAddrT, io_lss, opS, opV, Go.Mx.look, seqK, blockK, Fr.known, retK, retA, resA, mapO, partA, loadA, loadS, plusS, nilCheckS, mkFr, slotsOf, ptrsOf, boxesOf, orO_some, eqT_some, tk3, sz43, ag43, Tryd.underlying43, Tryd.underlying45, hc, hln]
    exact h0 (fun hm => by
      obtain ⟨t, ht, e⟩ := List.mem_map.1 hm
      exact hno t ht e)
end Go.Proofs.YtoakdmkjlpjahaaDoor

namespace Go.Proofs.YtoakdmkjlpjahaaDoor
open Go.Mx
set_option linter.unusedVariables false
set_option linter.unusedSimpArgs false
set_option linter.unnecessarySimpa false
set_option maxRecDepth 100000

/-- The row of texts is another one. -/
theorem RfR.put {H H1 : Hp} {b : Nat} {v v' : AV} {L L' : List Tx3} (h : RfR H b v L) (ho : OwnS 3 H1 L'.length (L'.flatMap t3C) v') (hs : Same (slId v) H H1) (hi : slId v' = slId v ∨ ∀ j ∈ slId v', H.length ≤ j) :
    RfAt (H1.set b (.cells 0 [v'])) b L' (b :: slId v') ∧ Same (b :: slId v) H (H1.set b (.cells 0 [v'])) ∧ (∀ j ∈ b :: slId v', j ∈ b :: slId v ∨ H.length ≤ j) := by
  have hb := Hp.lt h.c
  have hb1 : b < H1.length := Nat.lt_of_lt_of_le hb hs.1
  have hd : b ∉ slId v' := by
    rcases hi with e | e
    · rw [e]; exact h.d
    · exact fun hm => by have := e b hm; omega
  refine ⟨⟨v', ⟨by rw [List.getElem?_set_self hb1], ho.same (Same.set (fp := [b]) (by simp)) (fun j hj => by simp; rintro rfl; exact hd hj), hd⟩, rfl⟩, ?_, fun j hj => ?_⟩
  · exact (hs.wide (fun j hj => List.mem_cons_of_mem _ hj)).trans (Same.set (fp := b :: slId v) (by simp)) (fun j hj => .inl hj)
  · rcases List.mem_cons.1 hj with rfl | hj
    · exact .inl (by simp)
    · rcases hi with e | e
      · rw [e] at hj; exact .inl (by simp [hj])
      · exact .inr (e j hj)
theorem radd_sp {b : Nat} {L : List Tx3} {fp : List Nat} (t : Tx3) (H : Hp) (Q : AV → Hp → Prop) (hp : RfAt H b L fp) (hl : L.length + 1 ≤ 1000)
    (h : ∀ H' fp', RfAt H' b (addL L t).2 fp' → Same fp H H' → (∀ j ∈ fp', j ∈ fp ∨ H.length ≤ j) → Q (.v (.int .i64 ((addL L t).1 : Nat))) H') :
    Sp Tryd.prog 21 [.ptr b 0 0, .v (.string (tx t.id)), .v (.int .i64 t.ts), .v (.string (tx t.s))] Q H := by
  have hp0 := hp
  obtain ⟨v, hr, rfl⟩ := hp
  have hc := hr.c
  refine Sp.body [] ⟨[], [], []⟩ [] mo Tryd.func21 rfl (Nat.le_of_ble_eq_true rfl) (by kernel_rfl) ?_
  by_cases h0 : t.id = []
  · have e : addL L t = (1, L) := by unfold addL; rw [if_pos h0]
    rw [e] at h
    have h0' : ((tx t.id).toList = ([] : LB)) = True := by rw [tx_list]; simp [h0]
    simp [ev_seq, ev_cond2, ev_ret, ev_region2, evOps_nil, evOps_cons, opG_none, opA_move, opA_assign, opA_bin, putO_some, putH_lt, CondP_true, binT_some, binA, avO_some, strOp, opS, opV, Go.Mx.look, fr0, argSlots, seqK, Fr.known, retK, retA, resA, mapO, orO_some, eqT_some, tk9, h0']
    exact h H _ hp0 (Same.refl _ _) (fun j hj => .inl hj)
  · have h0' : ((tx t.id).toList = ([] : LB)) = False := by rw [tx_list]; simp [h0]
    simp [ev_skip, ev_seq, ev_cond2, ev_region2, evOps_nil, evOps_cons, opG_none, opA_move, opA_assign, opA_bin, opA_call, putO_some, putH_lt, CondP_false, binT_some, binA, avO_some, strOp, opS, opV, Go.Mx.look, fr0, argSlots, seqK, Fr.known, mapO, callA, orO_some, eqT_some, tk9, ok38, h0']
    refine findR_sp t.id H _ hr (by omega) (fun hno => ?_) (fun A t2 B hL he => ?_)
    · have e : addL L t = (0, L ++ [t]) := by unfold addL; rw [if_neg h0, if_neg hno]
      rw [e] at h
      simp [ev_skip, ev_seq, ev_cond2, ev_region2, evOps_nil, evOps_cons, opG_none, opA_move, opA_bin, opA_load, opA_fieldAddr, opA_nilCheck, opA_buildSlice, opA_append, opA_build, putO_some, putH_lt, putC_lt, condB_false, binT_some, binA, avO_some, loadT, nilCheckT, fieldAddrT, buildSliceT, appendT, repeatL_1, buildZ, partsZ, fillO, aggO, io_geq, opS, opV, Go.Mx.look, seqK, Fr.known, mapO, cellsA_v, cellsA_agg, okPart_v, okPart_agg, Value.oneCell', partA, loadA, loadS, plusS, nilCheckS, fillA, bindO, srcTy, orO_some, eqT_some, tk3, sz43, ag43, st43, Tryd.underlying43, Tryd.underlying45, sz76, by76, ze76, of76, hc]
      refine hr.o.app (c := t3C t) (t3C_len t) ⟨by omega, by omega⟩ (fun v1 H1 ho1 hs1 hi1 => ?_)
      have hc1 := hs1.2 _ _ hc hr.d
      have hcl := ho1.cells'
      have ho2 : OwnS 3 H1 (L ++ [t]).length ((L ++ [t]).flatMap t3C) v1 := by simpa using ho1
      obtain ⟨q1, q2, q3⟩ := hr.put ho2 hs1 (hi1.elim .inl (fun e => .inr (fun j hj => by rw [e] at hj; simp at hj; omega)))
      simp [ev_seq, ev_ret, ev_region2, evOps_nil, evOps_cons, opG_none, opA_assign, opA_fieldAddr, opA_nilCheck, opA_store, putO_some, putH_lt, putC_lt, putU_none, nilCheckT, fieldAddrT, storeT, opS, opV, Go.Mx.look, seqK, retK, retA, resA, mapO, plusS, nilCheckS, storeS, sz43, Tryd.underlying45, hc1, hcl.1, hcl.2, splice]
      exact h _ _ q1 q2 q3
    · have hm : t.id ∈ L.map (·.id) := by rw [hL]; simp [he]
      have e : addL L t = (4, L) := by unfold addL; rw [if_neg h0, if_pos hm]
      rw [e] at h
      have hA : (0 : Int) ≤ (A.length : Int) := by omega
      simp [ev_seq, ev_cond2, ev_ret, ev_region2, evOps_nil, evOps_cons, opG_none, opA_assign, opA_bin, putO_some, putH_lt, putC_lt, condB_true, binT_some, binA, avO_some, io_geq, opS, opV, Go.Mx.look, seqK, Fr.known, retK, retA, resA, mapO, orO_some, eqT_some, tk3, hA]
      exact h H _ hp0 (Same.refl _ _) (fun j hj => .inl hj)
/-! ### One of a row is cut out -/
theorem flat3_len (L : List Tx3) : (L.flatMap t3C).length = L.length * 3 := flat_len t3C_len _
theorem cut1 {H : Hp} {id ver bytes : Nat} {A B : List Tx3} {t : Tx3} {tl : List AV} {K : AV → Hp → Prop} (hid : H[id]? = some (.cells ver ((A ++ t :: B).flatMap t3C ++ tl))) (hb : A.length * bytes ≤ 140737488355328 ∧ A.length ≤ 4611686018427387904)
    (hq : ∀ v1 H1, OwnS 3 H1 A.length (A.flatMap t3C) v1 → Same [] H H1 → (∀ j ∈ slId v1, H.length ≤ j) → K v1 H1) : appA H 3 bytes (.row true 0 []) (.sl id ver 3 0 A.length) K := by
  have src1 : srcA H 3 (.sl id ver 3 0 A.length) = some (A.length, A.flatMap t3C) := by
    have : ((A ++ t :: B).flatMap t3C ++ tl).take (A.length * 3) = A.flatMap t3C := by
      rw [List.flatMap_append, List.append_assoc, List.take_append_of_le_length (by rw [flat3_len]; exact Nat.le_refl _), List.take_of_length_le (by rw [flat3_len]; exact Nat.le_refl _)]
    have hl : ((A ++ t :: B).flatMap t3C ++ tl).length = (A.length + (B.length + 1)) * 3 + tl.length := by rw [List.length_append, flat3_len]; simp
    simp only [srcA, hid]
    simp only [Nat.zero_add, List.drop_zero, this, hl]
    simp
    omega
  refine appA_src src1 (flat3_len _) ?_
  have o0 : OwnS 3 H 0 [] (.row true 0 []) := .inl ⟨rfl, rfl, .inr rfl⟩
  refine o0.appM (flat3_len _) ⟨by rw [Nat.zero_add]; exact hb.1, by rw [Nat.zero_add]; exact hb.2⟩ (fun v1 H1 ho1 hs1 hi1 => ?_)
  refine hq v1 H1 (by simpa using ho1) (by simpa [slId] using hs1) (fun j hj => ?_)
  rcases hi1 with e | e
  · rw [e] at hj; simp [slId] at hj
  · rw [e] at hj; simp at hj; omega
theorem cut2 (id ver : Nat) (A B : List Tx3) (t : Tx3) : ∃ v8, sliceSl 3 id ver 3 0 (A ++ t :: B).length ((A.length + 1 : Nat) : Int) ((A ++ t :: B).length : Int) = some v8 ∧ ((∃ off m, v8 = .sl id ver 3 off m) ∨ v8 = .row false 0 []) ∧
    ∀ (H1 : Hp) (v1 : AV) (bytes : Nat) (tl : List AV) (K : AV → Hp → Prop), H1[id]? = some (.cells ver ((A ++ t :: B).flatMap t3C ++ tl)) → OwnS 3 H1 A.length (A.flatMap t3C) v1 → (A.length + B.length) * bytes ≤ 140737488355328 ∧ A.length + B.length ≤ 4611686018427387904 →
      (∀ v2 H2, OwnS 3 H2 (A ++ B).length ((A ++ B).flatMap t3C) v2 → Same (slId v1) H1 H2 → (slId v2 = slId v1 ∨ slId v2 = [H1.length]) → K v2 H2) → appA H1 3 bytes v1 v8 K := by
  have hl0 : (A ++ t :: B).length = A.length + (B.length + 1) := by simp
  obtain ⟨v8, h1, h2, h3⟩ := slice_lo (k := 3) (id := id) (ver := ver) (n := (A ++ t :: B).length) (a := A.length + 1) (by rw [hl0]; omega) _ rfl
  refine ⟨v8, h1, h2, fun H1 v1 bytes tl K hid ho hb hq => ?_⟩
  have e3 : ((A ++ t :: B).flatMap t3C ++ tl).length = (A ++ t :: B).length * 3 + tl.length := List.length_append.trans (by rw [flat3_len])
  have src := h3 H1 _ hid (by rw [e3]; omega)
  have e1 : (A ++ t :: B).length - (A.length + 1) = B.length := by rw [hl0]; omega
  have e2 : (((A ++ t :: B).flatMap t3C ++ tl).drop ((A.length + 1) * 3)).take (B.length * 3) = B.flatMap t3C := by
    have : (A ++ t :: B).flatMap t3C ++ tl = ((A ++ [t]).flatMap t3C) ++ (B.flatMap t3C ++ tl) := by simp
    rw [this, List.drop_left' (by rw [flat3_len]; simp), List.take_left' (flat3_len _)]
  rw [e1, e2] at src
  refine appA_src src (flat3_len _) ?_
  refine ho.appM (flat3_len _) hb (fun v2 H2 ho2 hs2 hi2 => hq v2 H2 (by rw [List.flatMap_append, List.length_append]; exact ho2) hs2 hi2)
theorem rem_cut {L A B : List Tx3} {t : Tx3} (hids : (L.map (·.id)).Nodup) (hL : L = A ++ t :: B) : remL L t.id = A ++ B := by
  subst hL
  rw [List.map_append, List.map_cons, List.nodup_append, List.nodup_cons] at hids
  unfold remL
  rw [List.filter_append, List.filter_cons, decide_eq_false (by simp)]
  congr 1
  · rw [List.filter_eq_self]
    intro x hx
    rw [decide_eq_true_eq]
    exact fun e => hids.2.2 x.id (List.mem_map.2 ⟨x, hx, rfl⟩) t.id (by simp) e
  · rw [if_neg (by simp), List.filter_eq_self]
    intro x hx
    rw [decide_eq_true_eq]
    exact fun e => hids.2.1.1 (List.mem_map.2 ⟨x, hx, e⟩)
set_option maxHeartbeats 1000000 in
theorem rrem_sp {b : Nat} {L : List Tx3} {fp : List Nat} (id0 : LB) (H : Hp) (Q : AV → Hp → Prop) (hp : RfAt H b L fp) (hids : (L.map (·.id)).Nodup) (hl : L.length ≤ 1000)
    (h : ∀ H' fp', RfAt H' b (remL L id0) fp' → Same fp H H' → (∀ j ∈ fp', j ∈ fp ∨ H.length ≤ j) → Q (.v (.bool (decide (id0 ∈ L.map (·.id))))) H') :
    Sp Tryd.prog 23 [.ptr b 0 0, .v (.string (tx id0))] Q H := by
  have hp0 := hp
  obtain ⟨v, hr, rfl⟩ := hp
  have hc := hr.c
  refine Sp.body [] ⟨[], [], pl23⟩ tb23 mo Tryd.func23 rfl (Nat.le_of_ble_eq_true rfl) (by kernel_rfl) ?_
  simp [ev_seq, ev_region2, evOps_nil, evOps_cons, opG_none, opA_move, opA_assign, opA_call, putO_some, putH_lt, opS, opV, Go.Mx.look, fr0, argSlots, seqK, mapO, callA, ok38, pl23]
  refine findR_sp id0 H _ hr (by omega) (fun hno => ?_) (fun A t B hL he => ?_)
  · rw [decide_eq_false hno, remL_no hno] at h
    simp [ev_seq, ev_cond2, ev_ret, ev_region2, evOps_nil, evOps_cons, opG_none, opA_move, opA_assign, opA_bin, putO_some, putH_lt, putC_lt, condB_true, binT_some, binA, avO_some, io_lss, opS, opV, Go.Mx.look, seqK, Fr.known, retK, retA, resA, mapO, orO_some, eqT_some, tk3]
    exact h H _ hp0 (Same.refl _ _) (fun j hj => .inl hj)
  · have hm : id0 ∈ L.map (·.id) := by rw [hL]; simp [he]
    have hrm := rem_cut hids hL
    rw [he] at hrm
    rw [decide_eq_true hm, hrm] at h
    subst hL
    have hn0 : ¬ ((A.length : Int) < 0) := by omega
    have hl0 : (A ++ t :: B).length = A.length + (B.length + 1) := by simp
    rcases hr.o with ⟨h9, _⟩ | ⟨_, h8, id, ver, tl, rfl, hid⟩
    · rw [hl0] at h9; omega
    have w1 : IntKind.i64.wrap ((A.length : Int) + 1) = (A.length : Int) + 1 := wr_i64 (by omega)
    have ss1 : sliceSl 3 id ver 3 0 (A ++ t :: B).length 0 (A.length : Int) = some (.sl id ver 3 0 A.length) := slice_hi (by omega) (by rw [hl0]; omega) (by rw [hl0]; omega)
    obtain ⟨v8, e2, hsh, hcut⟩ := cut2 id ver A B t
    have fin : ∀ v1 H1 v2 H2, (∀ j ∈ slId v1, H.length ≤ j) → Same [] H H1 → OwnS 3 H2 (A ++ B).length ((A ++ B).flatMap t3C) v2 → Same (slId v1) H1 H2 → (slId v2 = slId v1 ∨ slId v2 = [H1.length]) → H2[b]? = some (.cells 0 [.sl id ver 3 0 (A ++ t :: B).length]) ∧ (cellsA v2 = [v2] ∧ okPart v2 = true) ∧ Q (.v (.bool true)) (H2.set b (.cells 0 [v2])) := fun v1 H1 v2 H2 hv1 hs1 ho2 hs2 hi2 => by
      have hs3 : Same [] H H2 := hs1.new hs2 hv1
      obtain ⟨q1, q2, q3⟩ := hr.put ho2 (hs3.wide (by simp)) (.inr (fun j hj => by
        rcases hi2 with e | e
        · rw [e] at hj; exact hv1 j hj
        · rw [e] at hj; simp at hj; have := hs1.1; omega))
      exact ⟨hs3.2 _ _ hc (by simp), ho2.cells', h _ _ q1 q2 q3⟩
    rw [show ((A.length + 1 : Nat) : Int) = (A.length : Int) + 1 by omega] at e2
    generalize hlen : (A ++ t :: B).length = N at *
    simp [ev_skip, ev_seq, ev_cond2, ev_region2, evOps_nil, evOps_cons, opG_none, opA_move, opA_assign, opA_bin, opA_load, opA_fieldAddr, opA_nilCheck, opA_buildSlice, opA_append, opA_slice, putO_some, putH_lt, putC_lt, condB_false, binT_some, binA, avO_some, loadT, nilCheckT, fieldAddrT, buildSliceT, appendT, bndT, sliceT, repeatL_0, io_add, io_lss, opS, opV, Go.Mx.look, seqK, Fr.known, mapO, partA, loadA, loadS, plusS, nilCheckS, sliceA, fillA, bindO, srcTy, orO_some, eqT_some, ev_draw, drawK, evP_q, evP_s, opAt_some, tk3, sz43, ag43, st43, Tryd.underlying43, Tryd.underlying45, sz76, by76, ze76, hc, hn0, ss1, w1, e2]
    refine cut1 hid ⟨by omega, by omega⟩ (fun v1 H1 ho1 hs1 hv1 => ?_)
    have hc1 := hs1.2 _ _ hc (by simp)
    have hid1 := hs1.2 _ _ hid (by simp)
    rcases hsh with ⟨off, m, rfl⟩ | rfl
    · simp [opG_none, opA_append, putC_lt, binT_some, binA, avO_some, loadT, nilCheckT, fieldAddrT, appendT, bndT, sliceT, io_add, opS, opV, Go.Mx.look, partA, loadA, loadS, plusS, nilCheckS, sliceA, srcTy, orO_some, eqT_some, evP_s, opAt_some, chkK_eq, sameV_some, sameO_some, allQ_nil, allQ_cons, valQ_none, valS_move, valS_bin, valS_load, valS_fieldAddr, valS_nilCheck, valS_slice, tk3, sz43, ag43, st43, Tryd.underlying43, Tryd.underlying45, sz76, by76, ze76, hc1, e2, w1]
      refine hcut H1 v1 40 tl _ hid1 ho1 ⟨by omega, by omega⟩ (fun v2 H2 ho2 hs2 hi2 => ?_)
      obtain ⟨hc2, ⟨d1, d2⟩, hq⟩ := fin v1 H1 v2 H2 hv1 hs1 ho2 hs2 hi2
      simp [ev_seq, ev_ret, ev_region2, evOps_nil, evOps_cons, opG_none, opA_assign, opA_fieldAddr, opA_nilCheck, opA_store, putO_some, putH_lt, putC_lt, putU_none, nilCheckT, fieldAddrT, storeT, opS, opV, Go.Mx.look, seqK, retK, retA, resA, mapO, plusS, nilCheckS, storeS, evP_nil, evP_q, evP_s, opAt_some, chkK_eq, sameV_some, sameO_some, allQ_nil, allQ_cons, valQ_none, valS_move, sz43, Tryd.underlying45, hc2, d1, d2, splice]
      exact hq
    · simp [opG_none, opA_append, putC_lt, binT_some, binA, avO_some, loadT, nilCheckT, fieldAddrT, appendT, bndT, sliceT, io_add, opS, opV, Go.Mx.look, partA, loadA, loadS, plusS, nilCheckS, sliceA, srcTy, orO_some, eqT_some, evP_s, opAt_some, chkK_eq, sameV_some, sameO_some, allQ_nil, allQ_cons, valQ_none, valS_move, valS_bin, valS_load, valS_fieldAddr, valS_nilCheck, valS_slice, tk3, sz43, ag43, st43, Tryd.underlying43, Tryd.underlying45, sz76, by76, ze76, hc1, e2, w1]
      refine hcut H1 v1 40 tl _ hid1 ho1 ⟨by omega, by omega⟩ (fun v2 H2 ho2 hs2 hi2 => ?_)
      obtain ⟨hc2, ⟨d1, d2⟩, hq⟩ := fin v1 H1 v2 H2 hv1 hs1 ho2 hs2 hi2
      simp [ev_seq, ev_ret, ev_region2, evOps_nil, evOps_cons, opG_none, opA_assign, opA_fieldAddr, opA_nilCheck, opA_store, putO_some, putH_lt, putC_lt, putU_none, nilCheckT, fieldAddrT, storeT, opS, opV, Go.Mx.look, seqK, retK, retA, resA, mapO, plusS, nilCheckS, storeS, evP_nil, evP_q, evP_s, opAt_some, chkK_eq, sameV_some, sameO_some, allQ_nil, allQ_cons, valQ_none, valS_move, sz43, Tryd.underlying45, hc2, d1, d2, splice]
      exact hq
/-- How many texts have a word. -/
def RtInv (L : List Tx3) (b : Nat) (w : LB) (H : Hp) (n : Nat) (xs : List AV) (H2 : Hp) : Prop :=
  ∃ i : Nat, i ≤ L.length ∧ n = L.length - i ∧ xs = [.ptr b 0 0, .v (.string (tx w)), .v (.int .i64 (countW (L.take i) w : Nat)), .v (.int .i64 (i : Int))] ∧ H2 = H
theorem has_word (s w : LB) : hasW s (w, false) = decide (w ∈ wordsL s) := by
  rw [Bool.eq_iff_iff]
  simp [hasW, fitsW, List.any_eq_true]
theorem rtexts_sp {b : Nat} {L : List Tx3} {fp : List Nat} (w : LB) (H : Hp) (Q : AV → Hp → Prop) (hp : RfAt H b L fp) (hl : L.length ≤ 1000) (hs : ∀ t ∈ L, t.s.length ≤ 1000) (h : Q (.v (.int .i64 (countW L w : Nat))) H) :
    Sp Tryd.prog 25 [.ptr b 0 0, .v (.string (tx w))] Q H := by
  obtain ⟨v, hr, rfl⟩ := hp
  have hc := hr.c
  have hln := hr.o.lenT
  refine Sp.body [(3, ⟨[0, 1, 5, 6], [], []⟩)] ⟨[], [], []⟩ [] mo Tryd.func25 rfl (Nat.le_of_ble_eq_true rfl) (by kernel_rfl) ?_
  simp [ev_seq, ev_block, ev_region2, ev_loop, loopK, evOps_nil, evOps_cons, opG_none, opA_assign, putO_some, putH_lt, opS, opV, Go.Mx.look, fr0, argSlots, seqK, mapO, headK, getV, getB, chkP, firstReg]
  refine LoopC.intro (fun n xs _ H2 => RtInv L b w H n xs H2) L.length ⟨0, by omega, by omega, by simp [countW], rfl⟩ ?_
  rintro n xs bs H2 ⟨i, hi, rfl, rfl, rfl⟩
  by_cases hlt : i < L.length
  · obtain ⟨t, ht⟩ : ∃ t, L[i]? = some t := ⟨_, List.getElem?_eq_getElem hlt⟩
    obtain ⟨idv, ver, cs, rfl, hid, g0, g1, g2⟩ := hr.at_ ht
    have hlt' : (i : Int) < (L.length : Int) := by omega
    have w1 : IntKind.i64.wrap ((i : Int) + 1) = (i : Int) + 1 := wr_i64 (by omega)
    have hhas := has_sp t.s (w, false) (hs t (List.mem_of_getElem? ht)) H2
    rw [has_word] at hhas
    simp only [wdC] at hhas
    have hcn : countW (L.take i) w ≤ i := by
      unfold countW
      refine Nat.le_trans (List.length_filter_le _ _) ?_
      rw [List.length_take]; omega
    have hct : countW (L.take (i + 1)) w = countW (L.take i) w + (if w ∈ wordsL t.s then 1 else 0) := by
      unfold countW
      rw [List.take_add_one, ht, List.filter_append, List.length_append]
      congr 1
      by_cases hm : w ∈ wordsL t.s <;> simp [hm]
    have w2 : IntKind.i64.wrap ((countW (L.take i) w : Int) + 1) = (countW (L.take i) w : Int) + 1 := wr_i64 (by omega)
    simp [ev_skip, ev_seq, ev_cond2, ev_block, ev_region2, evOps_nil, evOps_cons, opG_none, opA_move, opA_bin, opA_load, opA_indexAddr, opA_fieldAddr, opA_nilCheck, opA_len, opA_call, opA_build, putO_some, putH_lt, condB_true, binT_some, binA, avO_some, loadT, nilCheckT, fieldAddrT, indexAddrT, buildZ, partsZ, fillO, aggO, io_lss, opS, opV, Go.Mx.look, seqK, Fr.known, mapO, callA, cellsA_v, okPart_v, Value.oneCell', partA, loadA, loadS, plusS, indexAddrA, nilCheckS, fillA, mkFr, slotsOf, ptrsOf, boxesOf, orO_some, eqT_some, tk3, sz9, ag9, sz43, ag43, Tryd.underlying43, Tryd.underlying45, ze60, of60, sz76, Tryd.underlying76, ok40, hc, hln, hlt', hid, g2]
    refine hhas _ ?_
    by_cases hm : w ∈ wordsL t.s
    · rw [if_pos hm] at hct
      rw [decide_eq_true hm]
      simp [ev_cond2, ev_region2, evOps_nil, evOps_cons, opG_none, opA_move, opA_assign, opA_bin, putO_some, putH_lt, putC_lt, condB_true, binT_some, binA, avO_some, io_add, opS, opV, Go.Mx.look, seqK, blockK, Fr.known, mapO, headK, getV, getB, chkP, orO_some, eqT_some, tk3, w1, w2]
      exact ⟨L.length - (i + 1), by omega, i + 1, by omega, rfl, by rw [hct]; simp, rfl⟩
    · rw [if_neg hm] at hct
      rw [decide_eq_false hm]
      simp [ev_skip, ev_cond2, ev_region2, evOps_nil, evOps_cons, opG_none, opA_move, opA_assign, opA_bin, putO_some, putH_lt, putC_lt, condB_false, binT_some, binA, avO_some, io_add, opS, opV, Go.Mx.look, seqK, blockK, Fr.known, mapO, headK, getV, getB, chkP, orO_some, eqT_some, tk3, w1]
      exact ⟨L.length - (i + 1), by omega, i + 1, by omega, rfl, by rw [hct]; simp, rfl⟩
  · have hii : i = L.length := by omega
    subst hii
    have hlt' : ¬ ((L.length : Int) < (L.length : Int)) := by omega
    rw [List.take_length]
    simp [ev_seq, ev_cond2, ev_exit, ev_ret, ev_region2, evOps_nil, evOps_cons, opG_none, opA_move, opA_assign, opA_bin, opA_load, opA_fieldAddr, opA_nilCheck, opA_len, putO_some, putH_lt, condB_false, binT_some, binA, avO_some, loadT, nilCheckT, fieldAddrT, io_lss, opS, opV, Go.Mx.look, seqK, blockK, Fr.known, retK, retA, resA, mapO, partA, loadA, loadS, plusS, nilCheckS, mkFr, slotsOf, ptrsOf, boxesOf, orO_some, eqT_some, tk3, sz43, ag43, Tryd.underlying43, Tryd.underlying45, hc, hln]
    exact h
end Go.Proofs.YtoakdmkjlpjahaaDoor

namespace Go.Proofs.YtoakdmkjlpjahaaDoor
open Go.Mx
set_option linter.unusedVariables false
set_option linter.unusedSimpArgs false
set_option linter.unnecessarySimpa false

/-! ### The document's choice: one after the other, the best of those left -/
/-- One text stands ahead of another. -/
def bef (a b : Tx3) : Prop := b.ts < a.ts ∨ (b.ts = a.ts ∧ b.id < a.id)
instance (a b : Tx3) : Decidable (bef a b) := by unfold bef; infer_instance
theorem bef_irr (a : Tx3) : ¬ bef a a := by
  rintro (h | ⟨_, h⟩)
  · omega
  · exact List.lt_irrefl _ h
theorem bef_trans {a b c : Tx3} (h : bef a b) (k : bef b c) : bef a c := by
  unfold bef at *
  rcases h with h | ⟨h, h'⟩ <;> rcases k with k | ⟨k, k'⟩
  · left; omega
  · left; omega
  · left; omega
  · right; exact ⟨by omega, List.lt_trans k' h'⟩
theorem bef_of {L : List Tx3} (hids : (L.map (·.id)).Nodup) {a b : Tx3} (ha : a ∈ L) (hb : b ∈ L) : befT L a.id b.id ↔ bef a b := by
  unfold befT bef
  rw [tsOf_mem hids ha, tsOf_mem hids hb]
structure Sel (F out left : List Tx3) : Prop where
  p : (out ++ left).Perm F
  s : out.Pairwise (fun x y => ¬ bef y x)
  c : ∀ a ∈ out, ∀ b ∈ left, ¬ bef b a
theorem Sel.start (F : List Tx3) : Sel F [] F := ⟨by simp, by simp, by simp⟩
theorem Sel.step {F out A B : List Tx3} {t : Tx3} (h : Sel F out (A ++ t :: B)) (hb : ∀ x ∈ A ++ t :: B, ¬ bef x t) : Sel F (out ++ [t]) (A ++ B) := by
  have hsub : ∀ x ∈ A ++ B, x ∈ A ++ t :: B := fun x hx => by
    rcases List.mem_append.1 hx with hx | hx <;> simp [hx]
  refine ⟨List.Perm.trans ?_ h.p, ?_, fun a ha b hb2 => ?_⟩
  · rw [List.append_assoc]
    exact List.Perm.append_left _ (show (t :: (A ++ B)).Perm (A ++ t :: B) from List.perm_middle.symm)
  · rw [List.pairwise_append]
    exact ⟨h.s, by simp, fun a ha b hb2 => by simp at hb2; subst hb2; exact h.c a ha b (by simp)⟩
  · rcases List.mem_append.1 ha with ha | ha
    · exact h.c a ha b (hsub b hb2)
    · simp at ha; subst ha; exact hb b (hsub b hb2)
def foundT (L : List Tx3) (q : LB) : List Tx3 := L.filter (fun t => (splL q).all (hasW t.s))
theorem Sel.done {L out left : List Tx3} {q : LB} {lim : Int} (hids : (L.map (·.id)).Nodup) (h : Sel (foundT L q) out left) (hq : splL q ≠ []) (he : left = [] ∨ lim ≤ (out.length : Int)) (hl : (out.length : Int) ≤ lim ∨ out = []) : out.map (·.id) = findF L q lim := by
  have hF : ∀ t ∈ foundT L q, t ∈ L := fun t ht => (List.mem_filter.1 ht).1
  have ho : ∀ t ∈ out, t ∈ L := fun t ht => hF t (h.p.mem_iff.1 (List.mem_append_left _ ht))
  have hlf : ∀ t ∈ left, t ∈ L := fun t ht => hF t (h.p.mem_iff.1 (List.mem_append_right _ ht))
  have hall : out.map (·.id) ++ sortT L (left.map (·.id)) = sortT L (foundL L q) := by
    refine sortT_uniq L ?_ ?_
    · refine List.Perm.trans (List.Perm.append_left _ (sortT_perm L _)) ?_
      rw [← List.map_append]
      exact h.p.map _
    · rw [List.pairwise_append]
      refine ⟨?_, sortT_sorted L _, fun x hx y hy => ?_⟩
      · rw [List.pairwise_map]
        refine List.Pairwise.imp_of_mem (fun {a b} ha hb hab => ?_) h.s
        rw [bef_of hids (ho b hb) (ho a ha)]; exact hab
      · obtain ⟨a, ha, rfl⟩ := List.mem_map.1 hx
        obtain ⟨b, hb, rfl⟩ := List.mem_map.1 ((sortT_perm L _).mem_iff.1 hy)
        rw [bef_of hids (hlf b hb) (ho a ha)]
        exact h.c a ha b hb
  unfold findF
  by_cases h1 : lim < 1
  · rw [if_pos (.inr h1)]
    rcases hl with hl | hl
    · have : out = [] := List.length_eq_zero_iff.1 (by omega)
      rw [this]; rfl
    · rw [hl]; rfl
  · rw [if_neg (by rintro (h2 | h2); exact hq h2; exact h1 h2), ← hall]
    have hlen : out.length ≤ lim.toNat := by
      rcases hl with hl | hl
      · omega
      · rw [hl]; simp
    rcases he with he | he
    · subst he
      have : sortT L (List.map (·.id) ([] : List Tx3)) = [] := by simp [sortT]
      rw [this, List.append_nil, List.take_of_length_le (by rw [List.length_map]; exact hlen)]
    · have : lim.toNat = (out.map (·.id)).length := by rw [List.length_map]; omega
      rw [this, List.take_left']
      rfl
/-- The best so far. -/
def Best (l : List Tx3) (i k : Nat) : Prop := k < l.length ∧ ∀ t, l[k]? = some t → ∀ x ∈ l.take i, ¬ bef x t
theorem Best.start {l : List Tx3} (h : 0 < l.length) : Best l 1 0 := ⟨h, fun t ht x hx => by
  cases l with
  | nil => simp at ht
  | cons a l => simp at ht hx; subst ht; subst hx; exact bef_irr _⟩
theorem Best.keep {l : List Tx3} {i k : Nat} {t x : Tx3} (h : Best l i k) (ht : l[k]? = some t) (hx : l[i]? = some x) (hb : ¬ bef x t) : Best l (i + 1) k := ⟨h.1, fun t' ht' y hy => by
  rw [ht] at ht'; simp at ht'; subst ht'
  rw [List.take_add_one, hx] at hy
  rcases List.mem_append.1 hy with hy | hy
  · exact h.2 t ht y hy
  · simp at hy; subst hy; exact hb⟩
theorem Best.turn {l : List Tx3} {i k : Nat} {t x : Tx3} (h : Best l i k) (ht : l[k]? = some t) (hx : l[i]? = some x) (hb : bef x t) : Best l (i + 1) i := ⟨(List.getElem?_eq_some_iff.1 hx).1, fun t' ht' y hy => by
  rw [hx] at ht'; simp at ht'; subst ht'
  rw [List.take_add_one, hx] at hy
  rcases List.mem_append.1 hy with hy | hy
  · exact fun hyx => h.2 t ht y hy (bef_trans hyx hb)
  · simp at hy; subst hy; exact bef_irr _⟩
theorem Best.done {l : List Tx3} {i k : Nat} (h : Best l i k) (hi : l.length ≤ i) : ∃ A t B, l = A ++ t :: B ∧ A.length = k ∧ ∀ x ∈ l, ¬ bef x t := by
  obtain ⟨h1, h2⟩ := h
  refine ⟨l.take k, l[k], l.drop (k + 1), ?_, by rw [List.length_take]; omega, fun x hx => h2 _ (List.getElem?_eq_getElem h1) x (by rw [List.take_of_length_le hi]; exact hx)⟩
  conv => lhs; rw [← List.take_append_drop k l]
  rw [List.drop_eq_getElem_cons h1]
end Go.Proofs.YtoakdmkjlpjahaaDoor
