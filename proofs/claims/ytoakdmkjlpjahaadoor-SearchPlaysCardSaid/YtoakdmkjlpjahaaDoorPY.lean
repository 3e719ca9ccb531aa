import Derived.Test.YtoakdmkjlpjahaaDoorPX
namespace Go.Proofs.YtoakdmkjlpjahaaDoor
open Go.Mx
set_option linter.unusedVariables false
set_option linter.unusedSimpArgs false
set_option linter.unnecessarySimpa false
set_option maxRecDepth 100000

theorem newK_app2 {k n : Nat} {H0 H : Hp} {cs c : List AV} {v : AV} {x : Bool} {bytes : Nat} {K : AV → Hp → Prop} (h : NewK k H0 H n cs v) (hc : c.length = k) (hle : H0.length ≤ H.length) (hb : (n + 1) * bytes ≤ 140737488355328 ∧ n + 1 ≤ 4611686018427387904)
    (hq : ∀ v' H', NewK k H0 H' (n + 1) (cs ++ c) v' → Same (slId v) H H' → (slId v' = slId v ∨ slId v' = [H.length]) → K v' H') : appA H k bytes v (.row x 1 c) K := by
  rcases h with ⟨rfl, rfl, rfl⟩ | ⟨h0, h1, id, ver, tl, rfl, h3, h4⟩
  · have h1 := hq (.sl H.length 0 k 0 1) (H ++ [.cells 0 c]) (.inr ⟨by simp, by simp [hc], H.length, 0, [], by simp, by simp, hle⟩) (Same.app _ _ _) (.inr rfl)
    simp at hb
    simp [appA, srcA, hb, hc]
    exact h1
  · have h5 := hq (.sl id (ver + 1) k 0 (n + 1)) (H.set id (.cells (ver + 1) (cs ++ c))) (.inr ⟨by omega, by rw [List.length_append, h1, hc, Nat.succ_mul], id, ver + 1, [], by simp, by rw [List.getElem?_set_self (Hp.lt h3)]; simp, h4⟩) (Same.set (by simp [slId])) (.inl rfl)
    simp [appA, srcA, h3, hc]
    refine ⟨⟨by omega, hb.1, by omega⟩, ?_⟩
    have e : (cs ++ tl).take (n * k) = cs := by rw [← h1]; simp
    rw [e]; exact h5
theorem newK_id {k n : Nat} {H0 H : Hp} {cs : List AV} {v : AV} (h : NewK k H0 H n cs v) : ∀ j ∈ slId v, H0.length ≤ j ∧ j < H.length := by
  rcases h with ⟨_, _, rfl⟩ | ⟨_, _, id, ver, tl, rfl, h3, h4⟩
  · simp [slId]
  · intro j hj; simp [slId] at hj; subst hj; exact ⟨h4, Hp.lt h3⟩
theorem newK_same2 {k n : Nat} {H0 H H' : Hp} {cs : List AV} {v : AV} {fp : List Nat} (h : NewK k H0 H n cs v) (hs : Same fp H H') (hf : ∀ j ∈ slId v, j ∉ fp) : NewK k H0 H' n cs v :=
  h.same hs (fun id ver e => hf id (by rw [e]; simp [slId]))
/-- What a row of texts holds. -/
theorem OwnS.all3 {H : Hp} {l : List Tx3} {v : AV} (h : OwnS 3 H l.length (l.flatMap t3C) v) (hl : l ≠ []) : ∃ id ver tl, v = .sl id ver 3 0 l.length ∧ H[id]? = some (.cells ver (l.flatMap t3C ++ tl)) := by
  rcases h with ⟨h0, _⟩ | ⟨_, h1, id, ver, tl, rfl, h3⟩
  · exact absurd (List.length_eq_zero_iff.1 h0) hl
  · exact ⟨id, ver, tl, rfl, h3⟩
theorem at3 {l : List Tx3} (tl : List AV) {i : Nat} {t : Tx3} (ht : l[i]? = some t) : (l.flatMap t3C ++ tl)[i * 3]? = some (.v (.string (tx t.id))) ∧ (l.flatMap t3C ++ tl)[i * 3 + 1]? = some (.v (.int .i64 t.ts)) ∧ (l.flatMap t3C ++ tl)[i * 3 + 2]? = some (.v (.string (tx t.s))) ∧ ((l.flatMap t3C ++ tl).drop (i * 3)).take 3 = t3C t ∧ i * 3 + 3 ≤ (l.flatMap t3C ++ tl).length := by
  have g := fun j hj => flat_get t3C_len ht j hj
  have hle := flat_le t3C_len ht
  have ap : ∀ j, j < 3 → (l.flatMap t3C ++ tl)[i * 3 + j]? = (t3C t)[j]? := fun j hj => by
    rw [List.getElem?_append_left (by omega)]; exact g j hj
  exact ⟨by simpa [t3C] using ap 0 (by omega), by simpa [t3C] using ap 1 (by omega), by simpa [t3C] using ap 2 (by omega), flat_sub2 t3C_len ht tl, by rw [List.length_append]; omega⟩
def P1Inv (H : Hp) (b : Nat) (L : List Tx3) (q : LB) (lim : Int) (cq : List AV) (n : Nat) (xs : List AV) (H2 : Hp) : Prop :=
  ∃ (i : Nat) (v : AV), i ≤ L.length ∧ n = L.length - i ∧ xs = [.ptr b 0 0, .v (.int .i64 lim), .row false (splL q).length cq, v, .v (.int .i64 (i : Int))] ∧ OwnS 3 H2 (foundT (L.take i) q).length ((foundT (L.take i) q).flatMap t3C) v ∧ Same [] H H2 ∧ ∀ j ∈ slId v, H.length ≤ j
def P2Inv (H3 : Hp) (b : Nat) (t : Tx3) (q : LB) (lim : Int) (cq : List AV) (v : AV) (i : Nat) (n : Nat) (xs : List AV) (H2 : Hp) : Prop :=
  ∃ k : Nat, k ≤ (splL q).length ∧ n = (splL q).length - k ∧ xs = [.ptr b 0 0, .v (.int .i64 lim), .row false (splL q).length cq, v, .v (.int .i64 (i : Int)), .v (.bool (((splL q).take k).all (hasW t.s))), .v (.int .i64 (k : Int))] ∧ H2 = H3
def P3Inv (H : Hp) (L : List Tx3) (q : LB) (lim : Int) (n : Nat) (xs : List AV) (H2 : Hp) : Prop :=
  ∃ (out left : List Tx3) (v w : AV), Sel (foundT L q) out left ∧ n = left.length ∧ xs = [.v (.int .i64 lim), v, w] ∧ OwnS 3 H2 left.length (left.flatMap t3C) v ∧ NewK 1 H H2 out.length ((out.map (·.id)).flatMap txC) w ∧ (∀ j ∈ slId w, j ∉ slId v) ∧ (∀ j ∈ slId v, H.length ≤ j) ∧ Same [] H H2 ∧ ((out.length : Int) ≤ lim ∨ out = [])
def P4Inv (H3 : Hp) (left : List Tx3) (lim : Int) (v w : AV) (n : Nat) (xs : List AV) (H2 : Hp) : Prop :=
  ∃ i k : Nat, n = left.length - i ∧ Best left i k ∧ xs = [.v (.int .i64 lim), v, w, .v (.int .i64 (k : Int)), .v (.int .i64 (i : Int))] ∧ H2 = H3
theorem foundT_snoc {L : List Tx3} {i : Nat} {t : Tx3} (ht : L[i]? = some t) (q : LB) : foundT (L.take (i + 1)) q = foundT (L.take i) q ++ (if (splL q).all (hasW t.s) = true then [t] else []) := by
  unfold foundT
  rw [List.take_add_one, ht, List.filter_append]
  congr 1
  cases h : (splL q).all (hasW t.s) <;> simp [h]
set_option maxHeartbeats 4000000 in
theorem rfind_sp {b : Nat} {L : List Tx3} {fp : List Nat} (q : LB) (lim : Int) (H : Hp) (Q : AV → Hp → Prop) (hp : RfAt H b L fp) (hids : (L.map (·.id)).Nodup) (hl : L.length ≤ 1000) (hs : ∀ t ∈ L, t.s.length ≤ 1000) (hq : q.length ≤ 1000)
    (h : Q (rowT (findF L q lim)) H) : Sp Tryd.prog 24 [.ptr b 0 0, .v (.string (tx q)), .v (.int .i64 lim)] Q H := by
  refine Sp.newK ?_
  obtain ⟨vI, hr, rfl⟩ := hp
  refine Sp.body [(6, ⟨[0, 2, 7, 8, 9], [], []⟩), (10, ⟨[0, 2, 7, 8, 9, 10, 11], [], []⟩), (16, ⟨[2, 8, 12], [], []⟩), (19, ⟨[2, 8, 12, 13, 14], [], []⟩)] ⟨[], [], pl24⟩ tb24 mo Tryd.func24 rfl (Nat.le_of_ble_eq_true rfl) (by kernel_rfl) ?_
  have hsl := splL_len q
  simp [ev_seq, ev_region2, evOps_nil, evOps_cons, opG_none, opA_move, opA_assign, opA_call, putO_some, putH_lt, opS, opV, Go.Mx.look, fr0, argSlots, seqK, mapO, callA, ok27, pl24]
  refine splitR_sp q hq H _ ?_
  have hfind : findF L q lim = if splL q = [] ∨ lim < 1 then [] else (sortT L (foundL L q)).take lim.toNat := rfl
  by_cases hnil : splL q = []
  · have hf0 : findF L q lim = [] := by rw [hfind, if_pos (.inl hnil)]
    rw [hf0] at h
    simp [ev_seq, ev_cond2, ev_ret, ev_region2, evOps_nil, evOps_cons, opG_none, opA_move, opA_assign, opA_bin, opA_len, putO_some, putH_lt, putC_lt, condB_true, binT_some, binA, avO_some, lenT_row, io_eql, opS, opV, Go.Mx.look, seqK, Fr.known, retK, retA, resA, mapO, orO_some, eqT_some, tk3, Tryd.underlying57, rowW, hnil]
    exact ⟨Same.refl _ _, 1, 0, [], NewK.nil _ _ _, by simp, h⟩
  · have hn0 : ¬ ((splL q).length = 0) := fun e => hnil (List.length_eq_zero_iff.1 e)
    have hcsl : ((splL q).flatMap wdC).length = (splL q).length * 2 := flat_len wdC_len _
    have hat : ∀ {i : Nat} {x : W2}, (splL q)[i]? = some x → (((splL q).flatMap wdC).drop (i * 2)).take 2 = wdC x := fun h => flat_sub wdC_len _ _ h
    unfold rowW
    generalize hcq : (splL q).flatMap wdC = cq at hcsl hat ⊢
    simp [ev_skip, ev_seq, ev_cond2, ev_block, ev_region2, ev_loop, loopK, evOps_nil, evOps_cons, opG_none, opA_move, opA_assign, opA_bin, opA_len, putO_some, putH_lt, putC_lt, CondP_false, binT_some, binA, avO_some, lenT_row, io_eql, opS, opV, Go.Mx.look, seqK, Fr.known, mapO, headK, getV, getB, chkP, firstReg, orO_some, eqT_some, tk3, Tryd.underlying57, hnil]
    refine LoopC.intro (fun n xs _ H2 => P1Inv H b L q lim cq n xs H2) L.length ⟨0, .v (.slice none 0 0), by omega, by omega, by simp, OwnS.nil _ _, Same.refl _ _, by simp [slId]⟩ ?_
    rintro n xs bs H2 ⟨i, v, hi, rfl, rfl, ho, hs2, hv⟩
    have hr2 := hr.same hs2 (by simp)
    have hc2 := hr2.c
    have hln2 := hr2.o.lenT
    have hfl : (foundT (L.take i) q).length ≤ 1000 := by
      have := List.length_filter_le (fun t : Tx3 => (splL q).all (hasW t.s)) (L.take i)
      unfold foundT
      rw [List.length_take] at this
      omega
    by_cases hlt : i < L.length
    · obtain ⟨t, ht⟩ : ∃ t, L[i]? = some t := ⟨_, List.getElem?_eq_getElem hlt⟩
      have hLne : L ≠ [] := fun e => by rw [e] at hlt; simp at hlt
      obtain ⟨idI, verI, tlI, rfl, hidI⟩ := hr2.o.all3 hLne
      obtain ⟨g0, g1, g2, g3, g4⟩ := at3 tlI ht
      generalize hcI : L.flatMap t3C ++ tlI = cI at hidI g0 g1 g2 g3 g4
      have hlt' : (i : Int) < (L.length : Int) := by omega
      have w1 : IntKind.i64.wrap ((i : Int) + 1) = (i : Int) + 1 := wr_i64 (by omega)
      have hts := hs t (List.mem_of_getElem? ht)
      have hsn := foundT_snoc ht q
      simp [ev_skip, ev_seq, ev_cond2, ev_block, ev_region2, ev_loop, loopK, evOps_nil, evOps_cons, opG_none, opA_move, opA_assign, opA_bin, opA_load, opA_fieldAddr, opA_nilCheck, opA_len, putO_some, putH_lt, condB_true, binT_some, binA, avO_some, loadT, nilCheckT, fieldAddrT, io_lss, opS, opV, Go.Mx.look, seqK, Fr.known, mapO, partA, loadA, loadS, plusS, nilCheckS, headK, getV, getB, chkP, mkFr, slotsOf, ptrsOf, boxesOf, firstReg, orO_some, eqT_some, tk3, sz43, ag43, Tryd.underlying43, Tryd.underlying45, hc2, hln2, hlt']
      refine LoopC.intro (fun n xs _ H3 => P2Inv H2 b t q lim cq v i n xs H3) (splL q).length ⟨0, by omega, by omega, by simp, rfl⟩ ?_
      rintro n xs bs H3 ⟨k, hk, rfl, rfl, rfl⟩
      by_cases hkl : k < (splL q).length
      · obtain ⟨x, hx⟩ : ∃ x, (splL q)[k]? = some x := ⟨_, List.getElem?_eq_getElem hkl⟩
        have hkl' : (k : Int) < ((splL q).length : Int) := by omega
        have wk : IntKind.i64.wrap ((k : Int) + 1) = (k : Int) + 1 := wr_i64 (by omega)
        have hx2 := hat hx
        have hle : k * 2 + 2 ≤ cq.length := by omega
        have htk : ((splL q).take (k + 1)).all (hasW t.s) = (((splL q).take k).all (hasW t.s) && hasW t.s x) := by
          rw [List.take_add_one, hx, List.all_append]; simp
        cases hA : ((splL q).take k).all (hasW t.s) with
        | true =>
          simp [ev_skip, ev_seq, ev_cond2, ev_block, ev_region2, evOps_nil, evOps_cons, opG_none, opG_some, opJ, opU_ft, isU_bool, opK_eq, opA_move, opA_bin, opA_load, opA_indexAddr, opA_fieldAddr, opA_nilCheck, opA_len, opA_call, putO_some, putH_lt, condB_true, binT_some, binA, avO_some, loadT, nilCheckT, lenT_row, fieldAddrT, indexAddrT, io_lss, opS, opV, Go.Mx.look, seqK, Fr.known, mapO, callA, partA, loadA, loadS, plusS, indexAddrA, nilCheckS, mkFr, slotsOf, ptrsOf, boxesOf, orO_some, eqT_some, ev_draw, drawK, evP_q, evP_s, opAt_some, tk3, sz9, ag9, sz43, ag43, Tryd.underlying43, Tryd.underlying45, Tryd.underlying57, sz60, ag60, sz76, Tryd.underlying76, ok40, hkl', hc2, hlt', hidI, g2, hx2, hle]
          refine has_sp t.s x hts _ _ ?_
          simp [ev_region2, evOps_nil, evOps_cons, opG_none, opA_move, opA_assign, opA_pick, opA_bin, putO_some, putH_lt, putC_lt, binT_some, binA, avO_some, pickT, io_add, opS, opV, Go.Mx.look, seqK, blockK, mapO, headK, getV, getB, chkP, orO_some, eqT_some, evP_nil, evP_q, evP_s, opAt_some, chkK_eq, allQ_nil, tk3, wk]
          exact ⟨(splL q).length - (k + 1), by omega, k + 1, by omega, rfl, by rw [htk, hA]; simp, rfl⟩
        | false =>
          simp [ev_skip, ev_seq, ev_cond2, ev_block, ev_region2, evOps_nil, evOps_cons, opG_none, opG_some, opJ, opU_ft, isU_bool, opA_move, opA_assign, opA_pick, opA_bin, opA_len, putO_some, putH_lt, putV_lt, condB_true, condB_false, binT_some, binA, avO_some, pickT, lenT_row, io_add, io_lss, opS, opV, Go.Mx.look, seqK, blockK, Fr.known, mapO, headK, getV, getB, chkP, mkFr, slotsOf, ptrsOf, boxesOf, orO_some, eqT_some, ev_draw, drawK, evP_nil, evP_q, evP_s, opAt_some, chkK_eq, allQ_nil, tk3, Tryd.underlying57, hkl', wk]
          exact ⟨(splL q).length - (k + 1), by omega, k + 1, by omega, rfl, by rw [htk, hA]; simp, rfl⟩
      · have hkk : k = (splL q).length := by omega
        subst hkk
        have hkl' : ¬ (((splL q).length : Int) < ((splL q).length : Int)) := by omega
        rw [List.take_length]
        cases hA : (splL q).all (hasW t.s) with
        | true =>
          rw [hA, if_pos rfl] at hsn
          simp [ev_seq, ev_cond2, ev_exit, ev_region2, evOps_nil, evOps_cons, opG_none, opA_move, opA_bin, opA_load, opA_indexAddr, opA_fieldAddr, opA_nilCheck, opA_len, opA_buildSlice, opA_append, putO_some, putH_lt, condB_true, condB_false, binT_some, binA, avO_some, loadT, nilCheckT, lenT_row, fieldAddrT, indexAddrT, buildSliceT, appendT, repeatL_1, io_lss, opS, opV, Go.Mx.look, seqK, blockK, Fr.known, mapO, cellsA_agg, okPart_agg, partA, loadA, loadS, plusS, indexAddrA, nilCheckS, fillA, mkFr, slotsOf, ptrsOf, boxesOf, bindO, srcTy, orO_some, eqT_some, tk3, sz43, ag43, st43, Tryd.underlying43, Tryd.underlying45, Tryd.underlying57, sz76, ag76, by76, ze76, hc2, hlt', hidI, g3, g4, t3C_len]
          refine ho.app (c := t3C t) (t3C_len t) ⟨by omega, by omega⟩ (fun v1 H4 ho4 hs4 hi4 => ?_)
          simp [ev_region2, evOps_nil, evOps_cons, opG_none, opA_move, opA_assign, opA_bin, putO_some, putH_lt, putC_lt, binT_some, binA, avO_some, io_add, opS, opV, Go.Mx.look, seqK, blockK, mapO, headK, getV, getB, chkP, orO_some, eqT_some, tk3, w1]
          exact ⟨L.length - (i + 1), by omega, i + 1, v1, by omega, rfl, by simp, by rw [hsn]; simpa using ho4, hs2.new hs4 hv, fun j hj => by
            rcases hi4 with e | e
            · rw [e] at hj; exact hv j hj
            · rw [e] at hj; simp at hj; have := hs2.1; omega⟩
        | false =>
          rw [hA, if_neg (by simp), List.append_nil] at hsn
          simp [ev_skip, ev_seq, ev_cond2, ev_exit, ev_region2, evOps_nil, evOps_cons, opG_none, opA_move, opA_assign, opA_bin, opA_len, putO_some, putH_lt, condB_false, binT_some, binA, avO_some, lenT_row, io_add, io_lss, opS, opV, Go.Mx.look, seqK, blockK, Fr.known, mapO, headK, getV, getB, chkP, mkFr, slotsOf, ptrsOf, boxesOf, orO_some, eqT_some, tk3, Tryd.underlying57, w1]
          exact ⟨L.length - (i + 1), by omega, i + 1, v, by omega, rfl, by simp, by rw [hsn]; exact ho, hs2, hv⟩
    · have hii : i = L.length := by omega
      subst hii
      have hlt' : ¬ ((L.length : Int) < (L.length : Int)) := by omega
      rw [List.take_length] at ho hfl
      simp [ev_seq, ev_cond2, ev_block, ev_exit, ev_region2, ev_loop, loopK, evOps_nil, evOps_cons, opG_none, opA_move, opA_assign, opA_bin, opA_load, opA_fieldAddr, opA_nilCheck, opA_len, putO_some, putH_lt, condB_false, binT_some, binA, avO_some, loadT, nilCheckT, fieldAddrT, io_lss, opS, opV, Go.Mx.look, seqK, blockK, Fr.known, mapO, partA, loadA, loadS, plusS, nilCheckS, headK, getV, getB, chkP, mkFr, slotsOf, ptrsOf, boxesOf, firstReg, orO_some, eqT_some, tk3, sz43, ag43, Tryd.underlying43, Tryd.underlying45, hc2, hln2]
      refine LoopC.intro (fun n xs _ H3 => P3Inv H L q lim n xs H3) (foundT L q).length ⟨[], foundT L q, v, .v (.slice none 0 0), Sel.start _, rfl, rfl, ho, NewK.nil _ _ _, by simp [slId], hv, hs2, .inr rfl⟩ ?_
      have hFl := hfl
      clear ho hfl hv hs2 hr2 hc2 hln2
      rintro n xs bs H3 ⟨out, left, v, w, hsel, rfl, rfl, ho, hk, hdis, hv, hs3, hlim⟩
      have hcnt : out.length + left.length = (foundT L q).length := by
        have := hsel.p.length_eq
        rw [List.length_append] at this; exact this
      have hlnv := ho.lenT
      have hlnw := hk.lenT
      have fin : (left = [] ∨ lim ≤ (out.length : Int)) → Same [] H H3 ∧ ∃ k n cs, NewK k H H3 n cs w ∧ (∀ c ∈ cs, Low 0 c) ∧ Q (.row false n cs) H := fun he => by
        have hd := hsel.done hids hnil he hlim
        refine ⟨hs3, 1, _, _, hk, txC_cells _, ?_⟩
        have e : out.length = (findF L q lim).length := by rw [← hd, List.length_map]
        rw [e, hd]
        exact h
      by_cases hle : left = []
      · have h0 : ¬ ((0 : Int) < (left.length : Int)) := by rw [hle]; simp
        have h0n : ¬ (0 < left.length) := by rw [hle]; simp
        simp [ev_seq, ev_cond2, ev_exit, ev_ret, ev_region2, evOps_nil, evOps_cons, opG_none, opG_some, opJ, opU_ft, isU_bool, opA_move, opA_assign, opA_pick, opA_bin, opA_len, putO_some, putH_lt, putV_lt, condB_false, binT_some, binA, avO_some, pickT, io_gtr, opS, opV, Go.Mx.look, seqK, blockK, Fr.known, retK, retA, resA, mapO, mkFr, slotsOf, ptrsOf, boxesOf, orO_some, eqT_some, tk3, Tryd.underlying43, hlnv, hle]
        exact fin (.inl hle)
      · have hl0 : 0 < left.length := List.length_pos_iff.2 hle
        have h0 : (0 : Int) < (left.length : Int) := by omega
        by_cases hol : lim ≤ (out.length : Int)
        · have hol' : ¬ ((out.length : Int) < lim) := by omega
          simp [ev_seq, ev_cond2, ev_exit, ev_ret, ev_region2, evOps_nil, evOps_cons, opG_none, opG_some, opJ, opU_ft, isU_bool, opK_eq, opA_move, opA_assign, opA_pick, opA_bin, opA_len, putO_some, putH_lt, condB_true, condB_false, binT_some, binA, avO_some, pickT, io_lss, io_gtr, opS, opV, Go.Mx.look, seqK, blockK, Fr.known, retK, retA, resA, mapO, mkFr, slotsOf, ptrsOf, boxesOf, orO_some, eqT_some, tk3, Tryd.underlying23, Tryd.underlying43, hlnv, hlnw, hl0, hol']
          exact fin (.inr hol)
        · have hol' : (out.length : Int) < lim := by omega
          clear fin
          obtain ⟨idv, ver, tl, rfl, hid⟩ := ho.all3 hle
          have hat3 := fun {i : Nat} {t : Tx3} (ht : left[i]? = some t) => at3 tl ht
          simp [ev_skip, ev_seq, ev_cond2, ev_block, ev_region2, ev_loop, loopK, evOps_nil, evOps_cons, opG_none, opG_some, opJ, opU_ft, isU_bool, opK_eq, opA_move, opA_assign, opA_pick, opA_bin, opA_len, putO_some, putH_lt, condB_true, binT_some, binA, avO_some, pickT, io_lss, io_gtr, opS, opV, Go.Mx.look, seqK, Fr.known, mapO, headK, getV, getB, chkP, mkFr, slotsOf, ptrsOf, boxesOf, firstReg, orO_some, eqT_some, tk3, Tryd.underlying23, Tryd.underlying43, hlnv, hlnw, hl0, hol']
          refine LoopC.intro (fun n xs _ H4 => P4Inv H3 left lim (.sl idv ver 3 0 left.length) w n xs H4) (left.length - 1) ⟨1, 0, by omega, Best.start hl0, by simp, rfl⟩ ?_
          rintro n xs bs H4 ⟨i, k, rfl, hbest, rfl, rfl⟩
          by_cases hil : i < left.length
          · obtain ⟨x, hx⟩ : ∃ x, left[i]? = some x := ⟨_, List.getElem?_eq_getElem hil⟩
            obtain ⟨t, ht⟩ : ∃ t, left[k]? = some t := ⟨_, List.getElem?_eq_getElem hbest.1⟩
            obtain ⟨x0, x1, x2, _, _⟩ := hat3 hx
            obtain ⟨t0, t1, t2, _, _⟩ := hat3 ht
            generalize hcv : left.flatMap t3C ++ tl = cv at hid x0 x1 x2 t0 t1 t2
            have hil' : (i : Int) < (left.length : Int) := by omega
            have hkl := hbest.1
            have hkl' : (k : Int) < (left.length : Int) := by omega
            have wi : IntKind.i64.wrap ((i : Int) + 1) = (i : Int) + 1 := wr_i64 (by omega)
            have keep : ¬ bef x t → ∃ m, m < left.length - i ∧ P4Inv H4 left lim (.sl idv ver 3 0 left.length) w m [.v (.int .i64 lim), .sl idv ver 3 0 left.length, w, .v (.int .i64 (k : Int)), .v (.int .i64 ((i : Int) + 1))] H4 := fun hb =>
              ⟨left.length - (i + 1), by omega, i + 1, k, rfl, hbest.keep ht hx hb, by simp, rfl⟩
            have turn : bef x t → ∃ m, m < left.length - i ∧ P4Inv H4 left lim (.sl idv ver 3 0 left.length) w m [.v (.int .i64 lim), .sl idv ver 3 0 left.length, w, .v (.int .i64 (i : Int)), .v (.int .i64 ((i : Int) + 1))] H4 := fun hb =>
              ⟨left.length - (i + 1), by omega, i + 1, i, rfl, hbest.turn ht hx hb, by simp, rfl⟩
            have f1 : Op.bytesLess (tx x.id).toList (tx t.id).toList = decide (x.id < t.id) := by rw [Go.Proofs.bytesLess_eq, tx_list, tx_list]
            have f2 : ((tx x.id).toList == (tx t.id).toList) = decide (x.id = t.id) := tx_eq _ _
            by_cases c1 : t.ts < x.ts
            · simp [ev_skip, ev_seq, ev_cond2, ev_block, ev_region2, evOps_nil, evOps_cons, opG_none, opG_some, opJ, opU_true, opU_ff, isU_undef, isU_bool, opA_move, opA_assign, opA_pick, opA_bin, opA_load, opA_indexAddr, opA_fieldAddr, opA_len, putO_some, putH_lt, putV_lt, condB_true, binT_some, binA, avO_some, pickT, loadT, lenT_sl, fieldAddrT, indexAddrT, io_add, io_lss, io_gtr, opS, opV, Go.Mx.look, seqK, blockK, Fr.known, mapO, partA, loadA, loadS, plusS, indexAddrA, headK, getV, getB, chkP, mkFr, slotsOf, ptrsOf, boxesOf, orO_some, eqT_some, ev_draw, drawK, evP_nil, evP_q, opAt_some, sz2, ag2, tk2, tk3, Tryd.underlying43, sz76, Tryd.underlying76, hil', hkl', hid, x1, t1, wi, c1]
              exact turn (.inl c1)
            · by_cases c2 : x.ts = t.ts
              · rcases tri x.id t.id with c3 | c3 | c3
                · rw [decide_eq_true c3] at f1
                  simp [ev_skip, ev_seq, ev_cond2, ev_block, ev_region2, evOps_nil, evOps_cons, opG_none, opG_some, opJ, opU_ft, opU_ff, isU_bool, opK_eq, opA_move, opA_assign, opA_pick, opA_bin, opA_load, opA_indexAddr, opA_fieldAddr, opA_len, putO_some, putH_lt, condB_true, condB_false, binT_some, binA, avO_some, pickT, loadT, lenT_sl, fieldAddrT, indexAddrT, io_add, io_eql, io_lss, io_gtr, strOp, opS, opV, Go.Mx.look, seqK, blockK, Fr.known, mapO, partA, loadA, loadS, plusS, indexAddrA, headK, getV, getB, chkP, mkFr, slotsOf, ptrsOf, boxesOf, orO_some, eqT_some, ev_draw, drawK, evP_nil, evP_q, opAt_some, sz2, ag2, tk2, tk3, sz9, ag9, tk9, Tryd.underlying43, sz76, Tryd.underlying76, hil', hkl', hid, x0, x1, t0, t1, wi, c2, f1]
                  exact keep (by rintro (hb | ⟨_, hb⟩); exact c1 hb; exact List.lt_irrefl _ (List.lt_trans c3 hb))
                · rw [decide_eq_true c3] at f2
                  simp [ev_skip, ev_seq, ev_cond2, ev_block, ev_region2, evOps_nil, evOps_cons, opG_none, opG_some, opJ, opU_ft, opU_ff, isU_bool, opK_eq, opA_move, opA_assign, opA_pick, opA_bin, opA_load, opA_indexAddr, opA_fieldAddr, opA_len, putO_some, putH_lt, condB_true, condB_false, binT_some, binA, avO_some, pickT, loadT, lenT_sl, fieldAddrT, indexAddrT, io_add, io_eql, io_lss, io_gtr, strOp, opS, opV, Go.Mx.look, seqK, blockK, Fr.known, mapO, partA, loadA, loadS, plusS, indexAddrA, headK, getV, getB, chkP, mkFr, slotsOf, ptrsOf, boxesOf, orO_some, eqT_some, ev_draw, drawK, evP_nil, evP_q, opAt_some, sz2, ag2, tk2, tk3, sz9, ag9, tk9, Tryd.underlying43, sz76, Tryd.underlying76, hil', hkl', hid, x0, x1, t0, t1, wi, c2, f2]
                  exact keep (by rintro (hb | ⟨_, hb⟩); exact c1 hb; rw [c3] at hb; exact List.lt_irrefl _ hb)
                · rw [decide_eq_false (fun hh => List.lt_irrefl _ (List.lt_trans c3 hh))] at f1
                  rw [decide_eq_false (fun hh => by rw [hh] at c3; exact List.lt_irrefl _ c3)] at f2
                  simp [ev_skip, ev_seq, ev_cond2, ev_block, ev_region2, evOps_nil, evOps_cons, opG_none, opG_some, opJ, opU_ft, opU_ff, isU_bool, opK_eq, opA_move, opA_assign, opA_pick, opA_bin, opA_load, opA_indexAddr, opA_fieldAddr, opA_len, putO_some, putH_lt, condB_true, condB_false, binT_some, binA, avO_some, pickT, loadT, lenT_sl, fieldAddrT, indexAddrT, io_add, io_eql, io_lss, io_gtr, strOp, opS, opV, Go.Mx.look, seqK, blockK, Fr.known, mapO, partA, loadA, loadS, plusS, indexAddrA, headK, getV, getB, chkP, mkFr, slotsOf, ptrsOf, boxesOf, orO_some, eqT_some, ev_draw, drawK, evP_nil, evP_q, opAt_some, sz2, ag2, tk2, tk3, sz9, ag9, tk9, Tryd.underlying43, sz76, Tryd.underlying76, hil', hkl', hid, x0, x1, t0, t1, wi, c2, f1, f2]
                  exact turn (.inr ⟨c2.symm, c3⟩)
              · simp [ev_skip, ev_seq, ev_cond2, ev_block, ev_region2, evOps_nil, evOps_cons, opG_none, opG_some, opJ, opU_ft, opU_ff, isU_bool, opK_eq, opA_move, opA_assign, opA_pick, opA_bin, opA_load, opA_indexAddr, opA_fieldAddr, opA_len, putO_some, putH_lt, putV_lt, condB_true, condB_false, CondP_false, binT_some, binA, avO_some, pickT, loadT, lenT_sl, fieldAddrT, indexAddrT, io_add, io_eql, io_lss, io_gtr, opS, opV, Go.Mx.look, seqK, blockK, Fr.known, mapO, partA, loadA, loadS, plusS, indexAddrA, headK, getV, getB, chkP, mkFr, slotsOf, ptrsOf, boxesOf, orO_some, eqT_some, ev_draw, drawK, evP_nil, evP_q, opAt_some, sz2, ag2, tk2, tk3, Tryd.underlying43, sz76, Tryd.underlying76, hil', hkl', hid, x1, t1, wi, c1, c2]
                exact keep (by rintro (hb | ⟨hb, _⟩); exact c1 hb; exact c2 hb.symm)
          · have hil' : ¬ ((i : Int) < (left.length : Int)) := by omega
            obtain ⟨A, t, B, hL, hA, hbt⟩ := hbest.done (by omega)
            have hkl := hbest.1
            have hkl' : (k : Int) < (left.length : Int) := by omega
            have ht : left[k]? = some t := by rw [hL, ← hA]; simp
            obtain ⟨t0, t1, t2, _, _⟩ := hat3 ht
            simp [ev_seq, ev_cond2, ev_exit, ev_region2, evOps_nil, evOps_cons, opG_none, opA_move, opA_bin, opA_load, opA_indexAddr, opA_fieldAddr, opA_len, opA_buildSlice, opA_append, putO_some, putH_lt, condB_false, binT_some, binA, avO_some, loadT, lenT_sl, fieldAddrT, indexAddrT, buildSliceT, appendT, io_lss, opS, opV, Go.Mx.look, seqK, blockK, Fr.known, mapO, cellsA_v, okPart_v, Value.oneCell', partA, loadA, loadS, plusS, indexAddrA, fillA, mkFr, slotsOf, ptrsOf, boxesOf, bindO, srcTy, orO_some, eqT_some, tk3, sz9, ag9, by9, ze9, st23, Tryd.underlying23, Tryd.underlying43, sz76, Tryd.underlying76, hil', hkl', hid, t0]
            refine newK_app2 hk (c := txC t.id) rfl hs3.1 ⟨by omega, by omega⟩ (fun w5 H5 hk5 hs5 hi5 => ?_)
            have hwid := newK_id hk
            have hidw : idv ∉ slId w := fun hm => hdis idv hm (by simp [slId])
            have hid5 := hs5.2 _ _ hid hidw
            have hs35 : Same [] H H5 := hs3.new hs5 (fun j hj => (hwid j hj).1)
            have hw5 := newK_id hk5
            subst hL
            subst hA
            have hl1 : (A ++ t :: B).length = A.length + (B.length + 1) := by simp
            have hl2 : (A ++ B).length = A.length + B.length := by simp
            have wk : IntKind.i64.wrap ((A.length : Int) + 1) = (A.length : Int) + 1 := wr_i64 (by omega)
            have ss1 : sliceSl 3 idv ver 3 0 (A ++ t :: B).length 0 (A.length : Int) = some (.sl idv ver 3 0 A.length) := slice_hi (by omega) (by omega) (by omega)
            obtain ⟨v8, e2, hsh, hcut⟩ := cut2 idv ver A B t
            rw [show ((A.length + 1 : Nat) : Int) = (A.length : Int) + 1 by omega] at e2
            have hstep := hsel.step hbt
            have fin : ∀ v1 H6 v2 H7, (∀ j ∈ slId v1, H5.length ≤ j) → Same [] H5 H6 → OwnS 3 H7 (A ++ B).length ((A ++ B).flatMap t3C) v2 → Same (slId v1) H6 H7 → (slId v2 = slId v1 ∨ slId v2 = [H6.length]) → ∃ m, m < (A ++ t :: B).length ∧ P3Inv H L q lim m [.v (.int .i64 lim), v2, w5] H7 := fun v1 H6 v2 H7 hv1 hs6 ho7 hs7 hi7 => by
              have hs57 : Same [] H5 H7 := hs6.new hs7 hv1
              have hv2 : ∀ j ∈ slId v2, H5.length ≤ j := fun j hj => by
                rcases hi7 with e | e
                · rw [e] at hj; exact hv1 j hj
                · rw [e] at hj; simp at hj; have := hs6.1; omega
              refine ⟨(A ++ B).length, by omega, out ++ [t], A ++ B, v2, w5, hstep, rfl, rfl, ho7, ?_, fun j hj hm => ?_, fun j hj => ?_, hs35.trans hs57 (by simp), .inl ?_⟩
              · have := newK_same2 hk5 hs57 (by simp)
                simpa using this
              · have h1 := (hw5 j hj).2
                have h2 := hv2 j hm
                omega
              · have h2 := hv2 j hj
                have := hs35.1
                omega
              · simp; omega
            generalize hlen : (A ++ t :: B).length = N at *
            simp [evOps_nil, evOps_cons, opG_none, opA_move, opA_assign, opA_bin, opA_buildSlice, opA_append, opA_slice, putO_some, putH_lt, putC_lt, binT_some, binA, avO_some, buildSliceT, appendT, bndT, sliceT, repeatL_0, io_add, opS, opV, Go.Mx.look, seqK, mapO, sliceA, fillA, bindO, srcTy, orO_some, eqT_some, ev_draw, drawK, evP_q, evP_s, opAt_some, tk3, st43, Tryd.underlying43, sz76, by76, ze76, ss1, wk, e2]
            refine cut1 hid5 ⟨by omega, by omega⟩ (fun v1 H6 ho6 hs6 hv1 => ?_)
            have hid6 := hs6.2 _ _ hid5 (by simp)
            rcases hsh with ⟨off, m, rfl⟩ | rfl
            · simp [opG_none, opA_append, putC_lt, binT_some, binA, avO_some, appendT, bndT, sliceT, io_add, opS, opV, Go.Mx.look, sliceA, srcTy, orO_some, eqT_some, evP_s, opAt_some, chkK_eq, sameV_some, sameO_some, allQ_nil, allQ_cons, valQ_none, valS_move, valS_bin, valS_slice, tk3, st43, Tryd.underlying43, sz76, by76, ze76, e2, wk]
              refine hcut H6 v1 40 tl _ hid6 ho6 ⟨by omega, by omega⟩ (fun v2 H7 ho7 hs7 hi7 => ?_)
              simp [opG_none, opA_assign, putO_some, putH_lt, putC_lt, opS, opV, Go.Mx.look, seqK, blockK, mapO, headK, getV, getB, chkP, evP_nil, evP_s, opAt_some, chkK_eq, allQ_nil]
              exact fin v1 H6 v2 H7 hv1 hs6 ho7 hs7 hi7
            · simp [opG_none, opA_append, putC_lt, binT_some, binA, avO_some, appendT, bndT, sliceT, io_add, opS, opV, Go.Mx.look, sliceA, srcTy, orO_some, eqT_some, evP_s, opAt_some, chkK_eq, sameV_some, sameO_some, allQ_nil, allQ_cons, valQ_none, valS_move, valS_bin, valS_slice, tk3, st43, Tryd.underlying43, sz76, by76, ze76, e2, wk]
              refine hcut H6 v1 40 tl _ hid6 ho6 ⟨by omega, by omega⟩ (fun v2 H7 ho7 hs7 hi7 => ?_)
              simp [opG_none, opA_assign, putO_some, putH_lt, putC_lt, opS, opV, Go.Mx.look, seqK, blockK, mapO, headK, getV, getB, chkP, evP_nil, evP_s, opAt_some, chkK_eq, allQ_nil]
              exact fin v1 H6 v2 H7 hv1 hs6 ho7 hs7 hi7
end Go.Proofs.YtoakdmkjlpjahaaDoor

namespace Go.Proofs.YtoakdmkjlpjahaaDoor
open Go.Mx
set_option linter.unusedVariables false
set_option linter.unusedSimpArgs false
set_option linter.unnecessarySimpa false
set_option maxRecDepth 100000

/-! ### SearchPlays -/
theorem IxAt.ok {N : Nat} {H : Hp} {a : Nat} {L : List Tx3} {fp : List Nat} (h : IxAt N H a L fp) : LOk N L := by
  obtain ⟨_, _, _, _, _, _, h3, _⟩ := h
  exact h3
/-- The program's index and the document's, apart. -/
structure Pair (H : Hp) (a b : Nat) (L : List Tx3) (fp fq : List Nat) : Prop where
  a : IxAt 60 H a L fp
  b : RfAt H b L fq
  d : ∀ j ∈ fp, j ∉ fq
theorem Pair.left {H H' : Hp} {a b : Nat} {L L' : List Tx3} {fp fp' fq : List Nat} (h : Pair H a b L fp fq) (h1 : IxAt 60 H' a L' fp') (hs : Same fp H H') (hf : ∀ j ∈ fp', j ∈ fp ∨ H.length ≤ j) : RfAt H' b L fq ∧ (∀ j ∈ fp', j ∉ fq) :=
  ⟨h.b.same hs (fun j hj hm => h.d j hm hj), fun j hj hm => (hf j hj).elim (fun hj => h.d j hj hm) (fun hj => by have := h.b.lt j hm; omega)⟩
theorem Pair.right {H H' : Hp} {a b : Nat} {L L' : List Tx3} {fp fq fq' : List Nat} (h1 : IxAt 60 H a L' fp) (hb : RfAt H b L fq) (hd : ∀ j ∈ fp, j ∉ fq) (h2 : RfAt H' b L' fq') (hs : Same fq H H') (hf : ∀ j ∈ fq', j ∈ fq ∨ H.length ≤ j) : Pair H' a b L' fp fq' :=
  ⟨h1.same hs (fun j hj => hd j hj), h2, fun j hj hm => (hf j hm).elim (fun hm => hd j hj hm) (fun hm => by have := h1.lt j hj; omega)⟩
def PlInv (l : List De) (w : LB) (cs : List AV) (a b : Nat) (n : Nat) (xs : List AV) (H2 : Hp) : Prop :=
  ∃ (i : Nat) (fp fq : List Nat), i ≤ l.length ∧ n = l.length - i ∧ xs = [.row false l.length cs, .v (.string (tx w)), .ptr a 0 0, .ptr b 0 0, .v (.int .i64 (i : Int))] ∧ Pair H2 a b (builtL (l.take i)) fp fq ∧ Tb H2
set_option maxHeartbeats 4000000 in
theorem plays_sp (l : List De) (w : LB) (H : Hp) (hT : Tb H) : Sp Tryd.prog 6 [rowD l, .v (.string (tx w))] (fun v _ => v = .v (.bool true)) H := by
  refine Sp.body [(5, ⟨[0, 1, 5, 6, 7], [], []⟩)] ⟨[8], [], pl6⟩ tb6 mo Tryd.func6 rfl (Nat.le_of_ble_eq_true rfl) (by kernel_rfl) ?_
  simp [ev_seq, ev_region2, evOps_nil, evOps_cons, opG_none, opA_move, opA_assign, opA_call, putO_some, putH_lt, opS, opV, Go.Mx.look, fr0, argSlots, seqK, mapO, callA, ok13, pl6, rowD]
  refine few_sp l false H _ (fun hf => ?_) (fun _ => by simp [ev_seq, ev_cond2, ev_ret, ev_region2, evOps_nil, evOps_cons, opG_none, opG_some, opJ, opU_ff, isU_bool, opA_move, opA_assign, opA_pick, opA_un, putO_some, putH_lt, putC_lt, putV_lt, condB_true, pickT, unT, opS, opV, Go.Mx.look, seqK, Fr.known, retK, retA, resA, mapO, unA])
  by_cases hw : w.length ≤ 100
  · have hw' : ¬ ((100 : Int) < (w.length : Int)) := by omega
    have hsz : (tx w).size = w.length := tx_size w
    have lc : (l.flatMap deC).length = l.length * 5 := flat_len deC_len _
    have dg := fun {i : Nat} {d : De} (hx : l[i]? = some d) => de_get hx
    have dsub := fun {i : Nat} {d : De} (hx : l[i]? = some d) => flat_sub deC_len _ _ hx
    generalize l.flatMap deC = cs at lc dg dsub ⊢
    simp [ev_skip, ev_seq, ev_cond2, ev_region2, evOps_nil, evOps_cons, opG_none, opG_some, opJ, opU_ff, isU_bool, opK_eq, opA_move, opA_pick, opA_bin, opA_un, opA_len, opA_call, putO_some, putH_lt, putC_lt, condB_false, binT_some, binA, avO_some, pickT, unT, lenT_str, io_gtr, opS, opV, Go.Mx.look, seqK, Fr.known, mapO, unA, callA, orO_some, eqT_some, tk3, Tryd.underlying9, ok14, hsz, hw']
    refine new_sp 60 H _ (fun a H1 fp hp hs1 hf1 => ?_)
    have hT1 := hT.keep hs1 (by simp) (by simp)
    simp [ev_seq, ev_block, ev_region2, ev_loop, loopK, evOps_nil, evOps_cons, opG_none, opA_assign, opA_box, opA_build, putO_some, putH_lt, putC_lt, boxT, buildZ, partsZ, fillO, aggO, opS, opV, Go.Mx.look, seqK, mapO, cellsA_agg, okPart_agg, fillA, newK, headK, getV, getB, chkP, firstReg, ze45, of45]
    have hb0 : RfAt (H1 ++ [.cells 0 [.v (.slice none 0 0)]]) H1.length [] [H1.length] := ⟨.v (.slice none 0 0), ⟨by simp, OwnS.nil _ _, by simp [slId]⟩, by simp [slId]⟩
    have hs2 : Same [] H1 (H1 ++ [.cells 0 [.v (.slice none 0 0)]]) := Same.app _ _ _
    have hpair : Pair (H1 ++ [.cells 0 [.v (.slice none 0 0)]]) a H1.length [] fp [H1.length] := ⟨hp.same hs2 (by simp), hb0, fun j hj hm => by simp at hm; have := hp.lt j hj; omega⟩
    have hT2 := hT1.keep hs2 (by simp) (by simp)
    generalize H1 ++ [Ob.cells 0 [AV.v (.slice none 0 0)]] = H2 at hpair hT2 ⊢
    generalize H1.length = b at hpair ⊢
    refine LoopC.intro (fun n xs _ H2 => PlInv l w cs a b n xs H2) l.length ⟨0, fp, [b], by omega, by omega, by simp, by simpa [builtL] using hpair, hT2⟩ ?_
    clear hpair hT2 hs2 hb0 hs1 hf1 hT1 hp
    rintro n xs bs H3 ⟨i, fp, fq, hi, rfl, rfl, hpair, hT3⟩
    have h50 := hf.1
    have hbl := builtL_len (l.take i)
    have hbl2 : (l.take i).length ≤ 50 := by simp; omega
    have hok := hpair.a.ok
    by_cases hlt : i < l.length
    · obtain ⟨d, hd⟩ : ∃ d, l[i]? = some d := ⟨_, List.getElem?_eq_getElem hlt⟩
      obtain ⟨g0, g1, g2, g3, g4⟩ := dg hd
      have g5 := dsub hd
      have g6 : i * 5 + 5 ≤ cs.length := by omega
      have hfd := hf.2 d (List.mem_of_getElem? hd)
      have hlt' : (i : Int) < (l.length : Int) := by omega
      have w1 : IntKind.i64.wrap ((i : Int) + 1) = (i : Int) + 1 := wr_i64 (by omega)
      have htk : builtL (l.take (i + 1)) = stepD (builtL (l.take i)) d := by rw [List.take_add_one, hd]; exact builtL_snoc _ _
      by_cases hk0 : d.kind = 0
      · have hsd : stepD (builtL (l.take i)) d = (addL (builtL (l.take i)) (txD d)).2 := by unfold stepD; rw [if_pos hk0]
        simp [ev_skip, ev_seq, ev_cond2, ev_block, ev_region2, evOps_nil, evOps_cons, opG_none, opA_move, opA_assign, opA_bin, opA_load, opA_indexAddr, opA_fieldAddr, opA_len, opA_call, opA_alloc, opA_store, putO_some, putH_lt, putU_none, condB_true, binT_some, binA, avO_some, loadT, lenT_row, fieldAddrT, indexAddrT, allocT, storeT, io_eql, io_lss, opS, opV, Go.Mx.look, seqK, Fr.known, Fr.newBox, dropBp, mapO, callA, cellsA_agg, okPart_agg, partA, loadA, loadS, plusS, indexAddrA, newK, storeS, mkFr, slotsOf, ptrsOf, boxesOf, orO_some, eqT_some, ev_draw, drawK, evP_q, evP_s, opAt_some, sz2, ag2, sz3, ag3, tk3, sz9, ag9, Tryd.underlying27, sz34, ag34, ze34, Tryd.underlying34, ok15, splice, hlt', g5, g6, deC, hk0]
        refine add_sp (txD d) H3 _ hpair.a hT3 (by omega) (by omega) (by have := hfd.2; simp [txD]; omega) (fun H4 fp4 hp4 hs4 hf4 => ?_)
        obtain ⟨hb4, hd4⟩ := hpair.left hp4 hs4 hf4
        have hT4 := hpair.a.tb hT3 hs4
        simp [opG_none, opA_call, putC_lt, loadT, fieldAddrT, opS, opV, Go.Mx.look, mapO, callA, partA, loadS, plusS, evP_s, opAt_some, chkK_eq, sameV_some, sameO_some, allQ_nil, allQ_cons, valQ_none, valS_move, valS_load, valS_fieldAddr, sz2, ag2, sz9, ag9, Tryd.underlying34, ok21]
        refine radd_sp (txD d) H4 _ hb4 (by omega) (fun H5 fq5 hq5 hs5 hf5 => ?_)
        have hpair5 := Pair.right hp4 hb4 hd4 hq5 hs5 hf5
        have hT5 := hb4.tb hT4 hs5
        clear hb4 hd4 hp4 hs4 hf4 hq5 hs5 hf5
        obtain ⟨vR, hrR, _⟩ := hpair5.b
        have hcR := hrR.c
        have hlnR := hrR.o.lenT
        have hokR := hpair5.a.ok
        simp [ev_seq, opG_none, opG_some, opJ, opU_ff, isU_bool, opK_eq, opA_move, opA_assign, opA_bin, opA_un, opA_load, opA_fieldAddr, opA_nilCheck, opA_len, opA_call, putO_some, putH_lt, putC_lt, condB_false, binT_some, binA, avO_some, unT, loadT, nilCheckT, fieldAddrT, io_eql, opS, opV, Go.Mx.look, seqK, blockK, Fr.known, mapO, unA, callA, partA, loadA, loadS, plusS, nilCheckS, orO_some, eqT_some, ev_draw, drawK, evP_nil, evP_q, evP_s, opAt_some, chkK_eq, allQ_nil, tk31, sz43, ag43, Tryd.underlying43, Tryd.underlying45, ok17, hcR, hlnR]
        refine len_sp _ _ hpair5.a ?_
        simp [opG_none, opG_some, opJ, opU_ff, isU_bool, valU_false, opK_eq, opA_move, opA_pick, opA_bin, opA_call, putO_some, putH_lt, putC_lt, condB_false, binT_some, binA, avO_some, pickT, loadT, nilCheckT, fieldAddrT, io_neq, opS, opV, Go.Mx.look, Fr.known, mapO, callA, partA, loadA, loadS, plusS, nilCheckS, orO_some, eqT_some, evP_q, evP_s, opAt_some, chkK_eq, sameV_some, sameO_some, allQ_nil, allQ_cons, valJ, valQ_some, valS_move, valS_load, valS_fieldAddr, valS_nilCheck, valS_len, tk3, sz43, ag43, Tryd.underlying43, Tryd.underlying45, ok20, hcR, hlnR]
        refine texts_sp w _ _ hpair5.a ?_
        simp [opG_some, opJ, opU_ff, isU_bool, valU_false, opK_eq, opA_call, putC_lt, condB_false, opS, opV, Go.Mx.look, Fr.known, mapO, callA, evP_s, opAt_some, chkK_eq, sameV_some, sameO_some, allQ_nil, allQ_cons, valJ, valQ_some, valS_move, ok25]
        refine rtexts_sp w _ _ hpair5.b (by have := hokR.few; omega) (fun t ht => by have := hokR.sm t ht; omega) ?_
        simp [ev_skip, ev_cond2, ev_region2, evOps_nil, evOps_cons, opG_none, opG_some, opJ, opU_ff, isU_bool, opK_eq, opA_move, opA_assign, opA_pick, opA_bin, putO_some, putH_lt, putC_lt, condB_false, binT_some, binA, avO_some, pickT, io_add, io_neq, opS, opV, Go.Mx.look, seqK, blockK, Fr.known, mapO, headK, getV, getB, chkP, orO_some, eqT_some, evP_nil, evP_q, opAt_some, chkK_eq, allQ_nil, tk3, w1]
        exact ⟨l.length - (i + 1), by omega, i + 1, _, _, by omega, rfl, by simp, by rw [htk, hsd]; exact hpair5, hT5⟩
      · by_cases hk1 : d.kind = 1
        · have hsd : stepD (builtL (l.take i)) d = remL (builtL (l.take i)) d.id := by unfold stepD; rw [if_neg hk0, if_pos hk1]
          simp [ev_skip, ev_seq, ev_cond2, ev_block, ev_region2, evOps_nil, evOps_cons, opG_none, opA_move, opA_assign, opA_bin, opA_load, opA_indexAddr, opA_fieldAddr, opA_len, opA_call, opA_alloc, opA_store, putO_some, putH_lt, putU_none, condB_true, condB_false, binT_some, binA, avO_some, loadT, lenT_row, fieldAddrT, indexAddrT, allocT, storeT, io_eql, io_lss, opS, opV, Go.Mx.look, seqK, Fr.known, Fr.newBox, dropBp, mapO, callA, cellsA_agg, okPart_agg, partA, loadA, loadS, plusS, indexAddrA, newK, storeS, mkFr, slotsOf, ptrsOf, boxesOf, orO_some, eqT_some, ev_draw, drawK, evP_q, evP_s, opAt_some, sz3, ag3, tk3, sz9, ag9, Tryd.underlying27, sz34, ag34, ze34, Tryd.underlying34, ok22, splice, hlt', g5, g6, deC, hk1]
          refine remove_sp d.id H3 _ hpair.a (by omega) (fun H4 fp4 hp4 hs4 hf4 => ?_)
          obtain ⟨hb4, hd4⟩ := hpair.left hp4 hs4 (fun j hj => .inl (hf4 j hj))
          have hT4 := hpair.a.tb hT3 hs4
          simp [opG_none, opA_call, putC_lt, loadT, fieldAddrT, opS, opV, Go.Mx.look, mapO, callA, partA, loadS, plusS, evP_s, opAt_some, chkK_eq, sameV_some, sameO_some, allQ_nil, allQ_cons, valQ_none, valS_move, valS_load, valS_fieldAddr, sz9, ag9, Tryd.underlying34, ok23]
          refine rrem_sp d.id H4 _ hb4 hok.ids (by omega) (fun H5 fq5 hq5 hs5 hf5 => ?_)
          have hpair5 := Pair.right hp4 hb4 hd4 hq5 hs5 hf5
          have hT5 := hb4.tb hT4 hs5
          clear hb4 hd4 hp4 hs4 hf4 hq5 hs5 hf5
          obtain ⟨vR, hrR, _⟩ := hpair5.b
          have hcR := hrR.c
          have hlnR := hrR.o.lenT
          have hokR := hpair5.a.ok
          simp [ev_seq, opG_none, opG_some, opJ, opU_ff, isU_bool, opK_eq, opA_move, opA_assign, opA_bin, opA_un, opA_load, opA_fieldAddr, opA_nilCheck, opA_len, opA_call, putO_some, putH_lt, putC_lt, condB_false, binT_some, binA, eqRef, avO_some, unT, loadT, nilCheckT, fieldAddrT, opS, opV, Go.Mx.look, seqK, blockK, Fr.known, mapO, unA, callA, partA, loadA, loadS, plusS, nilCheckS, orO_some, eqT_some, ev_draw, drawK, evP_nil, evP_q, evP_s, opAt_some, chkK_eq, allQ_nil, tk4, sz43, ag43, Tryd.underlying43, Tryd.underlying45, ok17, hcR, hlnR]
          refine len_sp _ _ hpair5.a ?_
          simp [opG_none, opG_some, opJ, opU_ff, isU_bool, valU_false, opK_eq, opA_move, opA_pick, opA_bin, opA_call, putO_some, putH_lt, putC_lt, condB_false, binT_some, binA, avO_some, pickT, loadT, nilCheckT, fieldAddrT, io_neq, opS, opV, Go.Mx.look, Fr.known, mapO, callA, partA, loadA, loadS, plusS, nilCheckS, orO_some, eqT_some, evP_q, evP_s, opAt_some, chkK_eq, sameV_some, sameO_some, allQ_nil, allQ_cons, valJ, valQ_some, valS_move, valS_load, valS_fieldAddr, valS_nilCheck, valS_len, tk3, sz43, ag43, Tryd.underlying43, Tryd.underlying45, ok20, hcR, hlnR]
          refine texts_sp w _ _ hpair5.a ?_
          simp [opG_some, opJ, opU_ff, isU_bool, valU_false, opK_eq, opA_call, putC_lt, condB_false, opS, opV, Go.Mx.look, Fr.known, mapO, callA, evP_s, opAt_some, chkK_eq, sameV_some, sameO_some, allQ_nil, allQ_cons, valJ, valQ_some, valS_move, ok25]
          refine rtexts_sp w _ _ hpair5.b (by have := hokR.few; omega) (fun t ht => by have := hokR.sm t ht; omega) ?_
          simp [ev_skip, ev_cond2, ev_region2, evOps_nil, evOps_cons, opG_none, opG_some, opJ, opU_ff, isU_bool, opK_eq, opA_move, opA_assign, opA_pick, opA_bin, putO_some, putH_lt, putC_lt, condB_false, binT_some, binA, avO_some, pickT, io_add, io_neq, opS, opV, Go.Mx.look, seqK, blockK, Fr.known, mapO, headK, getV, getB, chkP, orO_some, eqT_some, evP_nil, evP_q, opAt_some, chkK_eq, allQ_nil, tk3, w1]
          exact ⟨l.length - (i + 1), by omega, i + 1, _, _, by omega, rfl, by simp, by rw [htk, hsd]; exact hpair5, hT5⟩
        · have hsd : stepD (builtL (l.take i)) d = builtL (l.take i) := by unfold stepD; rw [if_neg hk0, if_neg hk1]
          by_cases hk2 : d.kind = 2
          · simp [ev_skip, ev_seq, ev_cond2, ev_block, ev_region2, evOps_nil, evOps_cons, opG_none, opA_move, opA_assign, opA_bin, opA_load, opA_indexAddr, opA_fieldAddr, opA_len, opA_call, opA_alloc, opA_store, putO_some, putH_lt, putU_none, condB_true, condB_false, binT_some, binA, avO_some, loadT, lenT_row, fieldAddrT, indexAddrT, allocT, storeT, io_eql, io_lss, opS, opV, Go.Mx.look, seqK, Fr.known, Fr.newBox, dropBp, mapO, callA, cellsA_agg, okPart_agg, partA, loadA, loadS, plusS, indexAddrA, newK, storeS, mkFr, slotsOf, ptrsOf, boxesOf, orO_some, eqT_some, ev_draw, drawK, evP_q, evP_s, opAt_some, sz3, ag3, tk3, sz9, ag9, Tryd.underlying27, sz34, ag34, ze34, Tryd.underlying34, ok16, splice, hlt', g5, g6, deC, hk2]
            refine find_sp d.text d.lim H3 _ hpair.a hT3 (by omega) (by have := hfd.2; omega) ?_
            simp [opG_none, opA_call, putC_lt, loadT, fieldAddrT, opS, opV, Go.Mx.look, mapO, callA, partA, loadS, plusS, evP_s, opAt_some, chkK_eq, sameV_some, sameO_some, allQ_nil, allQ_cons, valQ_none, valS_move, valS_load, valS_fieldAddr, rowT, sz3, ag3, sz9, ag9, Tryd.underlying34, ok24]
            refine rfind_sp d.text d.lim H3 _ hpair.b hok.ids (by omega) (fun t ht => by have := hok.sm t ht; omega) (by have := hfd.2; omega) ?_
            have hfl := findF_le (builtL (l.take i)) d.text d.lim
            simp [opG_none, opA_call, putC_lt, opS, opV, Go.Mx.look, mapO, callA, evP_s, opAt_some, chkK_eq, allQ_nil, rowT, ok9, rowT]
            refine strings_sp false false _ _ H3 _ (by omega) ?_
            obtain ⟨vR, hrR, _⟩ := hpair.b
            have hcR := hrR.c
            have hlnR := hrR.o.lenT
            have hokR := hpair.a.ok
            simp [ev_seq, opG_none, opG_some, opJ, opU_ff, isU_bool, opK_eq, opA_move, opA_assign, opA_un, opA_load, opA_fieldAddr, opA_nilCheck, opA_len, opA_call, putO_some, putH_lt, putC_lt, condB_false, unT, loadT, nilCheckT, fieldAddrT, opS, opV, Go.Mx.look, seqK, blockK, Fr.known, mapO, unA, callA, partA, loadA, loadS, plusS, nilCheckS, ev_draw, drawK, evP_nil, evP_q, evP_s, opAt_some, chkK_eq, allQ_nil, sz43, ag43, Tryd.underlying43, Tryd.underlying45, ok17, hcR, hlnR]
            refine len_sp _ _ hpair.a ?_
            simp [opG_none, opG_some, opJ, opU_ff, isU_bool, valU_false, opK_eq, opA_move, opA_pick, opA_bin, opA_call, putO_some, putH_lt, putC_lt, condB_false, binT_some, binA, avO_some, pickT, loadT, nilCheckT, fieldAddrT, io_neq, opS, opV, Go.Mx.look, Fr.known, mapO, callA, partA, loadA, loadS, plusS, nilCheckS, orO_some, eqT_some, evP_q, evP_s, opAt_some, chkK_eq, sameV_some, sameO_some, allQ_nil, allQ_cons, valJ, valQ_some, valS_move, valS_load, valS_fieldAddr, valS_nilCheck, valS_len, tk3, sz43, ag43, Tryd.underlying43, Tryd.underlying45, ok20, hcR, hlnR]
            refine texts_sp w _ _ hpair.a ?_
            simp [opG_some, opJ, opU_ff, isU_bool, valU_false, opK_eq, opA_call, putC_lt, condB_false, opS, opV, Go.Mx.look, Fr.known, mapO, callA, evP_s, opAt_some, chkK_eq, sameV_some, sameO_some, allQ_nil, allQ_cons, valJ, valQ_some, valS_move, ok25]
            refine rtexts_sp w _ _ hpair.b (by have := hokR.few; omega) (fun t ht => by have := hokR.sm t ht; omega) ?_
            simp [ev_skip, ev_cond2, ev_region2, evOps_nil, evOps_cons, opG_none, opG_some, opJ, opU_ff, isU_bool, opK_eq, opA_move, opA_assign, opA_pick, opA_bin, putO_some, putH_lt, putC_lt, condB_false, binT_some, binA, avO_some, pickT, io_add, io_neq, opS, opV, Go.Mx.look, seqK, blockK, Fr.known, mapO, headK, getV, getB, chkP, orO_some, eqT_some, evP_nil, evP_q, opAt_some, chkK_eq, allQ_nil, tk3, w1]
            exact ⟨l.length - (i + 1), by omega, i + 1, _, _, by omega, rfl, by simp, by rw [htk, hsd]; exact hpair, hT3⟩
          · simp [ev_skip, ev_seq, ev_cond2, ev_block, ev_region2, evOps_nil, evOps_cons, opG_none, opG_some, opJ, opU_ff, isU_bool, opK_eq, opA_move, opA_assign, opA_bin, opA_un, opA_load, opA_indexAddr, opA_fieldAddr, opA_nilCheck, opA_len, opA_alloc, opA_store, putO_some, putH_lt, putU_none, condB_true, condB_false, CondP_false, binT_some, binA, avO_some, unT, loadT, nilCheckT, lenT_row, fieldAddrT, indexAddrT, allocT, storeT, io_eql, io_lss, opS, opV, Go.Mx.look, seqK, blockK, Fr.known, Fr.newBox, dropBp, unA, cellsA_agg, okPart_agg, partA, loadA, loadS, plusS, indexAddrA, nilCheckS, newK, storeS, mkFr, slotsOf, ptrsOf, boxesOf, orO_some, eqT_some, ev_draw, drawK, evP_q, opAt_some, sz3, ag3, tk3, Tryd.underlying27, sz34, ag34, ze34, Tryd.underlying34, sz43, ag43, Tryd.underlying45, splice, hlt', g5, g6, deC, hk0, hk1, hk2]
            obtain ⟨vR, hrR, _⟩ := hpair.b
            have hcR := hrR.c
            have hlnR := hrR.o.lenT
            have hokR := hpair.a.ok
            simp [opG_some, opJ, opU_ff, isU_bool, opK_eq, opA_len, opA_call, putO_some, putH_lt, condB_false, opS, opV, Go.Mx.look, Fr.known, mapO, callA, evP_q, evP_s, opAt_some, Tryd.underlying43, ok17, hcR, hlnR]
            refine len_sp _ _ hpair.a ?_
            simp [opG_none, opG_some, opJ, opU_ff, isU_bool, valU_false, opK_eq, opA_move, opA_pick, opA_bin, opA_call, putO_some, putH_lt, putC_lt, condB_false, binT_some, binA, avO_some, pickT, loadT, nilCheckT, fieldAddrT, io_neq, opS, opV, Go.Mx.look, Fr.known, mapO, callA, partA, loadA, loadS, plusS, nilCheckS, orO_some, eqT_some, evP_q, evP_s, opAt_some, chkK_eq, sameV_some, sameO_some, allQ_nil, allQ_cons, valJ, valQ_some, valS_move, valS_load, valS_fieldAddr, valS_nilCheck, valS_len, tk3, sz43, ag43, Tryd.underlying43, Tryd.underlying45, ok20, hcR, hlnR]
            refine texts_sp w _ _ hpair.a ?_
            simp [opG_some, opJ, opU_ff, isU_bool, valU_false, opK_eq, opA_call, putC_lt, condB_false, opS, opV, Go.Mx.look, Fr.known, mapO, callA, evP_s, opAt_some, chkK_eq, sameV_some, sameO_some, allQ_nil, allQ_cons, valJ, valQ_some, valS_move, ok25]
            refine rtexts_sp w _ _ hpair.b (by have := hokR.few; omega) (fun t ht => by have := hokR.sm t ht; omega) ?_
            simp [ev_skip, ev_cond2, ev_region2, evOps_nil, evOps_cons, opG_none, opG_some, opJ, opU_ff, isU_bool, opK_eq, opA_move, opA_assign, opA_pick, opA_bin, putO_some, putH_lt, putC_lt, condB_false, binT_some, binA, avO_some, pickT, io_add, io_neq, opS, opV, Go.Mx.look, seqK, blockK, Fr.known, mapO, headK, getV, getB, chkP, orO_some, eqT_some, evP_nil, evP_q, opAt_some, chkK_eq, allQ_nil, tk3, w1]
            exact ⟨l.length - (i + 1), by omega, i + 1, _, _, by omega, rfl, by simp, by rw [htk, hsd]; exact hpair, hT3⟩
    · have hii : i = l.length := by omega
      subst hii
      have hlt' : ¬ ((l.length : Int) < (l.length : Int)) := by omega
      simp [ev_seq, ev_cond2, ev_exit, ev_region2, evOps_nil, evOps_cons, opG_none, opA_move, opA_bin, opA_len, opA_call, putO_some, putH_lt, condB_false, binT_some, binA, avO_some, lenT_row, io_lss, opS, opV, Go.Mx.look, seqK, blockK, Fr.known, mapO, callA, mkFr, slotsOf, ptrsOf, boxesOf, orO_some, eqT_some, tk3, Tryd.underlying27, ok12]
      refine awake_sp _ _ hT3 ?_
      simp [ev_ret, evOps_nil, evOps_cons, opG_none, opA_assign, putO_some, putH_lt, putC_lt, opS, opV, Go.Mx.look, seqK, retK, retA, resA, mapO]
  · have hw' : (100 : Int) < (w.length : Int) := by omega
    have hsz : (tx w).size = w.length := tx_size w
    simp [ev_seq, ev_cond2, ev_ret, ev_region2, evOps_nil, evOps_cons, opG_none, opG_some, opJ, opU_ff, isU_bool, opK_eq, opA_move, opA_assign, opA_pick, opA_bin, opA_un, opA_len, putO_some, putH_lt, putC_lt, condB_true, condB_false, binT_some, binA, avO_some, pickT, unT, lenT_str, io_gtr, opS, opV, Go.Mx.look, seqK, Fr.known, retK, retA, resA, mapO, unA, orO_some, eqT_some, tk3, Tryd.underlying9, hsz, hw']
theorem plays_law (l : List De) (s : ByteArray) (_ : s.size ≤ 140737488351232) : Sp Tryd.prog 6 [rowD l, .v (.string s)] (fun v _ => v = .v (.bool true)) [.tab 0 firstT, .tab 1 acceptT] :=
  plays_sp l (txOf s) _ tb_tabs
end Go.Proofs.YtoakdmkjlpjahaaDoor
