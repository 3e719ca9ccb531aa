import Derived.Test.YtdgdkgfkeinhbaaQ2
import Derived.Test.YtdgdkgfkeinhbaaPP
namespace Go.Proofs.Ytdgdkgfkeinhbaa
open Go.Mx
set_option linter.unusedVariables false
set_option linter.unusedSimpArgs false

theorem token_sp (x : Dd) (D : List ByteArray) (dv : AV) (fp : List Nat) (H : Hp) (Q : AV → Hp → Prop) (hD : Told H D dv fp) (hb : D.length ≤ 1000000) (h : ∀ t, Q (.v (.string t)) H) : Sp Try.prog 14 [.agg (ddC x), dv] Q H := by
  refine Sp.clean (Sp.body [] ⟨[], [], []⟩ [] mo Try.func14 rfl (Nat.le_of_ble_eq_true rfl) (by kernel_rfl) ?_)
  have hlen : ∀ H', lenT H' (some (.slice 9)) (some dv) = some (.av (.v (.int .i64 D.length))) := fun H' => hD.len
  simp [ev_skip, ev_seq, ev_cond2, ev_ret, ev_region2, evOps_nil, evOps_cons, opG_none, opG_some, opJ, opU_ff, isU_bool, opK_eq, opA_move, opA_assign, opA_pick, opA_bin, opA_load, opA_fieldAddr, opA_len, opA_box, putO_some, putH_lt, putV_lt, condB_true, condB_false, binT_some, binA, avO_some, pickT, loadT, fieldAddrT, boxT, io_eql, strOp, opS, opV, Go.Mx.look, fr0, argSlots, seqK, Fr.known, retK, retA, resA, mapO, cellsA_agg, okPart_agg, partA, loadA, loadS, plusS, newK, orO_some, eqT_some, sz3, ag3, tk3, sz9, ag9, tk9, Try.underlying22, Try.underlying33, mk_tx, tx_list, ddC, hlen]
  refine ⟨fun _ => h _, fun ht => ⟨fun h0 => h _, fun h0 => ?_⟩⟩
  obtain ⟨id, ver, tl, rfl, hid⟩ := hD.at h0
  have hp : 1 ≤ D.length := by cases D <;> simp_all
  have k1 := Int.tmod_lt_of_pos x.n (b := D.length) (by omega)
  have k2 : -(D.length : Int) < x.n.tmod D.length := Int.lt_tmod_of_pos x.n (by omega)
  have w1 : IntKind.i64.wrap (x.n.tmod D.length + D.length) = x.n.tmod D.length + D.length := wr_i64 (by omega)
  have hr1 : 0 ≤ (x.n.tmod D.length + D.length).tmod D.length := Int.tmod_nonneg _ (by omega)
  have hr2 : (x.n.tmod D.length + D.length).tmod D.length < D.length := Int.tmod_lt_of_pos _ (by omega)
  generalize hz : (x.n.tmod D.length + D.length).tmod D.length = z at hr1 hr2
  obtain ⟨z, rfl⟩ := Int.eq_ofNat_of_zero_le hr1
  have hz2 : z < D.length := by omega
  have hc : (D.map strV ++ tl)[z]? = some (strV D[z]) := by rw [List.getElem?_append_left (by simpa using hz2), List.getElem?_map, List.getElem?_eq_getElem hz2]; rfl
  have hG : ∀ G, (H ++ G)[id]? = some (.cells ver (D.map strV ++ tl)) := fun G => by rw [List.getElem?_append_left (Hp.lt hid)]; exact hid
  generalize D.map strV ++ tl = cs at hc hG hid
  simp [ev_ret, evOps_nil, evOps_cons, opG_none, opA_move, opA_assign, opA_bin, opA_load, opA_indexAddr, opA_len, putO_some, putH_lt, binT_some, binA, avO_some, loadT, lenT_sl, indexAddrT, io_add, io_rem, opS, opV, Go.Mx.look, seqK, retK, retA, resA, mapO, partA, loadA, loadS, indexAddrA, orO_some, eqT_some, tk3, sz9, ag9, Try.underlying22, h0, w1, hz, hG, hc, hr2, strV]
  exact h _
def InvF (sl : List ByteArray) (l : List Dd) (x : Dd) (a : Nat) (fp : List Nat) (n : Nat) (xs : List AV) (_ : List (List AV)) (H3 : Hp) : Prop :=
  ∃ (i : Nat) (tl : List ByteArray) (gl : List (ByteArray × ByteArray)) (D : List ByteArray) (dv : AV) (sg : Bool), i ≤ l.length ∧ n = l.length - i ∧ xs = [ddsV l, .ptr 0 0 0, .ptr a 0 0, dv, .v (.bool sg), .v (.int .i64 i)] ∧
      TableAt H3 a sl tl gl fp ∧ Told H3 D dv (0 :: fp) ∧ tl.length ≤ i ∧ gl.length ≤ i ∧ D.length ≤ i ∧ (sg = true ↔ numT gl (x.server, x.text) ≤ gl.length) ∧ H3[0]? = some (.cells 0 (ddC x))
set_option maxRecDepth 20000 in
set_option maxHeartbeats 4000000 in
theorem forges_law (sl : List ByteArray) (l : List Dd) (x : Dd) : Sp Try.prog 4 [rowS sl, ddsV l, .agg (ddC x)] (fun v _ => v = .v (.bool true)) [] := by
  refine Sp.body [(9, ⟨[1, 5, 7, 9, 10, 11], [], []⟩), (21, ⟨[5, 7, 9, 10, 14], [], []⟩)] ⟨[], [], pl4⟩ tb4 mo Try.func4 rfl (Nat.le_of_ble_eq_true rfl) (by kernel_rfl) ?_
  simp [ev_seq, ev_region2, evOps_nil, evOps_cons, opG_none, opA_move, opA_assign, opA_call, opA_box, putO_some, putH_lt, boxT, opS, opV, Go.Mx.look, fr0, argSlots, seqK, mapO, callA, cellsA_agg, okPart_agg, newK, ok11, pl4, ddsV]
  refine few_sp l (rowS sl) sl false _ _ (rowS_is sl) (fun hf => ?_) (fun _ => by simp [ev_seq, ev_cond2, ev_ret, ev_region2, evOps_nil, evOps_cons, opG_none, opG_some, opJ, opU_ff, isU_bool, opA_move, opA_assign, opA_pick, opA_un, putO_some, putH_lt, putC_lt, putV_lt, condB_true, pickT, unT, opS, opV, Go.Mx.look, seqK, Fr.known, retK, retA, resA, mapO, unA])
  simp [evOps_cons, opG_none, opG_some, opJ, opU_ff, isU_bool, opK_eq, opA_move, opA_un, opA_load, opA_call, opA_buildSlice, putO_some, putH_lt, putC_lt, condB_false, unT, loadT, buildSliceT, repeatL_1, opS, opV, Go.Mx.look, Fr.known, mapO, unA, callA, cellsA_agg, okPart_agg, partA, loadA, loadS, fillA, bindO, Try.underlying31, sz33, ag33, ze33, ok11, ddC]
  refine few_sp [x] _ [] true _ _ (.inr ⟨rfl, rfl⟩) (fun hx => ?_) (fun _ => by simp [ev_seq, ev_cond2, ev_ret, ev_region2, evOps_nil, evOps_cons, opG_none, opG_some, opJ, opU_ff, isU_bool, opK_eq, opA_assign, opA_pick, opA_un, putO_some, putH_lt, putC_lt, condB_true, condB_false, pickT, unT, opS, opV, Go.Mx.look, seqK, Fr.known, retK, retA, resA, mapO, unA])
  have hx1 := hx.2.2.2 x (by simp)
  simp [ev_skip, ev_seq, ev_cond2, ev_region2, evOps_nil, evOps_cons, opG_none, opG_some, opJ, opU_ff, isU_bool, opK_eq, opA_move, opA_pick, opA_un, opA_call, putO_some, putH_lt, putC_lt, condB_false, pickT, unT, opS, opV, Go.Mx.look, seqK, Fr.known, mapO, unA, callA, ok8]
  refine new_sp _ sl _ _ (rowS_is sl) (by have := hf.2.1; omega) (fun _ H1 hs => ?_) (fun hok a H1 fp ht hs hfp => ?_)
  · simp [ev_seq, ev_cond2, ev_region2, evOps_nil, evOps_cons, opG_none, opA_move, opA_assign, opA_bin, opA_extract, opA_call, putO_some, putH_lt, putC_lt, condB_true, binT_some, binA, avO_some, extractT, io_neq, opS, opV, Go.Mx.look, seqK, Fr.known, mapO, callA, extractA, orO_some, eqT_some, tk24, ok10]
    exact awake_sp _ _ (by simp [ev_ret, evOps_nil, evOps_cons, opG_none, opA_assign, putO_some, putH_lt, putC_lt, opS, opV, Go.Mx.look, seqK, retK, retA, resA, mapO])
  have h0 := hs.2 0 _ rfl (by simp)
  have hfp0 : 0 ∉ fp := fun h => by have := hfp 0 h; simp at this
  have hsl : sl.length ≤ 1000000 := by have := hf.2.1; omega
  have hlen := hf.1
  simp [ev_skip, ev_seq, ev_cond2, ev_block, ev_region2, ev_loop, loopK, evOps_nil, evOps_cons, opG_none, opA_move, opA_assign, opA_bin, opA_extract, putO_some, putH_lt, putC_lt, condB_false, binT_some, binA, avO_some, extractT, io_neq, opS, opV, Go.Mx.look, seqK, Fr.known, mapO, extractA, headK, getV, getB, chkP, firstReg, orO_some, eqT_some, tk24]
  refine LoopC.intro (InvF sl l x a fp) l.length ⟨0, [], [], [], _, false, by omega, rfl, rfl, ht, Told.nil _ _, by simp, by simp, by simp, by simp [numT], by simpa [ddC] using h0⟩ ?_
  rintro n xs bs H3 ⟨i, tl, gl, D, dv, sg, hi, rfl, rfl, ht3, hD3, htl, hgl, hDl, hsg, h03⟩
  have h03' := h03
  simp only [ddC] at h03'
  simp [ev_skip, ev_seq, ev_cond2, ev_block, ev_exit, ev_region2, ev_loop, loopK, evOps_nil, evOps_cons, opG_none, opA_move, opA_assign, opA_bin, opA_indexAddr, opA_len, putO_some, putH_lt, binT_some, binA, avO_some, lenT_row, indexAddrT, io_lss, opS, opV, Go.Mx.look, seqK, blockK, Fr.known, mapO, indexAddrA, headK, getV, getB, chkP, mkFr, slotsOf, ptrsOf, boxesOf, firstReg, orO_some, eqT_some, tk3, Try.underlying31, sz33, ddsV]
  refine ⟨fun hlt => ?_, fun hge => ?_⟩
  · have hxi := List.getElem?_eq_getElem hlt
    generalize l[i] = y at hxi
    have hy : FewD y := hf.2.2.2 y (List.mem_of_getElem? hxi)
    have c0 := flat_get ddC_len hxi 0 (by omega)
    have c1 := flat_get ddC_len hxi 1 (by omega)
    have c2 := flat_get ddC_len hxi 2 (by omega)
    have c3 := flat_get ddC_len hxi 3 (by omega)
    simp [ddC] at c0 c1 c2 c3
    have hle := flat_le2 ddC_len hxi
    have hsub := flat_sub ddC_len l i hxi
    have w1 : IntKind.i64.wrap ((i : Int) + 1) = (i : Int) + 1 := wr_i64 (by omega)
    by_cases k0 : y.kind = 0
    · simp [ev_seq, ev_cond2, ev_block, ev_region2, evOps_nil, evOps_cons, opG_none, opA_move, opA_assign, opA_bin, opA_load, opA_indexAddr, opA_fieldAddr, opA_call, opA_convert, putO_some, putH_lt, condB_true, binT_some, binA, avO_some, loadT, fieldAddrT, indexAddrT, convT, io_eql, opS, opV, Go.Mx.look, seqK, Fr.known, mapO, callA, partA, loadA, loadS, plusS, indexAddrA, orO_some, eqT_some, sz3, ag3, tk3, Try.underlying5, sz9, ag9, Try.underlying9, Try.underlying28, Try.underlying31, sz33, Try.underlying33, ok9, c0, c2, hlt, k0]
      refine digest_sp _ y.text.data.toList _ ht3 (bytesStr y.text) (by omega) (fun H5 ht5 s5 => ?_)
      have h05 := s5.2 _ _ h03 hfp0
      have hta := addT_len tl (tx y.text.data.toList)
      have hD5 := hD3.same s5 (fun j h => by simp [h])
      simp [ev_region2, evOps_nil, evOps_cons, opG_none, opA_move, opA_assign, opA_bin, putO_some, putH_lt, putC_lt, binT_some, binA, avO_some, io_add, opS, opV, Go.Mx.look, seqK, blockK, mapO, headK, getV, getB, chkP, orO_some, eqT_some, tk3, w1]
      exact ⟨l.length - (i + 1), by omega, i + 1, addT tl (tx y.text.data.toList), gl, D, dv, sg, by omega, rfl, by simp [ddsV], ht5, hD5, by omega, by omega, by omega, hsg, h05⟩
    have hlt0 : ∀ j ∈ 0 :: fp, j < H3.length := fun j hj => by
      rcases List.mem_cons.1 hj with rfl | hj
      · exact Hp.lt h03
      · exact ht3.lt j hj
    by_cases k1 : y.kind = 1
    · simp [ev_seq, ev_cond2, ev_block, ev_region2, evOps_nil, evOps_cons, opG_none, opA_move, opA_assign, opA_bin, opA_load, opA_indexAddr, opA_fieldAddr, opA_call, opA_convert, putO_some, putH_lt, condB_true, condB_false, binT_some, binA, avO_some, loadT, fieldAddrT, indexAddrT, convT, io_eql, opS, opV, Go.Mx.look, seqK, Fr.known, mapO, callA, partA, loadA, loadS, plusS, indexAddrA, orO_some, eqT_some, ev_draw, drawK, evP_q, evP_s, opAt_some, sz3, ag3, tk3, Try.underlying5, sz9, ag9, Try.underlying9, Try.underlying28, Try.underlying31, sz33, Try.underlying33, ok12, c0, c1, c2, hlt, k1]
      refine sign_sp y.server _ y.text.data.toList _ ht3 (bytesStr y.text) (by omega) hsl (sz_max hy.2.1 (by omega)) (by rw [tx_sz]; exact sz_max hy.1 (by omega)) (fun hno => ?_) (fun hin4 H4 ht4 s4 => ?_)
      · simp [ev_seq, ev_region2, evOps_cons, opG_none, opA_move, opA_assign, opA_extract, opA_buildSlice, opA_append, putO_some, putH_lt, putC_lt, extractT, buildSliceT, appendT, opS, opV, Go.Mx.look, seqK, mapO, extractA, cellsA_v, okPart_v, Value.oneCell', fillA, bindO, srcTy, evP_nil, evP_q, evP_s, opAt_some, chkK_eq, sameV_some, sameO_some, allQ_nil, allQ_cons, valQ_none, valS_extract, sz9, by9, ze9, st22, Try.underlying22]
        refine hD3.app hlt0 (by omega) (fun dv' H5 hD5 _ hk hle5 => ?_)
        have ht5 := table_keep ht3 (fun j o hj => hk j o (by simp [hj])) hle5
        have h05 := hk 0 _ (by simp) h03
        have h05' := h05
        simp only [ddC] at h05'
        cases sg with
        | false =>
          simp [ev_region2, evOps_nil, evOps_cons, opG_none, opG_some, opJ, opU_ft, opU_ff, isU_bool, opK_eq, opA_move, opA_assign, opA_pick, opA_bin, putO_some, putH_lt, putC_lt, putV_lt, condB_false, binT_some, binA, avO_some, pickT, io_add, io_eql, opS, opV, Go.Mx.look, seqK, blockK, Fr.known, mapO, headK, getV, getB, chkP, orO_some, eqT_some, ev_draw, drawK, evP_nil, evP_q, evP_s, opAt_some, chkK_eq, allQ_nil, tk3, tk24, w1]
          exact ⟨l.length - (i + 1), by omega, i + 1, tl, gl, _, dv', false, by omega, rfl, by simp [ddsV], ht5, hD5, by omega, by omega, by simp; omega, hsg, h05⟩
        | true =>
          simp [ev_region2, evOps_nil, evOps_cons, opG_none, opG_some, opJ, opU_true, opU_ff, isU_undef, isU_bool, opA_move, opA_assign, opA_pick, opA_bin, putO_some, putH_lt, putC_lt, putV_lt, condB_true, binT_some, binA, avO_some, pickT, io_add, opS, opV, Go.Mx.look, seqK, blockK, Fr.known, mapO, headK, getV, getB, chkP, orO_some, eqT_some, ev_draw, drawK, evP_nil, evP_q, evP_s, opAt_some, chkK_eq, allQ_nil, tk3, w1]
          exact ⟨l.length - (i + 1), by omega, i + 1, tl, gl, _, dv', true, by omega, rfl, by simp [ddsV], ht5, hD5, by omega, by omega, by simp; omega, hsg, h05⟩
      · rw [tx_data] at ht4 ⊢
        have hD4 := hD3.same s4 (fun j h => by simp [h])
        have h04 := s4.2 _ _ h03 hfp0
        simp [ev_seq, ev_region2, evOps_cons, opG_none, opA_move, opA_assign, opA_extract, opA_buildSlice, opA_append, putO_some, putH_lt, putC_lt, extractT, buildSliceT, appendT, opS, opV, Go.Mx.look, seqK, mapO, extractA, cellsA_v, okPart_v, Value.oneCell', fillA, bindO, srcTy, evP_nil, evP_q, evP_s, opAt_some, chkK_eq, sameV_some, sameO_some, allQ_nil, allQ_cons, valQ_none, valS_extract, sz9, by9, ze9, st22, Try.underlying22]
        refine hD4.app (fun j hj => Nat.lt_of_lt_of_le (hlt0 j hj) s4.1) (by omega) (fun dv' H5 hD5 _ hk hle5 => ?_)
        have ht5 := table_keep ht4 (fun j o hj => hk j o (by simp [hj])) hle5
        have h05 := hk 0 _ (by simp) h04
        have h05' := h05
        simp only [ddC] at h05'
        have hga := addT_len gl (y.server, y.text)
        have hmem : numT (addT gl (y.server, y.text)) (x.server, x.text) ≤ (addT gl (y.server, y.text)).length ↔ (numT gl (x.server, x.text) ≤ gl.length ∨ (x.server = y.server ∧ x.text = y.text)) := by
          rw [numT_mem, numT_mem, addT_mem]; simp
        have fin : ∀ b : Bool, (b = true ↔ numT gl (x.server, x.text) ≤ gl.length ∨ (x.server = y.server ∧ x.text = y.text)) → ∃ m, m < l.length - i ∧ InvF sl l x a fp m [ddsV l, .ptr 0 0 0, .ptr a 0 0, dv', .v (.bool b), .v (.int .i64 ((i : Int) + 1))] [] H5 := fun b hb =>
          ⟨l.length - (i + 1), by omega, i + 1, tl, addT gl (y.server, y.text), _, dv', b, by omega, rfl, by simp, ht5, hD5, by omega, by omega, by simp; omega, by rw [hmem]; exact hb, h05⟩
        cases sg with
        | false =>
          simp at hsg
          simp [ev_region2, evOps_nil, evOps_cons, opG_none, opG_some, opJ, opU_ft, opU_ff, isU_bool, opK_eq, opA_move, opA_assign, opA_pick, opA_bin, opA_load, opA_indexAddr, opA_fieldAddr, putO_some, putH_lt, putC_lt, putV_lt, condB_true, condB_false, binT_some, binA, avO_some, pickT, loadT, fieldAddrT, indexAddrT, io_add, io_eql, strOp, opS, opV, Go.Mx.look, seqK, blockK, Fr.known, mapO, partA, loadA, loadS, plusS, indexAddrA, headK, getV, getB, chkP, orO_some, eqT_some, ev_draw, drawK, evP_nil, evP_q, evP_s, opAt_some, chkK_eq, allQ_nil, tk3, sz9, ag9, tk9, tk24, Try.underlying31, sz33, Try.underlying33, c1, c2, hlt, h05', w1, bl_inj]
          refine ⟨fun e => ?_, fun e => ?_⟩
          · simpa [ddsV] using fin (y.text.toList == x.text.toList) (by rw [beq_iff_eq, bl_inj, e]; simp only [true_and]; exact ⟨fun h => .inr h.symm, fun h => h.elim (fun h => by omega) (fun h => h.symm)⟩)
          · simpa [ddsV] using fin false (by simp [hsg]; exact fun h => absurd h.symm e)
        | true =>
          simp at hsg
          simp [ev_region2, evOps_nil, evOps_cons, opG_none, opG_some, opJ, opU_true, opU_ff, isU_undef, isU_bool, opA_move, opA_assign, opA_pick, opA_bin, putO_some, putH_lt, putC_lt, putV_lt, condB_true, binT_some, binA, avO_some, pickT, io_add, opS, opV, Go.Mx.look, seqK, blockK, Fr.known, mapO, headK, getV, getB, chkP, orO_some, eqT_some, ev_draw, drawK, evP_nil, evP_q, evP_s, opAt_some, chkK_eq, allQ_nil, tk3, w1]
          simpa [ddsV] using fin true (by simp [hsg])
    by_cases k2 : y.kind = 2
    · simp [ev_seq, ev_cond2, ev_block, ev_region2, evOps_nil, evOps_cons, opG_none, opA_move, opA_assign, opA_bin, opA_load, opA_indexAddr, opA_fieldAddr, opA_call, opA_convert, putO_some, putH_lt, condB_true, condB_false, binT_some, binA, avO_some, loadT, fieldAddrT, indexAddrT, convT, io_eql, opS, opV, Go.Mx.look, seqK, Fr.known, mapO, callA, partA, loadA, loadS, plusS, indexAddrA, orO_some, eqT_some, ev_draw, drawK, evP_q, evP_s, opAt_some, sz3, ag3, tk3, Try.underlying5, sz9, ag9, Try.underlying9, Try.underlying28, Try.underlying31, sz33, ag33, Try.underlying33, ok14, c0, c1, c2, hlt, k2, hle, hsub]
      refine token_sp y D dv _ _ _ hD3 (by omega) (fun tok => ?_)
      simp [opG_none, opA_call, putC_lt, loadT, fieldAddrT, indexAddrT, convC, opS, opV, Go.Mx.look, mapO, callA, partA, loadA, loadS, plusS, indexAddrA, evP_s, opAt_some, chkK_eq, sameV_some, sameO_some, allQ_nil, allQ_cons, valQ_none, valS_move, valS_load, valS_indexAddr, valS_fieldAddr, valS_convert, Try.underlying5, sz9, ag9, Try.underlying9, Try.underlying28, Try.underlying31, sz33, Try.underlying33, ok13, c1, c2, hlt]
      refine verify_sp y.server _ y.text.data.toList _ _ ht3 (bytesStr y.text) (by omega) (sz_max hy.2.1 (by omega)) (by rw [tx_sz]; exact sz_max hy.1 (by omega)) ?_
      simp [ev_region2, evOps_nil, evOps_cons, opG_none, opA_move, opA_assign, opA_bin, putO_some, putH_lt, putC_lt, binT_some, binA, avO_some, io_add, opS, opV, Go.Mx.look, seqK, blockK, mapO, headK, getV, getB, chkP, orO_some, eqT_some, evP_nil, chkK_eq, allQ_nil, tk3, w1]
      exact ⟨l.length - (i + 1), by omega, i + 1, tl, gl, D, dv, sg, by omega, rfl, by simp [ddsV], ht3, hD3, by omega, by omega, by omega, hsg, h03⟩
    simp [ev_skip, ev_seq, ev_cond2, ev_block, ev_region2, evOps_nil, evOps_cons, opG_none, opA_move, opA_assign, opA_bin, opA_load, opA_fieldAddr, putO_some, putH_lt, CondP_false, binT_some, binA, avO_some, loadT, fieldAddrT, io_add, io_eql, opS, opV, Go.Mx.look, seqK, blockK, Fr.known, mapO, partA, loadA, loadS, plusS, headK, getV, getB, chkP, orO_some, eqT_some, sz3, ag3, tk3, Try.underlying33, c0, hlt, k0, k1, k2, w1]
    exact ⟨l.length - (i + 1), by omega, i + 1, tl, gl, D, dv, sg, by omega, rfl, by simp [ddsV], ht3, hD3, by omega, by omega, by omega, hsg, h03⟩
  · have hDl2 : D.length ≤ 100 := by omega
    have hlenD : ∀ H', lenT H' (some (.slice 9)) (some dv) = some (.av (.v (.int .i64 D.length))) := fun H' => hD3.len
    refine LoopC.intro (fun n xs _ H4 => ∃ k : Nat, k ≤ D.length ∧ n = D.length - k ∧ xs = [.ptr 0 0 0, .ptr a 0 0, dv, .v (.bool sg), .v (.int .i64 k)] ∧ H4 = H3) D.length ⟨0, by omega, rfl, rfl, rfl⟩ ?_
    rintro n xs bs H4 ⟨k, hk, rfl, rfl, rfl⟩
    simp [ev_skip, ev_seq, ev_cond2, ev_block, ev_exit, ev_region2, evOps_nil, evOps_cons, opG_none, opG_some, opJ, opU_ft, opU_ff, isU_bool, opK_eq, opA_move, opA_assign, opA_pick, opA_bin, opA_un, opA_load, opA_fieldAddr, opA_len, opA_call, putO_some, putH_lt, putV_lt, condB_true, condB_false, binT_some, binA, avO_some, pickT, unT, loadT, fieldAddrT, io_add, io_lss, opS, opV, Go.Mx.look, seqK, blockK, Fr.known, mapO, unA, callA, partA, loadA, loadS, plusS, headK, getV, getB, chkP, mkFr, slotsOf, ptrsOf, boxesOf, orO_some, eqT_some, ev_draw, drawK, evP_nil, evP_q, evP_s, opAt_some, chkK_eq, allQ_nil, tk3, sz9, ag9, Try.underlying22, Try.underlying33, ok10, hlenD]
    refine ⟨fun hlt => ?_, fun hge2 => ?_⟩
    · have w1 : IntKind.i64.wrap ((k : Int) + 1) = (k : Int) + 1 := wr_i64 (by omega)
      cases sg with
      | true =>
        simp [w1]
        exact ⟨D.length - (k + 1), by omega, k + 1, by omega, rfl, by simp⟩
      | false =>
        obtain ⟨id, ver, tl', rfl, hid⟩ := hD3.at (by intro e; rw [e] at hlt; simp at hlt)
        have hc : (D.map strV ++ tl')[k]? = some (strV D[k]) := by rw [List.getElem?_append_left (by simpa using hlt), List.getElem?_map, List.getElem?_eq_getElem hlt]; rfl
        generalize D.map strV ++ tl' = cs at hc hid
        simp [opG_some, opJ, opU_ft, isU_bool, opK_eq, opA_move, opA_load, opA_indexAddr, opA_fieldAddr, opA_call, opA_convert, putO_some, putH_lt, condB_true, loadT, fieldAddrT, indexAddrT, convT, opS, opV, Go.Mx.look, Fr.known, mapO, callA, partA, loadA, loadS, plusS, indexAddrA, evP_q, evP_s, opAt_some, Try.underlying5, sz9, ag9, Try.underlying9, Try.underlying22, Try.underlying28, Try.underlying33, ok13, h03', hid, hc, hlt, strV]
        refine verify_sp x.server _ x.text.data.toList _ _ ht3 (bytesStr x.text) (by omega) (sz_max hx1.2.1 (by omega)) (by rw [tx_sz]; exact sz_max hx1.1 (by omega)) ?_
        rw [tx_data, show decide (numT gl (x.server, x.text) ≤ gl.length ∧ letN (numT gl (x.server, x.text)) = D[k]) = false by simp at hsg; simp; intro h; omega]
        simp [ev_skip, ev_cond2, ev_region2, evOps_nil, evOps_cons, opG_none, opA_move, opA_assign, opA_pick, opA_bin, putO_some, putH_lt, putC_lt, condB_false, binT_some, binA, avO_some, pickT, io_add, opS, opV, Go.Mx.look, seqK, blockK, Fr.known, mapO, headK, getV, getB, chkP, orO_some, eqT_some, evP_nil, evP_q, opAt_some, chkK_eq, allQ_nil, tk3, w1]
        exact ⟨D.length - (k + 1), by omega, k + 1, by omega, rfl, by simp⟩
    · cases sg with
      | true =>
        simp
        exact awake_sp _ _ (by simp [ev_ret, evOps_nil, evOps_cons, opG_none, opA_assign, opA_pick, putO_some, putH_lt, putC_lt, pickT, opS, opV, Go.Mx.look, seqK, retK, retA, resA, mapO])
      | false =>
        simp [evOps_cons, opG_some, opJ, opU_ff, isU_bool, opK_eq, opA_load, opA_fieldAddr, opA_call, opA_convert, putO_some, putH_lt, condB_false, loadT, fieldAddrT, convT, opS, opV, Go.Mx.look, Fr.known, mapO, callA, partA, loadA, loadS, plusS, Try.underlying5, sz9, ag9, Try.underlying9, Try.underlying28, Try.underlying33, ok13, h03']
        refine verify_sp x.server _ x.text.data.toList _ _ ht3 (bytesStr x.text) (by omega) (sz_max hx1.2.1 (by omega)) (by rw [tx_sz]; exact sz_max hx1.1 (by omega)) ?_
        rw [tx_data, show decide (numT gl (x.server, x.text) ≤ gl.length ∧ letN (numT gl (x.server, x.text)) = x.tok) = false by simp at hsg; simp; intro h; omega]
        simp [evOps_cons, opG_none, opG_some, opJ, opU_ft, opU_ff, isU_bool, opK_eq, opA_move, opA_pick, opA_un, opA_call, putO_some, putH_lt, putC_lt, condB_true, condB_false, pickT, unT, opS, opV, Go.Mx.look, Fr.known, mapO, unA, callA, ok10]
        exact awake_sp _ _ (by simp [ev_ret, evOps_nil, evOps_cons, opG_none, opA_assign, opA_pick, putO_some, putH_lt, putC_lt, pickT, opS, opV, Go.Mx.look, seqK, retK, retA, resA, mapO])
end Go.Proofs.Ytdgdkgfkeinhbaa

namespace Go.Proofs.Ytdgdkgfkeinhbaa
open Go.Mx
set_option linter.unusedVariables false
set_option linter.unusedSimpArgs false

def InvN (n : Nat) (H : Hp) (k : Nat) (xs : List AV) (_ : List (List AV)) (H2 : Hp) : Prop :=
  ∃ (i : Nat) (v : AV), i ≤ 8 ∧ k = 8 - i ∧ xs = [.v (.int .i64 n), v, .v (.int .i64 (7 - (i : Int)))] ∧ NewR H H2 (((bytes8 n).take i).map u8A) v ∧ Same [] H H2
theorem number_sp (n : Nat) (H : Hp) (Q : AV → Hp → Prop) (hn : n < 9223372036854775808) (h : Q (.v (.string (letN n))) H) : Sp Try.prog 29 [.v (.int .i64 n)] Q H := by
  refine Sp.clean (Sp.body [(3, ⟨[0, 3, 4], [], []⟩)] ⟨[], [], []⟩ [] mo Try.func29 rfl (Nat.le_of_ble_eq_true rfl) (by kernel_rfl) ?_)
  simp [ev_seq, ev_block, ev_region2, ev_loop, loopK, evOps_nil, evOps_cons, opG_none, opA_assign, putO_some, putH_lt, opS, opV, Go.Mx.look, fr0, argSlots, seqK, mapO, headK, getV, getB, chkP, firstReg]
  refine LoopC.intro (InvN n H) 8 ⟨0, _, by omega, rfl, rfl, .inl ⟨rfl, rfl⟩, Same.refl _ _⟩ ?_
  rintro k xs bs H2 ⟨i, v, hi, rfl, rfl, hv, hs⟩
  have hb8 : (bytes8 n).length = 8 := by simp [bytes8]
  have hl : (((bytes8 n).take i).map u8A).length = i := by simp [hb8]; omega
  simp [ev_skip, ev_seq, ev_cond2, ev_block, ev_exit, ev_region2, evOps_nil, evOps_cons, opG_none, opA_move, opA_bin, opA_call, putO_some, putH_lt, binT_some, binA, avO_some, io_mul, io_geq, opS, opV, Go.Mx.look, seqK, blockK, Fr.known, mapO, callA, mkFr, slotsOf, ptrsOf, boxesOf, orO_some, eqT_some, tk3, ok37]
  refine ⟨fun hlt => ?_, fun hge => ?_⟩
  · have w1 : IntKind.i64.wrap (8 * (7 - (i : Int))) = 56 - 8 * (i : Int) := by rw [wr_i64 (by omega)]; omega
    have w3 : IntKind.i64.wrap (7 - (i : Int) - 1) = 6 - (i : Int) := by rw [wr_i64 (by omega)]; omega
    have w4 : intOp .shr .i64 (n : Int) .i64 (56 - 8 * (i : Int)) = some (.v (.int .i64 ((n / 2 ^ (56 - 8 * i) : Nat) : Int))) := by
      rw [io_shr _ _ _ _ (by omega), show (56 - 8 * (i : Int)) = ((56 - 8 * i : Nat) : Int) by omega, shrI_eq _ _ _ (by simp [IntKind.bits]; omega)]
      simp
    have w5 : IntKind.u8.wrap ((n / 2 ^ (56 - 8 * i) : Nat) : Int) = ((byteN n i).toNat : Int) := by
      rw [byteN]
      generalize n / 2 ^ (56 - 8 * i) = q
      simp [IntKind.wrap, IntKind.bits, IntKind.signed]
    simp only [w1, w4]
    generalize n / 2 ^ (56 - 8 * i) = q at w5
    have hlt2 : i < 8 := by omega
    simp [evOps_cons, opG_none, opA_buildSlice, opA_append, opA_convert, putO_some, putH_lt, avO_some, buildSliceT, appendT, convV, convT, opS, opV, Go.Mx.look, mapO, convInt, cellsA_v, okPart_v, Value.oneCell', fillA, bindO, srcTy, orO_some, Try.underlying3, sz5, by5, ze5, Try.underlying5, st28, Try.underlying28, w5]
    refine hv.app hs.1 (by rw [hl]; omega) (fun v' H3 fp' hn3 s3 hj _ => ?_)
    simp [ev_region2, evOps_nil, evOps_cons, opG_none, opA_move, opA_assign, opA_bin, putO_some, putH_lt, putC_lt, binT_some, binA, avO_some, io_sub, opS, opV, Go.Mx.look, seqK, blockK, mapO, headK, getV, getB, chkP, orO_some, eqT_some, tk3, w3]
    have ht : (bytes8 n).take (i + 1) = (bytes8 n).take i ++ [byteN n i] := by
      rw [List.take_add_one]
      have : (bytes8 n)[i]? = some (byteN n i) := by simp [bytes8, hlt2]
      rw [this]; rfl
    have e7 : 6 - (i : Int) = 7 - ((i + 1 : Nat) : Int) := by omega
    refine ⟨8 - (i + 1), by omega, i + 1, v', by omega, rfl, by rw [e7], ?_, hs.new s3 (fun j hm => (hj j hm).1)⟩
    rw [ht, List.map_append]
    exact hn3
  · obtain rfl : i = 8 := by omega
    rw [List.take_of_length_le (by omega)] at hv hl
    rcases hv with ⟨e, _⟩ | ⟨_, id, ver, tl, rfl, hid, hge2⟩
    · rw [e] at hl; simp at hl
    · rw [hl]
      refine Sp.frzArgs hid ?_
      have hf : [AV.sl id ver 1 0 8].map (frz id ver ((bytes8 n).map u8A ++ tl)) = [.row false 8 ((bytes8 n).map u8A)] := by
        simp [frz, frz2, frz1, hb8]
      rw [hf]
      refine P.ref_sp (bytes8 n) false 8 _ _ hb8.symm (by omega) ?_
      simp [ev_ret, evOps_nil, evOps_cons, opG_none, opA_assign, putO_some, putH_lt, putC_lt, opS, opV, Go.Mx.look, seqK, retK, retA, resA, mapO]
      exact ⟨(hs.new (Same.set (fp := [id]) (by simp)) (by simpa using hge2)).grown, h⟩
end Go.Proofs.Ytdgdkgfkeinhbaa

namespace Go.Proofs.Ytdgdkgfkeinhbaa
open Go.Mx
set_option linter.unusedVariables false
set_option linter.unusedSimpArgs false

theorem appA_sl {H : Hp} {id ver sz off n bytes m : Nat} {cs ys : List AV} {s : AV} {k : AV → Hp → Prop} (hs : srcA H sz s = some (m, ys)) (hid : H[id]? = some (.cells ver cs)) (hle : off + n * sz ≤ cs.length) (hb : (n + m) * bytes ≤ 140737488355328) (hm : n + m ≤ 4611686018427387904)
    (h : k (.sl id (ver + 1) sz 0 (n + m)) (H.set id (.cells (ver + 1) ((cs.drop off).take (n * sz) ++ ys)))) : appA H sz bytes (.sl id ver sz off n) s k := by
  simp only [appA, hs, hid]
  rw [if_pos ⟨trivial, trivial, hle, hb, hm⟩]
  exact h
def sgC (p : ByteArray × ByteArray) : List AV := [.v (.string p.1), .v (.string p.2)]
theorem sgC_len (p : ByteArray × ByteArray) : (sgC p).length = 2 := rfl
theorem sgCs_len : ∀ l : List (ByteArray × ByteArray), (l.flatMap sgC).length = l.length * 2
  | [] => rfl
  | p :: l => by rw [List.flatMap_cons, List.length_append, sgCs_len l]; simp [sgC]; omega
theorem tl_tx {p : ByteArray} {bs : List UInt8} (e : p.toList = bs) : p = tx bs := by rw [← e, ByteArray.toList_eq]; exact (tx_data p).symm
theorem tx_tl (bs : List UInt8) : (tx bs).toList = bs := by rw [ByteArray.toList_eq]; simp [tx]
/-- The document's table: names, texts, what was signed. -/
def NmP (H : Hp) (nv : AV) (l : List ByteArray) (f : List Nat) : Prop := (l = [] ∧ nv = .row true 0 [] ∧ f = []) ∨ ∃ id ver, nv = .sl id ver 1 0 l.length ∧ H[id]? = some (.cells ver (l.map strV)) ∧ f = [id]
def LP (H : Hp) (lv : AV) (l : List ByteArray) (f : List Nat) : Prop := (l = [] ∧ lv = .v (.slice none 0 0) ∧ f = []) ∨ ∃ id ver, lv = .sl id ver 1 0 l.length ∧ H[id]? = some (.cells ver (l.map strV)) ∧ f = [id]
def SgP (H : Hp) (sv : AV) (l : List (ByteArray × ByteArray)) (f : List Nat) : Prop := (l = [] ∧ sv = .v (.slice none 0 0) ∧ f = []) ∨ ∃ id ver, sv = .sl id ver 2 0 l.length ∧ H[id]? = some (.cells ver (l.flatMap sgC)) ∧ f = [id]
theorem NmP.same {H H' : Hp} {nv : AV} {l : List ByteArray} {f fp : List Nat} (h : NmP H nv l f) (hs : Same fp H H') (hd : ∀ j ∈ f, j ∉ fp) : NmP H' nv l f := by
  rcases h with h | ⟨id, ver, h1, h2, rfl⟩
  · exact .inl h
  · exact .inr ⟨id, ver, h1, hs.2 _ _ h2 (hd _ (by simp)), rfl⟩
theorem LP.same {H H' : Hp} {nv : AV} {l : List ByteArray} {f fp : List Nat} (h : LP H nv l f) (hs : Same fp H H') (hd : ∀ j ∈ f, j ∉ fp) : LP H' nv l f := by
  rcases h with h | ⟨id, ver, h1, h2, rfl⟩
  · exact .inl h
  · exact .inr ⟨id, ver, h1, hs.2 _ _ h2 (hd _ (by simp)), rfl⟩
theorem SgP.same {H H' : Hp} {nv : AV} {l : List (ByteArray × ByteArray)} {f fp : List Nat} (h : SgP H nv l f) (hs : Same fp H H') (hd : ∀ j ∈ f, j ∉ fp) : SgP H' nv l f := by
  rcases h with h | ⟨id, ver, h1, h2, rfl⟩
  · exact .inl h
  · exact .inr ⟨id, ver, h1, hs.2 _ _ h2 (hd _ (by simp)), rfl⟩
theorem NmP.len {H : Hp} {nv : AV} {l : List ByteArray} {f : List Nat} (h : NmP H nv l f) (H' : Hp) : lenT H' (some (.slice 9)) (some nv) = some (.av (.v (.int .i64 l.length))) := by
  rcases h with ⟨rfl, rfl, _⟩ | ⟨id, ver, rfl, _⟩ <;> rfl
theorem LP.len {H : Hp} {nv : AV} {l : List ByteArray} {f : List Nat} (h : LP H nv l f) (H' : Hp) : lenT H' (some (.slice 9)) (some nv) = some (.av (.v (.int .i64 l.length))) := by
  rcases h with ⟨rfl, rfl, _⟩ | ⟨id, ver, rfl, _⟩ <;> rfl
theorem SgP.len {H : Hp} {nv : AV} {l : List (ByteArray × ByteArray)} {f : List Nat} (h : SgP H nv l f) (H' : Hp) : lenT H' (some (.slice 68)) (some nv) = some (.av (.v (.int .i64 l.length))) := by
  rcases h with ⟨rfl, rfl, _⟩ | ⟨id, ver, rfl, _⟩ <;> rfl
def RefT (H : Hp) (b : Nat) (sl tl : List ByteArray) (gl : List (ByteArray × ByteArray)) (fp : List Nat) : Prop :=
  ∃ nv lv sv f1 f2 f3, H[b]? = some (.cells 0 [nv, lv, sv]) ∧ NmP H nv sl f1 ∧ LP H lv tl f2 ∧ SgP H sv gl f3 ∧ fp = b :: (f1 ++ (f2 ++ f3)) ∧ fp.Nodup ∧ ∀ j ∈ fp, j < H.length
theorem RefT.same {H H' : Hp} {b : Nat} {sl tl : List ByteArray} {gl : List (ByteArray × ByteArray)} {fp fp' : List Nat} (h : RefT H b sl tl gl fp) (hs : Same fp' H H') (hd : ∀ j ∈ fp, j ∉ fp') : RefT H' b sl tl gl fp := by
  obtain ⟨nv, lv, sv, f1, f2, f3, h1, h2, h3, h4, rfl, h5, h6⟩ := h
  exact ⟨nv, lv, sv, f1, f2, f3, hs.2 _ _ h1 (hd _ (by simp)), h2.same hs (fun j hj => hd j (by simp [hj])), h3.same hs (fun j hj => hd j (by simp [hj])), h4.same hs (fun j hj => hd j (by simp [hj])), rfl, h5, fun j hj => Nat.lt_of_lt_of_le (h6 j hj) hs.1⟩

theorem numT_first {α : Type} [DecidableEq α] {l : List α} {s : α} {i : Nat} (h : ∀ j, j < i → l[j]? ≠ some s) (hi : l[i]? = some s) : numT l s = i + 1 := by
  unfold numT
  congr 1
  obtain ⟨hlt, e⟩ := List.getElem?_eq_some_iff.1 hi
  refine (List.findIdx_eq hlt).2 ⟨by simp [e], fun j hj => ?_⟩
  have := h j hj
  rw [List.getElem?_eq_getElem (by omega)] at this
  simpa using this
theorem numT_none {α : Type} [DecidableEq α] {l : List α} {s : α} (h : ∀ j, j < l.length → l[j]? ≠ some s) : ¬ numT l s ≤ l.length := by
  intro hm
  obtain ⟨j, hj⟩ := List.getElem?_of_mem (numT_mem.1 hm)
  exact h j (List.getElem?_eq_some_iff.1 hj).1 hj

theorem has_sp {H : Hp} {b : Nat} {sl tl : List ByteArray} {gl : List (ByteArray × ByteArray)} {fp : List Nat} (s : ByteArray) (Q : AV → Hp → Prop) (ht : RefT H b sl tl gl fp) (hb : sl.length ≤ 1000000)
    (h0 : s ∉ sl → Q (.v (.bool false)) H) (h1 : s ∈ sl → Q (.v (.bool true)) H) : Sp Try.prog 30 [.ptr b 0 0, .v (.string s)] Q H := by
  refine Sp.body [(2, ⟨[0, 1, 5], [], []⟩)] ⟨[], [], []⟩ [] mo Try.func30 rfl (Nat.le_of_ble_eq_true rfl) (by kernel_rfl) ?_
  obtain ⟨nv, lv, sv, f1, f2, f3, hb1, hn, hl, hg, rfl, hnd, hlt⟩ := ht
  have hlen := hn.len
  simp [ev_seq, ev_block, ev_region2, ev_loop, loopK, evOps_nil, evOps_cons, opG_none, opA_assign, putO_some, putH_lt, opS, opV, Go.Mx.look, fr0, argSlots, seqK, mapO, headK, getV, getB, chkP, firstReg]
  refine LoopC.intro (fun n xs _ H2 => ∃ i : Nat, i ≤ sl.length ∧ n = sl.length - i ∧ (∀ j, j < i → sl[j]? ≠ some s) ∧ xs = [.ptr b 0 0, .v (.string s), .v (.int .i64 i)] ∧ H2 = H) sl.length
    ⟨0, by omega, rfl, fun j hj => by omega, rfl, rfl⟩ ?_
  rintro n xs bs H2 ⟨i, hi, rfl, hj, rfl, rfl⟩
  simp [ev_skip, ev_seq, ev_cond2, ev_block, ev_exit, ev_ret, ev_region2, evOps_nil, evOps_cons, opG_none, opA_move, opA_assign, opA_bin, opA_load, opA_indexAddr, opA_fieldAddr, opA_nilCheck, opA_len, putO_some, putH_lt, binT_some, binA, avO_some, loadT, nilCheckT, fieldAddrT, indexAddrT, io_lss, opS, opV, Go.Mx.look, seqK, blockK, Fr.known, retK, retA, resA, mapO, partA, loadA, loadS, plusS, indexAddrA, nilCheckS, mkFr, slotsOf, ptrsOf, boxesOf, orO_some, eqT_some, tk3, sz9, sz22, ag22, Try.underlying22, Try.underlying47, hb1, hlen]
  refine ⟨fun hlt => ?_, fun hge => ?_⟩
  · rcases hn with ⟨rfl, rfl, _⟩ | ⟨id, ver, rfl, hid, _⟩
    · simp at hlt
    · have hx := List.getElem?_eq_getElem hlt
      have hc : (sl.map strV)[i]? = some (strV sl[i]) := by rw [List.getElem?_map, hx]; rfl
      have w1 : IntKind.i64.wrap ((i : Int) + 1) = (i : Int) + 1 := wr_i64 (by omega)
      generalize sl.map strV = cs at hc hid
      simp [ev_skip, ev_seq, ev_cond2, ev_ret, ev_region2, evOps_nil, evOps_cons, opG_none, opA_move, opA_assign, opA_bin, opA_load, putO_some, putH_lt, binT_some, binA, avO_some, loadT, io_add, strOp, opS, opV, Go.Mx.look, seqK, blockK, Fr.known, retK, retA, resA, mapO, partA, loadA, loadS, headK, getV, getB, chkP, orO_some, eqT_some, tk3, sz9, ag9, tk9, hid, hc, hlt, strV, w1, bl_inj]
      refine ⟨fun e => h1 (by rw [← e]; exact List.getElem_mem _), fun e => ?_⟩
      refine ⟨sl.length - (i + 1), by omega, i + 1, by omega, rfl, fun j hj2 => ?_, by simp⟩
      rcases Nat.lt_or_ge j i with h3 | h3
      · exact hj j h3
      · obtain rfl : j = i := by omega
        rw [hx]; simp; exact fun e2 => e e2
  · refine h0 (fun hm => ?_)
    obtain ⟨j, hj2⟩ := List.getElem?_of_mem hm
    exact hj j (by have := (List.getElem?_eq_some_iff.1 hj2).1; omega) hj2

theorem find_sp {H : Hp} {b : Nat} {sl tl : List ByteArray} {gl : List (ByteArray × ByteArray)} {fp : List Nat} (s : ByteArray) (bs : List UInt8) (Q : AV → Hp → Prop) (ht : RefT H b sl tl gl fp) (hb : gl.length ≤ 1000000)
    (h : Q (.v (.int .i64 (if numT gl (s, tx bs) ≤ gl.length then (numT gl (s, tx bs) : Int) else 0))) H) : Sp Try.prog 31 [.ptr b 0 0, .v (.string s), .row false bs.length (bs.map u8A)] Q H := by
  refine Sp.body [(2, ⟨[0, 1, 2, 7], [], []⟩)] ⟨[], [], pl31⟩ tb31 mo Try.func31 rfl (Nat.le_of_ble_eq_true rfl) (by kernel_rfl) ?_
  obtain ⟨nv, lv, sv, f1, f2, f3, hb1, hn, hl, hg, rfl, hnd, hlt⟩ := ht
  have hlen := hg.len
  simp [ev_seq, ev_block, ev_region2, ev_loop, loopK, evOps_nil, evOps_cons, opG_none, opA_assign, putO_some, putH_lt, opS, opV, Go.Mx.look, fr0, argSlots, seqK, mapO, headK, getV, getB, chkP, firstReg, pl31]
  refine LoopC.intro (fun n xs _ H2 => ∃ i : Nat, i ≤ gl.length ∧ n = gl.length - i ∧ (∀ j, j < i → gl[j]? ≠ some (s, tx bs)) ∧ xs = [.ptr b 0 0, .v (.string s), .row false bs.length (bs.map u8A), .v (.int .i64 i)] ∧ H2 = H) gl.length
    ⟨0, by omega, rfl, fun j hj => by omega, rfl, rfl⟩ ?_
  rintro n xs bs' H2 ⟨i, hi, rfl, hj, rfl, rfl⟩
  simp [ev_skip, ev_seq, ev_cond2, ev_block, ev_exit, ev_ret, ev_region2, evOps_nil, evOps_cons, opG_none, opA_move, opA_assign, opA_bin, opA_load, opA_indexAddr, opA_fieldAddr, opA_nilCheck, opA_len, putO_some, putH_lt, binT_some, binA, avO_some, loadT, nilCheckT, fieldAddrT, indexAddrT, io_lss, opS, opV, Go.Mx.look, seqK, blockK, Fr.known, retK, retA, resA, mapO, partA, loadA, loadS, plusS, indexAddrA, nilCheckS, mkFr, slotsOf, ptrsOf, boxesOf, orO_some, eqT_some, ev_draw, drawK, evP_q, opAt_some, tk3, sz45, ag45, Try.underlying45, Try.underlying47, sz68, hb1, hlen]
  refine ⟨fun hlt => ?_, fun hge => ?_⟩
  · rcases hg with ⟨rfl, rfl, _⟩ | ⟨id, ver, rfl, hid, _⟩
    · simp at hlt
    · have hx := List.getElem?_eq_getElem hlt
      have c0 := flat_get sgC_len hx 0 (by omega)
      have c1 := flat_get sgC_len hx 1 (by omega)
      have hle := flat_le2 sgC_len hx
      have hcl : (gl.flatMap sgC).length = gl.length * 2 := sgCs_len gl
      simp [sgC] at c0 c1
      have w1 : IntKind.i64.wrap ((i : Int) + 1) = (i : Int) + 1 := wr_i64 (by omega)
      have hle2 : i * 2 + 2 ≤ (gl.flatMap sgC).length := by omega
      have hfst := numT_first (l := gl) (s := (s, tx bs)) (i := i) hj
      generalize gl.flatMap sgC = cs at c0 c1 hid hle2
      generalize gl[i] = p at hx c0 c1
      obtain ⟨p1, p2⟩ := p
      simp at c0 c1
      simp [ev_skip, ev_seq, ev_cond2, ev_ret, ev_region2, evOps_nil, evOps_cons, opG_none, opG_some, opJ, opU_ft, isU_bool, opK_eq, opA_move, opA_assign, opA_pick, opA_bin, opA_load, opA_indexAddr, opA_fieldAddr, opA_nilCheck, opA_convert, putO_some, putH_lt, putV_lt, condB_true, condB_false, binT_some, binA, avO_some, pickT, loadT, nilCheckT, fieldAddrT, indexAddrT, convV, convT, io_add, strOp, opS, opV, Go.Mx.look, seqK, blockK, Fr.known, retK, retA, resA, mapO, strOf, partA, loadA, loadS, plusS, indexAddrA, nilCheckS, headK, getV, getB, chkP, orO_some, eqT_some, evP_nil, evP_q, opAt_some, tk3, Try.underlying5, sz9, ag9, tk9, Try.underlying9, Try.underlying28, sz45, ag45, Try.underlying45, Try.underlying47, sz68, Try.underlying68, mk_tx, tx_list, hb1, hid, c0, c1, hlt, w1, bl_inj]
      have hmiss : (p1, p2) ≠ (s, tx bs) → ∀ j, j < i + 1 → gl[j]? ≠ some (s, tx bs) := fun hne j hj2 => by
        rcases Nat.lt_or_ge j i with h3 | h3
        · exact hj j h3
        · obtain rfl : j = i := by omega
          rw [hx]; simpa using hne
      refine ⟨fun e1 => ⟨fun e2 => ?_, fun e2 => ?_⟩, fun e1 => ?_⟩
      · have e3 := hfst (by rw [hx, e1, tl_tx e2])
        rw [e3, if_pos (by omega)] at h
        exact h
      · exact ⟨gl.length - (i + 1), by omega, i + 1, by omega, rfl, hmiss (fun e => e2 (by simp at e; rw [e.2, tx_tl])), by simp⟩
      · exact ⟨gl.length - (i + 1), by omega, i + 1, by omega, rfl, hmiss (fun e => e1 (by simp at e; exact e.1)), by simp⟩
  · rw [if_neg (numT_none (fun j hj2 => hj j (by omega)))] at h
    exact h
end Go.Proofs.Ytdgdkgfkeinhbaa
