import Derived.Test.YtohmgnbndhojpaaPM
namespace Go.Proofs.Ytohmgnbndhojpaa
open Go.Mx
set_option linter.unusedVariables false
set_option linter.unusedSimpArgs false

def SwpInv (u : ByteArray) (a b : Nat) (c : Nat) (H1 : Hp) (n : Nat) (xs : List AV) (H2 : Hp) : Prop :=
  ∃ i : Nat, i ≤ 2 ∧ n = 2 - i ∧ xs = [.v (.string u), .ptr 0 0 0, .ptr a 0 0, .ptr b 0 0, .v (.int .i64 c), .v (.int .i64 0), .v (.int .i64 i)] ∧ H2 = H1
set_option maxRecDepth 20000 in
set_option maxHeartbeats 4000000 in
theorem sweeps_law (l : List Sg) (u : ByteArray) (t : {t : Int × Int // W64 t.1 ∧ W64 t.2}) : Sp Try.prog 7 [rowG l, .v (.string u), .agg [.v (.int .i64 t.1.1), .v (.int .i64 t.1.2)]] (fun v _ => v = .v (.bool true)) [] := by
  obtain ⟨⟨t0, t1⟩, h0, h1⟩ := t
  simp only at h0 h1
  refine Sp.body [(7, ⟨[1, 5, 7, 8, 9, 10, 11], [], []⟩)] ⟨[], [], pl7⟩ tb7 mo Try.func7 rfl (Nat.le_of_ble_eq_true rfl) (by kernel_rfl) ?_
  simp [ev_seq, ev_region2, evOps_nil, evOps_cons, opG_none, opA_move, opA_assign, opA_call, opA_box, putO_some, putH_lt, boxT, opS, opV, Go.Mx.look, fr0, argSlots, seqK, mapO, callA, cellsA_agg, okPart_agg, newK, ok9, pl7, rowG]
  refine few_sp l false _ _ (fun hf => ?_) (fun _ => by simp [ev_seq, ev_cond2, ev_ret, ev_region2, evOps_nil, evOps_cons, opG_none, opG_some, opJ, opU_ff, isU_bool, opA_move, opA_assign, opA_pick, opA_un, putO_some, putH_lt, putC_lt, putV_lt, condB_true, pickT, unT, opS, opV, Go.Mx.look, seqK, Fr.known, retK, retA, resA, mapO, unA])
  simp [ev_skip, ev_seq, ev_cond2, ev_ret, ev_region2, evOps_nil, evOps_cons, opG_none, opG_some, opJ, opU_ff, isU_bool, opK_eq, opA_move, opA_assign, opA_pick, opA_bin, opA_un, opA_load, opA_indexAddr, opA_len, opA_call, putO_some, putH_lt, putC_lt, putV_lt, condB_true, condB_false, binT_some, binA, avO_some, pickT, unT, loadT, lenT_str, indexAddrT, io_lss, io_gtr, opS, opV, Go.Mx.look, seqK, Fr.known, retK, retA, resA, mapO, unA, callA, partA, loadA, loadS, plusS, indexArrA, orO_some, eqT_some, sz2, ag2, tk2, tk3, Try.underlying9, Try.underlying23, ok10]
  intro hu ht
  refine board_sp false l _ _ hf (fun a H1 fa ha hs1 hfa => ?_)
  simp [evOps_cons, opG_none, opA_move, opA_call, putO_some, putH_lt, putC_lt, opS, opV, Go.Mx.look, mapO, callA, ok10]
  refine board_sp false l _ _ hf (fun b H2 fb hb hs2 hfb => ?_)
  have hL : (boardL l).length ≤ 60 := Nat.le_trans (boardL_len l) hf.1
  have hok : OkL (boardL l) := boardL_ok hf.2
  generalize boardL l = L at ha hb hL hok
  have hh1 := hs1.2 0 _ rfl (by simp)
  have hh2 := hs2.2 0 _ hh1 (by simp)
  have hlt := ha.lt
  have hpos : 0 < H1.length := Hp.lt hh1
  have hfb0 : 0 ∉ fb := fun h => by have := hfb 0 h; omega
  have ha2 := ha.same hs2 (by simp)
  have hdis : ∀ j ∈ fa, j ∉ fb := fun j hj hj2 => by have := hlt j hj; have := hfb j hj2; omega
  simp [ev_seq, ev_region2, evOps_nil, evOps_cons, opG_none, opA_move, opA_assign, opA_load, opA_indexAddr, opA_call, putO_some, putH_lt, putC_lt, loadT, indexAddrT, opS, opV, Go.Mx.look, seqK, mapO, callA, partA, loadA, loadS, plusS, indexArrA, sz2, ag2, Try.underlying23, ok25, hh2]
  refine sweep_sp b L fb t0 H2 _ hb (by omega) (fun H3 hb3 hs3 => ?_)
  have hh3 := hs3.2 0 _ hh2 hfb0
  have ha3 := ha2.same hs3 hdis
  have hfl : (L.filter (keepS t0)).length ≤ L.length := List.length_filter_le _ _
  simp [ev_seq, ev_region2, evOps_nil, evOps_cons, opG_none, opA_move, opA_assign, opA_load, opA_indexAddr, opA_call, putO_some, putH_lt, putC_lt, loadT, indexAddrT, opS, opV, Go.Mx.look, seqK, mapO, callA, partA, loadA, loadS, plusS, indexArrA, sz2, ag2, Try.underlying23, ok25, hh3]
  refine sweep_sp b _ fb t0 H3 _ hb3 (by omega) (fun H4 hb4 hs4 => ?_)
  have hh4 := hs4.2 0 _ hh3 hfb0
  have ha4 := ha3.same hs4 hdis
  rw [filter_idem] at hb4 ⊢
  simp [ev_seq, ev_block, ev_region2, ev_loop, loopK, evOps_nil, evOps_cons, opG_none, opA_assign, putO_some, putH_lt, putC_lt, opS, opV, Go.Mx.look, seqK, mapO, headK, getV, getB, chkP, firstReg]
  have hty : ∀ t, t0 ≤ t → typL t (L.filter (keepS t0)) = typL t L := fun t h => typL_sweep hok h
  have hpr : ∀ t, W64 t → t0 ≤ t → presS t (fK (L.filter (keepS t0)) (u, false)) = presS t (fK L (u, false)) := fun t hw h => pres_sweep hok hw h u
  have hfl2 : (L.filter (keepS t0)).length ≤ 1000 := by omega
  generalize L.filter (keepS t0) = M at hb4 hfl hty hpr hfl2
  clear hb3 hs3 hs4 ha2 ha3 hs2 hs1
  refine LoopC.intro (fun n xs _ H5 => SwpInv u a b (L.length - M.length) H4 n xs H5) 2 ⟨0, by omega, by omega, by simp, rfl⟩ ?_
  rintro n xs bs H5 ⟨i, hi, rfl, rfl, rfl⟩
  have hcase : i = 0 ∨ i = 1 ∨ i = 2 := by omega
  have hu2 : u.size ≤ 100000 := by omega
  rcases hcase with rfl | rfl | rfl
  · have w1 : IntKind.i64.wrap 1 = 1 := wr_i64 (by omega)
    have la := typL_len t0 L
    simp [ev_skip, ev_seq, ev_cond2, ev_block, ev_region2, evOps_nil, evOps_cons, opG_none, opA_move, opA_bin, opA_load, opA_indexAddr, opA_call, putO_some, putH_lt, condB_true, binT_some, binA, avO_some, loadT, indexAddrT, io_lss, opS, opV, Go.Mx.look, seqK, Fr.known, mapO, callA, partA, loadA, loadS, plusS, indexArrA, mkFr, slotsOf, ptrsOf, boxesOf, orO_some, eqT_some, ev_draw, drawK, evP_q, evP_s, opAt_some, sz2, ag2, tk3, Try.underlying23, ok13, hh4]
    refine typing_sp _ L t0 H5 _ ha4.v (by omega) ?_
    simp [opG_none, opA_call, putC_lt, loadT, indexAddrT, opS, opV, Go.Mx.look, mapO, callA, partA, loadA, loadS, plusS, indexArrA, evP_s, opAt_some, chkK_eq, sameV_some, sameO_some, allQ_nil, allQ_cons, valQ_none, valS_move, valS_load, valS_indexAddr, sz2, ag2, Try.underlying23, ok13, hh4]
    refine typing_sp _ M t0 H5 _ hb4.v (by omega) ?_
    rw [hty t0 (by omega)]
    simp [opG_none, opA_call, putC_lt, opS, opV, Go.Mx.look, mapO, callA, evP_s, opAt_some, chkK_eq, allQ_nil, ok22]
    refine strings_sp _ H5 _ (by omega) ?_
    simp [opG_none, opG_some, opJ, opU_ff, isU_bool, opK_eq, opA_move, opA_un, opA_load, opA_indexAddr, opA_call, putO_some, putH_lt, putC_lt, condB_false, unT, loadT, indexAddrT, opS, opV, Go.Mx.look, Fr.known, mapO, unA, callA, partA, loadA, loadS, plusS, indexArrA, evP_q, evP_s, opAt_some, chkK_eq, allQ_nil, sz2, ag2, Try.underlying23, ok15, hh4]
    refine presence_sp _ L u t0 H5 _ ha4.v hu2 ?_
    simp [opG_some, opJ, opU_ff, isU_bool, valU_false, opK_eq, opA_call, putC_lt, condB_false, loadT, indexAddrT, opS, opV, Go.Mx.look, Fr.known, mapO, callA, partA, loadA, loadS, plusS, indexArrA, evP_s, opAt_some, chkK_eq, sameV_some, sameO_some, allQ_nil, allQ_cons, valJ, valQ_some, valS_move, valS_load, valS_indexAddr, sz2, ag2, Try.underlying23, ok15, hh4]
    refine presence_sp _ M u t0 H5 _ hb4.v hu2 ?_
    rw [hpr t0 h0 (by omega)]
    simp [ev_skip, ev_cond2, ev_region2, evOps_nil, evOps_cons, opG_none, opG_some, opJ, opU_ff, isU_bool, opK_eq, opA_move, opA_assign, opA_pick, opA_bin, putO_some, putH_lt, putC_lt, condB_false, binT_some, binA, avO_some, pickT, io_add, strOp, opS, opV, Go.Mx.look, seqK, blockK, Fr.known, mapO, headK, getV, getB, chkP, orO_some, eqT_some, evP_nil, evP_q, opAt_some, chkK_eq, allQ_nil, tk3, tk9, w1]
    exact ⟨1, by omega, 1, by omega, by omega, by simp, rfl⟩
  · have w1 : IntKind.i64.wrap 2 = 2 := wr_i64 (by omega)
    have la := typL_len t1 L
    simp [ev_skip, ev_seq, ev_cond2, ev_block, ev_region2, evOps_nil, evOps_cons, opG_none, opA_move, opA_bin, opA_load, opA_indexAddr, opA_call, putO_some, putH_lt, condB_true, binT_some, binA, avO_some, loadT, indexAddrT, io_lss, opS, opV, Go.Mx.look, seqK, Fr.known, mapO, callA, partA, loadA, loadS, plusS, indexArrA, mkFr, slotsOf, ptrsOf, boxesOf, orO_some, eqT_some, ev_draw, drawK, evP_q, evP_s, opAt_some, sz2, ag2, tk3, Try.underlying23, ok13, hh4]
    refine typing_sp _ L t1 H5 _ ha4.v (by omega) ?_
    simp [opG_none, opA_call, putC_lt, loadT, indexAddrT, opS, opV, Go.Mx.look, mapO, callA, partA, loadA, loadS, plusS, indexArrA, evP_s, opAt_some, chkK_eq, sameV_some, sameO_some, allQ_nil, allQ_cons, valQ_none, valS_move, valS_load, valS_indexAddr, sz2, ag2, Try.underlying23, ok13, hh4]
    refine typing_sp _ M t1 H5 _ hb4.v (by omega) ?_
    rw [hty t1 (by omega)]
    simp [opG_none, opA_call, putC_lt, opS, opV, Go.Mx.look, mapO, callA, evP_s, opAt_some, chkK_eq, allQ_nil, ok22]
    refine strings_sp _ H5 _ (by omega) ?_
    simp [opG_none, opG_some, opJ, opU_ff, isU_bool, opK_eq, opA_move, opA_un, opA_load, opA_indexAddr, opA_call, putO_some, putH_lt, putC_lt, condB_false, unT, loadT, indexAddrT, opS, opV, Go.Mx.look, Fr.known, mapO, unA, callA, partA, loadA, loadS, plusS, indexArrA, evP_q, evP_s, opAt_some, chkK_eq, allQ_nil, sz2, ag2, Try.underlying23, ok15, hh4]
    refine presence_sp _ L u t1 H5 _ ha4.v hu2 ?_
    simp [opG_some, opJ, opU_ff, isU_bool, valU_false, opK_eq, opA_call, putC_lt, condB_false, loadT, indexAddrT, opS, opV, Go.Mx.look, Fr.known, mapO, callA, partA, loadA, loadS, plusS, indexArrA, evP_s, opAt_some, chkK_eq, sameV_some, sameO_some, allQ_nil, allQ_cons, valJ, valQ_some, valS_move, valS_load, valS_indexAddr, sz2, ag2, Try.underlying23, ok15, hh4]
    refine presence_sp _ M u t1 H5 _ hb4.v hu2 ?_
    rw [hpr t1 h1 (by omega)]
    simp [ev_skip, ev_cond2, ev_region2, evOps_nil, evOps_cons, opG_none, opG_some, opJ, opU_ff, isU_bool, opK_eq, opA_move, opA_assign, opA_pick, opA_bin, putO_some, putH_lt, putC_lt, condB_false, binT_some, binA, avO_some, pickT, io_add, strOp, opS, opV, Go.Mx.look, seqK, blockK, Fr.known, mapO, headK, getV, getB, chkP, orO_some, eqT_some, evP_nil, evP_q, opAt_some, chkK_eq, allQ_nil, tk3, tk9, w1]
    exact ⟨2, by omega, by omega, by simp, rfl⟩
  · have w1 : IntKind.i64.wrap ((L.length : Int) - (M.length : Int)) = ((L.length - M.length : Nat) : Int) := by rw [wr_i64 (by omega)]; omega
    simp [ev_seq, ev_cond2, ev_exit, ev_region2, evOps_nil, evOps_cons, opG_none, opG_some, opJ, opU_ft, isU_bool, opK_eq, opA_move, opA_bin, opA_call, putO_some, putH_lt, condB_true, condB_false, binT_some, binA, avO_some, io_eql, io_lss, opS, opV, Go.Mx.look, seqK, blockK, Fr.known, mapO, callA, mkFr, slotsOf, ptrsOf, boxesOf, orO_some, eqT_some, tk3, ok11]
    refine all_sp _ L H5 _ ha4.v (by omega) ?_
    simp [evOps_cons, opG_some, opJ, opU_ft, isU_bool, opK_eq, opA_move, opA_len, opA_call, putO_some, putH_lt, putC_lt, condB_true, lenT_row, opS, opV, Go.Mx.look, Fr.known, mapO, callA, Try.underlying22, ok11]
    refine all_sp _ M H5 _ hb4.v (by omega) ?_
    simp [evOps_cons, opG_none, opG_some, opJ, opU_ft, isU_bool, opK_eq, opA_move, opA_pick, opA_bin, opA_len, opA_call, putO_some, putH_lt, putC_lt, condB_true, binT_some, binA, avO_some, pickT, lenT_row, io_sub, io_eql, opS, opV, Go.Mx.look, Fr.known, mapO, callA, orO_some, eqT_some, tk3, Try.underlying22, ok12, w1]
    refine awake_sp _ _ (fun H9 _ => ?_)
    simp [ev_ret, evOps_nil, evOps_cons, opG_none, opA_assign, opA_pick, putO_some, putH_lt, putC_lt, pickT, opS, opV, Go.Mx.look, seqK, retK, retA, resA, mapO]
end Go.Proofs.Ytohmgnbndhojpaa
