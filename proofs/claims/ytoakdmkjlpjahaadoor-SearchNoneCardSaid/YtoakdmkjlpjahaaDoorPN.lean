import Derived.Test.YtoakdmkjlpjahaaDoorPH
import Derived.Test.YtoakdmkjlpjahaaDoorPG
namespace Go.Proofs.YtoakdmkjlpjahaaDoor
open Go.Mx
set_option linter.unusedVariables false
set_option linter.unusedSimpArgs false
set_option linter.unnecessarySimpa false
set_option maxRecDepth 100000

/-! ### SearchNone -/
def vsN (b : Nat) (i : Nat) : AV := if i = 0 then .v (.pointer none) else .ptr b 0 0
def hN (H : Hp) : Hp := H ++ [.cells 0 [.v (.map none), .v (.map none), .v (.slice none 0 0)]]
def NnInv (H : Hp) (l : List De) (q : LB) (lim : Int) (n : Nat) (xs : List AV) (H2 : Hp) : Prop :=
  ∃ i : Nat, i ≤ 2 ∧ n = 2 - i ∧ xs = [rowD l, .v (.string (tx q)), .v (.int .i64 lim), .row true 2 [.v (.pointer none), .ptr H.length 0 0], .v (.int .i64 (i : Int))] ∧ H2 = hN H
theorem find_len (L : List Tx3) (q : LB) (lim : Int) : ((findF L q lim).length : Int) ≤ (if 0 < lim then lim else 0) := by
  unfold findF
  split
  · simp; split <;> omega
  · rename_i h
    rw [List.length_take]
    have : ¬ lim < 1 := fun q => h (.inr q)
    rw [if_pos (by omega)]
    omega
set_option maxHeartbeats 4000000 in
theorem none_sp (l : List De) (q : LB) (lim : Int) (H : Hp) (hT : Tb H) : Sp Tryd.prog 8 [rowD l, .v (.string (tx q)), .v (.int .i64 lim)] (fun v _ => v = .v (.bool true)) H := by
  refine Sp.body [(5, ⟨[0, 1, 2, 7, 8], [], []⟩)] ⟨[], [], []⟩ [] mo Tryd.func8 rfl (Nat.le_of_ble_eq_true rfl) (by kernel_rfl) ?_
  simp [ev_seq, ev_region2, evOps_nil, evOps_cons, opG_none, opA_move, opA_assign, opA_call, putO_some, putH_lt, opS, opV, Go.Mx.look, fr0, argSlots, seqK, mapO, callA, ok13, rowD]
  refine few_sp l false H _ (fun hf => ?_) (fun _ => by simp [ev_seq, ev_cond2, ev_ret, ev_region2, evOps_nil, evOps_cons, opG_none, opG_some, opJ, opU_ff, isU_bool, opA_move, opA_assign, opA_pick, opA_un, putO_some, putH_lt, putC_lt, putV_lt, condB_true, pickT, unT, opS, opV, Go.Mx.look, seqK, Fr.known, retK, retA, resA, mapO, unA])
  by_cases hq : q.length ≤ 100
  · have hq' : ¬ ((100 : Int) < (q.length : Int)) := by omega
    have hsz : (tx q).size = q.length := tx_size q
    simp [ev_skip, ev_seq, ev_cond2, ev_block, ev_region2, ev_loop, loopK, evOps_nil, evOps_cons, opG_none, opG_some, opJ, opU_ff, isU_bool, opK_eq, opA_move, opA_assign, opA_pick, opA_bin, opA_un, opA_len, opA_box, opA_buildSlice, opA_build, putO_some, putH_lt, putC_lt, condB_false, binT_some, binA, avO_some, pickT, unT, lenT_str, boxT, buildSliceT, buildZ, partsZ, fillO, aggO, io_gtr, opS, opV, Go.Mx.look, seqK, Fr.known, mapO, unA, cellsA_v, cellsA_agg, cellsA_ptr, okPart_v, okPart_agg, okPart_ptr, Value.oneCell', fillA, newK, headK, getV, getB, chkP, firstReg, bindO, orO_some, eqT_some, tk3, Tryd.underlying9, sz29, ze29, ze51, of51, Tryd.underlying52, hsz, hq']
    refine LoopC.intro (fun n xs _ H2 => NnInv H l q lim n xs H2) 2 ⟨0, by omega, by omega, by simp [rowD], rfl⟩ ?_
    rintro n xs bs H2 ⟨i, hi, rfl, rfl, rfl⟩
    have hT2 : Tb (hN H) := hT.keep (fp := []) (Same.app _ _ _) (by simp) (by simp)
    by_cases hlt : i < 2
    · have w1 : IntKind.i64.wrap ((i : Int) + 1) = (i : Int) + 1 := wr_i64 (by omega)
      have hx : [AV.v (.pointer none), AV.ptr H.length 0 0][i]? = some (vsN H.length i) := by
        rcases i with _ | _ | i
        · rfl
        · rfl
        · omega
      have hv : NoIx (hN H) (vsN H.length i) := by
        unfold vsN NoIx
        split
        · exact .inl rfl
        · exact .inr ⟨_, rfl, by simp [hN]⟩
      generalize vsN H.length i = v at hx hv
      have hx2 : [AV.v (.pointer none), AV.ptr H.length 0 0][i] = v := (List.getElem?_eq_some_iff.1 hx).2
      have hlt3 : (i : Int) < 2 := by omega
      simp [ev_skip, ev_seq, ev_cond2, ev_block, ev_region2, evOps_nil, evOps_cons, opG_none, opA_move, opA_bin, opA_load, opA_indexAddr, opA_len, opA_call, putO_some, putH_lt, condB_true, binT_some, binA, avO_some, loadT, lenT_row, indexAddrT, io_lss, opS, opV, Go.Mx.look, seqK, Fr.known, mapO, callA, partA, loadA, loadS, indexAddrA, mkFr, slotsOf, ptrsOf, boxesOf, orO_some, eqT_some, tk3, sz29, ag29, Tryd.underlying52, ok15, hlt3, hlt, hx2]
      refine addN_sp v ⟨[97], 0, q⟩ _ _ hv ?_
      simp [evOps_cons, opG_none, opG_some, opJ, opU_ff, isU_bool, opK_eq, opA_move, opA_bin, opA_load, opA_indexAddr, opA_call, putO_some, putH_lt, putC_lt, condB_false, binT_some, binA, avO_some, loadT, indexAddrT, io_neq, opS, opV, Go.Mx.look, Fr.known, mapO, callA, partA, loadA, loadS, indexAddrA, orO_some, eqT_some, sz29, ag29, tk31, Tryd.underlying52, ok22, hlt3, hlt, hx2]
      refine removeN_sp v [97] _ _ hv ?_
      simp [evOps_cons, opG_none, opG_some, opJ, opU_ff, isU_bool, opK_eq, opA_move, opA_pick, opA_load, opA_indexAddr, opA_call, putO_some, putH_lt, putC_lt, condB_false, pickT, loadT, indexAddrT, opS, opV, Go.Mx.look, Fr.known, mapO, callA, partA, loadA, loadS, indexAddrA, sz29, ag29, Tryd.underlying52, ok17, hlt3, hlt, hx2]
      refine lenN_sp v _ _ hv ?_
      simp [evOps_cons, opG_none, opG_some, opJ, opU_ff, isU_bool, opK_eq, opA_move, opA_pick, opA_bin, opA_load, opA_indexAddr, opA_call, putO_some, putH_lt, putC_lt, condB_false, binT_some, binA, avO_some, pickT, loadT, indexAddrT, io_neq, opS, opV, Go.Mx.look, Fr.known, mapO, callA, partA, loadA, loadS, indexAddrA, orO_some, eqT_some, tk3, sz29, ag29, Tryd.underlying52, ok20, hlt3, hlt, hx2]
      refine textsN_sp v q _ _ hv ?_
      simp [evOps_cons, opG_none, opG_some, opJ, opU_ff, isU_bool, opK_eq, opA_move, opA_pick, opA_bin, opA_load, opA_indexAddr, opA_call, putO_some, putH_lt, putC_lt, condB_false, binT_some, binA, avO_some, pickT, loadT, indexAddrT, io_neq, opS, opV, Go.Mx.look, Fr.known, mapO, callA, partA, loadA, loadS, indexAddrA, orO_some, eqT_some, tk3, sz29, ag29, Tryd.underlying52, ok16, hlt3, hlt, hx2]
      refine findN_sp v q lim _ _ hv hT2 (by omega) ?_
      simp [ev_skip, ev_cond2, ev_region2, evOps_nil, evOps_cons, opG_none, opG_some, opJ, opU_ff, isU_bool, opK_eq, opA_move, opA_assign, opA_pick, opA_bin, opA_len, putO_some, putH_lt, putC_lt, condB_false, binT_some, binA, avO_some, pickT, lenT_row, io_add, io_neq, opS, opV, Go.Mx.look, seqK, blockK, Fr.known, mapO, headK, getV, getB, chkP, orO_some, eqT_some, rowT, tk3, Tryd.underlying23, rowT, w1]
      exact ⟨2 - (i + 1), by omega, i + 1, by omega, rfl, by simp [rowD], rfl⟩
    · have hii : i = 2 := by omega
      subst hii
      simp [ev_seq, ev_cond2, ev_exit, ev_region2, evOps_nil, evOps_cons, opG_none, opA_move, opA_bin, opA_len, opA_call, putO_some, putH_lt, condB_false, binT_some, binA, avO_some, lenT_row, io_lss, opS, opV, Go.Mx.look, seqK, blockK, Fr.known, mapO, callA, mkFr, slotsOf, ptrsOf, boxesOf, orO_some, eqT_some, tk3, Tryd.underlying52, ok18, rowD]
      refine built_sp l false _ _ hf hT2 (fun a H3 fp hp hs hfp => ?_)
      have hT3 := hT2.keep hs (by simp) (by simp)
      simp [evOps_cons, opG_none, opA_move, opA_call, putO_some, putH_lt, putC_lt, opS, opV, Go.Mx.look, mapO, callA, ok16]
      refine find_sp q lim H3 _ hp hT3 (by omega) (by omega) ?_
      have hfl := find_len (builtL l) q lim
      have hsl := splL_len q
      have hwn : (wordsL q).length = 0 → (findF (builtL l) q lim).length = 0 := fun h0 => by
        have : splL q = [] := by
          have : (splL q).length = 0 := by simpa [wordsL] using h0
          exact List.length_eq_zero_iff.1 this
        unfold findF
        rw [if_pos (.inl this)]; rfl
      generalize (findF (builtL l) q lim) = R at hfl hwn
      simp [ev_seq, ev_ret, ev_region2, evOps_nil, evOps_cons, opG_none, opG_some, opJ, opU_true, opU_ft, isU_undef, isU_bool, opK_eq, opA_move, opA_assign, opA_pick, opA_bin, opA_len, opA_call, opA_max, putO_some, putH_lt, putC_lt, putV_lt, condB_true, condB_false, binT_some, binA, avO_some, pickT, lenT_row, maxT, maxA, io_leq, opS, opV, Go.Mx.look, seqK, Fr.known, retK, retA, resA, mapO, callA, orO_some, eqT_some, rowT, tk3, Tryd.underlying23, ok10, rowT]
      refine ⟨fun _ => ?_, hfl⟩
      refine words_sp q (by omega) _ hT3 _ (by omega) ?_
      by_cases hw0 : (wordsL q).length = 0
      · have hr0 := hwn hw0
        have hw0' : ¬ ((0 : Int) < ((wordsL q).length : Int)) := by omega
        have hR : R = [] := List.length_eq_zero_iff.1 hr0
        subst hR
        simp [evOps_cons, opG_none, opG_some, opJ, opU_ft, opU_ff, isU_bool, opK_eq, opA_move, opA_pick, opA_bin, opA_len, opA_call, putO_some, putH_lt, putC_lt, putV_lt, condB_true, condB_false, binT_some, binA, avO_some, pickT, lenT_row, io_eql, io_gtr, opS, opV, Go.Mx.look, Fr.known, mapO, callA, orO_some, eqT_some, rowT, tk3, Tryd.underlying23, ok12, rowT]
        refine ⟨fun h => by omega, fun _ => ?_⟩
        refine awake_sp _ _ hT3 ?_
        simp [ev_ret, evOps_nil, evOps_cons, opG_none, opA_assign, opA_pick, putO_some, putH_lt, putC_lt, pickT, opS, opV, Go.Mx.look, seqK, retK, retA, resA, mapO]
      · have hw0' : (0 : Int) < ((wordsL q).length : Int) := by omega
        have hw1 : wordsL q ≠ [] := fun e => hw0 (by rw [e]; rfl)
        simp [ev_ret, evOps_nil, evOps_cons, opG_none, opG_some, opJ, opU_ft, opU_ff, isU_bool, opK_eq, opA_move, opA_assign, opA_pick, opA_bin, opA_len, opA_call, putO_some, putH_lt, putC_lt, putV_lt, condB_true, condB_false, binT_some, binA, avO_some, pickT, lenT_row, io_eql, io_gtr, opS, opV, Go.Mx.look, seqK, Fr.known, retK, retA, resA, mapO, callA, orO_some, eqT_some, rowT, tk3, Tryd.underlying23, ok12, rowT]
        refine ⟨fun _ => ?_, fun h => absurd h hw1⟩
        refine awake_sp _ _ hT3 ?_
        simp [ev_ret, evOps_nil, evOps_cons, opG_none, opA_assign, opA_pick, putO_some, putH_lt, putC_lt, pickT, opS, opV, Go.Mx.look, seqK, retK, retA, resA, mapO]
  · have hq' : (100 : Int) < (q.length : Int) := by omega
    have hsz : (tx q).size = q.length := tx_size q
    simp [ev_seq, ev_cond2, ev_ret, ev_region2, evOps_nil, evOps_cons, opG_none, opG_some, opJ, opU_ff, isU_bool, opK_eq, opA_move, opA_assign, opA_pick, opA_bin, opA_un, opA_len, putO_some, putH_lt, putC_lt, condB_true, condB_false, binT_some, binA, avO_some, pickT, unT, lenT_str, io_gtr, opS, opV, Go.Mx.look, seqK, Fr.known, retK, retA, resA, mapO, unA, orO_some, eqT_some, tk3, Tryd.underlying9, hsz, hq']
end Go.Proofs.YtoakdmkjlpjahaaDoor

namespace Go.Proofs.YtoakdmkjlpjahaaDoor
open Go.Mx
theorem none_law (l : List De) (s : ByteArray) (_ : s.size ≤ 140737488351232) (lim : Int) (_ : (Lit.int IntKind.i64 lim).wf = true) : Sp Tryd.prog 8 [rowD l, .v (.string s), .v (.int .i64 lim)] (fun v _ => v = .v (.bool true)) [.tab 0 firstT, .tab 1 acceptT] :=
  none_sp l (txOf s) lim _ tb_tabs
end Go.Proofs.YtoakdmkjlpjahaaDoor
