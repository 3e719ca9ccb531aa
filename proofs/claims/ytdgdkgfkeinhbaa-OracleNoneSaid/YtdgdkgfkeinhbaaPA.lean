import Derived.Test.YtdgdkgfkeinhbaaFa
import Derived.Test.YtdgdkgfkeinhbaaMxS
import Derived.Lib.Bytealg
import Derived.Lib.IndexLaws
namespace Go.Proofs.Ytdgdkgfkeinhbaa.P
open Go.Mx
set_option linter.unusedVariables false
set_option linter.unusedSimpArgs false

theorem wr64 {x : Int} (h : -9223372036854775808 ≤ x ∧ x ≤ 9223372036854775807) : IntKind.i64.wrap x = x := by
  unfold IntKind.wrap
  simp [IntKind.bits, IntKind.signed]
  split <;> omega

def sizeB (n : Int) : Int := if n ≤ 0 then 0 else 4 * (n / 3) + (if 0 < n % 3 then n % 3 + 1 else 0)

theorem size_sp (n : Int) (H : Hp) (Q : AV → Hp → Prop) (hn : n < 1099511627776) (h : Q (.v (.int .i64 (sizeB n))) H) :
    Sp Try.prog 41 [.v (.int .i64 n)] Q H := by
  refine Sp.body [] ⟨[], [], []⟩ [] mo Try.func41 rfl (Nat.le_of_ble_eq_true rfl) (by kernel_rfl) ?_
  simp [ev_skip, ev_seq, ev_cond2, ev_block, ev_exit, ev_ret, ev_region2, ev_loop, loopK, evOps_nil, evOps_cons, opG_none, opG_some, opJ, opU_true, opU_ft, opU_ff, isU_undef, isU_bool, valU_true, valU_false, opK_eq, opA_move, opA_assign, opA_pick, opA_bin, opA_un, opA_extract, opA_field, opA_load, opA_index, opA_indexAddr, opA_fieldAddr, opA_nilCheck, opA_len, opA_call, opA_max, opA_min, opA_alloc, opA_box, opA_store, opA_buildSlice, opA_makeSlice, opA_append, opA_copy, opA_convert, opA_makeMap, opA_slice, opA_makeFunc, opA_build, putO_some, putH_lt, putH_none, putC_lt, putC_none, putU_lt, putU_none, putV_lt, putV_none, condB_true, condB_false, CondP_true, CondP_false, binT_some, binA_int, binA_str, binA_eqb, binA_neb, binA, eqRef, avO_some, avO_none, avOf, pickT_true, pickT_false, pickT, unT, extractT, loadT, nilCheckT, lenT_str, lenT_row, lenT_sl, lenT_nil, lenT_arr, lenT_mp, lenT_nomp, maxT, minT, maxA, minA, fieldT, fieldAddrT, indexT, indexAddrT, allocT, boxT, storeT, buildSliceT, makeSliceT, appendT, copyT, convV, convC, convT, makeMapT, bndT, sliceT, fnT, bytesOf_nil, bytesOf_one, repeatL_0, repeatL_1, repeatL_2, repeatL_3, repeatL_4, buildZ, partsZ, fillO, aggO, io_add, io_sub, io_mul, io_quo, io_rem, io_shl, io_shr, io_and, io_or, io_xor, io_eql, io_neq, io_lss, io_leq, io_gtr, io_geq, strOp, opS_tmp, opS_const, opV_tmp, opV_const, opS, opV, look_eq, look_ne, Go.Mx.look, fr0, argSlots, seqK_n, seqK_r, seqK_e, seqK, blockK_n, blockK_r, blockK, Fr.known, Fr.newBox, dropBp, retK, retA, resA, mapO, unA, convInt, convStr, strOf, callA, extractA, lenM, cellsA_v, cellsA_agg, cellsA_row, cellsA_sl, cellsA_ptr, cellsA_rp, cellsA_mp, cellsA_fn, okPart_v, okPart_agg, okPart_row, okPart_sl, okPart_ptr, okPart_rp, okPart_mp, okPart_fn, Value.oneCell', fieldA, partA, loadA, loadS, plusS, indexAddrA, indexArrA, nilCheckS, sliceA, sliceArr, fillA, newK, storeS, headK, getV, getB, chkP, mkFr, slotsOf, ptrsOf, boxesOf, firstReg, bindO, makeA, appA, copyA, srcA, srcTy, okPart_u8, cellsA_u8, Cond_iff, orO_some, orO_none, eqT_some, opA_entry, entryT_some, lookT_some, updT_some, delT_some, clearT_some, rangeT_some, nextT_some, makeMapH, opA_lookup, opA_makeMap2, opA_upd, opA_delete, opA_clear, opA_range, opA_next, valS_lookup, ev_draw, drawK, evP_nil, evP_q, evP_s, opAt_some, chkK_eq, sameV_some, sameO_some, allQ_nil, allQ_cons, valG_some, valJ, valQ_none, valQ_some, valS_move, valS_pick, valS_bin, valS_un, valS_extract, valS_field, valS_load, valS_index, valS_indexAddr, valS_fieldAddr, valS_nilCheck, valS_len, valS_max, valS_min, valS_slice, valS_convert, valS_makeFunc, valS_build, sz3, ag3, tk3, by3, ze3, Try.underlying3, sz4, ag4, tk4, by4, ze4, Try.underlying4, sz5, ag5, tk5, by5, ze5, Try.underlying5, sz9, ag9, tk9, st9, by9, ze9, Try.underlying9, sz22, ag22, tk22, st22, by22, ze22, Try.underlying22, sz23, ag23, tk23, by23, ze23, Try.underlying23, sz24, ag24, tk24, by24, ze24, Try.underlying24, sz28, ag28, tk28, st28, by28, ze28, Try.underlying28, sz31, ag31, tk31, st31, by31, ze31, Try.underlying31, sz33, ag33, tk33, by33, ze33, of33, Try.underlying33, sz41, ag41, tk41, by41, ze41, Try.underlying41, sz45, ag45, tk45, st45, by45, ze45, Try.underlying45, sz47, ag47, tk47, by47, ze47, of47, Try.underlying47, sz49, ag49, tk49, by49, ze49, Try.underlying49, sz50, ag50, tk50, by50, ze50, Try.underlying50, sz52, ag52, tk52, by52, ze52, of52, Try.underlying52, sz53, ag53, tk53, st53, by53, ze53, Try.underlying53, sz57, ag57, tk57, by57, ze57, Try.underlying57, sz64, ag64, tk64, by64, ze64, of64, Try.underlying64, sz68, ag68, tk68, by68, ze68, of68, Try.underlying68, sz70, ag70, tk70, by70, ze70, Try.underlying70, sz77, ag77, tk77, by77, ze77, Try.underlying77, sz78, ag78, tk78, st78, by78, ze78, Try.underlying78, mo, ok3, ok4, ok5, ok6, ok7, ok8, ok9, ok10, ok11, ok12, ok13, ok14, ok15, ok16, ok17, ok18, ok19, ok20, ok21, ok22, ok23, ok24, ok25, ok26, ok27, ok28, ok29, ok30, ok31, ok32, ok33, ok34, ok35, ok36, ok37, ok38, ok41, ok42, ok43, pl3, pl4, pl5, pl6, pl9, pl12, pl13, pl16, pl18, pl19, pl24, pl31]
  unfold sizeB at h
  refine ⟨fun h0 => by rwa [if_pos h0] at h, fun h0 => ?_⟩
  rw [if_neg (by omega)] at h
  have e1 : n.tdiv 3 = n / 3 := Int.tdiv_eq_ediv_of_nonneg (by omega)
  have e2 : n.tmod 3 = n % 3 := Int.tmod_eq_emod_of_nonneg (by omega)
  rw [e1, e2, wr64 (x := n / 3) (by omega), wr64 (x := 4 * (n / 3)) (by omega), wr64 (x := n % 3 + 1) (by omega), wr64 (by omega), wr64 (by omega)]
  refine ⟨fun h1 => by rwa [if_pos h1] at h, fun h1 => ?_⟩
  rw [if_neg (by omega)] at h
  have : n % 3 = 0 := by omega
  rwa [this]

end Go.Proofs.Ytdgdkgfkeinhbaa.P
