import Derived.Test.YtanfjddopjkneaaB
namespace Go.Proofs.Ytanfjddopjkneaa
open Go.Mx
set_option linter.unusedVariables false
set_option linter.unusedSimpArgs false

def numB (c : UInt8) : Int := Lib.indexByte alpha.data.toList c
theorem numB_ge (c : UInt8) : -1 ≤ numB c := Lib.indexByte_ge _ _
theorem numB_lt (c : UInt8) : numB c < 64 := by
  rcases (by omega : numB c < 0 ∨ 0 ≤ numB c) with h | h
  · omega
  · obtain ⟨n, hn⟩ := Int.eq_ofNat_of_zero_le h
    have := (Lib.indexByte_some (l := alpha.data.toList) (c := c) (o := n) hn).1
    have h2 := (List.getElem?_eq_some_iff.1 this).1
    have h3 : alpha.data.toList.length = 64 := by decide
    omega

def dstep (st : List UInt8 × Nat × Nat) (c : UInt8) : List UInt8 × Nat × Nat :=
  let b := st.2.1 * 64 + (numB c).toNat
  let n := st.2.2 + 6
  if 8 ≤ n then (st.1 ++ [UInt8.ofNat (b / 2 ^ (n - 8))], b % 2 ^ (n - 8), n - 8) else (st.1, b, n)
def bad : List UInt8 → Option Nat
  | [] => none
  | c :: r => if numB c < 0 then some 0 else (bad r).map (· + 1)
theorem bad_none : ∀ (l : List UInt8), (∀ c ∈ l, 0 ≤ numB c) → bad l = none
  | [], _ => rfl
  | c :: r, h => by
    unfold bad
    rw [if_neg (by have := h c (by simp); omega), bad_none r (fun x hx => h x (by simp [hx]))]
    rfl
theorem bad_some : ∀ (l : List UInt8) (i : Nat) (c : UInt8), (∀ j, j < i → ∀ d, l[j]? = some d → 0 ≤ numB d) → l[i]? = some c → numB c < 0 → bad l = some i
  | [], i, c, _, h, _ => by simp at h
  | d :: r, 0, c, _, h, hc => by simp at h; subst h; simp [bad, hc]
  | d :: r, i + 1, c, ha, h, hc => by
    unfold bad
    have h0 := ha 0 (by omega) d rfl
    rw [if_neg (by omega), bad_some r i c (fun j hj e he => ha (j + 1) (by omega) e (by simpa using he)) (by simpa using h) hc]
    rfl

def decB (l : List UInt8) : List UInt8 × Int × Int :=
  match bad l with
  | some i => ([], 20, i)
  | none => if l.length % 4 = 1 then ([], 22, l.length) else
    let st := l.foldl dstep ([], 0, 0)
    if st.2.1 = 0 then (st.1, 0, 0) else ([], 21, l.length - 1)

/-- A list that is appended to: nil, or an object of its own. -/
def OutR (H : Hp) (out : List UInt8) (v : AV) (H' : Hp) : Prop :=
  (out = [] ∧ v = .v (.slice none 0 0) ∧ H' = H) ∨ (out ≠ [] ∧ ∃ ver, v = .sl H.length ver 1 0 out.length ∧ H' = H ++ [.cells ver (out.map u8A)])

def decKeeps : List (Nat × Keep) := [(2, ⟨[0, 11, 12], [], []⟩), (12, ⟨[0, 6, 7, 8, 29, 30], [], []⟩)]
def tupB (r : List UInt8 × Int × Int) : AV := .tup [.row false r.1.length (r.1.map u8A), .v (.int .i64 r.2.1), .v (.int .i64 r.2.2)]

theorem alpha_lit : (⟨#[65, 66, 67, 68, 69, 70, 71, 72, 73, 74, 75, 76, 77, 78, 79, 80, 81, 82, 83, 84, 85, 86, 87, 88, 89, 90, 97, 98, 99, 100, 101, 102, 103, 104, 105, 106, 107, 108, 109, 110, 111, 112, 113, 114, 115, 116, 117, 118, 119, 120, 121, 122, 48, 49, 50, 51, 52, 53, 54, 55, 56, 57, 43, 47]⟩ : ByteArray) = alpha := rfl

theorem index_alpha (c : UInt8) (H : Hp) (Q : AV → Hp → Prop) (h : Q (.v (.int .i64 (numB c))) H) :
    Sp Try.prog 18 [.v (.string ⟨#[65, 66, 67, 68, 69, 70, 71, 72, 73, 74, 75, 76, 77, 78, 79, 80, 81, 82, 83, 84, 85, 86, 87, 88, 89, 90, 97, 98, 99, 100, 101, 102, 103, 104, 105, 106, 107, 108, 109, 110, 111, 112, 113, 114, 115, 116, 117, 118, 119, 120, 121, 122, 48, 49, 50, 51, 52, 53, 54, 55, 56, 57, 43, 47]⟩), u8A c] Q H := index_sp alpha c H Q h
theorem index_byte (s : ByteArray) (i : Nat) (c : UInt8) (k : IntKind) (h : s.data.toList[i]? = some c) : indexStr (.v (.string s)) (.v (.int k i)) = some (u8A c) := by
  obtain ⟨h1, h2⟩ := List.getElem?_eq_some_iff.1 h
  have hs : i < s.size := by simpa using h1
  simp only [indexStr]
  rw [dif_pos ⟨by omega, by simpa using hs⟩]
  unfold u8A
  have : s[((i : Int)).toNat]'(by simpa using hs) = c := by rw [← h2]; rfl
  rw [this]

set_option maxHeartbeats 4000000 in
theorem dec_sp (s : ByteArray) (H : Hp) (Q : AV → Hp → Prop) (hl : s.size ≤ 1000000) (h : Q (tupB (decB s.data.toList)) H) :
    Sp Try.prog 12 [.v (.string s)] Q H := by
  have hsz : s.data.toList.length = s.size := by simp
  refine Sp.rowT ?_
  refine Sp.body decKeeps ⟨[], []⟩ Try.func12 rfl (Nat.le_of_ble_eq_true rfl) ?_
  simp [ev_skip, ev_seq, ev_cond2, ev_block, ev_exit, ev_ret, ev_region2, ev_loop, loopK, evOps_nil, evOps_cons, opG_none, opG_some, opJ, opK_eq, opA_move, opA_assign, opA_pick, opA_bin, opA_un, opA_extract, opA_field, opA_load, opA_index, opA_indexAddr, opA_fieldAddr, opA_nilCheck, opA_len, opA_call, opA_max, opA_min, opA_alloc, opA_box, opA_store, opA_buildSlice, opA_makeSlice, opA_append, opA_copy, opA_convert, opA_makeMap, opA_slice, opA_makeFunc, opA_build, putO_some, putH_lt, putH_none, putC_lt, putC_none, putU_lt, putU_none, putV_lt, putV_none, condB_true, condB_false, CondP_true, CondP_false, binT_some, binA_int, binA_str, binA_eqb, binA_neb, binA, eqRef, avO_some, avOf, pickT_true, pickT_false, pickT, unT, extractT, loadT, nilCheckT, lenT_str, lenT_row, lenT_sl, lenT_nil, lenT_arr, lenT_mp, lenT_nomp, maxT, minT, maxA, minA, fieldT, fieldAddrT, indexT, indexAddrT, allocT, boxT, storeT, buildSliceT, makeSliceT, appendT, copyT, convV, convT, makeMapT, bndT, sliceT, fnT, buildT, io_add, io_sub, io_mul, io_quo, io_rem, io_shl, io_shr, io_and, io_or, io_xor, io_eql, io_neq, io_lss, io_leq, io_gtr, io_geq, strOp, opS_tmp, opS_const, opV_tmp, opV_const, opS, opV, look_eq, look_ne, Go.Mx.look, fr0, argSlots, seqK_n, seqK_r, seqK_e, seqK, blockK_n, blockK_r, blockK, Fr.known, Fr.newBox, dropBp, retK, retA, resA, mapO, unA, convInt, convStr, strOf, callA, extractA, lenM, cellsA_v, cellsA_agg, cellsA_row, cellsA_sl, cellsA_ptr, cellsA_rp, cellsA_mp, cellsA_fn, okPart_v, okPart_agg, okPart_row, okPart_sl, okPart_ptr, okPart_rp, okPart_mp, okPart_fn, Value.oneCell', fieldA, partA, loadA, loadS, plusS, indexAddrA, indexArrA, nilCheckS, sliceA, sliceArr, fillA, newK, storeS, headK, getV, getB, chkP, mkFr, slotsOf, ptrsOf, boxesOf, firstReg, bindO, makeA, appA, copyA, srcA, srcTy, okPart_u8, cellsA_u8, Cond_iff, sz3, ag3, tk3, by3, ze3, Try.underlying3, sz4, ag4, tk4, by4, ze4, Try.underlying4, sz5, ag5, tk5, by5, ze5, Try.underlying5, sz9, ag9, tk9, st9, by9, ze9, Try.underlying9, sz22, ag22, tk22, st22, by22, ze22, Try.underlying22, sz26, ag26, tk26, by26, ze26, Try.underlying26, sz33, ag33, tk33, by33, ze33, Try.underlying33, sz34, ag34, tk34, by34, ze34, Try.underlying34, sz35, ag35, tk35, st35, by35, ze35, Try.underlying35, ok9, ok10, ok11, ok12, ok13, ok14, ok15, ok16, ok17, ok18, ok19, ok20, decKeeps]
  refine LoopC.intro (fun n xs _ H' => ∃ i : Nat, i ≤ s.size ∧ n = s.size - i ∧ (∀ j, j < i → ∀ d, s.data.toList[j]? = some d → 0 ≤ numB d) ∧ xs = [.v (.string s), .v (.int .i64 s.size), .v (.int .i64 i)] ∧ H' = H) s.size
    ⟨0, by omega, rfl, fun j hj => by omega, rfl, rfl⟩ ?_
  rintro n xs bx H' ⟨i, hi, rfl, hj, rfl, rfl⟩
  rcases Nat.lt_or_ge i s.size with hlt | hge
  · have hc1 : (i : Int) < (s.size : Int) := by omega
    obtain ⟨c, hc⟩ : ∃ c, s.data.toList[i]? = some c := ⟨_, List.getElem?_eq_getElem (by omega)⟩
    have hix := index_byte s i c .i64 hc
    simp [ev_skip, ev_seq, ev_cond2, ev_block, ev_exit, ev_ret, ev_region2, ev_loop, loopK, evOps_nil, evOps_cons, opG_none, opG_some, opJ, opK_eq, opA_move, opA_assign, opA_pick, opA_bin, opA_un, opA_extract, opA_field, opA_load, opA_index, opA_indexAddr, opA_fieldAddr, opA_nilCheck, opA_len, opA_call, opA_max, opA_min, opA_alloc, opA_box, opA_store, opA_buildSlice, opA_makeSlice, opA_append, opA_copy, opA_convert, opA_makeMap, opA_slice, opA_makeFunc, opA_build, putO_some, putH_lt, putH_none, putC_lt, putC_none, putU_lt, putU_none, putV_lt, putV_none, condB_true, condB_false, CondP_true, CondP_false, binT_some, binA_int, binA_str, binA_eqb, binA_neb, binA, eqRef, avO_some, avOf, pickT_true, pickT_false, pickT, unT, extractT, loadT, nilCheckT, lenT_str, lenT_row, lenT_sl, lenT_nil, lenT_arr, lenT_mp, lenT_nomp, maxT, minT, maxA, minA, fieldT, fieldAddrT, indexT, indexAddrT, allocT, boxT, storeT, buildSliceT, makeSliceT, appendT, copyT, convV, convT, makeMapT, bndT, sliceT, fnT, buildT, io_add, io_sub, io_mul, io_quo, io_rem, io_shl, io_shr, io_and, io_or, io_xor, io_eql, io_neq, io_lss, io_leq, io_gtr, io_geq, strOp, opS_tmp, opS_const, opV_tmp, opV_const, opS, opV, look_eq, look_ne, Go.Mx.look, fr0, argSlots, seqK_n, seqK_r, seqK_e, seqK, blockK_n, blockK_r, blockK, Fr.known, Fr.newBox, dropBp, retK, retA, resA, mapO, unA, convInt, convStr, strOf, callA, extractA, lenM, cellsA_v, cellsA_agg, cellsA_row, cellsA_sl, cellsA_ptr, cellsA_rp, cellsA_mp, cellsA_fn, okPart_v, okPart_agg, okPart_row, okPart_sl, okPart_ptr, okPart_rp, okPart_mp, okPart_fn, Value.oneCell', fieldA, partA, loadA, loadS, plusS, indexAddrA, indexArrA, nilCheckS, sliceA, sliceArr, fillA, newK, storeS, headK, getV, getB, chkP, mkFr, slotsOf, ptrsOf, boxesOf, firstReg, bindO, makeA, appA, copyA, srcA, srcTy, okPart_u8, cellsA_u8, Cond_iff, sz3, ag3, tk3, by3, ze3, Try.underlying3, sz4, ag4, tk4, by4, ze4, Try.underlying4, sz5, ag5, tk5, by5, ze5, Try.underlying5, sz9, ag9, tk9, st9, by9, ze9, Try.underlying9, sz22, ag22, tk22, st22, by22, ze22, Try.underlying22, sz26, ag26, tk26, by26, ze26, Try.underlying26, sz33, ag33, tk33, by33, ze33, Try.underlying33, sz34, ag34, tk34, by34, ze34, Try.underlying34, sz35, ag35, tk35, st35, by35, ze35, Try.underlying35, ok9, ok10, ok11, ok12, ok13, ok14, ok15, ok16, ok17, ok18, ok19, ok20, decKeeps, hc1, hix]
    refine index_alpha c _ _ ?_
    have hwi : IntKind.i64.wrap ((i : Int) + 1) = ((i + 1 : Nat) : Int) := by rw [wr_i64 (by omega)]; omega
    by_cases hneg : numB c < 0
    · have hd : decB s.data.toList = ([], 20, (i : Int)) := by
        unfold decB
        rw [bad_some _ i c hj hc hneg]
      rw [hd] at h
      simp [ev_skip, ev_seq, ev_cond2, ev_block, ev_exit, ev_ret, ev_region2, ev_loop, loopK, evOps_nil, evOps_cons, opG_none, opG_some, opJ, opK_eq, opA_move, opA_assign, opA_pick, opA_bin, opA_un, opA_extract, opA_field, opA_load, opA_index, opA_indexAddr, opA_fieldAddr, opA_nilCheck, opA_len, opA_call, opA_max, opA_min, opA_alloc, opA_box, opA_store, opA_buildSlice, opA_makeSlice, opA_append, opA_copy, opA_convert, opA_makeMap, opA_slice, opA_makeFunc, opA_build, putO_some, putH_lt, putH_none, putC_lt, putC_none, putU_lt, putU_none, putV_lt, putV_none, condB_true, condB_false, CondP_true, CondP_false, binT_some, binA_int, binA_str, binA_eqb, binA_neb, binA, eqRef, avO_some, avOf, pickT_true, pickT_false, pickT, unT, extractT, loadT, nilCheckT, lenT_str, lenT_row, lenT_sl, lenT_nil, lenT_arr, lenT_mp, lenT_nomp, maxT, minT, maxA, minA, fieldT, fieldAddrT, indexT, indexAddrT, allocT, boxT, storeT, buildSliceT, makeSliceT, appendT, copyT, convV, convT, makeMapT, bndT, sliceT, fnT, buildT, io_add, io_sub, io_mul, io_quo, io_rem, io_shl, io_shr, io_and, io_or, io_xor, io_eql, io_neq, io_lss, io_leq, io_gtr, io_geq, strOp, opS_tmp, opS_const, opV_tmp, opV_const, opS, opV, look_eq, look_ne, Go.Mx.look, fr0, argSlots, seqK_n, seqK_r, seqK_e, seqK, blockK_n, blockK_r, blockK, Fr.known, Fr.newBox, dropBp, retK, retA, resA, mapO, unA, convInt, convStr, strOf, callA, extractA, lenM, cellsA_v, cellsA_agg, cellsA_row, cellsA_sl, cellsA_ptr, cellsA_rp, cellsA_mp, cellsA_fn, okPart_v, okPart_agg, okPart_row, okPart_sl, okPart_ptr, okPart_rp, okPart_mp, okPart_fn, Value.oneCell', fieldA, partA, loadA, loadS, plusS, indexAddrA, indexArrA, nilCheckS, sliceA, sliceArr, fillA, newK, storeS, headK, getV, getB, chkP, mkFr, slotsOf, ptrsOf, boxesOf, firstReg, bindO, makeA, appA, copyA, srcA, srcTy, okPart_u8, cellsA_u8, Cond_iff, sz3, ag3, tk3, by3, ze3, Try.underlying3, sz4, ag4, tk4, by4, ze4, Try.underlying4, sz5, ag5, tk5, by5, ze5, Try.underlying5, sz9, ag9, tk9, st9, by9, ze9, Try.underlying9, sz22, ag22, tk22, st22, by22, ze22, Try.underlying22, sz26, ag26, tk26, by26, ze26, Try.underlying26, sz33, ag33, tk33, by33, ze33, Try.underlying33, sz34, ag34, tk34, by34, ze34, Try.underlying34, sz35, ag35, tk35, st35, by35, ze35, Try.underlying35, ok9, ok10, ok11, ok12, ok13, ok14, ok15, ok16, ok17, ok18, ok19, ok20, decKeeps, hneg]
      exact .inl ⟨_, [], rfl, by simp, by simp, h⟩
    · simp [ev_skip, ev_seq, ev_cond2, ev_block, ev_exit, ev_ret, ev_region2, ev_loop, loopK, evOps_nil, evOps_cons, opG_none, opG_some, opJ, opK_eq, opA_move, opA_assign, opA_pick, opA_bin, opA_un, opA_extract, opA_field, opA_load, opA_index, opA_indexAddr, opA_fieldAddr, opA_nilCheck, opA_len, opA_call, opA_max, opA_min, opA_alloc, opA_box, opA_store, opA_buildSlice, opA_makeSlice, opA_append, opA_copy, opA_convert, opA_makeMap, opA_slice, opA_makeFunc, opA_build, putO_some, putH_lt, putH_none, putC_lt, putC_none, putU_lt, putU_none, putV_lt, putV_none, condB_true, condB_false, CondP_true, CondP_false, binT_some, binA_int, binA_str, binA_eqb, binA_neb, binA, eqRef, avO_some, avOf, pickT_true, pickT_false, pickT, unT, extractT, loadT, nilCheckT, lenT_str, lenT_row, lenT_sl, lenT_nil, lenT_arr, lenT_mp, lenT_nomp, maxT, minT, maxA, minA, fieldT, fieldAddrT, indexT, indexAddrT, allocT, boxT, storeT, buildSliceT, makeSliceT, appendT, copyT, convV, convT, makeMapT, bndT, sliceT, fnT, buildT, io_add, io_sub, io_mul, io_quo, io_rem, io_shl, io_shr, io_and, io_or, io_xor, io_eql, io_neq, io_lss, io_leq, io_gtr, io_geq, strOp, opS_tmp, opS_const, opV_tmp, opV_const, opS, opV, look_eq, look_ne, Go.Mx.look, fr0, argSlots, seqK_n, seqK_r, seqK_e, seqK, blockK_n, blockK_r, blockK, Fr.known, Fr.newBox, dropBp, retK, retA, resA, mapO, unA, convInt, convStr, strOf, callA, extractA, lenM, cellsA_v, cellsA_agg, cellsA_row, cellsA_sl, cellsA_ptr, cellsA_rp, cellsA_mp, cellsA_fn, okPart_v, okPart_agg, okPart_row, okPart_sl, okPart_ptr, okPart_rp, okPart_mp, okPart_fn, Value.oneCell', fieldA, partA, loadA, loadS, plusS, indexAddrA, indexArrA, nilCheckS, sliceA, sliceArr, fillA, newK, storeS, headK, getV, getB, chkP, mkFr, slotsOf, ptrsOf, boxesOf, firstReg, bindO, makeA, appA, copyA, srcA, srcTy, okPart_u8, cellsA_u8, Cond_iff, sz3, ag3, tk3, by3, ze3, Try.underlying3, sz4, ag4, tk4, by4, ze4, Try.underlying4, sz5, ag5, tk5, by5, ze5, Try.underlying5, sz9, ag9, tk9, st9, by9, ze9, Try.underlying9, sz22, ag22, tk22, st22, by22, ze22, Try.underlying22, sz26, ag26, tk26, by26, ze26, Try.underlying26, sz33, ag33, tk33, by33, ze33, Try.underlying33, sz34, ag34, tk34, by34, ze34, Try.underlying34, sz35, ag35, tk35, st35, by35, ze35, Try.underlying35, ok9, ok10, ok11, ok12, ok13, ok14, ok15, ok16, ok17, ok18, ok19, ok20, decKeeps, hneg, hwi]
      refine ⟨s.size - (i + 1), by omega, i + 1, by omega, rfl, fun j hj' d hd => ?_, by omega⟩
      rcases Nat.lt_or_ge j i with h1 | h1
      · exact hj j h1 d (by simpa using hd)
      · obtain rfl : j = i := by omega
        have hc' : s.data[j]? = some c := by simpa using hc
        rw [hc'] at hd; simp at hd; subst hd; omega
  · have hc1 : ¬ ((i : Int) < (s.size : Int)) := by omega
    have hall : ∀ c ∈ s.data.toList, 0 ≤ numB c := (fun c hc => by
      obtain ⟨j, hj'⟩ := List.getElem?_of_mem hc
      exact hj j (by have := (List.getElem?_eq_some_iff.1 hj').1; omega) c hj')
    have hb : bad s.data.toList = none := bad_none _ hall
    have hm : ((s.size : Int)).tmod 4 = ((s.size % 4 : Nat) : Int) := by rw [Int.tmod_eq_emod_of_nonneg (by omega)]; omega
    by_cases h1 : s.size % 4 = 1
    · have hd : decB s.data.toList = ([], 22, (s.size : Int)) := by
        unfold decB
        rw [hb]
        simp [h1]
      rw [hd] at h
      simp [ev_skip, ev_seq, ev_cond2, ev_block, ev_exit, ev_ret, ev_region2, ev_loop, loopK, evOps_nil, evOps_cons, opG_none, opG_some, opJ, opK_eq, opA_move, opA_assign, opA_pick, opA_bin, opA_un, opA_extract, opA_field, opA_load, opA_index, opA_indexAddr, opA_fieldAddr, opA_nilCheck, opA_len, opA_call, opA_max, opA_min, opA_alloc, opA_box, opA_store, opA_buildSlice, opA_makeSlice, opA_append, opA_copy, opA_convert, opA_makeMap, opA_slice, opA_makeFunc, opA_build, putO_some, putH_lt, putH_none, putC_lt, putC_none, putU_lt, putU_none, putV_lt, putV_none, condB_true, condB_false, CondP_true, CondP_false, binT_some, binA_int, binA_str, binA_eqb, binA_neb, binA, eqRef, avO_some, avOf, pickT_true, pickT_false, pickT, unT, extractT, loadT, nilCheckT, lenT_str, lenT_row, lenT_sl, lenT_nil, lenT_arr, lenT_mp, lenT_nomp, maxT, minT, maxA, minA, fieldT, fieldAddrT, indexT, indexAddrT, allocT, boxT, storeT, buildSliceT, makeSliceT, appendT, copyT, convV, convT, makeMapT, bndT, sliceT, fnT, buildT, io_add, io_sub, io_mul, io_quo, io_rem, io_shl, io_shr, io_and, io_or, io_xor, io_eql, io_neq, io_lss, io_leq, io_gtr, io_geq, strOp, opS_tmp, opS_const, opV_tmp, opV_const, opS, opV, look_eq, look_ne, Go.Mx.look, fr0, argSlots, seqK_n, seqK_r, seqK_e, seqK, blockK_n, blockK_r, blockK, Fr.known, Fr.newBox, dropBp, retK, retA, resA, mapO, unA, convInt, convStr, strOf, callA, extractA, lenM, cellsA_v, cellsA_agg, cellsA_row, cellsA_sl, cellsA_ptr, cellsA_rp, cellsA_mp, cellsA_fn, okPart_v, okPart_agg, okPart_row, okPart_sl, okPart_ptr, okPart_rp, okPart_mp, okPart_fn, Value.oneCell', fieldA, partA, loadA, loadS, plusS, indexAddrA, indexArrA, nilCheckS, sliceA, sliceArr, fillA, newK, storeS, headK, getV, getB, chkP, mkFr, slotsOf, ptrsOf, boxesOf, firstReg, bindO, makeA, appA, copyA, srcA, srcTy, okPart_u8, cellsA_u8, Cond_iff, sz3, ag3, tk3, by3, ze3, Try.underlying3, sz4, ag4, tk4, by4, ze4, Try.underlying4, sz5, ag5, tk5, by5, ze5, Try.underlying5, sz9, ag9, tk9, st9, by9, ze9, Try.underlying9, sz22, ag22, tk22, st22, by22, ze22, Try.underlying22, sz26, ag26, tk26, by26, ze26, Try.underlying26, sz33, ag33, tk33, by33, ze33, Try.underlying33, sz34, ag34, tk34, by34, ze34, Try.underlying34, sz35, ag35, tk35, st35, by35, ze35, Try.underlying35, ok9, ok10, ok11, ok12, ok13, ok14, ok15, ok16, ok17, ok18, ok19, ok20, decKeeps, hc1, hm, h1]
      exact .inl ⟨_, [], rfl, by simp, by simp, h⟩
    · have h1' : ¬ ((s.size : Int) % 4 = 1) := by omega
      simp [ev_skip, ev_seq, ev_cond2, ev_block, ev_exit, ev_ret, ev_region2, ev_loop, loopK, evOps_nil, evOps_cons, opG_none, opG_some, opJ, opK_eq, opA_move, opA_assign, opA_pick, opA_bin, opA_un, opA_extract, opA_field, opA_load, opA_index, opA_indexAddr, opA_fieldAddr, opA_nilCheck, opA_len, opA_call, opA_max, opA_min, opA_alloc, opA_box, opA_store, opA_buildSlice, opA_makeSlice, opA_append, opA_copy, opA_convert, opA_makeMap, opA_slice, opA_makeFunc, opA_build, putO_some, putH_lt, putH_none, putC_lt, putC_none, putU_lt, putU_none, putV_lt, putV_none, condB_true, condB_false, CondP_true, CondP_false, binT_some, binA_int, binA_str, binA_eqb, binA_neb, binA, eqRef, avO_some, avOf, pickT_true, pickT_false, pickT, unT, extractT, loadT, nilCheckT, lenT_str, lenT_row, lenT_sl, lenT_nil, lenT_arr, lenT_mp, lenT_nomp, maxT, minT, maxA, minA, fieldT, fieldAddrT, indexT, indexAddrT, allocT, boxT, storeT, buildSliceT, makeSliceT, appendT, copyT, convV, convT, makeMapT, bndT, sliceT, fnT, buildT, io_add, io_sub, io_mul, io_quo, io_rem, io_shl, io_shr, io_and, io_or, io_xor, io_eql, io_neq, io_lss, io_leq, io_gtr, io_geq, strOp, opS_tmp, opS_const, opV_tmp, opV_const, opS, opV, look_eq, look_ne, Go.Mx.look, fr0, argSlots, seqK_n, seqK_r, seqK_e, seqK, blockK_n, blockK_r, blockK, Fr.known, Fr.newBox, dropBp, retK, retA, resA, mapO, unA, convInt, convStr, strOf, callA, extractA, lenM, cellsA_v, cellsA_agg, cellsA_row, cellsA_sl, cellsA_ptr, cellsA_rp, cellsA_mp, cellsA_fn, okPart_v, okPart_agg, okPart_row, okPart_sl, okPart_ptr, okPart_rp, okPart_mp, okPart_fn, Value.oneCell', fieldA, partA, loadA, loadS, plusS, indexAddrA, indexArrA, nilCheckS, sliceA, sliceArr, fillA, newK, storeS, headK, getV, getB, chkP, mkFr, slotsOf, ptrsOf, boxesOf, firstReg, bindO, makeA, appA, copyA, srcA, srcTy, okPart_u8, cellsA_u8, Cond_iff, sz3, ag3, tk3, by3, ze3, Try.underlying3, sz4, ag4, tk4, by4, ze4, Try.underlying4, sz5, ag5, tk5, by5, ze5, Try.underlying5, sz9, ag9, tk9, st9, by9, ze9, Try.underlying9, sz22, ag22, tk22, st22, by22, ze22, Try.underlying22, sz26, ag26, tk26, by26, ze26, Try.underlying26, sz33, ag33, tk33, by33, ze33, Try.underlying33, sz34, ag34, tk34, by34, ze34, Try.underlying34, sz35, ag35, tk35, st35, by35, ze35, Try.underlying35, ok9, ok10, ok11, ok12, ok13, ok14, ok15, ok16, ok17, ok18, ok19, ok20, decKeeps, hc1, hm, h1, h1']
      refine LoopC.intro (fun n xs _ H2 => ∃ (i : Nat) (out : List UInt8) (b m : Nat) (v : AV), i ≤ s.size ∧ n = s.size - i ∧ (s.data.toList.take i).foldl dstep ([], 0, 0) = (out, b, m) ∧ b < 2 ^ m ∧ (m = 0 ∨ m = 2 ∨ m = 4 ∨ m = 6) ∧ out.length ≤ i ∧
        xs = [.v (.string s), v, .v (.int .u64 b), .v (.int .u64 m), .v (.int .i64 s.size), .v (.int .i64 i)] ∧ OutR H' out v H2) s.size
        ⟨0, [], 0, 0, _, by omega, rfl, rfl, by decide, by omega, by simp, rfl, .inl ⟨rfl, rfl, rfl⟩⟩ ?_
      clear hj
      rintro n xs bx H2 ⟨i2, out, b, m, v, hi2, rfl, hst, hbm, hm4, hol, rfl, hO⟩
      rcases Nat.lt_or_ge i2 s.size with hlt | hge2
      · have hc2 : (i2 : Int) < (s.size : Int) := by omega
        obtain ⟨c, hc⟩ : ∃ c, s.data.toList[i2]? = some c := ⟨_, List.getElem?_eq_getElem (by omega)⟩
        have hix := index_byte s i2 c .i64 hc
        have hwi : IntKind.i64.wrap ((i2 : Int) + 1) = (i2 : Int) + 1 := wr_i64 (by omega)
        have hb64 : b < 64 := by rcases hm4 with rfl | rfl | rfl | rfl <;> simp at hbm <;> omega
        have e1 : shlI .u64 (b : Int) 6 = (b : Int) * 64 := by rw [show (6 : Int) = ((6 : Nat) : Int) from rfl, shlI_eq _ _ _ (by decide)]; exact wr_u64 (by omega)
        simp [ev_skip, ev_seq, ev_cond2, ev_block, ev_exit, ev_ret, ev_region2, ev_loop, loopK, evOps_nil, evOps_cons, opG_none, opG_some, opJ, opK_eq, opA_move, opA_assign, opA_pick, opA_bin, opA_un, opA_extract, opA_field, opA_load, opA_index, opA_indexAddr, opA_fieldAddr, opA_nilCheck, opA_len, opA_call, opA_max, opA_min, opA_alloc, opA_box, opA_store, opA_buildSlice, opA_makeSlice, opA_append, opA_copy, opA_convert, opA_makeMap, opA_slice, opA_makeFunc, opA_build, putO_some, putH_lt, putH_none, putC_lt, putC_none, putU_lt, putU_none, putV_lt, putV_none, condB_true, condB_false, CondP_true, CondP_false, binT_some, binA_int, binA_str, binA_eqb, binA_neb, binA, eqRef, avO_some, avOf, pickT_true, pickT_false, pickT, unT, extractT, loadT, nilCheckT, lenT_str, lenT_row, lenT_sl, lenT_nil, lenT_arr, lenT_mp, lenT_nomp, maxT, minT, maxA, minA, fieldT, fieldAddrT, indexT, indexAddrT, allocT, boxT, storeT, buildSliceT, makeSliceT, appendT, copyT, convV, convT, makeMapT, bndT, sliceT, fnT, buildT, io_add, io_sub, io_mul, io_quo, io_rem, io_shl, io_shr, io_and, io_or, io_xor, io_eql, io_neq, io_lss, io_leq, io_gtr, io_geq, strOp, opS_tmp, opS_const, opV_tmp, opV_const, opS, opV, look_eq, look_ne, Go.Mx.look, fr0, argSlots, seqK_n, seqK_r, seqK_e, seqK, blockK_n, blockK_r, blockK, Fr.known, Fr.newBox, dropBp, retK, retA, resA, mapO, unA, convInt, convStr, strOf, callA, extractA, lenM, cellsA_v, cellsA_agg, cellsA_row, cellsA_sl, cellsA_ptr, cellsA_rp, cellsA_mp, cellsA_fn, okPart_v, okPart_agg, okPart_row, okPart_sl, okPart_ptr, okPart_rp, okPart_mp, okPart_fn, Value.oneCell', fieldA, partA, loadA, loadS, plusS, indexAddrA, indexArrA, nilCheckS, sliceA, sliceArr, fillA, newK, storeS, headK, getV, getB, chkP, mkFr, slotsOf, ptrsOf, boxesOf, firstReg, bindO, makeA, appA, copyA, srcA, srcTy, okPart_u8, cellsA_u8, Cond_iff, sz3, ag3, tk3, by3, ze3, Try.underlying3, sz4, ag4, tk4, by4, ze4, Try.underlying4, sz5, ag5, tk5, by5, ze5, Try.underlying5, sz9, ag9, tk9, st9, by9, ze9, Try.underlying9, sz22, ag22, tk22, st22, by22, ze22, Try.underlying22, sz26, ag26, tk26, by26, ze26, Try.underlying26, sz33, ag33, tk33, by33, ze33, Try.underlying33, sz34, ag34, tk34, by34, ze34, Try.underlying34, sz35, ag35, tk35, st35, by35, ze35, Try.underlying35, ok9, ok10, ok11, ok12, ok13, ok14, ok15, ok16, ok17, ok18, ok19, ok20, decKeeps, hc2, hix, e1]
        refine index_alpha c _ _ ?_
        have hv1 := numB_lt c
        have hv0 : 0 ≤ numB c := hall c (List.mem_of_getElem? hc)
        obtain ⟨v, hv⟩ := Int.eq_ofNat_of_zero_le hv0
        rw [hv]
        have e2 : IntKind.u64.wrap (v : Int) = v := wr_u64 (by omega)
        have e3 : orI .u64 ((b : Int) * 64) (v : Int) = (b : Int) * 64 + v := orI_u64 _ _ 6 b (by omega) (by omega) (by omega) (by omega) (by decide)
        have e4 : IntKind.u64.wrap ((m : Int) + 6) = (m : Int) + 6 := wr_u64 (by omega)
        have hst' : (s.data.toList.take (i2 + 1)).foldl dstep ([], 0, 0) = dstep (out, b, m) c := by
          rw [List.take_add_one, hc, List.foldl_append, hst]; rfl
        have hvn : (numB c).toNat = v := by omega
        by_cases h8 : 8 ≤ m + 6
        · have h8' : (8 : Int) ≤ (m : Int) + 6 := by omega
          obtain ⟨k, hk⟩ : ∃ k, k = m - 2 := ⟨_, rfl⟩
          have e5 : IntKind.u64.wrap ((m : Int) + 6 - 8) = (k : Int) := by rw [wr_u64 (by omega)]; omega
          obtain ⟨p, hp⟩ : ∃ p, p = 2 ^ k := ⟨_, rfl⟩
          have hk4 : k = 0 ∨ k = 2 ∨ k = 4 := by omega
          have hp1 : 1 ≤ p ∧ p ≤ 16 := by
            rw [hp]
            rcases hk4 with h4 | h4 | h4 <;> rw [h4] <;> decide
          obtain ⟨q, hq⟩ : ∃ q, q = (b * 64 + v) / p := ⟨_, rfl⟩
          obtain ⟨r, hr⟩ : ∃ r, r = (b * 64 + v) % p := ⟨_, rfl⟩
          have hpi : (2 : Int) ^ k = (p : Int) := by rw [hp]; simp
          have e6 : shrI .u64 ((b : Int) * 64 + v) (k : Int) = (q : Int) := by
            rw [shrI_eq _ _ _ (by simp [IntKind.bits]; omega), hpi, hq]; simp
          have e7 : IntKind.u8.wrap (q : Int) = ((UInt8.ofNat q).toNat : Int) := by rw [wr_u8_mod]; simp
          have e8 : shlI .u64 1 (k : Int) = (p : Int) := by
            rw [shlI_eq _ _ _ (by simp [IntKind.bits]; omega), hpi, Int.one_mul]; exact wr_u64 (by omega)
          have e9 : IntKind.u64.wrap ((p : Int) - 1) = (p : Int) - 1 := wr_u64 (by omega)
          have e10 : andI .u64 ((b : Int) * 64 + v) ((p : Int) - 1) = (r : Int) := by
            rw [andI_u64 _ _ k ⟨by omega, by omega⟩ (by rw [hpi]) (by omega), hpi, hr]; simp
          have hds : dstep (out, b, m) c = (out ++ [UInt8.ofNat q], r, k) := by
            have hk' : m + 6 - 8 = k := by omega
            unfold dstep
            simp only [hvn, if_pos h8, hk']
            rw [hq, hr, hp]
          rw [hds] at hst'
          have hrp : r < 2 ^ k := by rw [← hp, hr]; exact Nat.mod_lt _ (by omega)
          rcases hO with ⟨rfl, rfl, rfl⟩ | ⟨hne, ver, rfl, rfl⟩
          · simp [ev_skip, ev_seq, ev_cond2, ev_block, ev_exit, ev_ret, ev_region2, ev_loop, loopK, evOps_nil, evOps_cons, opG_none, opG_some, opJ, opK_eq, opA_move, opA_assign, opA_pick, opA_bin, opA_un, opA_extract, opA_field, opA_load, opA_index, opA_indexAddr, opA_fieldAddr, opA_nilCheck, opA_len, opA_call, opA_max, opA_min, opA_alloc, opA_box, opA_store, opA_buildSlice, opA_makeSlice, opA_append, opA_copy, opA_convert, opA_makeMap, opA_slice, opA_makeFunc, opA_build, putO_some, putH_lt, putH_none, putC_lt, putC_none, putU_lt, putU_none, putV_lt, putV_none, condB_true, condB_false, CondP_true, CondP_false, binT_some, binA_int, binA_str, binA_eqb, binA_neb, binA, eqRef, avO_some, avOf, pickT_true, pickT_false, pickT, unT, extractT, loadT, nilCheckT, lenT_str, lenT_row, lenT_sl, lenT_nil, lenT_arr, lenT_mp, lenT_nomp, maxT, minT, maxA, minA, fieldT, fieldAddrT, indexT, indexAddrT, allocT, boxT, storeT, buildSliceT, makeSliceT, appendT, copyT, convV, convT, makeMapT, bndT, sliceT, fnT, buildT, io_add, io_sub, io_mul, io_quo, io_rem, io_shl, io_shr, io_and, io_or, io_xor, io_eql, io_neq, io_lss, io_leq, io_gtr, io_geq, strOp, opS_tmp, opS_const, opV_tmp, opV_const, opS, opV, look_eq, look_ne, Go.Mx.look, fr0, argSlots, seqK_n, seqK_r, seqK_e, seqK, blockK_n, blockK_r, blockK, Fr.known, Fr.newBox, dropBp, retK, retA, resA, mapO, unA, convInt, convStr, strOf, callA, extractA, lenM, cellsA_v, cellsA_agg, cellsA_row, cellsA_sl, cellsA_ptr, cellsA_rp, cellsA_mp, cellsA_fn, okPart_v, okPart_agg, okPart_row, okPart_sl, okPart_ptr, okPart_rp, okPart_mp, okPart_fn, Value.oneCell', fieldA, partA, loadA, loadS, plusS, indexAddrA, indexArrA, nilCheckS, sliceA, sliceArr, fillA, newK, storeS, headK, getV, getB, chkP, mkFr, slotsOf, ptrsOf, boxesOf, firstReg, bindO, makeA, appA, copyA, srcA, srcTy, okPart_u8, cellsA_u8, Cond_iff, sz3, ag3, tk3, by3, ze3, Try.underlying3, sz4, ag4, tk4, by4, ze4, Try.underlying4, sz5, ag5, tk5, by5, ze5, Try.underlying5, sz9, ag9, tk9, st9, by9, ze9, Try.underlying9, sz22, ag22, tk22, st22, by22, ze22, Try.underlying22, sz26, ag26, tk26, by26, ze26, Try.underlying26, sz33, ag33, tk33, by33, ze33, Try.underlying33, sz34, ag34, tk34, by34, ze34, Try.underlying34, sz35, ag35, tk35, st35, by35, ze35, Try.underlying35, ok9, ok10, ok11, ok12, ok13, ok14, ok15, ok16, ok17, ok18, ok19, ok20, decKeeps, e2, e3, e4, e5, e6, e7, e8, e9, e10, h8', hwi]
            refine ⟨s.size - (i2 + 1), by omega, i2 + 1, by omega, rfl, _, r, k, hst', hrp, by omega, by simp, _, ⟨rfl, rfl, rfl, by omega⟩, .inr ⟨by simp, 0, by simp, by simp [u8A]⟩⟩
          · simp [ev_skip, ev_seq, ev_cond2, ev_block, ev_exit, ev_ret, ev_region2, ev_loop, loopK, evOps_nil, evOps_cons, opG_none, opG_some, opJ, opK_eq, opA_move, opA_assign, opA_pick, opA_bin, opA_un, opA_extract, opA_field, opA_load, opA_index, opA_indexAddr, opA_fieldAddr, opA_nilCheck, opA_len, opA_call, opA_max, opA_min, opA_alloc, opA_box, opA_store, opA_buildSlice, opA_makeSlice, opA_append, opA_copy, opA_convert, opA_makeMap, opA_slice, opA_makeFunc, opA_build, putO_some, putH_lt, putH_none, putC_lt, putC_none, putU_lt, putU_none, putV_lt, putV_none, condB_true, condB_false, CondP_true, CondP_false, binT_some, binA_int, binA_str, binA_eqb, binA_neb, binA, eqRef, avO_some, avOf, pickT_true, pickT_false, pickT, unT, extractT, loadT, nilCheckT, lenT_str, lenT_row, lenT_sl, lenT_nil, lenT_arr, lenT_mp, lenT_nomp, maxT, minT, maxA, minA, fieldT, fieldAddrT, indexT, indexAddrT, allocT, boxT, storeT, buildSliceT, makeSliceT, appendT, copyT, convV, convT, makeMapT, bndT, sliceT, fnT, buildT, io_add, io_sub, io_mul, io_quo, io_rem, io_shl, io_shr, io_and, io_or, io_xor, io_eql, io_neq, io_lss, io_leq, io_gtr, io_geq, strOp, opS_tmp, opS_const, opV_tmp, opV_const, opS, opV, look_eq, look_ne, Go.Mx.look, fr0, argSlots, seqK_n, seqK_r, seqK_e, seqK, blockK_n, blockK_r, blockK, Fr.known, Fr.newBox, dropBp, retK, retA, resA, mapO, unA, convInt, convStr, strOf, callA, extractA, lenM, cellsA_v, cellsA_agg, cellsA_row, cellsA_sl, cellsA_ptr, cellsA_rp, cellsA_mp, cellsA_fn, okPart_v, okPart_agg, okPart_row, okPart_sl, okPart_ptr, okPart_rp, okPart_mp, okPart_fn, Value.oneCell', fieldA, partA, loadA, loadS, plusS, indexAddrA, indexArrA, nilCheckS, sliceA, sliceArr, fillA, newK, storeS, headK, getV, getB, chkP, mkFr, slotsOf, ptrsOf, boxesOf, firstReg, bindO, makeA, appA, copyA, srcA, srcTy, okPart_u8, cellsA_u8, Cond_iff, sz3, ag3, tk3, by3, ze3, Try.underlying3, sz4, ag4, tk4, by4, ze4, Try.underlying4, sz5, ag5, tk5, by5, ze5, Try.underlying5, sz9, ag9, tk9, st9, by9, ze9, Try.underlying9, sz22, ag22, tk22, st22, by22, ze22, Try.underlying22, sz26, ag26, tk26, by26, ze26, Try.underlying26, sz33, ag33, tk33, by33, ze33, Try.underlying33, sz34, ag34, tk34, by34, ze34, Try.underlying34, sz35, ag35, tk35, st35, by35, ze35, Try.underlying35, ok9, ok10, ok11, ok12, ok13, ok14, ok15, ok16, ok17, ok18, ok19, ok20, decKeeps, e2, e3, e4, e5, e6, e7, e8, e9, e10, h8', hwi]
            refine ⟨⟨by omega, by omega⟩, s.size - (i2 + 1), by omega, i2 + 1, by omega, rfl, _, r, k, hst', hrp, by omega, by simp; omega, _, ⟨rfl, rfl, rfl, by omega⟩, .inr ⟨by simp, ver + 1, by simp, by simp [u8A]⟩⟩
        · have h8' : ¬ (8 : Int) ≤ (m : Int) + 6 := by omega
          have hm0 : m = 0 := by omega
          subst hm0
          have hds : dstep (out, b, 0) c = (out, b * 64 + v, 6) := by
            unfold dstep
            simp only [hvn]
            rfl
          rw [hds] at hst'
          have e6 : IntKind.u64.wrap 6 = 6 := wr_u64 (by omega)
          simp [ev_skip, ev_seq, ev_cond2, ev_block, ev_exit, ev_ret, ev_region2, ev_loop, loopK, evOps_nil, evOps_cons, opG_none, opG_some, opJ, opK_eq, opA_move, opA_assign, opA_pick, opA_bin, opA_un, opA_extract, opA_field, opA_load, opA_index, opA_indexAddr, opA_fieldAddr, opA_nilCheck, opA_len, opA_call, opA_max, opA_min, opA_alloc, opA_box, opA_store, opA_buildSlice, opA_makeSlice, opA_append, opA_copy, opA_convert, opA_makeMap, opA_slice, opA_makeFunc, opA_build, putO_some, putH_lt, putH_none, putC_lt, putC_none, putU_lt, putU_none, putV_lt, putV_none, condB_true, condB_false, CondP_true, CondP_false, binT_some, binA_int, binA_str, binA_eqb, binA_neb, binA, eqRef, avO_some, avOf, pickT_true, pickT_false, pickT, unT, extractT, loadT, nilCheckT, lenT_str, lenT_row, lenT_sl, lenT_nil, lenT_arr, lenT_mp, lenT_nomp, maxT, minT, maxA, minA, fieldT, fieldAddrT, indexT, indexAddrT, allocT, boxT, storeT, buildSliceT, makeSliceT, appendT, copyT, convV, convT, makeMapT, bndT, sliceT, fnT, buildT, io_add, io_sub, io_mul, io_quo, io_rem, io_shl, io_shr, io_and, io_or, io_xor, io_eql, io_neq, io_lss, io_leq, io_gtr, io_geq, strOp, opS_tmp, opS_const, opV_tmp, opV_const, opS, opV, look_eq, look_ne, Go.Mx.look, fr0, argSlots, seqK_n, seqK_r, seqK_e, seqK, blockK_n, blockK_r, blockK, Fr.known, Fr.newBox, dropBp, retK, retA, resA, mapO, unA, convInt, convStr, strOf, callA, extractA, lenM, cellsA_v, cellsA_agg, cellsA_row, cellsA_sl, cellsA_ptr, cellsA_rp, cellsA_mp, cellsA_fn, okPart_v, okPart_agg, okPart_row, okPart_sl, okPart_ptr, okPart_rp, okPart_mp, okPart_fn, Value.oneCell', fieldA, partA, loadA, loadS, plusS, indexAddrA, indexArrA, nilCheckS, sliceA, sliceArr, fillA, newK, storeS, headK, getV, getB, chkP, mkFr, slotsOf, ptrsOf, boxesOf, firstReg, bindO, makeA, appA, copyA, srcA, srcTy, okPart_u8, cellsA_u8, Cond_iff, sz3, ag3, tk3, by3, ze3, Try.underlying3, sz4, ag4, tk4, by4, ze4, Try.underlying4, sz5, ag5, tk5, by5, ze5, Try.underlying5, sz9, ag9, tk9, st9, by9, ze9, Try.underlying9, sz22, ag22, tk22, st22, by22, ze22, Try.underlying22, sz26, ag26, tk26, by26, ze26, Try.underlying26, sz33, ag33, tk33, by33, ze33, Try.underlying33, sz34, ag34, tk34, by34, ze34, Try.underlying34, sz35, ag35, tk35, st35, by35, ze35, Try.underlying35, ok9, ok10, ok11, ok12, ok13, ok14, ok15, ok16, ok17, ok18, ok19, ok20, decKeeps, e2, e3, e6, hwi]
          refine ⟨s.size - (i2 + 1), by omega, i2 + 1, by omega, rfl, _, _, 6, hst', by simp at hbm; omega, by omega, by omega, _, ⟨rfl, by omega, by omega, by omega⟩, hO⟩
      · have hc2 : ¬ ((i2 : Int) < (s.size : Int)) := by omega
        have hend : s.data.toList.foldl dstep ([], 0, 0) = (out, b, m) := by rw [← hst, List.take_of_length_le (by omega)]
        have hws : IntKind.i64.wrap ((s.size : Int) - 1) = (s.size : Int) - 1 := wr_i64 (by omega)
        have hd : decB s.data.toList = if b = 0 then (out, 0, 0) else ([], 21, (s.size : Int) - 1) := by
          unfold decB
          rw [hb]
          simp only [hsz, if_neg h1, hend]
        rw [hd] at h
        simp [ev_skip, ev_seq, ev_cond2, ev_block, ev_exit, ev_ret, ev_region2, ev_loop, loopK, evOps_nil, evOps_cons, opG_none, opG_some, opJ, opK_eq, opA_move, opA_assign, opA_pick, opA_bin, opA_un, opA_extract, opA_field, opA_load, opA_index, opA_indexAddr, opA_fieldAddr, opA_nilCheck, opA_len, opA_call, opA_max, opA_min, opA_alloc, opA_box, opA_store, opA_buildSlice, opA_makeSlice, opA_append, opA_copy, opA_convert, opA_makeMap, opA_slice, opA_makeFunc, opA_build, putO_some, putH_lt, putH_none, putC_lt, putC_none, putU_lt, putU_none, putV_lt, putV_none, condB_true, condB_false, CondP_true, CondP_false, binT_some, binA_int, binA_str, binA_eqb, binA_neb, binA, eqRef, avO_some, avOf, pickT_true, pickT_false, pickT, unT, extractT, loadT, nilCheckT, lenT_str, lenT_row, lenT_sl, lenT_nil, lenT_arr, lenT_mp, lenT_nomp, maxT, minT, maxA, minA, fieldT, fieldAddrT, indexT, indexAddrT, allocT, boxT, storeT, buildSliceT, makeSliceT, appendT, copyT, convV, convT, makeMapT, bndT, sliceT, fnT, buildT, io_add, io_sub, io_mul, io_quo, io_rem, io_shl, io_shr, io_and, io_or, io_xor, io_eql, io_neq, io_lss, io_leq, io_gtr, io_geq, strOp, opS_tmp, opS_const, opV_tmp, opV_const, opS, opV, look_eq, look_ne, Go.Mx.look, fr0, argSlots, seqK_n, seqK_r, seqK_e, seqK, blockK_n, blockK_r, blockK, Fr.known, Fr.newBox, dropBp, retK, retA, resA, mapO, unA, convInt, convStr, strOf, callA, extractA, lenM, cellsA_v, cellsA_agg, cellsA_row, cellsA_sl, cellsA_ptr, cellsA_rp, cellsA_mp, cellsA_fn, okPart_v, okPart_agg, okPart_row, okPart_sl, okPart_ptr, okPart_rp, okPart_mp, okPart_fn, Value.oneCell', fieldA, partA, loadA, loadS, plusS, indexAddrA, indexArrA, nilCheckS, sliceA, sliceArr, fillA, newK, storeS, headK, getV, getB, chkP, mkFr, slotsOf, ptrsOf, boxesOf, firstReg, bindO, makeA, appA, copyA, srcA, srcTy, okPart_u8, cellsA_u8, Cond_iff, sz3, ag3, tk3, by3, ze3, Try.underlying3, sz4, ag4, tk4, by4, ze4, Try.underlying4, sz5, ag5, tk5, by5, ze5, Try.underlying5, sz9, ag9, tk9, st9, by9, ze9, Try.underlying9, sz22, ag22, tk22, st22, by22, ze22, Try.underlying22, sz26, ag26, tk26, by26, ze26, Try.underlying26, sz33, ag33, tk33, by33, ze33, Try.underlying33, sz34, ag34, tk34, by34, ze34, Try.underlying34, sz35, ag35, tk35, st35, by35, ze35, Try.underlying35, ok9, ok10, ok11, ok12, ok13, ok14, ok15, ok16, ok17, ok18, ok19, ok20, decKeeps, hc2, hws]
        refine ⟨fun hb0 => ?_, fun hb0 => ?_⟩
        · rw [if_neg hb0] at h
          rcases hO with ⟨rfl, rfl, rfl⟩ | ⟨hne, ver, rfl, rfl⟩
          · exact .inl ⟨_, [], rfl, by simp, by simp, h⟩
          · exact .inl ⟨_, _, rfl, rfl, by simp, h⟩
        · rw [if_pos hb0] at h
          rcases hO with ⟨rfl, rfl, rfl⟩ | ⟨hne, ver, rfl, rfl⟩
          · exact .inl ⟨_, [], rfl, by simp, by simp, h⟩
          · exact .inr ⟨ver, 1, _, _, _, rfl, rfl, by simp, by simp, by simp, h⟩
end Go.Proofs.Ytanfjddopjkneaa
