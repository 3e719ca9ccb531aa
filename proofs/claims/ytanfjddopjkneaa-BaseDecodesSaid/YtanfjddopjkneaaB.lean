import Derived.Test.YtanfjddopjkneaaA
namespace Go.Proofs.Ytanfjddopjkneaa
open Go.Mx
set_option linter.unusedVariables false
set_option linter.unusedSimpArgs false

def alpha : ByteArray := ⟨#[65, 66, 67, 68, 69, 70, 71, 72, 73, 74, 75, 76, 77, 78, 79, 80, 81, 82, 83, 84, 85, 86, 87, 88, 89, 90, 97, 98, 99, 100, 101, 102, 103, 104, 105, 106, 107, 108, 109, 110, 111, 112, 113, 114, 115, 116, 117, 118, 119, 120, 121, 122, 48, 49, 50, 51, 52, 53, 54, 55, 56, 57, 43, 47]⟩
def letter (n : Nat) : UInt8 := alpha.data.getD n 0

theorem alpha_at (k : IntKind) (i : Int) (h : 0 ≤ i ∧ i < 64) :
    indexStr (.v (.string ⟨#[65, 66, 67, 68, 69, 70, 71, 72, 73, 74, 75, 76, 77, 78, 79, 80, 81, 82, 83, 84, 85, 86, 87, 88, 89, 90, 97, 98, 99, 100, 101, 102, 103, 104, 105, 106, 107, 108, 109, 110, 111, 112, 113, 114, 115, 116, 117, 118, 119, 120, 121, 122, 48, 49, 50, 51, 52, 53, 54, 55, 56, 57, 43, 47]⟩)) (.v (.int k i)) = some (u8A (letter i.toNat)) := by
  have hs : i.toNat < alpha.size := by have : alpha.size = 64 := by decide
                                       omega
  show indexStr (.v (.string alpha)) (.v (.int k i)) = _
  simp only [indexStr]
  rw [dif_pos ⟨h.1, hs⟩]
  unfold u8A letter
  have : alpha.data.getD i.toNat 0 = alpha[i.toNat]'hs := by
    rw [Array.getD_eq_getD_getElem?, Array.getElem?_eq_getElem (by exact hs)]
    rfl
  rw [this]

/-- Four letters of three bytes. -/
def quad (n : Nat) : List UInt8 := [letter (n / 262144 % 64), letter (n / 4096 % 64), letter (n / 64 % 64), letter (n % 64)]
theorem quad_length (n : Nat) : (quad n).length = 4 := rfl
def encB : List UInt8 → List UInt8
  | [] => []
  | [a] => (quad (a.toNat * 65536)).take 2
  | [a, b] => (quad (a.toNat * 65536 + b.toNat * 256)).take 3
  | a :: b :: c :: r => quad (a.toNat * 65536 + b.toNat * 256 + c.toNat) ++ encB r

theorem encB_length : ∀ (l : List UInt8), ((encB l).length : Int) = sizeB l.length
  | [] => by simp [encB, sizeB]
  | [a] => by simp [encB, quad, sizeB]
  | [a, b] => by simp [encB, quad, sizeB]
  | a :: b :: c :: r => by
    have ih := encB_length r
    have e : (encB (a :: b :: c :: r)).length = 4 + (encB r).length := by simp [encB, quad]; omega
    rw [e]
    simp only [List.length_cons]
    unfold sizeB at ih ⊢
    generalize r.length = m at ih ⊢
    by_cases h1 : (m : Int) ≤ 0
    · rw [if_pos h1] at ih
      rw [if_neg (by omega)]
      split <;> omega
    · rw [if_neg h1] at ih
      rw [if_neg (by omega)]
      split <;> split at ih <;> omega

def n3 (r : List UInt8) : Nat := (r.getD 0 0).toNat * 65536 + (r.getD 1 0).toNat * 256 + (r.getD 2 0).toNat
theorem encB_step {r : List UInt8} (h : 0 < r.length) : encB r = (quad (n3 r)).take (min r.length 3 + 1) ++ encB (r.drop 3) := by
  rcases r with _ | ⟨a, _ | ⟨b, _ | ⟨c, r⟩⟩⟩
  · simp at h
  · simp [encB, n3, quad]
  · simp [encB, n3, quad]
  · simp [encB, n3, quad]
theorem copy3 (r : List UInt8) : splice [AV.v (.int .u8 0), .v (.int .u8 0), .v (.int .u8 0)] 0 (List.take (min r.length 3) (List.map u8A r)) = [u8A (r.getD 0 0), u8A (r.getD 1 0), u8A (r.getD 2 0)] := by
  rcases r with _ | ⟨a, _ | ⟨b, _ | ⟨c, r⟩⟩⟩
  · rfl
  · rfl
  · rfl
  · rw [show min (a :: b :: c :: r).length 3 = 3 from by simp]; rfl

def encKeeps : List (Nat × Keep) := [(2, ⟨[0, 3], [], []⟩), (7, ⟨[0, 3, 5, 6, 32, 33], [], []⟩)]

set_option maxHeartbeats 4000000 in
theorem enc_sp (bs : List UInt8) (x : Bool) (n : Nat) (H : Hp) (Q : AV → Hp → Prop) (hn : n = bs.length) (hl : bs.length ≤ 100000) (h : Q (.v (.string ⟨(encB bs).toArray⟩)) H) :
    Sp Try.prog 9 [.row x n (bs.map u8A)] Q H := by
  subst hn
  refine Sp.clean ?_
  refine Sp.body encKeeps ⟨[], []⟩ Try.func9 rfl (Nat.le_of_ble_eq_true rfl) ?_
  simp [ev_skip, ev_seq, ev_cond2, ev_block, ev_exit, ev_ret, ev_region2, ev_loop, loopK, evOps_nil, evOps_cons, opG_none, opG_some, opJ, opK_eq, opA_move, opA_assign, opA_pick, opA_bin, opA_un, opA_extract, opA_field, opA_load, opA_index, opA_indexAddr, opA_fieldAddr, opA_nilCheck, opA_len, opA_call, opA_max, opA_min, opA_alloc, opA_box, opA_store, opA_buildSlice, opA_makeSlice, opA_append, opA_copy, opA_convert, opA_makeMap, opA_slice, opA_makeFunc, opA_build, putO_some, putH_lt, putH_none, putC_lt, putC_none, putU_lt, putU_none, putV_lt, putV_none, condB_true, condB_false, CondP_true, CondP_false, binT_some, binA_int, binA_str, binA_eqb, binA_neb, binA, eqRef, avO_some, avOf, pickT_true, pickT_false, pickT, unT, extractT, loadT, nilCheckT, lenT_str, lenT_row, lenT_sl, lenT_nil, lenT_arr, lenT_mp, lenT_nomp, maxT, minT, maxA, minA, fieldT, fieldAddrT, indexT, indexAddrT, allocT, boxT, storeT, buildSliceT, makeSliceT, appendT, copyT, convV, convT, makeMapT, bndT, sliceT, fnT, buildT, io_add, io_sub, io_mul, io_quo, io_rem, io_shl, io_shr, io_and, io_or, io_xor, io_eql, io_neq, io_lss, io_leq, io_gtr, io_geq, strOp, opS_tmp, opS_const, opV_tmp, opV_const, opS, opV, look_eq, look_ne, Go.Mx.look, fr0, argSlots, seqK_n, seqK_r, seqK_e, seqK, blockK_n, blockK_r, blockK, Fr.known, Fr.newBox, dropBp, retK, retA, resA, mapO, unA, convInt, convStr, strOf, callA, extractA, lenM, cellsA_v, cellsA_agg, cellsA_row, cellsA_sl, cellsA_ptr, cellsA_rp, cellsA_mp, cellsA_fn, okPart_v, okPart_agg, okPart_row, okPart_sl, okPart_ptr, okPart_rp, okPart_mp, okPart_fn, Value.oneCell', fieldA, partA, loadA, loadS, plusS, indexAddrA, indexArrA, nilCheckS, sliceA, sliceArr, fillA, newK, storeS, headK, getV, getB, chkP, mkFr, slotsOf, ptrsOf, boxesOf, firstReg, bindO, makeA, appA, copyA, srcA, srcTy, okPart_u8, cellsA_u8, Cond_iff, sz3, ag3, tk3, by3, ze3, Try.underlying3, sz4, ag4, tk4, by4, ze4, Try.underlying4, sz5, ag5, tk5, by5, ze5, Try.underlying5, sz9, ag9, tk9, st9, by9, ze9, Try.underlying9, sz22, ag22, tk22, st22, by22, ze22, Try.underlying22, sz26, ag26, tk26, by26, ze26, Try.underlying26, sz33, ag33, tk33, by33, ze33, Try.underlying33, sz34, ag34, tk34, by34, ze34, Try.underlying34, sz35, ag35, tk35, st35, by35, ze35, Try.underlying35, ok9, ok10, ok11, ok12, ok13, ok14, ok15, ok16, ok17, ok18, ok19, ok20, encKeeps]
  refine size_sp _ _ _ (by omega) ?_
  have hsz : 0 ≤ sizeB bs.length ∧ sizeB bs.length ≤ 140000 := by unfold sizeB; split <;> (try split) <;> omega
  simp [ev_skip, ev_seq, ev_cond2, ev_block, ev_exit, ev_ret, ev_region2, ev_loop, loopK, evOps_nil, evOps_cons, opG_none, opG_some, opJ, opK_eq, opA_move, opA_assign, opA_pick, opA_bin, opA_un, opA_extract, opA_field, opA_load, opA_index, opA_indexAddr, opA_fieldAddr, opA_nilCheck, opA_len, opA_call, opA_max, opA_min, opA_alloc, opA_box, opA_store, opA_buildSlice, opA_makeSlice, opA_append, opA_copy, opA_convert, opA_makeMap, opA_slice, opA_makeFunc, opA_build, putO_some, putH_lt, putH_none, putC_lt, putC_none, putU_lt, putU_none, putV_lt, putV_none, condB_true, condB_false, CondP_true, CondP_false, binT_some, binA_int, binA_str, binA_eqb, binA_neb, binA, eqRef, avO_some, avOf, pickT_true, pickT_false, pickT, unT, extractT, loadT, nilCheckT, lenT_str, lenT_row, lenT_sl, lenT_nil, lenT_arr, lenT_mp, lenT_nomp, maxT, minT, maxA, minA, fieldT, fieldAddrT, indexT, indexAddrT, allocT, boxT, storeT, buildSliceT, makeSliceT, appendT, copyT, convV, convT, makeMapT, bndT, sliceT, fnT, buildT, io_add, io_sub, io_mul, io_quo, io_rem, io_shl, io_shr, io_and, io_or, io_xor, io_eql, io_neq, io_lss, io_leq, io_gtr, io_geq, strOp, opS_tmp, opS_const, opV_tmp, opV_const, opS, opV, look_eq, look_ne, Go.Mx.look, fr0, argSlots, seqK_n, seqK_r, seqK_e, seqK, blockK_n, blockK_r, blockK, Fr.known, Fr.newBox, dropBp, retK, retA, resA, mapO, unA, convInt, convStr, strOf, callA, extractA, lenM, cellsA_v, cellsA_agg, cellsA_row, cellsA_sl, cellsA_ptr, cellsA_rp, cellsA_mp, cellsA_fn, okPart_v, okPart_agg, okPart_row, okPart_sl, okPart_ptr, okPart_rp, okPart_mp, okPart_fn, Value.oneCell', fieldA, partA, loadA, loadS, plusS, indexAddrA, indexArrA, nilCheckS, sliceA, sliceArr, fillA, newK, storeS, headK, getV, getB, chkP, mkFr, slotsOf, ptrsOf, boxesOf, firstReg, bindO, makeA, appA, copyA, srcA, srcTy, okPart_u8, cellsA_u8, Cond_iff, sz3, ag3, tk3, by3, ze3, Try.underlying3, sz4, ag4, tk4, by4, ze4, Try.underlying4, sz5, ag5, tk5, by5, ze5, Try.underlying5, sz9, ag9, tk9, st9, by9, ze9, Try.underlying9, sz22, ag22, tk22, st22, by22, ze22, Try.underlying22, sz26, ag26, tk26, by26, ze26, Try.underlying26, sz33, ag33, tk33, by33, ze33, Try.underlying33, sz34, ag34, tk34, by34, ze34, Try.underlying34, sz35, ag35, tk35, st35, by35, ze35, Try.underlying35, ok9, ok10, ok11, ok12, ok13, ok14, ok15, ok16, ok17, ok18, ok19, ok20, encKeeps]
  refine ⟨⟨by omega, by omega, by omega⟩, ?_⟩
  refine LoopC.intro (fun n xs _ H' => ∃ (x : Bool) (r out : List UInt8) (ver : Nat) (G : Hp), n = r.length ∧ r.length ≤ bs.length ∧ out ++ encB r = encB bs ∧ xs = [.row x r.length (r.map u8A), .sl H.length ver 1 0 out.length] ∧ H' = H ++ .cells ver (out.map u8A) :: G) bs.length
    ⟨x, bs, [], 0, [], rfl, Nat.le_refl _, rfl, rfl, rfl⟩ ?_
  rintro n xs bx H' ⟨x, r, out, ver, G, rfl, hr, ho, rfl, rfl⟩
  have hol : out.length ≤ 140000 := by
    have h1 := encB_length bs
    rw [← ho, List.length_append] at h1
    omega
  simp [ev_skip, ev_seq, ev_cond2, ev_block, ev_exit, ev_ret, ev_region2, ev_loop, loopK, evOps_nil, evOps_cons, opG_none, opG_some, opJ, opK_eq, opA_move, opA_assign, opA_pick, opA_bin, opA_un, opA_extract, opA_field, opA_load, opA_index, opA_indexAddr, opA_fieldAddr, opA_nilCheck, opA_len, opA_call, opA_max, opA_min, opA_alloc, opA_box, opA_store, opA_buildSlice, opA_makeSlice, opA_append, opA_copy, opA_convert, opA_makeMap, opA_slice, opA_makeFunc, opA_build, putO_some, putH_lt, putH_none, putC_lt, putC_none, putU_lt, putU_none, putV_lt, putV_none, condB_true, condB_false, CondP_true, CondP_false, binT_some, binA_int, binA_str, binA_eqb, binA_neb, binA, eqRef, avO_some, avOf, pickT_true, pickT_false, pickT, unT, extractT, loadT, nilCheckT, lenT_str, lenT_row, lenT_sl, lenT_nil, lenT_arr, lenT_mp, lenT_nomp, maxT, minT, maxA, minA, fieldT, fieldAddrT, indexT, indexAddrT, allocT, boxT, storeT, buildSliceT, makeSliceT, appendT, copyT, convV, convT, makeMapT, bndT, sliceT, fnT, buildT, io_add, io_sub, io_mul, io_quo, io_rem, io_shl, io_shr, io_and, io_or, io_xor, io_eql, io_neq, io_lss, io_leq, io_gtr, io_geq, strOp, opS_tmp, opS_const, opV_tmp, opV_const, opS, opV, look_eq, look_ne, Go.Mx.look, fr0, argSlots, seqK_n, seqK_r, seqK_e, seqK, blockK_n, blockK_r, blockK, Fr.known, Fr.newBox, dropBp, retK, retA, resA, mapO, unA, convInt, convStr, strOf, callA, extractA, lenM, cellsA_v, cellsA_agg, cellsA_row, cellsA_sl, cellsA_ptr, cellsA_rp, cellsA_mp, cellsA_fn, okPart_v, okPart_agg, okPart_row, okPart_sl, okPart_ptr, okPart_rp, okPart_mp, okPart_fn, Value.oneCell', fieldA, partA, loadA, loadS, plusS, indexAddrA, indexArrA, nilCheckS, sliceA, sliceArr, fillA, newK, storeS, headK, getV, getB, chkP, mkFr, slotsOf, ptrsOf, boxesOf, firstReg, bindO, makeA, appA, copyA, srcA, srcTy, okPart_u8, cellsA_u8, Cond_iff, sz3, ag3, tk3, by3, ze3, Try.underlying3, sz4, ag4, tk4, by4, ze4, Try.underlying4, sz5, ag5, tk5, by5, ze5, Try.underlying5, sz9, ag9, tk9, st9, by9, ze9, Try.underlying9, sz22, ag22, tk22, st22, by22, ze22, Try.underlying22, sz26, ag26, tk26, by26, ze26, Try.underlying26, sz33, ag33, tk33, by33, ze33, Try.underlying33, sz34, ag34, tk34, by34, ze34, Try.underlying34, sz35, ag35, tk35, st35, by35, ze35, Try.underlying35, ok9, ok10, ok11, ok12, ok13, ok14, ok15, ok16, ok17, ok18, ok19, ok20, encKeeps, copy3, u8A]
  refine ⟨fun hr0 => ?_, fun hr0 => ?_⟩
  · have ha := (r.getD 0 0).toNat_lt
    have hb := (r.getD 1 0).toNat_lt
    have hc := (r.getD 2 0).toNat_lt
    have hr0' := encB_step hr0
    have hcat : out ++ ((quad (n3 r)).take (min r.length 3 + 1) ++ encB (r.drop 3)) = encB bs := by rw [← hr0', ho]
    refine LoopC.intro (fun n xs _ H' => ∃ (i ver : Nat) (G : Hp), i ≤ min r.length 3 + 1 ∧ n = min r.length 3 + 1 - i ∧ xs = [.row x r.length (r.map u8A), .sl H.length ver 1 0 (out.length + i), .v (.int .i64 (min r.length 3 : Nat)), .v (.int .u64 (n3 r : Nat)), .v (.int .i64 (min r.length 3 + 1 : Nat)), .v (.int .i64 i)] ∧ H' = H ++ .cells ver ((out ++ (quad (n3 r)).take i).map u8A) :: G) (min r.length 3 + 1)
      ⟨0, ver, _, by omega, rfl, ?_, by simp; rfl⟩ ?_
    · have e : ∀ x : UInt8, IntKind.u64.wrap (x.toNat : Int) = x.toNat := fun x => wr_u64 (by have := x.toNat_lt; omega)
      simp only [List.cons.injEq, AV.v.injEq, Value.int.injEq, true_and, and_true]
      simp [e]
      refine ⟨?_, wr_i64 (by omega)⟩
      have e1 : shlI .u64 ((r.getD 0 0).toNat : Int) 16 = (r.getD 0 0).toNat * 65536 := by rw [show (16 : Int) = ((16 : Nat) : Int) from rfl, shlI_eq _ _ _ (by decide)]; exact wr_u64 (by omega)
      have e2 : shlI .u64 ((r.getD 1 0).toNat : Int) 8 = (r.getD 1 0).toNat * 256 := by rw [show (8 : Int) = ((8 : Nat) : Int) from rfl, shlI_eq _ _ _ (by decide)]; exact wr_u64 (by omega)
      simp at e1 e2 ha hb hc
      have e3 : orI .u64 ((r[0]?.getD 0).toNat * 65536) ((r[1]?.getD 0).toNat * 256) = (r[0]?.getD 0).toNat * 65536 + (r[1]?.getD 0).toNat * 256 := orI_u64 _ _ 16 (r[0]?.getD 0).toNat (by omega) (by omega) (by omega) (by omega) (by decide)
      rw [e1, e2, e3]
      rw [orI_u64 _ _ 8 ((r[0]?.getD 0).toNat * 256 + (r[1]?.getD 0).toNat) (by omega) (by omega) (by omega) (by omega) (by decide)]
      simp [n3]
    · rintro n xs bx H' ⟨i, ver, G, hi, rfl, rfl, rfl⟩
      rcases Nat.lt_or_ge i (min r.length 3 + 1) with hlt | hge
      · have hc1 : ((i : Int) < ((min r.length 3 : Nat) : Int) + 1) := by omega
        have hi4 : i < 4 := by omega
        have hw1 : IntKind.i64.wrap (6 * (i : Int)) = 6 * i := wr_i64 (by omega)
        have hw2 : IntKind.i64.wrap (18 - 6 * (i : Int)) = 18 - 6 * i := wr_i64 (by omega)
        have hw3 : 6 * (i : Int) ≤ 18 := by omega
        have hn : n3 r < 16777216 := by unfold n3; omega
        have hq : andI .u64 (shrI .u64 (n3 r : Int) (18 - 6 * (i : Int))) 63 = ((n3 r / 2 ^ (18 - 6 * i) % 64 : Nat) : Int) := by
          rw [show (18 - 6 * (i : Int)) = ((18 - 6 * i : Nat) : Int) from by omega, shrI_eq _ _ _ (by simp [IntKind.bits]; omega)]
          have e : (n3 r : Int) / 2 ^ (18 - 6 * i) = ((n3 r / 2 ^ (18 - 6 * i) : Nat) : Int) := by simp
          rw [e, andI_u64 _ _ 6 ⟨Int.natCast_nonneg _, by have := Nat.div_le_self (n3 r) (2 ^ (18 - 6 * i)); omega⟩ (by decide) (by decide)]
          simp
        have hal : indexStr (.v (.string ⟨#[65, 66, 67, 68, 69, 70, 71, 72, 73, 74, 75, 76, 77, 78, 79, 80, 81, 82, 83, 84, 85, 86, 87, 88, 89, 90, 97, 98, 99, 100, 101, 102, 103, 104, 105, 106, 107, 108, 109, 110, 111, 112, 113, 114, 115, 116, 117, 118, 119, 120, 121, 122, 48, 49, 50, 51, 52, 53, 54, 55, 56, 57, 43, 47]⟩)) (.v (.int .u64 (andI .u64 (shrI .u64 (n3 r : Int) (18 - 6 * (i : Int))) 63))) = some (u8A (letter (n3 r / 2 ^ (18 - 6 * i) % 64))) := by
          rw [hq, alpha_at _ _ ⟨by omega, by omega⟩]; rfl
        simp [ev_skip, ev_seq, ev_cond2, ev_block, ev_exit, ev_ret, ev_region2, ev_loop, loopK, evOps_nil, evOps_cons, opG_none, opG_some, opJ, opK_eq, opA_move, opA_assign, opA_pick, opA_bin, opA_un, opA_extract, opA_field, opA_load, opA_index, opA_indexAddr, opA_fieldAddr, opA_nilCheck, opA_len, opA_call, opA_max, opA_min, opA_alloc, opA_box, opA_store, opA_buildSlice, opA_makeSlice, opA_append, opA_copy, opA_convert, opA_makeMap, opA_slice, opA_makeFunc, opA_build, putO_some, putH_lt, putH_none, putC_lt, putC_none, putU_lt, putU_none, putV_lt, putV_none, condB_true, condB_false, CondP_true, CondP_false, binT_some, binA_int, binA_str, binA_eqb, binA_neb, binA, eqRef, avO_some, avOf, pickT_true, pickT_false, pickT, unT, extractT, loadT, nilCheckT, lenT_str, lenT_row, lenT_sl, lenT_nil, lenT_arr, lenT_mp, lenT_nomp, maxT, minT, maxA, minA, fieldT, fieldAddrT, indexT, indexAddrT, allocT, boxT, storeT, buildSliceT, makeSliceT, appendT, copyT, convV, convT, makeMapT, bndT, sliceT, fnT, buildT, io_add, io_sub, io_mul, io_quo, io_rem, io_shl, io_shr, io_and, io_or, io_xor, io_eql, io_neq, io_lss, io_leq, io_gtr, io_geq, strOp, opS_tmp, opS_const, opV_tmp, opV_const, opS, opV, look_eq, look_ne, Go.Mx.look, fr0, argSlots, seqK_n, seqK_r, seqK_e, seqK, blockK_n, blockK_r, blockK, Fr.known, Fr.newBox, dropBp, retK, retA, resA, mapO, unA, convInt, convStr, strOf, callA, extractA, lenM, cellsA_v, cellsA_agg, cellsA_row, cellsA_sl, cellsA_ptr, cellsA_rp, cellsA_mp, cellsA_fn, okPart_v, okPart_agg, okPart_row, okPart_sl, okPart_ptr, okPart_rp, okPart_mp, okPart_fn, Value.oneCell', fieldA, partA, loadA, loadS, plusS, indexAddrA, indexArrA, nilCheckS, sliceA, sliceArr, fillA, newK, storeS, headK, getV, getB, chkP, mkFr, slotsOf, ptrsOf, boxesOf, firstReg, bindO, makeA, appA, copyA, srcA, srcTy, okPart_u8, cellsA_u8, Cond_iff, sz3, ag3, tk3, by3, ze3, Try.underlying3, sz4, ag4, tk4, by4, ze4, Try.underlying4, sz5, ag5, tk5, by5, ze5, Try.underlying5, sz9, ag9, tk9, st9, by9, ze9, Try.underlying9, sz22, ag22, tk22, st22, by22, ze22, Try.underlying22, sz26, ag26, tk26, by26, ze26, Try.underlying26, sz33, ag33, tk33, by33, ze33, Try.underlying33, sz34, ag34, tk34, by34, ze34, Try.underlying34, sz35, ag35, tk35, st35, by35, ze35, Try.underlying35, ok9, ok10, ok11, ok12, ok13, ok14, ok15, ok16, ok17, ok18, ok19, ok20, encKeeps, hc1, hw1, hw2, hw3, hal, quad_length]
        clear hal
        refine ⟨⟨by omega, by omega, by omega⟩, min r.length 3 + 1 - (i + 1), by omega, i + 1, by omega, rfl, ver + 1, ⟨⟨rfl, by omega⟩, wr_i64 (by omega)⟩, rfl, ?_⟩
        rw [List.take_of_length_le (by simp [quad_length]; omega), List.append_assoc]
        congr 1
        clear hq hw1 hw2 hw3
        have h4 : i = 0 ∨ i = 1 ∨ i = 2 ∨ i = 3 := by omega
        rcases h4 with rfl | rfl | rfl | rfl <;> simp [quad]
      · have hc1 : ¬ ((i : Int) < ((min r.length 3 : Nat) : Int) + 1) := by omega
        have hsl : sliceRow 1 x r.length (r.map u8A) ((min r.length 3 : Nat) : Int) (r.length : Int) = some (.row false (r.drop 3).length ((r.drop 3).map u8A)) := by
          unfold sliceRow
          rw [if_pos ⟨by omega, by omega, by omega⟩]
          have e : ((r.length : Int) - ((min r.length 3 : Nat) : Int)).toNat = r.length - 3 := by omega
          rw [e]
          simp
          rcases Nat.lt_or_ge r.length 3 with h3 | h3
          · rw [Nat.min_eq_left (by omega)]; rw [show r.length - 3 = 0 from by omega, List.drop_eq_nil_of_le (by simp), List.drop_eq_nil_of_le (by simp; omega)]; simp
          · rw [Nat.min_eq_right h3, List.take_of_length_le (by simp)]
        have hi' : i = min r.length 3 + 1 := by omega
        subst hi'
        simp [ev_skip, ev_seq, ev_cond2, ev_block, ev_exit, ev_ret, ev_region2, ev_loop, loopK, evOps_nil, evOps_cons, opG_none, opG_some, opJ, opK_eq, opA_move, opA_assign, opA_pick, opA_bin, opA_un, opA_extract, opA_field, opA_load, opA_index, opA_indexAddr, opA_fieldAddr, opA_nilCheck, opA_len, opA_call, opA_max, opA_min, opA_alloc, opA_box, opA_store, opA_buildSlice, opA_makeSlice, opA_append, opA_copy, opA_convert, opA_makeMap, opA_slice, opA_makeFunc, opA_build, putO_some, putH_lt, putH_none, putC_lt, putC_none, putU_lt, putU_none, putV_lt, putV_none, condB_true, condB_false, CondP_true, CondP_false, binT_some, binA_int, binA_str, binA_eqb, binA_neb, binA, eqRef, avO_some, avOf, pickT_true, pickT_false, pickT, unT, extractT, loadT, nilCheckT, lenT_str, lenT_row, lenT_sl, lenT_nil, lenT_arr, lenT_mp, lenT_nomp, maxT, minT, maxA, minA, fieldT, fieldAddrT, indexT, indexAddrT, allocT, boxT, storeT, buildSliceT, makeSliceT, appendT, copyT, convV, convT, makeMapT, bndT, sliceT, fnT, buildT, io_add, io_sub, io_mul, io_quo, io_rem, io_shl, io_shr, io_and, io_or, io_xor, io_eql, io_neq, io_lss, io_leq, io_gtr, io_geq, strOp, opS_tmp, opS_const, opV_tmp, opV_const, opS, opV, look_eq, look_ne, Go.Mx.look, fr0, argSlots, seqK_n, seqK_r, seqK_e, seqK, blockK_n, blockK_r, blockK, Fr.known, Fr.newBox, dropBp, retK, retA, resA, mapO, unA, convInt, convStr, strOf, callA, extractA, lenM, cellsA_v, cellsA_agg, cellsA_row, cellsA_sl, cellsA_ptr, cellsA_rp, cellsA_mp, cellsA_fn, okPart_v, okPart_agg, okPart_row, okPart_sl, okPart_ptr, okPart_rp, okPart_mp, okPart_fn, Value.oneCell', fieldA, partA, loadA, loadS, plusS, indexAddrA, indexArrA, nilCheckS, sliceA, sliceArr, fillA, newK, storeS, headK, getV, getB, chkP, mkFr, slotsOf, ptrsOf, boxesOf, firstReg, bindO, makeA, appA, copyA, srcA, srcTy, okPart_u8, cellsA_u8, Cond_iff, sz3, ag3, tk3, by3, ze3, Try.underlying3, sz4, ag4, tk4, by4, ze4, Try.underlying4, sz5, ag5, tk5, by5, ze5, Try.underlying5, sz9, ag9, tk9, st9, by9, ze9, Try.underlying9, sz22, ag22, tk22, st22, by22, ze22, Try.underlying22, sz26, ag26, tk26, by26, ze26, Try.underlying26, sz33, ag33, tk33, by33, ze33, Try.underlying33, sz34, ag34, tk34, by34, ze34, Try.underlying34, sz35, ag35, tk35, st35, by35, ze35, Try.underlying35, ok9, ok10, ok11, ok12, ok13, ok14, ok15, ok16, ok17, ok18, ok19, ok20, encKeeps, hc1, hsl]
        refine ⟨(r.drop 3).length, by simp; omega, r.drop 3, rfl, by simp; omega, out ++ (quad (n3 r)).take (min r.length 3 + 1), ?_, ver, ⟨⟨by simp, by simp⟩, rfl, by simp [quad_length]; omega⟩, rfl, by simp⟩
        rw [List.append_assoc]; exact hcat
  · subst hr0
    simp [encB] at ho
    simp [ev_skip, ev_seq, ev_cond2, ev_block, ev_exit, ev_ret, ev_region2, ev_loop, loopK, evOps_nil, evOps_cons, opG_none, opG_some, opJ, opK_eq, opA_move, opA_assign, opA_pick, opA_bin, opA_un, opA_extract, opA_field, opA_load, opA_index, opA_indexAddr, opA_fieldAddr, opA_nilCheck, opA_len, opA_call, opA_max, opA_min, opA_alloc, opA_box, opA_store, opA_buildSlice, opA_makeSlice, opA_append, opA_copy, opA_convert, opA_makeMap, opA_slice, opA_makeFunc, opA_build, putO_some, putH_lt, putH_none, putC_lt, putC_none, putU_lt, putU_none, putV_lt, putV_none, condB_true, condB_false, CondP_true, CondP_false, binT_some, binA_int, binA_str, binA_eqb, binA_neb, binA, eqRef, avO_some, avOf, pickT_true, pickT_false, pickT, unT, extractT, loadT, nilCheckT, lenT_str, lenT_row, lenT_sl, lenT_nil, lenT_arr, lenT_mp, lenT_nomp, maxT, minT, maxA, minA, fieldT, fieldAddrT, indexT, indexAddrT, allocT, boxT, storeT, buildSliceT, makeSliceT, appendT, copyT, convV, convT, makeMapT, bndT, sliceT, fnT, buildT, io_add, io_sub, io_mul, io_quo, io_rem, io_shl, io_shr, io_and, io_or, io_xor, io_eql, io_neq, io_lss, io_leq, io_gtr, io_geq, strOp, opS_tmp, opS_const, opV_tmp, opV_const, opS, opV, look_eq, look_ne, Go.Mx.look, fr0, argSlots, seqK_n, seqK_r, seqK_e, seqK, blockK_n, blockK_r, blockK, Fr.known, Fr.newBox, dropBp, retK, retA, resA, mapO, unA, convInt, convStr, strOf, callA, extractA, lenM, cellsA_v, cellsA_agg, cellsA_row, cellsA_sl, cellsA_ptr, cellsA_rp, cellsA_mp, cellsA_fn, okPart_v, okPart_agg, okPart_row, okPart_sl, okPart_ptr, okPart_rp, okPart_mp, okPart_fn, Value.oneCell', fieldA, partA, loadA, loadS, plusS, indexAddrA, indexArrA, nilCheckS, sliceA, sliceArr, fillA, newK, storeS, headK, getV, getB, chkP, mkFr, slotsOf, ptrsOf, boxesOf, firstReg, bindO, makeA, appA, copyA, srcA, srcTy, okPart_u8, cellsA_u8, Cond_iff, sz3, ag3, tk3, by3, ze3, Try.underlying3, sz4, ag4, tk4, by4, ze4, Try.underlying4, sz5, ag5, tk5, by5, ze5, Try.underlying5, sz9, ag9, tk9, st9, by9, ze9, Try.underlying9, sz22, ag22, tk22, st22, by22, ze22, Try.underlying22, sz26, ag26, tk26, by26, ze26, Try.underlying26, sz33, ag33, tk33, by33, ze33, Try.underlying33, sz34, ag34, tk34, by34, ze34, Try.underlying34, sz35, ag35, tk35, st35, by35, ze35, Try.underlying35, ok9, ok10, ok11, ok12, ok13, ok14, ok15, ok16, ok17, ok18, ok19, ok20, ho]
    exact h
end Go.Proofs.Ytanfjddopjkneaa
