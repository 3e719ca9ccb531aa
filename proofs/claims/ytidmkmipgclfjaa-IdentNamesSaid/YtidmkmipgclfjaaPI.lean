import Derived.Test.YtidmkmipgclfjaaPH
namespace Go.Proofs.Ytidmkmipgclfjaa.P
open Go.Mx
set_option linter.unusedVariables false
set_option linter.unusedSimpArgs false

theorem letter_sp (v : Nat) (hv : v < 64) (H : Hp) (Q : AV → Hp → Prop) (h : Q (u8A (letter v)) H) : Sp Try.prog 31 [.v (.int .i64 v)] Q H := by
  refine Sp.body [] ⟨[], [], []⟩ [] mo Try.func31 rfl (Nat.le_of_ble_eq_true rfl) (by kernel_rfl) ?_
  have := alpha_at .i64 v ⟨by omega, by omega⟩
  simp [ev_skip, ev_seq, ev_cond2, ev_block, ev_exit, ev_ret, ev_region2, ev_loop, loopK, evOps_nil, evOps_cons, opG_none, opG_some, opJ, opU_true, opU_ft, opU_ff, isU_undef, isU_bool, valU_true, valU_false, opK_eq, opA_move, opA_assign, opA_pick, opA_bin, opA_un, opA_extract, opA_field, opA_load, opA_index, opA_indexAddr, opA_fieldAddr, opA_nilCheck, opA_len, opA_call, opA_max, opA_min, opA_alloc, opA_box, opA_store, opA_buildSlice, opA_makeSlice, opA_append, opA_copy, opA_convert, opA_makeMap, opA_slice, opA_makeFunc, opA_build, putO_some, putH_lt, putH_none, putC_lt, putC_none, putU_lt, putU_none, putV_lt, putV_none, condB_true, condB_false, CondP_true, CondP_false, binT_some, binA_int, binA_str, binA_eqb, binA_neb, binA, eqRef, avO_some, avO_none, avOf, pickT_true, pickT_false, pickT, unT, extractT, loadT, nilCheckT, lenT_str, lenT_row, lenT_sl, lenT_nil, lenT_arr, lenT_mp, lenT_nomp, maxT, minT, maxA, minA, fieldT, fieldAddrT, indexT, indexAddrT, allocT, boxT, storeT, buildSliceT, makeSliceT, appendT, copyT, convV, convT, makeMapT, bndT, sliceT, fnT, bytesOf_nil, bytesOf_one, repeatL_0, repeatL_1, repeatL_2, repeatL_3, repeatL_4, buildZ, partsZ, fillO, aggO, io_add, io_sub, io_mul, io_quo, io_rem, io_shl, io_shr, io_and, io_or, io_xor, io_eql, io_neq, io_lss, io_leq, io_gtr, io_geq, strOp, opS_tmp, opS_const, opV_tmp, opV_const, opS, opV, look_eq, look_ne, Go.Mx.look, fr0, argSlots, seqK_n, seqK_r, seqK_e, seqK, blockK_n, blockK_r, blockK, Fr.known, Fr.newBox, dropBp, retK, retA, resA, mapO, unA, convInt, convStr, callA, extractA, lenM, cellsA_v, cellsA_agg, cellsA_row, cellsA_sl, cellsA_ptr, cellsA_rp, cellsA_mp, cellsA_fn, okPart_v, okPart_agg, okPart_row, okPart_sl, okPart_ptr, okPart_rp, okPart_mp, okPart_fn, Value.oneCell', fieldA, partA, loadA, loadS, plusS, indexAddrA, indexArrA, nilCheckS, sliceA, sliceArr, fillA, newK, storeS, headK, getV, getB, chkP, mkFr, slotsOf, ptrsOf, boxesOf, firstReg, bindO, makeA, copyA, srcA, srcTy, okPart_u8, cellsA_u8, Cond_iff, orO_some, orO_none, eqT_some, lookT_some, updT_some, delT_some, clearT_some, rangeT_some, nextT_some, makeMapH, opA_lookup, opA_makeMap2, opA_upd, opA_delete, opA_clear, opA_range, opA_next, valS_lookup, ev_draw, drawK, evP_nil, evP_q, evP_s, opAt_some, chkK_eq, sameV_some, sameO_some, allQ_nil, allQ_cons, valG_some, valJ, valQ_none, valQ_some, valS_move, valS_pick, valS_bin, valS_un, valS_extract, valS_field, valS_load, valS_index, valS_indexAddr, valS_fieldAddr, valS_nilCheck, valS_len, valS_max, valS_min, valS_slice, valS_convert, valS_makeFunc, valS_build, sz3, ag3, tk3, by3, ze3, Try.underlying3, sz4, ag4, tk4, by4, ze4, Try.underlying4, sz5, ag5, tk5, by5, ze5, Try.underlying5, sz9, ag9, tk9, st9, by9, ze9, Try.underlying9, sz27, ag27, tk27, by27, ze27, Try.underlying27, sz28, ag28, tk28, by28, ze28, Try.underlying28, sz33, ag33, tk33, st33, by33, ze33, Try.underlying33, sz40, ag40, tk40, st40, by40, ze40, Try.underlying40, mo, ok3, ok4, ok5, ok6, ok7, ok8, ok9, ok10, ok11, ok12, ok13, ok14, ok15, ok16, ok17, ok18, ok19, ok20, ok21, ok22, ok23, ok24, ok25, ok26, ok27, ok28, ok29, ok30, ok31, ok32, ok33, ok34, ok35, ok36, ok37, ok38, ok39, ok40, ok41, ok42, ok43, ok44, ok45, ok46, ok47, ok48, ok49, pl27, pl45, this]
  exact h

def vals (l : List Nat) : Nat := l.foldl (fun a b => 2 * a + b) 0
theorem vals_snoc (l : List Nat) (b : Nat) : vals (l ++ [b]) = 2 * vals l + b := by simp [vals]
theorem vals_acc : ∀ (l : List Nat) (a : Nat), (∀ b ∈ l, b < 2) → l.foldl (fun a b => 2 * a + b) a < (a + 1) * 2 ^ l.length
  | [], a, _ => by simp
  | b :: l, a, h => by
    have hb := h b (by simp)
    have ih := vals_acc l (2 * a + b) (fun x hx => h x (by simp [hx]))
    simp only [List.foldl_cons, List.length_cons, Nat.pow_succ]
    refine Nat.lt_of_lt_of_le ih ?_
    have : (2 * a + b + 1) * 2 ^ l.length ≤ ((a + 1) * 2) * 2 ^ l.length := Nat.mul_le_mul_right _ (by omega)
    refine Nat.le_trans this ?_
    rw [Nat.mul_assoc, Nat.mul_comm 2]
    exact Nat.le_refl _
theorem vals_lt (l : List Nat) (h : ∀ b ∈ l, b < 2) : vals l < 2 ^ l.length := by
  have := vals_acc l 0 h
  simpa [vals] using this

/-- Letters of six bits each. -/
def chunk6 : List Nat → List UInt8
  | a :: b :: c :: d :: e :: f :: r => letter (vals [a, b, c, d, e, f]) :: chunk6 r
  | _ => []
theorem chunk6_take (P : List Nat) (h : 6 ≤ P.length) : chunk6 P = letter (vals (P.take 6)) :: chunk6 (P.drop 6) := by
  match P, h with
  | a :: b :: c :: d :: e :: f :: r, _ => rfl

theorem bitsB_lt (bs : List UInt8) : ∀ b ∈ bitsB bs, b < 2 := by
  intro b hb
  simp only [bitsB, List.mem_flatMap, bits8, List.mem_map] at hb
  obtain ⟨_, _, j, _, rfl⟩ := hb
  exact Nat.mod_lt _ (by decide)

set_option maxHeartbeats 4000000 in
theorem chunk_enc (bs : List UInt8) : ∀ j, (8 * bs.length + j) % 6 = 0 → j < 6 → chunk6 (bitsB bs ++ List.replicate j 0) = encB bs := by
  induction bs using encB.induct with
  | case1 => intro j h hj; simp at h; have : j = 0 := by omega
             subst this; rfl
  | case2 a =>
    intro j h hj
    have ha := a.toNat_lt
    simp at h
    have : j = 4 := by omega
    subst this
    simp [bitsB, bits8, List.range, List.range.loop, List.replicate, chunk6, vals, encB, quad]
    refine ⟨?_, ?_⟩ <;> exact congrArg letter (by omega)
  | case3 a b =>
    intro j h hj
    have ha := a.toNat_lt
    have hb := b.toNat_lt
    simp at h
    have : j = 2 := by omega
    subst this
    simp [bitsB, bits8, List.range, List.range.loop, List.replicate, chunk6, vals, encB, quad]
    refine ⟨?_, ?_, ?_⟩ <;> exact congrArg letter (by omega)
  | case4 a b c r ih =>
    intro j h hj
    have ha := a.toNat_lt
    have hb := b.toNat_lt
    have hc := c.toNat_lt
    have hr := ih j (by simp at h; omega) hj
    rw [show bitsB (a :: b :: c :: r) = bits8 a ++ (bits8 b ++ (bits8 c ++ bitsB r)) from by simp [bitsB]]
    simp only [encB, ← hr]
    simp [bits8, List.range, List.range.loop, chunk6, vals, quad]
    refine ⟨?_, ?_, ?_, ?_⟩ <;> exact congrArg letter (by omega)

end Go.Proofs.Ytidmkmipgclfjaa.P
