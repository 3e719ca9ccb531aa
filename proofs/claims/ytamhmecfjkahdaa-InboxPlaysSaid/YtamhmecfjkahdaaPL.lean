import Derived.Test.YtamhmecfjkahdaaPK
namespace Go.Proofs.Ytamhmecfjkahdaa
open Go.Mx
set_option linter.unusedVariables false
set_option linter.unusedSimpArgs false
set_option linter.unnecessarySimpa false

/-! ### How many wait -/
def totW (S : St) (u : ByteArray) (L : List ByteArray) : Nat := (L.map (fun n => waitN S (u, n))).sum
def sumW (S : St) (u : ByteArray) : Nat := ((S.ds.filter (fun d => decide (d.u = u))).map (fun d => d.al.length - d.sn)).sum
theorem tot_sum {S : St} (hn : (S.ds.map keyD).Nodup) (u : ByteArray) : totW S u (namesD S u) = sumW S u := by
  unfold totW sumW namesD
  rw [((sortS_permL _).map _).sum_nat, List.map_map]
  congr 1
  apply List.map_congr_left
  intro d hd
  obtain ⟨h1, h2⟩ := List.mem_filter.1 hd
  have hu : d.u = u := of_decide_eq_true h2
  simp only [Function.comp]
  unfold waitN
  have : (u, d.n) = keyD d := by rw [← hu]; rfl
  rw [this, find_of hn h1]
theorem sum_send {S : St} {N : Nat} (hk : StOk S N) {x : Pa} (he : sendE S x = 0) : sumW (sendS S x) x.to = sumW S x.to + sendN S x := by
  unfold sumW sendN sendS
  rw [if_pos he]
  simp only
  have : ∀ l : List Dv, (∀ d ∈ l, d.sn ≤ d.al.length) → (((l.map (fun d => if toB x d then push x d else d)).filter (fun d => decide (d.u = x.to))).map (fun d => d.al.length - d.sn)).sum = ((l.filter (fun d => decide (d.u = x.to))).map (fun d => d.al.length - d.sn)).sum + (l.filter (toB x)).length := by
    intro l
    induction l with
    | nil => intro _; rfl
    | cons d r ih =>
      intro h
      have ih := ih (fun e he => h e (by simp [he]))
      have hd := h d (by simp)
      cases ht : toB x d with
      | true =>
        have hu : d.u = x.to := by
          unfold toB at ht
          rw [Bool.and_eq_true] at ht
          exact of_decide_eq_true ht.1
        have hu2 : decide (d.u = x.to) = true := decide_eq_true hu
        have hu3 : decide ((push x d).u = x.to) = true := decide_eq_true hu
        simp only [List.map_cons, List.filter_cons, ht, if_true, hu2, hu3, List.sum_cons, List.length_cons, ih]
        simp only [push, List.length_append, List.length_cons, List.length_nil]
        omega
      | false =>
        cases hu : decide (d.u = x.to) with
        | true =>
          simp only [List.map_cons, List.filter_cons, ht, hu, if_true, Bool.false_eq_true, if_false, List.sum_cons, ih]
          omega
        | false => simp only [List.map_cons, List.filter_cons, ht, hu, Bool.false_eq_true, if_false, ih]
  exact this S.ds (fun d hd => (hk.d d hd).s)
theorem tot_le {S : St} {N : Nat} (hk : StOk S N) (u : ByteArray) (L : List ByteArray) : totW S u L ≤ L.length * N := by
  induction L with
  | nil => simp [totW]
  | cons n L ih =>
    have : waitN S (u, n) ≤ N := by
      unfold waitN
      cases hf : findD S (u, n) with
      | none => simp
      | some d =>
        have := (hk.d d (find_mem hf).1).l
        show d.al.length - d.sn ≤ N
        omega
    simp only [totW, List.map_cons, List.sum_cons, List.length_cons] at ih ⊢
    rw [Nat.succ_mul]; omega
theorem tot_app (S : St) (u : ByteArray) (L : List ByteArray) (n : ByteArray) : totW S u (L ++ [n]) = totW S u L + waitN S (u, n) := by simp [totW]
def WtInv (S : St) (a : Nat) (u : ByteArray) (L : List ByteArray) (H : Hp) (n : Nat) (xs : List AV) (H2 : Hp) : Prop :=
  ∃ i : Nat, i ≤ L.length ∧ n = L.length - i ∧ xs = [.ptr a 0 0, .v (.string u), rowS L, .v (.int .i64 (totW S u (L.take i))), .v (.int .i64 i)] ∧ H2 = H
set_option maxRecDepth 20000 in
theorem totw_sp (a : Nat) (S : St) (fp : List Nat) (N : Nat) (u : ByteArray) (H : Hp) (Q : AV → Hp → Prop) (hp : PoAt H a S fp) (hk : StOk S N) (hN : N ≤ 1000) (hu : u.size ≤ 1000) (h : Q (.v (.int .i64 (sumW S u))) H) : Sp Try.prog 28 [.ptr a 0 0, .v (.string u)] Q H := by
  refine Sp.body [(4, ⟨[0, 1, 5, 6, 7], [], []⟩)] ⟨[], [], []⟩ [] mo Try.func28 rfl (Nat.le_of_ble_eq_true rfl) (by kernel_rfl) ?_
  have hts := tot_sum hk.k u
  have hsz : ∀ n ∈ namesD S u, n.size ≤ 1000 := fun n hn => by
    obtain ⟨d, h1, _, h3⟩ := names_mem.1 hn
    rw [← h3]; exact (hk.d d h1).zn
  have hll : (namesD S u).length ≤ N := by
    unfold namesD
    rw [sortS_len, List.length_map]
    exact Nat.le_trans (List.length_filter_le _ _) hk.l
  simp [ev_seq, ev_region2, evOps_nil, evOps_cons, opG_none, opA_move, opA_assign, opA_call, putO_some, putH_lt, opS, opV, Go.Mx.look, fr0, argSlots, seqK, mapO, callA, ok26]
  refine devices_sp a S fp N u H _ hp hk (by omega) ?_
  generalize namesD S u = L at *
  simp [ev_seq, ev_block, ev_region2, ev_loop, loopK, evOps_nil, evOps_cons, opG_none, opA_assign, putO_some, putH_lt, putC_lt, opS, opV, Go.Mx.look, seqK, mapO, headK, getV, getB, chkP, firstReg, rowS]
  refine LoopC.intro (fun n xs _ H2 => WtInv S a u L H n xs H2) L.length ⟨0, by omega, by omega, by simp [rowS, totW], rfl⟩ ?_
  rintro n xs bs H2 ⟨i, hi, rfl, rfl, rfl⟩
  simp [ev_skip, ev_seq, ev_cond2, ev_block, ev_exit, ev_ret, ev_region2, evOps_nil, evOps_cons, opG_none, opA_move, opA_assign, opA_bin, opA_indexAddr, opA_len, putO_some, putH_lt, binT_some, binA, avO_some, lenT_row, indexAddrT, io_lss, opS, opV, Go.Mx.look, seqK, blockK, Fr.known, retK, retA, resA, mapO, indexAddrA, mkFr, slotsOf, ptrsOf, boxesOf, orO_some, eqT_some, tk3, sz9, Try.underlying48, rowS]
  refine ⟨fun hlt => ?_, fun hge => ?_⟩
  · have hx := List.getElem?_eq_getElem hlt
    generalize hgi : L[i] = nm at hx
    have w1 : IntKind.i64.wrap ((i : Int) + 1) = (i : Int) + 1 := wr_i64 (by omega)
    have htk : L.take (i + 1) = L.take i ++ [nm] := by rw [List.take_add_one, hx]; rfl
    have t1 := tot_le hk u (L.take (i + 1))
    have t2 : (L.take (i + 1)).length * N ≤ 1000 * 1000 := Nat.mul_le_mul (by rw [List.length_take]; omega) (by omega)
    have t3 := tot_app S u (L.take i) nm
    rw [← htk] at t3
    have w2 : IntKind.i64.wrap ((totW S u (L.take i) : Int) + (waitN S (u, nm) : Int)) = ((totW S u (L.take (i + 1)) : Nat) : Int) := by rw [wr_i64 (by omega)]; omega
    have hnz := hsz nm (List.mem_of_getElem? hx)
    simp [evOps_cons, opG_none, opA_load, opA_call, putO_some, putH_lt, loadT, opS, opV, Go.Mx.look, mapO, callA, partA, loadA, loadS, sz9, ag9, ok15, hlt, hgi]
    refine waiting_sp a S fp N u nm H2 _ hp hk (by omega) (by omega) ?_
    simp [ev_region2, evOps_nil, evOps_cons, opG_none, opA_move, opA_assign, opA_bin, putO_some, putH_lt, putC_lt, binT_some, binA, avO_some, io_add, opS, opV, Go.Mx.look, seqK, blockK, mapO, headK, getV, getB, chkP, orO_some, eqT_some, tk3, w1, w2]
    exact ⟨L.length - (i + 1), by omega, i + 1, by omega, rfl, by simp [rowS], rfl⟩
  · have : i = L.length := by omega
    subst this
    rw [List.take_length, hts]
    simpa [ev_skip, ev_seq, ev_cond2, ev_block, ev_exit, ev_ret, ev_region2, ev_loop, loopK, evOps_nil, evOps_cons, opG_none, opG_some, opJ, opU_true, opU_ft, opU_ff, isU_undef, isU_bool, valU_true, valU_false, opK_eq, opA_move, opA_assign, opA_pick, opA_bin, opA_un, opA_extract, opA_field, opA_load, opA_index, opA_indexAddr, opA_fieldAddr, opA_nilCheck, opA_len, opA_call, opA_max, opA_min, opA_alloc, opA_box, opA_store, opA_buildSlice, opA_makeSlice, opA_append, opA_copy, opA_convert, opA_makeMap, opA_slice, opA_makeFunc, opA_build, putO_some, putH_lt, putH_none, putC_lt, putC_none, putU_lt, putU_none, putV_lt, putV_none, condB_true, condB_false, CondP_true, CondP_false, binT_some, binA_int, binA_str, binA_eqb, binA_neb, binA, eqRef, avO_some, avO_none, avOf, pickT_true, pickT_false, pickT, unT, extractT, loadT, nilCheckT, lenT_str, lenT_row, lenT_sl, lenT_nil, lenT_arr, lenT_mp, lenT_nomp, maxT, minT, maxA, minA, fieldT, fieldAddrT, indexT, indexAddrT, allocT, boxT, storeT, buildSliceT, makeSliceT, appendT, copyT, convV, convC, convT, makeMapT, bndT, sliceT, fnT, bytesOf_nil, bytesOf_one, repeatL_0, repeatL_1, repeatL_2, repeatL_3, repeatL_4, buildZ, partsZ, fillO, aggO, io_add, io_sub, io_mul, io_quo, io_rem, io_shl, io_shr, io_and, io_or, io_xor, io_eql, io_neq, io_lss, io_leq, io_gtr, io_geq, strOp, opS_tmp, opS_const, opV_tmp, opV_const, opS, opV, look_eq, look_ne, Go.Mx.look, fr0, argSlots, seqK_n, seqK_r, seqK_e, seqK, blockK_n, blockK_r, blockK, Fr.known, Fr.newBox, dropBp, retK, retA, resA, mapO, unA, convInt, convStr, strOf, callA, extractA, lenM, cellsA_v, cellsA_agg, cellsA_row, cellsA_sl, cellsA_ptr, cellsA_rp, cellsA_mp, cellsA_fn, okPart_v, okPart_agg, okPart_row, okPart_sl, okPart_ptr, okPart_rp, okPart_mp, okPart_fn, Value.oneCell', fieldA, partA, loadA, loadS, plusS, indexAddrA, indexArrA, nilCheckS, sliceA, sliceArr, fillA, newK, storeS, headK, getV, getB, chkP, mkFr, slotsOf, ptrsOf, boxesOf, firstReg, bindO, makeA, appA, copyA, srcA, srcTy, okPart_u8, cellsA_u8, Cond_iff, orO_some, orO_none, eqT_some, opA_entry, entryT_some, lookT_some, updT_some, delT_some, clearT_some, rangeT_some, nextT_some, makeMapH, opA_lookup, opA_makeMap2, opA_upd, opA_delete, opA_clear, opA_range, opA_next, valS_lookup, ev_draw, drawK, evP_nil, evP_q, evP_s, opAt_some, chkK_eq, sameV_some, sameO_some, allQ_nil, allQ_cons, valG_some, valJ, valQ_none, valQ_some, valS_move, valS_pick, valS_bin, valS_un, valS_extract, valS_field, valS_load, valS_index, valS_indexAddr, valS_fieldAddr, valS_nilCheck, valS_len, valS_max, valS_min, valS_slice, valS_convert, valS_makeFunc, valS_build, valS_buildSlice, rowT, rowF, sz2, ag2, tk2, by2, ze2, Try.underlying2, sz3, ag3, tk3, by3, ze3, Try.underlying3, sz4, ag4, tk4, by4, ze4, Try.underlying4, sz5, ag5, tk5, by5, ze5, Try.underlying5, sz9, ag9, tk9, st9, by9, ze9, Try.underlying9, sz22, ag22, tk22, st22, by22, ze22, Try.underlying22, sz24, ag24, tk24, by24, ze24, Try.underlying24, sz26, ag26, tk26, by26, ze26, Try.underlying26, sz28, ag28, tk28, st28, by28, ze28, Try.underlying28, sz30, ag30, tk30, by30, ze30, of30, Try.underlying30, sz32, ag32, tk32, by32, ze32, of32, Try.underlying32, sz42, ag42, tk42, by42, ze42, Try.underlying42, sz43, ag43, tk43, st43, by43, ze43, Try.underlying43, sz45, ag45, tk45, by45, ze45, of45, Try.underlying45, sz48, ag48, tk48, st48, by48, ze48, Try.underlying48, sz52, ag52, tk52, by52, ze52, Try.underlying52, sz53, ag53, tk53, by53, ze53, Try.underlying53, sz55, ag55, tk55, by55, ze55, of55, Try.underlying55, sz56, ag56, tk56, st56, by56, ze56, Try.underlying56, sz59, ag59, tk59, by59, ze59, Try.underlying59, sz62, ag62, tk62, by62, ze62, of62, Try.underlying62, sz63, ag63, tk63, by63, ze63, of63, Try.underlying63, sz65, ag65, tk65, by65, ze65, Try.underlying65, sz67, ag67, tk67, by67, ze67, of67, Try.underlying67, sz74, ag74, tk74, st74, by74, ze74, Try.underlying74, mo, ok3, ok4, ok5, ok6, ok7, ok8, ok9, ok10, ok11, ok12, ok13, ok14, ok15, ok16, ok17, ok18, ok19, ok20, ok21, ok22, ok23, ok24, ok25, ok26, ok27, ok28, ok29, ok30, ok31, ok32, ok33, ok34, ok35, ok36, ok37, ok39, ok40, ok41, ok42, ok45, ok46, ok47, ok59, ok60, ok61, ok62, ok63, ok64, ok71, ok72, ok73, ok74, ok75, ok76, ok77, ok79, ok80, ok81, pl4, pl6, pl7, pl9, pl12, pl13, pl14, pl19, pl20, pl25, pl27, pl37, pl47, pl72] using h

theorem seen_send {S : St} {x : Pa} (he : sendE S x = 0) : seenB (sendS S x) (keyP x) = true := by
  unfold seenB sendS
  rw [if_pos he]
  exact List.any_eq_true.2 ⟨keyP x, by simp, decide_eq_true rfl⟩
theorem send_ok {S : St} {x : Pa} (he : sendE S x = 0) : goodX x = true ∧ seenB S (keyP x) = false ∧ 1 ≤ sendN S x := by
  unfold sendE at he
  cases hg : goodX x with
  | false => rw [hg] at he; simp at he
  | true =>
    rw [hg] at he
    simp only [if_true] at he
    cases hs : seenB S (keyP x) with
    | true => rw [hs] at he; simp at he
    | false =>
      rw [hs] at he
      by_cases h0 : sendN S x = 0
      · rw [if_pos h0] at he; simp at he
      · exact ⟨rfl, rfl, by omega⟩
theorem send_again {S : St} {x : Pa} (he : sendE S x = 0) : sendE (sendS S x) x = 4 ∧ sendS (sendS S x) x = sendS S x ∧ sendR (sendS S x) x = 0 := by
  have e1 : sendE (sendS S x) x = 4 := by
    unfold sendE
    rw [(send_ok he).1, seen_send he]; rfl
  refine ⟨e1, ?_, ?_⟩
  · rw [show sendS (sendS S x) x = if sendE (sendS S x) x = 0 then _ else sendS S x from rfl, e1]; rfl
  · unfold sendR; rw [e1]; rfl
def OnInv (l : List De) (x : Pa) (a : Nat) (n : Nat) (xs : List AV) (bs : List (List AV)) (H2 : Hp) : Prop :=
  ∃ (i : Nat) (S : St) (fp : List Nat), i ≤ l.length ∧ n = l.length - i ∧ xs = [rowD l, .ptr a 0 0, .v (.int .i64 i)] ∧ bs = [paC x] ∧ PoAt H2 a S fp ∧ StOk S i
set_option maxRecDepth 20000 in
set_option maxHeartbeats 4000000 in
theorem once_law (l : Des) (x : {x : Pa // SzP x}) : Sp Try.prog 7 [rowD l.1, .agg (paC x.1)] (fun v _ => v = .v (.bool true)) [] := by
  obtain ⟨l, hzl⟩ := l
  obtain ⟨x, hzx⟩ := x
  simp only
  refine Sp.body [(5, ⟨[0, 5, 6], [(3, 3, 0)], [3]⟩)] ⟨[3], [], pl7⟩ tb7 mo Try.func7 rfl (Nat.le_of_ble_eq_true rfl) (by kernel_rfl) ?_
  simp [ev_seq, ev_region2, evOps_nil, evOps_cons, opG_none, opA_move, opA_assign, opA_call, opA_box, putO_some, putH_lt, boxT, opS, opV, Go.Mx.look, fr0, argSlots, seqK, Fr.newBox, dropBp, mapO, callA, cellsA_agg, okPart_agg, newK, ok9, pl7, rowD, paC]
  refine few_sp l false [] _ hzl (fun hfl => ?_) (fun _ => by simp [ev_seq, ev_cond2, ev_ret, ev_region2, evOps_nil, evOps_cons, opG_none, opG_some, opJ, opU_ff, isU_bool, opA_move, opA_assign, opA_pick, opA_un, putO_some, putH_lt, putC_lt, putV_lt, condB_true, pickT, unT, opS, opV, Go.Mx.look, seqK, Fr.known, retK, retA, resA, mapO, unA])
  have hfew := few_sp [⟨0, ⟨#[]⟩, ⟨#[]⟩, x, 0, 0⟩] true []
  simp only [List.flatMap_cons, List.flatMap_nil, List.append_nil, List.length_cons, List.length_nil, deC] at hfew
  simp [evOps_cons, opG_none, opG_some, opJ, opU_ff, isU_bool, opK_eq, opA_move, opA_un, opA_load, opA_call, opA_buildSlice, opA_build, putO_some, putH_lt, putC_lt, condB_false, unT, loadT, buildSliceT, repeatL_1, buildZ, partsZ, fillO, aggO, opS, opV, Go.Mx.look, Fr.known, mapO, unA, callA, cellsA_agg, okPart_agg, partA, loadS, fillA, bindO, Try.underlying22, sz30, ag30, sz32, ze32, of32, ok9]
  refine hfew _ (fun d hd => by
    simp only [List.mem_cons, List.not_mem_nil, or_false] at hd
    subst hd
    exact ⟨Nat.zero_le _, Nat.zero_le _, hzx⟩) (fun hf => ?_) (fun _ => by simp [ev_seq, ev_cond2, ev_ret, ev_region2, evOps_nil, evOps_cons, opG_none, opG_some, opJ, opU_ff, isU_bool, opK_eq, opA_assign, opA_pick, opA_un, putO_some, putH_lt, putC_lt, condB_true, condB_false, pickT, unT, opS, opV, Go.Mx.look, seqK, Fr.known, retK, retA, resA, mapO, unA])
  have hx2 : FewP x := (hf.2 ⟨0, ⟨#[]⟩, ⟨#[]⟩, x, 0, 0⟩ (by simp)).2.to
  have hx3 := hx2
  unfold FewP at hx3
  simp [ev_skip, ev_seq, ev_cond2, ev_region2, evOps_nil, evOps_cons, opG_none, opG_some, opJ, opU_ff, isU_bool, opK_eq, opA_pick, opA_un, opA_call, putO_some, putH_lt, putC_lt, condB_false, pickT, unT, opS, opV, Go.Mx.look, seqK, Fr.known, mapO, unA, callA, ok10]
  have hl80 := hfl.1
  refine new_sp [] _ (fun a H1 fp1 hp1 hs1 hf1 => ?_)
  simp [ev_seq, ev_block, ev_region2, ev_loop, loopK, evOps_nil, evOps_cons, opG_none, opA_assign, putO_some, putH_lt, putC_lt, opS, opV, Go.Mx.look, seqK, mapO, headK, getV, getB, chkP, firstReg]
  refine LoopC.intro (fun n xs bs H2 => OnInv l x a n xs bs H2) l.length ⟨0, _, _, by omega, by omega, by simp [rowD], by simp [paC], hp1, ⟨by simp, by simp, by simp, by simp, by simp⟩⟩ ?_
  clear hp1 hs1 hf1 H1 fp1
  rintro n xs bs H2 ⟨i, S, fp, hi, rfl, rfl, rfl, hp, hok⟩
  simp [ev_skip, ev_seq, ev_cond2, ev_block, ev_exit, ev_region2, evOps_nil, evOps_cons, opG_none, opA_move, opA_bin, opA_load, opA_indexAddr, opA_fieldAddr, opA_len, opA_call, putO_some, putH_lt, binT_some, binA, avO_some, loadT, lenT_row, fieldAddrT, indexAddrT, io_lss, opS, opV, Go.Mx.look, seqK, blockK, Fr.known, mapO, callA, partA, loadS, plusS, indexAddrA, mkFr, slotsOf, ptrsOf, boxesOf, orO_some, eqT_some, tk3, sz9, ag9, Try.underlying22, Try.underlying30, sz32, ok28, rowD, paC]
  refine ⟨fun hlt => ?_, fun hge => ?_⟩
  · have hx := List.getElem?_eq_getElem hlt
    generalize l[i] = d at hx
    have g0 := flat_get0 deC_len hx (by omega)
    have g1 := flat_get deC_len hx 1 (by omega)
    have g2 := flat_get deC_len hx 2 (by omega)
    simp [deC] at g0 g1 g2
    have hsl := de_sub l i hx
    have hle2 := flat_le2 deC_len hx
    have hle : i * 10 + 3 + 5 ≤ (List.map (fun a => (deC a).length) l).sum := by omega
    obtain ⟨d1, d2⟩ := hfl.2 d (List.mem_of_getElem? hx)
    replace d2 := d2.to
    have w1 : IntKind.i64.wrap ((i : Int) + 1) = (i : Int) + 1 := wr_i64 (by omega)
    have step : ∀ H3 S' fp', PoAt H3 a S' fp' → StOk S' (i + 1) → ∃ m, m < l.length - i ∧ OnInv l x a m [rowD l, .ptr a 0 0, .v (.int .i64 ((i : Int) + 1))] [paC x] H3 := fun H3 S' fp' h1 h2 =>
      ⟨l.length - (i + 1), by omega, i + 1, S', fp', by omega, rfl, by simp, rfl, h1, h2⟩
    simp only [rowD, paC] at step
    simp [ev_skip, ev_seq, ev_cond2, ev_block, ev_region2, evOps_nil, evOps_cons, opG_none, opA_move, opA_assign, opA_bin, opA_load, opA_indexAddr, opA_fieldAddr, putO_some, putH_lt, binT_some, binA, avO_some, loadT, fieldAddrT, indexAddrT, io_add, io_eql, opS, opV, Go.Mx.look, seqK, blockK, Fr.known, mapO, partA, loadA, loadS, plusS, indexAddrA, headK, getV, getB, chkP, orO_some, eqT_some, ev_draw, drawK, evP_q, opAt_some, sz3, ag3, tk3, sz9, ag9, Try.underlying22, sz30, ag30, sz32, Try.underlying32, hlt, g0, w1]
    refine ⟨fun k0 => ?_, fun k0 => ⟨fun k1 => ?_, fun k1 => ⟨fun k2 => ?_, fun k2 => ?_⟩⟩⟩
    · simp [opG_none, opA_move, opA_load, opA_indexAddr, opA_fieldAddr, opA_call, putO_some, putH_lt, loadT, fieldAddrT, indexAddrT, opS, opV, Go.Mx.look, mapO, callA, partA, loadA, loadS, plusS, indexAddrA, evP_q, evP_s, opAt_some, sz9, ag9, Try.underlying22, sz32, Try.underlying32, ok11, hlt, g1, g2]
      refine enter_sp a S fp i d.u d.n H2 _ hp hok (by omega) (by omega) (fun H3 fp3 hp3 st3 => ?_)
      simpa [ev_skip, ev_seq, ev_cond2, ev_block, ev_exit, ev_ret, ev_region2, ev_loop, loopK, evOps_nil, evOps_cons, opG_none, opG_some, opJ, opU_true, opU_ft, opU_ff, isU_undef, isU_bool, valU_true, valU_false, opK_eq, opA_move, opA_assign, opA_pick, opA_bin, opA_un, opA_extract, opA_field, opA_load, opA_index, opA_indexAddr, opA_fieldAddr, opA_nilCheck, opA_len, opA_call, opA_max, opA_min, opA_alloc, opA_box, opA_store, opA_buildSlice, opA_makeSlice, opA_append, opA_copy, opA_convert, opA_makeMap, opA_slice, opA_makeFunc, opA_build, putO_some, putH_lt, putH_none, putC_lt, putC_none, putU_lt, putU_none, putV_lt, putV_none, condB_true, condB_false, CondP_true, CondP_false, binT_some, binA_int, binA_str, binA_eqb, binA_neb, binA, eqRef, avO_some, avO_none, avOf, pickT_true, pickT_false, pickT, unT, extractT, loadT, nilCheckT, lenT_str, lenT_row, lenT_sl, lenT_nil, lenT_arr, lenT_mp, lenT_nomp, maxT, minT, maxA, minA, fieldT, fieldAddrT, indexT, indexAddrT, allocT, boxT, storeT, buildSliceT, makeSliceT, appendT, copyT, convV, convC, convT, makeMapT, bndT, sliceT, fnT, bytesOf_nil, bytesOf_one, repeatL_0, repeatL_1, repeatL_2, repeatL_3, repeatL_4, buildZ, partsZ, fillO, aggO, io_add, io_sub, io_mul, io_quo, io_rem, io_shl, io_shr, io_and, io_or, io_xor, io_eql, io_neq, io_lss, io_leq, io_gtr, io_geq, strOp, opS_tmp, opS_const, opV_tmp, opV_const, opS, opV, look_eq, look_ne, Go.Mx.look, fr0, argSlots, seqK_n, seqK_r, seqK_e, seqK, blockK_n, blockK_r, blockK, Fr.known, Fr.newBox, dropBp, retK, retA, resA, mapO, unA, convInt, convStr, strOf, callA, extractA, lenM, cellsA_v, cellsA_agg, cellsA_row, cellsA_sl, cellsA_ptr, cellsA_rp, cellsA_mp, cellsA_fn, okPart_v, okPart_agg, okPart_row, okPart_sl, okPart_ptr, okPart_rp, okPart_mp, okPart_fn, Value.oneCell', fieldA, partA, loadA, loadS, plusS, indexAddrA, indexArrA, nilCheckS, sliceA, sliceArr, fillA, newK, storeS, headK, getV, getB, chkP, mkFr, slotsOf, ptrsOf, boxesOf, firstReg, bindO, makeA, appA, copyA, srcA, srcTy, okPart_u8, cellsA_u8, Cond_iff, orO_some, orO_none, eqT_some, opA_entry, entryT_some, lookT_some, updT_some, delT_some, clearT_some, rangeT_some, nextT_some, makeMapH, opA_lookup, opA_makeMap2, opA_upd, opA_delete, opA_clear, opA_range, opA_next, valS_lookup, ev_draw, drawK, evP_nil, evP_q, evP_s, opAt_some, chkK_eq, sameV_some, sameO_some, allQ_nil, allQ_cons, valG_some, valJ, valQ_none, valQ_some, valS_move, valS_pick, valS_bin, valS_un, valS_extract, valS_field, valS_load, valS_index, valS_indexAddr, valS_fieldAddr, valS_nilCheck, valS_len, valS_max, valS_min, valS_slice, valS_convert, valS_makeFunc, valS_build, valS_buildSlice, rowT, rowF, sz2, ag2, tk2, by2, ze2, Try.underlying2, sz3, ag3, tk3, by3, ze3, Try.underlying3, sz4, ag4, tk4, by4, ze4, Try.underlying4, sz5, ag5, tk5, by5, ze5, Try.underlying5, sz9, ag9, tk9, st9, by9, ze9, Try.underlying9, sz22, ag22, tk22, st22, by22, ze22, Try.underlying22, sz24, ag24, tk24, by24, ze24, Try.underlying24, sz26, ag26, tk26, by26, ze26, Try.underlying26, sz28, ag28, tk28, st28, by28, ze28, Try.underlying28, sz30, ag30, tk30, by30, ze30, of30, Try.underlying30, sz32, ag32, tk32, by32, ze32, of32, Try.underlying32, sz42, ag42, tk42, by42, ze42, Try.underlying42, sz43, ag43, tk43, st43, by43, ze43, Try.underlying43, sz45, ag45, tk45, by45, ze45, of45, Try.underlying45, sz48, ag48, tk48, st48, by48, ze48, Try.underlying48, sz52, ag52, tk52, by52, ze52, Try.underlying52, sz53, ag53, tk53, by53, ze53, Try.underlying53, sz55, ag55, tk55, by55, ze55, of55, Try.underlying55, sz56, ag56, tk56, st56, by56, ze56, Try.underlying56, sz59, ag59, tk59, by59, ze59, Try.underlying59, sz62, ag62, tk62, by62, ze62, of62, Try.underlying62, sz63, ag63, tk63, by63, ze63, of63, Try.underlying63, sz65, ag65, tk65, by65, ze65, Try.underlying65, sz67, ag67, tk67, by67, ze67, of67, Try.underlying67, sz74, ag74, tk74, st74, by74, ze74, Try.underlying74, mo, ok3, ok4, ok5, ok6, ok7, ok8, ok9, ok10, ok11, ok12, ok13, ok14, ok15, ok16, ok17, ok18, ok19, ok20, ok21, ok22, ok23, ok24, ok25, ok26, ok27, ok28, ok29, ok30, ok31, ok32, ok33, ok34, ok35, ok36, ok37, ok39, ok40, ok41, ok42, ok45, ok46, ok47, ok59, ok60, ok61, ok62, ok63, ok64, ok71, ok72, ok73, ok74, ok75, ok76, ok77, ok79, ok80, ok81, pl4, pl6, pl7, pl9, pl12, pl13, pl14, pl19, pl20, pl25, pl27, pl37, pl47, pl72, w1] using step H3 _ fp3 hp3 (hok.enter (by omega) (by omega))
    · simp [opG_none, opA_move, opA_load, opA_indexAddr, opA_fieldAddr, opA_call, putO_some, putH_lt, loadT, fieldAddrT, indexAddrT, opS, opV, Go.Mx.look, mapO, callA, partA, loadA, loadS, plusS, indexAddrA, evP_q, evP_s, opAt_some, sz9, ag9, Try.underlying22, sz32, Try.underlying32, ok18, hlt, g1, g2]
      refine leave_sp a S fp i d.u d.n H2 _ hp hok (by omega) (by omega) (fun H3 fp3 hp3 st3 => ?_)
      simpa [ev_skip, ev_seq, ev_cond2, ev_block, ev_exit, ev_ret, ev_region2, ev_loop, loopK, evOps_nil, evOps_cons, opG_none, opG_some, opJ, opU_true, opU_ft, opU_ff, isU_undef, isU_bool, valU_true, valU_false, opK_eq, opA_move, opA_assign, opA_pick, opA_bin, opA_un, opA_extract, opA_field, opA_load, opA_index, opA_indexAddr, opA_fieldAddr, opA_nilCheck, opA_len, opA_call, opA_max, opA_min, opA_alloc, opA_box, opA_store, opA_buildSlice, opA_makeSlice, opA_append, opA_copy, opA_convert, opA_makeMap, opA_slice, opA_makeFunc, opA_build, putO_some, putH_lt, putH_none, putC_lt, putC_none, putU_lt, putU_none, putV_lt, putV_none, condB_true, condB_false, CondP_true, CondP_false, binT_some, binA_int, binA_str, binA_eqb, binA_neb, binA, eqRef, avO_some, avO_none, avOf, pickT_true, pickT_false, pickT, unT, extractT, loadT, nilCheckT, lenT_str, lenT_row, lenT_sl, lenT_nil, lenT_arr, lenT_mp, lenT_nomp, maxT, minT, maxA, minA, fieldT, fieldAddrT, indexT, indexAddrT, allocT, boxT, storeT, buildSliceT, makeSliceT, appendT, copyT, convV, convC, convT, makeMapT, bndT, sliceT, fnT, bytesOf_nil, bytesOf_one, repeatL_0, repeatL_1, repeatL_2, repeatL_3, repeatL_4, buildZ, partsZ, fillO, aggO, io_add, io_sub, io_mul, io_quo, io_rem, io_shl, io_shr, io_and, io_or, io_xor, io_eql, io_neq, io_lss, io_leq, io_gtr, io_geq, strOp, opS_tmp, opS_const, opV_tmp, opV_const, opS, opV, look_eq, look_ne, Go.Mx.look, fr0, argSlots, seqK_n, seqK_r, seqK_e, seqK, blockK_n, blockK_r, blockK, Fr.known, Fr.newBox, dropBp, retK, retA, resA, mapO, unA, convInt, convStr, strOf, callA, extractA, lenM, cellsA_v, cellsA_agg, cellsA_row, cellsA_sl, cellsA_ptr, cellsA_rp, cellsA_mp, cellsA_fn, okPart_v, okPart_agg, okPart_row, okPart_sl, okPart_ptr, okPart_rp, okPart_mp, okPart_fn, Value.oneCell', fieldA, partA, loadA, loadS, plusS, indexAddrA, indexArrA, nilCheckS, sliceA, sliceArr, fillA, newK, storeS, headK, getV, getB, chkP, mkFr, slotsOf, ptrsOf, boxesOf, firstReg, bindO, makeA, appA, copyA, srcA, srcTy, okPart_u8, cellsA_u8, Cond_iff, orO_some, orO_none, eqT_some, opA_entry, entryT_some, lookT_some, updT_some, delT_some, clearT_some, rangeT_some, nextT_some, makeMapH, opA_lookup, opA_makeMap2, opA_upd, opA_delete, opA_clear, opA_range, opA_next, valS_lookup, ev_draw, drawK, evP_nil, evP_q, evP_s, opAt_some, chkK_eq, sameV_some, sameO_some, allQ_nil, allQ_cons, valG_some, valJ, valQ_none, valQ_some, valS_move, valS_pick, valS_bin, valS_un, valS_extract, valS_field, valS_load, valS_index, valS_indexAddr, valS_fieldAddr, valS_nilCheck, valS_len, valS_max, valS_min, valS_slice, valS_convert, valS_makeFunc, valS_build, valS_buildSlice, rowT, rowF, sz2, ag2, tk2, by2, ze2, Try.underlying2, sz3, ag3, tk3, by3, ze3, Try.underlying3, sz4, ag4, tk4, by4, ze4, Try.underlying4, sz5, ag5, tk5, by5, ze5, Try.underlying5, sz9, ag9, tk9, st9, by9, ze9, Try.underlying9, sz22, ag22, tk22, st22, by22, ze22, Try.underlying22, sz24, ag24, tk24, by24, ze24, Try.underlying24, sz26, ag26, tk26, by26, ze26, Try.underlying26, sz28, ag28, tk28, st28, by28, ze28, Try.underlying28, sz30, ag30, tk30, by30, ze30, of30, Try.underlying30, sz32, ag32, tk32, by32, ze32, of32, Try.underlying32, sz42, ag42, tk42, by42, ze42, Try.underlying42, sz43, ag43, tk43, st43, by43, ze43, Try.underlying43, sz45, ag45, tk45, by45, ze45, of45, Try.underlying45, sz48, ag48, tk48, st48, by48, ze48, Try.underlying48, sz52, ag52, tk52, by52, ze52, Try.underlying52, sz53, ag53, tk53, by53, ze53, Try.underlying53, sz55, ag55, tk55, by55, ze55, of55, Try.underlying55, sz56, ag56, tk56, st56, by56, ze56, Try.underlying56, sz59, ag59, tk59, by59, ze59, Try.underlying59, sz62, ag62, tk62, by62, ze62, of62, Try.underlying62, sz63, ag63, tk63, by63, ze63, of63, Try.underlying63, sz65, ag65, tk65, by65, ze65, Try.underlying65, sz67, ag67, tk67, by67, ze67, of67, Try.underlying67, sz74, ag74, tk74, st74, by74, ze74, Try.underlying74, mo, ok3, ok4, ok5, ok6, ok7, ok8, ok9, ok10, ok11, ok12, ok13, ok14, ok15, ok16, ok17, ok18, ok19, ok20, ok21, ok22, ok23, ok24, ok25, ok26, ok27, ok28, ok29, ok30, ok31, ok32, ok33, ok34, ok35, ok36, ok37, ok39, ok40, ok41, ok42, ok45, ok46, ok47, ok59, ok60, ok61, ok62, ok63, ok64, ok71, ok72, ok73, ok74, ok75, ok76, ok77, ok79, ok80, ok81, pl4, pl6, pl7, pl9, pl12, pl13, pl14, pl19, pl20, pl25, pl27, pl37, pl47, pl72, w1] using step H3 _ fp3 hp3 ((hok.leave _).mono (by omega))
    · simp only [paC] at hsl
      simp [evOps_cons, opG_none, opA_call, putO_some, putH_lt, opS, opV, Go.Mx.look, mapO, callA, ok12, hsl, hle]
      refine send_sp a S fp i d.p H2 _ hp hok (by omega) d2 (fun H3 fp3 hp3 st3 => ?_)
      simpa [ev_skip, ev_seq, ev_cond2, ev_block, ev_exit, ev_ret, ev_region2, ev_loop, loopK, evOps_nil, evOps_cons, opG_none, opG_some, opJ, opU_true, opU_ft, opU_ff, isU_undef, isU_bool, valU_true, valU_false, opK_eq, opA_move, opA_assign, opA_pick, opA_bin, opA_un, opA_extract, opA_field, opA_load, opA_index, opA_indexAddr, opA_fieldAddr, opA_nilCheck, opA_len, opA_call, opA_max, opA_min, opA_alloc, opA_box, opA_store, opA_buildSlice, opA_makeSlice, opA_append, opA_copy, opA_convert, opA_makeMap, opA_slice, opA_makeFunc, opA_build, putO_some, putH_lt, putH_none, putC_lt, putC_none, putU_lt, putU_none, putV_lt, putV_none, condB_true, condB_false, CondP_true, CondP_false, binT_some, binA_int, binA_str, binA_eqb, binA_neb, binA, eqRef, avO_some, avO_none, avOf, pickT_true, pickT_false, pickT, unT, extractT, loadT, nilCheckT, lenT_str, lenT_row, lenT_sl, lenT_nil, lenT_arr, lenT_mp, lenT_nomp, maxT, minT, maxA, minA, fieldT, fieldAddrT, indexT, indexAddrT, allocT, boxT, storeT, buildSliceT, makeSliceT, appendT, copyT, convV, convC, convT, makeMapT, bndT, sliceT, fnT, bytesOf_nil, bytesOf_one, repeatL_0, repeatL_1, repeatL_2, repeatL_3, repeatL_4, buildZ, partsZ, fillO, aggO, io_add, io_sub, io_mul, io_quo, io_rem, io_shl, io_shr, io_and, io_or, io_xor, io_eql, io_neq, io_lss, io_leq, io_gtr, io_geq, strOp, opS_tmp, opS_const, opV_tmp, opV_const, opS, opV, look_eq, look_ne, Go.Mx.look, fr0, argSlots, seqK_n, seqK_r, seqK_e, seqK, blockK_n, blockK_r, blockK, Fr.known, Fr.newBox, dropBp, retK, retA, resA, mapO, unA, convInt, convStr, strOf, callA, extractA, lenM, cellsA_v, cellsA_agg, cellsA_row, cellsA_sl, cellsA_ptr, cellsA_rp, cellsA_mp, cellsA_fn, okPart_v, okPart_agg, okPart_row, okPart_sl, okPart_ptr, okPart_rp, okPart_mp, okPart_fn, Value.oneCell', fieldA, partA, loadA, loadS, plusS, indexAddrA, indexArrA, nilCheckS, sliceA, sliceArr, fillA, newK, storeS, headK, getV, getB, chkP, mkFr, slotsOf, ptrsOf, boxesOf, firstReg, bindO, makeA, appA, copyA, srcA, srcTy, okPart_u8, cellsA_u8, Cond_iff, orO_some, orO_none, eqT_some, opA_entry, entryT_some, lookT_some, updT_some, delT_some, clearT_some, rangeT_some, nextT_some, makeMapH, opA_lookup, opA_makeMap2, opA_upd, opA_delete, opA_clear, opA_range, opA_next, valS_lookup, ev_draw, drawK, evP_nil, evP_q, evP_s, opAt_some, chkK_eq, sameV_some, sameO_some, allQ_nil, allQ_cons, valG_some, valJ, valQ_none, valQ_some, valS_move, valS_pick, valS_bin, valS_un, valS_extract, valS_field, valS_load, valS_index, valS_indexAddr, valS_fieldAddr, valS_nilCheck, valS_len, valS_max, valS_min, valS_slice, valS_convert, valS_makeFunc, valS_build, valS_buildSlice, rowT, rowF, sz2, ag2, tk2, by2, ze2, Try.underlying2, sz3, ag3, tk3, by3, ze3, Try.underlying3, sz4, ag4, tk4, by4, ze4, Try.underlying4, sz5, ag5, tk5, by5, ze5, Try.underlying5, sz9, ag9, tk9, st9, by9, ze9, Try.underlying9, sz22, ag22, tk22, st22, by22, ze22, Try.underlying22, sz24, ag24, tk24, by24, ze24, Try.underlying24, sz26, ag26, tk26, by26, ze26, Try.underlying26, sz28, ag28, tk28, st28, by28, ze28, Try.underlying28, sz30, ag30, tk30, by30, ze30, of30, Try.underlying30, sz32, ag32, tk32, by32, ze32, of32, Try.underlying32, sz42, ag42, tk42, by42, ze42, Try.underlying42, sz43, ag43, tk43, st43, by43, ze43, Try.underlying43, sz45, ag45, tk45, by45, ze45, of45, Try.underlying45, sz48, ag48, tk48, st48, by48, ze48, Try.underlying48, sz52, ag52, tk52, by52, ze52, Try.underlying52, sz53, ag53, tk53, by53, ze53, Try.underlying53, sz55, ag55, tk55, by55, ze55, of55, Try.underlying55, sz56, ag56, tk56, st56, by56, ze56, Try.underlying56, sz59, ag59, tk59, by59, ze59, Try.underlying59, sz62, ag62, tk62, by62, ze62, of62, Try.underlying62, sz63, ag63, tk63, by63, ze63, of63, Try.underlying63, sz65, ag65, tk65, by65, ze65, Try.underlying65, sz67, ag67, tk67, by67, ze67, of67, Try.underlying67, sz74, ag74, tk74, st74, by74, ze74, Try.underlying74, mo, ok3, ok4, ok5, ok6, ok7, ok8, ok9, ok10, ok11, ok12, ok13, ok14, ok15, ok16, ok17, ok18, ok19, ok20, ok21, ok22, ok23, ok24, ok25, ok26, ok27, ok28, ok29, ok30, ok31, ok32, ok33, ok34, ok35, ok36, ok37, ok39, ok40, ok41, ok42, ok45, ok46, ok47, ok59, ok60, ok61, ok62, ok63, ok64, ok71, ok72, ok73, ok74, ok75, ok76, ok77, ok79, ok80, ok81, pl4, pl6, pl7, pl9, pl12, pl13, pl14, pl19, pl20, pl25, pl27, pl37, pl47, pl72, w1] using step H3 _ fp3 hp3 (hok.send d2)
    · simpa [ev_skip, ev_seq, ev_cond2, ev_block, ev_exit, ev_ret, ev_region2, ev_loop, loopK, evOps_nil, evOps_cons, opG_none, opG_some, opJ, opU_true, opU_ft, opU_ff, isU_undef, isU_bool, valU_true, valU_false, opK_eq, opA_move, opA_assign, opA_pick, opA_bin, opA_un, opA_extract, opA_field, opA_load, opA_index, opA_indexAddr, opA_fieldAddr, opA_nilCheck, opA_len, opA_call, opA_max, opA_min, opA_alloc, opA_box, opA_store, opA_buildSlice, opA_makeSlice, opA_append, opA_copy, opA_convert, opA_makeMap, opA_slice, opA_makeFunc, opA_build, putO_some, putH_lt, putH_none, putC_lt, putC_none, putU_lt, putU_none, putV_lt, putV_none, condB_true, condB_false, CondP_true, CondP_false, binT_some, binA_int, binA_str, binA_eqb, binA_neb, binA, eqRef, avO_some, avO_none, avOf, pickT_true, pickT_false, pickT, unT, extractT, loadT, nilCheckT, lenT_str, lenT_row, lenT_sl, lenT_nil, lenT_arr, lenT_mp, lenT_nomp, maxT, minT, maxA, minA, fieldT, fieldAddrT, indexT, indexAddrT, allocT, boxT, storeT, buildSliceT, makeSliceT, appendT, copyT, convV, convC, convT, makeMapT, bndT, sliceT, fnT, bytesOf_nil, bytesOf_one, repeatL_0, repeatL_1, repeatL_2, repeatL_3, repeatL_4, buildZ, partsZ, fillO, aggO, io_add, io_sub, io_mul, io_quo, io_rem, io_shl, io_shr, io_and, io_or, io_xor, io_eql, io_neq, io_lss, io_leq, io_gtr, io_geq, strOp, opS_tmp, opS_const, opV_tmp, opV_const, opS, opV, look_eq, look_ne, Go.Mx.look, fr0, argSlots, seqK_n, seqK_r, seqK_e, seqK, blockK_n, blockK_r, blockK, Fr.known, Fr.newBox, dropBp, retK, retA, resA, mapO, unA, convInt, convStr, strOf, callA, extractA, lenM, cellsA_v, cellsA_agg, cellsA_row, cellsA_sl, cellsA_ptr, cellsA_rp, cellsA_mp, cellsA_fn, okPart_v, okPart_agg, okPart_row, okPart_sl, okPart_ptr, okPart_rp, okPart_mp, okPart_fn, Value.oneCell', fieldA, partA, loadA, loadS, plusS, indexAddrA, indexArrA, nilCheckS, sliceA, sliceArr, fillA, newK, storeS, headK, getV, getB, chkP, mkFr, slotsOf, ptrsOf, boxesOf, firstReg, bindO, makeA, appA, copyA, srcA, srcTy, okPart_u8, cellsA_u8, Cond_iff, orO_some, orO_none, eqT_some, opA_entry, entryT_some, lookT_some, updT_some, delT_some, clearT_some, rangeT_some, nextT_some, makeMapH, opA_lookup, opA_makeMap2, opA_upd, opA_delete, opA_clear, opA_range, opA_next, valS_lookup, ev_draw, drawK, evP_nil, evP_q, evP_s, opAt_some, chkK_eq, sameV_some, sameO_some, allQ_nil, allQ_cons, valG_some, valJ, valQ_none, valQ_some, valS_move, valS_pick, valS_bin, valS_un, valS_extract, valS_field, valS_load, valS_index, valS_indexAddr, valS_fieldAddr, valS_nilCheck, valS_len, valS_max, valS_min, valS_slice, valS_convert, valS_makeFunc, valS_build, valS_buildSlice, rowT, rowF, sz2, ag2, tk2, by2, ze2, Try.underlying2, sz3, ag3, tk3, by3, ze3, Try.underlying3, sz4, ag4, tk4, by4, ze4, Try.underlying4, sz5, ag5, tk5, by5, ze5, Try.underlying5, sz9, ag9, tk9, st9, by9, ze9, Try.underlying9, sz22, ag22, tk22, st22, by22, ze22, Try.underlying22, sz24, ag24, tk24, by24, ze24, Try.underlying24, sz26, ag26, tk26, by26, ze26, Try.underlying26, sz28, ag28, tk28, st28, by28, ze28, Try.underlying28, sz30, ag30, tk30, by30, ze30, of30, Try.underlying30, sz32, ag32, tk32, by32, ze32, of32, Try.underlying32, sz42, ag42, tk42, by42, ze42, Try.underlying42, sz43, ag43, tk43, st43, by43, ze43, Try.underlying43, sz45, ag45, tk45, by45, ze45, of45, Try.underlying45, sz48, ag48, tk48, st48, by48, ze48, Try.underlying48, sz52, ag52, tk52, by52, ze52, Try.underlying52, sz53, ag53, tk53, by53, ze53, Try.underlying53, sz55, ag55, tk55, by55, ze55, of55, Try.underlying55, sz56, ag56, tk56, st56, by56, ze56, Try.underlying56, sz59, ag59, tk59, by59, ze59, Try.underlying59, sz62, ag62, tk62, by62, ze62, of62, Try.underlying62, sz63, ag63, tk63, by63, ze63, of63, Try.underlying63, sz65, ag65, tk65, by65, ze65, Try.underlying65, sz67, ag67, tk67, by67, ze67, of67, Try.underlying67, sz74, ag74, tk74, st74, by74, ze74, Try.underlying74, mo, ok3, ok4, ok5, ok6, ok7, ok8, ok9, ok10, ok11, ok12, ok13, ok14, ok15, ok16, ok17, ok18, ok19, ok20, ok21, ok22, ok23, ok24, ok25, ok26, ok27, ok28, ok29, ok30, ok31, ok32, ok33, ok34, ok35, ok36, ok37, ok39, ok40, ok41, ok42, ok45, ok46, ok47, ok59, ok60, ok61, ok62, ok63, ok64, ok71, ok72, ok73, ok74, ok75, ok76, ok77, ok79, ok80, ok81, pl4, pl6, pl7, pl9, pl12, pl13, pl14, pl19, pl20, pl25, pl27, pl37, pl47, pl72, w1] using step H2 _ fp hp (hok.mono (by omega))
  · have hio : StOk S 80 := hok.mono (by omega)
    clear hok
    have hio1 := hio.send hx2
    refine totw_sp a S fp 80 x.to H2 _ hp hio (by omega) (by omega) ?_
    simp [ev_seq, ev_region2, evOps_nil, evOps_cons, opG_none, opA_move, opA_assign, opA_load, opA_fieldAddr, opA_call, putO_some, putH_lt, putC_lt, loadT, fieldAddrT, opS, opV, Go.Mx.look, seqK, mapO, callA, partA, loadS, plusS, sz9, ag9, Try.underlying30, ok23]
    refine seen_sp a S fp x.fr x.tx_ H2 _ hp (by omega) (by omega) ?_
    have hsk : (x.fr, x.tx_) = keyP x := rfl
    rw [hsk]
    simp [ev_seq, ev_region2, evOps_nil, evOps_cons, opG_none, opA_move, opA_assign, opA_load, opA_call, putO_some, putH_lt, putC_lt, loadT, opS, opV, Go.Mx.look, seqK, mapO, callA, partA, loadS, sz30, ag30, ok12]
    refine send_sp a S fp 80 x H2 _ hp hio (by omega) hx2 (fun H3 fp3 hp3 st3 => ?_)
    simp [ev_seq, ev_region2, evOps_nil, evOps_cons, opG_none, opA_move, opA_assign, opA_extract, opA_load, opA_fieldAddr, opA_call, putO_some, putH_lt, putC_lt, extractT, loadT, fieldAddrT, opS, opV, Go.Mx.look, seqK, mapO, callA, extractA, partA, loadS, plusS, sz9, ag9, Try.underlying30, ok28]
    refine totw_sp a _ fp3 81 x.to H3 _ hp3 hio1 (by omega) (by omega) ?_
    by_cases he : sendE S x = 0
    · obtain ⟨o1, o2, o3⟩ := send_ok he
      obtain ⟨r1, r2, r3⟩ := send_again he
      have hsr : sendR S x = sendN S x := by unfold sendR; rw [he]; rfl
      have hss := sum_send hio he
      have hio2 := hio1.send hx2
      simp [ev_skip, ev_seq, ev_cond2, ev_region2, evOps_nil, evOps_cons, opG_none, opA_move, opA_assign, opA_bin, opA_load, opA_call, putO_some, putH_lt, putC_lt, condB_false, binT_some, binA, avO_some, loadT, io_neq, opS, opV, Go.Mx.look, seqK, Fr.known, mapO, callA, partA, loadS, orO_some, eqT_some, tk26, sz30, ag30, ok12, he]
      refine send_sp a _ fp3 81 x H3 _ hp3 hio1 (by omega) hx2 (fun H4 fp4 hp4 st4 => ?_)
      rw [r2] at hp4
      rw [r1, r3]
      simp [ev_seq, ev_ret, ev_region2, evOps_nil, evOps_cons, opG_none, opG_some, opJ, opU_ft, isU_bool, opK_eq, opA_move, opA_assign, opA_pick, opA_bin, opA_un, opA_extract, opA_load, opA_fieldAddr, opA_call, putO_some, putH_lt, putC_lt, putV_lt, condB_true, condB_false, binT_some, binA, avO_some, pickT, unT, extractT, loadT, fieldAddrT, io_add, io_eql, io_geq, opS, opV, Go.Mx.look, seqK, Fr.known, retK, retA, resA, mapO, unA, callA, extractA, partA, loadS, plusS, orO_some, eqT_some, tk3, sz9, ag9, tk26, Try.underlying30, ok28, o2]
      have hle : sumW S x.to + sendN S x ≤ 100000 := by
        rw [← hss, ← tot_sum hio1.k]
        refine Nat.le_trans (tot_le hio1 _ _) ?_
        have : (namesD (sendS S x) x.to).length ≤ 81 := by
          unfold namesD
          rw [sortS_len, List.length_map]
          exact Nat.le_trans (List.length_filter_le _ _) hio1.l
        exact Nat.le_trans (Nat.mul_le_mul this (Nat.le_refl 81)) (by omega)
      have w5 : IntKind.i64.wrap ((sumW S x.to : Int) + (sendN S x : Int)) = (sumW S x.to : Int) + (sendN S x : Int) := wr_i64 (by omega)
      have w6 : ((sumW (sendS S x) x.to : Nat) : Int) = (sumW S x.to : Int) + (sendN S x : Int) := by omega
      have w7 : (1 : Int) ≤ (sendN S x : Int) := by omega
      simp [hsr, w5, w6, w7]
      refine totw_sp a _ fp4 81 x.to H4 _ hp4 hio1 (by omega) (by omega) ?_
      simp [evOps_cons, opG_none, opG_some, opJ, opU_ft, isU_bool, opK_eq, opA_move, opA_pick, opA_bin, opA_load, opA_fieldAddr, opA_call, putO_some, putH_lt, putC_lt, condB_true, binT_some, binA, avO_some, pickT, loadT, fieldAddrT, io_eql, opS, opV, Go.Mx.look, Fr.known, mapO, callA, partA, loadS, plusS, orO_some, eqT_some, tk3, sz9, ag9, Try.underlying30, ok23, w6]
      refine seen_sp a _ fp4 x.fr x.tx_ H4 _ hp4 (by omega) (by omega) ?_
      rw [hsk, seen_send he]
      simp [evOps_cons, opG_none, opG_some, opJ, opU_ft, isU_bool, opK_eq, opA_move, opA_pick, opA_call, putO_some, putH_lt, putC_lt, condB_true, pickT, opS, opV, Go.Mx.look, Fr.known, mapO, callA, ok16]
      refine awake_sp H4 _ (fun H6 _ => ?_)
      simp [ev_ret, evOps_nil, evOps_cons, opG_none, opA_assign, opA_pick, putO_some, putH_lt, putC_lt, pickT, opS, opV, Go.Mx.look, seqK, retK, retA, resA, mapO]
    · have hss : sendS S x = S := by unfold sendS; rw [if_neg he]
      have hsr : sendR S x = 0 := by unfold sendR; rw [if_neg he]
      rw [hss] at hp3
      simp [ev_seq, ev_cond2, ev_region2, evOps_nil, evOps_cons, opG_none, opG_some, opJ, opU_ft, isU_bool, opK_eq, opA_move, opA_assign, opA_pick, opA_bin, opA_load, opA_fieldAddr, opA_call, putO_some, putH_lt, putC_lt, condB_true, CondP_true, binT_some, binA, avO_some, pickT, loadT, fieldAddrT, io_eql, io_neq, opS, opV, Go.Mx.look, seqK, Fr.known, mapO, callA, partA, loadS, plusS, orO_some, eqT_some, tk3, sz9, ag9, tk26, Try.underlying30, ok23, he, hss, hsr]
      refine seen_sp a S fp3 x.fr x.tx_ H3 _ hp3 (by omega) (by omega) ?_
      rw [hsk]
      simp [evOps_cons, opG_none, opG_some, opJ, opU_ft, isU_bool, opK_eq, opA_move, opA_pick, opA_bin, opA_call, putO_some, putH_lt, putC_lt, condB_true, binT_some, binA, eqRef, avO_some, pickT, opS, opV, Go.Mx.look, Fr.known, mapO, callA, orO_some, eqT_some, tk4, ok16]
      refine awake_sp H3 _ (fun H6 _ => ?_)
      simp [ev_ret, evOps_nil, evOps_cons, opG_none, opA_assign, opA_pick, putO_some, putH_lt, putC_lt, pickT, opS, opV, Go.Mx.look, seqK, retK, retA, resA, mapO]
end Go.Proofs.Ytamhmecfjkahdaa
