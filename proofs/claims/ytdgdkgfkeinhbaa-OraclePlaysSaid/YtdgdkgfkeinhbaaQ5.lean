import Derived.Test.YtdgdkgfkeinhbaaQ4
namespace Go.Proofs.Ytdgdkgfkeinhbaa
open Go.Mx
set_option linter.unusedVariables false
set_option linter.unusedSimpArgs false

theorem servers_sp {H : Hp} {a : Nat} {sl tl : List ByteArray} {gl : List (ByteArray × ByteArray)} {fp : List Nat} (Q : AV → Hp → Prop) (ht : TableAt H a sl tl gl fp) (hb : sl.length ≤ 1000000) (h : ∀ v, RowS v sl → Q v H) : Sp Try.prog 17 [.ptr a 0 0] Q H := by
  refine Sp.body [] ⟨[], [], []⟩ [] mo Try.func17 rfl (Nat.le_of_ble_eq_true rfl) (by kernel_rfl) ?_
  simp [ev_seq, ev_region2, evOps_nil, evOps_cons, opG_none, opA_move, opA_assign, opA_call, putO_some, putH_lt, opS, opV, Go.Mx.look, fr0, argSlots, seqK, mapO, callA, ok26]
  refine made_sp _ ht ?_
  obtain ⟨sv, m1, m2, h1, h2, _⟩ := ht
  simp [ev_skip, ev_seq, ev_cond2, ev_region2, evOps_nil, evOps_cons, opG_none, opA_move, opA_un, opA_load, opA_fieldAddr, opA_nilCheck, opA_call, putO_some, putH_lt, putC_lt, condB_false, unT, loadT, nilCheckT, fieldAddrT, opS, opV, Go.Mx.look, seqK, Fr.known, mapO, unA, callA, partA, loadA, loadS, plusS, nilCheckS, sz22, ag22, Try.underlying52, ok25, h1]
  refine clone_sp sv sl _ _ h2 hb (fun v hv => ?_)
  simp [ev_ret, evOps_nil, evOps_cons, opG_none, opA_assign, putO_some, putH_lt, putC_lt, opS, opV, Go.Mx.look, seqK, retK, retA, resA, mapO]
  exact h v hv
/-- The table and the document's, apart, and what was told. -/
def Both (H : Hp) (a b : Nat) (sl tl : List ByteArray) (gl : List (ByteArray × ByteArray)) (D : List ByteArray) (dv : AV) (fa fb : List Nat) : Prop :=
  TableAt H a sl tl gl fa ∧ RefT H b sl tl gl fb ∧ (∀ j ∈ fa, j ∉ fb) ∧ Told H D dv (fa ++ fb)
theorem RefT.lt {H : Hp} {b : Nat} {sl tl : List ByteArray} {gl : List (ByteArray × ByteArray)} {fp : List Nat} (h : RefT H b sl tl gl fp) : ∀ j ∈ fp, j < H.length := by
  obtain ⟨nv, lv, sv, f1, f2, f3, h1, h2, h3, h4, rfl, h5, h6⟩ := h
  exact h6
theorem Both.rows {H : Hp} {a b : Nat} {sl tl D : List ByteArray} {gl : List (ByteArray × ByteArray)} {dv : AV} {fa fb : List Nat} (h : Both H a b sl tl gl D dv fa fb) :
    ∃ nv lv sv, H[b]? = some (.cells 0 [nv, lv, sv]) ∧ (∀ H', lenT H' (some (.slice 9)) (some lv) = some (.av (.v (.int .i64 tl.length)))) ∧ ∀ H', lenT H' (some (.slice 68)) (some sv) = some (.av (.v (.int .i64 gl.length))) := by
  obtain ⟨nv, lv, sv, f1, f2, f3, h1, h2, h3, h4, rfl, h5, h6⟩ := h.2.1
  exact ⟨nv, lv, sv, h1, h3.len, h4.len⟩
theorem Both.step {H H3 H4 : Hp} {a b : Nat} {sl tl tl' D : List ByteArray} {gl gl' : List (ByteArray × ByteArray)} {dv : AV} {fa fb fb' : List Nat} (h : Both H a b sl tl gl D dv fa fb)
    (ha : TableAt H3 a sl tl' gl' fa) (sa : Same fa H H3) (hb : RefT H4 b sl tl' gl' fb') (sb : Same fb H3 H4) (nb : ∀ j ∈ fb', j ∈ fb ∨ H3.length ≤ j) : Both H4 a b sl tl' gl' D dv fa fb' := by
  obtain ⟨t1, t2, d, t3⟩ := h
  have hla := ha.lt
  refine ⟨ha.same sb d, hb, fun j hj hj2 => ?_, ?_⟩
  · rcases nb j hj2 with h | h
    · exact d j hj h
    · have := hla j hj; omega
  · have t4 := (t3.same sa (fun j hj => by simp [hj])).same sb (fun j hj => by simp [hj])
    refine ⟨t4.1, fun id ver p q n e hm => ?_⟩
    rcases List.mem_append.1 hm with hm | hm
    · exact t3.2 _ _ _ _ _ e (by simp [hm])
    · rcases nb id hm with h | h
      · exact t3.2 _ _ _ _ _ e (by simp [h])
      · rcases t3.1 with ⟨_, e2⟩ | ⟨_, id2, ver2, tl2, e2, e3, _⟩
        · rw [e] at e2; simp at e2
        · rw [e] at e2; simp at e2
          have h1 := Hp.lt e3
          have h2 := sa.1
          omega
theorem Both.ref {H H3 : Hp} {a b : Nat} {sl tl D : List ByteArray} {gl : List (ByteArray × ByteArray)} {dv : AV} {fa fb : List Nat} (h : Both H a b sl tl gl D dv fa fb) (sa : Same fa H H3) : RefT H3 b sl tl gl fb := h.2.1.same sa (fun j hj hja => h.2.2.1 j hja hj)
theorem Both.app {H : Hp} {a b : Nat} {sl tl D : List ByteArray} {gl : List (ByteArray × ByteArray)} {dv : AV} {fa fb : List Nat} {x : Bool} {s : ByteArray} {k : AV → Hp → Prop} (h : Both H a b sl tl gl D dv fa fb) (hb : (D.length + 1) * 16 ≤ 140737488355328)
    (hq : ∀ dv' H', Both H' a b sl tl gl (D ++ [s]) dv' fa fb → k dv' H') : appA H 1 16 dv (.row x 1 [.v (.string s)]) k := by
  obtain ⟨t1, t2, d, t3⟩ := h
  have l1 := t1.lt
  have l2 := t2.lt
  refine t3.app (fun j hj => by rcases List.mem_append.1 hj with hj | hj; exact l1 j hj; exact l2 j hj) hb (fun dv' H' hT _ hk hle => hq dv' H' ⟨table_keep t1 (fun j o hj => hk j o (by simp [hj])) hle, ?_, d, hT⟩)
  obtain ⟨nv, lv, sv, f1, f2, f3, h1, h2, h3, h4, rfl, h5, h6⟩ := t2
  have hk2 : ∀ j o, j ∈ b :: (f1 ++ (f2 ++ f3)) → H[j]? = some o → H'[j]? = some o := fun j o hj => hk j o (by simp at hj ⊢; exact .inr hj)
  refine ⟨nv, lv, sv, f1, f2, f3, hk2 _ _ (by simp) h1, ?_, ?_, ?_, rfl, h5, fun j hj => Nat.lt_of_lt_of_le (h6 j hj) hle⟩
  · rcases h2 with h2 | ⟨id, ver, e1, e2, rfl⟩
    · exact .inl h2
    · exact .inr ⟨id, ver, e1, hk2 _ _ (by simp) e2, rfl⟩
  · rcases h3 with h3 | ⟨id, ver, e1, e2, rfl⟩
    · exact .inl h3
    · exact .inr ⟨id, ver, e1, hk2 _ _ (by simp) e2, rfl⟩
  · rcases h4 with h4 | ⟨id, ver, e1, e2, rfl⟩
    · exact .inl h4
    · exact .inr ⟨id, ver, e1, hk2 _ _ (by simp) e2, rfl⟩
theorem Both.told {H : Hp} {a b : Nat} {sl tl D : List ByteArray} {gl : List (ByteArray × ByteArray)} {dv : AV} {fa fb : List Nat} (h : Both H a b sl tl gl D dv fa fb) : Told H D dv (fa ++ fb) := h.2.2.2
def InvP (sl : List ByteArray) (l : List Dd) (a b : Nat) (n : Nat) (xs : List AV) (_ : List (List AV)) (H3 : Hp) : Prop :=
  ∃ (i : Nat) (tl : List ByteArray) (gl : List (ByteArray × ByteArray)) (D : List ByteArray) (dv : AV) (fa fb : List Nat), i ≤ l.length ∧ n = l.length - i ∧ xs = [ddsV l, .ptr a 0 0, .ptr b 0 0, dv, .v (.int .i64 i)] ∧
      Both H3 a b sl tl gl D dv fa fb ∧ tl.length ≤ i ∧ gl.length ≤ i ∧ D.length ≤ i
theorem frz_row (l : List ByteArray) : [AV.sl 0 1 1 0 l.length].map (frz 0 1 (l.map strV)) = [rowS l] := by
  simp [frz, frz2, frz1, rowS]

set_option maxRecDepth 20000 in
set_option maxHeartbeats 4000000 in
theorem plays_law (sl : List ByteArray) (l : List Dd) : Sp Try.prog 6 [rowS sl, ddsV l] (fun v _ => v = .v (.bool true)) [] := by
  refine Sp.body [(13, ⟨[0, 1, 5, 7, 9, 10], [], []⟩), (19, ⟨[1, 5, 7, 11, 12], [], []⟩)] ⟨[13], [25], pl6⟩ tb6 mo Try.func6 rfl (Nat.le_of_ble_eq_true rfl) (by kernel_rfl) ?_
  simp [ev_seq, ev_region2, evOps_nil, evOps_cons, opG_none, opA_move, opA_assign, opA_call, putO_some, putH_lt, opS, opV, Go.Mx.look, fr0, argSlots, seqK, mapO, callA, ok11, pl6, ddsV]
  refine few_sp l (rowS sl) sl false _ _ (rowS_is sl) (fun hf => ?_) (fun _ => by simp [ev_seq, ev_cond2, ev_ret, ev_region2, evOps_nil, evOps_cons, opG_none, opA_assign, opA_un, putO_some, putH_lt, putC_lt, condB_true, unT, opS, opV, Go.Mx.look, seqK, Fr.known, retK, retA, resA, mapO, unA])
  have hsl0 : sl.length ≤ 100 := hf.2.1
  have hsl : sl.length ≤ 1000000 := by omega
  have hlen := hf.1
  simp [ev_skip, ev_seq, ev_cond2, ev_region2, evOps_nil, evOps_cons, opG_none, opA_move, opA_un, opA_buildSlice, opA_append, putO_some, putH_lt, putC_lt, condB_false, unT, buildSliceT, appendT, opS, opV, Go.Mx.look, seqK, Fr.known, mapO, unA, fillA, bindO, srcTy, sz9, by9, ze9, st22, Try.underlying22, rowS]
  refine appA_sl (m := sl.length) (ys := sl.map strV) (by simp [srcA]) (by rfl) (by simp) (by have := hf.2.1; omega) (by omega) ?_
  simp [evOps_cons, opG_none, opA_call, putC_lt, opS, opV, Go.Mx.look, mapO, callA, ok8]
  refine Sp.frzArgs (id := 0) (ver := 1) (cs := sl.map strV) (by rfl) ?_
  rw [frz_row]
  refine new_sp _ sl _ _ (rowS_is sl) (by omega) (fun hno H1 hs => ?_) (fun hok a H1 fa ht hs hfp => ?_)
  · simp [ev_seq, ev_region2, evOps_nil, evOps_cons, opG_none, opA_move, opA_assign, opA_extract, opA_call, putO_some, putH_lt, putC_lt, extractT, opS, opV, Go.Mx.look, seqK, mapO, callA, extractA, ok16]
    refine rnew_sp sl _ _ (by omega) (fun _ => ?_) (fun h => absurd h hno)
    simp [ev_skip, ev_seq, ev_cond2, ev_region2, evOps_nil, evOps_cons, opG_none, opG_some, opJ, opU_ff, isU_bool, opK_eq, opA_move, opA_assign, opA_pick, opA_bin, opA_extract, opA_call, putO_some, putH_lt, putC_lt, condB_true, condB_false, binT_some, binA, eqRef, avO_some, pickT, extractT, io_neq, opS, opV, Go.Mx.look, seqK, Fr.known, mapO, callA, extractA, orO_some, eqT_some, tk4, tk23, tk24, ok10]
    exact awake_sp _ _ (by simp [ev_ret, evOps_nil, evOps_cons, opG_none, opA_assign, putO_some, putH_lt, putC_lt, opS, opV, Go.Mx.look, seqK, retK, retA, resA, mapO])
  simp [ev_seq, ev_region2, evOps_nil, evOps_cons, opG_none, opA_move, opA_assign, opA_extract, opA_call, putO_some, putH_lt, putC_lt, extractT, opS, opV, Go.Mx.look, seqK, mapO, callA, extractA, ok16]
  refine rnew_sp sl _ _ (by omega) (fun h => absurd hok h) (fun _ b H2 fb hr hs2 hfb => ?_)
  have ht2 := ht.same hs2 (by simp)
  simp [ev_skip, ev_seq, ev_cond2, ev_region2, evOps_nil, evOps_cons, opG_none, opG_some, opJ, opU_ff, isU_bool, opK_eq, opA_move, opA_assign, opA_pick, opA_bin, opA_extract, opA_call, putO_some, putH_lt, putC_lt, condB_false, binT_some, binA, eqRef, avO_some, pickT, extractT, io_neq, opS, opV, Go.Mx.look, seqK, Fr.known, mapO, callA, extractA, orO_some, eqT_some, tk4, tk23, tk24, ok17]
  refine servers_sp _ ht2 hsl (fun v hv => ?_)
  have hvl : ∀ H', lenT H' (some (.slice 9)) (some v) = some (.av (.v (.int .i64 sl.length))) := fun H' => by
    rcases hv with ⟨x, rfl⟩ | ⟨rfl, rfl⟩ <;> rfl
  simp [ev_skip, ev_seq, ev_cond2, ev_block, ev_region2, ev_loop, loopK, evOps_nil, evOps_cons, opG_none, opA_move, opA_assign, opA_bin, opA_len, putO_some, putH_lt, putC_lt, condB_false, binT_some, binA, avO_some, lenT_row, io_neq, opS, opV, Go.Mx.look, seqK, Fr.known, mapO, headK, getV, getB, chkP, firstReg, orO_some, eqT_some, tk3, Try.underlying22, hvl]
  refine LoopC.intro (fun n xs _ H3 => ∃ i : Nat, i ≤ sl.length ∧ n = sl.length - i ∧ xs = [rowS sl, ddsV l, .ptr a 0 0, .ptr b 0 0, v, .v (.int .i64 i)] ∧ H3 = H2) sl.length ⟨0, by omega, rfl, by simp [rowS, ddsV], rfl⟩ ?_
  rintro n xs bs H3 ⟨i, hi, rfl, rfl, rfl⟩
  simp [ev_skip, ev_seq, ev_cond2, ev_block, ev_exit, ev_region2, ev_loop, loopK, evOps_nil, evOps_cons, opG_none, opA_move, opA_assign, opA_bin, opA_indexAddr, opA_len, putO_some, putH_lt, binT_some, binA, avO_some, indexAddrT, io_lss, opS, opV, Go.Mx.look, seqK, blockK, Fr.known, mapO, indexAddrA, headK, getV, getB, chkP, mkFr, slotsOf, ptrsOf, boxesOf, firstReg, orO_some, eqT_some, ev_draw, drawK, evP_q, opAt_some, tk3, sz9, Try.underlying22, hvl, rowS, ddsV]
  refine ⟨fun hlt => ?_, fun hge => ?_⟩
  · have w1 : IntKind.i64.wrap ((i : Int) + 1) = (i : Int) + 1 := wr_i64 (by omega)
    rcases hv with ⟨x, rfl⟩ | ⟨rfl, rfl⟩
    · simp [ev_skip, ev_cond2, ev_region2, evOps_nil, evOps_cons, opG_none, opA_move, opA_assign, opA_bin, opA_load, opA_indexAddr, putO_some, putH_lt, condB_false, binT_some, binA, avO_some, loadT, indexAddrT, io_add, strOp, opS, opV, Go.Mx.look, seqK, blockK, Fr.known, mapO, partA, loadA, loadS, indexAddrA, headK, getV, getB, chkP, orO_some, eqT_some, evP_nil, evP_q, opAt_some, tk3, sz9, ag9, tk9, Try.underlying22, hlt, strV, w1]
      exact ⟨sl.length - (i + 1), by omega, i + 1, by omega, rfl, by simp⟩
    · simp at hlt
  clear hge hi
  have hdis : ∀ j ∈ fa, j ∉ fb := fun j hj hj2 => by have h1 := ht.lt j hj; have h2 := hfb j hj2; omega
  refine LoopC.intro (InvP sl l a b) l.length ⟨0, [], [], [], _, fa, fb, by omega, rfl, rfl, ⟨ht2, hr, hdis, Told.nil _ _⟩, by simp, by simp, by simp⟩ ?_
  clear ht ht2 hr hdis hfb hs hs2 hfp hv hvl
  rintro n xs bs H3 ⟨i, tl, gl, D, dv, fa, fb, hi, rfl, rfl, hB, htl, hgl, hDl⟩
  simp [ev_skip, ev_seq, ev_cond2, ev_block, ev_exit, ev_region2, evOps_nil, evOps_cons, opG_none, opA_move, opA_bin, opA_indexAddr, opA_len, opA_call, putO_some, putH_lt, binT_some, binA, avO_some, lenT_row, indexAddrT, io_lss, opS, opV, Go.Mx.look, seqK, blockK, Fr.known, mapO, callA, indexAddrA, mkFr, slotsOf, ptrsOf, boxesOf, orO_some, eqT_some, tk3, Try.underlying31, sz33, ok10, ddsV]
  refine ⟨fun hlt => ?_, fun hge => ?_⟩
  · have hx := List.getElem?_eq_getElem hlt
    generalize l[i] = x at hx
    have hxf : FewD x := hf.2.2.2 x (List.mem_of_getElem? hx)
    have hle := flat_le2 ddC_len hx
    have hsub := flat_sub ddC_len l i hx
    rw [ddC] at hsub
    have w1 : IntKind.i64.wrap ((i : Int) + 1) = (i : Int) + 1 := wr_i64 (by omega)
    have z1 := sz_max hxf.2.1 (by omega)
    have z2 : (tx x.text.data.toList).size ≤ maxLen := by rw [tx_sz]; exact sz_max hxf.1 (by omega)
    by_cases k0 : x.kind = 0
    · simp [ev_seq, ev_cond2, ev_block, ev_region2, evOps_nil, evOps_cons, opG_none, opA_move, opA_assign, opA_bin, opA_load, opA_fieldAddr, opA_call, opA_alloc, opA_store, opA_convert, putO_some, putH_lt, putU_none, condB_true, binT_some, binA, avO_some, loadT, fieldAddrT, allocT, storeT, convT, io_eql, opS, opV, Go.Mx.look, seqK, Fr.known, Fr.newBox, dropBp, mapO, callA, cellsA_agg, okPart_agg, partA, loadA, loadS, plusS, newK, storeS, orO_some, eqT_some, ev_draw, drawK, evP_q, evP_s, opAt_some, sz3, ag3, tk3, Try.underlying5, sz9, ag9, Try.underlying9, Try.underlying28, sz33, ag33, ze33, Try.underlying33, ok9, hlt, hle, hsub, splice, k0]
      refine digest_sp _ x.text.data.toList _ hB.1 (bytesStr x.text) (by omega) (fun H4 ht4 s4 => ?_)
      simp [opG_none, opA_call, putC_lt, loadT, fieldAddrT, convC, opS, opV, Go.Mx.look, mapO, callA, partA, loadS, plusS, evP_s, opAt_some, chkK_eq, sameV_some, sameO_some, allQ_nil, allQ_cons, valQ_none, valS_move, valS_load, valS_fieldAddr, valS_convert, Try.underlying5, sz9, ag9, Try.underlying9, Try.underlying28, Try.underlying33, ok18]
      refine rdigest_sp _ x.text.data.toList _ (hB.ref s4) (bytesStr x.text) (by omega) (fun H5 fb5 hr5 s5 n5 => ?_)
      replace hB := hB.step ht4 s4 hr5 s5 n5
      have hta := addT_len tl (tx x.text.data.toList)
      generalize addT tl (tx x.text.data.toList) = tl5 at hB hta
      clear ht4 s4 hr5 s5 n5
      simp [ev_seq, opG_none, opG_some, opJ, opU_ff, isU_bool, opK_eq, opA_move, opA_assign, opA_bin, opA_un, opA_load, opA_fieldAddr, opA_nilCheck, putO_some, putH_lt, putC_lt, condB_false, binT_some, binA, avO_some, unT, loadT, nilCheckT, fieldAddrT, strOp, opS, opV, Go.Mx.look, seqK, blockK, Fr.known, unA, partA, loadA, loadS, plusS, nilCheckS, orO_some, eqT_some, ev_draw, drawK, evP_nil, evP_q, evP_s, opAt_some, chkK_eq, allQ_nil, tk9, sz22, ag22, Try.underlying47]
      have ⟨nv, lv, sv, hb1, hl1, hl2⟩ := hB.rows
      simp [opG_some, opJ, opU_ff, isU_bool, opK_eq, opA_len, opA_call, putO_some, putH_lt, condB_false, opS, opV, Go.Mx.look, Fr.known, mapO, callA, evP_q, evP_s, opAt_some, Try.underlying22, ok21, hb1, hl1]
      refine texts_sp _ hB.1 ?_
      simp [opG_none, opG_some, opJ, opU_ff, isU_bool, valU_false, opK_eq, opA_move, opA_pick, opA_bin, opA_load, opA_fieldAddr, opA_nilCheck, opA_len, opA_call, putO_some, putH_lt, putC_lt, condB_false, binT_some, binA, avO_some, pickT, loadT, nilCheckT, fieldAddrT, io_neq, opS, opV, Go.Mx.look, Fr.known, mapO, callA, partA, loadA, loadS, plusS, nilCheckS, orO_some, eqT_some, evP_q, evP_s, opAt_some, chkK_eq, sameV_some, sameO_some, allQ_nil, allQ_cons, valJ, valQ_some, valS_move, valS_load, valS_fieldAddr, valS_nilCheck, valS_len, tk3, sz22, ag22, Try.underlying22, sz45, ag45, Try.underlying45, Try.underlying47, ok15, hb1, hl1, hl2]
      refine tokens_sp _ hB.1 ?_
      simp [ev_skip, ev_cond2, ev_region2, evOps_nil, evOps_cons, opG_none, opG_some, opJ, opU_ff, isU_bool, valU_false, opK_eq, opA_move, opA_assign, opA_pick, opA_bin, putO_some, putH_lt, putC_lt, condB_false, binT_some, binA, avO_some, pickT, loadT, nilCheckT, fieldAddrT, io_add, io_neq, opS, opV, Go.Mx.look, seqK, blockK, Fr.known, mapO, partA, loadA, loadS, plusS, nilCheckS, headK, getV, getB, chkP, orO_some, eqT_some, evP_nil, evP_q, opAt_some, chkK_eq, sameV_some, sameO_some, allQ_nil, allQ_cons, valJ, valQ_some, valS_move, valS_load, valS_fieldAddr, valS_nilCheck, valS_len, tk3, sz45, ag45, Try.underlying45, Try.underlying47, hb1, hl2, w1]
      exact ⟨l.length - (i + 1), by omega, i + 1, tl5, gl, D, dv, fa, fb5, by omega, rfl, by simp [ddsV], hB, by omega, by omega, by first | omega | (simp; omega)⟩
    by_cases k1 : x.kind = 1
    · simp [ev_seq, ev_cond2, ev_block, ev_region2, evOps_nil, evOps_cons, opG_none, opA_move, opA_assign, opA_bin, opA_load, opA_fieldAddr, opA_call, opA_alloc, opA_store, opA_convert, putO_some, putH_lt, putU_none, condB_true, condB_false, binT_some, binA, avO_some, loadT, fieldAddrT, allocT, storeT, convT, io_eql, opS, opV, Go.Mx.look, seqK, Fr.known, Fr.newBox, dropBp, mapO, callA, cellsA_agg, okPart_agg, partA, loadA, loadS, plusS, newK, storeS, orO_some, eqT_some, sz3, ag3, tk3, Try.underlying5, sz9, ag9, Try.underlying9, Try.underlying28, sz33, ag33, ze33, Try.underlying33, ok12, hlt, hle, hsub, splice, k1]
      refine sign_sp x.server _ x.text.data.toList _ hB.1 (bytesStr x.text) (by omega) hsl z1 z2 (fun hno => ?_) (fun hin H4 ht4 s4 => ?_)
      · simp [ev_seq, ev_region2, evOps_nil, evOps_cons, opG_none, opA_move, opA_assign, opA_extract, opA_load, opA_fieldAddr, opA_call, opA_convert, putO_some, putH_lt, putC_lt, extractT, loadT, fieldAddrT, convT, opS, opV, Go.Mx.look, seqK, mapO, callA, extractA, partA, loadS, plusS, Try.underlying5, sz9, ag9, Try.underlying9, Try.underlying28, Try.underlying33, ok19]
        refine rsign_sp x.server _ x.text.data.toList _ hB.2.1 (bytesStr x.text) (by omega) hsl (fun _ => ?_) (fun hin => absurd hin hno)
        simp [ev_seq, ev_region2, evOps_nil, evOps_cons, opG_none, opG_some, opJ, opU_ft, isU_bool, opK_eq, opA_move, opA_assign, opA_pick, opA_bin, opA_extract, opA_buildSlice, opA_append, putO_some, putH_lt, putC_lt, condB_true, binT_some, binA, avO_some, pickT, extractT, buildSliceT, appendT, io_eql, strOp, opS, opV, Go.Mx.look, seqK, Fr.known, mapO, extractA, cellsA_v, okPart_v, Value.oneCell', fillA, bindO, srcTy, orO_some, eqT_some, sz9, tk9, by9, ze9, st22, Try.underlying22, tk24]
        refine hB.app (by omega) (fun dv5 H5 hB5 => ?_)
        replace hB := hB5
        clear hB5
        simp [ev_seq, evOps_nil, evOps_cons, opG_none, opG_some, opJ, opU_ff, isU_bool, opK_eq, opA_move, opA_assign, opA_un, opA_load, opA_fieldAddr, opA_nilCheck, putO_some, putH_lt, putC_lt, condB_false, unT, loadT, nilCheckT, fieldAddrT, opS, opV, Go.Mx.look, seqK, blockK, Fr.known, unA, partA, loadA, loadS, plusS, nilCheckS, ev_draw, drawK, evP_q, opAt_some, sz22, ag22, Try.underlying47]
        have ⟨nv, lv, sv, hb1, hl1, hl2⟩ := hB.rows
        simp [opG_some, opJ, opU_ff, isU_bool, opK_eq, opA_len, opA_call, putO_some, putH_lt, condB_false, opS, opV, Go.Mx.look, Fr.known, mapO, callA, evP_q, evP_s, opAt_some, Try.underlying22, ok21, hb1, hl1]
        refine texts_sp _ hB.1 ?_
        simp [opG_none, opG_some, opJ, opU_ff, isU_bool, valU_false, opK_eq, opA_move, opA_pick, opA_bin, opA_load, opA_fieldAddr, opA_nilCheck, opA_len, opA_call, putO_some, putH_lt, putC_lt, condB_false, binT_some, binA, avO_some, pickT, loadT, nilCheckT, fieldAddrT, io_neq, opS, opV, Go.Mx.look, Fr.known, mapO, callA, partA, loadA, loadS, plusS, nilCheckS, orO_some, eqT_some, evP_q, evP_s, opAt_some, chkK_eq, sameV_some, sameO_some, allQ_nil, allQ_cons, valJ, valQ_some, valS_move, valS_load, valS_fieldAddr, valS_nilCheck, valS_len, tk3, sz22, ag22, Try.underlying22, sz45, ag45, Try.underlying45, Try.underlying47, ok15, hb1, hl1, hl2]
        refine tokens_sp _ hB.1 ?_
        simp [ev_skip, ev_cond2, ev_region2, evOps_nil, evOps_cons, opG_none, opG_some, opJ, opU_ff, isU_bool, valU_false, opK_eq, opA_move, opA_assign, opA_pick, opA_bin, putO_some, putH_lt, putC_lt, condB_false, binT_some, binA, avO_some, pickT, loadT, nilCheckT, fieldAddrT, io_add, io_neq, opS, opV, Go.Mx.look, seqK, blockK, Fr.known, mapO, partA, loadA, loadS, plusS, nilCheckS, headK, getV, getB, chkP, orO_some, eqT_some, evP_nil, evP_q, opAt_some, chkK_eq, sameV_some, sameO_some, allQ_nil, allQ_cons, valJ, valQ_some, valS_move, valS_load, valS_fieldAddr, valS_nilCheck, valS_len, tk3, sz45, ag45, Try.underlying45, Try.underlying47, hb1, hl2, w1]
        exact ⟨l.length - (i + 1), by omega, i + 1, tl, gl, _, dv5, fa, fb, by omega, rfl, by simp [ddsV], hB, by omega, by omega, by first | omega | (simp; omega)⟩
      · simp [ev_seq, ev_region2, evOps_nil, evOps_cons, opG_none, opA_move, opA_assign, opA_extract, opA_load, opA_fieldAddr, opA_call, opA_convert, putO_some, putH_lt, putC_lt, extractT, loadT, fieldAddrT, convT, opS, opV, Go.Mx.look, seqK, mapO, callA, extractA, partA, loadS, plusS, Try.underlying5, sz9, ag9, Try.underlying9, Try.underlying28, Try.underlying33, ok19]
        refine rsign_sp x.server _ x.text.data.toList _ (hB.ref s4) (bytesStr x.text) (by omega) hsl (fun hno => absurd hin hno) (fun _ H5 fb5 hr5 s5 n5 => ?_)
        replace hB := hB.step ht4 s4 hr5 s5 n5
        have hga := addT_len gl (x.server, tx x.text.data.toList)
        generalize addT gl (x.server, tx x.text.data.toList) = gl5 at hB hga
        clear ht4 s4 hr5 s5 n5
        simp [ev_seq, ev_region2, evOps_nil, evOps_cons, opG_none, opG_some, opJ, opU_ft, isU_bool, opK_eq, opA_move, opA_assign, opA_pick, opA_bin, opA_extract, opA_buildSlice, opA_append, putO_some, putH_lt, putC_lt, condB_true, binT_some, binA, avO_some, pickT, extractT, buildSliceT, appendT, io_eql, strOp, opS, opV, Go.Mx.look, seqK, Fr.known, mapO, extractA, cellsA_v, okPart_v, Value.oneCell', fillA, bindO, srcTy, orO_some, eqT_some, sz9, tk9, by9, ze9, st22, Try.underlying22, tk24]
        refine hB.app (by omega) (fun dv6 H6 hB6 => ?_)
        replace hB := hB6
        clear hB6
        simp [ev_seq, evOps_nil, evOps_cons, opG_none, opG_some, opJ, opU_ff, isU_bool, opK_eq, opA_move, opA_assign, opA_un, opA_load, opA_fieldAddr, opA_nilCheck, putO_some, putH_lt, putC_lt, condB_false, unT, loadT, nilCheckT, fieldAddrT, opS, opV, Go.Mx.look, seqK, blockK, Fr.known, unA, partA, loadA, loadS, plusS, nilCheckS, ev_draw, drawK, evP_q, opAt_some, sz22, ag22, Try.underlying47]
        have ⟨nv, lv, sv, hb1, hl1, hl2⟩ := hB.rows
        simp [opG_some, opJ, opU_ff, isU_bool, opK_eq, opA_len, opA_call, putO_some, putH_lt, condB_false, opS, opV, Go.Mx.look, Fr.known, mapO, callA, evP_q, evP_s, opAt_some, Try.underlying22, ok21, hb1, hl1]
        refine texts_sp _ hB.1 ?_
        simp [opG_none, opG_some, opJ, opU_ff, isU_bool, valU_false, opK_eq, opA_move, opA_pick, opA_bin, opA_load, opA_fieldAddr, opA_nilCheck, opA_len, opA_call, putO_some, putH_lt, putC_lt, condB_false, binT_some, binA, avO_some, pickT, loadT, nilCheckT, fieldAddrT, io_neq, opS, opV, Go.Mx.look, Fr.known, mapO, callA, partA, loadA, loadS, plusS, nilCheckS, orO_some, eqT_some, evP_q, evP_s, opAt_some, chkK_eq, sameV_some, sameO_some, allQ_nil, allQ_cons, valJ, valQ_some, valS_move, valS_load, valS_fieldAddr, valS_nilCheck, valS_len, tk3, sz22, ag22, Try.underlying22, sz45, ag45, Try.underlying45, Try.underlying47, ok15, hb1, hl1, hl2]
        refine tokens_sp _ hB.1 ?_
        simp [ev_skip, ev_cond2, ev_region2, evOps_nil, evOps_cons, opG_none, opG_some, opJ, opU_ff, isU_bool, valU_false, opK_eq, opA_move, opA_assign, opA_pick, opA_bin, putO_some, putH_lt, putC_lt, condB_false, binT_some, binA, avO_some, pickT, loadT, nilCheckT, fieldAddrT, io_add, io_neq, opS, opV, Go.Mx.look, seqK, blockK, Fr.known, mapO, partA, loadA, loadS, plusS, nilCheckS, headK, getV, getB, chkP, orO_some, eqT_some, evP_nil, evP_q, opAt_some, chkK_eq, sameV_some, sameO_some, allQ_nil, allQ_cons, valJ, valQ_some, valS_move, valS_load, valS_fieldAddr, valS_nilCheck, valS_len, tk3, sz45, ag45, Try.underlying45, Try.underlying47, hb1, hl2, w1]
        exact ⟨l.length - (i + 1), by omega, i + 1, tl, gl5, _, dv6, fa, fb5, by omega, rfl, by simp [ddsV], hB, by omega, by omega, by first | omega | (simp; omega)⟩
    by_cases k2 : x.kind = 2
    · simp [ev_seq, ev_cond2, ev_block, ev_region2, evOps_nil, evOps_cons, opG_none, opA_move, opA_assign, opA_bin, opA_load, opA_fieldAddr, opA_call, opA_alloc, opA_store, putO_some, putH_lt, putU_none, condB_true, condB_false, binT_some, binA, avO_some, loadT, fieldAddrT, allocT, storeT, io_eql, opS, opV, Go.Mx.look, seqK, Fr.known, Fr.newBox, dropBp, mapO, callA, cellsA_agg, okPart_agg, partA, loadA, loadS, plusS, newK, storeS, orO_some, eqT_some, sz3, ag3, tk3, sz33, ag33, ze33, Try.underlying33, ok14, hlt, hle, hsub, splice, k2]
      refine token_sp ⟨2, x.server, x.text, x.tok, x.n⟩ D dv _ _ _ hB.told (by omega) (fun tok => ?_)
      simp [evOps_nil, evOps_cons, opG_none, opA_move, opA_assign, opA_load, opA_fieldAddr, opA_call, opA_convert, putO_some, putH_lt, putC_lt, loadT, fieldAddrT, convT, opS, opV, Go.Mx.look, seqK, mapO, callA, partA, loadS, plusS, ev_draw, drawK, evP_q, evP_s, opAt_some, Try.underlying5, sz9, ag9, Try.underlying9, Try.underlying28, Try.underlying33, ok13]
      refine verify_sp x.server _ x.text.data.toList tok _ hB.1 (bytesStr x.text) (by omega) z1 z2 ?_
      simp [opG_none, opA_call, putC_lt, loadT, fieldAddrT, convC, opS, opV, Go.Mx.look, mapO, callA, partA, loadS, plusS, evP_s, opAt_some, chkK_eq, sameV_some, sameO_some, allQ_nil, allQ_cons, valQ_none, valS_move, valS_load, valS_fieldAddr, valS_convert, Try.underlying5, sz9, ag9, Try.underlying9, Try.underlying28, Try.underlying33, ok20]
      refine rverify_sp x.server _ x.text.data.toList tok _ hB.2.1 (bytesStr x.text) (by omega) ?_
      have ⟨nv, lv, sv, hb1, hl1, hl2⟩ := hB.rows
      simp [ev_seq, opG_none, opG_some, opJ, opU_ff, isU_bool, opK_eq, opA_move, opA_assign, opA_bin, opA_un, opA_load, opA_fieldAddr, opA_nilCheck, opA_len, opA_call, putO_some, putH_lt, putC_lt, condB_false, binT_some, binA, eqRef, avO_some, unT, loadT, nilCheckT, fieldAddrT, opS, opV, Go.Mx.look, seqK, blockK, Fr.known, mapO, unA, callA, partA, loadA, loadS, plusS, nilCheckS, orO_some, eqT_some, ev_draw, drawK, evP_nil, evP_q, evP_s, opAt_some, chkK_eq, allQ_nil, tk4, sz22, ag22, Try.underlying22, Try.underlying47, ok21, hb1, hl1]
      refine texts_sp _ hB.1 ?_
      simp [opG_none, opG_some, opJ, opU_ff, isU_bool, valU_false, opK_eq, opA_move, opA_pick, opA_bin, opA_load, opA_fieldAddr, opA_nilCheck, opA_len, opA_call, putO_some, putH_lt, putC_lt, condB_false, binT_some, binA, avO_some, pickT, loadT, nilCheckT, fieldAddrT, io_neq, opS, opV, Go.Mx.look, Fr.known, mapO, callA, partA, loadA, loadS, plusS, nilCheckS, orO_some, eqT_some, evP_q, evP_s, opAt_some, chkK_eq, sameV_some, sameO_some, allQ_nil, allQ_cons, valJ, valQ_some, valS_move, valS_load, valS_fieldAddr, valS_nilCheck, valS_len, tk3, sz22, ag22, Try.underlying22, sz45, ag45, Try.underlying45, Try.underlying47, ok15, hb1, hl1, hl2]
      refine tokens_sp _ hB.1 ?_
      simp [ev_skip, ev_cond2, ev_region2, evOps_nil, evOps_cons, opG_none, opG_some, opJ, opU_ff, isU_bool, valU_false, opK_eq, opA_move, opA_assign, opA_pick, opA_bin, putO_some, putH_lt, putC_lt, condB_false, binT_some, binA, avO_some, pickT, loadT, nilCheckT, fieldAddrT, io_add, io_neq, opS, opV, Go.Mx.look, seqK, blockK, Fr.known, mapO, partA, loadA, loadS, plusS, nilCheckS, headK, getV, getB, chkP, orO_some, eqT_some, evP_nil, evP_q, opAt_some, chkK_eq, sameV_some, sameO_some, allQ_nil, allQ_cons, valJ, valQ_some, valS_move, valS_load, valS_fieldAddr, valS_nilCheck, valS_len, tk3, sz45, ag45, Try.underlying45, Try.underlying47, hb1, hl2, w1]
      exact ⟨l.length - (i + 1), by omega, i + 1, tl, gl, D, dv, fa, fb, by omega, rfl, by simp [ddsV], hB, by omega, by omega, by first | omega | (simp; omega)⟩
    simp [ev_seq, ev_cond2, ev_block, ev_region2, evOps_nil, evOps_cons, opG_none, opG_some, opJ, opU_ff, isU_bool, opK_eq, opA_move, opA_assign, opA_bin, opA_un, opA_load, opA_fieldAddr, opA_nilCheck, opA_alloc, opA_store, putO_some, putH_lt, putU_none, condB_false, CondP_false, binT_some, binA, avO_some, unT, loadT, nilCheckT, fieldAddrT, allocT, storeT, io_eql, opS, opV, Go.Mx.look, seqK, blockK, Fr.known, Fr.newBox, dropBp, unA, cellsA_agg, okPart_agg, partA, loadA, loadS, plusS, nilCheckS, newK, storeS, orO_some, eqT_some, ev_draw, drawK, evP_q, opAt_some, sz3, ag3, tk3, sz22, ag22, sz33, ag33, ze33, Try.underlying33, Try.underlying47, hlt, hle, hsub, splice, k0, k1, k2]
    have ⟨nv, lv, sv, hb1, hl1, hl2⟩ := hB.rows
    simp [opG_some, opJ, opU_ff, isU_bool, opK_eq, opA_len, opA_call, putO_some, putH_lt, condB_false, opS, opV, Go.Mx.look, Fr.known, mapO, callA, evP_q, evP_s, opAt_some, Try.underlying22, ok21, hb1, hl1]
    refine texts_sp _ hB.1 ?_
    simp [opG_none, opG_some, opJ, opU_ff, isU_bool, valU_false, opK_eq, opA_move, opA_pick, opA_bin, opA_load, opA_fieldAddr, opA_nilCheck, opA_len, opA_call, putO_some, putH_lt, putC_lt, condB_false, binT_some, binA, avO_some, pickT, loadT, nilCheckT, fieldAddrT, io_neq, opS, opV, Go.Mx.look, Fr.known, mapO, callA, partA, loadA, loadS, plusS, nilCheckS, orO_some, eqT_some, evP_q, evP_s, opAt_some, chkK_eq, sameV_some, sameO_some, allQ_nil, allQ_cons, valJ, valQ_some, valS_move, valS_load, valS_fieldAddr, valS_nilCheck, valS_len, tk3, sz22, ag22, Try.underlying22, sz45, ag45, Try.underlying45, Try.underlying47, ok15, hb1, hl1, hl2]
    refine tokens_sp _ hB.1 ?_
    simp [ev_skip, ev_cond2, ev_region2, evOps_nil, evOps_cons, opG_none, opG_some, opJ, opU_ff, isU_bool, valU_false, opK_eq, opA_move, opA_assign, opA_pick, opA_bin, putO_some, putH_lt, putC_lt, condB_false, binT_some, binA, avO_some, pickT, loadT, nilCheckT, fieldAddrT, io_add, io_neq, opS, opV, Go.Mx.look, seqK, blockK, Fr.known, mapO, partA, loadA, loadS, plusS, nilCheckS, headK, getV, getB, chkP, orO_some, eqT_some, evP_nil, evP_q, opAt_some, chkK_eq, sameV_some, sameO_some, allQ_nil, allQ_cons, valJ, valQ_some, valS_move, valS_load, valS_fieldAddr, valS_nilCheck, valS_len, tk3, sz45, ag45, Try.underlying45, Try.underlying47, hb1, hl2, w1]
    exact ⟨l.length - (i + 1), by omega, i + 1, tl, gl, D, dv, fa, fb, by omega, rfl, by simp [ddsV], hB, by omega, by omega, by first | omega | (simp; omega)⟩
  · exact awake_sp _ _ (by simp [ev_ret, evOps_nil, evOps_cons, opG_none, opA_assign, putO_some, putH_lt, putC_lt, opS, opV, Go.Mx.look, seqK, retK, retA, resA, mapO])
end Go.Proofs.Ytdgdkgfkeinhbaa
