import Derived.Test.YtbdfhenelbakaaaK
namespace Go.Proofs.Ytbdfhenelbakaaa
open Go.Mx
set_option linter.unusedVariables false
set_option linter.unusedSimpArgs false

abbrev Ens2 := {p : List En × List En // (∀ e ∈ p.1, SzE e) ∧ (∀ e ∈ p.2, SzE e)}
theorem ens2_read {xs : List AV} (h : Shp Try.prog 37 xs) : ∃ p : Ens2, xs = [rowE p.1.1, rowE p.1.2] := by
  obtain ⟨ads, rfl, hp⟩ := shp_array Try.underlying37 h
  obtain ⟨a, e1, _, z1⟩ := shp_rows Try.underlying22 (fun _ ha => en_read ha) (hp 0 (by omega))
  obtain ⟨b, e2, _, z2⟩ := shp_rows Try.underlying22 (fun _ ha => en_read ha) (hp 1 (by omega))
  exact ⟨⟨(a, b), z1, z2⟩, by simp [List.range_succ, e1, e2, rowE]⟩
set_option maxRecDepth 20000 in
set_option maxHeartbeats 1000000 in
theorem joins_law (p q : Ens2) : Sp Try.prog 7 [.agg [rowE p.1.1, rowE p.1.2], .agg [rowE q.1.1, rowE q.1.2]] (fun v _ => v = .v (.bool true)) [] := by
  obtain ⟨⟨a, b⟩, za, zb⟩ := p
  obtain ⟨⟨c, d⟩, zc, zd⟩ := q
  simp only at za zb zc zd ⊢
  refine Sp.body [] ⟨[2, 3, 5, 6, 7], [], pl7⟩ tb7 mo Try.func7 rfl (Nat.le_of_ble_eq_true rfl) (by kernel_rfl) ?_
  simp [ev_seq, ev_region2, evOps_nil, evOps_cons, opG_none, opA_assign, opA_load, opA_indexAddr, opA_call, opA_box, opA_buildSlice, putO_some, putH_lt, loadT, indexAddrT, boxT, buildSliceT, opS, opV, Go.Mx.look, fr0, argSlots, seqK, Fr.newBox, dropBp, mapO, callA, cellsA_agg, cellsA_row, okPart_agg, okPart_row, partA, loadS, plusS, indexArrA, fillA, newK, bindO, sz22, ag22, ze22, Try.underlying37, Try.underlying39, ok8, pl7, rowE]
  refine few_sp [a, b, c, d] [] _ (by simp) (by simpa using ⟨za, zb, zc, zd⟩) (fun hf => ?_) (fun _ => by simp [ev_seq, ev_cond2, ev_ret, ev_region2, evOps_nil, evOps_cons, opG_none, opA_assign, opA_un, putO_some, putH_lt, putC_lt, condB_true, unT, opS, opV, Go.Mx.look, seqK, Fr.known, retK, retA, resA, mapO, unA])
  have ha := (hf a (by simp)).to
  have hb := (hf b (by simp)).to
  have hc := (hf c (by simp)).to
  have hd := (hf d (by simp)).to
  have la := sortE_len a
  have lb := sortE_len b
  have lc := sortE_len c
  have ld := sortE_len d
  have la2 := (hf a (by simp)).1
  have lb2 := (hf b (by simp)).1
  have lc2 := (hf c (by simp)).1
  have ld2 := (hf d (by simp)).1
  have nA := sort_nice a
  have nB := sort_nice b
  have nC := sort_nice c
  have nD := sort_nice d
  have fA := few_sort ha
  have fB := few_sort hb
  have fC := few_sort hc
  have fD := few_sort hd
  have j1 := apply_diff nA nB
  have j2 := apply_diff nB nC
  have j3 := apply_diff nC nD
  have s1 := List.length_filter_le (fun e => decide (e ∉ sortE a)) (sortE b)
  have s2 := List.length_filter_le (fun e => decide (e ∉ sortE b)) (sortE c)
  have s3 := List.length_filter_le (fun e => decide (e ∉ sortE c)) (sortE d)
  have s4 := List.length_filter_le (fun e => !(sortE b).any (fun x => decide (keyE x = keyE e))) (sortE a)
  have s5 := List.length_filter_le (fun e => !(sortE c).any (fun x => decide (keyE x = keyE e))) (sortE b)
  have s6 := List.length_filter_le (fun e => !(sortE d).any (fun x => decide (keyE x = keyE e))) (sortE c)
  simp [ev_skip, ev_seq, ev_cond2, evOps_nil, evOps_cons, opG_none, opA_un, opA_load, opA_indexAddr, opA_call, putO_some, putH_lt, putC_lt, condB_false, unT, loadT, indexAddrT, opS, opV, Go.Mx.look, seqK, Fr.known, mapO, unA, callA, partA, loadS, plusS, indexArrA, ev_draw, drawK, evP_q, evP_s, opAt_some, sz22, ag22, Try.underlying37, ok13]
  refine diff_sp a b [] _ ha hb ?_
  simp [opG_none, opA_call, putC_lt, loadT, indexAddrT, opS, opV, Go.Mx.look, mapO, callA, partA, loadS, plusS, indexArrA, evP_s, opAt_some, chkK_eq, sameV_some, sameO_some, allQ_nil, allQ_cons, valQ_none, valS_load, valS_indexAddr, sz22, ag22, Try.underlying37, ok13, delV]
  refine diff_sp b c [] _ hb hc ?_
  simp [opG_none, opA_call, putC_lt, loadT, indexAddrT, opS, opV, Go.Mx.look, mapO, callA, partA, loadS, plusS, indexArrA, evP_s, opAt_some, chkK_eq, sameV_some, sameO_some, allQ_nil, allQ_cons, valQ_none, valS_load, valS_indexAddr, sz22, ag22, Try.underlying37, ok13, delV]
  refine diff_sp c d [] _ hc hd ?_
  have n1 : Nice (setD (sortE a) (sortE b)) := nB.filter _
  have n2 : Nice (goneD (sortE a) (sortE b)) := nA.filter _
  have n3 : Nice (setD (sortE b) (sortE c)) := nC.filter _
  have n4 : Nice (goneD (sortE b) (sortE c)) := nB.filter _
  have n5 : Nice (setD (sortE c) (sortE d)) := nD.filter _
  have n6 : Nice (goneD (sortE c) (sortE d)) := nC.filter _
  have f1 : Few1 (setD (sortE a) (sortE b)) := few_setD fB
  have f2 : Few1 (goneD (sortE a) (sortE b)) := few_goneD fA
  have f3 : Few1 (setD (sortE b) (sortE c)) := few_setD fC
  have f4 : Few1 (goneD (sortE b) (sortE c)) := few_goneD fB
  have f5 : Few1 (setD (sortE c) (sortE d)) := few_setD fD
  have f6 : Few1 (goneD (sortE c) (sortE d)) := few_goneD fC
  have t1 : (setD (sortE a) (sortE b)).length ≤ 60 := by unfold setD; omega
  have t2 : (goneD (sortE a) (sortE b)).length ≤ 60 := by unfold goneD; omega
  have t3 : (setD (sortE b) (sortE c)).length ≤ 60 := by unfold setD; omega
  have t4 : (goneD (sortE b) (sortE c)).length ≤ 60 := by unfold goneD; omega
  have t5 : (setD (sortE c) (sortE d)).length ≤ 60 := by unfold setD; omega
  have t6 : (goneD (sortE c) (sortE d)).length ≤ 60 := by unfold goneD; omega
  clear s1 s2 s3 s4 s5 s6
  generalize setD (sortE a) (sortE b) = S1 at *
  generalize goneD (sortE a) (sortE b) = G1 at *
  generalize setD (sortE b) (sortE c) = S2 at *
  generalize goneD (sortE b) (sortE c) = G2 at *
  generalize setD (sortE c) (sortE d) = S3 at *
  generalize goneD (sortE c) (sortE d) = G3 at *
  have jl : ∀ dS dG eS eG : List En, (setJ dS eS eG).length ≤ dS.length + eS.length ∧ (goneJ dG eS eG).length ≤ dG.length + eG.length := fun dS dG eS eG => by
    have a1 := puts_len eS ((dS.filter (fun x => !hasK eS (keyE x) && !hasK eG (keyE x))).foldl putE [])
    have a2 := puts_len (dS.filter (fun x => !hasK eS (keyE x) && !hasK eG (keyE x))) []
    have a3 := List.length_filter_le (fun x => !hasK eS (keyE x) && !hasK eG (keyE x)) dS
    have b1 := puts_len (eG.filter (fun x => !hasK eS (keyE x) && !hasK (sortE dG) (keyE x))) ((dG.filter (fun x => !hasK eS (keyE x))).foldl putE [])
    have b2 := puts_len (dG.filter (fun x => !hasK eS (keyE x))) []
    have b3 := List.length_filter_le (fun x => !hasK eS (keyE x) && !hasK (sortE dG) (keyE x)) eG
    have b4 := List.length_filter_le (fun x => !hasK eS (keyE x)) dG
    simp only [List.length_nil] at a2 b2
    exact ⟨by unfold setJ; omega, by unfold goneJ; omega⟩
  have m1 := jl S1 G1 S2 G2
  have m2 := jl S2 G2 S3 G3
  have q1 := join_few f1 f2 f3 f4 (by omega) (by omega)
  have q2 := join_few q1.1 q1.2 f5 f6 (by omega) (by omega)
  have q3 := join_few f3 f4 f5 f6 (by omega) (by omega)
  have q4 := join_few f1 f2 q3.1 q3.2 (by omega) (by omega)
  have x1 := apply_join (L := sortE a) nA (setJ_nice S1 S2 G2) (goneJ_nice G1 S2 G2) n5 n6
  rw [apply_join nA n1 n2 n3 n4, j1, j2, j3] at x1
  have x2 := apply_join (L := sortE a) nA n1 n2 (setJ_nice S2 S3 G3) (goneJ_nice G2 S3 G3)
  rw [j1, apply_join nB n3 n4 n5 n6, j2, j3] at x2
  simp [ev_seq, opG_none, opA_load, opA_indexAddr, opA_call, opA_alloc, opA_store, putO_some, putH_lt, putC_lt, putU_none, loadT, indexAddrT, allocT, storeT, opS, opV, Go.Mx.look, seqK, Fr.newBox, dropBp, mapO, callA, cellsA_agg, okPart_agg, partA, loadS, plusS, indexArrA, newK, storeS, ev_draw, drawK, evP_nil, evP_q, evP_s, opAt_some, chkK_eq, sameV_some, sameO_some, allQ_nil, allQ_cons, valQ_none, valS_load, valS_indexAddr, sz22, ag22, sz28, ag28, ze28, Try.underlying37, ok17, delV, splice]
  refine join_sp _ _ _ _ [] _ f1 f2 f3 f4 ?_
  simp [opG_none, opA_call, putC_lt, loadT, indexAddrT, opS, opV, Go.Mx.look, mapO, callA, partA, loadS, plusS, indexArrA, evP_s, opAt_some, chkK_eq, sameV_some, sameO_some, allQ_nil, allQ_cons, valQ_none, valS_load, valS_indexAddr, sz22, ag22, sz28, ag28, Try.underlying37, ok17, delV]
  refine join_sp _ _ _ _ [] _ q1.1 q1.2 f5 f6 ?_
  simp [opG_none, opA_call, putC_lt, loadT, indexAddrT, opS, opV, Go.Mx.look, mapO, callA, partA, loadS, plusS, indexArrA, evP_s, opAt_some, chkK_eq, sameV_some, sameO_some, allQ_nil, allQ_cons, valQ_none, valS_load, valS_indexAddr, sz22, ag22, Try.underlying37, ok16, delV]
  refine apply_sp a _ _ [] _ ha q2.1 q2.2 ?_
  rw [x1]
  simp [ev_seq, opG_none, opA_assign, opA_load, opA_indexAddr, opA_call, putO_some, putH_lt, putC_lt, loadT, indexAddrT, opS, opV, Go.Mx.look, seqK, mapO, callA, partA, loadS, plusS, indexArrA, ev_draw, drawK, evP_nil, evP_q, evP_s, opAt_some, chkK_eq, allQ_nil, sz22, ag22, sz28, ag28, Try.underlying37, ok17]
  refine join_sp _ _ _ _ [] _ f3 f4 f5 f6 ?_
  simp [opG_none, opA_call, putC_lt, loadT, indexAddrT, opS, opV, Go.Mx.look, mapO, callA, partA, loadS, plusS, indexArrA, evP_s, opAt_some, chkK_eq, sameV_some, sameO_some, allQ_nil, allQ_cons, valQ_none, valS_load, valS_indexAddr, sz22, ag22, sz28, ag28, Try.underlying37, ok17, delV]
  refine join_sp _ _ _ _ [] _ f1 f2 q3.1 q3.2 ?_
  simp [opG_none, opA_call, putC_lt, loadT, indexAddrT, opS, opV, Go.Mx.look, mapO, callA, partA, loadS, plusS, indexArrA, evP_s, opAt_some, chkK_eq, sameV_some, sameO_some, allQ_nil, allQ_cons, valQ_none, valS_load, valS_indexAddr, sz22, ag22, Try.underlying37, ok16, delV]
  refine apply_sp a _ _ [] _ ha q4.1 q4.2 ?_
  rw [x2]
  simp [ev_seq, ev_region2, evOps_cons, opG_none, opA_move, opA_assign, opA_call, putO_some, putH_lt, putC_lt, opS, opV, Go.Mx.look, seqK, mapO, callA, evP_nil, evP_s, opAt_some, chkK_eq, allQ_nil, ok9]
  refine same_sp _ _ [] _ fD fD ?_
  simp [evOps_cons, opG_none, opG_some, opJ, opU_ft, isU_bool, opK_eq, opA_move, opA_load, opA_indexAddr, opA_call, putO_some, putH_lt, putC_lt, condB_true, loadT, indexAddrT, opS, opV, Go.Mx.look, Fr.known, mapO, callA, partA, loadS, plusS, indexArrA, sz22, ag22, Try.underlying37, ok10]
  refine sort_sp d [] _ hd ?_
  simp [evOps_cons, opG_some, opJ, opU_ft, isU_bool, opK_eq, opA_call, putC_lt, condB_true, opS, opV, Go.Mx.look, Fr.known, mapO, callA, ok9]
  refine same_sp _ _ [] _ fD fD ?_
  simp [evOps_cons, opG_none, opG_some, opJ, opU_ft, isU_bool, opK_eq, opA_move, opA_pick, opA_call, putO_some, putH_lt, putC_lt, condB_true, pickT, opS, opV, Go.Mx.look, Fr.known, mapO, callA, ok15]
  refine awake_sp _ _ ?_
  simp [ev_ret, evOps_nil, evOps_cons, opG_none, opA_assign, opA_pick, putO_some, putH_lt, putC_lt, pickT, opS, opV, Go.Mx.look, seqK, retK, retA, resA, mapO]

/-! ### ChangeSorts -/
def SoInv (l A : List En) (n : Nat) (xs : List AV) (H2 : Hp) : Prop :=
  ∃ i : Nat, i ≤ A.length ∧ n = A.length - i ∧ xs = [rowE l, rowE A, .v (.int .i64 i)] ∧ H2 = []
set_option maxRecDepth 20000 in
set_option maxHeartbeats 1000000 in
theorem sorts_law (a : Ens) : Sp Try.prog 5 [rowE a.1] (fun v _ => v = .v (.bool true)) [] := by
  obtain ⟨a, za⟩ := a
  simp only
  refine Sp.body [(5, ⟨[0, 3, 4], [], []⟩)] ⟨[], [], pl5⟩ tb5 mo Try.func5 rfl (Nat.le_of_ble_eq_true rfl) (by kernel_rfl) ?_
  simp [ev_seq, ev_region2, evOps_nil, evOps_cons, opG_none, opA_move, opA_assign, opA_call, opA_buildSlice, putO_some, putH_lt, buildSliceT, opS, opV, Go.Mx.look, fr0, argSlots, seqK, mapO, callA, cellsA_row, okPart_row, fillA, bindO, sz22, ze22, Try.underlying39, ok8, pl5, rowE]
  refine few_sp [a] [] _ (by simp) (by simpa using za) (fun hf => ?_) (fun _ => by simp [ev_seq, ev_cond2, ev_ret, ev_region2, evOps_nil, evOps_cons, opG_none, opA_assign, opA_un, putO_some, putH_lt, putC_lt, condB_true, unT, opS, opV, Go.Mx.look, seqK, Fr.known, retK, retA, resA, mapO, unA])
  have ha := (hf a (by simp)).to
  have nA := sort_nice a
  have fA := few_sort ha
  have e0 : sortE (sortE a) = sortE a := sort_self nA
  simp [ev_skip, ev_seq, ev_cond2, ev_region2, evOps_nil, evOps_cons, opG_none, opA_move, opA_un, opA_call, putO_some, putH_lt, putC_lt, condB_false, unT, opS, opV, Go.Mx.look, seqK, Fr.known, mapO, unA, callA, ok10]
  refine sort_sp a [] _ ha ?_
  have hA := fA.1
  generalize hsa : sortE a = A at *
  simp [ev_seq, ev_block, ev_region2, ev_loop, loopK, evOps_nil, evOps_cons, opG_none, opA_assign, putO_some, putH_lt, putC_lt, opS, opV, Go.Mx.look, seqK, mapO, headK, getV, getB, chkP, firstReg]
  refine LoopC.intro (fun n xs bs H2 => SoInv a A n xs H2) A.length ⟨0, by omega, by omega, by simp [rowE], rfl⟩ ?_
  rintro n xs bs H2 ⟨i, hi, rfl, rfl, rfl⟩
  have tl0 : ∀ s : ByteArray, (s.toList = []) = (s = noId) := fun s => by show _ = (s = tx []); rw [← tl_inj, tx_list]
  simp [ev_skip, ev_seq, ev_cond2, ev_block, ev_exit, ev_region2, evOps_nil, evOps_cons, opG_none, opA_move, opA_bin, opA_indexAddr, opA_len, opA_call, putO_some, putH_lt, binT_some, binA, avO_some, lenT_row, indexAddrT, io_lss, opS, opV, Go.Mx.look, seqK, blockK, Fr.known, mapO, callA, indexAddrA, mkFr, slotsOf, ptrsOf, boxesOf, orO_some, eqT_some, ev_draw, drawK, evP_q, opAt_some, tk3, Try.underlying22, sz32, ok10, rowE]
  refine ⟨fun hlt => ?_, fun hge => ?_⟩
  · have hx := List.getElem?_eq_getElem hlt
    generalize A[i] = e at hx
    have g0 := flat_get0 enC_len hx (by omega)
    have g1 := flat_get enC_len hx 1 (by omega)
    have g2 := flat_get enC_len hx 2 (by omega)
    simp [enC] at g0 g1 g2
    have hid := nA.2 e (List.mem_of_getElem? hx)
    have w1 : IntKind.i64.wrap ((i : Int) + 1) = (i : Int) + 1 := wr_i64 (by omega)
    have fin : ∃ m, m < A.length - i ∧ SoInv a A m [rowE a, rowE A, .v (.int .i64 (i + 1))] [] := ⟨A.length - (i + 1), by omega, i + 1, by omega, rfl, by simp, rfl⟩
    simp only [rowE] at fin
    by_cases hi0 : i = 0
    · subst hi0
      simp [ev_skip, ev_cond2, ev_region2, evOps_nil, evOps_cons, opG_none, opG_some, opJ, opU_true, opU_ft, opU_ff, isU_undef, isU_bool, opK_eq, opA_move, opA_assign, opA_pick, opA_bin, opA_load, opA_fieldAddr, putO_some, putH_lt, putV_lt, condB_false, CondP_false, binT_some, binA, avO_some, pickT, loadT, fieldAddrT, io_add, io_gtr, strOp, opS, opV, Go.Mx.look, seqK, blockK, Fr.known, mapO, partA, loadA, loadS, plusS, headK, getV, getB, chkP, orO_some, eqT_some, evP_nil, evP_q, opAt_some, tk3, sz9, ag9, tk9, Try.underlying32, hlt, g2, tl0, hid] at fin ⊢
      exact fin
    · obtain ⟨j, hj⟩ : ∃ j, i = j + 1 := ⟨i - 1, by omega⟩
      have hltj : j < A.length := by omega
      have hy := List.getElem?_eq_getElem hltj
      generalize A[j] = o at hy
      have k0 := flat_get0 enC_len hy (by omega)
      have k1 := flat_get enC_len hy 1 (by omega)
      simp [enC] at k0 k1
      have w2 : IntKind.i64.wrap ((i : Int) - 1) = (j : Int) := by rw [wr_i64 (by omega)]; omega
      have hpos : 0 < i := by omega
      have hah : aheadE o e = true := by
        have := List.pairwise_iff_getElem.1 nA.1 j i hltj hlt (by omega)
        rw [List.getElem?_eq_getElem hltj] at hy
        rw [List.getElem?_eq_getElem hlt] at hx
        simp at hx hy
        rw [hy, hx] at this
        exact this
      unfold aheadE at hah
      simp [ev_skip, ev_seq, ev_cond2, ev_ret, ev_region2, evOps_nil, evOps_cons, opG_none, opG_some, opJ, opU_true, opU_ft, opU_ff, isU_undef, isU_bool, opK_eq, opA_move, opA_assign, opA_pick, opA_bin, opA_load, opA_indexAddr, opA_fieldAddr, putO_some, putH_lt, putV_lt, condB_true, condB_false, CondP_false, binT_some, binA, avO_some, pickT, loadT, fieldAddrT, indexAddrT, io_add, io_sub, io_gtr, strOp, opS, opV, Go.Mx.look, seqK, blockK, Fr.known, retK, retA, resA, mapO, partA, loadA, loadS, plusS, indexAddrA, headK, getV, getB, chkP, orO_some, eqT_some, evP_nil, evP_q, opAt_some, tk3, sz9, ag9, tk9, Try.underlying22, sz32, Try.underlying32, hlt, hltj, g0, g1, g2, k0, k1, w1, w2, hpos, tl0, hid, Go.Proofs.bytesLess_eq, tl_inj]
      have hle : ∀ {x y : List UInt8}, x < y → x ≤ y := fun {x y} h => List.not_lt.1 (fun h2 => List.lt_irrefl _ (List.lt_trans h h2))
      by_cases e4 : o.ty = e.ty
      · rw [if_pos e4] at hah
        have hk : o.ky.toList < e.ky.toList := of_decide_eq_true hah
        have hne : ¬ e.ky = o.ky := fun e5 => by rw [e5] at hk; exact List.lt_irrefl _ hk
        refine ⟨by rw [e4]; exact List.not_lt.1 (List.lt_irrefl _), fun _ => ⟨fun _ => ⟨⟨hle hk, hne⟩, fun _ _ => by simpa using fin⟩, fun h5 => absurd e4.symm h5⟩⟩
      · rw [if_neg e4] at hah
        have hk : o.ty.toList < e.ty.toList := of_decide_eq_true hah
        exact ⟨hle hk, fun _ => ⟨fun h5 => absurd h5.symm e4, fun _ => by simpa using fin⟩⟩
  · have : i = A.length := by omega
    subst this
    simp
    refine sort_sp A [] _ fA ?_
    rw [e0]
    simp [evOps_cons, opG_none, opA_move, opA_call, putO_some, putH_lt, putC_lt, opS, opV, Go.Mx.look, mapO, callA, ok9, rowE]
    refine same_sp A A [] _ fA fA ?_
    simp [evOps_cons, opG_none, opG_some, opJ, opU_ft, isU_bool, opK_eq, opA_move, opA_call, opA_build, putO_some, putH_lt, putC_lt, condB_true, buildZ, partsZ, fillO, aggO, opS, opV, Go.Mx.look, Fr.known, mapO, callA, fillA, ze28, of28, ok16]
    refine Sp.argW (args' := [rowE a, delV [] []]) ⟨Wk.refl _, Wk.agg ⟨Wk.nil _, Wk.nil _, trivial⟩, trivial⟩ ?_
    refine apply_sp a [] [] [] _ ha few_0 few_0 ?_
    have e3 : applyE (sortE a) [] [] = A := by rw [hsa]; rfl
    rw [e3]
    simp [evOps_cons, opG_some, opJ, opU_ft, isU_bool, opK_eq, opA_move, opA_call, putO_some, putH_lt, putC_lt, condB_true, opS, opV, Go.Mx.look, Fr.known, mapO, callA, ok9, rowE]
    refine same_sp A A [] _ fA fA ?_
    simp [evOps_cons, opG_none, opG_some, opJ, opU_ft, isU_bool, opK_eq, opA_move, opA_pick, opA_call, putO_some, putH_lt, putC_lt, condB_true, pickT, opS, opV, Go.Mx.look, Fr.known, mapO, callA, ok15]
    refine awake_sp _ _ ?_
    simp [ev_ret, evOps_nil, evOps_cons, opG_none, opA_assign, opA_pick, putO_some, putH_lt, putC_lt, pickT, opS, opV, Go.Mx.look, seqK, retK, retA, resA, mapO]

/-! ### ChangeBack -/
def BaInv (A B S G : List En) (a b : List En) (n : Nat) (xs : List AV) (bs : List (List AV)) (H2 : Hp) : Prop :=
  ∃ i : Nat, i ≤ A.length ∧ n = A.length - i ∧ xs = [rowE a, rowE b, rowE A, rowE B, .v (.int .i64 i)] ∧ bs = [[rowE S, rowE G]] ∧ H2 = []
def BaInv1 (A B S G : List En) (a b : List En) (i : Nat) (n : Nat) (xs : List AV) (bs : List (List AV)) (H2 : Hp) : Prop :=
  ∃ k : Nat, k ≤ S.length ∧ n = S.length - k ∧ xs = [rowE a, rowE b, rowE A, rowE B, .v (.int .i64 i), .v (.int .i64 k)] ∧ bs = [[rowE S, rowE G]] ∧ H2 = []
def BaInv2 (A B S G : List En) (a b : List En) (i : Nat) (n : Nat) (xs : List AV) (bs : List (List AV)) (H2 : Hp) : Prop :=
  ∃ k : Nat, k ≤ G.length ∧ n = G.length - k ∧ xs = [rowE a, rowE b, rowE A, rowE B, .v (.int .i64 i), .v (.int .i64 k)] ∧ bs = [[rowE S, rowE G]] ∧ H2 = []
def BaInv3 (A B S G : List En) (a b : List En) (i k : Nat) (n : Nat) (xs : List AV) (bs : List (List AV)) (H2 : Hp) : Prop :=
  ∃ m : Nat, m ≤ B.length ∧ n = B.length - m ∧ xs = [rowE a, rowE b, rowE A, rowE B, .v (.int .i64 i), .v (.int .i64 k), .v (.int .i64 m)] ∧ bs = [[rowE S, rowE G]] ∧ H2 = []
theorem setD_self (A : List En) : setD A A = [] := by
  unfold setD; rw [List.filter_eq_nil_iff]; intro e he; simp [he]
theorem goneD_self (A : List En) : goneD A A = [] := by
  unfold goneD; rw [List.filter_eq_nil_iff]; intro e he
  have : A.any (fun x => decide (keyE x = keyE e)) = true := List.any_eq_true.2 ⟨e, he, by simp⟩
  simp [this]
set_option maxRecDepth 20000 in
set_option maxHeartbeats 2000000 in
theorem back_law (a b : Ens) : Sp Try.prog 4 [rowE a.1, rowE b.1] (fun v _ => v = .v (.bool true)) [] := by
  obtain ⟨a, za⟩ := a
  obtain ⟨b, zb⟩ := b
  simp only
  refine Sp.body [(6, ⟨[0, 1, 6, 7, 8], [(5, 5, 0)], [5]⟩), (9, ⟨[0, 1, 6, 7, 8, 9], [(5, 5, 0)], [5]⟩), (14, ⟨[0, 1, 6, 7, 8, 10], [(5, 5, 0)], [5]⟩), (17, ⟨[0, 1, 6, 7, 8, 10, 11], [(5, 5, 0)], [5]⟩)] ⟨[5, 12], [], pl4⟩ tb4 mo Try.func4 rfl (Nat.le_of_ble_eq_true rfl) (by kernel_rfl) ?_
  simp [ev_seq, ev_region2, evOps_nil, evOps_cons, opG_none, opA_move, opA_assign, opA_call, opA_buildSlice, putO_some, putH_lt, buildSliceT, opS, opV, Go.Mx.look, fr0, argSlots, seqK, mapO, callA, cellsA_row, okPart_row, fillA, bindO, sz22, ze22, Try.underlying39, ok8, pl4, rowE]
  refine few_sp [a, b] [] _ (by simp) (by simpa using ⟨za, zb⟩) (fun hf => ?_) (fun _ => by simp [ev_seq, ev_cond2, ev_ret, ev_region2, evOps_nil, evOps_cons, opG_none, opA_assign, opA_un, putO_some, putH_lt, putC_lt, condB_true, unT, opS, opV, Go.Mx.look, seqK, Fr.known, retK, retA, resA, mapO, unA])
  have ha := (hf a (by simp)).to
  have hb := (hf b (by simp)).to
  have nA := sort_nice a
  have nB := sort_nice b
  have fA := few_sort ha
  have fB := few_sort hb
  have j1 := apply_diff nA nB
  have s1 : (setD (sortE a) (sortE b)).length ≤ (sortE b).length := List.length_filter_le _ _
  have s2 : (goneD (sortE a) (sortE b)).length ≤ (sortE a).length := List.length_filter_le _ _
  have o1 : ∀ e ∈ setD (sortE a) (sortE b), e ∉ sortE a := fun e he => by simpa using (List.mem_filter.1 he).2
  have o2 : ∀ e ∈ goneD (sortE a) (sortE b), ∀ x ∈ sortE b, keyE x ≠ keyE e := fun e he x hx h => by
    have := (List.mem_filter.1 he).2
    have h2 : (sortE b).any (fun x => decide (keyE x = keyE e)) = true := List.any_eq_true.2 ⟨x, hx, by simpa using h⟩
    rw [h2] at this; simp at this
  have fS : Few1 (setD (sortE a) (sortE b)) := few_setD fB
  have fG : Few1 (goneD (sortE a) (sortE b)) := few_goneD fA
  simp [ev_skip, ev_seq, ev_cond2, ev_region2, evOps_nil, evOps_cons, opG_none, opA_move, opA_un, opA_call, putO_some, putH_lt, putC_lt, condB_false, unT, opS, opV, Go.Mx.look, seqK, Fr.known, mapO, unA, callA, ok13]
  refine diff_sp a b [] _ ha hb ?_
  generalize setD (sortE a) (sortE b) = S at *
  generalize goneD (sortE a) (sortE b) = G at *
  simp [ev_seq, ev_region2, evOps_nil, evOps_cons, opG_none, opA_move, opA_call, opA_alloc, opA_store, putO_some, putH_lt, putC_lt, putU_none, allocT, storeT, opS, opV, Go.Mx.look, seqK, Fr.newBox, dropBp, mapO, callA, cellsA_agg, okPart_agg, newK, storeS, sz28, ze28, ok10, delV, splice]
  refine sort_sp a [] _ ha ?_
  simp [evOps_cons, opG_none, opA_move, opA_call, putO_some, putH_lt, putC_lt, opS, opV, Go.Mx.look, mapO, callA, ok10]
  refine sort_sp b [] _ hb ?_
  generalize hsa : sortE a = A at *
  generalize hsb : sortE b = B at *
  have hA := fA.1
  have hB := fB.1
  have hS := fS.1
  have hG := fG.1
  simp [ev_seq, ev_block, ev_region2, ev_loop, loopK, evOps_nil, evOps_cons, opG_none, opA_assign, putO_some, putH_lt, putC_lt, opS, opV, Go.Mx.look, seqK, mapO, headK, getV, getB, chkP, firstReg]
  refine LoopC.intro (fun n xs bs H2 => BaInv A B S G a b n xs bs H2) A.length ⟨0, by omega, by omega, by simp [rowE], by simp, rfl⟩ ?_
  rintro n xs bs H2 ⟨i, hi, rfl, rfl, rfl, rfl⟩
  simp [ev_skip, ev_seq, ev_cond2, ev_block, ev_exit, ev_region2, ev_loop, loopK, evOps_nil, evOps_cons, opG_none, opA_move, opA_assign, opA_bin, opA_len, opA_call, putO_some, putH_lt, binT_some, binA, avO_some, lenT_row, io_lss, opS, opV, Go.Mx.look, seqK, blockK, Fr.known, mapO, callA, headK, getV, getB, chkP, mkFr, slotsOf, ptrsOf, boxesOf, firstReg, orO_some, eqT_some, tk3, Try.underlying22, ok13, rowE]
  refine ⟨fun hlt => ?_, fun hge => ?_⟩
  · have hx := List.getElem?_eq_getElem hlt
    generalize A[i] = e at hx
    have hsl := flat_sub enC_len A i hx
    have hle : i * 3 + 3 ≤ (List.map (fun a : En => 3) A).sum := flat_le2 enC_len hx
    have w1 : IntKind.i64.wrap ((i : Int) + 1) = (i : Int) + 1 := wr_i64 (by omega)
    have hem := List.mem_of_getElem? hx
    refine LoopC.intro (fun n xs bs H2 => BaInv1 A B S G a b i n xs bs H2) S.length ⟨0, by omega, by omega, by simp [rowE], by simp [rowE], rfl⟩ ?_
    rintro n xs bs H2 ⟨k, hk, rfl, rfl, rfl, rfl⟩
    simp [ev_skip, ev_seq, ev_cond2, ev_block, ev_exit, ev_region2, ev_loop, loopK, evOps_nil, evOps_cons, opG_none, opA_move, opA_assign, opA_bin, opA_load, opA_indexAddr, opA_fieldAddr, opA_len, putO_some, putH_lt, binT_some, binA, avO_some, loadT, lenT_row, fieldAddrT, indexAddrT, io_lss, opS, opV, Go.Mx.look, seqK, blockK, Fr.known, mapO, partA, loadS, plusS, indexAddrA, headK, getV, getB, chkP, mkFr, slotsOf, ptrsOf, boxesOf, firstReg, orO_some, eqT_some, ev_draw, drawK, evP_q, opAt_some, tk3, sz22, ag22, Try.underlying22, Try.underlying28, sz32, rowE]
    refine ⟨fun hlt2 => ?_, fun hge2 => ?_⟩
    · have hy := List.getElem?_eq_getElem hlt2
      generalize S[k] = s at hy
      have hsl2 := flat_sub enC_len S k hy
      have hle2 : k * 3 + 3 ≤ (List.map (fun a : En => 3) S).sum := flat_le2 enC_len hy
      have w2 : IntKind.i64.wrap ((k : Int) + 1) = (k : Int) + 1 := wr_i64 (by omega)
      have hsm := List.mem_of_getElem? hy
      have he := eq32 (fS.2 s hsm) (fA.2 e hem)
      have hne : s ≠ e := fun e5 => o1 s hsm (by rw [e5]; exact hem)
      rw [decide_eq_false hne] at he
      simp only [enC] at he
      simp [ev_skip, ev_cond2, ev_region2, evOps_nil, evOps_cons, opG_none, opA_move, opA_assign, opA_bin, opA_load, opA_indexAddr, putO_some, putH_lt, condB_false, binT_some, binA, eqRef, avO_some, avO_none, loadT, indexAddrT, io_add, opS, opV, Go.Mx.look, seqK, blockK, Fr.known, mapO, partA, loadA, loadS, indexAddrA, headK, getV, getB, chkP, orO_some, orO_none, eqT_some, evP_nil, evP_q, opAt_some, tk3, Try.underlying22, sz32, ag32, tk32, hlt, hlt2, hsl, hsl2, hle, hle2, enC, he, w2]
      exact ⟨S.length - (k + 1), by omega, k + 1, by omega, rfl, by simp [rowE], rfl, rfl⟩
    · refine LoopC.intro (fun n xs bs H2 => BaInv2 A B S G a b i n xs bs H2) G.length ⟨0, by omega, by omega, by simp [rowE], by simp [rowE], rfl⟩ ?_
      clear hge2 hk k
      rintro n xs bs H2 ⟨k, hk, rfl, rfl, rfl, rfl⟩
      simp [ev_skip, ev_seq, ev_cond2, ev_block, ev_exit, ev_region2, ev_loop, loopK, evOps_nil, evOps_cons, opG_none, opA_move, opA_assign, opA_bin, opA_load, opA_fieldAddr, opA_len, putO_some, putH_lt, binT_some, binA, avO_some, loadT, lenT_row, fieldAddrT, io_add, io_lss, opS, opV, Go.Mx.look, seqK, blockK, Fr.known, mapO, partA, loadS, plusS, headK, getV, getB, chkP, mkFr, slotsOf, ptrsOf, boxesOf, firstReg, orO_some, eqT_some, tk3, sz22, ag22, Try.underlying22, Try.underlying28, rowE]
      refine ⟨fun hlt2 => ?_, fun hge2 => ?_⟩
      · have hy := List.getElem?_eq_getElem hlt2
        generalize hgk : G[k] = g at hy
        have w2 : IntKind.i64.wrap ((k : Int) + 1) = (k : Int) + 1 := wr_i64 (by omega)
        have g0 := flat_get0 enC_len hy (by omega)
        have g1 := flat_get enC_len hy 1 (by omega)
        simp [enC] at g0 g1
        have hgm := List.mem_of_getElem? hy
        refine LoopC.intro (fun n xs bs H2 => BaInv3 A B S G a b i k n xs bs H2) B.length ⟨0, by omega, by omega, by simp [rowE], by simp [rowE], rfl⟩ ?_
        rintro n xs bs H2 ⟨m, hm, rfl, rfl, rfl, rfl⟩
        simp [ev_skip, ev_seq, ev_cond2, ev_block, ev_exit, ev_region2, evOps_nil, evOps_cons, opG_none, opA_move, opA_assign, opA_bin, opA_load, opA_indexAddr, opA_fieldAddr, opA_len, putO_some, putH_lt, binT_some, binA, avO_some, loadT, lenT_row, fieldAddrT, indexAddrT, io_add, io_lss, opS, opV, Go.Mx.look, seqK, blockK, Fr.known, mapO, partA, loadS, plusS, indexAddrA, headK, getV, getB, chkP, mkFr, slotsOf, ptrsOf, boxesOf, orO_some, eqT_some, ev_draw, drawK, evP_q, opAt_some, tk3, sz22, ag22, Try.underlying22, Try.underlying28, sz32, rowE]
        refine ⟨fun hlt3 => ?_, fun hge3 => ?_⟩
        · have hz := List.getElem?_eq_getElem hlt3
          generalize B[m] = x at hz
          have w3 : IntKind.i64.wrap ((m : Int) + 1) = (m : Int) + 1 := wr_i64 (by omega)
          have k0 := flat_get0 enC_len hz (by omega)
          have k1 := flat_get enC_len hz 1 (by omega)
          simp [enC] at k0 k1
          have hne := o2 g hgm x (List.mem_of_getElem? hz)
          have fin : ∃ n, n < B.length - m ∧ BaInv3 A B S G a b i k n [rowE a, rowE b, rowE A, rowE B, .v (.int .i64 i), .v (.int .i64 k), .v (.int .i64 (m + 1))] [[rowE S, rowE G]] [] := ⟨B.length - (m + 1), by omega, m + 1, by omega, rfl, by simp, rfl, rfl⟩
          simp only [rowE] at fin
          simp [ev_skip, ev_seq, ev_cond2, ev_ret, ev_region2, evOps_nil, evOps_cons, opG_none, opG_some, opJ, opU_ft, isU_bool, opK_eq, opA_move, opA_assign, opA_pick, opA_bin, opA_load, opA_indexAddr, opA_fieldAddr, putO_some, putH_lt, putV_lt, condB_true, condB_false, binT_some, binA, avO_some, pickT, loadT, fieldAddrT, indexAddrT, io_add, strOp, opS, opV, Go.Mx.look, seqK, blockK, Fr.known, retK, retA, resA, mapO, partA, loadA, loadS, plusS, indexAddrA, headK, getV, getB, chkP, orO_some, eqT_some, evP_nil, evP_q, opAt_some, tk3, sz9, ag9, tk9, sz22, ag22, Try.underlying22, Try.underlying28, sz32, Try.underlying32, hlt2, hlt3, g0, g1, k0, k1, w3, tl_inj]
          by_cases e5 : g.ty = x.ty
          · have e6 : g.ky ≠ x.ky := fun e6 => hne (by simp [keyE, e5, e6])
            simp [e5, e6]
            exact fin
          · simp [e5]
            exact fin
        · simp [w2]
          exact ⟨G.length - (k + 1), by omega, k + 1, by omega, rfl, by simp [rowE], rfl, rfl⟩
      · simp [w1]
        exact ⟨A.length - (i + 1), by omega, i + 1, by omega, rfl, by simp [rowE], rfl, rfl⟩
  · refine diff_sp a a [] _ ha ha ?_
    rw [hsa, setD_self, goneD_self]
    simp [ev_seq, ev_region2, evOps_nil, evOps_cons, opG_none, opA_move, opA_load, opA_call, opA_alloc, opA_store, putO_some, putH_lt, putC_lt, putU_none, loadT, allocT, storeT, opS, opV, Go.Mx.look, seqK, Fr.newBox, dropBp, mapO, callA, cellsA_agg, okPart_agg, partA, loadS, newK, storeS, sz28, ag28, ze28, ok16, delV, rowE, splice]
    refine apply_sp a S G [] _ ha fS fG ?_
    rw [hsa, j1]
    simp [evOps_cons, opG_none, opA_move, opA_call, putO_some, putH_lt, putC_lt, opS, opV, Go.Mx.look, mapO, callA, ok9, rowE]
    refine same_sp B B [] _ fB fB ?_
    have w5 : IntKind.i64.wrap ((S.length : Int) + G.length) = (S.length : Int) + G.length := wr_i64 (by omega)
    have w6 : IntKind.i64.wrap ((A.length : Int) + B.length) = (A.length : Int) + B.length := wr_i64 (by omega)
    have w7 : IntKind.i64.wrap 0 = 0 := wr_i64 (by omega)
    simp [ev_ret, evOps_nil, evOps_cons, opG_none, opG_some, opJ, opU_ft, isU_bool, opK_eq, opA_move, opA_assign, opA_pick, opA_bin, opA_load, opA_fieldAddr, opA_len, opA_call, putO_some, putH_lt, putC_lt, putV_lt, condB_true, binT_some, binA, avO_some, pickT, loadT, lenT_row, fieldAddrT, io_add, io_eql, io_leq, opS, opV, Go.Mx.look, seqK, Fr.known, retK, retA, resA, mapO, callA, partA, loadS, plusS, orO_some, eqT_some, tk3, sz22, ag22, Try.underlying22, Try.underlying28, ok15, w5, w6, w7]
    refine ⟨fun _ => ?_, by omega⟩
    refine awake_sp _ _ ?_
    simp [ev_ret, evOps_nil, evOps_cons, opG_none, opA_assign, opA_pick, putO_some, putH_lt, putC_lt, pickT, opS, opV, Go.Mx.look, seqK, retK, retA, resA, mapO]
end Go.Proofs.Ytbdfhenelbakaaa
