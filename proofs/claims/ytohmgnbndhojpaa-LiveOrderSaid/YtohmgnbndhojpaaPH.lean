import Derived.Test.YtohmgnbndhojpaaPB
import Derived.Test.YtohmgnbndhojpaaMxSb
namespace Go.Proofs.Ytohmgnbndhojpaa
open Go.Mx
set_option linter.unusedVariables false
set_option linter.unusedSimpArgs false

theorem NewK.cells' {k n : Nat} {H0 H : Hp} {cs : List AV} {v : AV} (h : NewK k H0 H n cs v) : cellsA v = [v] ∧ okPart v = true := by
  rcases h with ⟨_, _, rfl⟩ | ⟨_, _, id, ver, tl, rfl, _⟩ <;> exact ⟨rfl, rfl⟩
def slId : AV → List Nat
  | .sl id _ _ _ _ => [id]
  | _ => []
/-- The document's board. -/
def RfAt (H : Hp) (b : Nat) (L : List Sg) (fp : List Nat) : Prop := OkL L ∧ ∃ v, H[b]? = some (.cells 0 [v]) ∧ NewK 4 [] H L.length (L.flatMap sgC) v ∧ fp = b :: slId v
theorem RfAt.same {H H' : Hp} {b : Nat} {L : List Sg} {fp fp' : List Nat} (h : RfAt H b L fp) (hs : Same fp' H H') (hd : ∀ j ∈ fp, j ∉ fp') : RfAt H' b L fp := by
  obtain ⟨h0, v, h1, h2, rfl⟩ := h
  exact ⟨h0, v, hs.2 _ _ h1 (hd _ (by simp)), h2.same hs (fun id ver e => hd _ (by rw [e]; simp [slId])), rfl⟩
theorem RfAt.lt {H : Hp} {b : Nat} {L : List Sg} {fp : List Nat} (h : RfAt H b L fp) : ∀ j ∈ fp, j < H.length := by
  obtain ⟨h0, v, h1, h2, rfl⟩ := h
  intro j hj
  rcases List.mem_cons.1 hj with rfl | hj
  · exact Hp.lt h1
  · rcases h2 with ⟨_, _, rfl⟩ | ⟨_, _, id, ver, tl, rfl, h3, _⟩
    · simp [slId] at hj
    · simp [slId] at hj; subst hj; exact Hp.lt h3
theorem appA_mono2 {H : Hp} {sz bytes : Nat} {d s : AV} {k k' : AV → Hp → Prop} (h : appA H sz bytes d s k) (hk : ∀ v H', k v H' → k' v H') : appA H sz bytes d s k' := appA_mono hk h
def RpInv (H : Hp) (b : Nat) (L : List Sg) (s : Sg) (n : Nat) (xs : List AV) (bs : List (List AV)) (H2 : Hp) : Prop :=
  ∃ (i : Nat) (O : List Sg) (v : AV) (d : Bool), i ≤ L.length ∧ n = L.length - i ∧ xs = [.ptr b 0 0, v, .v (.bool d), .v (.int .i64 i)] ∧ bs = [sgC s] ∧ NewK 4 H H2 O.length (O.flatMap sgC) v ∧ Same [] H H2 ∧
    O ++ insG s d (L.drop i) = insG s false L ∧ (L.take i).any (fun o => likeS s o && !countsS s o) = false
set_option maxRecDepth 20000 in
set_option maxHeartbeats 2000000 in
theorem rput_sp (b : Nat) (L : List Sg) (fp : List Nat) (s : Sg) (H : Hp) (Q : AV → Hp → Prop) (hd : RfAt H b L fp) (hz : s.user.size ≤ 100) (hL : L.length ≤ 1000)
    (h1 : rightS s = false → Q (.tup [.v (.bool false), .v (.int .i64 1)]) H)
    (h0 : rightS s = true → ∀ H' fp', RfAt H' b (putL L s) fp' → Same fp H H' → (∀ j ∈ fp', j ∈ fp ∨ H.length ≤ j) → Q (.tup [.v (.bool (!oldS L s)), .v (.int .i64 0)]) H') : Sp Try.prog 21 [.ptr b 0 0, .agg (sgC s)] Q H := by
  refine Sp.body [(6, ⟨[0, 6, 7, 8], [(3, 3, 0)], [3]⟩)] ⟨[3, 9], [], []⟩ [] mo Try.func21 rfl (Nat.le_of_ble_eq_true rfl) (by kernel_rfl) ?_
  simp [ev_seq, ev_region2, evOps_nil, evOps_cons, opG_none, opA_assign, opA_load, opA_call, opA_box, putO_some, putH_lt, loadT, boxT, opS, opV, Go.Mx.look, fr0, argSlots, seqK, Fr.newBox, dropBp, mapO, callA, cellsA_agg, okPart_agg, partA, loadS, newK, sz29, ag29, ok16, sgC]
  refine rright_sp s H _ (by omega) ?_
  cases hr : rightS s with
  | false => simp [ev_seq, ev_cond2, ev_ret, ev_region2, evOps_nil, evOps_cons, opG_none, opA_assign, opA_un, putO_some, putH_lt, putC_lt, condB_true, unT, opS, opV, Go.Mx.look, seqK, Fr.known, retK, retA, resA, mapO, unA]; exact h1 hr
  | true =>
  simp [ev_skip, ev_seq, ev_cond2, ev_block, ev_region2, ev_loop, loopK, evOps_nil, evOps_cons, opG_none, opA_assign, opA_un, putO_some, putH_lt, putC_lt, condB_false, unT, opS, opV, Go.Mx.look, seqK, Fr.known, mapO, unA, headK, getV, getB, chkP, firstReg]
  refine LoopC.intro (fun n xs bs H2 => RpInv H b L s n xs bs H2) L.length ⟨0, [], _, false, by omega, by omega, by simp, by simp [sgC], NewK.nil _ _ _, Same.refl _ _, by simp, by simp⟩ ?_
  rintro n xs bs H2 ⟨i, O, v, d, hi, rfl, rfl, rfl, hv, hs, hO, hno⟩
  obtain ⟨hok, bv, g1, g2, rfl⟩ := id hd
  have g1' := hs.2 _ _ g1 (by simp)
  have g2' := g2.same hs (by simp)
  have hlen := g2'.lenT
  have hOl : O.length ≤ 1001 := by
    have h2 := congrArg List.length hO
    have h3 := ins_len s false L
    rw [List.length_append] at h2; omega
  have step : ∀ (O' : List Sg) (v' : AV) (d' : Bool) (H3 : Hp) (j : Nat), i < j → j ≤ L.length → NewK 4 H H3 O'.length (O'.flatMap sgC) v' → Same [] H H3 → O' ++ insG s d' (L.drop j) = insG s false L → (L.take j).any (fun o => likeS s o && !countsS s o) = false →
      ∃ m, m < L.length - i ∧ RpInv H b L s m [.ptr b 0 0, v', .v (.bool d'), .v (.int .i64 j)] [sgC s] H3 := fun O' v' d' H3 j h2 h3 h4 h5 h6 h7 => ⟨L.length - j, by omega, j, O', v', d', h3, rfl, rfl, rfl, h4, h5, h6, h7⟩
  simp only [sgC] at step
  have fin : ∀ (O' : List Sg) (v' : AV) (H3 : Hp), NewK 4 H H3 O'.length (O'.flatMap sgC) v' → Same [] H H3 → O' = insG s false L → oldS L s = false → ∀ H4, H4 = H3.set b (.cells 0 [v']) → Q (.tup [.v (.bool true), .v (.int .i64 0)]) H4 := by
    rintro O' v' H3 h4 h5 rfl ho H4 rfl
    have hput : putL L s = insG s false L := by unfold putL; rw [ho]; rfl
    have hlt := Hp.lt g1
    have hs3 : Same [b] H3 (H3.set b (.cells 0 [v'])) := Same.set (by simp)
    have hnk : NewK 4 [] (H3.set b (.cells 0 [v'])) (insG s false L).length ((insG s false L).flatMap sgC) v' := by
      rcases h4 with h4 | ⟨k0, k1, id, ver, tl, k2, k3, k4⟩
      · exact .inl h4
      · exact .inr ⟨k0, k1, id, ver, tl, k2, hs3.2 _ _ k3 (by simp; omega), by simp⟩
    have := h0 hr (H3.set b (.cells 0 [v'])) (b :: slId v') ⟨⟨hok.1.put s, fun x hx => ?_⟩, v', ?_, by rw [hput]; exact hnk, rfl⟩ ?_ (fun j hj => ?_)
    · rw [ho] at this; exact this
    · rw [hput] at hx
      rcases (mem_ins s x L).1 hx with rfl | ⟨hx, _⟩
      · exact ⟨hr, hz⟩
      · exact hok.2 x hx
    · rw [List.getElem?_set_self (by have := h5.1; omega)]
    · exact (h5.wide (by simp)).trans hs3 (by simp)
    · rcases List.mem_cons.1 hj with rfl | hj
      · exact .inl (by simp)
      · rcases h4 with ⟨_, _, rfl⟩ | ⟨_, _, id, ver, tl, rfl, _, k4⟩
        · simp [slId] at hj
        · simp [slId] at hj; subst hj; exact .inr k4
  simp [ev_skip, ev_seq, ev_cond2, ev_block, ev_exit, ev_ret, ev_region2, evOps_nil, evOps_cons, opG_none, opA_move, opA_assign, opA_bin, opA_un, opA_load, opA_indexAddr, opA_fieldAddr, opA_nilCheck, opA_len, opA_store, opA_buildSlice, opA_append, putO_some, putH_lt, putU_none, binT_some, binA, avO_some, unT, loadT, nilCheckT, fieldAddrT, indexAddrT, storeT, buildSliceT, appendT, repeatL_1, io_lss, opS, opV, Go.Mx.look, seqK, blockK, Fr.known, retK, retA, resA, mapO, unA, cellsA_agg, okPart_agg, partA, loadA, loadS, plusS, indexAddrA, nilCheckS, fillA, storeS, mkFr, slotsOf, ptrsOf, boxesOf, bindO, srcTy, orO_some, eqT_some, tk3, sz22, ag22, st22, Try.underlying22, sz29, ag29, by29, ze29, Try.underlying46, g1', hlen, sgC]
  refine ⟨fun hlt => ?_, fun hge => ?_⟩
  · have hx := List.getElem?_eq_getElem hlt
    generalize L[i] = o at hx
    have hne : L ≠ [] := fun e => by subst e; simp at hlt
    obtain ⟨id, ver, tl, rfl, hid⟩ : ∃ id ver tl, bv = .sl id ver 4 0 L.length ∧ H2[id]? = some (.cells ver (L.flatMap sgC ++ tl)) := by
      rcases g2' with ⟨h2, _⟩ | ⟨_, _, id, ver, tl, h2, h3, _⟩
      · exact absurd (by simpa using h2) hne
      · exact ⟨id, ver, tl, h2, h3⟩
    obtain ⟨k1, k2⟩ := sl_sub tl hx
    generalize L.flatMap sgC ++ tl = cs at k1 k2 hid
    have w1 : IntKind.i64.wrap ((i : Int) + 1) = (i : Int) + 1 := wr_i64 (by omega)
    have htk : L.take (i + 1) = L.take i ++ [o] := by rw [List.take_add_one, hx]; rfl
    have hdr : L.drop i = o :: L.drop (i + 1) := by
      rw [List.drop_eq_getElem_cons hlt]
      rw [List.getElem?_eq_getElem hlt] at hx
      simp at hx; rw [hx]
    rw [hdr] at hO
    simp only [sgC] at k1
    simp [ev_seq, ev_region2, evOps_nil, evOps_cons, opG_none, opA_load, opA_call, opA_alloc, opA_store, putO_some, putH_lt, putU_none, loadT, allocT, storeT, opS, opV, Go.Mx.look, seqK, Fr.newBox, dropBp, mapO, callA, cellsA_agg, okPart_agg, partA, loadA, loadS, newK, storeS, sz29, ag29, ze29, ok36, hlt, hid, k1, k2, splice]
    refine rlike_sp s o H2 _ ?_
    cases hl : likeS s o with
    | true =>
      simp [ev_seq, ev_cond2, ev_region2, evOps_nil, evOps_cons, opG_none, opA_load, opA_call, putO_some, putH_lt, putC_lt, condB_true, loadT, opS, opV, Go.Mx.look, seqK, Fr.known, mapO, callA, partA, loadS, sz29, ag29, ok37]
      refine rcounts_sp s o H2 _ ?_
      cases hc : countsS s o with
      | false =>
        have ho : oldS L s = true := List.any_eq_true.2 ⟨o, List.mem_of_getElem? hx, by simp [hl, hc]⟩
        have hput : putL L s = L := by unfold putL; rw [ho]; rfl
        have := h0 hr H2 _ (by rw [hput]; exact hd.same hs (by simp)) (hs.wide (by simp)) (fun j hj => .inl hj)
        rw [ho] at this
        simp [ev_seq, ev_cond2, ev_ret, ev_region2, evOps_nil, evOps_cons, opG_none, opA_assign, opA_un, putO_some, putH_lt, putC_lt, condB_true, unT, opS, opV, Go.Mx.look, seqK, blockK, Fr.known, retK, retA, resA, mapO, unA]
        exact this
      | true =>
        simp [ev_skip, ev_cond2, ev_exit, ev_region2, evOps_nil, evOps_cons, opG_none, opA_move, opA_assign, opA_bin, opA_un, putO_some, putH_lt, putC_lt, condB_false, binT_some, binA, avO_some, unT, io_add, opS, opV, Go.Mx.look, seqK, blockK, Fr.known, mapO, unA, headK, getV, getB, chkP, orO_some, eqT_some, tk3, w1]
        have := step O v d H2 (i + 1) (by omega) (by omega) hv hs (by simpa [insG, hl] using hO) (by rw [htk, List.any_append, hno]; simp [hl, hc])
        simpa using this
    | false =>
      have hno2 : (L.take (i + 1)).any (fun o => likeS s o && !countsS s o) = false := by rw [htk, List.any_append, hno]; simp [hl]
      -- the old one is kept
      have keep : ∀ (O' : List Sg) (v' : AV) (d' : Bool) (H3 : Hp) , NewK 4 H H3 O'.length (O'.flatMap sgC) v' → Same [] H H3 → O' ++ o :: insG s d' (L.drop (i + 1)) = insG s false L → O'.length ≤ 1002 →
          appA H3 4 40 v' (.row true 1 [.v (.string o.user), .v (.int .i64 o.kind), .v (.int .i64 o.at_), .v (.int .i64 o.till)]) (fun v2 H4 => Same [] H H4 ∧ NewK 4 H H4 (O' ++ [o]).length ((O' ++ [o]).flatMap sgC) v2 ∧ (O' ++ [o]) ++ insG s d' (L.drop (i + 1)) = insG s false L) := fun O' v' d' H3 h4 h5 h6 h7 => by
        refine h4.app (by simp) h5.1 (by omega) (fun v2 H4 fp hv2 hs2 hfp => ⟨h5.new hs2 (fun j hj => (hfp j hj).1), by simpa [sgC] using hv2, by simpa using h6⟩)
      cases d with
      | true =>
        simp [ev_skip, ev_seq, ev_cond2, ev_region2, evOps_nil, evOps_cons, opG_none, opG_some, opJ, opU_ft, isU_bool, opA_move, opA_pick, opA_un, opA_load, opA_buildSlice, opA_append, putO_some, putH_lt, putC_lt, putV_lt, condB_false, pickT, unT, loadT, buildSliceT, appendT, repeatL_1, opS, opV, Go.Mx.look, seqK, Fr.known, mapO, unA, cellsA_agg, okPart_agg, partA, loadS, fillA, bindO, srcTy, st22, Try.underlying22, sz29, ag29, by29, ze29]
        refine appA_mono2 (keep O v true H2 hv hs (by simpa [insG, hl] using hO) (by omega)) (fun v2 H4 h2 => ?_)
        obtain ⟨q1, q2, q3⟩ := h2
        simp [ev_region2, evOps_nil, evOps_cons, opG_none, opA_move, opA_assign, opA_bin, putO_some, putH_lt, putC_lt, binT_some, binA, avO_some, io_add, opS, opV, Go.Mx.look, seqK, blockK, mapO, headK, getV, getB, chkP, orO_some, eqT_some, tk3, w1]
        simpa using step _ v2 true H4 (i + 1) (by omega) (by omega) q2 q1 q3 hno2
      | false =>
        simp [ev_skip, ev_seq, ev_cond2, ev_region2, evOps_nil, evOps_cons, opG_none, opG_some, opJ, opU_ft, isU_bool, opK_eq, opA_move, opA_un, opA_load, opA_call, putO_some, putH_lt, putC_lt, condB_true, condB_false, unT, loadT, opS, opV, Go.Mx.look, seqK, Fr.known, mapO, unA, callA, partA, loadS, sz29, ag29, ok38]
        refine rahead_sp s o H2 _ ?_
        cases ha : aheadS s o with
        | false =>
          simp [ev_skip, ev_cond2, ev_region2, evOps_nil, evOps_cons, opG_none, opA_move, opA_pick, opA_load, opA_buildSlice, opA_append, putO_some, putH_lt, putC_lt, condB_false, pickT, loadT, buildSliceT, appendT, repeatL_1, opS, opV, Go.Mx.look, seqK, Fr.known, mapO, cellsA_agg, okPart_agg, partA, loadS, fillA, bindO, srcTy, st22, Try.underlying22, sz29, ag29, by29, ze29]
          refine appA_mono2 (keep O v false H2 hv hs (by simpa [insG, hl, ha] using hO) (by omega)) (fun v2 H4 h2 => ?_)
          obtain ⟨q1, q2, q3⟩ := h2
          simp [ev_region2, evOps_nil, evOps_cons, opG_none, opA_move, opA_assign, opA_bin, putO_some, putH_lt, putC_lt, binT_some, binA, avO_some, io_add, opS, opV, Go.Mx.look, seqK, blockK, mapO, headK, getV, getB, chkP, orO_some, eqT_some, tk3, w1]
          simpa using step _ v2 false H4 (i + 1) (by omega) (by omega) q2 q1 q3 hno2
        | true =>
          simp [ev_seq, ev_cond2, ev_region2, evOps_nil, evOps_cons, opG_none, opA_move, opA_pick, opA_load, opA_buildSlice, opA_append, putO_some, putH_lt, putC_lt, condB_true, pickT, loadT, buildSliceT, appendT, repeatL_1, opS, opV, Go.Mx.look, seqK, Fr.known, mapO, cellsA_agg, okPart_agg, partA, loadS, fillA, bindO, srcTy, st22, Try.underlying22, sz29, ag29, by29, ze29]
          refine hv.app (by simp) hs.1 (by omega) (fun v2 H3 fp hv2 hs2 hfp => ?_)
          have hs3 : Same [] H H3 := hs.new hs2 (fun j hj => (hfp j hj).1)
          simp [ev_region2, evOps_nil, evOps_cons, opG_none, opA_move, opA_assign, opA_load, opA_buildSlice, opA_append, putO_some, putH_lt, putC_lt, loadT, buildSliceT, appendT, repeatL_1, opS, opV, Go.Mx.look, seqK, mapO, cellsA_agg, okPart_agg, partA, loadS, fillA, bindO, srcTy, st22, Try.underlying22, sz29, ag29, by29, ze29]
          refine appA_mono2 (keep (O ++ [s]) v2 true H3 (by simpa [sgC] using hv2) hs3 (by simpa [insG, hl, ha] using hO) (by simp; omega)) (fun v3 H4 h2 => ?_)
          obtain ⟨q1, q2, q3⟩ := h2
          simp [ev_region2, evOps_nil, evOps_cons, opG_none, opA_move, opA_assign, opA_bin, putO_some, putH_lt, putC_lt, binT_some, binA, avO_some, io_add, opS, opV, Go.Mx.look, seqK, blockK, mapO, headK, getV, getB, chkP, orO_some, eqT_some, tk3, w1]
          simpa using step _ v3 true H4 (i + 1) (by omega) (by omega) q2 q1 q3 hno2
  · have hi2 : i = L.length := by omega
    subst hi2
    rw [List.drop_length] at hO
    rw [List.take_length] at hno
    cases d with
    | true =>
      simp [insG] at hO
      obtain ⟨c1, c2⟩ := NewK.cells' hv
      simp [ev_seq, ev_ret, ev_region2, evOps_nil, evOps_cons, opG_none, opA_move, opA_assign, opA_fieldAddr, opA_nilCheck, opA_store, putO_some, putH_lt, putC_lt, putU_none, nilCheckT, fieldAddrT, storeT, opS, opV, Go.Mx.look, seqK, retK, retA, resA, mapO, cellsA_sl, okPart_sl, plusS, nilCheckS, storeS, appA, srcA, sz22, Try.underlying46, c1, c2, splice]
      exact fin O v H2 hv hs hO hno _ rfl
    | false =>
      simp [insG] at hO
      simp
      refine hv.app (by simp) hs.1 (by omega) (fun v2 H3 fp hv2 hs2 hfp => ?_)
      have hs3 : Same [] H H3 := hs.new hs2 (fun j hj => (hfp j hj).1)
      have g1'' := hs3.2 _ _ g1 (by simp)
      have hv2' : NewK 4 H H3 (O ++ [s]).length ((O ++ [s]).flatMap sgC) v2 := by simpa [sgC] using hv2
      obtain ⟨c1, c2⟩ := NewK.cells' hv2'
      simp [ev_seq, ev_ret, ev_region2, evOps_nil, evOps_cons, opG_none, opA_move, opA_assign, opA_fieldAddr, opA_nilCheck, opA_store, putO_some, putH_lt, putC_lt, putU_none, nilCheckT, fieldAddrT, storeT, opS, opV, Go.Mx.look, seqK, retK, retA, resA, mapO, plusS, nilCheckS, storeS, sz22, Try.underlying46, g1'', c1, c2, splice]
      exact fin (O ++ [s]) v2 H3 hv2' hs3 hO hno _ rfl
theorem RfAt.sl {H : Hp} {b : Nat} {L : List Sg} {fp : List Nat} (h : RfAt H b L fp) (hL : L ≠ []) : ∃ id ver tl, H[b]? = some (.cells 0 [.sl id ver 4 0 L.length]) ∧ H[id]? = some (.cells ver (L.flatMap sgC ++ tl)) := by
  obtain ⟨_, v, h1, h2, rfl⟩ := h
  rcases h2 with ⟨h2, _⟩ | ⟨_, _, id, ver, tl, rfl, h3, _⟩
  · exact absurd (by simpa using h2) hL
  · exact ⟨id, ver, tl, h1, h3⟩
theorem RfAt.len {H : Hp} {b : Nat} {L : List Sg} {fp : List Nat} (h : RfAt H b L fp) : ∃ v, H[b]? = some (.cells 0 [v]) ∧ (∀ H' e, lenT H' (some (.slice e)) (some v) = some (.av (.v (.int .i64 L.length)))) ∧ RdG H v L := by
  obtain ⟨_, v, h1, h2, rfl⟩ := h
  exact ⟨v, h1, fun H' e => h2.lenT H' e, .inr h2⟩
def RtInv (H : Hp) (b : Nat) (L : List Sg) (now : Int) (n : Nat) (xs : List AV) (H2 : Hp) : Prop :=
  ∃ (i : Nat) (v : AV), i ≤ L.length ∧ n = L.length - i ∧ xs = [.ptr b 0 0, .v (.int .i64 now), v, .v (.int .i64 i)] ∧ NewK 1 H H2 (typL now (L.take i)).length ((typL now (L.take i)).map (fun s => .v (.string s))) v ∧ Same [] H H2
set_option maxRecDepth 20000 in
theorem rtyping_sp (b : Nat) (L : List Sg) (fp : List Nat) (now : Int) (H : Hp) (Q : AV → Hp → Prop) (hd : RfAt H b L fp) (hL : L.length ≤ 1000) (h : Q (rowU (typL now L)) H) : Sp Try.prog 23 [.ptr b 0 0, .v (.int .i64 now)] Q H := by
  refine Sp.newK ?_
  refine Sp.body [(3, ⟨[0, 1, 5, 6], [], []⟩)] ⟨[7], [], []⟩ [] mo Try.func23 rfl (Nat.le_of_ble_eq_true rfl) (by kernel_rfl) ?_
  simp [ev_seq, ev_block, ev_region2, ev_loop, loopK, evOps_nil, evOps_cons, opG_none, opA_assign, putO_some, putH_lt, opS, opV, Go.Mx.look, fr0, argSlots, seqK, mapO, headK, getV, getB, chkP, firstReg]
  refine LoopC.intro (fun n xs _ H2 => RtInv H b L now n xs H2) L.length ⟨0, _, by omega, by omega, by simp, NewK.nil _ _ _, Same.refl _ _⟩ ?_
  rintro n xs bs H2 ⟨i, v, hi, rfl, rfl, hv, hs⟩
  obtain ⟨w, g1, hlen, _⟩ := (hd.same hs (by simp)).len
  simp [ev_skip, ev_seq, ev_cond2, ev_block, ev_exit, ev_ret, ev_region2, evOps_nil, evOps_cons, opG_none, opA_move, opA_assign, opA_bin, opA_load, opA_indexAddr, opA_fieldAddr, opA_nilCheck, opA_len, putO_some, putH_lt, binT_some, binA, avO_some, loadT, nilCheckT, fieldAddrT, indexAddrT, io_lss, opS, opV, Go.Mx.look, seqK, blockK, Fr.known, retK, retA, resA, mapO, partA, loadA, loadS, plusS, indexAddrA, nilCheckS, mkFr, slotsOf, ptrsOf, boxesOf, orO_some, eqT_some, tk3, sz22, ag22, Try.underlying22, sz29, Try.underlying46, g1, hlen]
  refine ⟨fun hlt => ?_, fun hge => ?_⟩
  · have hx := List.getElem?_eq_getElem hlt
    generalize L[i] = s at hx
    have hne : L ≠ [] := fun e => by subst e; simp at hlt
    obtain ⟨id, ver, tl, g2, hid⟩ := (hd.same hs (by simp)).sl hne
    obtain rfl : w = .sl id ver 4 0 L.length := by rw [g1] at g2; simpa using g2
    obtain ⟨k1, k2⟩ := sl_sub tl hx
    generalize L.flatMap sgC ++ tl = cs at k1 k2 hid
    have w1 : IntKind.i64.wrap ((i : Int) + 1) = (i : Int) + 1 := wr_i64 (by omega)
    have htk : L.take (i + 1) = L.take i ++ [s] := by rw [List.take_add_one, hx]; rfl
    have hlenT : (typL now (L.take i)).length ≤ 1000 := by
      unfold typL
      rw [List.length_map]
      refine Nat.le_trans (List.length_filter_le _ _) ?_
      rw [List.length_take]; omega
    have no : typS now s = false → ∃ m, m < L.length - i ∧ RtInv H b L now m [.ptr b 0 0, .v (.int .i64 now), v, .v (.int .i64 (i + 1))] H2 := fun ht => by
      have e : typL now (L.take (i + 1)) = typL now (L.take i) := by rw [htk]; simp [typL, ht]
      exact ⟨L.length - (i + 1), by omega, i + 1, v, by omega, rfl, by simp, by rw [e]; exact hv, hs⟩
    have hno : typS now s = false ↔ ¬ (s.kind = 1 ∧ s.at_ ≤ now ∧ now < s.till) := by
      rw [← Bool.not_eq_true]; simp [typS, and_assoc]
    simp only [sgC] at k1
    simp [ev_skip, ev_seq, ev_cond2, ev_region2, evOps_nil, evOps_cons, opG_none, opG_some, opJ, opU_ft, isU_bool, opK_eq, opA_move, opA_assign, opA_pick, opA_bin, opA_load, opA_fieldAddr, opA_alloc, opA_store, opA_buildSlice, opA_append, putO_some, putH_lt, putU_none, putV_lt, condB_true, condB_false, binT_some, binA, avO_some, pickT, loadT, fieldAddrT, allocT, storeT, buildSliceT, appendT, io_add, io_eql, io_leq, io_gtr, opS, opV, Go.Mx.look, seqK, blockK, Fr.known, Fr.newBox, dropBp, mapO, cellsA_v, cellsA_agg, okPart_v, okPart_agg, Value.oneCell', partA, loadA, loadS, plusS, fillA, newK, storeS, headK, getV, getB, chkP, bindO, srcTy, orO_some, eqT_some, sz2, ag2, tk2, sz3, ag3, tk3, sz9, ag9, by9, ze9, sz29, ag29, ze29, Try.underlying29, st31, Try.underlying31, hlt, hid, k1, k2, splice, w1]
    refine ⟨fun e1 => ⟨fun e2 => ⟨fun e3 => ?_, fun e3 => by simpa using no (hno.2 (by omega))⟩, fun e2 => by simpa using no (hno.2 (by omega))⟩, fun e1 => by simpa using no (hno.2 (by omega))⟩
    refine hv.app (by simp) hs.1 (by omega) (fun v' H3 fp hv' hs' hfp => ?_)
    have e : typL now (L.take (i + 1)) = typL now (L.take i) ++ [s.user] := by rw [htk]; simp [typL, typS, e1, e2, e3]
    simp [ev_region2, evOps_nil, evOps_cons, opG_none, opA_move, opA_assign, opA_bin, putO_some, putH_lt, putC_lt, binT_some, binA, avO_some, io_add, opS, opV, Go.Mx.look, seqK, blockK, mapO, headK, getV, getB, chkP, orO_some, eqT_some, tk3, w1]
    refine ⟨L.length - (i + 1), by omega, i + 1, v', by omega, rfl, by simp, ?_, hs.new hs' (fun j hj => (hfp j hj).1)⟩
    rw [e]
    simpa using hv'
  · have : i = L.length := by omega
    subst this
    rw [List.take_length] at hv
    refine ⟨hs, 1, _, _, hv, ?_, h⟩
    intro c hc
    obtain ⟨s, _, rfl⟩ := List.mem_map.1 hc
    simp
theorem fK_hit {L : List Sg} (h : Srt L) {u : ByteArray} {i : Nat} {s : Sg} (hx : L[i]? = some s) (h1 : s.user = u) (h2 : s.kind ≠ 1) : fK L (u, false) = some s := (fK_iff h).2 ⟨List.mem_of_getElem? hx, by simp [keyS, h1, h2]⟩
set_option maxRecDepth 20000 in
set_option maxHeartbeats 1000000 in
theorem rpresence_sp (b : Nat) (L : List Sg) (fp : List Nat) (u : ByteArray) (now : Int) (H : Hp) (Q : AV → Hp → Prop) (hd : RfAt H b L fp) (hL : L.length ≤ 1000) (h : Q (.v (.string (presS now (fK L (u, false))))) H) : Sp Try.prog 24 [.ptr b 0 0, .v (.string u), .v (.int .i64 now)] Q H := by
  refine Sp.body [(2, ⟨[0, 1, 2, 7], [], []⟩)] ⟨[8], [], []⟩ [] mo Try.func24 rfl (Nat.le_of_ble_eq_true rfl) (by kernel_rfl) ?_
  simp [ev_seq, ev_block, ev_region2, ev_loop, loopK, evOps_nil, evOps_cons, opG_none, opA_assign, putO_some, putH_lt, opS, opV, Go.Mx.look, fr0, argSlots, seqK, mapO, headK, getV, getB, chkP, firstReg]
  -- either nothing of the user was met, or what was met tells no more than that he is away
  refine LoopC.intro (fun n xs _ H2 => ∃ i : Nat, i ≤ L.length ∧ n = L.length - i ∧ xs = [.ptr b 0 0, .v (.string u), .v (.int .i64 now), .v (.int .i64 i)] ∧ H2 = H ∧ (presS now (fK L (u, false)) = offT ∨ ∀ j s, j < i → L[j]? = some s → keyS s ≠ (u, false))) L.length
    ⟨0, by omega, by omega, by simp, rfl, .inr (by simp)⟩ ?_
  rintro n xs bs H2 ⟨i, hi, rfl, rfl, rfl, hno⟩
  obtain ⟨w, g1, hlen, _⟩ := hd.len
  simp [ev_skip, ev_seq, ev_cond2, ev_block, ev_exit, ev_ret, ev_region2, evOps_nil, evOps_cons, opG_none, opA_move, opA_assign, opA_bin, opA_load, opA_indexAddr, opA_fieldAddr, opA_nilCheck, opA_len, putO_some, putH_lt, binT_some, binA, avO_some, loadT, nilCheckT, fieldAddrT, indexAddrT, io_lss, opS, opV, Go.Mx.look, seqK, blockK, Fr.known, retK, retA, resA, mapO, partA, loadA, loadS, plusS, indexAddrA, nilCheckS, mkFr, slotsOf, ptrsOf, boxesOf, orO_some, eqT_some, tk3, sz22, ag22, Try.underlying22, sz29, Try.underlying46, g1, hlen]
  refine ⟨fun hlt => ?_, fun hge => ?_⟩
  · have hx := List.getElem?_eq_getElem hlt
    generalize L[i] = s at hx
    have hne : L ≠ [] := fun e => by subst e; simp at hlt
    obtain ⟨id, ver, tl, g2, hid⟩ := hd.sl hne
    obtain rfl : w = .sl id ver 4 0 L.length := by rw [g1] at g2; simpa using g2
    obtain ⟨k1, k2⟩ := sl_sub tl hx
    generalize L.flatMap sgC ++ tl = cs at k1 k2 hid
    have w1 : IntKind.i64.wrap ((i : Int) + 1) = (i : Int) + 1 := wr_i64 (by omega)
    simp only [sgC] at k1
    have miss : keyS s ≠ (u, false) ∨ presS now (fK L (u, false)) = offT → ∃ m, m < L.length - i ∧ ∃ j : Nat, j ≤ L.length ∧ m = L.length - j ∧ [AV.ptr b 0 0, .v (.string u), .v (.int .i64 now), .v (.int .i64 ((i : Int) + 1))] = [.ptr b 0 0, .v (.string u), .v (.int .i64 now), .v (.int .i64 j)] ∧ H2 = H2 ∧ (presS now (fK L (u, false)) = offT ∨ ∀ k s, k < j → L[k]? = some s → keyS s ≠ (u, false)) := fun hm =>
      ⟨L.length - (i + 1), by omega, i + 1, by omega, rfl, by simp, rfl, by
        rcases hm with hm | hm
        · refine hno.imp (fun h => h) (fun hno k t hk ht => ?_)
          rcases Nat.lt_or_ge k i with h3 | h3
          · exact hno k t h3 ht
          · obtain rfl : k = i := by omega
            rw [hx] at ht; simp at ht; subst ht; exact hm
        · exact .inl hm⟩
    simp [ev_skip, ev_seq, ev_cond2, ev_block, ev_exit, ev_ret, ev_region2, evOps_nil, evOps_cons, opG_none, opG_some, opJ, opU_ff, isU_bool, opK_eq, opA_move, opA_assign, opA_pick, opA_bin, opA_load, opA_fieldAddr, opA_alloc, opA_store, putO_some, putH_lt, putU_none, putV_lt, condB_true, condB_false, binT_some, binA, avO_some, pickT, loadT, fieldAddrT, allocT, storeT, io_add, io_sub, io_eql, io_lss, io_gtr, strOp, opS, opV, Go.Mx.look, seqK, blockK, Fr.known, Fr.newBox, dropBp, retK, retA, resA, mapO, cellsA_agg, okPart_agg, partA, loadA, loadS, plusS, newK, storeS, headK, getV, getB, chkP, orO_some, eqT_some, sz2, ag2, tk2, sz3, ag3, tk3, sz9, ag9, tk9, sz29, ag29, ze29, Try.underlying29, hlt, hid, k1, k2, splice, w1, tl_inj]
    refine ⟨fun e1 => ?_, fun e1 => ⟨fun e2 => ?_, fun e2 => ?_⟩⟩
    · simpa using miss (.inl (fun e => e1 (by simp [keyS] at e; exact e.1)))
    · simpa using miss (.inl (fun e => by simp [keyS] at e; exact e.2 e2))
    · have hfk := fK_hit hd.1.1 hx e1 e2
      have hp : presS now (fK L (u, false)) = presS now (some s) := by rw [hfk]
      rw [hfk] at h
      unfold presS at h
      simp only at h
      refine ⟨fun e3 => ?_, fun e3 => ⟨fun e4 => ?_, fun e4 => ⟨fun e5 => ?_, fun e5 => ⟨fun e6 => ?_, fun e6 => ⟨fun e7 => ?_, fun e7 => ?_⟩⟩⟩⟩⟩
      · by_cases e4 : s.kind = 3
        · rw [if_pos e4] at h; exact h
        · rw [if_neg e4, if_pos (by omega)] at h; exact h
      · rw [if_pos e4] at h; exact h
      · rw [if_neg e4, if_neg (by omega), if_pos e5] at h; exact h
      · rw [if_neg e4, if_neg (by omega), if_neg (by omega), if_pos e6.symm] at h; exact h
      · rw [if_neg e4, if_neg (by omega), if_neg (by omega), if_neg (fun x => e6 x.symm), if_pos e7] at h; exact h
      · have hoff : presS now (fK L (u, false)) = offT := by
          rw [hp]
          unfold presS
          simp only
          rw [if_neg e4, if_neg (by omega), if_neg (by omega), if_neg (fun x => e6 x.symm), if_neg (by omega)]
        simpa using miss (.inr hoff)
  · have hoff : presS now (fK L (u, false)) = offT := by
      rcases hno with h1 | h1
      · exact h1
      · have : fK L (u, false) = none := fK_none.2 (fun o ho e => by
          obtain ⟨j, hj⟩ := List.getElem?_of_mem ho
          exact h1 j o (by have := (List.getElem?_eq_some_iff.1 hj).1; omega) hj e)
        rw [this]; rfl
    rw [hoff] at h
    exact h
def RsInv (H : Hp) (b : Nat) (L : List Sg) (now : Int) (n : Nat) (xs : List AV) (H2 : Hp) : Prop :=
  ∃ (i : Nat) (v : AV), i ≤ L.length ∧ n = L.length - i ∧ xs = [.ptr b 0 0, .v (.int .i64 now), v, .v (.int .i64 i)] ∧ NewK 4 H H2 ((L.take i).filter (keepS now)).length (((L.take i).filter (keepS now)).flatMap sgC) v ∧ Same [] H H2
set_option maxRecDepth 20000 in
set_option maxHeartbeats 1000000 in
theorem rsweep_sp (b : Nat) (L : List Sg) (fp : List Nat) (now : Int) (H : Hp) (Q : AV → Hp → Prop) (hd : RfAt H b L fp) (hL : L.length ≤ 1000)
    (h : ∀ H' fp', RfAt H' b (L.filter (keepS now)) fp' → Same fp H H' → (∀ j ∈ fp', j ∈ fp ∨ H.length ≤ j) → Q (.v (.int .i64 (L.length - (L.filter (keepS now)).length : Nat))) H') : Sp Try.prog 26 [.ptr b 0 0, .v (.int .i64 now)] Q H := by
  refine Sp.body [(3, ⟨[0, 1, 5, 6], [], []⟩)] ⟨[], [], []⟩ [] mo Try.func26 rfl (Nat.le_of_ble_eq_true rfl) (by kernel_rfl) ?_
  simp [ev_seq, ev_block, ev_region2, ev_loop, loopK, evOps_nil, evOps_cons, opG_none, opA_assign, putO_some, putH_lt, opS, opV, Go.Mx.look, fr0, argSlots, seqK, mapO, headK, getV, getB, chkP, firstReg]
  refine LoopC.intro (fun n xs _ H2 => RsInv H b L now n xs H2) L.length ⟨0, _, by omega, by omega, by simp, NewK.nil _ _ _, Same.refl _ _⟩ ?_
  rintro n xs bs H2 ⟨i, v, hi, rfl, rfl, hv, hs⟩
  have hd2 := hd.same hs (by simp)
  obtain ⟨w, g1, hlen, _⟩ := hd2.len
  have hfl : ((L.take i).filter (keepS now)).length ≤ i := by
    refine Nat.le_trans (List.length_filter_le _ _) ?_
    rw [List.length_take]; omega
  simp [ev_skip, ev_seq, ev_cond2, ev_block, ev_exit, ev_region2, evOps_nil, evOps_cons, opG_none, opA_move, opA_bin, opA_load, opA_indexAddr, opA_fieldAddr, opA_nilCheck, opA_len, putO_some, putH_lt, binT_some, binA, avO_some, loadT, nilCheckT, fieldAddrT, indexAddrT, io_lss, opS, opV, Go.Mx.look, seqK, blockK, Fr.known, partA, loadA, loadS, plusS, indexAddrA, nilCheckS, mkFr, slotsOf, ptrsOf, boxesOf, orO_some, eqT_some, tk3, sz22, ag22, Try.underlying22, sz29, Try.underlying46, g1, hlen]
  refine ⟨fun hlt => ?_, fun hge => ?_⟩
  · have hx := List.getElem?_eq_getElem hlt
    generalize L[i] = s at hx
    have hne : L ≠ [] := fun e => by subst e; simp at hlt
    obtain ⟨id, ver, tl, g2, hid⟩ := hd2.sl hne
    obtain rfl : w = .sl id ver 4 0 L.length := by rw [g1] at g2; simpa using g2
    obtain ⟨k1, k2⟩ := sl_sub tl hx
    generalize L.flatMap sgC ++ tl = cs at k1 k2 hid
    have w1 : IntKind.i64.wrap ((i : Int) + 1) = (i : Int) + 1 := wr_i64 (by omega)
    have htk : L.take (i + 1) = L.take i ++ [s] := by rw [List.take_add_one, hx]; rfl
    have hsm := hd.1.small (List.mem_of_getElem? hx)
    have k1' := k1
    simp only [sgC] at k1
    simp [evOps_cons, opG_none, opA_move, opA_load, opA_call, putO_some, putH_lt, loadT, opS, opV, Go.Mx.look, mapO, callA, partA, loadA, loadS, sz29, ag29, ok40, hlt, hid, k1, k2]
    refine rstale_sp s now H2 _ hsm ?_
    by_cases e : endS s ≤ now
    · have hf : (L.take (i + 1)).filter (keepS now) = (L.take i).filter (keepS now) := by rw [htk]; simp [keepS, e]
      simp [ev_skip, ev_cond2, ev_region2, evOps_nil, evOps_cons, opG_none, opA_move, opA_assign, opA_bin, opA_un, putO_some, putH_lt, putC_lt, condB_false, binT_some, binA, avO_some, unT, io_add, opS, opV, Go.Mx.look, seqK, blockK, Fr.known, mapO, unA, headK, getV, getB, chkP, orO_some, eqT_some, tk3, e, w1]
      refine ⟨L.length - (i + 1), by omega, i + 1, v, by omega, rfl, by simp, by rw [hf]; exact hv, hs⟩
    · have hf : (L.take (i + 1)).filter (keepS now) = (L.take i).filter (keepS now) ++ [s] := by rw [htk]; simp [keepS, e]
      simp [ev_cond2, ev_region2, evOps_nil, evOps_cons, opG_none, opA_move, opA_un, opA_load, opA_indexAddr, opA_fieldAddr, opA_nilCheck, opA_buildSlice, opA_append, putO_some, putH_lt, putC_lt, condB_true, unT, loadT, nilCheckT, fieldAddrT, indexAddrT, buildSliceT, appendT, repeatL_1, opS, opV, Go.Mx.look, seqK, Fr.known, mapO, unA, cellsA_agg, okPart_agg, partA, loadA, loadS, plusS, indexAddrA, nilCheckS, fillA, bindO, srcTy, sz22, ag22, st22, Try.underlying22, sz29, ag29, by29, ze29, Try.underlying46, e, hlt, g1, hid, k1, k2]
      refine hv.app (by simp) hs.1 (by omega) (fun v' H3 fp hv' hs' hfp => ?_)
      simp [ev_region2, evOps_nil, evOps_cons, opG_none, opA_move, opA_assign, opA_bin, putO_some, putH_lt, putC_lt, binT_some, binA, avO_some, io_add, opS, opV, Go.Mx.look, seqK, blockK, mapO, headK, getV, getB, chkP, orO_some, eqT_some, tk3, w1]
      refine ⟨L.length - (i + 1), by omega, i + 1, v', by omega, rfl, by simp, ?_, hs.new hs' (fun j hj => (hfp j hj).1)⟩
      rw [hf]
      simpa [sgC] using hv'
  · have : i = L.length := by omega
    subst this
    rw [List.take_length] at hv hfl
    have w1 : IntKind.i64.wrap ((L.length : Int) - ((L.filter (keepS now)).length : Int)) = ((L.length - (L.filter (keepS now)).length : Nat) : Int) := by rw [wr_i64 (by omega)]; omega
    have hl2 := hv.lenT
    obtain ⟨c1, c2⟩ := NewK.cells' hv
    simp [ev_seq, ev_ret, ev_region2, evOps_nil, evOps_cons, opG_none, opA_move, opA_assign, opA_bin, opA_fieldAddr, opA_nilCheck, opA_store, putO_some, putH_lt, putU_none, binT_some, binA, avO_some, nilCheckT, fieldAddrT, storeT, io_sub, opS, opV, Go.Mx.look, seqK, retK, retA, resA, mapO, plusS, nilCheckS, storeS, orO_some, eqT_some, tk3, sz22, Try.underlying46, g1, hl2, w1, c1, c2, splice]
    have hs3 : Same [b] H2 (H2.set b (.cells 0 [v])) := Same.set (by simp)
    obtain ⟨_, bv, q1, q2, rfl⟩ := id hd
    have hlt := Hp.lt q1
    have hnk : NewK 4 [] (H2.set b (.cells 0 [v])) (L.filter (keepS now)).length ((L.filter (keepS now)).flatMap sgC) v := by
      rcases hv with h4 | ⟨k0, k1, id, ver, tl, k2, k3, k4⟩
      · exact .inl h4
      · exact .inr ⟨k0, k1, id, ver, tl, k2, hs3.2 _ _ k3 (by simp; omega), by simp⟩
    refine h _ (b :: slId v) ⟨hd.1.sub List.filter_sublist, v, ?_, hnk, rfl⟩ ((hs.wide (by simp)).trans hs3 (by simp)) (fun j hj => ?_)
    · rw [List.getElem?_set_self (by have := hs.1; omega)]
    · rcases List.mem_cons.1 hj with rfl | hj
      · exact .inl (by simp)
      · rcases hv with ⟨_, _, rfl⟩ | ⟨_, _, id, ver, tl, rfl, _, k4⟩
        · simp [slId] at hj
        · simp [slId] at hj; subst hj; exact .inr k4
end Go.Proofs.Ytohmgnbndhojpaa

namespace Go.Proofs.Ytohmgnbndhojpaa
open Go.Mx
set_option linter.unusedVariables false
set_option linter.unusedSimpArgs false

def aw1 : Sg := ⟨⟨#[64, 97, 58, 115]⟩, 1, 5, 9⟩
def aw2 : Sg := ⟨⟨#[64, 97, 58, 115]⟩, 2, 5, 65⟩
theorem aw_board : boardL [aw1, aw2] = [aw1, aw2] := by decide +kernel
theorem aw_few : FewS [aw1, aw2] := ⟨by decide, fun s hs => by
  simp only [List.mem_cons, List.not_mem_nil, or_false] at hs
  rcases hs with rfl | rfl <;> decide⟩
set_option maxRecDepth 20000 in
theorem awake_sp (H : Hp) (Q : AV → Hp → Prop) (h : ∀ H', Same [] H H' → Q (.v (.bool true)) H') : Sp Try.prog 12 [] Q H := by
  refine Sp.body [] ⟨[], [], []⟩ [] mo Try.func12 rfl (Nat.le_of_ble_eq_true rfl) (by kernel_rfl) ?_
  simp [ev_skip, ev_seq, ev_cond2, ev_block, ev_exit, ev_ret, ev_region2, ev_loop, loopK, evOps_nil, evOps_cons, opG_none, opG_some, opJ, opU_true, opU_ft, opU_ff, isU_undef, isU_bool, valU_true, valU_false, opK_eq, opA_move, opA_assign, opA_pick, opA_bin, opA_un, opA_extract, opA_field, opA_load, opA_index, opA_indexAddr, opA_fieldAddr, opA_nilCheck, opA_len, opA_call, opA_max, opA_min, opA_alloc, opA_box, opA_store, opA_buildSlice, opA_makeSlice, opA_append, opA_copy, opA_convert, opA_makeMap, opA_slice, opA_makeFunc, opA_build, putO_some, putH_lt, putH_none, putC_lt, putC_none, putU_lt, putU_none, putV_lt, putV_none, condB_true, condB_false, CondP_true, CondP_false, binT_some, binA_int, binA_str, binA_eqb, binA_neb, binA, eqRef, avO_some, avO_none, avOf, pickT_true, pickT_false, pickT, unT, extractT, loadT, nilCheckT, lenT_str, lenT_row, lenT_sl, lenT_nil, lenT_arr, lenT_mp, lenT_nomp, maxT, minT, maxA, minA, fieldT, fieldAddrT, indexT, indexAddrT, allocT, boxT, storeT, buildSliceT, makeSliceT, appendT, copyT, convV, convC, convT, makeMapT, bndT, sliceT, fnT, bytesOf_nil, bytesOf_one, repeatL_0, repeatL_1, repeatL_2, repeatL_3, repeatL_4, buildZ, partsZ, fillO, aggO, io_add, io_sub, io_mul, io_quo, io_rem, io_shl, io_shr, io_and, io_or, io_xor, io_eql, io_neq, io_lss, io_leq, io_gtr, io_geq, strOp, opS_tmp, opS_const, opV_tmp, opV_const, opS, opV, look_eq, look_ne, Go.Mx.look, fr0, argSlots, seqK_n, seqK_r, seqK_e, seqK, blockK_n, blockK_r, blockK, Fr.known, Fr.newBox, dropBp, retK, retA, resA, mapO, unA, convInt, convStr, strOf, callA, extractA, lenM, cellsA_v, cellsA_agg, cellsA_row, cellsA_sl, cellsA_ptr, cellsA_rp, cellsA_mp, cellsA_fn, okPart_v, okPart_agg, okPart_row, okPart_sl, okPart_ptr, okPart_rp, okPart_mp, okPart_fn, Value.oneCell', fieldA, partA, loadA, loadS, plusS, indexAddrA, indexArrA, nilCheckS, sliceA, sliceArr, fillA, newK, storeS, headK, getV, getB, chkP, mkFr, slotsOf, ptrsOf, boxesOf, firstReg, bindO, makeA, appA, copyA, srcA, srcTy, okPart_u8, cellsA_u8, Cond_iff, orO_some, orO_none, eqT_some, opA_entry, entryT_some, lookT_some, updT_some, delT_some, clearT_some, rangeT_some, nextT_some, makeMapH, opA_lookup, opA_makeMap2, opA_upd, opA_delete, opA_clear, opA_range, opA_next, valS_lookup, ev_draw, drawK, evP_nil, evP_q, evP_s, opAt_some, chkK_eq, sameV_some, sameO_some, allQ_nil, allQ_cons, valG_some, valJ, valQ_none, valQ_some, valS_move, valS_pick, valS_bin, valS_un, valS_extract, valS_field, valS_load, valS_index, valS_indexAddr, valS_fieldAddr, valS_nilCheck, valS_len, valS_max, valS_min, valS_slice, valS_convert, valS_makeFunc, valS_build, valS_buildSlice, rowT, rowF, sz2, ag2, tk2, by2, ze2, Try.underlying2, sz3, ag3, tk3, by3, ze3, Try.underlying3, sz4, ag4, tk4, by4, ze4, Try.underlying4, sz5, ag5, tk5, by5, ze5, Try.underlying5, sz9, ag9, tk9, st9, by9, ze9, Try.underlying9, sz22, ag22, tk22, st22, by22, ze22, Try.underlying22, sz23, ag23, tk23, by23, ze23, Try.underlying23, sz25, ag25, tk25, by25, ze25, Try.underlying25, sz29, ag29, tk29, by29, ze29, of29, Try.underlying29, sz31, ag31, tk31, st31, by31, ze31, Try.underlying31, sz37, ag37, tk37, by37, ze37, Try.underlying37, sz44, ag44, tk44, by44, ze44, Try.underlying44, sz46, ag46, tk46, by46, ze46, of46, Try.underlying46, sz49, ag49, tk49, by49, ze49, Try.underlying49, sz51, ag51, tk51, by51, ze51, of51, Try.underlying51, sz52, ag52, tk52, st52, by52, ze52, Try.underlying52, sz55, ag55, tk55, by55, ze55, of55, Try.underlying55, sz73, ag73, tk73, st73, by73, ze73, Try.underlying73, mo, ok3, ok4, ok5, ok6, ok7, ok8, ok9, ok10, ok11, ok12, ok13, ok14, ok15, ok16, ok17, ok18, ok19, ok20, ok21, ok22, ok23, ok24, ok25, ok26, ok28, ok29, ok30, ok31, ok32, ok33, ok34, ok35, ok36, ok37, ok38, ok39, ok40, ok43, ok44, ok45, ok46, ok47, ok58, ok59, ok65, ok66, ok67, ok68, ok69, ok70, ok72, ok73, ok74, ok75, ok76, ok77, ok78, ok79, ok80, ok81, pl3, pl4, pl5, pl6, pl7, pl8, pl17, pl19, pl22, pl25, pl58, pl74]
  refine board_sp true [aw1, aw2] H _ aw_few (fun b H1 fp hd hs hfp => ?_)
  rw [aw_board] at hd
  have hv := hd.v
  have t1 : typL 5 [aw1, aw2] = [aw1.user] := by decide +kernel
  have t2 : typL 8 [aw1, aw2] = [aw1.user] := by decide +kernel
  have t3 : typL 9 [aw1, aw2] = [] := by decide +kernel
  have p1 : presS 60 (fK [aw1, aw2] (⟨#[64, 97, 58, 115]⟩, false)) = onT := by decide +kernel
  have p2 : presS 100 (fK [aw1, aw2] (⟨#[64, 97, 58, 115]⟩, false)) = unaT := by decide +kernel
  have p3 : presS 700 (fK [aw1, aw2] (⟨#[64, 97, 58, 115]⟩, false)) = offT := by decide +kernel
  simp [ev_skip, ev_seq, ev_cond2, ev_block, ev_exit, ev_ret, ev_region2, ev_loop, loopK, evOps_nil, evOps_cons, opG_none, opG_some, opJ, opU_true, opU_ft, opU_ff, isU_undef, isU_bool, valU_true, valU_false, opK_eq, opA_move, opA_assign, opA_pick, opA_bin, opA_un, opA_extract, opA_field, opA_load, opA_index, opA_indexAddr, opA_fieldAddr, opA_nilCheck, opA_len, opA_call, opA_max, opA_min, opA_alloc, opA_box, opA_store, opA_buildSlice, opA_makeSlice, opA_append, opA_copy, opA_convert, opA_makeMap, opA_slice, opA_makeFunc, opA_build, putO_some, putH_lt, putH_none, putC_lt, putC_none, putU_lt, putU_none, putV_lt, putV_none, condB_true, condB_false, CondP_true, CondP_false, binT_some, binA_int, binA_str, binA_eqb, binA_neb, binA, eqRef, avO_some, avO_none, avOf, pickT_true, pickT_false, pickT, unT, extractT, loadT, nilCheckT, lenT_str, lenT_row, lenT_sl, lenT_nil, lenT_arr, lenT_mp, lenT_nomp, maxT, minT, maxA, minA, fieldT, fieldAddrT, indexT, indexAddrT, allocT, boxT, storeT, buildSliceT, makeSliceT, appendT, copyT, convV, convC, convT, makeMapT, bndT, sliceT, fnT, bytesOf_nil, bytesOf_one, repeatL_0, repeatL_1, repeatL_2, repeatL_3, repeatL_4, buildZ, partsZ, fillO, aggO, io_add, io_sub, io_mul, io_quo, io_rem, io_shl, io_shr, io_and, io_or, io_xor, io_eql, io_neq, io_lss, io_leq, io_gtr, io_geq, strOp, opS_tmp, opS_const, opV_tmp, opV_const, opS, opV, look_eq, look_ne, Go.Mx.look, fr0, argSlots, seqK_n, seqK_r, seqK_e, seqK, blockK_n, blockK_r, blockK, Fr.known, Fr.newBox, dropBp, retK, retA, resA, mapO, unA, convInt, convStr, strOf, callA, extractA, lenM, cellsA_v, cellsA_agg, cellsA_row, cellsA_sl, cellsA_ptr, cellsA_rp, cellsA_mp, cellsA_fn, okPart_v, okPart_agg, okPart_row, okPart_sl, okPart_ptr, okPart_rp, okPart_mp, okPart_fn, Value.oneCell', fieldA, partA, loadA, loadS, plusS, indexAddrA, indexArrA, nilCheckS, sliceA, sliceArr, fillA, newK, storeS, headK, getV, getB, chkP, mkFr, slotsOf, ptrsOf, boxesOf, firstReg, bindO, makeA, appA, copyA, srcA, srcTy, okPart_u8, cellsA_u8, Cond_iff, orO_some, orO_none, eqT_some, opA_entry, entryT_some, lookT_some, updT_some, delT_some, clearT_some, rangeT_some, nextT_some, makeMapH, opA_lookup, opA_makeMap2, opA_upd, opA_delete, opA_clear, opA_range, opA_next, valS_lookup, ev_draw, drawK, evP_nil, evP_q, evP_s, opAt_some, chkK_eq, sameV_some, sameO_some, allQ_nil, allQ_cons, valG_some, valJ, valQ_none, valQ_some, valS_move, valS_pick, valS_bin, valS_un, valS_extract, valS_field, valS_load, valS_index, valS_indexAddr, valS_fieldAddr, valS_nilCheck, valS_len, valS_max, valS_min, valS_slice, valS_convert, valS_makeFunc, valS_build, valS_buildSlice, rowT, rowF, sz2, ag2, tk2, by2, ze2, Try.underlying2, sz3, ag3, tk3, by3, ze3, Try.underlying3, sz4, ag4, tk4, by4, ze4, Try.underlying4, sz5, ag5, tk5, by5, ze5, Try.underlying5, sz9, ag9, tk9, st9, by9, ze9, Try.underlying9, sz22, ag22, tk22, st22, by22, ze22, Try.underlying22, sz23, ag23, tk23, by23, ze23, Try.underlying23, sz25, ag25, tk25, by25, ze25, Try.underlying25, sz29, ag29, tk29, by29, ze29, of29, Try.underlying29, sz31, ag31, tk31, st31, by31, ze31, Try.underlying31, sz37, ag37, tk37, by37, ze37, Try.underlying37, sz44, ag44, tk44, by44, ze44, Try.underlying44, sz46, ag46, tk46, by46, ze46, of46, Try.underlying46, sz49, ag49, tk49, by49, ze49, Try.underlying49, sz51, ag51, tk51, by51, ze51, of51, Try.underlying51, sz52, ag52, tk52, st52, by52, ze52, Try.underlying52, sz55, ag55, tk55, by55, ze55, of55, Try.underlying55, sz73, ag73, tk73, st73, by73, ze73, Try.underlying73, mo, ok3, ok4, ok5, ok6, ok7, ok8, ok9, ok10, ok11, ok12, ok13, ok14, ok15, ok16, ok17, ok18, ok19, ok20, ok21, ok22, ok23, ok24, ok25, ok26, ok28, ok29, ok30, ok31, ok32, ok33, ok34, ok35, ok36, ok37, ok38, ok39, ok40, ok43, ok44, ok45, ok46, ok47, ok58, ok59, ok65, ok66, ok67, ok68, ok69, ok70, ok72, ok73, ok74, ok75, ok76, ok77, ok78, ok79, ok80, ok81, pl3, pl4, pl5, pl6, pl7, pl8, pl17, pl19, pl22, pl25, pl58, pl74]
  refine typing_sp _ _ 5 H1 _ hv (by decide) ?_
  simp [ev_skip, ev_seq, ev_cond2, ev_block, ev_exit, ev_ret, ev_region2, ev_loop, loopK, evOps_nil, evOps_cons, opG_none, opG_some, opJ, opU_true, opU_ft, opU_ff, isU_undef, isU_bool, valU_true, valU_false, opK_eq, opA_move, opA_assign, opA_pick, opA_bin, opA_un, opA_extract, opA_field, opA_load, opA_index, opA_indexAddr, opA_fieldAddr, opA_nilCheck, opA_len, opA_call, opA_max, opA_min, opA_alloc, opA_box, opA_store, opA_buildSlice, opA_makeSlice, opA_append, opA_copy, opA_convert, opA_makeMap, opA_slice, opA_makeFunc, opA_build, putO_some, putH_lt, putH_none, putC_lt, putC_none, putU_lt, putU_none, putV_lt, putV_none, condB_true, condB_false, CondP_true, CondP_false, binT_some, binA_int, binA_str, binA_eqb, binA_neb, binA, eqRef, avO_some, avO_none, avOf, pickT_true, pickT_false, pickT, unT, extractT, loadT, nilCheckT, lenT_str, lenT_row, lenT_sl, lenT_nil, lenT_arr, lenT_mp, lenT_nomp, maxT, minT, maxA, minA, fieldT, fieldAddrT, indexT, indexAddrT, allocT, boxT, storeT, buildSliceT, makeSliceT, appendT, copyT, convV, convC, convT, makeMapT, bndT, sliceT, fnT, bytesOf_nil, bytesOf_one, repeatL_0, repeatL_1, repeatL_2, repeatL_3, repeatL_4, buildZ, partsZ, fillO, aggO, io_add, io_sub, io_mul, io_quo, io_rem, io_shl, io_shr, io_and, io_or, io_xor, io_eql, io_neq, io_lss, io_leq, io_gtr, io_geq, strOp, opS_tmp, opS_const, opV_tmp, opV_const, opS, opV, look_eq, look_ne, Go.Mx.look, fr0, argSlots, seqK_n, seqK_r, seqK_e, seqK, blockK_n, blockK_r, blockK, Fr.known, Fr.newBox, dropBp, retK, retA, resA, mapO, unA, convInt, convStr, strOf, callA, extractA, lenM, cellsA_v, cellsA_agg, cellsA_row, cellsA_sl, cellsA_ptr, cellsA_rp, cellsA_mp, cellsA_fn, okPart_v, okPart_agg, okPart_row, okPart_sl, okPart_ptr, okPart_rp, okPart_mp, okPart_fn, Value.oneCell', fieldA, partA, loadA, loadS, plusS, indexAddrA, indexArrA, nilCheckS, sliceA, sliceArr, fillA, newK, storeS, headK, getV, getB, chkP, mkFr, slotsOf, ptrsOf, boxesOf, firstReg, bindO, makeA, appA, copyA, srcA, srcTy, okPart_u8, cellsA_u8, Cond_iff, orO_some, orO_none, eqT_some, opA_entry, entryT_some, lookT_some, updT_some, delT_some, clearT_some, rangeT_some, nextT_some, makeMapH, opA_lookup, opA_makeMap2, opA_upd, opA_delete, opA_clear, opA_range, opA_next, valS_lookup, ev_draw, drawK, evP_nil, evP_q, evP_s, opAt_some, chkK_eq, sameV_some, sameO_some, allQ_nil, allQ_cons, valG_some, valJ, valQ_none, valQ_some, valS_move, valS_pick, valS_bin, valS_un, valS_extract, valS_field, valS_load, valS_index, valS_indexAddr, valS_fieldAddr, valS_nilCheck, valS_len, valS_max, valS_min, valS_slice, valS_convert, valS_makeFunc, valS_build, valS_buildSlice, rowT, rowF, sz2, ag2, tk2, by2, ze2, Try.underlying2, sz3, ag3, tk3, by3, ze3, Try.underlying3, sz4, ag4, tk4, by4, ze4, Try.underlying4, sz5, ag5, tk5, by5, ze5, Try.underlying5, sz9, ag9, tk9, st9, by9, ze9, Try.underlying9, sz22, ag22, tk22, st22, by22, ze22, Try.underlying22, sz23, ag23, tk23, by23, ze23, Try.underlying23, sz25, ag25, tk25, by25, ze25, Try.underlying25, sz29, ag29, tk29, by29, ze29, of29, Try.underlying29, sz31, ag31, tk31, st31, by31, ze31, Try.underlying31, sz37, ag37, tk37, by37, ze37, Try.underlying37, sz44, ag44, tk44, by44, ze44, Try.underlying44, sz46, ag46, tk46, by46, ze46, of46, Try.underlying46, sz49, ag49, tk49, by49, ze49, Try.underlying49, sz51, ag51, tk51, by51, ze51, of51, Try.underlying51, sz52, ag52, tk52, st52, by52, ze52, Try.underlying52, sz55, ag55, tk55, by55, ze55, of55, Try.underlying55, sz73, ag73, tk73, st73, by73, ze73, Try.underlying73, mo, ok3, ok4, ok5, ok6, ok7, ok8, ok9, ok10, ok11, ok12, ok13, ok14, ok15, ok16, ok17, ok18, ok19, ok20, ok21, ok22, ok23, ok24, ok25, ok26, ok28, ok29, ok30, ok31, ok32, ok33, ok34, ok35, ok36, ok37, ok38, ok39, ok40, ok43, ok44, ok45, ok46, ok47, ok58, ok59, ok65, ok66, ok67, ok68, ok69, ok70, ok72, ok73, ok74, ok75, ok76, ok77, ok78, ok79, ok80, ok81, pl3, pl4, pl5, pl6, pl7, pl8, pl17, pl19, pl22, pl25, pl58, pl74, t1, rowU]
  refine typing_sp _ _ 8 H1 _ hv (by decide) ?_
  simp [ev_skip, ev_seq, ev_cond2, ev_block, ev_exit, ev_ret, ev_region2, ev_loop, loopK, evOps_nil, evOps_cons, opG_none, opG_some, opJ, opU_true, opU_ft, opU_ff, isU_undef, isU_bool, valU_true, valU_false, opK_eq, opA_move, opA_assign, opA_pick, opA_bin, opA_un, opA_extract, opA_field, opA_load, opA_index, opA_indexAddr, opA_fieldAddr, opA_nilCheck, opA_len, opA_call, opA_max, opA_min, opA_alloc, opA_box, opA_store, opA_buildSlice, opA_makeSlice, opA_append, opA_copy, opA_convert, opA_makeMap, opA_slice, opA_makeFunc, opA_build, putO_some, putH_lt, putH_none, putC_lt, putC_none, putU_lt, putU_none, putV_lt, putV_none, condB_true, condB_false, CondP_true, CondP_false, binT_some, binA_int, binA_str, binA_eqb, binA_neb, binA, eqRef, avO_some, avO_none, avOf, pickT_true, pickT_false, pickT, unT, extractT, loadT, nilCheckT, lenT_str, lenT_row, lenT_sl, lenT_nil, lenT_arr, lenT_mp, lenT_nomp, maxT, minT, maxA, minA, fieldT, fieldAddrT, indexT, indexAddrT, allocT, boxT, storeT, buildSliceT, makeSliceT, appendT, copyT, convV, convC, convT, makeMapT, bndT, sliceT, fnT, bytesOf_nil, bytesOf_one, repeatL_0, repeatL_1, repeatL_2, repeatL_3, repeatL_4, buildZ, partsZ, fillO, aggO, io_add, io_sub, io_mul, io_quo, io_rem, io_shl, io_shr, io_and, io_or, io_xor, io_eql, io_neq, io_lss, io_leq, io_gtr, io_geq, strOp, opS_tmp, opS_const, opV_tmp, opV_const, opS, opV, look_eq, look_ne, Go.Mx.look, fr0, argSlots, seqK_n, seqK_r, seqK_e, seqK, blockK_n, blockK_r, blockK, Fr.known, Fr.newBox, dropBp, retK, retA, resA, mapO, unA, convInt, convStr, strOf, callA, extractA, lenM, cellsA_v, cellsA_agg, cellsA_row, cellsA_sl, cellsA_ptr, cellsA_rp, cellsA_mp, cellsA_fn, okPart_v, okPart_agg, okPart_row, okPart_sl, okPart_ptr, okPart_rp, okPart_mp, okPart_fn, Value.oneCell', fieldA, partA, loadA, loadS, plusS, indexAddrA, indexArrA, nilCheckS, sliceA, sliceArr, fillA, newK, storeS, headK, getV, getB, chkP, mkFr, slotsOf, ptrsOf, boxesOf, firstReg, bindO, makeA, appA, copyA, srcA, srcTy, okPart_u8, cellsA_u8, Cond_iff, orO_some, orO_none, eqT_some, opA_entry, entryT_some, lookT_some, updT_some, delT_some, clearT_some, rangeT_some, nextT_some, makeMapH, opA_lookup, opA_makeMap2, opA_upd, opA_delete, opA_clear, opA_range, opA_next, valS_lookup, ev_draw, drawK, evP_nil, evP_q, evP_s, opAt_some, chkK_eq, sameV_some, sameO_some, allQ_nil, allQ_cons, valG_some, valJ, valQ_none, valQ_some, valS_move, valS_pick, valS_bin, valS_un, valS_extract, valS_field, valS_load, valS_index, valS_indexAddr, valS_fieldAddr, valS_nilCheck, valS_len, valS_max, valS_min, valS_slice, valS_convert, valS_makeFunc, valS_build, valS_buildSlice, rowT, rowF, sz2, ag2, tk2, by2, ze2, Try.underlying2, sz3, ag3, tk3, by3, ze3, Try.underlying3, sz4, ag4, tk4, by4, ze4, Try.underlying4, sz5, ag5, tk5, by5, ze5, Try.underlying5, sz9, ag9, tk9, st9, by9, ze9, Try.underlying9, sz22, ag22, tk22, st22, by22, ze22, Try.underlying22, sz23, ag23, tk23, by23, ze23, Try.underlying23, sz25, ag25, tk25, by25, ze25, Try.underlying25, sz29, ag29, tk29, by29, ze29, of29, Try.underlying29, sz31, ag31, tk31, st31, by31, ze31, Try.underlying31, sz37, ag37, tk37, by37, ze37, Try.underlying37, sz44, ag44, tk44, by44, ze44, Try.underlying44, sz46, ag46, tk46, by46, ze46, of46, Try.underlying46, sz49, ag49, tk49, by49, ze49, Try.underlying49, sz51, ag51, tk51, by51, ze51, of51, Try.underlying51, sz52, ag52, tk52, st52, by52, ze52, Try.underlying52, sz55, ag55, tk55, by55, ze55, of55, Try.underlying55, sz73, ag73, tk73, st73, by73, ze73, Try.underlying73, mo, ok3, ok4, ok5, ok6, ok7, ok8, ok9, ok10, ok11, ok12, ok13, ok14, ok15, ok16, ok17, ok18, ok19, ok20, ok21, ok22, ok23, ok24, ok25, ok26, ok28, ok29, ok30, ok31, ok32, ok33, ok34, ok35, ok36, ok37, ok38, ok39, ok40, ok43, ok44, ok45, ok46, ok47, ok58, ok59, ok65, ok66, ok67, ok68, ok69, ok70, ok72, ok73, ok74, ok75, ok76, ok77, ok78, ok79, ok80, ok81, pl3, pl4, pl5, pl6, pl7, pl8, pl17, pl19, pl22, pl25, pl58, pl74, t2, rowU]
  refine typing_sp _ _ 9 H1 _ hv (by decide) ?_
  simp [ev_skip, ev_seq, ev_cond2, ev_block, ev_exit, ev_ret, ev_region2, ev_loop, loopK, evOps_nil, evOps_cons, opG_none, opG_some, opJ, opU_true, opU_ft, opU_ff, isU_undef, isU_bool, valU_true, valU_false, opK_eq, opA_move, opA_assign, opA_pick, opA_bin, opA_un, opA_extract, opA_field, opA_load, opA_index, opA_indexAddr, opA_fieldAddr, opA_nilCheck, opA_len, opA_call, opA_max, opA_min, opA_alloc, opA_box, opA_store, opA_buildSlice, opA_makeSlice, opA_append, opA_copy, opA_convert, opA_makeMap, opA_slice, opA_makeFunc, opA_build, putO_some, putH_lt, putH_none, putC_lt, putC_none, putU_lt, putU_none, putV_lt, putV_none, condB_true, condB_false, CondP_true, CondP_false, binT_some, binA_int, binA_str, binA_eqb, binA_neb, binA, eqRef, avO_some, avO_none, avOf, pickT_true, pickT_false, pickT, unT, extractT, loadT, nilCheckT, lenT_str, lenT_row, lenT_sl, lenT_nil, lenT_arr, lenT_mp, lenT_nomp, maxT, minT, maxA, minA, fieldT, fieldAddrT, indexT, indexAddrT, allocT, boxT, storeT, buildSliceT, makeSliceT, appendT, copyT, convV, convC, convT, makeMapT, bndT, sliceT, fnT, bytesOf_nil, bytesOf_one, repeatL_0, repeatL_1, repeatL_2, repeatL_3, repeatL_4, buildZ, partsZ, fillO, aggO, io_add, io_sub, io_mul, io_quo, io_rem, io_shl, io_shr, io_and, io_or, io_xor, io_eql, io_neq, io_lss, io_leq, io_gtr, io_geq, strOp, opS_tmp, opS_const, opV_tmp, opV_const, opS, opV, look_eq, look_ne, Go.Mx.look, fr0, argSlots, seqK_n, seqK_r, seqK_e, seqK, blockK_n, blockK_r, blockK, Fr.known, Fr.newBox, dropBp, retK, retA, resA, mapO, unA, convInt, convStr, strOf, callA, extractA, lenM, cellsA_v, cellsA_agg, cellsA_row, cellsA_sl, cellsA_ptr, cellsA_rp, cellsA_mp, cellsA_fn, okPart_v, okPart_agg, okPart_row, okPart_sl, okPart_ptr, okPart_rp, okPart_mp, okPart_fn, Value.oneCell', fieldA, partA, loadA, loadS, plusS, indexAddrA, indexArrA, nilCheckS, sliceA, sliceArr, fillA, newK, storeS, headK, getV, getB, chkP, mkFr, slotsOf, ptrsOf, boxesOf, firstReg, bindO, makeA, appA, copyA, srcA, srcTy, okPart_u8, cellsA_u8, Cond_iff, orO_some, orO_none, eqT_some, opA_entry, entryT_some, lookT_some, updT_some, delT_some, clearT_some, rangeT_some, nextT_some, makeMapH, opA_lookup, opA_makeMap2, opA_upd, opA_delete, opA_clear, opA_range, opA_next, valS_lookup, ev_draw, drawK, evP_nil, evP_q, evP_s, opAt_some, chkK_eq, sameV_some, sameO_some, allQ_nil, allQ_cons, valG_some, valJ, valQ_none, valQ_some, valS_move, valS_pick, valS_bin, valS_un, valS_extract, valS_field, valS_load, valS_index, valS_indexAddr, valS_fieldAddr, valS_nilCheck, valS_len, valS_max, valS_min, valS_slice, valS_convert, valS_makeFunc, valS_build, valS_buildSlice, rowT, rowF, sz2, ag2, tk2, by2, ze2, Try.underlying2, sz3, ag3, tk3, by3, ze3, Try.underlying3, sz4, ag4, tk4, by4, ze4, Try.underlying4, sz5, ag5, tk5, by5, ze5, Try.underlying5, sz9, ag9, tk9, st9, by9, ze9, Try.underlying9, sz22, ag22, tk22, st22, by22, ze22, Try.underlying22, sz23, ag23, tk23, by23, ze23, Try.underlying23, sz25, ag25, tk25, by25, ze25, Try.underlying25, sz29, ag29, tk29, by29, ze29, of29, Try.underlying29, sz31, ag31, tk31, st31, by31, ze31, Try.underlying31, sz37, ag37, tk37, by37, ze37, Try.underlying37, sz44, ag44, tk44, by44, ze44, Try.underlying44, sz46, ag46, tk46, by46, ze46, of46, Try.underlying46, sz49, ag49, tk49, by49, ze49, Try.underlying49, sz51, ag51, tk51, by51, ze51, of51, Try.underlying51, sz52, ag52, tk52, st52, by52, ze52, Try.underlying52, sz55, ag55, tk55, by55, ze55, of55, Try.underlying55, sz73, ag73, tk73, st73, by73, ze73, Try.underlying73, mo, ok3, ok4, ok5, ok6, ok7, ok8, ok9, ok10, ok11, ok12, ok13, ok14, ok15, ok16, ok17, ok18, ok19, ok20, ok21, ok22, ok23, ok24, ok25, ok26, ok28, ok29, ok30, ok31, ok32, ok33, ok34, ok35, ok36, ok37, ok38, ok39, ok40, ok43, ok44, ok45, ok46, ok47, ok58, ok59, ok65, ok66, ok67, ok68, ok69, ok70, ok72, ok73, ok74, ok75, ok76, ok77, ok78, ok79, ok80, ok81, pl3, pl4, pl5, pl6, pl7, pl8, pl17, pl19, pl22, pl25, pl58, pl74, t3, rowU]
  refine presence_sp _ _ _ 60 H1 _ hv (by decide) ?_
  simp [ev_skip, ev_seq, ev_cond2, ev_block, ev_exit, ev_ret, ev_region2, ev_loop, loopK, evOps_nil, evOps_cons, opG_none, opG_some, opJ, opU_true, opU_ft, opU_ff, isU_undef, isU_bool, valU_true, valU_false, opK_eq, opA_move, opA_assign, opA_pick, opA_bin, opA_un, opA_extract, opA_field, opA_load, opA_index, opA_indexAddr, opA_fieldAddr, opA_nilCheck, opA_len, opA_call, opA_max, opA_min, opA_alloc, opA_box, opA_store, opA_buildSlice, opA_makeSlice, opA_append, opA_copy, opA_convert, opA_makeMap, opA_slice, opA_makeFunc, opA_build, putO_some, putH_lt, putH_none, putC_lt, putC_none, putU_lt, putU_none, putV_lt, putV_none, condB_true, condB_false, CondP_true, CondP_false, binT_some, binA_int, binA_str, binA_eqb, binA_neb, binA, eqRef, avO_some, avO_none, avOf, pickT_true, pickT_false, pickT, unT, extractT, loadT, nilCheckT, lenT_str, lenT_row, lenT_sl, lenT_nil, lenT_arr, lenT_mp, lenT_nomp, maxT, minT, maxA, minA, fieldT, fieldAddrT, indexT, indexAddrT, allocT, boxT, storeT, buildSliceT, makeSliceT, appendT, copyT, convV, convC, convT, makeMapT, bndT, sliceT, fnT, bytesOf_nil, bytesOf_one, repeatL_0, repeatL_1, repeatL_2, repeatL_3, repeatL_4, buildZ, partsZ, fillO, aggO, io_add, io_sub, io_mul, io_quo, io_rem, io_shl, io_shr, io_and, io_or, io_xor, io_eql, io_neq, io_lss, io_leq, io_gtr, io_geq, strOp, opS_tmp, opS_const, opV_tmp, opV_const, opS, opV, look_eq, look_ne, Go.Mx.look, fr0, argSlots, seqK_n, seqK_r, seqK_e, seqK, blockK_n, blockK_r, blockK, Fr.known, Fr.newBox, dropBp, retK, retA, resA, mapO, unA, convInt, convStr, strOf, callA, extractA, lenM, cellsA_v, cellsA_agg, cellsA_row, cellsA_sl, cellsA_ptr, cellsA_rp, cellsA_mp, cellsA_fn, okPart_v, okPart_agg, okPart_row, okPart_sl, okPart_ptr, okPart_rp, okPart_mp, okPart_fn, Value.oneCell', fieldA, partA, loadA, loadS, plusS, indexAddrA, indexArrA, nilCheckS, sliceA, sliceArr, fillA, newK, storeS, headK, getV, getB, chkP, mkFr, slotsOf, ptrsOf, boxesOf, firstReg, bindO, makeA, appA, copyA, srcA, srcTy, okPart_u8, cellsA_u8, Cond_iff, orO_some, orO_none, eqT_some, opA_entry, entryT_some, lookT_some, updT_some, delT_some, clearT_some, rangeT_some, nextT_some, makeMapH, opA_lookup, opA_makeMap2, opA_upd, opA_delete, opA_clear, opA_range, opA_next, valS_lookup, ev_draw, drawK, evP_nil, evP_q, evP_s, opAt_some, chkK_eq, sameV_some, sameO_some, allQ_nil, allQ_cons, valG_some, valJ, valQ_none, valQ_some, valS_move, valS_pick, valS_bin, valS_un, valS_extract, valS_field, valS_load, valS_index, valS_indexAddr, valS_fieldAddr, valS_nilCheck, valS_len, valS_max, valS_min, valS_slice, valS_convert, valS_makeFunc, valS_build, valS_buildSlice, rowT, rowF, sz2, ag2, tk2, by2, ze2, Try.underlying2, sz3, ag3, tk3, by3, ze3, Try.underlying3, sz4, ag4, tk4, by4, ze4, Try.underlying4, sz5, ag5, tk5, by5, ze5, Try.underlying5, sz9, ag9, tk9, st9, by9, ze9, Try.underlying9, sz22, ag22, tk22, st22, by22, ze22, Try.underlying22, sz23, ag23, tk23, by23, ze23, Try.underlying23, sz25, ag25, tk25, by25, ze25, Try.underlying25, sz29, ag29, tk29, by29, ze29, of29, Try.underlying29, sz31, ag31, tk31, st31, by31, ze31, Try.underlying31, sz37, ag37, tk37, by37, ze37, Try.underlying37, sz44, ag44, tk44, by44, ze44, Try.underlying44, sz46, ag46, tk46, by46, ze46, of46, Try.underlying46, sz49, ag49, tk49, by49, ze49, Try.underlying49, sz51, ag51, tk51, by51, ze51, of51, Try.underlying51, sz52, ag52, tk52, st52, by52, ze52, Try.underlying52, sz55, ag55, tk55, by55, ze55, of55, Try.underlying55, sz73, ag73, tk73, st73, by73, ze73, Try.underlying73, mo, ok3, ok4, ok5, ok6, ok7, ok8, ok9, ok10, ok11, ok12, ok13, ok14, ok15, ok16, ok17, ok18, ok19, ok20, ok21, ok22, ok23, ok24, ok25, ok26, ok28, ok29, ok30, ok31, ok32, ok33, ok34, ok35, ok36, ok37, ok38, ok39, ok40, ok43, ok44, ok45, ok46, ok47, ok58, ok59, ok65, ok66, ok67, ok68, ok69, ok70, ok72, ok73, ok74, ok75, ok76, ok77, ok78, ok79, ok80, ok81, pl3, pl4, pl5, pl6, pl7, pl8, pl17, pl19, pl22, pl25, pl58, pl74, p1, onT]
  refine presence_sp _ _ _ 100 H1 _ hv (by decide) ?_
  simp [ev_skip, ev_seq, ev_cond2, ev_block, ev_exit, ev_ret, ev_region2, ev_loop, loopK, evOps_nil, evOps_cons, opG_none, opG_some, opJ, opU_true, opU_ft, opU_ff, isU_undef, isU_bool, valU_true, valU_false, opK_eq, opA_move, opA_assign, opA_pick, opA_bin, opA_un, opA_extract, opA_field, opA_load, opA_index, opA_indexAddr, opA_fieldAddr, opA_nilCheck, opA_len, opA_call, opA_max, opA_min, opA_alloc, opA_box, opA_store, opA_buildSlice, opA_makeSlice, opA_append, opA_copy, opA_convert, opA_makeMap, opA_slice, opA_makeFunc, opA_build, putO_some, putH_lt, putH_none, putC_lt, putC_none, putU_lt, putU_none, putV_lt, putV_none, condB_true, condB_false, CondP_true, CondP_false, binT_some, binA_int, binA_str, binA_eqb, binA_neb, binA, eqRef, avO_some, avO_none, avOf, pickT_true, pickT_false, pickT, unT, extractT, loadT, nilCheckT, lenT_str, lenT_row, lenT_sl, lenT_nil, lenT_arr, lenT_mp, lenT_nomp, maxT, minT, maxA, minA, fieldT, fieldAddrT, indexT, indexAddrT, allocT, boxT, storeT, buildSliceT, makeSliceT, appendT, copyT, convV, convC, convT, makeMapT, bndT, sliceT, fnT, bytesOf_nil, bytesOf_one, repeatL_0, repeatL_1, repeatL_2, repeatL_3, repeatL_4, buildZ, partsZ, fillO, aggO, io_add, io_sub, io_mul, io_quo, io_rem, io_shl, io_shr, io_and, io_or, io_xor, io_eql, io_neq, io_lss, io_leq, io_gtr, io_geq, strOp, opS_tmp, opS_const, opV_tmp, opV_const, opS, opV, look_eq, look_ne, Go.Mx.look, fr0, argSlots, seqK_n, seqK_r, seqK_e, seqK, blockK_n, blockK_r, blockK, Fr.known, Fr.newBox, dropBp, retK, retA, resA, mapO, unA, convInt, convStr, strOf, callA, extractA, lenM, cellsA_v, cellsA_agg, cellsA_row, cellsA_sl, cellsA_ptr, cellsA_rp, cellsA_mp, cellsA_fn, okPart_v, okPart_agg, okPart_row, okPart_sl, okPart_ptr, okPart_rp, okPart_mp, okPart_fn, Value.oneCell', fieldA, partA, loadA, loadS, plusS, indexAddrA, indexArrA, nilCheckS, sliceA, sliceArr, fillA, newK, storeS, headK, getV, getB, chkP, mkFr, slotsOf, ptrsOf, boxesOf, firstReg, bindO, makeA, appA, copyA, srcA, srcTy, okPart_u8, cellsA_u8, Cond_iff, orO_some, orO_none, eqT_some, opA_entry, entryT_some, lookT_some, updT_some, delT_some, clearT_some, rangeT_some, nextT_some, makeMapH, opA_lookup, opA_makeMap2, opA_upd, opA_delete, opA_clear, opA_range, opA_next, valS_lookup, ev_draw, drawK, evP_nil, evP_q, evP_s, opAt_some, chkK_eq, sameV_some, sameO_some, allQ_nil, allQ_cons, valG_some, valJ, valQ_none, valQ_some, valS_move, valS_pick, valS_bin, valS_un, valS_extract, valS_field, valS_load, valS_index, valS_indexAddr, valS_fieldAddr, valS_nilCheck, valS_len, valS_max, valS_min, valS_slice, valS_convert, valS_makeFunc, valS_build, valS_buildSlice, rowT, rowF, sz2, ag2, tk2, by2, ze2, Try.underlying2, sz3, ag3, tk3, by3, ze3, Try.underlying3, sz4, ag4, tk4, by4, ze4, Try.underlying4, sz5, ag5, tk5, by5, ze5, Try.underlying5, sz9, ag9, tk9, st9, by9, ze9, Try.underlying9, sz22, ag22, tk22, st22, by22, ze22, Try.underlying22, sz23, ag23, tk23, by23, ze23, Try.underlying23, sz25, ag25, tk25, by25, ze25, Try.underlying25, sz29, ag29, tk29, by29, ze29, of29, Try.underlying29, sz31, ag31, tk31, st31, by31, ze31, Try.underlying31, sz37, ag37, tk37, by37, ze37, Try.underlying37, sz44, ag44, tk44, by44, ze44, Try.underlying44, sz46, ag46, tk46, by46, ze46, of46, Try.underlying46, sz49, ag49, tk49, by49, ze49, Try.underlying49, sz51, ag51, tk51, by51, ze51, of51, Try.underlying51, sz52, ag52, tk52, st52, by52, ze52, Try.underlying52, sz55, ag55, tk55, by55, ze55, of55, Try.underlying55, sz73, ag73, tk73, st73, by73, ze73, Try.underlying73, mo, ok3, ok4, ok5, ok6, ok7, ok8, ok9, ok10, ok11, ok12, ok13, ok14, ok15, ok16, ok17, ok18, ok19, ok20, ok21, ok22, ok23, ok24, ok25, ok26, ok28, ok29, ok30, ok31, ok32, ok33, ok34, ok35, ok36, ok37, ok38, ok39, ok40, ok43, ok44, ok45, ok46, ok47, ok58, ok59, ok65, ok66, ok67, ok68, ok69, ok70, ok72, ok73, ok74, ok75, ok76, ok77, ok78, ok79, ok80, ok81, pl3, pl4, pl5, pl6, pl7, pl8, pl17, pl19, pl22, pl25, pl58, pl74, p2, unaT]
  refine presence_sp _ _ _ 700 H1 _ hv (by decide) ?_
  simp [ev_skip, ev_seq, ev_cond2, ev_block, ev_exit, ev_ret, ev_region2, ev_loop, loopK, evOps_nil, evOps_cons, opG_none, opG_some, opJ, opU_true, opU_ft, opU_ff, isU_undef, isU_bool, valU_true, valU_false, opK_eq, opA_move, opA_assign, opA_pick, opA_bin, opA_un, opA_extract, opA_field, opA_load, opA_index, opA_indexAddr, opA_fieldAddr, opA_nilCheck, opA_len, opA_call, opA_max, opA_min, opA_alloc, opA_box, opA_store, opA_buildSlice, opA_makeSlice, opA_append, opA_copy, opA_convert, opA_makeMap, opA_slice, opA_makeFunc, opA_build, putO_some, putH_lt, putH_none, putC_lt, putC_none, putU_lt, putU_none, putV_lt, putV_none, condB_true, condB_false, CondP_true, CondP_false, binT_some, binA_int, binA_str, binA_eqb, binA_neb, binA, eqRef, avO_some, avO_none, avOf, pickT_true, pickT_false, pickT, unT, extractT, loadT, nilCheckT, lenT_str, lenT_row, lenT_sl, lenT_nil, lenT_arr, lenT_mp, lenT_nomp, maxT, minT, maxA, minA, fieldT, fieldAddrT, indexT, indexAddrT, allocT, boxT, storeT, buildSliceT, makeSliceT, appendT, copyT, convV, convC, convT, makeMapT, bndT, sliceT, fnT, bytesOf_nil, bytesOf_one, repeatL_0, repeatL_1, repeatL_2, repeatL_3, repeatL_4, buildZ, partsZ, fillO, aggO, io_add, io_sub, io_mul, io_quo, io_rem, io_shl, io_shr, io_and, io_or, io_xor, io_eql, io_neq, io_lss, io_leq, io_gtr, io_geq, strOp, opS_tmp, opS_const, opV_tmp, opV_const, opS, opV, look_eq, look_ne, Go.Mx.look, fr0, argSlots, seqK_n, seqK_r, seqK_e, seqK, blockK_n, blockK_r, blockK, Fr.known, Fr.newBox, dropBp, retK, retA, resA, mapO, unA, convInt, convStr, strOf, callA, extractA, lenM, cellsA_v, cellsA_agg, cellsA_row, cellsA_sl, cellsA_ptr, cellsA_rp, cellsA_mp, cellsA_fn, okPart_v, okPart_agg, okPart_row, okPart_sl, okPart_ptr, okPart_rp, okPart_mp, okPart_fn, Value.oneCell', fieldA, partA, loadA, loadS, plusS, indexAddrA, indexArrA, nilCheckS, sliceA, sliceArr, fillA, newK, storeS, headK, getV, getB, chkP, mkFr, slotsOf, ptrsOf, boxesOf, firstReg, bindO, makeA, appA, copyA, srcA, srcTy, okPart_u8, cellsA_u8, Cond_iff, orO_some, orO_none, eqT_some, opA_entry, entryT_some, lookT_some, updT_some, delT_some, clearT_some, rangeT_some, nextT_some, makeMapH, opA_lookup, opA_makeMap2, opA_upd, opA_delete, opA_clear, opA_range, opA_next, valS_lookup, ev_draw, drawK, evP_nil, evP_q, evP_s, opAt_some, chkK_eq, sameV_some, sameO_some, allQ_nil, allQ_cons, valG_some, valJ, valQ_none, valQ_some, valS_move, valS_pick, valS_bin, valS_un, valS_extract, valS_field, valS_load, valS_index, valS_indexAddr, valS_fieldAddr, valS_nilCheck, valS_len, valS_max, valS_min, valS_slice, valS_convert, valS_makeFunc, valS_build, valS_buildSlice, rowT, rowF, sz2, ag2, tk2, by2, ze2, Try.underlying2, sz3, ag3, tk3, by3, ze3, Try.underlying3, sz4, ag4, tk4, by4, ze4, Try.underlying4, sz5, ag5, tk5, by5, ze5, Try.underlying5, sz9, ag9, tk9, st9, by9, ze9, Try.underlying9, sz22, ag22, tk22, st22, by22, ze22, Try.underlying22, sz23, ag23, tk23, by23, ze23, Try.underlying23, sz25, ag25, tk25, by25, ze25, Try.underlying25, sz29, ag29, tk29, by29, ze29, of29, Try.underlying29, sz31, ag31, tk31, st31, by31, ze31, Try.underlying31, sz37, ag37, tk37, by37, ze37, Try.underlying37, sz44, ag44, tk44, by44, ze44, Try.underlying44, sz46, ag46, tk46, by46, ze46, of46, Try.underlying46, sz49, ag49, tk49, by49, ze49, Try.underlying49, sz51, ag51, tk51, by51, ze51, of51, Try.underlying51, sz52, ag52, tk52, st52, by52, ze52, Try.underlying52, sz55, ag55, tk55, by55, ze55, of55, Try.underlying55, sz73, ag73, tk73, st73, by73, ze73, Try.underlying73, mo, ok3, ok4, ok5, ok6, ok7, ok8, ok9, ok10, ok11, ok12, ok13, ok14, ok15, ok16, ok17, ok18, ok19, ok20, ok21, ok22, ok23, ok24, ok25, ok26, ok28, ok29, ok30, ok31, ok32, ok33, ok34, ok35, ok36, ok37, ok38, ok39, ok40, ok43, ok44, ok45, ok46, ok47, ok58, ok59, ok65, ok66, ok67, ok68, ok69, ok70, ok72, ok73, ok74, ok75, ok76, ok77, ok78, ok79, ok80, ok81, pl3, pl4, pl5, pl6, pl7, pl8, pl17, pl19, pl22, pl25, pl58, pl74, p3, offT]
  exact h _ hs

/-! ### What is handed over -/
def SzS (s : Sg) : Prop := s.user.size ≤ 140737488351232
theorem sg_read {xs : List AV} (h : Shp Try.prog 29 xs) : ∃ s : Sg, xs = sgC s ∧ SzS s := by
  obtain ⟨ps, rfl, hp⟩ := shp_struct Try.underlying29 h
  obtain ⟨s0, e0, z0⟩ := shp_str Try.underlying9 (hp 0 _ rfl)
  obtain ⟨n1, e1, _⟩ := shp_int Try.underlying3 (hp 1 _ rfl)
  obtain ⟨n2, e2, _⟩ := shp_int Try.underlying2 (hp 2 _ rfl)
  obtain ⟨n3, e3, _⟩ := shp_int Try.underlying2 (hp 3 _ rfl)
  exact ⟨⟨s0, n1, n2, n3⟩, by simp [List.range_succ, e0, e1, e2, e3, sgC], z0⟩
theorem sgs_read {x : AV} (h : Shp Try.prog 22 [x]) : ∃ l : List Sg, x = rowG l := by
  obtain ⟨l, h1, _, _⟩ := shp_rows Try.underlying22 (fun _ ha => sg_read ha) h
  simp at h1
  exact ⟨l, h1⟩
theorem one_read {xs : List AV} (h : Shp Try.prog 29 xs) : ∃ s : Sg, xs = sgC s := by
  obtain ⟨x, h1, _⟩ := sg_read h
  exact ⟨x, h1⟩
def W64 (z : Int) : Prop := -9223372036854775808 ≤ z ∧ z ≤ 9223372036854775807
theorem wf64' {z : Int} (h : (Lit.int .i64 z).wf = true) : W64 z := by
  simp [Lit.wf, IntKind.min, IntKind.max, IntKind.signed, IntKind.bits] at h
  exact ⟨by omega, by omega⟩
/-- Two times. -/
theorem two_read {xs : List AV} (h : Shp Try.prog 23 xs) : ∃ t : {t : Int × Int // W64 t.1 ∧ W64 t.2}, xs = [.v (.int .i64 t.1.1), .v (.int .i64 t.1.2)] := by
  obtain ⟨ads, rfl, hp⟩ := shp_array Try.underlying23 h
  obtain ⟨n0, e0, z0⟩ := shp_int Try.underlying2 (hp 0 (by omega))
  obtain ⟨n1, e1, z1⟩ := shp_int Try.underlying2 (hp 1 (by omega))
  exact ⟨⟨(n0, n1), wf64' z0, wf64' z1⟩, by simp [List.range_succ, e0, e1]⟩
end Go.Proofs.Ytohmgnbndhojpaa

namespace Go.Proofs.Ytohmgnbndhojpaa
open Go.Mx
set_option linter.unusedVariables false
set_option linter.unusedSimpArgs false

theorem OkL.nil : OkL [] := ⟨List.Pairwise.nil, by simp⟩
theorem sweepN_sp (v : AV) (now : Int) (H : Hp) (Q : AV → Hp → Prop) (hv : NoBd H v) (h : Q (.v (.int .i64 0)) H) : Sp Try.prog 25 [v, .v (.int .i64 now)] Q H := by
  refine Sp.body [(3, ⟨[0, 1, 5, 9, 10, 11], [], []⟩)] ⟨[7], [], pl25⟩ tb25 mo Try.func25 rfl (Nat.le_of_ble_eq_true rfl) (by kernel_rfl) ?_
  simp [ev_seq, ev_region2, evOps_nil, evOps_cons, opG_none, opA_move, opA_assign, opA_call, putO_some, putH_lt, opS, opV, Go.Mx.look, fr0, argSlots, seqK, mapO, callA, ok11, pl25]
  refine all_sp _ [] H _ hv.v (by decide) ?_
  simp [ev_block, ev_loop, loopK, evOps_nil, evOps_cons, opG_none, opA_move, opA_len, putO_some, putH_lt, putC_lt, lenT_row, opS, opV, Go.Mx.look, seqK, mapO, headK, getV, getB, chkP, firstReg, Try.underlying22]
  refine LoopC.intro (fun n xs _ H2 => xs = [v, .v (.int .i64 now), .v (.int .i64 0), .row false 0 [], .v (.int .i64 0), .v (.int .i64 0)] ∧ H2 = H) 0 ⟨by simp, rfl⟩ ?_
  rintro n xs bs H2 ⟨rfl, rfl⟩
  simp [ev_seq, ev_cond2, ev_exit, ev_ret, ev_region2, evOps_nil, evOps_cons, opG_none, opA_move, opA_assign, opA_bin, putO_some, putH_lt, condB_false, binT_some, binA, avO_some, io_lss, opS, opV, Go.Mx.look, seqK, blockK, Fr.known, retK, retA, resA, mapO, mkFr, slotsOf, ptrsOf, boxesOf, orO_some, eqT_some, tk3]
  exact h
theorem boardL_ok {l : List Sg} (hf : ∀ s ∈ l, s.user.size ≤ 100) : OkL (boardL l) := by
  have : ∀ (l L : List Sg), (∀ s ∈ l, s.user.size ≤ 100) → OkL L → OkL (l.foldl putR L) := by
    intro l
    induction l with
    | nil => intro L _ h; exact h
    | cons s r ih =>
      intro L hf h
      refine ih _ (fun x hx => hf x (by simp [hx])) ?_
      unfold putR
      split
      · rename_i hr
        refine ⟨h.1.put s, fun x hx => ?_⟩
        unfold putL at hx
        split at hx
        · exact h.2 x hx
        · rcases (mem_ins s x L).1 hx with rfl | ⟨hx, _⟩
          · exact ⟨hr, hf x (by simp)⟩
          · exact h.2 x hx
      · exact h
  exact this l [] hf OkL.nil
theorem NoBd.same {H H' : Hp} {v : AV} (h : NoBd H v) (hs : Same [] H H') : NoBd H' v := h.imp (fun h => h) (fun ⟨b, h1, h2⟩ => ⟨b, h1, hs.2 _ _ h2 (by simp)⟩)
def NnInv (s : Sg) (now : Int) (g : Nat) (n : Nat) (xs : List AV) (bs : List (List AV)) (H4 : Hp) : Prop :=
  ∃ m : Nat, m ≤ 2 ∧ n = 2 - m ∧ xs = [.v (.int .i64 now), .row true 2 [.v (.pointer none), .ptr g 0 0], .v (.int .i64 m)] ∧ bs = [sgC s] ∧ H4[g]? = some (.cells 0 [.v (.map none)])
set_option maxRecDepth 20000 in
set_option maxHeartbeats 4000000 in
theorem none_law (s : Sg) (now : Int) : Sp Try.prog 8 [.agg (sgC s), .v (.int .i64 now)] (fun v _ => v = .v (.bool true)) [] := by
  refine Sp.body [(5, ⟨[1, 5, 6], [(2, 2, 0)], [2]⟩)] ⟨[2], [], pl8⟩ tb8 mo Try.func8 rfl (Nat.le_of_ble_eq_true rfl) (by kernel_rfl) ?_
  simp [ev_seq, ev_region2, evOps_nil, evOps_cons, opG_none, opA_assign, opA_load, opA_call, opA_box, opA_buildSlice, putO_some, putH_lt, loadT, boxT, buildSliceT, repeatL_1, opS, opV, Go.Mx.look, fr0, argSlots, seqK, Fr.newBox, dropBp, mapO, callA, cellsA_agg, okPart_agg, partA, loadS, fillA, newK, bindO, Try.underlying22, sz29, ag29, ze29, ok9, pl8, sgC]
  refine few_sp [s] true _ _ (fun hf => ?_) (fun _ => by simp [ev_seq, ev_cond2, ev_ret, ev_region2, evOps_nil, evOps_cons, opG_none, opA_assign, opA_un, putO_some, putH_lt, putC_lt, condB_true, unT, opS, opV, Go.Mx.look, seqK, Fr.known, retK, retA, resA, mapO, unA])
  have hz := hf.2 s (by simp)
  simp [ev_skip, ev_seq, ev_cond2, ev_block, ev_region2, ev_loop, loopK, evOps_nil, evOps_cons, opG_none, opA_assign, opA_un, opA_box, opA_buildSlice, opA_build, putO_some, putH_lt, putC_lt, condB_false, unT, boxT, buildSliceT, buildZ, partsZ, fillO, aggO, opS, opV, Go.Mx.look, seqK, Fr.known, mapO, unA, cellsA_v, cellsA_agg, cellsA_ptr, okPart_v, okPart_agg, okPart_ptr, Value.oneCell', fillA, newK, headK, getV, getB, chkP, firstReg, bindO, sz25, ze25, ze51, of51, Try.underlying52]
  refine LoopC.intro (fun n xs bs H5 => NnInv s now 0 n xs bs H5) 2 ⟨0, by omega, by omega, by simp, by simp [sgC], by simp⟩ ?_
  rintro n xs bs H5 ⟨m, hm, rfl, rfl, rfl, hg⟩
  rcases Nat.lt_or_ge m 2 with hm2 | hm2
  · have hmm : m = 0 ∨ m = 1 := by omega
    rcases hmm with rfl | rfl
    · have hv : NoBd H5 (.v (.pointer none)) := .inl rfl
      have w1 : IntKind.i64.wrap 1 = 1 := wr_i64 (by omega)
      simp [ev_skip, ev_seq, ev_cond2, ev_block, ev_region2, evOps_nil, evOps_cons, opG_none, opA_move, opA_bin, opA_load, opA_indexAddr, opA_len, opA_call, putO_some, putH_lt, condB_true, binT_some, binA, avO_some, loadT, lenT_row, indexAddrT, io_lss, opS, opV, Go.Mx.look, seqK, Fr.known, mapO, callA, partA, loadA, loadS, indexAddrA, mkFr, slotsOf, ptrsOf, boxesOf, orO_some, eqT_some, ev_draw, drawK, evP_q, evP_s, opAt_some, tk3, sz25, ag25, sz29, ag29, Try.underlying52, ok17, sgC]
      refine putN_sp _ s H5 _ hv ?_
      simp [ev_seq, opG_none, opG_some, opJ, opU_ff, isU_bool, opK_eq, opA_move, opA_assign, opA_pick, opA_bin, opA_extract, opA_load, opA_indexAddr, opA_call, opA_buildSlice, putO_some, putH_lt, putC_lt, condB_false, binT_some, binA, avO_some, pickT, extractT, loadT, indexAddrT, buildSliceT, repeatL_1, io_neq, opS, opV, Go.Mx.look, seqK, Fr.known, mapO, callA, extractA, cellsA_agg, okPart_agg, partA, loadA, loadS, indexAddrA, fillA, bindO, orO_some, eqT_some, ev_draw, drawK, evP_nil, evP_q, evP_s, opAt_some, chkK_eq, sameV_some, sameO_some, allQ_nil, allQ_cons, valQ_none, valS_extract, Try.underlying22, sz25, ag25, sz29, ag29, ze29, tk37, Try.underlying52, ok13]
      refine typing_sp _ [] now H5 _ hv.v (by decide) ?_
      simp [opG_some, opJ, opU_ff, isU_bool, valU_false, opK_eq, opA_len, opA_call, putO_some, putH_lt, putC_lt, condB_false, loadT, lenT_row, indexAddrT, repeatL_1, opS, opV, Go.Mx.look, Fr.known, mapO, callA, cellsA_agg, okPart_agg, partA, loadA, loadS, indexAddrA, fillA, evP_q, evP_s, opAt_some, chkK_eq, sameV_some, sameO_some, allQ_nil, allQ_cons, valJ, valQ_some, valS_move, valS_load, valS_indexAddr, valS_buildSlice, rowT, rowF, Try.underlying22, sz25, ag25, sz29, ag29, ze29, Try.underlying31, Try.underlying52, ok11, typL, rowU]
      refine all_sp _ [] H5 _ hv.v (by decide) ?_
      simp [opG_some, opJ, opU_ff, isU_bool, valU_false, opK_eq, opA_bin, opA_len, opA_call, putO_some, putH_lt, putC_lt, condB_false, binT_some, binA, avO_some, loadT, lenT_row, indexAddrT, repeatL_1, io_add, opS, opV, Go.Mx.look, Fr.known, mapO, callA, cellsA_agg, okPart_agg, partA, loadA, loadS, indexAddrA, fillA, orO_some, eqT_some, evP_q, evP_s, opAt_some, chkK_eq, sameV_some, sameO_some, allQ_nil, allQ_cons, valJ, valQ_some, valS_move, valS_load, valS_indexAddr, valS_len, valS_buildSlice, rowT, rowF, tk3, Try.underlying22, sz25, ag25, sz29, ag29, ze29, Try.underlying31, Try.underlying52, ok25]
      refine sweepN_sp _ now H5 _ hv ?_
      simp [opG_some, opJ, opU_ff, isU_bool, valU_false, opK_eq, opA_bin, opA_call, putO_some, putH_lt, putC_lt, condB_false, binT_some, binA, avO_some, loadT, lenT_row, indexAddrT, repeatL_1, io_add, opS, opV, Go.Mx.look, Fr.known, mapO, callA, cellsA_agg, okPart_agg, partA, loadA, loadS, indexAddrA, fillA, orO_some, eqT_some, evP_q, evP_s, opAt_some, chkK_eq, sameV_some, sameO_some, allQ_nil, allQ_cons, valJ, valQ_some, valS_move, valS_bin, valS_load, valS_indexAddr, valS_len, valS_buildSlice, rowT, rowF, tk3, Try.underlying22, sz25, ag25, sz29, ag29, ze29, Try.underlying31, Try.underlying52, ok10]
      refine board_sp true [s] H5 _ hf (fun b H6 fp hd hs hfp => ?_)
      simp [opG_some, opJ, opU_ff, isU_bool, valU_false, opK_eq, opA_call, putC_lt, condB_false, binT_some, binA, avO_some, loadT, lenT_row, indexAddrT, io_add, opS, opV, Go.Mx.look, Fr.known, mapO, callA, partA, loadA, loadS, indexAddrA, orO_some, eqT_some, evP_s, opAt_some, chkK_eq, sameV_some, sameO_some, allQ_nil, allQ_cons, valJ, valQ_some, valS_move, valS_bin, valS_load, valS_indexAddr, valS_len, tk3, Try.underlying22, sz25, ag25, Try.underlying31, Try.underlying52, ok18]
      refine mergeNo_sp _ _ _ H6 _ (hv.same hs) hd.v (Nat.le_trans (boardL_len _) (by simp)) ?_
      have w0 : IntKind.i64.wrap 0 = 0 := wr_i64 (by omega)
      simp [opG_none, opG_some, opJ, opU_ff, isU_bool, valU_false, opK_eq, opA_move, opA_pick, opA_bin, opA_load, opA_indexAddr, opA_fieldAddr, opA_call, putO_some, putH_lt, putC_lt, condB_false, binT_some, binA, avO_some, pickT, loadT, lenT_row, fieldAddrT, indexAddrT, io_add, io_neq, opS, opV, Go.Mx.look, Fr.known, mapO, callA, partA, loadA, loadS, plusS, indexAddrA, orO_some, eqT_some, evP_q, evP_s, opAt_some, chkK_eq, sameV_some, sameO_some, allQ_nil, allQ_cons, valJ, valQ_some, valS_bin, valS_len, tk3, sz9, ag9, Try.underlying22, sz25, ag25, Try.underlying29, Try.underlying31, Try.underlying52, ok15, w0]
      refine presence_sp _ [] s.user now H6 _ (hv.same hs).v (by omega) ?_
      simp [ev_skip, ev_cond2, ev_region2, evOps_nil, evOps_cons, opG_none, opG_some, opJ, opU_ff, isU_bool, opK_eq, opA_move, opA_assign, opA_pick, opA_bin, putO_some, putH_lt, putC_lt, condB_false, binT_some, binA, avO_some, pickT, io_add, strOp, opS, opV, Go.Mx.look, seqK, blockK, Fr.known, mapO, headK, getV, getB, chkP, orO_some, eqT_some, evP_nil, evP_q, opAt_some, chkK_eq, allQ_nil, tk3, tk9, presS, fK, offT, w1]
      exact ⟨1, by omega, 1, by omega, by omega, by simp, by simp [sgC], hs.2 _ _ hg (by simp)⟩
    · have hv : NoBd H5 (.ptr 0 0 0) := .inr ⟨0, rfl, hg⟩
      have w1 : IntKind.i64.wrap 2 = 2 := wr_i64 (by omega)
      simp [ev_skip, ev_seq, ev_cond2, ev_block, ev_region2, evOps_nil, evOps_cons, opG_none, opA_move, opA_bin, opA_load, opA_indexAddr, opA_len, opA_call, putO_some, putH_lt, condB_true, binT_some, binA, avO_some, loadT, lenT_row, indexAddrT, io_lss, opS, opV, Go.Mx.look, seqK, Fr.known, mapO, callA, partA, loadA, loadS, indexAddrA, mkFr, slotsOf, ptrsOf, boxesOf, orO_some, eqT_some, ev_draw, drawK, evP_q, evP_s, opAt_some, tk3, sz25, ag25, sz29, ag29, Try.underlying52, ok17, sgC]
      refine putN_sp _ s H5 _ hv ?_
      simp [ev_seq, opG_none, opG_some, opJ, opU_ff, isU_bool, opK_eq, opA_move, opA_assign, opA_pick, opA_bin, opA_extract, opA_load, opA_indexAddr, opA_call, opA_buildSlice, putO_some, putH_lt, putC_lt, condB_false, binT_some, binA, avO_some, pickT, extractT, loadT, indexAddrT, buildSliceT, repeatL_1, io_neq, opS, opV, Go.Mx.look, seqK, Fr.known, mapO, callA, extractA, cellsA_agg, okPart_agg, partA, loadA, loadS, indexAddrA, fillA, bindO, orO_some, eqT_some, ev_draw, drawK, evP_nil, evP_q, evP_s, opAt_some, chkK_eq, sameV_some, sameO_some, allQ_nil, allQ_cons, valQ_none, valS_extract, Try.underlying22, sz25, ag25, sz29, ag29, ze29, tk37, Try.underlying52, ok13]
      refine typing_sp _ [] now H5 _ hv.v (by decide) ?_
      simp [opG_some, opJ, opU_ff, isU_bool, valU_false, opK_eq, opA_len, opA_call, putO_some, putH_lt, putC_lt, condB_false, loadT, lenT_row, indexAddrT, repeatL_1, opS, opV, Go.Mx.look, Fr.known, mapO, callA, cellsA_agg, okPart_agg, partA, loadA, loadS, indexAddrA, fillA, evP_q, evP_s, opAt_some, chkK_eq, sameV_some, sameO_some, allQ_nil, allQ_cons, valJ, valQ_some, valS_move, valS_load, valS_indexAddr, valS_buildSlice, rowT, rowF, Try.underlying22, sz25, ag25, sz29, ag29, ze29, Try.underlying31, Try.underlying52, ok11, typL, rowU]
      refine all_sp _ [] H5 _ hv.v (by decide) ?_
      simp [opG_some, opJ, opU_ff, isU_bool, valU_false, opK_eq, opA_bin, opA_len, opA_call, putO_some, putH_lt, putC_lt, condB_false, binT_some, binA, avO_some, loadT, lenT_row, indexAddrT, repeatL_1, io_add, opS, opV, Go.Mx.look, Fr.known, mapO, callA, cellsA_agg, okPart_agg, partA, loadA, loadS, indexAddrA, fillA, orO_some, eqT_some, evP_q, evP_s, opAt_some, chkK_eq, sameV_some, sameO_some, allQ_nil, allQ_cons, valJ, valQ_some, valS_move, valS_load, valS_indexAddr, valS_len, valS_buildSlice, rowT, rowF, tk3, Try.underlying22, sz25, ag25, sz29, ag29, ze29, Try.underlying31, Try.underlying52, ok25]
      refine sweepN_sp _ now H5 _ hv ?_
      simp [opG_some, opJ, opU_ff, isU_bool, valU_false, opK_eq, opA_bin, opA_call, putO_some, putH_lt, putC_lt, condB_false, binT_some, binA, avO_some, loadT, lenT_row, indexAddrT, repeatL_1, io_add, opS, opV, Go.Mx.look, Fr.known, mapO, callA, cellsA_agg, okPart_agg, partA, loadA, loadS, indexAddrA, fillA, orO_some, eqT_some, evP_q, evP_s, opAt_some, chkK_eq, sameV_some, sameO_some, allQ_nil, allQ_cons, valJ, valQ_some, valS_move, valS_bin, valS_load, valS_indexAddr, valS_len, valS_buildSlice, rowT, rowF, tk3, Try.underlying22, sz25, ag25, sz29, ag29, ze29, Try.underlying31, Try.underlying52, ok10]
      refine board_sp true [s] H5 _ hf (fun b H6 fp hd hs hfp => ?_)
      simp [opG_some, opJ, opU_ff, isU_bool, valU_false, opK_eq, opA_call, putC_lt, condB_false, binT_some, binA, avO_some, loadT, lenT_row, indexAddrT, io_add, opS, opV, Go.Mx.look, Fr.known, mapO, callA, partA, loadA, loadS, indexAddrA, orO_some, eqT_some, evP_s, opAt_some, chkK_eq, sameV_some, sameO_some, allQ_nil, allQ_cons, valJ, valQ_some, valS_move, valS_bin, valS_load, valS_indexAddr, valS_len, tk3, Try.underlying22, sz25, ag25, Try.underlying31, Try.underlying52, ok18]
      refine mergeNo_sp _ _ _ H6 _ (hv.same hs) hd.v (Nat.le_trans (boardL_len _) (by simp)) ?_
      have w0 : IntKind.i64.wrap 0 = 0 := wr_i64 (by omega)
      simp [opG_none, opG_some, opJ, opU_ff, isU_bool, valU_false, opK_eq, opA_move, opA_pick, opA_bin, opA_load, opA_indexAddr, opA_fieldAddr, opA_call, putO_some, putH_lt, putC_lt, condB_false, binT_some, binA, avO_some, pickT, loadT, lenT_row, fieldAddrT, indexAddrT, io_add, io_neq, opS, opV, Go.Mx.look, Fr.known, mapO, callA, partA, loadA, loadS, plusS, indexAddrA, orO_some, eqT_some, evP_q, evP_s, opAt_some, chkK_eq, sameV_some, sameO_some, allQ_nil, allQ_cons, valJ, valQ_some, valS_bin, valS_len, tk3, sz9, ag9, Try.underlying22, sz25, ag25, Try.underlying29, Try.underlying31, Try.underlying52, ok15, w0]
      refine presence_sp _ [] s.user now H6 _ (hv.same hs).v (by omega) ?_
      simp [ev_skip, ev_cond2, ev_region2, evOps_nil, evOps_cons, opG_none, opG_some, opJ, opU_ff, isU_bool, opK_eq, opA_move, opA_assign, opA_pick, opA_bin, putO_some, putH_lt, putC_lt, condB_false, binT_some, binA, avO_some, pickT, io_add, strOp, opS, opV, Go.Mx.look, seqK, blockK, Fr.known, mapO, headK, getV, getB, chkP, orO_some, eqT_some, evP_nil, evP_q, opAt_some, chkK_eq, allQ_nil, tk3, tk9, presS, fK, offT, w1]
      exact ⟨2, by omega, by omega, by simp, by simp [sgC], hs.2 _ _ hg (by simp)⟩
  · have hm3 : m = 2 := by omega
    subst hm3
    simp [ev_seq, ev_cond2, ev_exit, ev_region2, evOps_nil, evOps_cons, opG_none, opA_move, opA_bin, opA_len, opA_call, putO_some, putH_lt, condB_false, binT_some, binA, avO_some, lenT_row, io_lss, opS, opV, Go.Mx.look, seqK, blockK, Fr.known, mapO, callA, mkFr, slotsOf, ptrsOf, boxesOf, orO_some, eqT_some, tk3, Try.underlying52, ok20]
    refine new_sp H5 _ (fun H6 hd hs hl => ?_)
    simp [ev_seq, ev_region2, evOps_nil, evOps_cons, opG_none, opA_move, opA_assign, opA_load, opA_call, putO_some, putH_lt, putC_lt, loadT, opS, opV, Go.Mx.look, seqK, mapO, callA, partA, loadS, sz29, ag29, ok17, sgC]
    have mg : ∀ (H7 : Hp) (L : List Sg) (fp : List Nat) (Q : AV → Hp → Prop), BdAt H7 (H5.length + 1) L fp → (∀ H8, Q (.v (.int .i64 0)) H8) → Sp Try.prog 18 [.ptr (H5.length + 1) 0 0, .v (.pointer none)] Q H7 := fun H7 L fp Q hd hq =>
      merge_sp _ L [] fp _ H7 _ hd (.inl ⟨rfl, rfl⟩) (by decide) (fun H8 _ _ => by simpa [mergeN] using hq H8) OkL.nil
    refine put_sp _ [] _ s H6 _ hd hz (fun hr => ?_) (fun hr H7 hd7 hs7 => ?_)
    · simp [ev_seq, ev_region2, evOps_nil, evOps_cons, opG_none, opA_move, opA_assign, opA_extract, opA_load, opA_call, putO_some, putH_lt, putC_lt, extractT, loadT, opS, opV, Go.Mx.look, seqK, mapO, callA, extractA, partA, loadS, sz29, ag29, ok16]
      refine rright_sp s H6 _ (by omega) ?_
      rw [hr]
      simp [evOps_cons, opG_none, opG_some, opJ, opU_ft, isU_bool, opK_eq, opA_move, opA_pick, opA_bin, opA_call, putO_some, putH_lt, putC_lt, condB_true, binT_some, binA, eqRef, avO_some, pickT, io_eql, opS, opV, Go.Mx.look, Fr.known, mapO, callA, orO_some, eqT_some, tk4, tk37, ok18]
      refine mg H6 _ _ _ hd (fun H8 => ?_)
      simp [evOps_cons, opG_none, opG_some, opJ, opU_ft, isU_bool, opK_eq, opA_move, opA_pick, opA_bin, opA_call, putO_some, putH_lt, putC_lt, condB_true, binT_some, binA, avO_some, pickT, io_eql, opS, opV, Go.Mx.look, Fr.known, mapO, callA, orO_some, eqT_some, tk3, ok12]
      refine awake_sp _ _ (fun H9 _ => ?_)
      simp [ev_ret, evOps_nil, evOps_cons, opG_none, opA_assign, opA_pick, putO_some, putH_lt, putC_lt, pickT, opS, opV, Go.Mx.look, seqK, retK, retA, resA, mapO]
    · have ho : oldS [] s = false := rfl
      rw [ho]
      simp [ev_seq, ev_region2, evOps_nil, evOps_cons, opG_none, opA_move, opA_assign, opA_extract, opA_load, opA_call, putO_some, putH_lt, putC_lt, extractT, loadT, opS, opV, Go.Mx.look, seqK, mapO, callA, extractA, partA, loadS, sz29, ag29, ok16]
      refine rright_sp s H7 _ (by omega) ?_
      rw [hr]
      simp [evOps_cons, opG_none, opG_some, opJ, opU_ft, isU_bool, opK_eq, opA_move, opA_pick, opA_bin, opA_call, putO_some, putH_lt, putC_lt, condB_true, binT_some, binA, eqRef, avO_some, pickT, io_eql, opS, opV, Go.Mx.look, Fr.known, mapO, callA, orO_some, eqT_some, tk4, tk37, ok18]
      refine mg H7 _ _ _ hd7 (fun H8 => ?_)
      simp [evOps_cons, opG_none, opG_some, opJ, opU_ft, isU_bool, opK_eq, opA_move, opA_pick, opA_bin, opA_call, putO_some, putH_lt, putC_lt, condB_true, binT_some, binA, avO_some, pickT, io_eql, opS, opV, Go.Mx.look, Fr.known, mapO, callA, orO_some, eqT_some, tk3, ok12]
      refine awake_sp _ _ (fun H9 _ => ?_)
      simp [ev_ret, evOps_nil, evOps_cons, opG_none, opA_assign, opA_pick, putO_some, putH_lt, putC_lt, pickT, opS, opV, Go.Mx.look, seqK, retK, retA, resA, mapO]
end Go.Proofs.Ytohmgnbndhojpaa
