import Derived.Test.YtohmgnbndhojpaaPM
namespace Go.Proofs.Ytohmgnbndhojpaa
open Go.Mx
set_option linter.unusedVariables false
set_option linter.unusedSimpArgs false

/-- Both boards tell the same. -/
def Two (H : Hp) (a b : Nat) (L : List Sg) (fa : List Nat) (t0 t1 : Int) : Prop :=
  BdAt H a L fa ∧ H[0]? = some (.cells 0 [.v (.int .i64 t0), .v (.int .i64 t1)]) ∧ 0 ∉ fa ∧ ∃ fb, RfAt H b L fb ∧ (∀ j ∈ fb, j ∉ fa) ∧ 0 ∉ fb
theorem Two.row {H : Hp} {a b : Nat} {L : List Sg} {fa : List Nat} {t0 t1 : Int} (h : Two H a b L fa t0 t1) : ∃ v, H[b]? = some (.cells 0 [v]) ∧ RdG H v L := by
  obtain ⟨_, _, _, fb, h, _⟩ := h
  obtain ⟨v, h1, _, h3⟩ := h.len
  exact ⟨v, h1, h3⟩
def PlInv1 (l : List Sg) (u : ByteArray) (a b : Nat) (fa : List Nat) (t0 t1 : Int) (n : Nat) (xs : List AV) (H2 : Hp) : Prop :=
  ∃ i : Nat, i ≤ l.length ∧ n = l.length - i ∧ xs = [rowG l, .v (.string u), .ptr 0 0 0, .ptr a 0 0, .ptr b 0 0, .v (.int .i64 i)] ∧ Two H2 a b (boardL (l.take i)) fa t0 t1
def PlInv2 (u : ByteArray) (a b : Nat) (fa : List Nat) (t0 t1 : Int) (n : Nat) (xs : List AV) (H2 : Hp) : Prop :=
  ∃ (i : Nat) (M : List Sg), i ≤ 2 ∧ n = 2 - i ∧ xs = [.v (.string u), .ptr 0 0 0, .ptr a 0 0, .ptr b 0 0, .v (.int .i64 i)] ∧ Two H2 a b M fa t0 t1 ∧ M.length ≤ 60
set_option maxRecDepth 20000 in
set_option maxHeartbeats 4000000 in
theorem plays_law (l : List Sg) (u : ByteArray) (t : {t : Int × Int // W64 t.1 ∧ W64 t.2}) : Sp Try.prog 6 [rowG l, .v (.string u), .agg [.v (.int .i64 t.1.1), .v (.int .i64 t.1.2)]] (fun v _ => v = .v (.bool true)) [] := by
  obtain ⟨⟨t0, t1⟩, h0, h1⟩ := t
  simp only at h0 h1
  refine Sp.body [(5, ⟨[0, 1, 5, 7, 8, 9], [], []⟩), (12, ⟨[1, 5, 7, 8, 14], [], []⟩)] ⟨[], [], pl6⟩ tb6 mo Try.func6 rfl (Nat.le_of_ble_eq_true rfl) (by kernel_rfl) ?_
  simp [ev_seq, ev_region2, evOps_nil, evOps_cons, opG_none, opA_move, opA_assign, opA_call, opA_box, putO_some, putH_lt, boxT, opS, opV, Go.Mx.look, fr0, argSlots, seqK, mapO, callA, cellsA_agg, okPart_agg, newK, ok9, pl6, rowG]
  refine few_sp l false _ _ (fun hf => ?_) (fun _ => by simp [ev_seq, ev_cond2, ev_ret, ev_region2, evOps_nil, evOps_cons, opG_none, opG_some, opJ, opU_ff, isU_bool, opA_move, opA_assign, opA_pick, opA_un, putO_some, putH_lt, putC_lt, putV_lt, condB_true, pickT, unT, opS, opV, Go.Mx.look, seqK, Fr.known, retK, retA, resA, mapO, unA])
  simp [ev_skip, ev_seq, ev_cond2, ev_ret, ev_region2, evOps_nil, evOps_cons, opG_none, opG_some, opJ, opU_ff, isU_bool, opK_eq, opA_move, opA_assign, opA_pick, opA_bin, opA_un, opA_len, opA_call, putO_some, putH_lt, putC_lt, condB_false, binT_some, binA, avO_some, pickT, unT, lenT_str, io_gtr, opS, opV, Go.Mx.look, seqK, Fr.known, retK, retA, resA, mapO, unA, callA, orO_some, eqT_some, tk3, Try.underlying9, ok20]
  intro hu
  have hl60 := hf.1
  have hu2 : u.size ≤ 100000 := by omega
  refine new_sp _ _ (fun H1 hd hs1 hl1 => ?_)
  have hh := hs1.2 0 _ rfl (by simp)
  have hfa : 0 ∉ [[Ob.cells 0 [AV.v (.int .i64 t0), .v (.int .i64 t1)]].length + 1, [Ob.cells 0 [AV.v (.int .i64 t0), .v (.int .i64 t1)]].length] := by simp
  have hlt := hd.lt
  generalize [Ob.cells 0 [AV.v (.int .i64 t0), .v (.int .i64 t1)]].length + 1 = a at hd hfa hlt
  generalize [a, [Ob.cells 0 [AV.v (.int .i64 t0), .v (.int .i64 t1)]].length] = fa at hd hfa hlt
  have htwo : Two (H1 ++ [.cells 0 [.v (.slice none 0 0)]]) a H1.length [] fa t0 t1 := by
    have hs2 : Same [] H1 (H1 ++ [.cells 0 [.v (.slice none 0 0)]]) := Same.app _ _ _
    refine ⟨hd.same hs2 (by simp), hs2.2 _ _ hh (by simp), hfa, [H1.length], ⟨OkL.nil, .v (.slice none 0 0), by simp, NewK.nil _ _ _, rfl⟩, fun j hj hj2 => ?_, ?_⟩
    · simp at hj; subst hj; have := hlt _ hj2; omega
    · have := Hp.lt hh; simp; omega
  simp [ev_seq, ev_block, ev_region2, ev_loop, loopK, evOps_nil, evOps_cons, opG_none, opA_assign, opA_box, opA_build, putO_some, putH_lt, putC_lt, boxT, buildZ, partsZ, fillO, aggO, opS, opV, Go.Mx.look, seqK, mapO, cellsA_agg, okPart_agg, fillA, newK, headK, getV, getB, chkP, firstReg, ze46, of46]
  generalize H1.length = b at htwo
  generalize H1 ++ [Ob.cells 0 [AV.v (.slice none 0 0)]] = H2 at htwo
  refine LoopC.intro (fun n xs _ H3 => PlInv1 l u a b fa t0 t1 n xs H3) l.length ⟨0, by omega, by omega, by simp [rowG], by simpa [boardL] using htwo⟩ ?_
  clear htwo hd hs1 hl1 hh hlt H1 H2
  rintro n xs bs H3 ⟨i, hi, rfl, rfl, htwo⟩
  simp [ev_skip, ev_seq, ev_cond2, ev_block, ev_exit, ev_region2, ev_loop, loopK, evOps_nil, evOps_cons, opG_none, opA_move, opA_assign, opA_bin, opA_indexAddr, opA_len, putO_some, putH_lt, binT_some, binA, avO_some, lenT_row, indexAddrT, io_lss, opS, opV, Go.Mx.look, seqK, blockK, Fr.known, mapO, indexAddrA, headK, getV, getB, chkP, mkFr, slotsOf, ptrsOf, boxesOf, firstReg, orO_some, eqT_some, tk3, Try.underlying22, sz29, rowG]
  refine ⟨fun hlt => ?_, fun hge => ?_⟩
  · have hx := List.getElem?_eq_getElem hlt
    generalize l[i] = s at hx
    have hsl := flat_sub sgC_len l i hx
    have hle : i * 4 + 4 ≤ (List.map (fun a : Sg => 4) l).sum := flat_le2 sgC_len hx
    have w1 : IntKind.i64.wrap ((i : Int) + 1) = (i : Int) + 1 := wr_i64 (by omega)
    have htk : l.take (i + 1) = l.take i ++ [s] := by rw [List.take_add_one, hx]; rfl
    have hz := hf.2 s (List.mem_of_getElem? hx)
    have hbl : (boardL (l.take i)).length ≤ 60 := Nat.le_trans (boardL_len _) (by rw [List.length_take]; omega)
    have hnx : boardL (l.take (i + 1)) = putR (boardL (l.take i)) s := by rw [htk, boardL_app]
    have fin : ∀ H5, Two H5 a b (boardL (l.take (i + 1))) fa t0 t1 → ∃ m, m < l.length - i ∧ PlInv1 l u a b fa t0 t1 m [rowG l, .v (.string u), .ptr 0 0 0, .ptr a 0 0, .ptr b 0 0, .v (.int .i64 ((i : Int) + 1))] H5 := fun H5 h5 =>
      ⟨l.length - (i + 1), by omega, i + 1, by omega, rfl, by simp, h5⟩
    simp only [rowG] at fin
    obtain ⟨ha, hh, hfa, fb, hb, hdis, hfb⟩ := htwo
    simp only [sgC] at hsl
    simp [evOps_cons, opG_none, opA_load, opA_call, putO_some, putH_lt, loadT, opS, opV, Go.Mx.look, mapO, callA, partA, loadA, loadS, sz29, ag29, ok17, hlt, hsl, hle, sgC]
    refine put_sp a _ fa s H3 _ ha hz (fun hr => ?_) (fun hr H4 ha4 hs4 => ?_)
    · have hsame : boardL (l.take (i + 1)) = boardL (l.take i) := by rw [hnx]; simp [putR, hr]
      rw [hsame] at fin
      simp [ev_seq, ev_region2, evOps_nil, evOps_cons, opG_none, opA_move, opA_assign, opA_extract, opA_load, opA_indexAddr, opA_call, putO_some, putH_lt, putC_lt, extractT, loadT, indexAddrT, opS, opV, Go.Mx.look, seqK, mapO, callA, extractA, partA, loadA, loadS, indexAddrA, Try.underlying22, sz29, ag29, ok21, hlt, hsl, hle, sgC]
      refine rput_sp b _ fb s H3 _ hb hz (by omega) (fun _ => ?_) (fun hr2 => by rw [hr] at hr2; simp at hr2)
      obtain ⟨v, q1, _, q2⟩ := hb.len
      simp [ev_seq, evOps_nil, evOps_cons, opG_none, opG_some, opJ, opU_ff, isU_bool, opK_eq, opA_move, opA_assign, opA_pick, opA_bin, opA_extract, opA_load, opA_fieldAddr, opA_nilCheck, opA_call, putO_some, putH_lt, putC_lt, condB_false, binT_some, binA, eqRef, avO_some, pickT, extractT, loadT, nilCheckT, fieldAddrT, io_neq, opS, opV, Go.Mx.look, seqK, Fr.known, mapO, callA, extractA, partA, loadA, loadS, plusS, nilCheckS, orO_some, eqT_some, ev_draw, drawK, evP_q, evP_s, opAt_some, tk4, sz22, ag22, tk37, Try.underlying46, ok11, q1]
      refine all_sp _ _ H3 _ ha.v (by omega) ?_
      simp [opG_some, opJ, opU_ff, isU_bool, valU_false, opK_eq, opA_call, putC_lt, condB_false, loadT, nilCheckT, fieldAddrT, opS, opV, Go.Mx.look, Fr.known, mapO, callA, partA, loadA, loadS, plusS, nilCheckS, evP_s, opAt_some, chkK_eq, sameV_some, sameO_some, allQ_nil, allQ_cons, valJ, valQ_some, valS_move, valS_load, valS_fieldAddr, valS_nilCheck, sz22, ag22, Try.underlying46, ok19, q1]
      refine same_sp _ v _ H3 _ (.inl ⟨false, rfl⟩) q2 ha.1 (by omega) ?_
      simp [ev_skip, ev_cond2, ev_region2, evOps_nil, evOps_cons, opG_none, opG_some, opJ, opU_ff, isU_bool, opK_eq, opA_move, opA_assign, opA_pick, opA_bin, opA_un, putO_some, putH_lt, putC_lt, condB_false, binT_some, binA, avO_some, pickT, unT, io_add, opS, opV, Go.Mx.look, seqK, blockK, Fr.known, mapO, unA, headK, getV, getB, chkP, orO_some, eqT_some, evP_nil, evP_q, opAt_some, chkK_eq, allQ_nil, tk3, w1]
      simpa using fin H3 ⟨ha, hh, hfa, fb, hb, hdis, hfb⟩
    · have hsame : boardL (l.take (i + 1)) = putL (boardL (l.take i)) s := by rw [hnx]; simp [putR, hr]
      rw [hsame] at fin
      have hb4 := hb.same hs4 hdis
      have hh4 := hs4.2 0 _ hh hfa
      have hp := putL_len (boardL (l.take i)) s
      simp [ev_seq, ev_region2, evOps_nil, evOps_cons, opG_none, opA_move, opA_assign, opA_extract, opA_load, opA_indexAddr, opA_call, putO_some, putH_lt, putC_lt, extractT, loadT, indexAddrT, opS, opV, Go.Mx.look, seqK, mapO, callA, extractA, partA, loadA, loadS, indexAddrA, Try.underlying22, sz29, ag29, ok21, hlt, hsl, hle, sgC]
      refine rput_sp b _ fb s H4 _ hb4 hz (by omega) (fun hr2 => by rw [hr] at hr2; simp at hr2) (fun _ H5 fb5 hb5 hs5 hf5 => ?_)
      have hh5 := hs5.2 0 _ hh4 hfb
      have ha5 := ha4.same hs5 (fun j hj hj2 => hdis j hj2 hj)
      have hlta := ha4.lt
      have hdis5 : ∀ j ∈ fb5, j ∉ fa := fun j hj hj2 => by
        rcases hf5 j hj with h | h
        · exact hdis j h hj2
        · have := hlta j hj2; omega
      have hfb5 : 0 ∉ fb5 := fun h => by
        rcases hf5 0 h with h | h
        · exact hfb h
        · have := Hp.lt hh4; omega
      have htwo5 : Two H5 a b (putL (boardL (l.take i)) s) fa t0 t1 := ⟨ha5, hh5, hfa, fb5, hb5, hdis5, hfb5⟩
      cases ho : oldS (boardL (l.take i)) s with
      | true =>
        obtain ⟨v, q1, _, q2⟩ := hb5.len
        simp [ev_seq, evOps_nil, evOps_cons, opG_none, opG_some, opJ, opU_ff, isU_bool, opK_eq, opA_move, opA_assign, opA_pick, opA_bin, opA_extract, opA_load, opA_fieldAddr, opA_nilCheck, opA_call, putO_some, putH_lt, putC_lt, condB_false, binT_some, binA, eqRef, avO_some, pickT, extractT, loadT, nilCheckT, fieldAddrT, io_neq, opS, opV, Go.Mx.look, seqK, Fr.known, mapO, callA, extractA, partA, loadA, loadS, plusS, nilCheckS, orO_some, eqT_some, ev_draw, drawK, evP_q, evP_s, opAt_some, tk4, sz22, ag22, tk37, Try.underlying46, ok11, q1]
        refine all_sp _ _ H5 _ ha5.v (by omega) ?_
        simp [opG_some, opJ, opU_ff, isU_bool, valU_false, opK_eq, opA_call, putC_lt, condB_false, loadT, nilCheckT, fieldAddrT, opS, opV, Go.Mx.look, Fr.known, mapO, callA, partA, loadA, loadS, plusS, nilCheckS, evP_s, opAt_some, chkK_eq, sameV_some, sameO_some, allQ_nil, allQ_cons, valJ, valQ_some, valS_move, valS_load, valS_fieldAddr, valS_nilCheck, sz22, ag22, Try.underlying46, ok19, q1]
        refine same_sp _ v _ H5 _ (.inl ⟨false, rfl⟩) q2 ha5.1 (by omega) ?_
        simp [ev_skip, ev_cond2, ev_region2, evOps_nil, evOps_cons, opG_none, opG_some, opJ, opU_ff, isU_bool, opK_eq, opA_move, opA_assign, opA_pick, opA_bin, opA_un, putO_some, putH_lt, putC_lt, condB_false, binT_some, binA, avO_some, pickT, unT, io_add, opS, opV, Go.Mx.look, seqK, blockK, Fr.known, mapO, unA, headK, getV, getB, chkP, orO_some, eqT_some, evP_nil, evP_q, opAt_some, chkK_eq, allQ_nil, tk3, w1]
        simpa using fin H5 htwo5
      | false =>
        obtain ⟨v, q1, _, q2⟩ := hb5.len
        simp [ev_seq, evOps_nil, evOps_cons, opG_none, opG_some, opJ, opU_ff, isU_bool, opK_eq, opA_move, opA_assign, opA_pick, opA_bin, opA_extract, opA_load, opA_fieldAddr, opA_nilCheck, opA_call, putO_some, putH_lt, putC_lt, condB_false, binT_some, binA, eqRef, avO_some, pickT, extractT, loadT, nilCheckT, fieldAddrT, io_neq, opS, opV, Go.Mx.look, seqK, Fr.known, mapO, callA, extractA, partA, loadA, loadS, plusS, nilCheckS, orO_some, eqT_some, ev_draw, drawK, evP_q, evP_s, opAt_some, tk4, sz22, ag22, tk37, Try.underlying46, ok11, q1]
        refine all_sp _ _ H5 _ ha5.v (by omega) ?_
        simp [opG_some, opJ, opU_ff, isU_bool, valU_false, opK_eq, opA_call, putC_lt, condB_false, loadT, nilCheckT, fieldAddrT, opS, opV, Go.Mx.look, Fr.known, mapO, callA, partA, loadA, loadS, plusS, nilCheckS, evP_s, opAt_some, chkK_eq, sameV_some, sameO_some, allQ_nil, allQ_cons, valJ, valQ_some, valS_move, valS_load, valS_fieldAddr, valS_nilCheck, sz22, ag22, Try.underlying46, ok19, q1]
        refine same_sp _ v _ H5 _ (.inl ⟨false, rfl⟩) q2 ha5.1 (by omega) ?_
        simp [ev_skip, ev_cond2, ev_region2, evOps_nil, evOps_cons, opG_none, opG_some, opJ, opU_ff, isU_bool, opK_eq, opA_move, opA_assign, opA_pick, opA_bin, opA_un, putO_some, putH_lt, putC_lt, condB_false, binT_some, binA, avO_some, pickT, unT, io_add, opS, opV, Go.Mx.look, seqK, blockK, Fr.known, mapO, unA, headK, getV, getB, chkP, orO_some, eqT_some, evP_nil, evP_q, opAt_some, chkK_eq, allQ_nil, tk3, w1]
        simpa using fin H5 htwo5
  · have hbl : (boardL (l.take i)).length ≤ 60 := Nat.le_trans (boardL_len _) (by rw [List.length_take]; omega)
    generalize boardL (l.take i) = L at htwo hbl
    refine LoopC.intro (fun n xs _ H4 => PlInv2 u a b fa t0 t1 n xs H4) 2 ⟨0, L, by omega, by omega, by simp, htwo, hbl⟩ ?_
    clear htwo
    rintro n xs bs H4 ⟨k, M, hk, rfl, rfl, htwo, hM⟩
    have hcase : k = 0 ∨ k = 1 ∨ k = 2 := by omega
    have turn : ∀ (now : Int) (w : Nat) (K : List Sg → Prop), True := fun _ _ _ => trivial
    rcases hcase with rfl | rfl | rfl
    · have w1 : IntKind.i64.wrap 1 = 1 := wr_i64 (by omega)
      have la := typL_len t0 M
      obtain ⟨ha, hh, hfa, fb, hb, hdis, hfb⟩ := htwo
      simp [ev_skip, ev_seq, ev_cond2, ev_block, ev_region2, evOps_nil, evOps_cons, opG_none, opA_move, opA_bin, opA_load, opA_indexAddr, opA_call, putO_some, putH_lt, condB_true, binT_some, binA, avO_some, loadT, indexAddrT, io_lss, opS, opV, Go.Mx.look, seqK, Fr.known, mapO, callA, partA, loadA, loadS, plusS, indexArrA, mkFr, slotsOf, ptrsOf, boxesOf, orO_some, eqT_some, ev_draw, drawK, evP_q, evP_s, opAt_some, sz2, ag2, tk3, Try.underlying23, ok13, hh]
      refine typing_sp _ M t0 H4 _ ha.v (by omega) ?_
      simp [opG_none, opA_call, putC_lt, loadT, indexAddrT, opS, opV, Go.Mx.look, mapO, callA, partA, loadA, loadS, plusS, indexArrA, evP_s, opAt_some, chkK_eq, sameV_some, sameO_some, allQ_nil, allQ_cons, valQ_none, valS_move, valS_load, valS_indexAddr, sz2, ag2, Try.underlying23, ok23, hh]
      refine rtyping_sp b M fb t0 H4 _ hb (by omega) ?_
      simp [opG_none, opA_call, putC_lt, opS, opV, Go.Mx.look, mapO, callA, evP_s, opAt_some, chkK_eq, allQ_nil, ok22]
      refine strings_sp _ H4 _ (by omega) ?_
      simp [opG_none, opG_some, opJ, opU_ff, isU_bool, opK_eq, opA_move, opA_un, opA_load, opA_indexAddr, opA_call, putO_some, putH_lt, putC_lt, condB_false, unT, loadT, indexAddrT, opS, opV, Go.Mx.look, Fr.known, mapO, unA, callA, partA, loadA, loadS, plusS, indexArrA, evP_q, evP_s, opAt_some, chkK_eq, allQ_nil, sz2, ag2, Try.underlying23, ok15, hh]
      refine presence_sp _ M u t0 H4 _ ha.v hu2 ?_
      simp [opG_some, opJ, opU_ff, isU_bool, valU_false, opK_eq, opA_call, putC_lt, condB_false, loadT, indexAddrT, opS, opV, Go.Mx.look, Fr.known, mapO, callA, partA, loadA, loadS, plusS, indexArrA, evP_s, opAt_some, chkK_eq, sameV_some, sameO_some, allQ_nil, allQ_cons, valJ, valQ_some, valS_move, valS_load, valS_indexAddr, sz2, ag2, Try.underlying23, ok24, hh]
      refine rpresence_sp b M fb u t0 H4 _ hb (by omega) ?_
      simp [ev_skip, ev_seq, ev_cond2, opG_none, opG_some, opJ, opU_ff, isU_bool, opK_eq, opA_move, opA_pick, opA_bin, opA_load, opA_indexAddr, opA_call, putO_some, putH_lt, putC_lt, condB_false, binT_some, binA, avO_some, pickT, loadT, indexAddrT, strOp, opS, opV, Go.Mx.look, seqK, Fr.known, mapO, callA, partA, loadA, loadS, plusS, indexArrA, orO_some, eqT_some, ev_draw, drawK, evP_nil, evP_q, evP_s, opAt_some, chkK_eq, allQ_nil, sz2, ag2, tk9, Try.underlying23, ok25, hh]
      refine sweep_sp a M fa t0 H4 _ ha (by omega) (fun H5 ha5 hs5 => ?_)
      have hh5 := hs5.2 0 _ hh hfa
      have hb5 := hb.same hs5 hdis
      simp [opG_none, opA_call, putC_lt, loadT, indexAddrT, opS, opV, Go.Mx.look, mapO, callA, partA, loadA, loadS, plusS, indexArrA, evP_s, opAt_some, chkK_eq, sameV_some, sameO_some, allQ_nil, allQ_cons, valQ_none, valS_move, valS_load, valS_indexAddr, sz2, ag2, Try.underlying23, ok26, hh5]
      refine rsweep_sp b M fb t0 H5 _ hb5 (by omega) (fun H6 fb6 hb6 hs6 hf6 => ?_)
      have hh6 := hs6.2 0 _ hh5 hfb
      have ha6 := ha5.same hs6 (fun j hj hj2 => hdis j hj2 hj)
      have hlta := ha5.lt
      have hfl : (M.filter (keepS t0)).length ≤ M.length := List.length_filter_le _ _
      obtain ⟨v, q1, _, q2⟩ := hb6.len
      simp [opG_none, opG_some, opJ, opU_ff, isU_bool, opK_eq, opA_move, opA_bin, opA_load, opA_fieldAddr, opA_nilCheck, opA_call, putO_some, putH_lt, putC_lt, condB_false, binT_some, binA, avO_some, loadT, nilCheckT, fieldAddrT, io_neq, opS, opV, Go.Mx.look, Fr.known, mapO, callA, partA, loadA, loadS, plusS, nilCheckS, orO_some, eqT_some, evP_q, evP_s, opAt_some, chkK_eq, allQ_nil, tk3, sz22, ag22, Try.underlying46, ok11, q1]
      refine all_sp _ _ H6 _ ha6.v (by omega) ?_
      simp [opG_some, opJ, opU_ff, isU_bool, valU_false, opK_eq, opA_call, putC_lt, condB_false, loadT, nilCheckT, fieldAddrT, opS, opV, Go.Mx.look, Fr.known, mapO, callA, partA, loadA, loadS, plusS, nilCheckS, evP_s, opAt_some, chkK_eq, sameV_some, sameO_some, allQ_nil, allQ_cons, valJ, valQ_some, valS_move, valS_load, valS_fieldAddr, valS_nilCheck, sz22, ag22, Try.underlying46, ok19, q1]
      refine same_sp _ v _ H6 _ (.inl ⟨false, rfl⟩) q2 ha6.1 (by omega) ?_
      simp [ev_skip, ev_cond2, ev_region2, evOps_nil, evOps_cons, opG_none, opG_some, opJ, opU_ff, isU_bool, opK_eq, opA_move, opA_assign, opA_pick, opA_bin, opA_un, putO_some, putH_lt, putC_lt, condB_false, binT_some, binA, avO_some, pickT, unT, io_add, opS, opV, Go.Mx.look, seqK, blockK, Fr.known, mapO, unA, headK, getV, getB, chkP, orO_some, eqT_some, evP_nil, evP_q, opAt_some, chkK_eq, allQ_nil, tk3, w1]
      refine ⟨1, by omega, 1, M.filter (keepS t0), by omega, by omega, by simp, ⟨ha6, hh6, hfa, fb6, hb6, fun j hj hj2 => ?_, fun h => ?_⟩, by omega⟩
      · rcases hf6 j hj with h | h
        · exact hdis j h hj2
        · have := hlta j hj2; omega
      · rcases hf6 0 h with h | h
        · exact hfb h
        · have := Hp.lt hh5; omega
    · have w1 : IntKind.i64.wrap 2 = 2 := wr_i64 (by omega)
      have la := typL_len t1 M
      obtain ⟨ha, hh, hfa, fb, hb, hdis, hfb⟩ := htwo
      simp [ev_skip, ev_seq, ev_cond2, ev_block, ev_region2, evOps_nil, evOps_cons, opG_none, opA_move, opA_bin, opA_load, opA_indexAddr, opA_call, putO_some, putH_lt, condB_true, binT_some, binA, avO_some, loadT, indexAddrT, io_lss, opS, opV, Go.Mx.look, seqK, Fr.known, mapO, callA, partA, loadA, loadS, plusS, indexArrA, mkFr, slotsOf, ptrsOf, boxesOf, orO_some, eqT_some, ev_draw, drawK, evP_q, evP_s, opAt_some, sz2, ag2, tk3, Try.underlying23, ok13, hh]
      refine typing_sp _ M t1 H4 _ ha.v (by omega) ?_
      simp [opG_none, opA_call, putC_lt, loadT, indexAddrT, opS, opV, Go.Mx.look, mapO, callA, partA, loadA, loadS, plusS, indexArrA, evP_s, opAt_some, chkK_eq, sameV_some, sameO_some, allQ_nil, allQ_cons, valQ_none, valS_move, valS_load, valS_indexAddr, sz2, ag2, Try.underlying23, ok23, hh]
      refine rtyping_sp b M fb t1 H4 _ hb (by omega) ?_
      simp [opG_none, opA_call, putC_lt, opS, opV, Go.Mx.look, mapO, callA, evP_s, opAt_some, chkK_eq, allQ_nil, ok22]
      refine strings_sp _ H4 _ (by omega) ?_
      simp [opG_none, opG_some, opJ, opU_ff, isU_bool, opK_eq, opA_move, opA_un, opA_load, opA_indexAddr, opA_call, putO_some, putH_lt, putC_lt, condB_false, unT, loadT, indexAddrT, opS, opV, Go.Mx.look, Fr.known, mapO, unA, callA, partA, loadA, loadS, plusS, indexArrA, evP_q, evP_s, opAt_some, chkK_eq, allQ_nil, sz2, ag2, Try.underlying23, ok15, hh]
      refine presence_sp _ M u t1 H4 _ ha.v hu2 ?_
      simp [opG_some, opJ, opU_ff, isU_bool, valU_false, opK_eq, opA_call, putC_lt, condB_false, loadT, indexAddrT, opS, opV, Go.Mx.look, Fr.known, mapO, callA, partA, loadA, loadS, plusS, indexArrA, evP_s, opAt_some, chkK_eq, sameV_some, sameO_some, allQ_nil, allQ_cons, valJ, valQ_some, valS_move, valS_load, valS_indexAddr, sz2, ag2, Try.underlying23, ok24, hh]
      refine rpresence_sp b M fb u t1 H4 _ hb (by omega) ?_
      simp [ev_skip, ev_seq, ev_cond2, opG_none, opG_some, opJ, opU_ff, isU_bool, opK_eq, opA_move, opA_pick, opA_bin, opA_load, opA_indexAddr, opA_call, putO_some, putH_lt, putC_lt, condB_false, binT_some, binA, avO_some, pickT, loadT, indexAddrT, strOp, opS, opV, Go.Mx.look, seqK, Fr.known, mapO, callA, partA, loadA, loadS, plusS, indexArrA, orO_some, eqT_some, ev_draw, drawK, evP_nil, evP_q, evP_s, opAt_some, chkK_eq, allQ_nil, sz2, ag2, tk9, Try.underlying23, ok25, hh]
      refine sweep_sp a M fa t1 H4 _ ha (by omega) (fun H5 ha5 hs5 => ?_)
      have hh5 := hs5.2 0 _ hh hfa
      have hb5 := hb.same hs5 hdis
      simp [opG_none, opA_call, putC_lt, loadT, indexAddrT, opS, opV, Go.Mx.look, mapO, callA, partA, loadA, loadS, plusS, indexArrA, evP_s, opAt_some, chkK_eq, sameV_some, sameO_some, allQ_nil, allQ_cons, valQ_none, valS_move, valS_load, valS_indexAddr, sz2, ag2, Try.underlying23, ok26, hh5]
      refine rsweep_sp b M fb t1 H5 _ hb5 (by omega) (fun H6 fb6 hb6 hs6 hf6 => ?_)
      have hh6 := hs6.2 0 _ hh5 hfb
      have ha6 := ha5.same hs6 (fun j hj hj2 => hdis j hj2 hj)
      have hlta := ha5.lt
      have hfl : (M.filter (keepS t1)).length ≤ M.length := List.length_filter_le _ _
      obtain ⟨v, q1, _, q2⟩ := hb6.len
      simp [opG_none, opG_some, opJ, opU_ff, isU_bool, opK_eq, opA_move, opA_bin, opA_load, opA_fieldAddr, opA_nilCheck, opA_call, putO_some, putH_lt, putC_lt, condB_false, binT_some, binA, avO_some, loadT, nilCheckT, fieldAddrT, io_neq, opS, opV, Go.Mx.look, Fr.known, mapO, callA, partA, loadA, loadS, plusS, nilCheckS, orO_some, eqT_some, evP_q, evP_s, opAt_some, chkK_eq, allQ_nil, tk3, sz22, ag22, Try.underlying46, ok11, q1]
      refine all_sp _ _ H6 _ ha6.v (by omega) ?_
      simp [opG_some, opJ, opU_ff, isU_bool, valU_false, opK_eq, opA_call, putC_lt, condB_false, loadT, nilCheckT, fieldAddrT, opS, opV, Go.Mx.look, Fr.known, mapO, callA, partA, loadA, loadS, plusS, nilCheckS, evP_s, opAt_some, chkK_eq, sameV_some, sameO_some, allQ_nil, allQ_cons, valJ, valQ_some, valS_move, valS_load, valS_fieldAddr, valS_nilCheck, sz22, ag22, Try.underlying46, ok19, q1]
      refine same_sp _ v _ H6 _ (.inl ⟨false, rfl⟩) q2 ha6.1 (by omega) ?_
      simp [ev_skip, ev_cond2, ev_region2, evOps_nil, evOps_cons, opG_none, opG_some, opJ, opU_ff, isU_bool, opK_eq, opA_move, opA_assign, opA_pick, opA_bin, opA_un, putO_some, putH_lt, putC_lt, condB_false, binT_some, binA, avO_some, pickT, unT, io_add, opS, opV, Go.Mx.look, seqK, blockK, Fr.known, mapO, unA, headK, getV, getB, chkP, orO_some, eqT_some, evP_nil, evP_q, opAt_some, chkK_eq, allQ_nil, tk3, w1]
      refine ⟨2, M.filter (keepS t1), by omega, by omega, by simp, ⟨ha6, hh6, hfa, fb6, hb6, fun j hj hj2 => ?_, fun h => ?_⟩, by omega⟩
      · rcases hf6 j hj with h | h
        · exact hdis j h hj2
        · have := hlta j hj2; omega
      · rcases hf6 0 h with h | h
        · exact hfb h
        · have := Hp.lt hh5; omega
    · simp [ev_seq, ev_cond2, ev_exit, ev_region2, evOps_nil, evOps_cons, opG_none, opA_move, opA_bin, opA_call, putO_some, putH_lt, condB_false, binT_some, binA, avO_some, io_lss, opS, opV, Go.Mx.look, seqK, blockK, Fr.known, mapO, callA, mkFr, slotsOf, ptrsOf, boxesOf, orO_some, eqT_some, tk3, ok12]
      refine awake_sp _ _ (fun H9 _ => ?_)
      simp [ev_ret, evOps_nil, evOps_cons, opG_none, opA_assign, putO_some, putH_lt, putC_lt, opS, opV, Go.Mx.look, seqK, retK, retA, resA, mapO]
end Go.Proofs.Ytohmgnbndhojpaa
