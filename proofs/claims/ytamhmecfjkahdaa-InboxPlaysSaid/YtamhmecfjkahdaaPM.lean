import Derived.Test.YtamhmecfjkahdaaPL
namespace Go.Proofs.Ytamhmecfjkahdaa
open Go.Mx
set_option linter.unusedVariables false
set_option linter.unusedSimpArgs false
set_option linter.unnecessarySimpa false

/-! ### InboxFull -/
def tE : ByteArray := ⟨#[101]⟩
def onesT (n : Nat) : ByteArray := tx (List.replicate n 49)
def pF (n : Nat) : Pa := ⟨tB, tA, tD, onesT n, ⟨#[]⟩⟩
def pL (n : Nat) : List Pa := (List.range n).map (fun i => pF (i + 1))
def SF (n : Nat) : St := ⟨[⟨tA, tD, pL n, 0⟩, ⟨tA, tE, [], 0⟩], pL n⟩
theorem pL_len (n : Nat) : (pL n).length = n := by simp [pL]
theorem pL_succ (n : Nat) : pL (n + 1) = pL n ++ [pF (n + 1)] := by simp [pL, List.range_succ]
theorem ones_size (n : Nat) : (onesT n).size = n := by unfold onesT; rw [tx_size]; simp
theorem fewF {n : Nat} (h : n ≤ 400) : FewP (pF n) := by
  unfold FewP pF
  simp only [ones_size]
  show 4 + 4 + 1 + n + 0 ≤ 1000
  omega
theorem okF {n : Nat} (h : n ≤ 300) : StOk (SF n) 1000 := by
  have hf : ∀ p ∈ pL n, FewP p := fun p hp => by
    obtain ⟨i, hi, rfl⟩ := List.mem_map.1 hp
    simp at hi
    exact fewF (by omega)
  refine ⟨?_, fun d hd => ?_, by simp [SF], by simp [SF, pL_len]; omega, hf⟩
  · have : (SF n).ds.map keyD = [(tA, tD), (tA, tE)] := rfl
    rw [this]; decide +kernel
  · simp [SF] at hd
    rcases hd with rfl | rfl
    · exact ⟨by show 4 ≤ 1000; omega, by show 1 ≤ 1000; omega, by simp, by simp [pL_len]; omega, hf⟩
    · exact ⟨by show 4 ≤ 1000; omega, by show 1 ≤ 1000; omega, by simp, by simp, by simp⟩
theorem sF0 : enterS (enterS ⟨[], []⟩ tA tD) tA tE = SF 0 := by kernel_rfl
theorem key_ne {i n : Nat} (h : i ≠ n) : keyP (pF i) ≠ keyP (pF n) := fun e => by
  have h1 : onesT i = onesT n := (Prod.ext_iff.1 e).2
  have := congrArg ByteArray.size h1
  rw [ones_size, ones_size] at this
  exact h this
theorem seenF_no {n m : Nat} (h : n < m) : seenB (SF n) (keyP (pF m)) = false := by
  unfold seenB inS
  rw [← Bool.not_eq_true, List.any_eq_true]
  rintro ⟨k, hk, h2⟩
  obtain ⟨p, hp, rfl⟩ := List.mem_map.1 hk
  obtain ⟨i, hi, rfl⟩ := List.mem_map.1 hp
  simp at hi
  exact key_ne (by omega) (of_decide_eq_true h2)
theorem toF (n m : Nat) (al al' : List Pa) (s s' : Nat) : ([⟨tA, tD, al, s⟩, ⟨tA, tE, al', s'⟩] : List Dv).filter (toB (pF m)) = [⟨tA, tD, al, s⟩] := by
  have h1 : toB (pF m) ⟨tA, tD, al, s⟩ = true := by show (decide (tA = tA) && (decide (tD = tD) || decide (tD = star))) = true; decide +kernel
  have h2 : toB (pF m) ⟨tA, tE, al', s'⟩ = false := by show (decide (tA = tA) && (decide (tE = tD) || decide (tD = star))) = false; decide +kernel
  rw [List.filter_cons, List.filter_cons, h1, h2]; rfl
theorem goodF {m : Nat} (h : 0 < m) : goodX (pF m) = true := by
  have h1 : pF m = ⟨tB, tA, tD, onesT m, ⟨#[]⟩⟩ := rfl
  have h2 : decide ((pF m).tx_ = noT) = false := decide_eq_false (fun e => by
    have := congrArg ByteArray.size e
    have h3 : (pF m).tx_.size = m := ones_size m
    rw [h3] at this
    have h4 : noT.size = 0 := rfl
    omega)
  unfold goodX
  rw [h2]
  show (userOk tB && (userOk tA && (!false && (namedB tD || decide (tD = star))))) = true
  decide +kernel
theorem sendF {n : Nat} (h : n < 200) : sendE (SF n) (pF (n + 1)) = 0 ∧ sendS (SF n) (pF (n + 1)) = SF (n + 1) ∧ sendR (SF n) (pF (n + 1)) = 1 := by
  have hfil : (SF n).ds.filter (toB (pF (n + 1))) = [⟨tA, tD, pL n, 0⟩] := toF n (n + 1) _ _ _ _
  have hN : sendN (SF n) (pF (n + 1)) = 1 := by unfold sendN; rw [hfil]; rfl
  have he : sendE (SF n) (pF (n + 1)) = 0 := by
    unfold sendE
    rw [goodF (by omega), seenF_no (by omega), hN, hfil]
    have : ([⟨tA, tD, pL n, 0⟩] : List Dv).any fullB = false := by
      simp only [List.any_cons, List.any_nil, Bool.or_false, fullB, pL_len]
      exact decide_eq_false (by omega)
    rw [this]; rfl
  refine ⟨he, ?_, by unfold sendR; rw [he, if_pos rfl, hN]⟩
  unfold sendS
  rw [he, if_pos rfl]
  have h1 : toB (pF (n + 1)) ⟨tA, tD, pL n, 0⟩ = true := by show (decide (tA = tA) && (decide (tD = tD) || decide (tD = star))) = true; decide +kernel
  have h2 : toB (pF (n + 1)) ⟨tA, tE, [], 0⟩ = false := by show (decide (tA = tA) && (decide (tE = tD) || decide (tD = star))) = false; decide +kernel
  show (⟨[if toB (pF (n + 1)) ⟨tA, tD, pL n, 0⟩ then _ else _, if toB (pF (n + 1)) ⟨tA, tE, [], 0⟩ then _ else _], pL n ++ [pF (n + 1)]⟩ : St) = _
  rw [h1, h2, ← pL_succ]
  unfold SF
  rw [pL_succ]; rfl
def tXx : ByteArray := ⟨#[120]⟩
def pG : Pa := ⟨tB, tA, tD, tXx, ⟨#[]⟩⟩
def pSt : Pa := ⟨tB, tA, star, tXx, ⟨#[]⟩⟩
def SG : St := ⟨[⟨tA, tD, pL 200, 1⟩, ⟨tA, tE, [], 0⟩], pL 200⟩
def SH : St := ⟨[⟨tA, tD, pL 200 ++ [pSt], 1⟩, ⟨tA, tE, [pSt], 0⟩], pL 200 ++ [pSt]⟩
set_option maxRecDepth 20000 in
theorem g1 : sendE (SF 200) pG = 3 := by decide +kernel
set_option maxRecDepth 20000 in
theorem g2 : sendE (SF 200) pSt = 3 := by decide +kernel
set_option maxRecDepth 20000 in
theorem g3 : sendE SG pSt = 0 := by decide +kernel
theorem g1s : sendS (SF 200) pG = SF 200 := by unfold sendS; rw [g1]; rfl
theorem g2s : sendS (SF 200) pSt = SF 200 := by unfold sendS; rw [g2]; rfl
theorem g3s : sendS SG pSt = SH := by
  unfold sendS
  rw [g3, if_pos rfl]
  have h1 : ∀ al s, toB pSt ⟨tA, tD, al, s⟩ = true := fun al s => by show (decide (tA = tA) && (decide (tD = star) || decide (star = star))) = true; decide +kernel
  have h2 : ∀ al s, toB pSt ⟨tA, tE, al, s⟩ = true := fun al s => by show (decide (tA = tA) && (decide (tE = star) || decide (star = star))) = true; decide +kernel
  show (⟨[if toB pSt ⟨tA, tD, pL 200, 1⟩ then _ else _, if toB pSt ⟨tA, tE, [], 0⟩ then _ else _], pL 200 ++ [pSt]⟩ : St) = _
  rw [h1, h2]; rfl
theorem g3r : sendR SG pSt = 2 := by unfold sendR; rw [g3, if_pos rfl]; decide +kernel
theorem gf : findD (SF 200) (tA, tD) = some ⟨tA, tD, pL 200, 0⟩ := by
  unfold findD SF
  rw [List.find?_cons, show decide (keyD ⟨tA, tD, pL 200, 0⟩ = (tA, tD)) = true from decide_eq_true rfl]
theorem gp : pollS (SF 200) (tA, tD) 1 = SG := by
  unfold pollS SF SG
  have h1 : decide (keyD ⟨tA, tD, pL 200, 0⟩ = (tA, tD)) = true := decide_eq_true rfl
  have h2 : decide (keyD ⟨tA, tE, [], 0⟩ = (tA, tD)) = false := by show decide ((tA, tE) = (tA, tD)) = false; decide +kernel
  simp only [List.map_cons, List.map_nil, h1, h2, if_true, Bool.false_eq_true, if_false]
  unfold pollD pollN
  simp only [pL_len]
  rfl
theorem gw1 : waitN SH (tA, tD) = 200 := by
  have : findD SH (tA, tD) = some ⟨tA, tD, pL 200 ++ [pSt], 1⟩ := by
    unfold findD SH
    rw [List.find?_cons, show decide (keyD ⟨tA, tD, pL 200 ++ [pSt], 1⟩ = (tA, tD)) = true from decide_eq_true rfl]
  unfold waitN
  rw [this]
  simp only [List.length_append, pL_len]; rfl
theorem gw2 : waitN SH (tA, tE) = 1 := by
  have h2 : decide (keyD ⟨tA, tD, pL 200 ++ [pSt], 1⟩ = (tA, tE)) = false := by show decide ((tA, tD) = (tA, tE)) = false; decide +kernel
  have : findD SH (tA, tE) = some ⟨tA, tE, [pSt], 0⟩ := by
    unfold findD SH
    rw [List.find?_cons, h2, List.find?_cons, show decide (keyD ⟨tA, tE, [pSt], 0⟩ = (tA, tE)) = true from decide_eq_true rfl]
  unfold waitN
  rw [this]; rfl
theorem fewG : FewP pG := by unfold FewP; decide
theorem fewSt : FewP pSt := by unfold FewP; decide
theorem okG : StOk SG 1000 := by rw [← gp]; exact (okF (by omega)).poll _ _
theorem okH : StOk SH 1001 := by rw [← g3s]; exact okG.send fewSt
def FuInv (a : Nat) (n : Nat) (xs : List AV) (bs : List (List AV)) (H2 : Hp) : Prop :=
  ∃ (i : Nat) (fp : List Nat), i ≤ 200 ∧ n = 200 - i ∧ xs = [.ptr a 0 0, .v (.int .i64 i)] ∧ bs = [paC (pF i)] ∧ PoAt H2 a (SF i) fp
theorem add_ones (i : Nat) (h : i ≤ 1000) : addStr (onesT i) ⟨#[49]⟩ = some (.v (.string (onesT (i + 1)))) := by
  have := addStr_tx (List.replicate i 49) [49] (by simp; omega)
  rw [show List.replicate i (49 : UInt8) ++ [49] = List.replicate (i + 1) 49 by rw [List.replicate_succ']] at this
  exact this
set_option maxRecDepth 20000 in
set_option maxHeartbeats 2000000 in
theorem full_law : Sp Try.prog 5 [] (fun v _ => v = .v (.bool true)) [] := by
  refine Sp.body [(6, ⟨[1, 3], [(2, 2, 0)], [2]⟩)] ⟨[2], [], []⟩ [] mo Try.func5 rfl (Nat.le_of_ble_eq_true rfl) (by kernel_rfl) ?_
  simp [ev_seq, ev_region2, evOps_nil, evOps_cons, opG_none, opA_assign, opA_call, putO_some, putH_lt, opS, opV, fr0, argSlots, seqK, mapO, callA, ok10]
  refine new_sp [] _ (fun a H1 fp1 hp1 hs1 hf1 => ?_)
  simp [ev_seq, ev_region2, evOps_nil, evOps_cons, opG_none, opA_move, opA_assign, opA_call, putO_some, putH_lt, putC_lt, opS, opV, Go.Mx.look, seqK, mapO, callA, ok11]
  refine enter_sp a _ fp1 10 tA tD H1 _ hp1 ok0 (by decide) (by decide) (fun H2 fp2 hp2 st2 => ?_)
  simp [ev_seq, ev_region2, evOps_nil, evOps_cons, opG_none, opA_move, opA_call, putO_some, putH_lt, putC_lt, opS, opV, Go.Mx.look, seqK, mapO, callA, ok11]
  refine enter_sp a _ fp2 11 tA tE H2 _ hp2 (ok0.enter (by decide) (by decide)) (by decide) (by decide) (fun H3 fp3 hp3 st3 => ?_)
  rw [sF0] at hp3
  simp [ev_seq, ev_block, ev_region2, ev_loop, loopK, evOps_nil, evOps_cons, opG_none, opA_assign, opA_alloc, opA_store, opA_build, putO_some, putH_lt, putC_lt, putU_none, allocT, storeT, buildZ, partsZ, fillO, aggO, opS, opV, Go.Mx.look, seqK, Fr.newBox, dropBp, mapO, cellsA_v, cellsA_agg, okPart_v, okPart_agg, Value.oneCell', fillA, newK, storeS, headK, getV, getB, chkP, firstReg, sz30, ze30, of30, splice]
  refine LoopC.intro (fun n xs bs H2 => FuInv a n xs bs H2) 200 ⟨0, fp3, by omega, by omega, by simp, by simp [paC, pF, onesT, tx, tB, tA, tD], hp3⟩ ?_
  clear hp1 hs1 hf1 hp2 hp3 st2 st3 H1 H2 H3
  rintro n xs bs H2 ⟨i, fp, hi, rfl, rfl, rfl, hp⟩
  simp [ev_skip, ev_seq, ev_cond2, ev_block, ev_exit, ev_region2, evOps_nil, evOps_cons, opG_none, opA_move, opA_bin, opA_load, opA_fieldAddr, opA_call, opA_store, putO_some, putH_lt, putU_none, binT_some, binA, avO_some, loadT, fieldAddrT, storeT, io_lss, strOp, opS, opV, Go.Mx.look, seqK, blockK, Fr.known, mapO, callA, cellsA_v, okPart_v, Value.oneCell', partA, loadS, plusS, storeS, mkFr, slotsOf, ptrsOf, boxesOf, orO_some, eqT_some, tk3, sz9, ag9, tk9, sz30, ag30, Try.underlying30, ok12, paC, pF]
  refine ⟨fun hlt => ?_, fun hge => ?_⟩
  · have w1 : IntKind.i64.wrap ((i : Int) + 1) = (i : Int) + 1 := wr_i64 (by omega)
    obtain ⟨e1, e2, e3⟩ := sendF (n := i) (by omega)
    have ha := add_ones i (by omega)
    simp [ev_seq, ev_region2, evOps_nil, evOps_cons, opG_none, opA_move, opA_load, opA_fieldAddr, opA_call, opA_store, putO_some, putH_lt, putU_none, avO_some, loadT, fieldAddrT, storeT, opS, opV, Go.Mx.look, seqK, mapO, callA, cellsA_v, okPart_v, Value.oneCell', partA, loadS, plusS, storeS, orO_some, sz9, sz30, ag30, Try.underlying30, ok12, ha, splice]
    refine send_sp a (SF i) fp 1000 (pF (i + 1)) H2 _ hp (okF (by omega)) (by omega) (fewF (by omega)) (fun H3 fp3 hp3 st3 => ?_)
    rw [e2] at hp3
    rw [e1, e3]
    simp [ev_skip, ev_seq, ev_cond2, ev_region2, evOps_nil, evOps_cons, opG_none, opG_some, opJ, opU_ff, isU_bool, opK_eq, opA_move, opA_assign, opA_pick, opA_bin, opA_extract, putO_some, putH_lt, putC_lt, condB_false, binT_some, binA, avO_some, pickT, extractT, io_add, io_neq, opS, opV, Go.Mx.look, seqK, blockK, Fr.known, mapO, extractA, headK, getV, getB, chkP, orO_some, eqT_some, tk3, tk26, w1]
    exact ⟨200 - (i + 1), by omega, i + 1, fp3, by omega, rfl, by simp, by simp [paC, pF], hp3⟩
  · have : i = 200 := by omega
    subst this
    simp
    refine send_sp a (SF 200) fp 1000 pG H2 _ hp (okF (by omega)) (by omega) fewG (fun H3 fp3 hp3 st3 => ?_)
    rw [g1s] at hp3
    rw [g1]
    simp [ev_seq, ev_region2, evOps_nil, evOps_cons, opG_none, opA_move, opA_assign, opA_extract, opA_load, opA_fieldAddr, opA_call, opA_store, putO_some, putH_lt, putC_lt, putU_none, extractT, loadT, fieldAddrT, storeT, opS, opV, Go.Mx.look, seqK, mapO, callA, extractA, cellsA_v, okPart_v, Value.oneCell', partA, loadS, plusS, storeS, sz9, sz30, ag30, Try.underlying30, ok12, splice]
    refine send_sp a (SF 200) fp3 1000 pSt H3 _ hp3 (okF (by omega)) (by omega) fewSt (fun H4 fp4 hp4 st4 => ?_)
    rw [g2s] at hp4
    rw [g2]
    simp [ev_seq, ev_region2, evOps_nil, evOps_cons, opG_none, opA_move, opA_assign, opA_extract, opA_call, putO_some, putH_lt, putC_lt, extractT, opS, opV, Go.Mx.look, seqK, mapO, callA, extractA, ok13]
    refine poll_sp a (SF 200) fp4 1000 tA tD 1 0 H4 _ hp4 (okF (by omega)) (by omega) (by decide) (by decide) (fun e => by rw [gf] at e; simp at e) (fun d hd H5 fp5 hp5 st5 => ?_)
    rw [gp] at hp5
    simp [ev_seq, ev_region2, evOps_nil, evOps_cons, opG_none, opA_move, opA_load, opA_call, putO_some, putH_lt, putC_lt, loadT, opS, opV, Go.Mx.look, seqK, mapO, callA, partA, loadS, sz30, ag30, ok12]
    refine send_sp a SG fp5 1000 pSt H5 _ hp5 okG (by omega) fewSt (fun H6 fp6 hp6 st6 => ?_)
    rw [g3s] at hp6
    rw [g3, g3r]
    simp [ev_seq, ev_region2, evOps_nil, evOps_cons, opG_none, opG_some, opJ, opU_ft, isU_bool, opK_eq, opA_move, opA_assign, opA_pick, opA_bin, opA_extract, opA_call, putO_some, putH_lt, putC_lt, condB_true, binT_some, binA, avO_some, pickT, extractT, io_eql, opS, opV, Go.Mx.look, seqK, Fr.known, mapO, callA, extractA, orO_some, eqT_some, tk3, tk26, ok15]
    refine waiting_sp a SH fp6 1001 tA tD H6 _ hp6 okH (by decide) (by decide) ?_
    rw [gw1]
    simp [evOps_cons, opG_none, opG_some, opJ, opU_ft, isU_bool, opK_eq, opA_move, opA_pick, opA_bin, opA_call, putO_some, putH_lt, putC_lt, condB_true, binT_some, binA, avO_some, pickT, io_eql, opS, opV, Go.Mx.look, Fr.known, mapO, callA, orO_some, eqT_some, tk3, ok15]
    refine waiting_sp a SH fp6 1001 tA tE H6 _ hp6 okH (by decide) (by decide) ?_
    rw [gw2]
    simp [evOps_cons, opG_none, opG_some, opJ, opU_ft, isU_bool, opK_eq, opA_move, opA_pick, opA_bin, opA_call, putO_some, putH_lt, putC_lt, condB_true, binT_some, binA, avO_some, pickT, io_eql, opS, opV, Go.Mx.look, Fr.known, mapO, callA, orO_some, eqT_some, tk3, ok16]
    refine awake_sp H6 _ (fun H7 _ => ?_)
    simp [ev_ret, evOps_nil, evOps_cons, opG_none, opA_assign, opA_pick, putO_some, putH_lt, putC_lt, pickT, opS, opV, Go.Mx.look, seqK, retK, retA, resA, mapO]
end Go.Proofs.Ytamhmecfjkahdaa
