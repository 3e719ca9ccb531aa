import Derived.Test.YtbdfhenelbakaaaFa
import Derived.Test.YtbdfhenelbakaaaPl
import Derived.Test.YtbdfhenelbakaaaMxSj

import Derived.Test.YtbdfhenelbakaaaMxSc
import Derived.Test.YtbdfhenelbakaaaMxSe
namespace Go.Proofs.Ytbdfhenelbakaaa
open Go.Mx
set_option linter.unusedVariables false
set_option linter.unusedSimpArgs false

theorem tl_inj (s t : ByteArray) : (s.toList = t.toList) = (s = t) := propext txl_inj
def enC (e : En) : List AV := [.v (.string e.ty), .v (.string e.ky), .v (.string e.id)]
theorem enC_len (e : En) : (enC e).length = 3 := rfl
def keyV (k : ByteArray × ByteArray) : AV := .agg [.v (.string k.1), .v (.string k.2)]
def rowE (l : List En) : AV := .row false l.length (l.flatMap enC)
def SzE (e : En) : Prop := e.ty.size ≤ 140737488351232 ∧ e.ky.size ≤ 140737488351232 ∧ e.id.size ≤ 140737488351232
def FewE (e : En) : Prop := e.ty.size + e.ky.size + e.id.size ≤ 300
def FewL (l : List En) : Prop := l.length ≤ 60 ∧ ∀ e ∈ l, FewE e
def Few1 (l : List En) : Prop := l.length ≤ 300 ∧ ∀ e ∈ l, FewE e
theorem FewL.to {l : List En} (h : FewL l) : Few1 l := ⟨by have := h.1; omega, h.2⟩

theorem at_sp (e : En) (H : Hp) (Q : AV → Hp → Prop) (h : Q (keyV (keyE e)) H) : Sp Try.prog 28 [.agg (enC e)] Q H := by
  refine Sp.body [] ⟨[1, 2], [], []⟩ [] mo Try.func28 rfl (Nat.le_of_ble_eq_true rfl) (by kernel_rfl) ?_
  simp [ev_seq, ev_ret, ev_region2, evOps_nil, evOps_cons, opG_none, opA_load, opA_fieldAddr, opA_alloc, opA_box, opA_store, opA_build, putO_some, putH_lt, putU_none, loadT, fieldAddrT, allocT, boxT, storeT, buildZ, partsZ, fillO, aggO, opS, opV, Go.Mx.look, fr0, argSlots, seqK, Fr.newBox, dropBp, retK, retA, resA, mapO, cellsA_v, cellsA_agg, okPart_v, okPart_agg, Value.oneCell', partA, loadS, plusS, fillA, newK, storeS, sz9, ag9, Try.underlying32, sz47, ag47, ze47, of47, enC, splice]
  simpa [keyV, keyE] using h
theorem like_sp (a b : En) (H : Hp) (Q : AV → Hp → Prop) (h : Q (.v (.bool (likeE a b))) H) : Sp Try.prog 35 [.agg (enC a), .agg (enC b)] Q H := by
  refine Sp.body [] ⟨[2, 3], [], []⟩ [] mo Try.func35 rfl (Nat.le_of_ble_eq_true rfl) (by kernel_rfl) ?_
  have key : ∀ x : Bool, (x = true ↔ likeE a b = true) → Q (.v (.bool x)) H := fun x hb => by rwa [Bool.eq_iff_iff.2 hb]
  unfold likeE keyE at key
  simp [ev_seq, ev_ret, ev_region2, evOps_nil, evOps_cons, opG_none, opG_some, opJ, opU_ft, isU_bool, opK_eq, opA_move, opA_assign, opA_pick, opA_bin, opA_load, opA_fieldAddr, opA_box, putO_some, putH_lt, putV_lt, condB_true, condB_false, binT_some, binA, avO_some, pickT, loadT, fieldAddrT, boxT, strOp, opS, opV, Go.Mx.look, fr0, argSlots, seqK, Fr.known, Fr.newBox, dropBp, retK, retA, resA, mapO, cellsA_agg, okPart_agg, partA, loadS, plusS, newK, orO_some, eqT_some, sz9, ag9, tk9, Try.underlying32, enC, tl_inj]
  refine ⟨fun e => key _ ?_, fun e => key _ ?_⟩
  · simp [e, tl_inj]
  · simp [e]
theorem less_sp (a b : En) (H : Hp) (Q : AV → Hp → Prop) (h : Q (.v (.bool (aheadE a b))) H) : Sp Try.prog 34 [.agg (enC a), .agg (enC b)] Q H := by
  refine Sp.body [] ⟨[2, 3], [], []⟩ [] mo Try.func34 rfl (Nat.le_of_ble_eq_true rfl) (by kernel_rfl) ?_
  have key : ∀ x : Bool, (x = true ↔ aheadE a b = true) → Q (.v (.bool x)) H := fun x hb => by rwa [Bool.eq_iff_iff.2 hb]
  unfold aheadE at key
  simp [ev_seq, ev_ret, ev_region2, evOps_nil, evOps_cons, opG_none, opG_some, opJ, opU_true, opU_ft, opU_ff, isU_undef, isU_bool, opK_eq, opA_move, opA_assign, opA_pick, opA_bin, opA_load, opA_fieldAddr, opA_box, putO_some, putH_lt, putV_lt, condB_true, condB_false, binT_some, binA, avO_some, pickT, loadT, fieldAddrT, boxT, strOp, opS, opV, Go.Mx.look, fr0, argSlots, seqK, Fr.known, Fr.newBox, dropBp, retK, retA, resA, mapO, cellsA_agg, okPart_agg, partA, loadS, plusS, newK, orO_some, eqT_some, sz9, ag9, tk9, Try.underlying32, enC, tl_inj, Go.Proofs.bytesLess_eq]
  refine ⟨fun e => ?_, fun e => ?_⟩
  · have hne : a.ty ≠ b.ty := fun e2 => by rw [e2] at e; exact List.lt_irrefl _ e
    apply key; simp [hne, txl, e]
  · refine ⟨fun e2 => key _ ?_, fun e2 => key _ ?_⟩
    · rw [if_pos e2]; simp only [decide_eq_true_eq]; rfl
    · rw [if_neg e2]; simp; exact List.not_lt.2 e
def HaInv (H : Hp) (l : List En) (x : En) (n : Nat) (xs : List AV) (bs : List (List AV)) (H2 : Hp) : Prop :=
  ∃ i : Nat, i ≤ l.length ∧ n = l.length - i ∧ (l.take i).any (fun e => likeE e x) = false ∧ xs = [rowE l, .v (.int .i64 i)] ∧ bs = [enC x] ∧ H2 = H
/-- Is one like this? -/
theorem has_sp (l : List En) (x : En) (H : Hp) (Q : AV → Hp → Prop) (hl : l.length ≤ 1000) (h : Q (.v (.bool (l.any (fun e => likeE e x)))) H) : Sp Try.prog 24 [rowE l, .agg (enC x)] Q H := by
  refine Sp.body [(2, ⟨[0, 5], [(3, 3, 0)], [3]⟩)] ⟨[3], [], pl24⟩ tb24 mo Try.func24 rfl (Nat.le_of_ble_eq_true rfl) (by kernel_rfl) ?_
  simp [ev_seq, ev_block, ev_region2, ev_loop, loopK, evOps_nil, evOps_cons, opG_none, opA_assign, opA_box, putO_some, putH_lt, boxT, opS, opV, Go.Mx.look, fr0, argSlots, seqK, Fr.newBox, dropBp, mapO, cellsA_agg, okPart_agg, newK, headK, getV, getB, chkP, firstReg, pl24, rowE, enC]
  refine LoopC.intro (fun n xs bs H2 => HaInv H l x n xs bs H2) l.length
    ⟨0, by omega, by omega, by simp, by simp [rowE], rfl, rfl⟩ ?_
  rintro n xs bs H2 ⟨i, hi, rfl, hj, rfl, rfl, rfl⟩
  simp [ev_skip, ev_seq, ev_cond2, ev_block, ev_exit, ev_ret, ev_region2, evOps_nil, evOps_cons, opG_none, opA_move, opA_assign, opA_bin, opA_indexAddr, opA_len, putO_some, putH_lt, binT_some, binA, avO_some, lenT_row, indexAddrT, io_lss, opS, opV, Go.Mx.look, seqK, blockK, Fr.known, retK, retA, resA, mapO, indexAddrA, mkFr, slotsOf, ptrsOf, boxesOf, orO_some, eqT_some, ev_draw, drawK, evP_q, opAt_some, tk3, Try.underlying22, sz32, rowE, enC]
  refine ⟨fun hlt => ?_, fun hge => ?_⟩
  · have hx := List.getElem?_eq_getElem hlt
    generalize l[i] = s at hx
    have hsl := flat_sub enC_len l i hx
    have hle : i * 3 + 3 ≤ (List.map (fun a : En => 3) l).sum := flat_le2 enC_len hx
    have w1 : IntKind.i64.wrap ((i : Int) + 1) = (i : Int) + 1 := wr_i64 (by omega)
    have htk : l.take (i + 1) = l.take i ++ [s] := by rw [List.take_add_one, hx]; rfl
    simp [opG_none, opA_load, opA_call, putO_some, putH_lt, loadT, opS, opV, Go.Mx.look, mapO, callA, partA, loadA, loadS, evP_q, evP_s, opAt_some, sz32, ag32, ok35, hlt, hsl, hle, enC]
    refine like_sp s x H2 _ ?_
    cases hb : likeE s x with
    | true =>
      have : l.any (fun e => likeE e x) = true := List.any_eq_true.2 ⟨s, List.mem_of_getElem? hx, hb⟩
      rw [this] at h
      simp [ev_seq, ev_cond2, ev_ret, ev_region2, evOps_nil, evOps_cons, opG_none, opA_assign, putO_some, putH_lt, putC_lt, condB_true, opS, opV, Go.Mx.look, seqK, blockK, Fr.known, retK, retA, resA, mapO, evP_nil, chkK_eq, allQ_nil]; exact h
    | false =>
      simp [ev_skip, ev_cond2, ev_region2, evOps_nil, evOps_cons, opG_none, opA_move, opA_assign, opA_bin, putO_some, putH_lt, putC_lt, condB_false, binT_some, binA, avO_some, io_add, opS, opV, Go.Mx.look, seqK, blockK, Fr.known, mapO, headK, getV, getB, chkP, orO_some, eqT_some, evP_nil, chkK_eq, allQ_nil, tk3, w1]
      exact ⟨l.length - (i + 1), by omega, i + 1, by omega, rfl, by rw [htk, List.any_append, hj]; simp [hb], by simp [rowE], rfl, rfl⟩
  · have : i = l.length := by omega
    subst this
    rw [List.take_length] at hj
    rw [hj] at h
    exact h
theorem low_ens (L : List En) : ∀ c ∈ L.flatMap enC, Low 0 c := by
  intro c hc
  obtain ⟨s, _, hs⟩ := List.mem_flatMap.1 hc
  simp [enC] at hs
  rcases hs with rfl | rfl | rfl <;> simp
def WoInv (H : Hp) (l : List En) (x : En) (n : Nat) (xs : List AV) (bs : List (List AV)) (H2 : Hp) : Prop :=
  ∃ (i : Nat) (v : AV), i ≤ l.length ∧ n = l.length - i ∧ xs = [rowE l, v, .v (.int .i64 i)] ∧ bs = [enC x] ∧ NewK 3 H H2 ((l.take i).filter (fun e => !likeE e x)).length (((l.take i).filter (fun e => !likeE e x)).flatMap enC) v ∧ Same [] H H2
set_option maxRecDepth 20000 in
theorem without_sp (l : List En) (x : En) (H : Hp) (Q : AV → Hp → Prop) (hl : l.length ≤ 1000) (h : Q (rowE (l.filter (fun e => !likeE e x))) H) : Sp Try.prog 33 [rowE l, .agg (enC x)] Q H := by
  refine Sp.newK ?_
  refine Sp.body [(3, ⟨[0, 5, 6], [(3, 3, 0)], [3]⟩)] ⟨[3], [], pl33⟩ tb33 mo Try.func33 rfl (Nat.le_of_ble_eq_true rfl) (by kernel_rfl) ?_
  simp [ev_seq, ev_block, ev_region2, ev_loop, loopK, evOps_nil, evOps_cons, opG_none, opA_assign, opA_box, putO_some, putH_lt, boxT, opS, opV, Go.Mx.look, fr0, argSlots, seqK, Fr.newBox, dropBp, mapO, cellsA_agg, okPart_agg, newK, headK, getV, getB, chkP, firstReg, pl33, rowE, enC]
  refine LoopC.intro (fun n xs bs H2 => WoInv H l x n xs bs H2) l.length ⟨0, _, by omega, by omega, by simp [rowE], rfl, NewK.nil _ _ _, Same.refl _ _⟩ ?_
  rintro n xs bs H2 ⟨i, v, hi, rfl, rfl, rfl, hv, hs⟩
  simp [ev_skip, ev_seq, ev_cond2, ev_block, ev_exit, ev_ret, ev_region2, evOps_nil, evOps_cons, opG_none, opA_move, opA_assign, opA_bin, opA_indexAddr, opA_len, putO_some, putH_lt, binT_some, binA, avO_some, lenT_row, indexAddrT, io_lss, opS, opV, Go.Mx.look, seqK, blockK, Fr.known, retK, retA, resA, mapO, indexAddrA, mkFr, slotsOf, ptrsOf, boxesOf, orO_some, eqT_some, ev_draw, drawK, evP_q, opAt_some, tk3, Try.underlying22, sz32, rowE, enC]
  refine ⟨fun hlt => ?_, fun hge => ?_⟩
  · have hx := List.getElem?_eq_getElem hlt
    generalize l[i] = s at hx
    have hsl := flat_sub enC_len l i hx
    have hle : i * 3 + 3 ≤ (List.map (fun a : En => 3) l).sum := flat_le2 enC_len hx
    have w1 : IntKind.i64.wrap ((i : Int) + 1) = (i : Int) + 1 := wr_i64 (by omega)
    have htk : l.take (i + 1) = l.take i ++ [s] := by rw [List.take_add_one, hx]; rfl
    have hfl : ((l.take i).filter (fun e => !likeE e x)).length ≤ 1000 := by
      refine Nat.le_trans (List.length_filter_le _ _) ?_
      rw [List.length_take]; omega
    simp [opG_none, opA_load, opA_call, putO_some, putH_lt, loadT, opS, opV, Go.Mx.look, mapO, callA, partA, loadA, loadS, evP_q, evP_s, opAt_some, sz32, ag32, ok35, hlt, hsl, hle, enC]
    refine like_sp s x H2 _ ?_
    cases hb : likeE s x with
    | true =>
      have e : (l.take (i + 1)).filter (fun e => !likeE e x) = (l.take i).filter (fun e => !likeE e x) := by rw [htk]; simp [hb]
      simp [ev_skip, ev_cond2, ev_region2, evOps_nil, evOps_cons, opG_none, opA_move, opA_assign, opA_bin, opA_un, putO_some, putH_lt, putC_lt, condB_false, binT_some, binA, avO_some, unT, io_add, opS, opV, Go.Mx.look, seqK, blockK, Fr.known, mapO, unA, headK, getV, getB, chkP, orO_some, eqT_some, evP_nil, evP_q, opAt_some, chkK_eq, allQ_nil, tk3, w1]
      exact ⟨l.length - (i + 1), by omega, i + 1, v, by omega, rfl, by simp [rowE], rfl, by rw [e]; exact hv, hs⟩
    | false =>
      simp [ev_cond2, ev_region2, evOps_cons, opG_none, opA_move, opA_un, opA_load, opA_indexAddr, opA_buildSlice, opA_append, putO_some, putH_lt, putC_lt, condB_true, unT, loadT, indexAddrT, buildSliceT, appendT, repeatL_1, opS, opV, Go.Mx.look, seqK, Fr.known, mapO, unA, cellsA_agg, okPart_agg, partA, loadA, loadS, indexAddrA, fillA, bindO, srcTy, evP_nil, evP_q, opAt_some, chkK_eq, allQ_nil, st22, Try.underlying22, sz32, ag32, by32, ze32, hlt, hsl, hle, enC]
      refine hv.app (by simp) hs.1 (by omega) (fun v' H3 fp hv' hs' hfp => ?_)
      have e : (l.take (i + 1)).filter (fun e => !likeE e x) = (l.take i).filter (fun e => !likeE e x) ++ [s] := by rw [htk]; simp [hb]
      simp [ev_region2, evOps_nil, evOps_cons, opG_none, opA_move, opA_assign, opA_bin, putO_some, putH_lt, putC_lt, binT_some, binA, avO_some, io_add, opS, opV, Go.Mx.look, seqK, blockK, mapO, headK, getV, getB, chkP, orO_some, eqT_some, tk3, w1]
      refine ⟨l.length - (i + 1), by omega, i + 1, v', by omega, rfl, by simp [rowE], rfl, ?_, hs.new hs' (fun j hj => (hfp j hj).1)⟩
      rw [e]
      simpa [enC] using hv'
  · have : i = l.length := by omega
    subst this
    rw [List.take_length] at hv
    exact ⟨hs, 3, _, _, hv, low_ens _, h⟩
/-- .. put, the document's. -/
def insP (e : En) : Bool → List En → List En
  | d, [] => if d then [] else [e]
  | d, o :: r => if !d && aheadE e o then e :: o :: insP e true r else o :: insP e d r
theorem insP_true (e : En) : ∀ L, insP e true L = L
  | [] => rfl
  | o :: r => by simp [insP, insP_true e r]
theorem insP_eq (e : En) : ∀ L, insP e false (L.filter (fun o => !likeE e o)) = insG e false L
  | [] => rfl
  | o :: r => by
    simp only [insG]
    by_cases h : likeE e o = true
    · simp only [h, if_true]; rw [← insP_eq e r]; simp [h]
    · simp only [h]
      rw [List.filter_cons, if_pos (by simpa using h)]
      simp only [insP]
      by_cases ha : aheadE e o = true
      · simp [ha, insP_true, ins_true]
      · simp [ha, insP_eq e r]
def RpInv (H : Hp) (L : List En) (e : En) (n : Nat) (xs : List AV) (bs : List (List AV)) (H2 : Hp) : Prop :=
  ∃ (i : Nat) (O : List En) (v : AV) (d : Bool), i ≤ L.length ∧ n = L.length - i ∧ xs = [rowE L, v, .v (.bool d), .v (.int .i64 i)] ∧ bs = [enC e] ∧ NewK 3 H H2 O.length (O.flatMap enC) v ∧ Same [] H H2 ∧ O ++ insP e d (L.drop i) = insP e false L
theorem insP_len (e : En) : ∀ (d : Bool) (L : List En), (insP e d L).length ≤ L.length + 1
  | d, [] => by simp only [insP]; split <;> simp
  | d, o :: r => by
    have h1 := insP_len e d r
    simp only [insP]
    split
    · simp [insP_true]
    · simp; omega
theorem appA_mono2 {H : Hp} {sz bytes : Nat} {d s : AV} {k k' : AV → Hp → Prop} (h : appA H sz bytes d s k) (hk : ∀ v H', k v H' → k' v H') : appA H sz bytes d s k' := appA_mono hk h
set_option maxRecDepth 20000 in
set_option maxHeartbeats 1000000 in
theorem rput_sp (l : List En) (e : En) (H : Hp) (Q : AV → Hp → Prop) (hl : l.length ≤ 1000) (h : Q (rowE (putE l e)) H) : Sp Try.prog 21 [rowE l, .agg (enC e)] Q H := by
  refine Sp.newKo ?_
  refine Sp.body [(7, ⟨[0, 5, 6, 7], [(3, 3, 0)], [3]⟩)] ⟨[3], [], pl21⟩ tb21 mo Try.func21 rfl (Nat.le_of_ble_eq_true rfl) (by kernel_rfl) ?_
  simp [ev_seq, ev_region2, evOps_nil, evOps_cons, opG_none, opA_move, opA_assign, opA_load, opA_call, opA_box, putO_some, putH_lt, loadT, boxT, opS, opV, Go.Mx.look, fr0, argSlots, seqK, Fr.newBox, dropBp, mapO, callA, cellsA_agg, okPart_agg, partA, loadS, newK, sz32, ag32, ok33, pl21, enC]
  refine without_sp l e H _ hl ?_
  have ecomm : (fun o => !likeE o e) = fun o => !likeE e o := by funext o; rw [like_symm]
  rw [ecomm]
  unfold putE at h
  have tl0 : ∀ s : ByteArray, (s.toList = []) = (s = noId) := fun s => by show _ = (s = tx []); rw [← tl_inj, tx_list]
  simp [ev_skip, ev_seq, ev_cond2, ev_block, ev_ret, ev_region2, ev_loop, loopK, evOps_nil, evOps_cons, opG_none, opA_move, opA_assign, opA_bin, opA_load, opA_fieldAddr, putO_some, putH_lt, putC_lt, binT_some, binA, avO_some, loadT, fieldAddrT, strOp, opS, opV, Go.Mx.look, seqK, Fr.known, retK, retA, resA, mapO, partA, loadS, plusS, headK, getV, getB, chkP, firstReg, orO_some, eqT_some, sz9, ag9, tk9, Try.underlying32, tl0]
  have hfl : (l.filter (fun o => !likeE e o)).length ≤ 1000 := Nat.le_trans (List.length_filter_le _ _) hl
  refine ⟨fun hid => ?_, fun hid => ?_⟩
  · rw [if_pos hid] at h
    exact ⟨Same.refl _ _, .inl ⟨by rw [rowE, low_row]; exact low_ens _, h⟩⟩
  · rw [if_neg hid, ← insP_eq] at h
    generalize l.filter (fun o => !likeE e o) = L at h hfl
    refine LoopC.intro (fun n xs bs H2 => RpInv H L e n xs bs H2) L.length ⟨0, [], _, false, by omega, by omega, by simp, by simp [enC], NewK.nil _ _ _, Same.refl _ _, by simp⟩ ?_
    rintro n xs bs H2 ⟨i, O, v, d, hi, rfl, rfl, rfl, hv, hs, hO⟩
    have hOl : O.length ≤ 1001 := by
      have h2 := congrArg List.length hO
      have h3 := insP_len e false L
      rw [List.length_append] at h2; omega
    have step : ∀ (O' : List En) (v' : AV) (d' : Bool) (H3 : Hp), i < L.length → NewK 3 H H3 O'.length (O'.flatMap enC) v' → Same [] H H3 → O' ++ insP e d' (L.drop (i + 1)) = insP e false L →
        ∃ m, m < L.length - i ∧ RpInv H L e m [rowE L, v', .v (.bool d'), .v (.int .i64 (i + 1))] [enC e] H3 := fun O' v' d' H3 h2 h4 h5 h6 => ⟨L.length - (i + 1), by omega, i + 1, O', v', d', by omega, rfl, by simp, rfl, h4, h5, h6⟩
    simp only [enC, rowE] at step
    simp [ev_skip, ev_seq, ev_cond2, ev_block, ev_exit, ev_ret, ev_region2, evOps_nil, evOps_cons, opG_none, opG_some, opJ, opU_ft, isU_bool, opK_eq, opA_move, opA_assign, opA_pick, opA_bin, opA_un, opA_load, opA_indexAddr, opA_len, opA_buildSlice, opA_append, putO_some, putH_lt, putV_lt, condB_true, condB_false, binT_some, binA, avO_some, pickT, unT, loadT, lenT_row, indexAddrT, buildSliceT, appendT, repeatL_1, io_lss, opS, opV, Go.Mx.look, seqK, blockK, Fr.known, retK, retA, resA, mapO, unA, cellsA_agg, okPart_agg, partA, loadS, indexAddrA, fillA, mkFr, slotsOf, ptrsOf, boxesOf, bindO, srcTy, orO_some, eqT_some, ev_draw, drawK, evP_nil, evP_q, evP_s, opAt_some, chkK_eq, allQ_nil, tk3, st22, Try.underlying22, sz32, ag32, by32, ze32, rowE, enC]
    refine ⟨fun hlt => ?_, fun hge => ?_⟩
    · have hx := List.getElem?_eq_getElem hlt
      generalize L[i] = o at hx
      have hsl := flat_sub enC_len L i hx
      have hle : i * 3 + 3 ≤ (List.map (fun a : En => 3) L).sum := flat_le2 enC_len hx
      have w1 : IntKind.i64.wrap ((i : Int) + 1) = (i : Int) + 1 := wr_i64 (by omega)
      have hdr : L.drop i = o :: L.drop (i + 1) := by
        rw [List.drop_eq_getElem_cons hlt]
        rw [List.getElem?_eq_getElem hlt] at hx
        simp at hx; rw [hx]
      rw [hdr] at hO
      have keep : ∀ (O' : List En) (v' : AV) (d' : Bool) (H3 : Hp) , NewK 3 H H3 O'.length (O'.flatMap enC) v' → Same [] H H3 → O' ++ o :: insP e d' (L.drop (i + 1)) = insP e false L → O'.length ≤ 1002 →
          appA H3 3 48 v' (.row true 1 [.v (.string o.ty), .v (.string o.ky), .v (.string o.id)]) (fun v2 H4 => Same [] H H4 ∧ NewK 3 H H4 (O' ++ [o]).length ((O' ++ [o]).flatMap enC) v2 ∧ (O' ++ [o]) ++ insP e d' (L.drop (i + 1)) = insP e false L) := fun O' v' d' H3 h4 h5 h6 h7 => by
        refine h4.app (by simp) h5.1 (by omega) (fun v2 H4 fp hv2 hs2 hfp => ⟨h5.new hs2 (fun j hj => (hfp j hj).1), by simpa [enC] using hv2, by simpa using h6⟩)
      cases d with
      | true =>
        simp [evOps_cons, opG_none, opG_some, opJ, opU_ft, isU_bool, opK_eq, opA_load, opA_call, opA_buildSlice, opA_append, putO_some, putH_lt, condB_true, loadT, buildSliceT, appendT, repeatL_1, opS, opV, Go.Mx.look, Fr.known, mapO, callA, cellsA_agg, okPart_agg, partA, loadA, loadS, fillA, bindO, srcTy, evP_q, evP_s, opAt_some, st22, Try.underlying22, sz32, ag32, by32, ze32, ok34, hlt, hsl, hle, enC]
        refine appA_mono2 (keep O v true H2 hv hs (by simpa [insP] using hO) (by omega)) (fun v2 H4 h2 => ?_)
        obtain ⟨q1, q2, q3⟩ := h2
        simp [ev_region2, evOps_nil, evOps_cons, opG_none, opA_move, opA_assign, opA_bin, putO_some, putH_lt, putC_lt, binT_some, binA, avO_some, io_add, opS, opV, Go.Mx.look, seqK, blockK, mapO, headK, getV, getB, chkP, orO_some, eqT_some, tk3, w1]
        simpa using step _ v2 true H4 hlt q2 q1 q3
      | false =>
        simp [evOps_cons, opG_none, opG_some, opJ, opU_ft, isU_bool, opK_eq, opA_load, opA_call, opA_buildSlice, opA_append, putO_some, putH_lt, condB_true, loadT, buildSliceT, appendT, repeatL_1, opS, opV, Go.Mx.look, Fr.known, mapO, callA, cellsA_agg, okPart_agg, partA, loadA, loadS, fillA, bindO, srcTy, evP_q, evP_s, opAt_some, st22, Try.underlying22, sz32, ag32, by32, ze32, ok34, hlt, hsl, hle, enC]
        refine less_sp e o H2 _ ?_
        cases ha : aheadE e o with
        | false =>
          simp [ev_skip, ev_cond2, ev_region2, evOps_cons, opG_none, opA_move, opA_pick, opA_load, opA_indexAddr, opA_buildSlice, opA_append, putO_some, putH_lt, putC_lt, condB_false, pickT, loadT, indexAddrT, buildSliceT, appendT, repeatL_1, opS, opV, Go.Mx.look, seqK, Fr.known, mapO, cellsA_agg, okPart_agg, partA, loadA, loadS, indexAddrA, fillA, bindO, srcTy, evP_nil, evP_q, opAt_some, chkK_eq, allQ_nil, st22, Try.underlying22, sz32, ag32, by32, ze32, hlt, hsl, hle, enC]
          refine appA_mono2 (keep O v false H2 hv hs (by simpa [insP, ha] using hO) (by omega)) (fun v2 H4 h2 => ?_)
          obtain ⟨q1, q2, q3⟩ := h2
          simp [ev_region2, evOps_nil, evOps_cons, opG_none, opA_move, opA_assign, opA_bin, putO_some, putH_lt, putC_lt, binT_some, binA, avO_some, io_add, opS, opV, Go.Mx.look, seqK, blockK, mapO, headK, getV, getB, chkP, orO_some, eqT_some, tk3, w1]
          simpa using step _ v2 false H4 hlt q2 q1 q3
        | true =>
          simp [ev_seq, ev_cond2, ev_region2, evOps_cons, opG_none, opA_move, opA_pick, opA_load, opA_buildSlice, opA_append, putO_some, putH_lt, putC_lt, condB_true, pickT, loadT, buildSliceT, appendT, repeatL_1, opS, opV, Go.Mx.look, seqK, Fr.known, mapO, cellsA_agg, okPart_agg, partA, loadS, fillA, bindO, srcTy, evP_nil, evP_q, opAt_some, chkK_eq, allQ_nil, st22, Try.underlying22, sz32, ag32, by32, ze32]
          refine hv.app (by simp) hs.1 (by omega) (fun v2 H3 fp hv2 hs2 hfp => ?_)
          have hs3 : Same [] H H3 := hs.new hs2 (fun j hj => (hfp j hj).1)
          simp [ev_region2, evOps_nil, evOps_cons, opG_none, opA_move, opA_assign, opA_load, opA_indexAddr, opA_buildSlice, opA_append, putO_some, putH_lt, putC_lt, loadT, indexAddrT, buildSliceT, appendT, repeatL_1, opS, opV, Go.Mx.look, seqK, mapO, cellsA_agg, okPart_agg, partA, loadA, loadS, indexAddrA, fillA, bindO, srcTy, st22, Try.underlying22, sz32, ag32, by32, ze32, hlt, hsl, hle, enC]
          refine appA_mono2 (keep (O ++ [e]) v2 true H3 (by simpa [enC] using hv2) hs3 (by simpa [insP, ha] using hO) (by simp; omega)) (fun v3 H4 h2 => ?_)
          obtain ⟨q1, q2, q3⟩ := h2
          simp [ev_region2, evOps_nil, evOps_cons, opG_none, opA_move, opA_assign, opA_bin, putO_some, putH_lt, putC_lt, binT_some, binA, avO_some, io_add, opS, opV, Go.Mx.look, seqK, blockK, mapO, headK, getV, getB, chkP, orO_some, eqT_some, tk3, w1]
          simpa using step _ v3 true H4 hlt q2 q1 q3
    · have : i = L.length := by omega
      subst this
      rw [List.drop_length] at hO
      cases d with
      | true =>
        simp [insP] at hO
        subst hO
        simp
        exact ⟨hs, .inr ⟨3, _, _, hv, low_ens _, h⟩⟩
      | false =>
        simp [insP] at hO
        simp
        refine hv.app (by simp) hs.1 (by omega) (fun v2 H3 fp hv2 hs2 hfp => ?_)
        simp [ev_seq, ev_ret, ev_region2, evOps_nil, evOps_cons, opG_none, opA_move, opA_assign, putO_some, putH_lt, putC_lt, opS, opV, Go.Mx.look, seqK, retK, retA, resA, mapO]
        refine ⟨hs.new hs2 (fun j hj => (hfp j hj).1), .inr ⟨3, _, _, hv2, ?_, ?_⟩⟩
        · intro c hc
          rcases List.mem_append.1 hc with hc | hc
          · exact low_ens _ c hc
          · simp at hc; rcases hc with rfl | rfl | rfl <;> simp
        · rw [← hO] at h
          simpa [rowE, enC] using h
end Go.Proofs.Ytbdfhenelbakaaa
