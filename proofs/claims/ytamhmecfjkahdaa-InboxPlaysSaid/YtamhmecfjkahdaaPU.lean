import Derived.Test.YtamhmecfjkahdaaPP
namespace Go.Proofs.Ytamhmecfjkahdaa
open Go.Mx
set_option linter.unusedVariables false
set_option linter.unusedSimpArgs false
set_option linter.unnecessarySimpa false

def hitR (x : Pa) (r : Rw) : Bool := toB x r.d
def pushIf (x : Pa) (d : Dv) : Dv := if toB x d then push x d else d
def fullW (x : Pa) (l : List Rw) : Bool := ((l.filter (hitR x)).map (·.d)).any fullB
def UInv1 (R : List Rw) (c : Nat) (x : Pa) (H : Hp) (n : Nat) (xs : List AV) (bs : List (List AV)) (H2 : Hp) : Prop :=
  ∃ (i : Nat) (v : AV), i ≤ R.length ∧ n = R.length - i ∧ xs = [.ptr c 0 0, v, .v (.bool (fullW x (R.take i))), .v (.int .i64 i)] ∧ bs = [paC x] ∧ Same [] H H2 ∧ OwnS 1 H2 ((R.take i).filter (hitR x)).length (ptrsR ((R.take i).filter (hitR x))) v ∧ ∀ j ∈ slId v, H.length ≤ j
def UInv2 (R : List Rw) (S : St) (c : Nat) (vL vS : AV) (x : Pa) (v : AV) (W : List Rw) (H1 : Hp) (n : Nat) (xs : List AV) (bs : List (List AV)) (H2 : Hp) : Prop :=
  ∃ (i : Nat) (A B A' : List Rw), i ≤ W.length ∧ n = W.length - i ∧ xs = [.ptr c 0 0, v, .v (.int .i64 i)] ∧ bs = [paC x] ∧ R = A ++ B ∧ (A.filter (hitR x)).length = i ∧ A'.map (·.d) = (A.map (·.d)).map (pushIf x) ∧ RfR H2 c vL vS (A' ++ B) ⟨(A' ++ B).map (·.d), S.sent⟩ ∧ Stp (c :: (slId vL ++ (slId vS ++ fpL R))) H1 H2 (c :: (slId vL ++ (slId vS ++ fpL (A' ++ B)))) ∧ OwnS 1 H2 W.length (ptrsR W) v ∧ ∀ j ∈ slId v, j ∉ c :: (slId vL ++ (slId vS ++ fpL (A' ++ B)))
theorem ptrs_at {H : Hp} {v : AV} {W : List Rw} (h : OwnS 1 H W.length (ptrsR W) v) {i : Nat} {r : Rw} (hr : W[i]? = some r) : ∃ id ver cs, v = .sl id ver 1 0 W.length ∧ H[id]? = some (.cells ver cs) ∧ cs[i]? = some (.ptr r.b 0 0) ∧ W.length ≤ cs.length := by
  have hi : i < W.length := (List.getElem?_eq_some_iff.1 hr).1
  rcases h with ⟨h0, _⟩ | ⟨h0, h1, id, ver, tl, e, h3⟩
  · omega
  · refine ⟨id, ver, _, e, h3, ?_, ?_⟩
    · rw [List.getElem?_append_left (by rw [h1]; omega)]
      simp [ptrsR, hr]
    · rw [List.length_append, h1]; omega
theorem hit_ds {R : List Rw} {S : St} (h : R.map (·.d) = S.ds) (x : Pa) : (R.filter (hitR x)).map (·.d) = S.ds.filter (toB x) := by
  rw [← h, List.filter_map]; rfl
theorem take_filter {R : List Rw} {x : Pa} {i : Nat} {r : Rw} (hx : R[i]? = some r) : (R.take (i + 1)).filter (hitR x) = (R.take i).filter (hitR x) ++ (if hitR x r then [r] else []) := by
  rw [List.take_add_one, hx, List.filter_append, Option.toList_some, List.filter_cons, List.filter_nil]
theorem next_hit {R A B : List Rw} {x : Pa} {r : Rw} {i : Nat} (hR : R = A ++ B) (hA : (A.filter (hitR x)).length = i) (hr : (R.filter (hitR x))[i]? = some r) : ∃ B1 B2, B = B1 ++ r :: B2 ∧ (∀ y ∈ B1, hitR x y = false) ∧ hitR x r = true := by
  subst hR
  rw [List.filter_append, List.getElem?_append_right (by omega), hA, Nat.sub_self] at hr
  cases hf : B.filter (hitR x) with
  | nil => rw [hf] at hr; simp at hr
  | cons y l =>
    rw [hf] at hr
    simp at hr; subst hr
    obtain ⟨B1, B2, h1, h2, h3, h4⟩ := List.filter_eq_cons_iff.1 hf
    exact ⟨B1, B2, h1, fun z hz => by simpa using h2 z hz, h3⟩
theorem push_no {B : List Rw} {x : Pa} (h : ∀ y ∈ B, hitR x y = false) : (B.map (·.d)).map (pushIf x) = B.map (·.d) := by
  rw [List.map_map]
  apply List.map_congr_left
  intro y hy
  have := h y hy
  unfold hitR at this
  simp only [Function.comp, pushIf]
  rw [this]; rfl
set_option maxRecDepth 20000 in
set_option maxHeartbeats 8000000 in
theorem rsend_sp (c : Nat) (S : St) (fp : List Nat) (N : Nat) (x : Pa) (H : Hp) (Q : AV → Hp → Prop) (hp : RfAt H c S fp) (hk : StOk S N) (hN : N ≤ 50000) (hx : FewP x)
    (h : ∀ H' fp', RfAt H' c (sendS S x) fp' → Stp fp H H' fp' → Q (.tup [.v (.int .i64 (sendR S x)), .v (.int .i64 (sendE S x))]) H') : Sp Try.prog 20 [.ptr c 0 0, .agg (paC x)] Q H := by
  refine Sp.body [(8, ⟨[0, 6, 7, 8], [(3, 3, 0)], [3]⟩), (19, ⟨[0, 6, 10], [(3, 3, 0)], [3]⟩)] ⟨[3], [], pl20⟩ tb20 mo Try.func20 rfl (Nat.le_of_ble_eq_true rfl) (by kernel_rfl) ?_
  have hp0 := hp
  obtain ⟨vL, vS, R, hp, rfl⟩ := hp
  have hc := hp.cc
  have hx2 := hx
  unfold FewP at hx2
  have no : ∀ e : Int, sendE S x = e → e ≠ 0 → ∀ H', Same [] H H' → Q (.tup [.v (.int .i64 0), .v (.int .i64 e)]) H' := fun e he hne H' hs => by
    have := h H' _ (by unfold sendS; rw [he, if_neg hne]; exact hp0.same hs (by simp)) ⟨hs.wide (by simp), fun j hj => .inl hj⟩
    unfold sendR at this
    rw [he, if_neg hne] at this
    exact this
  have bad : goodX x = false → Q (.tup [.v (.int .i64 0), .v (.int .i64 1)]) H := fun hg => no 1 (by unfold sendE; rw [hg]; rfl) (by simp) H (Same.refl _ _)
  have tlx : ∀ s : ByteArray, (s.toList = []) = (s = noT) := fun s => by show _ = (s = tx []); rw [← tl_inj, tx_list]
  have tls : ∀ s : ByteArray, (s.toList = [42]) = (s = star) := fun s => by show _ = (s = tx [42]); rw [← tl_inj, tx_list]
  have hse : goodX x = true → sendE S x = if seenB S (keyP x) then 4 else if sendN S x = 0 then 2 else if (S.ds.filter (toB x)).any fullB then 3 else 0 := fun hg => by unfold sendE; rw [hg]; rfl
  have hRl : R.length ≤ N := by rw [hp.len]; exact hk.l
  have hsl := hk.s
  have hW := hit_ds hp.rd x
  have hWn : (R.filter (hitR x)).length = sendN S x := by
    have := congrArg List.length hW
    rw [List.length_map] at this; exact this
  simp [ev_seq, ev_region2, evOps_nil, evOps_cons, opG_none, opA_assign, opA_load, opA_fieldAddr, opA_call, opA_box, putO_some, putH_lt, loadT, fieldAddrT, boxT, opS, opV, Go.Mx.look, fr0, argSlots, seqK, Fr.newBox, dropBp, mapO, callA, cellsA_agg, okPart_agg, partA, loadS, plusS, newK, sz9, ag9, Try.underlying30, ok34, pl20, paC]
  refine isUser_sp x.fr H _ (by omega) ?_
  cases hu1 : userOk x.fr with
  | false => simp [ev_seq, ev_cond2, ev_ret, ev_region2, evOps_nil, evOps_cons, opG_none, opG_some, opJ, opU_true, opU_ff, isU_undef, isU_bool, opA_move, opA_assign, opA_pick, opA_un, putO_some, putH_lt, putC_lt, putV_lt, condB_true, pickT, unT, opS, opV, Go.Mx.look, seqK, Fr.known, retK, retA, resA, mapO, unA]; exact bad (by simp [goodX, hu1])
  | true =>
  simp [evOps_cons, opG_none, opG_some, opJ, opU_ff, isU_bool, opK_eq, opA_move, opA_un, opA_load, opA_fieldAddr, opA_call, putO_some, putH_lt, putC_lt, condB_false, unT, loadT, fieldAddrT, opS, opV, Go.Mx.look, Fr.known, mapO, unA, callA, partA, loadS, plusS, sz9, ag9, Try.underlying30, ok34]
  refine isUser_sp x.to H _ (by omega) ?_
  cases hu2 : userOk x.to with
  | false => simp [ev_seq, ev_cond2, ev_ret, ev_region2, evOps_nil, evOps_cons, opG_none, opG_some, opJ, opU_true, opU_ff, isU_undef, isU_bool, opK_eq, opA_move, opA_assign, opA_pick, opA_un, putO_some, putH_lt, putC_lt, putV_lt, condB_true, condB_false, pickT, unT, opS, opV, Go.Mx.look, seqK, Fr.known, retK, retA, resA, mapO, unA]; exact bad (by simp [goodX, hu1, hu2])
  | true =>
  by_cases htx : x.tx_ = noT
  · simp [ev_seq, ev_cond2, ev_ret, ev_region2, evOps_nil, evOps_cons, opG_none, opG_some, opJ, opU_true, opU_ff, isU_undef, isU_bool, opK_eq, opA_move, opA_assign, opA_pick, opA_bin, opA_un, opA_load, opA_fieldAddr, putO_some, putH_lt, putC_lt, putV_lt, condB_true, condB_false, CondP_true, binT_some, binA, avO_some, pickT, unT, loadT, fieldAddrT, strOp, opS, opV, Go.Mx.look, seqK, Fr.known, retK, retA, resA, mapO, unA, partA, loadS, plusS, orO_some, eqT_some, sz9, ag9, tk9, Try.underlying30, tlx, htx]
    exact bad (by simp [goodX, hu1, hu2, htx])
  simp [evOps_cons, opG_none, opG_some, opJ, opU_ff, isU_bool, opK_eq, opA_move, opA_pick, opA_bin, opA_un, opA_load, opA_fieldAddr, opA_call, putO_some, putH_lt, putC_lt, condB_false, CondP_false, binT_some, binA, avO_some, pickT, unT, loadT, fieldAddrT, strOp, opS, opV, Go.Mx.look, Fr.known, mapO, unA, callA, partA, loadS, plusS, orO_some, eqT_some, sz9, ag9, tk9, Try.underlying30, ok35, tlx, htx]
  refine rnamed_sp x.dv H _ (by omega) ?_
  cases hnd : namedB x.dv with
  | true =>
    have hst : x.dv ≠ star := fun e => by rw [e, star_no] at hnd; simp at hnd
    have hg : goodX x = true := by simp [goodX, hu1, hu2, htx, hnd]
    replace hse := hse hg
    simp [ev_skip, ev_seq, ev_cond2, ev_region2, evOps_nil, evOps_cons, opG_none, opG_some, opJ, opU_ft, opU_ff, isU_bool, opK_eq, opA_move, opA_pick, opA_un, opA_load, opA_fieldAddr, opA_call, putO_some, putH_lt, putC_lt, putV_lt, condB_false, pickT, unT, loadT, fieldAddrT, opS, opV, Go.Mx.look, seqK, Fr.known, mapO, unA, callA, partA, loadS, plusS, sz9, ag9, Try.underlying30, ok24]
    refine rseen_sp c S _ N x.fr x.tx_ H _ hp0 hk (by omega) ?_
    have hsn : seenB S (x.fr, x.tx_) = seenB S (keyP x) := rfl
    rw [hsn]
    cases hsb : seenB S (keyP x) with
    | true =>
      rw [hsb] at hse
      simp [ev_seq, ev_cond2, ev_ret, ev_region2, evOps_nil, evOps_cons, opG_none, opA_assign, putO_some, putH_lt, putC_lt, condB_true, opS, opV, Go.Mx.look, seqK, Fr.known, retK, retA, resA, mapO]
      exact no 4 (by rw [hse]; rfl) (by simp) H (Same.refl _ _)
    | false =>
    rw [hsb] at hse
    simp [ev_skip, ev_seq, ev_cond2, ev_block, ev_region2, ev_loop, loopK, evOps_nil, evOps_cons, opG_none, opA_assign, putO_some, putH_lt, putC_lt, condB_false, opS, opV, Go.Mx.look, seqK, Fr.known, mapO, headK, getV, getB, chkP, firstReg]
    refine LoopC.intro (fun n xs bs H2 => UInv1 R c x H n xs bs H2) R.length ⟨0, .v (.slice none 0 0), by omega, by omega, by simp [fullW], by first | (simp [paC]; done) | simp [paC, hst], Same.refl _ _, by simpa [ptrsR] using OwnS.nil 1 H, by simp [slId]⟩ ?_
    rintro n xs bs H2 ⟨i, v6, hi, rfl, rfl, rfl, hs2, o6, hj6⟩
    have hp2 := hp.same hs2 (by simp)
    have hc2 := hp2.cc
    have hln := hp2.ol.lenT
    simp [ev_skip, ev_seq, ev_cond2, ev_block, ev_exit, ev_region2, evOps_nil, evOps_cons, opG_none, opA_move, opA_bin, opA_load, opA_indexAddr, opA_fieldAddr, opA_nilCheck, opA_len, putO_some, putH_lt, binT_some, binA, avO_some, loadT, nilCheckT, fieldAddrT, indexAddrT, io_lss, opS, opV, Go.Mx.look, seqK, blockK, Fr.known, partA, loadA, loadS, plusS, indexAddrA, nilCheckS, mkFr, slotsOf, ptrsOf, boxesOf, orO_some, eqT_some, tk3, sz43, ag43, Try.underlying43, Try.underlying45, sz65, paC, hc2, hln]
    refine ⟨fun hlt => ?_, fun hge => ?_⟩
    · have hlt : i < R.length := by omega
      obtain ⟨r, hxr⟩ : ∃ r, R[i]? = some r := ⟨_, List.getElem?_eq_getElem hlt⟩
      obtain ⟨id, ver, cs, rfl, hid, hci, hcl⟩ := hp2.ptr hxr
      have hrm := List.mem_of_getElem? hxr
      have hdr := hp2.d.at_ r hrm
      obtain ⟨g1, g2⟩ := hdr
      have w1 : IntKind.i64.wrap ((i : Int) + 1) = (i : Int) + 1 := wr_i64 (by omega)
      have htk := take_filter (x := x) hxr
      have hdo := hk.d r.d (by rw [← hp.rd]; exact List.mem_map.2 ⟨r, hrm, rfl⟩)
      have hto : hitR x r = (decide (r.d.u = x.to) && (decide (r.d.n = x.dv) || decide (x.dv = star))) := rfl
      by_cases hh : hitR x r = true
      · rw [if_pos hh] at htk
        have hWl : ((R.take i).filter (hitR x)).length ≤ N := Nat.le_trans (List.length_filter_le _ _) (by rw [List.length_take]; omega)
        have hfw : fullW x (R.take (i + 1)) = (fullW x (R.take i) || fullB r.d) := by unfold fullW; rw [htk, List.map_append, List.any_append]; simp
        have stepH : ∀ H7 v7 (b : Bool), Same (slId v6) H2 H7 → OwnS 1 H7 (((R.take i).filter (hitR x)).length + 1) (ptrsR ((R.take i).filter (hitR x)) ++ [.ptr r.b 0 0]) v7 → (slId v7 = slId v6 ∨ slId v7 = [H2.length]) → b = (fullW x (R.take i) || fullB r.d) → ∃ m, m < R.length - i ∧ UInv1 R c x H m [.ptr c 0 0, v7, .v (.bool b), .v (.int .i64 ((i : Int) + 1))] [paC x] H7 := fun H7 v7 b hs7 o7 hid7 hb =>
          ⟨R.length - (i + 1), by omega, i + 1, v7, by omega, rfl, by rw [hfw, hb]; simp, rfl, hs2.new hs7 hj6, by rw [htk, List.length_append, ptrsR_app]; exact o7, fun j hj => by
            rcases hid7 with e | e
            · rw [e] at hj; exact hj6 j hj
            · rw [e] at hj; simp at hj; have := hs2.1; omega⟩
        have hl7 : ∀ H7, Same (slId v6) H2 H7 → DevAt cellF wlF H7 r := fun H7 hs7 => DevAt.same ⟨g1, g2⟩ hs7 (fun j hj hm => by
          have h8 := hj6 j hm
          have h9 := (hp.d.at_ r hrm).lt j hj
          omega)
        have hde : fullB r.d = decide ((200 : Int) ≤ ((r.d.al.length - r.d.sn : Nat) : Int)) := by
          unfold fullB
          rw [Bool.eq_iff_iff, decide_eq_true_iff, decide_eq_true_iff]; omega
        have tu : (r.d.u.toList = x.to.toList) = True := by
          rw [hto, Bool.and_eq_true, decide_eq_true_iff] at hh
          rw [tl_inj]; exact eq_true hh.1
        generalize hany : fullW x (R.take i) = fb at *
        by_cases hn : r.d.n = x.dv
        · have tn : (r.d.n.toList = x.dv.toList) = True := by rw [tl_inj]; exact eq_true hn
          simp [ev_seq, ev_cond2, ev_region2, evOps_nil, evOps_cons, opG_none, opG_some, opJ, opU_ft, opU_ff, isU_bool, opK_eq, opA_move, opA_assign, opA_pick, opA_bin, opA_load, opA_fieldAddr, opA_nilCheck, opA_buildSlice, opA_append, putO_some, putH_lt, putV_lt, condB_true, CondP_true, binT_some, binA, avO_some, pickT, loadT, nilCheckT, fieldAddrT, buildSliceT, appendT, strOp, opS, opV, Go.Mx.look, seqK, Fr.known, mapO, cellsA_ptr, okPart_ptr, partA, loadA, loadS, plusS, nilCheckS, fillA, bindO, srcTy, orO_some, eqT_some, ev_draw, drawK, evP_nil, evP_q, opAt_some, sz9, ag9, tk9, Try.underlying30, st43, Try.underlying43, sz65, ag65, by65, ze65, Try.underlying67, hid, hci, hlt, g1, cellF, tu, tn]
          refine o6.app (by simp) (by omega) (fun v7 H7 o7 hs7 hid7 _ => ?_)
          cases fb with
          | true =>
            simp [ev_region2, evOps_nil, evOps_cons, opG_none, opG_some, opJ, opU_ff, isU_bool, opA_move, opA_assign, opA_pick, opA_bin, putO_some, putH_lt, putC_lt, putV_lt, condB_true, binT_some, binA, avO_some, pickT, io_add, opS, opV, Go.Mx.look, seqK, blockK, Fr.known, mapO, headK, getV, getB, chkP, orO_some, eqT_some, tk3, w1]
            exact stepH H7 v7 true hs7 o7 hid7 (by simp)
          | false =>
            simp [ev_region2, evOps_nil, evOps_cons, opG_none, opG_some, opJ, opU_ff, isU_bool, opK_eq, opA_move, opA_assign, opA_call, putO_some, putH_lt, putC_lt, condB_false, opS, opV, Go.Mx.look, seqK, Fr.known, mapO, callA, ok37]
            refine left_sp r H7 _ (hl7 H7 hs7) hdo.s (by have := hdo.l; omega) ?_
            simp [ev_region2, evOps_nil, evOps_cons, opG_none, opG_some, opJ, opU_ff, isU_bool, opK_eq, opA_move, opA_assign, opA_pick, opA_bin, putO_some, putH_lt, putC_lt, condB_false, binT_some, binA, avO_some, pickT, io_add, io_geq, opS, opV, Go.Mx.look, seqK, blockK, Fr.known, mapO, headK, getV, getB, chkP, orO_some, eqT_some, tk3, w1]
            have := stepH H7 v7 (fullB r.d) hs7 o7 hid7 (by simp)
            rw [hde] at this
            exact this
        · have tn : (r.d.n.toList = x.dv.toList) = False := by rw [tl_inj]; exact eq_false hn
          have ts : (x.dv.toList = [42]) = True := by
            rw [hto, decide_eq_false hn, Bool.and_eq_true, Bool.false_or, decide_eq_true_iff, decide_eq_true_iff] at hh
            rw [tls]; exact eq_true hh.2
          simp [ev_seq, ev_cond2, ev_region2, evOps_nil, evOps_cons, opG_none, opG_some, opJ, opU_ft, opU_ff, isU_bool, opK_eq, opA_move, opA_assign, opA_pick, opA_bin, opA_load, opA_fieldAddr, opA_nilCheck, opA_buildSlice, opA_append, putO_some, putH_lt, condB_true, condB_false, CondP_true, CondP_false, binT_some, binA, avO_some, pickT, loadT, nilCheckT, fieldAddrT, buildSliceT, appendT, strOp, opS, opV, Go.Mx.look, seqK, Fr.known, mapO, cellsA_ptr, okPart_ptr, partA, loadA, loadS, plusS, nilCheckS, fillA, bindO, srcTy, orO_some, eqT_some, ev_draw, drawK, evP_nil, evP_q, opAt_some, sz9, ag9, tk9, Try.underlying30, st43, Try.underlying43, sz65, ag65, by65, ze65, Try.underlying67, hid, hci, hlt, g1, cellF, tu, tn, ts]
          refine o6.app (by simp) (by omega) (fun v7 H7 o7 hs7 hid7 _ => ?_)
          cases fb with
          | true =>
            simp [ev_region2, evOps_nil, evOps_cons, opG_none, opG_some, opJ, opU_ff, isU_bool, opA_move, opA_assign, opA_pick, opA_bin, putO_some, putH_lt, putC_lt, putV_lt, condB_true, binT_some, binA, avO_some, pickT, io_add, opS, opV, Go.Mx.look, seqK, blockK, Fr.known, mapO, headK, getV, getB, chkP, orO_some, eqT_some, tk3, w1]
            exact stepH H7 v7 true hs7 o7 hid7 (by simp)
          | false =>
            simp [ev_region2, evOps_nil, evOps_cons, opG_none, opG_some, opJ, opU_ff, isU_bool, opK_eq, opA_move, opA_assign, opA_call, putO_some, putH_lt, putC_lt, condB_false, opS, opV, Go.Mx.look, seqK, Fr.known, mapO, callA, ok37]
            refine left_sp r H7 _ (hl7 H7 hs7) hdo.s (by have := hdo.l; omega) ?_
            simp [ev_region2, evOps_nil, evOps_cons, opG_none, opG_some, opJ, opU_ff, isU_bool, opK_eq, opA_move, opA_assign, opA_pick, opA_bin, putO_some, putH_lt, putC_lt, condB_false, binT_some, binA, avO_some, pickT, io_add, io_geq, opS, opV, Go.Mx.look, seqK, blockK, Fr.known, mapO, headK, getV, getB, chkP, orO_some, eqT_some, tk3, w1]
            have := stepH H7 v7 (fullB r.d) hs7 o7 hid7 (by simp)
            rw [hde] at this
            exact this
      · rw [if_neg hh, List.append_nil] at htk
        have stepN : ∃ m, m < R.length - i ∧ UInv1 R c x H m [.ptr c 0 0, v6, .v (.bool (fullW x (R.take i))), .v (.int .i64 ((i : Int) + 1))] [paC x] H2 :=
          ⟨R.length - (i + 1), by omega, i + 1, v6, by omega, rfl, by unfold fullW; rw [htk]; simp, rfl, hs2, by rw [htk]; exact o6, hj6⟩
        by_cases hu : r.d.u = x.to
        · have tu : (r.d.u.toList = x.to.toList) = True := by rw [tl_inj]; exact eq_true hu
          rw [hto, decide_eq_true hu, Bool.true_and, Bool.or_eq_true, decide_eq_true_iff, decide_eq_true_iff, not_or] at hh
          have tn : (r.d.n.toList = x.dv.toList) = False := by rw [tl_inj]; exact eq_false hh.1
          have ts : (x.dv.toList = [42]) = False := by rw [tls]; exact eq_false hh.2
          simp [ev_skip, ev_seq, ev_cond2, ev_region2, evOps_nil, evOps_cons, opG_none, opG_some, opJ, opU_ft, opU_ff, isU_bool, opK_eq, opA_move, opA_assign, opA_pick, opA_bin, opA_load, opA_fieldAddr, opA_nilCheck, putO_some, putH_lt, condB_true, condB_false, CondP_true, CondP_false, binT_some, binA, avO_some, pickT, loadT, nilCheckT, fieldAddrT, io_add, strOp, opS, opV, Go.Mx.look, seqK, blockK, Fr.known, mapO, partA, loadA, loadS, plusS, nilCheckS, headK, getV, getB, chkP, orO_some, eqT_some, ev_draw, drawK, evP_nil, evP_q, opAt_some, tk3, sz9, ag9, tk9, Try.underlying30, sz65, ag65, Try.underlying67, hid, hci, hlt, g1, cellF, tu, tn, ts, w1]
          exact stepN
        · have tu : (r.d.u.toList = x.to.toList) = False := by rw [tl_inj]; exact eq_false hu
          simp [ev_skip, ev_seq, ev_cond2, ev_region2, evOps_nil, evOps_cons, opG_none, opG_some, opJ, opU_true, opU_ft, isU_undef, isU_bool, opA_move, opA_assign, opA_pick, opA_bin, opA_load, opA_fieldAddr, opA_nilCheck, putO_some, putH_lt, putV_lt, condB_false, CondP_false, binT_some, binA, avO_some, pickT, loadT, nilCheckT, fieldAddrT, io_add, strOp, opS, opV, Go.Mx.look, seqK, blockK, Fr.known, mapO, partA, loadA, loadS, plusS, nilCheckS, headK, getV, getB, chkP, orO_some, eqT_some, ev_draw, drawK, evP_nil, evP_q, opAt_some, tk3, sz9, ag9, tk9, Try.underlying30, sz65, ag65, Try.underlying67, hid, hci, hlt, g1, cellF, tu, w1]
          exact stepN
    · have hie : R.take i = R := List.take_of_length_le (by omega)
      have hfu : fullW x R = (S.ds.filter (toB x)).any fullB := by unfold fullW; rw [hW]
      rw [hie] at o6
      rw [hie, hfu]
      have hl6 := o6.lenT
      rw [← hWn] at hse
      have hWl : (R.filter (hitR x)).length ≤ N := Nat.le_trans (List.length_filter_le _ _) hRl
      have hff0 : (S.ds.filter (toB x)).any fullB = fullW x R := hfu.symm
      generalize hff : (S.ds.filter (toB x)).any fullB = fl at *
      generalize hWW : R.filter (hitR x) = W at *
      by_cases hn0 : W.length = 0
      · simp [ev_seq, ev_cond2, ev_ret, ev_region2, evOps_nil, evOps_cons, opG_none, opA_assign, opA_bin, putO_some, putH_lt, condB_true, binT_some, binA, avO_some, io_eql, opS, opV, Go.Mx.look, seqK, Fr.known, retK, retA, resA, mapO, orO_some, eqT_some, tk3, hl6, hn0]
        exact no 2 (by rw [hse, if_pos hn0]; rfl) (by simp) H2 hs2
      cases hfl : fl with
      | true =>
        simp [ev_skip, ev_seq, ev_cond2, ev_ret, ev_region2, evOps_nil, evOps_cons, opG_none, opA_move, opA_assign, opA_bin, putO_some, putH_lt, condB_true, CondP_false, binT_some, binA, avO_some, io_eql, opS, opV, Go.Mx.look, seqK, Fr.known, retK, retA, resA, mapO, orO_some, eqT_some, tk3, hl6, hn0]
        exact no 3 (by rw [hse, if_neg hn0, hfl]; rfl) (by simp) H2 hs2
      | false =>
      have he0 : sendE S x = 0 := by rw [hse, if_neg hn0, hfl]; rfl
      have hSS : sendS S x = ⟨S.ds.map (pushIf x), S.sent ++ [x]⟩ := by unfold sendS; rw [if_pos he0]; rfl
      have hRR : sendR S x = W.length := by unfold sendR; rw [if_pos he0, ← hWn]
      have hlt2 := hp2.lt
      have hlt1 := hp.lt
      simp [ev_skip, ev_seq, ev_cond2, ev_block, ev_region2, ev_loop, loopK, evOps_nil, evOps_cons, opG_none, opA_move, opA_assign, opA_bin, putO_some, putH_lt, condB_false, CondP_false, binT_some, binA, avO_some, io_eql, opS, opV, Go.Mx.look, seqK, Fr.known, mapO, headK, getV, getB, chkP, firstReg, orO_some, eqT_some, tk3, hl6, hn0]
      refine LoopC.intro (fun n xs bs H3 => UInv2 R S c vL vS x v6 W H2 n xs bs H3) W.length ⟨0, [], R, [], by omega, by omega, by simp, by first | (simp [paC]; done) | simp [paC, hst], by simp, by simp, by simp, by rw [List.nil_append]; exact ⟨rfl, hp2.cc, hp2.ol, hp2.os, hp2.d, hp2.nd⟩, Stp.refl _ _, o6, fun j hj hm => by have h8 := hj6 j hj; have h9 := hlt1 j hm; omega⟩ ?_
      rintro n xs bs H3 ⟨i, A, B, A', hi, rfl, rfl, rfl, hR, hA, hAd, hp3, hst3, o63, hd63⟩
      have hc3 := hp3.cc
      have hl63 := o63.lenT
      simp [ev_skip, ev_seq, ev_cond2, ev_block, ev_exit, ev_region2, evOps_nil, evOps_cons, opG_none, opA_move, opA_bin, opA_load, opA_indexAddr, opA_fieldAddr, opA_nilCheck, opA_len, putO_some, putH_lt, binT_some, binA, avO_some, loadT, nilCheckT, fieldAddrT, indexAddrT, io_lss, opS, opV, Go.Mx.look, seqK, blockK, Fr.known, partA, loadA, loadS, plusS, indexAddrA, nilCheckS, mkFr, slotsOf, ptrsOf, boxesOf, orO_some, eqT_some, ev_draw, drawK, evP_q, opAt_some, tk3, sz28, ag28, Try.underlying43, Try.underlying45, sz65, paC, hl63]
      refine ⟨fun hlt => ?_, fun hge => ?_⟩
      · have hlt : i < W.length := by omega
        obtain ⟨r, hxr⟩ : ∃ r, W[i]? = some r := ⟨_, List.getElem?_eq_getElem hlt⟩
        obtain ⟨B1, B2, rfl, hB1, hhr⟩ := next_hit hR hA (by rw [hWW]; exact hxr)
        obtain ⟨id, ver, cs, rfl, hid, hci, hcl⟩ := ptrs_at o63 hxr
        rw [← List.append_assoc A' B1] at hp3 hst3 hd63
        obtain ⟨g1, g2⟩ := hp3.d.at_ r (by simp)
        have hrS : r.d ∈ S.ds := by rw [← hp.rd, hR]; simp
        have hdo := hk.d r.d hrS
        have w1 : IntKind.i64.wrap ((i : Int) + 1) = (i : Int) + 1 := wr_i64 (by omega)
        have hrb : r.b < H3.length := Hp.lt g1
        have hfr : (fpR r).Nodup := by
          have hap := hp3.d.nd
          rw [fpL_app, fpL_cons, List.nodup_append, List.nodup_append] at hap
          exact hap.2.1.1
        have hbv : r.b ∉ slId r.v := by
          simp only [fpR, List.nodup_cons] at hfr
          exact hfr.1
        simp only [cellF] at g1
        simp [evOps_nil, evOps_cons, opG_none, opA_move, opA_assign, opA_load, opA_fieldAddr, opA_nilCheck, opA_buildSlice, opA_append, putO_some, putH_lt, loadT, nilCheckT, fieldAddrT, buildSliceT, appendT, repeatL_1, opS, opV, Go.Mx.look, seqK, mapO, cellsA_agg, okPart_agg, partA, loadA, loadS, plusS, nilCheckS, fillA, bindO, srcTy, ev_draw, drawK, evP_q, evP_s, opAt_some, sz28, ag28, st28, Try.underlying28, sz30, ag30, by30, ze30, sz65, ag65, Try.underlying67, hid, hci, hlt, g1]
        refine g2.app (by simp) (by have := hdo.l; show (r.d.al.length + 1) * _ ≤ _ ∧ r.d.al.length + 1 ≤ _; omega) (fun v7 H7 o7 hs7 hid7 _ => ?_)
        have G7 := hs7.2 _ _ g1 hbv
        obtain ⟨d1, d2⟩ := o7.cells'
        have hrb7 : r.b < H7.length := Hp.lt G7
        have hv7 : ∀ j ∈ slId v7, j ∈ slId r.v ∨ j = H3.length := fun j hj => by
          rcases hid7 with e | e
          · rw [e] at hj; exact .inl hj
          · rw [e] at hj; simp at hj; exact .inr hj
        have hb7 : r.b ∉ slId v7 := fun hm => by
          rcases hv7 _ hm with h8 | h8
          · exact hbv h8
          · omega
        simp [ev_region2, evOps_nil, evOps_cons, opG_none, opA_move, opA_assign, opA_bin, opA_fieldAddr, opA_nilCheck, opA_store, putO_some, putH_lt, putC_lt, putU_none, binT_some, binA, avO_some, nilCheckT, fieldAddrT, storeT, io_add, opS, opV, Go.Mx.look, seqK, blockK, mapO, plusS, nilCheckS, storeS, headK, getV, getB, chkP, orO_some, eqT_some, evP_nil, evP_q, evP_s, opAt_some, chkK_eq, sameV_some, sameO_some, allQ_nil, allQ_cons, valQ_none, valS_move, tk3, sz28, Try.underlying67, G7, d1, d2, splice, w1]
        have hset : Same [r.b] H7 (H7.set r.b (.cells 0 [.v (.string r.d.u), .v (.string r.d.n), v7, .v (.int .i64 r.d.sn)])) := Same.set (by simp)
        obtain ⟨P8, S8⟩ := RfR.upd (A := A' ++ B1) (r' := ⟨push x r.d, r.b, v7⟩) hp3 ((hs7.wide (fp' := fpR r) (fun j hj => by simp [fpR, hj])).trans (hset.wide (fp' := fpR r) (by simp [fpR])) (fun j hj => .inl hj)) ⟨List.getElem?_set_self hrb7, by
          have := o7.same hset (fun j hj hm => by simp at hm; subst hm; exact hb7 hj)
          simpa [wlF, push, paC] using this⟩ rfl (fun j hj => by
          rcases List.mem_cons.1 hj with rfl | hj
          · exact .inl (by simp [fpR])
          · rcases hv7 j hj with h8 | h8
            · exact .inl (by simp [fpR, h8])
            · exact .inr (by omega)) (by
          simp only [fpR, List.nodup_cons]
          exact ⟨hb7, o7.nodup⟩)
        have e8 : A' ++ B1 ++ ⟨push x r.d, r.b, v7⟩ :: B2 = (A' ++ B1 ++ [⟨push x r.d, r.b, v7⟩]) ++ B2 := by simp
        rw [e8] at P8 S8
        have hBf : B1.filter (hitR x) = [] := by
          rw [List.filter_eq_nil_iff]
          intro y hy
          rw [hB1 y hy]; simp
        refine ⟨W.length - (i + 1), by omega, i + 1, A ++ B1 ++ [r], B2, A' ++ B1 ++ [⟨push x r.d, r.b, v7⟩], by omega, rfl, by simp, rfl, by rw [hR]; simp, ?_, ?_, P8, hst3.trans S8, ?_, fun j hj hm => ?_⟩
        · rw [List.filter_append, List.filter_append, hBf, List.filter_cons, hhr]
          simp [hA]
        · have e9 : pushIf x r.d = push x r.d := by
            unfold pushIf
            rw [show toB x r.d = true from hhr]; rfl
          rw [List.map_append, List.map_append, List.map_append, List.map_append, List.map_append, List.map_append, hAd, push_no hB1]
          simp [e9]
        · refine o63.same S8.1 hd63
        · rcases S8.2 j hm with h8 | h8
          · exact hd63 j hj h8
          · have := o63.lt j hj; omega
      · have hBf : B.filter (hitR x) = [] := by
          have e : (A ++ B).filter (hitR x) = W := by rw [← hR]; exact hWW
          rw [List.filter_append] at e
          have := congrArg List.length e
          rw [List.length_append, hA] at this
          exact List.eq_nil_of_length_eq_zero (by omega)
        have hBn : ∀ y ∈ B, hitR x y = false := fun y hy => by
          have := List.filter_eq_nil_iff.1 hBf y hy
          simpa using this
        obtain ⟨⟨k1, k2, k3⟩, k4, k5, k6, k7, k8⟩ := nd3.1 hp3.nd
        have hlt3 := hp3.lt
        have hcl : c < H3.length := Hp.lt hc3
        simp [opG_none, opA_load, opA_buildSlice, opA_append, putO_some, putH_lt, loadT, buildSliceT, appendT, repeatL_1, opS, opV, Go.Mx.look, mapO, cellsA_agg, okPart_agg, partA, loadS, fillA, bindO, srcTy, evP_q, evP_s, opAt_some, st28, Try.underlying28, sz30, ag30, by30, ze30, hc3]
        refine hp3.os.app (by simp) (by show (S.sent.length + 1) * _ ≤ _ ∧ S.sent.length + 1 ≤ _; omega) (fun v9 H9 o9 hs9 hid9 _ => ?_)
        have hc9 := hs9.2 _ _ hc3 k2
        obtain ⟨d1, d2⟩ := o9.cells'
        have hl69 := (o63.same hs9 (fun j hj hm => hd63 j hj (by simp [hm]))).lenT
        have hv9 : ∀ j ∈ slId v9, j ∈ slId vS ∨ j = H3.length := fun j hj => by
          rcases hid9 with e | e
          · rw [e] at hj; exact .inl hj
          · rw [e] at hj; simp at hj; exact .inr hj
        simp [ev_seq, ev_ret, ev_region2, evOps_nil, evOps_cons, opG_none, opA_move, opA_assign, opA_fieldAddr, opA_nilCheck, opA_len, opA_store, putO_some, putH_lt, putC_lt, putU_none, nilCheckT, fieldAddrT, storeT, opS, opV, Go.Mx.look, seqK, retK, retA, resA, mapO, plusS, nilCheckS, storeS, evP_nil, evP_q, evP_s, opAt_some, chkK_eq, sameV_some, sameO_some, allQ_nil, allQ_cons, valQ_none, valS_move, sz28, Try.underlying43, Try.underlying45, hc9, d1, d2, splice, hl69]
        have hlt' : ∀ j, j ∈ slId vL ∨ j ∈ slId vS ∨ j ∈ fpL (A' ++ B) → j < H3.length := fun j hj => hlt3 j (by simp only [List.mem_cons, List.mem_append]; exact .inr hj)
        have hnd : (c :: (slId vL ++ (slId v9 ++ fpL (A' ++ B)))).Nodup := by
          refine nd3.2 ⟨⟨k1, fun hm => ?_, k3⟩, k4, o9.nodup, k6, fun j hj => ⟨fun hm => ?_, (k7 j hj).2⟩, fun j hj hm => ?_⟩
          · rcases hv9 c hm with h8 | h8
            · exact k2 h8
            · omega
          · rcases hv9 j hm with h8 | h8
            · exact (k7 j hj).1 h8
            · have := hlt' j (.inl hj); omega
          · rcases hv9 j hj with h8 | h8
            · exact k8 j h8 hm
            · have := hlt' j (.inr (.inr hm)); omega
        have := h _ _ ⟨vL, v9, A' ++ B, RfR.mk' (S := sendS S x) (Hp.lt hc9) (by
          rw [hSS, List.map_append, hAd, ← hp.rd, hR, List.map_append, List.map_append, push_no hBn]) (hp3.ol.same hs9 (fun j hj hm => (k7 j hj).1 hm)) (by rw [hSS]; simpa [paC] using o9) (hp3.d.same hs9 (fun j hj hm => k8 j hm hj)) hnd, rfl⟩ ⟨?_, fun j hj => ?_⟩
        · rw [hRR, he0] at this
          exact this
        · have t1 : Same (c :: (slId vL ++ (slId vS ++ fpL R))) H H3 := (hs2.wide (by simp)).trans hst3.1 (fun j hj => .inl hj)
          have hin : ∀ j, j ∈ c :: (slId vL ++ (slId vS ++ fpL (A' ++ B))) → j ∈ c :: (slId vL ++ (slId vS ++ fpL R)) ∨ H.length ≤ j := fun j hj => by
            rcases hst3.2 j hj with h8 | h8
            · exact .inl h8
            · have := hs2.1; exact .inr (by omega)
          refine (t1.trans hs9 (fun j hj => hin j (by simp [hj]))).trans (Same.set (fp := [c]) (by simp)) (fun j hj => .inl (by simp at hj; simp [hj]))
        · have h3 : j ∈ c :: (slId vL ++ (slId vS ++ fpL (A' ++ B))) ∨ j = H3.length := by
            simp only [List.mem_cons, List.mem_append] at hj ⊢
            rcases hj with h8 | h8 | h8 | h8
            · exact .inl (.inl h8)
            · exact .inl (.inr (.inl h8))
            · rcases hv9 j h8 with h9 | h9
              · exact .inl (.inr (.inr (.inl h9)))
              · exact .inr h9
            · exact .inl (.inr (.inr (.inr h8)))
          have hH : H.length ≤ H3.length := Nat.le_trans hs2.1 hst3.1.1
          rcases h3 with h8 | h8
          · rcases hst3.2 j h8 with h9 | h9
            · exact .inl h9
            · have := hs2.1; exact .inr (by omega)
          · exact .inr (by omega)
  | false =>
    by_cases hst : x.dv = star
    · have hg : goodX x = true := by simp [goodX, hu1, hu2, htx, hst]
      replace hse := hse hg
      simp [ev_skip, ev_seq, ev_cond2, ev_region2, evOps_nil, evOps_cons, opG_none, opG_some, opJ, opU_ft, opU_ff, isU_bool, opK_eq, opA_move, opA_pick, opA_bin, opA_un, opA_load, opA_fieldAddr, opA_call, putO_some, putH_lt, putC_lt, condB_true, condB_false, CondP_false, binT_some, binA, avO_some, pickT, unT, loadT, fieldAddrT, strOp, opS, opV, Go.Mx.look, seqK, Fr.known, mapO, unA, callA, partA, loadS, plusS, orO_some, eqT_some, sz9, ag9, tk9, Try.underlying30, ok24, tls, hst]
      refine rseen_sp c S _ N x.fr x.tx_ H _ hp0 hk (by omega) ?_
      have hsn : seenB S (x.fr, x.tx_) = seenB S (keyP x) := rfl
      rw [hsn]
      cases hsb : seenB S (keyP x) with
      | true =>
        rw [hsb] at hse
        simp [ev_seq, ev_cond2, ev_ret, ev_region2, evOps_nil, evOps_cons, opG_none, opA_assign, putO_some, putH_lt, putC_lt, condB_true, opS, opV, Go.Mx.look, seqK, Fr.known, retK, retA, resA, mapO]
        exact no 4 (by rw [hse]; rfl) (by simp) H (Same.refl _ _)
      | false =>
      rw [hsb] at hse
      simp [ev_skip, ev_seq, ev_cond2, ev_block, ev_region2, ev_loop, loopK, evOps_nil, evOps_cons, opG_none, opA_assign, putO_some, putH_lt, putC_lt, condB_false, opS, opV, Go.Mx.look, seqK, Fr.known, mapO, headK, getV, getB, chkP, firstReg]
      refine LoopC.intro (fun n xs bs H2 => UInv1 R c x H n xs bs H2) R.length ⟨0, .v (.slice none 0 0), by omega, by omega, by simp [fullW], by first | (simp [paC]; done) | simp [paC, hst], Same.refl _ _, by simpa [ptrsR] using OwnS.nil 1 H, by simp [slId]⟩ ?_
      rintro n xs bs H2 ⟨i, v6, hi, rfl, rfl, rfl, hs2, o6, hj6⟩
      have hp2 := hp.same hs2 (by simp)
      have hc2 := hp2.cc
      have hln := hp2.ol.lenT
      simp [ev_skip, ev_seq, ev_cond2, ev_block, ev_exit, ev_region2, evOps_nil, evOps_cons, opG_none, opA_move, opA_bin, opA_load, opA_indexAddr, opA_fieldAddr, opA_nilCheck, opA_len, putO_some, putH_lt, binT_some, binA, avO_some, loadT, nilCheckT, fieldAddrT, indexAddrT, io_lss, opS, opV, Go.Mx.look, seqK, blockK, Fr.known, partA, loadA, loadS, plusS, indexAddrA, nilCheckS, mkFr, slotsOf, ptrsOf, boxesOf, orO_some, eqT_some, tk3, sz43, ag43, Try.underlying43, Try.underlying45, sz65, paC, hc2, hln]
      refine ⟨fun hlt => ?_, fun hge => ?_⟩
      · have hlt : i < R.length := by omega
        obtain ⟨r, hxr⟩ : ∃ r, R[i]? = some r := ⟨_, List.getElem?_eq_getElem hlt⟩
        obtain ⟨id, ver, cs, rfl, hid, hci, hcl⟩ := hp2.ptr hxr
        have hrm := List.mem_of_getElem? hxr
        have hdr := hp2.d.at_ r hrm
        obtain ⟨g1, g2⟩ := hdr
        have w1 : IntKind.i64.wrap ((i : Int) + 1) = (i : Int) + 1 := wr_i64 (by omega)
        have htk := take_filter (x := x) hxr
        have hdo := hk.d r.d (by rw [← hp.rd]; exact List.mem_map.2 ⟨r, hrm, rfl⟩)
        have hto : hitR x r = (decide (r.d.u = x.to) && (decide (r.d.n = x.dv) || decide (x.dv = star))) := rfl
        by_cases hh : hitR x r = true
        · rw [if_pos hh] at htk
          have hWl : ((R.take i).filter (hitR x)).length ≤ N := Nat.le_trans (List.length_filter_le _ _) (by rw [List.length_take]; omega)
          have hfw : fullW x (R.take (i + 1)) = (fullW x (R.take i) || fullB r.d) := by unfold fullW; rw [htk, List.map_append, List.any_append]; simp
          have stepH : ∀ H7 v7 (b : Bool), Same (slId v6) H2 H7 → OwnS 1 H7 (((R.take i).filter (hitR x)).length + 1) (ptrsR ((R.take i).filter (hitR x)) ++ [.ptr r.b 0 0]) v7 → (slId v7 = slId v6 ∨ slId v7 = [H2.length]) → b = (fullW x (R.take i) || fullB r.d) → ∃ m, m < R.length - i ∧ UInv1 R c x H m [.ptr c 0 0, v7, .v (.bool b), .v (.int .i64 ((i : Int) + 1))] [paC x] H7 := fun H7 v7 b hs7 o7 hid7 hb =>
            ⟨R.length - (i + 1), by omega, i + 1, v7, by omega, rfl, by rw [hfw, hb]; simp, rfl, hs2.new hs7 hj6, by rw [htk, List.length_append, ptrsR_app]; exact o7, fun j hj => by
              rcases hid7 with e | e
              · rw [e] at hj; exact hj6 j hj
              · rw [e] at hj; simp at hj; have := hs2.1; omega⟩
          have hl7 : ∀ H7, Same (slId v6) H2 H7 → DevAt cellF wlF H7 r := fun H7 hs7 => DevAt.same ⟨g1, g2⟩ hs7 (fun j hj hm => by
            have h8 := hj6 j hm
            have h9 := (hp.d.at_ r hrm).lt j hj
            omega)
          have hde : fullB r.d = decide ((200 : Int) ≤ ((r.d.al.length - r.d.sn : Nat) : Int)) := by
            unfold fullB
            rw [Bool.eq_iff_iff, decide_eq_true_iff, decide_eq_true_iff]; omega
          have tu : (r.d.u.toList = x.to.toList) = True := by
            rw [hto, Bool.and_eq_true, decide_eq_true_iff] at hh
            rw [tl_inj]; exact eq_true hh.1
          generalize hany : fullW x (R.take i) = fb at *
          by_cases hn : r.d.n = x.dv
          · have tn : (r.d.n.toList = x.dv.toList) = True := by rw [tl_inj]; exact eq_true hn
            simp [ev_seq, ev_cond2, ev_region2, evOps_nil, evOps_cons, opG_none, opG_some, opJ, opU_ft, opU_ff, isU_bool, opK_eq, opA_move, opA_assign, opA_pick, opA_bin, opA_load, opA_fieldAddr, opA_nilCheck, opA_buildSlice, opA_append, putO_some, putH_lt, putV_lt, condB_true, CondP_true, binT_some, binA, avO_some, pickT, loadT, nilCheckT, fieldAddrT, buildSliceT, appendT, strOp, opS, opV, Go.Mx.look, seqK, Fr.known, mapO, cellsA_ptr, okPart_ptr, partA, loadA, loadS, plusS, nilCheckS, fillA, bindO, srcTy, orO_some, eqT_some, ev_draw, drawK, evP_nil, evP_q, opAt_some, sz9, ag9, tk9, Try.underlying30, st43, Try.underlying43, sz65, ag65, by65, ze65, Try.underlying67, hid, hci, hlt, g1, cellF, tu, tn]
            refine o6.app (by simp) (by omega) (fun v7 H7 o7 hs7 hid7 _ => ?_)
            cases fb with
            | true =>
              simp [ev_region2, evOps_nil, evOps_cons, opG_none, opG_some, opJ, opU_ff, isU_bool, opA_move, opA_assign, opA_pick, opA_bin, putO_some, putH_lt, putC_lt, putV_lt, condB_true, binT_some, binA, avO_some, pickT, io_add, opS, opV, Go.Mx.look, seqK, blockK, Fr.known, mapO, headK, getV, getB, chkP, orO_some, eqT_some, tk3, w1]
              exact stepH H7 v7 true hs7 o7 hid7 (by simp)
            | false =>
              simp [ev_region2, evOps_nil, evOps_cons, opG_none, opG_some, opJ, opU_ff, isU_bool, opK_eq, opA_move, opA_assign, opA_call, putO_some, putH_lt, putC_lt, condB_false, opS, opV, Go.Mx.look, seqK, Fr.known, mapO, callA, ok37]
              refine left_sp r H7 _ (hl7 H7 hs7) hdo.s (by have := hdo.l; omega) ?_
              simp [ev_region2, evOps_nil, evOps_cons, opG_none, opG_some, opJ, opU_ff, isU_bool, opK_eq, opA_move, opA_assign, opA_pick, opA_bin, putO_some, putH_lt, putC_lt, condB_false, binT_some, binA, avO_some, pickT, io_add, io_geq, opS, opV, Go.Mx.look, seqK, blockK, Fr.known, mapO, headK, getV, getB, chkP, orO_some, eqT_some, tk3, w1]
              have := stepH H7 v7 (fullB r.d) hs7 o7 hid7 (by simp)
              rw [hde] at this
              exact this
          · have tn : (r.d.n.toList = x.dv.toList) = False := by rw [tl_inj]; exact eq_false hn
            have ts : (x.dv.toList = [42]) = True := by
              rw [hto, decide_eq_false hn, Bool.and_eq_true, Bool.false_or, decide_eq_true_iff, decide_eq_true_iff] at hh
              rw [tls]; exact eq_true hh.2
            simp [ev_seq, ev_cond2, ev_region2, evOps_nil, evOps_cons, opG_none, opG_some, opJ, opU_ft, opU_ff, isU_bool, opK_eq, opA_move, opA_assign, opA_pick, opA_bin, opA_load, opA_fieldAddr, opA_nilCheck, opA_buildSlice, opA_append, putO_some, putH_lt, condB_true, condB_false, CondP_true, CondP_false, binT_some, binA, avO_some, pickT, loadT, nilCheckT, fieldAddrT, buildSliceT, appendT, strOp, opS, opV, Go.Mx.look, seqK, Fr.known, mapO, cellsA_ptr, okPart_ptr, partA, loadA, loadS, plusS, nilCheckS, fillA, bindO, srcTy, orO_some, eqT_some, ev_draw, drawK, evP_nil, evP_q, opAt_some, sz9, ag9, tk9, Try.underlying30, st43, Try.underlying43, sz65, ag65, by65, ze65, Try.underlying67, hid, hci, hlt, g1, cellF, tu, tn, ts]
            refine o6.app (by simp) (by omega) (fun v7 H7 o7 hs7 hid7 _ => ?_)
            cases fb with
            | true =>
              simp [ev_region2, evOps_nil, evOps_cons, opG_none, opG_some, opJ, opU_ff, isU_bool, opA_move, opA_assign, opA_pick, opA_bin, putO_some, putH_lt, putC_lt, putV_lt, condB_true, binT_some, binA, avO_some, pickT, io_add, opS, opV, Go.Mx.look, seqK, blockK, Fr.known, mapO, headK, getV, getB, chkP, orO_some, eqT_some, tk3, w1]
              exact stepH H7 v7 true hs7 o7 hid7 (by simp)
            | false =>
              simp [ev_region2, evOps_nil, evOps_cons, opG_none, opG_some, opJ, opU_ff, isU_bool, opK_eq, opA_move, opA_assign, opA_call, putO_some, putH_lt, putC_lt, condB_false, opS, opV, Go.Mx.look, seqK, Fr.known, mapO, callA, ok37]
              refine left_sp r H7 _ (hl7 H7 hs7) hdo.s (by have := hdo.l; omega) ?_
              simp [ev_region2, evOps_nil, evOps_cons, opG_none, opG_some, opJ, opU_ff, isU_bool, opK_eq, opA_move, opA_assign, opA_pick, opA_bin, putO_some, putH_lt, putC_lt, condB_false, binT_some, binA, avO_some, pickT, io_add, io_geq, opS, opV, Go.Mx.look, seqK, blockK, Fr.known, mapO, headK, getV, getB, chkP, orO_some, eqT_some, tk3, w1]
              have := stepH H7 v7 (fullB r.d) hs7 o7 hid7 (by simp)
              rw [hde] at this
              exact this
        · rw [if_neg hh, List.append_nil] at htk
          have stepN : ∃ m, m < R.length - i ∧ UInv1 R c x H m [.ptr c 0 0, v6, .v (.bool (fullW x (R.take i))), .v (.int .i64 ((i : Int) + 1))] [paC x] H2 :=
            ⟨R.length - (i + 1), by omega, i + 1, v6, by omega, rfl, by unfold fullW; rw [htk]; simp, rfl, hs2, by rw [htk]; exact o6, hj6⟩
          by_cases hu : r.d.u = x.to
          · have tu : (r.d.u.toList = x.to.toList) = True := by rw [tl_inj]; exact eq_true hu
            rw [hto, decide_eq_true hu, Bool.true_and, Bool.or_eq_true, decide_eq_true_iff, decide_eq_true_iff, not_or] at hh
            have tn : (r.d.n.toList = x.dv.toList) = False := by rw [tl_inj]; exact eq_false hh.1
            have ts : (x.dv.toList = [42]) = False := by rw [tls]; exact eq_false hh.2
            simp [ev_skip, ev_seq, ev_cond2, ev_region2, evOps_nil, evOps_cons, opG_none, opG_some, opJ, opU_ft, opU_ff, isU_bool, opK_eq, opA_move, opA_assign, opA_pick, opA_bin, opA_load, opA_fieldAddr, opA_nilCheck, putO_some, putH_lt, condB_true, condB_false, CondP_true, CondP_false, binT_some, binA, avO_some, pickT, loadT, nilCheckT, fieldAddrT, io_add, strOp, opS, opV, Go.Mx.look, seqK, blockK, Fr.known, mapO, partA, loadA, loadS, plusS, nilCheckS, headK, getV, getB, chkP, orO_some, eqT_some, ev_draw, drawK, evP_nil, evP_q, opAt_some, tk3, sz9, ag9, tk9, Try.underlying30, sz65, ag65, Try.underlying67, hid, hci, hlt, g1, cellF, tu, tn, ts, w1]
            exact stepN
          · have tu : (r.d.u.toList = x.to.toList) = False := by rw [tl_inj]; exact eq_false hu
            simp [ev_skip, ev_seq, ev_cond2, ev_region2, evOps_nil, evOps_cons, opG_none, opG_some, opJ, opU_true, opU_ft, isU_undef, isU_bool, opA_move, opA_assign, opA_pick, opA_bin, opA_load, opA_fieldAddr, opA_nilCheck, putO_some, putH_lt, putV_lt, condB_false, CondP_false, binT_some, binA, avO_some, pickT, loadT, nilCheckT, fieldAddrT, io_add, strOp, opS, opV, Go.Mx.look, seqK, blockK, Fr.known, mapO, partA, loadA, loadS, plusS, nilCheckS, headK, getV, getB, chkP, orO_some, eqT_some, ev_draw, drawK, evP_nil, evP_q, opAt_some, tk3, sz9, ag9, tk9, Try.underlying30, sz65, ag65, Try.underlying67, hid, hci, hlt, g1, cellF, tu, w1]
            exact stepN
      · have hie : R.take i = R := List.take_of_length_le (by omega)
        have hfu : fullW x R = (S.ds.filter (toB x)).any fullB := by unfold fullW; rw [hW]
        rw [hie] at o6
        rw [hie, hfu]
        have hl6 := o6.lenT
        rw [← hWn] at hse
        have hWl : (R.filter (hitR x)).length ≤ N := Nat.le_trans (List.length_filter_le _ _) hRl
        have hff0 : (S.ds.filter (toB x)).any fullB = fullW x R := hfu.symm
        generalize hff : (S.ds.filter (toB x)).any fullB = fl at *
        generalize hWW : R.filter (hitR x) = W at *
        by_cases hn0 : W.length = 0
        · simp [ev_seq, ev_cond2, ev_ret, ev_region2, evOps_nil, evOps_cons, opG_none, opA_assign, opA_bin, putO_some, putH_lt, condB_true, binT_some, binA, avO_some, io_eql, opS, opV, Go.Mx.look, seqK, Fr.known, retK, retA, resA, mapO, orO_some, eqT_some, tk3, hl6, hn0]
          exact no 2 (by rw [hse, if_pos hn0]; rfl) (by simp) H2 hs2
        cases hfl : fl with
        | true =>
          simp [ev_skip, ev_seq, ev_cond2, ev_ret, ev_region2, evOps_nil, evOps_cons, opG_none, opA_move, opA_assign, opA_bin, putO_some, putH_lt, condB_true, CondP_false, binT_some, binA, avO_some, io_eql, opS, opV, Go.Mx.look, seqK, Fr.known, retK, retA, resA, mapO, orO_some, eqT_some, tk3, hl6, hn0]
          exact no 3 (by rw [hse, if_neg hn0, hfl]; rfl) (by simp) H2 hs2
        | false =>
        have he0 : sendE S x = 0 := by rw [hse, if_neg hn0, hfl]; rfl
        have hSS : sendS S x = ⟨S.ds.map (pushIf x), S.sent ++ [x]⟩ := by unfold sendS; rw [if_pos he0]; rfl
        have hRR : sendR S x = W.length := by unfold sendR; rw [if_pos he0, ← hWn]
        have hlt2 := hp2.lt
        have hlt1 := hp.lt
        simp [ev_skip, ev_seq, ev_cond2, ev_block, ev_region2, ev_loop, loopK, evOps_nil, evOps_cons, opG_none, opA_move, opA_assign, opA_bin, putO_some, putH_lt, condB_false, CondP_false, binT_some, binA, avO_some, io_eql, opS, opV, Go.Mx.look, seqK, Fr.known, mapO, headK, getV, getB, chkP, firstReg, orO_some, eqT_some, tk3, hl6, hn0]
        refine LoopC.intro (fun n xs bs H3 => UInv2 R S c vL vS x v6 W H2 n xs bs H3) W.length ⟨0, [], R, [], by omega, by omega, by simp, by first | (simp [paC]; done) | simp [paC, hst], by simp, by simp, by simp, by rw [List.nil_append]; exact ⟨rfl, hp2.cc, hp2.ol, hp2.os, hp2.d, hp2.nd⟩, Stp.refl _ _, o6, fun j hj hm => by have h8 := hj6 j hj; have h9 := hlt1 j hm; omega⟩ ?_
        rintro n xs bs H3 ⟨i, A, B, A', hi, rfl, rfl, rfl, hR, hA, hAd, hp3, hst3, o63, hd63⟩
        have hc3 := hp3.cc
        have hl63 := o63.lenT
        simp [ev_skip, ev_seq, ev_cond2, ev_block, ev_exit, ev_region2, evOps_nil, evOps_cons, opG_none, opA_move, opA_bin, opA_load, opA_indexAddr, opA_fieldAddr, opA_nilCheck, opA_len, putO_some, putH_lt, binT_some, binA, avO_some, loadT, nilCheckT, fieldAddrT, indexAddrT, io_lss, opS, opV, Go.Mx.look, seqK, blockK, Fr.known, partA, loadA, loadS, plusS, indexAddrA, nilCheckS, mkFr, slotsOf, ptrsOf, boxesOf, orO_some, eqT_some, ev_draw, drawK, evP_q, opAt_some, tk3, sz28, ag28, Try.underlying43, Try.underlying45, sz65, paC, hl63]
        refine ⟨fun hlt => ?_, fun hge => ?_⟩
        · have hlt : i < W.length := by omega
          obtain ⟨r, hxr⟩ : ∃ r, W[i]? = some r := ⟨_, List.getElem?_eq_getElem hlt⟩
          obtain ⟨B1, B2, rfl, hB1, hhr⟩ := next_hit hR hA (by rw [hWW]; exact hxr)
          obtain ⟨id, ver, cs, rfl, hid, hci, hcl⟩ := ptrs_at o63 hxr
          rw [← List.append_assoc A' B1] at hp3 hst3 hd63
          obtain ⟨g1, g2⟩ := hp3.d.at_ r (by simp)
          have hrS : r.d ∈ S.ds := by rw [← hp.rd, hR]; simp
          have hdo := hk.d r.d hrS
          have w1 : IntKind.i64.wrap ((i : Int) + 1) = (i : Int) + 1 := wr_i64 (by omega)
          have hrb : r.b < H3.length := Hp.lt g1
          have hfr : (fpR r).Nodup := by
            have hap := hp3.d.nd
            rw [fpL_app, fpL_cons, List.nodup_append, List.nodup_append] at hap
            exact hap.2.1.1
          have hbv : r.b ∉ slId r.v := by
            simp only [fpR, List.nodup_cons] at hfr
            exact hfr.1
          simp only [cellF] at g1
          simp [evOps_nil, evOps_cons, opG_none, opA_move, opA_assign, opA_load, opA_fieldAddr, opA_nilCheck, opA_buildSlice, opA_append, putO_some, putH_lt, loadT, nilCheckT, fieldAddrT, buildSliceT, appendT, repeatL_1, opS, opV, Go.Mx.look, seqK, mapO, cellsA_agg, okPart_agg, partA, loadA, loadS, plusS, nilCheckS, fillA, bindO, srcTy, ev_draw, drawK, evP_q, evP_s, opAt_some, sz28, ag28, st28, Try.underlying28, sz30, ag30, by30, ze30, sz65, ag65, Try.underlying67, hid, hci, hlt, g1]
          refine g2.app (by simp) (by have := hdo.l; show (r.d.al.length + 1) * _ ≤ _ ∧ r.d.al.length + 1 ≤ _; omega) (fun v7 H7 o7 hs7 hid7 _ => ?_)
          have G7 := hs7.2 _ _ g1 hbv
          obtain ⟨d1, d2⟩ := o7.cells'
          have hrb7 : r.b < H7.length := Hp.lt G7
          have hv7 : ∀ j ∈ slId v7, j ∈ slId r.v ∨ j = H3.length := fun j hj => by
            rcases hid7 with e | e
            · rw [e] at hj; exact .inl hj
            · rw [e] at hj; simp at hj; exact .inr hj
          have hb7 : r.b ∉ slId v7 := fun hm => by
            rcases hv7 _ hm with h8 | h8
            · exact hbv h8
            · omega
          simp [ev_region2, evOps_nil, evOps_cons, opG_none, opA_move, opA_assign, opA_bin, opA_fieldAddr, opA_nilCheck, opA_store, putO_some, putH_lt, putC_lt, putU_none, binT_some, binA, avO_some, nilCheckT, fieldAddrT, storeT, io_add, opS, opV, Go.Mx.look, seqK, blockK, mapO, plusS, nilCheckS, storeS, headK, getV, getB, chkP, orO_some, eqT_some, evP_nil, evP_q, evP_s, opAt_some, chkK_eq, sameV_some, sameO_some, allQ_nil, allQ_cons, valQ_none, valS_move, tk3, sz28, Try.underlying67, G7, d1, d2, splice, w1]
          have hset : Same [r.b] H7 (H7.set r.b (.cells 0 [.v (.string r.d.u), .v (.string r.d.n), v7, .v (.int .i64 r.d.sn)])) := Same.set (by simp)
          obtain ⟨P8, S8⟩ := RfR.upd (A := A' ++ B1) (r' := ⟨push x r.d, r.b, v7⟩) hp3 ((hs7.wide (fp' := fpR r) (fun j hj => by simp [fpR, hj])).trans (hset.wide (fp' := fpR r) (by simp [fpR])) (fun j hj => .inl hj)) ⟨List.getElem?_set_self hrb7, by
            have := o7.same hset (fun j hj hm => by simp at hm; subst hm; exact hb7 hj)
            simpa [wlF, push, paC] using this⟩ rfl (fun j hj => by
            rcases List.mem_cons.1 hj with rfl | hj
            · exact .inl (by simp [fpR])
            · rcases hv7 j hj with h8 | h8
              · exact .inl (by simp [fpR, h8])
              · exact .inr (by omega)) (by
            simp only [fpR, List.nodup_cons]
            exact ⟨hb7, o7.nodup⟩)
          have e8 : A' ++ B1 ++ ⟨push x r.d, r.b, v7⟩ :: B2 = (A' ++ B1 ++ [⟨push x r.d, r.b, v7⟩]) ++ B2 := by simp
          rw [e8] at P8 S8
          have hBf : B1.filter (hitR x) = [] := by
            rw [List.filter_eq_nil_iff]
            intro y hy
            rw [hB1 y hy]; simp
          refine ⟨W.length - (i + 1), by omega, i + 1, A ++ B1 ++ [r], B2, A' ++ B1 ++ [⟨push x r.d, r.b, v7⟩], by omega, rfl, by simp, rfl, by rw [hR]; simp, ?_, ?_, P8, hst3.trans S8, ?_, fun j hj hm => ?_⟩
          · rw [List.filter_append, List.filter_append, hBf, List.filter_cons, hhr]
            simp [hA]
          · have e9 : pushIf x r.d = push x r.d := by
              unfold pushIf
              rw [show toB x r.d = true from hhr]; rfl
            rw [List.map_append, List.map_append, List.map_append, List.map_append, List.map_append, List.map_append, hAd, push_no hB1]
            simp [e9]
          · refine o63.same S8.1 hd63
          · rcases S8.2 j hm with h8 | h8
            · exact hd63 j hj h8
            · have := o63.lt j hj; omega
        · have hBf : B.filter (hitR x) = [] := by
            have e : (A ++ B).filter (hitR x) = W := by rw [← hR]; exact hWW
            rw [List.filter_append] at e
            have := congrArg List.length e
            rw [List.length_append, hA] at this
            exact List.eq_nil_of_length_eq_zero (by omega)
          have hBn : ∀ y ∈ B, hitR x y = false := fun y hy => by
            have := List.filter_eq_nil_iff.1 hBf y hy
            simpa using this
          obtain ⟨⟨k1, k2, k3⟩, k4, k5, k6, k7, k8⟩ := nd3.1 hp3.nd
          have hlt3 := hp3.lt
          have hcl : c < H3.length := Hp.lt hc3
          simp [opG_none, opA_load, opA_buildSlice, opA_append, putO_some, putH_lt, loadT, buildSliceT, appendT, repeatL_1, opS, opV, Go.Mx.look, mapO, cellsA_agg, okPart_agg, partA, loadS, fillA, bindO, srcTy, evP_q, evP_s, opAt_some, st28, Try.underlying28, sz30, ag30, by30, ze30, hc3]
          refine hp3.os.app (by simp) (by show (S.sent.length + 1) * _ ≤ _ ∧ S.sent.length + 1 ≤ _; omega) (fun v9 H9 o9 hs9 hid9 _ => ?_)
          have hc9 := hs9.2 _ _ hc3 k2
          obtain ⟨d1, d2⟩ := o9.cells'
          have hl69 := (o63.same hs9 (fun j hj hm => hd63 j hj (by simp [hm]))).lenT
          have hv9 : ∀ j ∈ slId v9, j ∈ slId vS ∨ j = H3.length := fun j hj => by
            rcases hid9 with e | e
            · rw [e] at hj; exact .inl hj
            · rw [e] at hj; simp at hj; exact .inr hj
          simp [ev_seq, ev_ret, ev_region2, evOps_nil, evOps_cons, opG_none, opA_move, opA_assign, opA_fieldAddr, opA_nilCheck, opA_len, opA_store, putO_some, putH_lt, putC_lt, putU_none, nilCheckT, fieldAddrT, storeT, opS, opV, Go.Mx.look, seqK, retK, retA, resA, mapO, plusS, nilCheckS, storeS, evP_nil, evP_q, evP_s, opAt_some, chkK_eq, sameV_some, sameO_some, allQ_nil, allQ_cons, valQ_none, valS_move, sz28, Try.underlying43, Try.underlying45, hc9, d1, d2, splice, hl69]
          have hlt' : ∀ j, j ∈ slId vL ∨ j ∈ slId vS ∨ j ∈ fpL (A' ++ B) → j < H3.length := fun j hj => hlt3 j (by simp only [List.mem_cons, List.mem_append]; exact .inr hj)
          have hnd : (c :: (slId vL ++ (slId v9 ++ fpL (A' ++ B)))).Nodup := by
            refine nd3.2 ⟨⟨k1, fun hm => ?_, k3⟩, k4, o9.nodup, k6, fun j hj => ⟨fun hm => ?_, (k7 j hj).2⟩, fun j hj hm => ?_⟩
            · rcases hv9 c hm with h8 | h8
              · exact k2 h8
              · omega
            · rcases hv9 j hm with h8 | h8
              · exact (k7 j hj).1 h8
              · have := hlt' j (.inl hj); omega
            · rcases hv9 j hj with h8 | h8
              · exact k8 j h8 hm
              · have := hlt' j (.inr (.inr hm)); omega
          have := h _ _ ⟨vL, v9, A' ++ B, RfR.mk' (S := sendS S x) (Hp.lt hc9) (by
            rw [hSS, List.map_append, hAd, ← hp.rd, hR, List.map_append, List.map_append, push_no hBn]) (hp3.ol.same hs9 (fun j hj hm => (k7 j hj).1 hm)) (by rw [hSS]; simpa [paC] using o9) (hp3.d.same hs9 (fun j hj hm => k8 j hm hj)) hnd, rfl⟩ ⟨?_, fun j hj => ?_⟩
          · rw [hRR, he0] at this
            exact this
          · have t1 : Same (c :: (slId vL ++ (slId vS ++ fpL R))) H H3 := (hs2.wide (by simp)).trans hst3.1 (fun j hj => .inl hj)
            have hin : ∀ j, j ∈ c :: (slId vL ++ (slId vS ++ fpL (A' ++ B))) → j ∈ c :: (slId vL ++ (slId vS ++ fpL R)) ∨ H.length ≤ j := fun j hj => by
              rcases hst3.2 j hj with h8 | h8
              · exact .inl h8
              · have := hs2.1; exact .inr (by omega)
            refine (t1.trans hs9 (fun j hj => hin j (by simp [hj]))).trans (Same.set (fp := [c]) (by simp)) (fun j hj => .inl (by simp at hj; simp [hj]))
          · have h3 : j ∈ c :: (slId vL ++ (slId vS ++ fpL (A' ++ B))) ∨ j = H3.length := by
              simp only [List.mem_cons, List.mem_append] at hj ⊢
              rcases hj with h8 | h8 | h8 | h8
              · exact .inl (.inl h8)
              · exact .inl (.inr (.inl h8))
              · rcases hv9 j h8 with h9 | h9
                · exact .inl (.inr (.inr (.inl h9)))
                · exact .inr h9
              · exact .inl (.inr (.inr (.inr h8)))
            have hH : H.length ≤ H3.length := Nat.le_trans hs2.1 hst3.1.1
            rcases h3 with h8 | h8
            · rcases hst3.2 j h8 with h9 | h9
              · exact .inl h9
              · have := hs2.1; exact .inr (by omega)
            · exact .inr (by omega)
    · simp [ev_seq, ev_cond2, ev_ret, ev_region2, evOps_nil, evOps_cons, opG_none, opG_some, opJ, opU_ft, opU_ff, isU_bool, opK_eq, opA_move, opA_assign, opA_pick, opA_bin, opA_un, opA_load, opA_fieldAddr, putO_some, putH_lt, putC_lt, condB_true, condB_false, CondP_true, binT_some, binA, avO_some, pickT, unT, loadT, fieldAddrT, strOp, opS, opV, Go.Mx.look, seqK, Fr.known, retK, retA, resA, mapO, unA, partA, loadS, plusS, orO_some, eqT_some, sz9, ag9, tk9, Try.underlying30, tls, hst]
      exact bad (by simp [goodX, hu1, hu2, htx, hnd, hst])
end Go.Proofs.Ytamhmecfjkahdaa
