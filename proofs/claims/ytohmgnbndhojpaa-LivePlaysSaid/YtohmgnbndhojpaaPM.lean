import Derived.Test.YtohmgnbndhojpaaPH
namespace Go.Proofs.Ytohmgnbndhojpaa
open Go.Mx
set_option linter.unusedVariables false
set_option linter.unusedSimpArgs false

/-! ### LiveSweeps: plain -/
theorem stale_typ {s : Sg} (hr : rightS s = true) {t0 t : Int} (ht : t0 ≤ t) (h : keepS t0 s = false) : typS t s = false := by
  obtain ⟨_, h1, h2, h3, h4, h5⟩ := rightS_iff.1 hr
  rw [← Bool.not_eq_true]
  replace h : endS s ≤ t0 := by simpa [keepS] using h
  unfold endS at h
  simp [typS]
  intro h6 h7
  rw [if_pos h6] at h; omega
theorem typL_sweep {L : List Sg} (hok : OkL L) {t0 t : Int} (ht : t0 ≤ t) : typL t (L.filter (keepS t0)) = typL t L := by
  unfold typL
  rw [List.filter_filter]
  congr 1
  apply List.filter_congr
  intro s hs
  cases hk : keepS t0 s with
  | true => simp
  | false => simp [stale_typ (hok.2 s hs).1 ht hk]
theorem stale_pres {s : Sg} (hr : rightS s = true) (hk1 : s.kind ≠ 1) {t0 t : Int} (hw : W64 t) (ht : t0 ≤ t) (h : keepS t0 s = false) : presS t (some s) = offT := by
  obtain ⟨_, h1, h2, h3, h4, h5⟩ := rightS_iff.1 hr
  obtain ⟨w1, w2⟩ := hw
  replace h : endS s ≤ t0 := by simpa [keepS] using h
  unfold endS at h
  rw [if_neg hk1] at h
  unfold presS
  simp only
  by_cases e3 : s.kind = 3
  · rw [if_pos e3]
  · rw [if_pos (by omega)] at h
    rw [if_neg e3]
    have hw : IntKind.i64.wrap (t - s.till) = t - s.till := wr_i64 (by omega)
    rw [hw]
    by_cases e4 : s.at_ > t
    · rw [if_pos e4]
    · rw [if_neg e4, if_neg (by omega), if_neg (by omega), if_neg (by omega)]
theorem pres_sweep {L : List Sg} (hok : OkL L) {t0 t : Int} (hw : W64 t) (ht : t0 ≤ t) (u : ByteArray) : presS t (fK (L.filter (keepS t0)) (u, false)) = presS t (fK L (u, false)) := by
  rw [fK_filter hok.1]
  cases hf : fK L (u, false) with
  | none => rfl
  | some s =>
    obtain ⟨h1, h2⟩ := (fK_iff hok.1).1 hf
    cases hk : keepS t0 s with
    | true => simp [Option.filter, hk]
    | false =>
      have hk1 : s.kind ≠ 1 := fun e => by simp [keyS, e] at h2
      rw [stale_pres (hok.2 s h1).1 hk1 hw ht hk]
      simp [Option.filter, hk, presS]
theorem filter_idem (L : List Sg) (t : Int) : (L.filter (keepS t)).filter (keepS t) = L.filter (keepS t) := by rw [List.filter_filter]; simp

/-! ### LiveFades: plain -/
theorem typ_back {s : Sg} {t0 t1 : Int} (ha : s.at_ ≤ t0) (ht : t0 ≤ t1) (h : typS t1 s = true) : typS t0 s = true := by
  simp [typS] at h ⊢
  omega
theorem typL_back {L : List Sg} {t0 t1 : Int} (ha : ∀ s ∈ L, s.at_ ≤ t0) (ht : t0 ≤ t1) {u : ByteArray} (h : u ∈ typL t1 L) : u ∈ typL t0 L := by
  unfold typL at *
  rw [List.mem_map] at *
  obtain ⟨s, hs, rfl⟩ := h
  obtain ⟨h1, h2⟩ := List.mem_filter.1 hs
  exact ⟨s, List.mem_filter.2 ⟨h1, typ_back (ha s h1) ht h2⟩, rfl⟩
theorem rank_off : rankZ offT = 0 := by decide +kernel
theorem rank_on : rankZ onT = 2 := by decide +kernel
theorem rank_una : rankZ unaT = 1 := by decide +kernel
theorem rank_back {L : List Sg} (hok : OkL L) {t0 t1 : Int} (h0 : W64 t0) (h1 : W64 t1) (ha : ∀ s ∈ L, s.at_ ≤ t0) (ht : t0 ≤ t1) (u : ByteArray) : rankZ (presS t1 (fK L (u, false))) ≤ rankZ (presS t0 (fK L (u, false))) := by
  cases hf : fK L (u, false) with
  | none => simp [presS]
  | some s =>
    obtain ⟨hm, _⟩ := (fK_iff hok.1).1 hf
    obtain ⟨_, _, _, h3, h4, h5⟩ := rightS_iff.1 (hok.2 s hm).1
    have ha := ha s hm
    obtain ⟨a1, a2⟩ := h0
    obtain ⟨b1, b2⟩ := h1
    have w0 : IntKind.i64.wrap (t0 - s.till) = t0 - s.till := wr_i64 (by omega)
    have w1 : IntKind.i64.wrap (t1 - s.till) = t1 - s.till := wr_i64 (by omega)
    unfold presS
    simp only
    rw [w0, w1]
    repeat' split
    all_goals first | (exfalso; omega) | (simp only [rank_off, rank_on, rank_una]; omega) | (simp only [rank_off, rank_on, rank_una]; decide)
end Go.Proofs.Ytohmgnbndhojpaa

namespace Go.Proofs.Ytohmgnbndhojpaa
open Go.Mx
set_option linter.unusedVariables false
set_option linter.unusedSimpArgs false

theorem typL_len (t : Int) (L : List Sg) : (typL t L).length ≤ L.length := by
  unfold typL
  rw [List.length_map]
  exact List.length_filter_le _ _
def FaInv1 (L : List Sg) (u : ByteArray) (t0 : Int) (b : Nat) (H1 : Hp) (n : Nat) (xs : List AV) (H2 : Hp) : Prop :=
  ∃ i : Nat, i ≤ L.length ∧ n = L.length - i ∧ xs = [.v (.string u), .ptr 0 0 0, .ptr b 0 0, rowG L, .v (.int .i64 L.length), .v (.int .i64 i)] ∧ H2 = H1 ∧ ∀ j s, j < i → L[j]? = some s → s.at_ ≤ t0
def FaInv2 (u : ByteArray) (b : Nat) (A B : List ByteArray) (H1 : Hp) (n : Nat) (xs : List AV) (H2 : Hp) : Prop :=
  ∃ i : Nat, i ≤ B.length ∧ n = B.length - i ∧ xs = [.v (.string u), .ptr 0 0 0, .ptr b 0 0, rowU A, rowU B, .v (.int .i64 i)] ∧ H2 = H1
open Classical in
noncomputable def FaInv3 (u : ByteArray) (b : Nat) (A B : List ByteArray) (x : ByteArray) (i : Nat) (H1 : Hp) (n : Nat) (xs : List AV) (H2 : Hp) : Prop :=
  ∃ k : Nat, k ≤ A.length ∧ n = A.length - k ∧ xs = [.v (.string u), .ptr 0 0 0, .ptr b 0 0, rowU A, rowU B, .v (.int .i64 i), .v (.bool (decide (x ∈ A.take k))), .v (.int .i64 k)] ∧ H2 = H1
set_option maxRecDepth 20000 in
set_option maxHeartbeats 2000000 in
theorem fades_law (l : List Sg) (u : ByteArray) (t : {t : Int × Int // W64 t.1 ∧ W64 t.2}) : Sp Try.prog 3 [rowG l, .v (.string u), .agg [.v (.int .i64 t.1.1), .v (.int .i64 t.1.2)]] (fun v _ => v = .v (.bool true)) [] := by
  obtain ⟨⟨t0, t1⟩, h0, h1⟩ := t
  simp only at h0 h1
  refine Sp.body [(5, ⟨[1, 5, 7, 33, 34, 35], [], []⟩), (12, ⟨[1, 5, 7, 10, 11, 12], [], []⟩), (16, ⟨[1, 5, 7, 10, 11, 12, 13, 14], [], []⟩)] ⟨[9], [], pl3⟩ tb3 mo Try.func3 rfl (Nat.le_of_ble_eq_true rfl) (by kernel_rfl) ?_
  simp [ev_seq, ev_region2, evOps_nil, evOps_cons, opG_none, opA_move, opA_assign, opA_call, opA_box, putO_some, putH_lt, boxT, opS, opV, Go.Mx.look, fr0, argSlots, seqK, mapO, callA, cellsA_agg, okPart_agg, newK, ok9, pl3, rowG]
  refine few_sp l false _ _ (fun hf => ?_) (fun _ => by simp [ev_seq, ev_cond2, ev_ret, ev_region2, evOps_nil, evOps_cons, opG_none, opG_some, opJ, opU_ff, isU_bool, opA_move, opA_assign, opA_pick, opA_un, putO_some, putH_lt, putC_lt, putV_lt, condB_true, pickT, unT, opS, opV, Go.Mx.look, seqK, Fr.known, retK, retA, resA, mapO, unA])
  simp [ev_skip, ev_seq, ev_cond2, ev_ret, ev_region2, evOps_nil, evOps_cons, opG_none, opG_some, opJ, opU_ff, isU_bool, opK_eq, opA_move, opA_assign, opA_pick, opA_bin, opA_un, opA_load, opA_indexAddr, opA_len, opA_call, putO_some, putH_lt, putC_lt, putV_lt, condB_true, condB_false, binT_some, binA, avO_some, pickT, unT, loadT, lenT_str, indexAddrT, io_lss, io_gtr, opS, opV, Go.Mx.look, seqK, Fr.known, retK, retA, resA, mapO, unA, callA, partA, loadA, loadS, plusS, indexArrA, orO_some, eqT_some, sz2, ag2, tk2, tk3, Try.underlying9, Try.underlying23, ok10]
  intro hu ht
  refine board_sp false l _ _ hf (fun b H1 fp hd hs hfp => ?_)
  have hL : (boardL l).length ≤ 60 := Nat.le_trans (boardL_len l) hf.1
  have hok : OkL (boardL l) := boardL_ok hf.2
  generalize boardL l = L at hd hL hok
  have hh := hs.2 0 _ rfl (by simp)
  simp [ev_seq, ev_region2, evOps_nil, evOps_cons, opG_none, opA_move, opA_assign, opA_call, putO_some, putH_lt, putC_lt, opS, opV, Go.Mx.look, seqK, mapO, callA, ok11]
  refine all_sp _ L H1 _ hd.v (by omega) ?_
  simp [ev_block, ev_loop, loopK, evOps_nil, evOps_cons, opG_none, opA_move, opA_len, putO_some, putH_lt, putC_lt, lenT_row, opS, opV, Go.Mx.look, seqK, mapO, headK, getV, getB, chkP, firstReg, Try.underlying22]
  refine LoopC.intro (fun n xs _ H2 => FaInv1 L u t0 b H1 n xs H2) L.length ⟨0, by omega, by omega, by simp [rowG], rfl, by simp⟩ ?_
  rintro n xs bs H2 ⟨i, hi, rfl, rfl, rfl, hall⟩
  simp [ev_skip, ev_seq, ev_cond2, ev_block, ev_exit, ev_region2, evOps_nil, evOps_cons, opG_none, opA_move, opA_bin, opA_load, opA_indexAddr, putO_some, putH_lt, binT_some, binA, avO_some, loadT, indexAddrT, io_lss, opS, opV, Go.Mx.look, seqK, blockK, Fr.known, partA, loadA, loadS, plusS, indexAddrA, indexArrA, mkFr, slotsOf, ptrsOf, boxesOf, orO_some, eqT_some, ev_draw, drawK, evP_q, opAt_some, sz2, ag2, tk3, Try.underlying22, Try.underlying23, sz29, rowG]
  refine ⟨fun hlt => ?_, fun hge => ?_⟩
  · have hx := List.getElem?_eq_getElem hlt
    generalize L[i] = s at hx
    have hsl := flat_sub sgC_len L i hx
    have hle : i * 4 + 4 ≤ (List.map (fun a : Sg => 4) L).sum := flat_le2 sgC_len hx
    have w1 : IntKind.i64.wrap ((i : Int) + 1) = (i : Int) + 1 := wr_i64 (by omega)
    simp [ev_skip, ev_seq, ev_cond2, ev_region2, evOps_nil, evOps_cons, opG_none, opA_move, opA_bin, opA_load, opA_indexAddr, opA_fieldAddr, opA_call, opA_alloc, opA_store, putO_some, putH_lt, putU_none, binT_some, binA, avO_some, loadT, fieldAddrT, indexAddrT, allocT, storeT, io_add, io_gtr, opS, opV, Go.Mx.look, seqK, blockK, Fr.known, Fr.newBox, dropBp, mapO, callA, cellsA_agg, okPart_agg, partA, loadA, loadS, plusS, indexArrA, newK, storeS, headK, getV, getB, chkP, orO_some, eqT_some, sz2, ag2, tk2, tk3, Try.underlying23, sz29, ag29, ze29, Try.underlying29, ok12, hlt, hsl, hle, sgC, splice, hh, w1]
    refine ⟨fun e => ?_, fun e => ?_⟩
    · refine awake_sp _ _ (fun H9 _ => ?_)
      simp [ev_ret, evOps_nil, evOps_cons, opG_none, opA_assign, putO_some, putH_lt, putC_lt, opS, opV, Go.Mx.look, seqK, blockK, retK, retA, resA, mapO]
    · refine ⟨L.length - (i + 1), by omega, i + 1, by omega, rfl, by simp [rowG], rfl, fun j y hj hy => ?_⟩
      rcases Nat.lt_or_ge j i with h3 | h3
      · exact hall j y h3 hy
      · obtain rfl : j = i := by omega
        rw [hx] at hy; simp at hy; subst hy; exact e
  · have hat : ∀ s ∈ L, s.at_ ≤ t0 := fun s hs => by
      obtain ⟨j, hj⟩ := List.getElem?_of_mem hs
      exact hall j s (by have := (List.getElem?_eq_some_iff.1 hj).1; omega) hj
    have hback := fun x => typL_back hat ht (u := x)
    have hrank := rank_back hok h0 h1 hat ht u
    have la := typL_len t0 L
    have lb := typL_len t1 L
    simp [opG_none, opA_move, opA_load, opA_indexAddr, opA_call, putO_some, putH_lt, loadT, indexAddrT, opS, opV, Go.Mx.look, mapO, callA, partA, loadA, loadS, plusS, indexArrA, evP_q, evP_s, opAt_some, sz2, ag2, Try.underlying23, ok13, hh]
    refine typing_sp _ L t0 H2 _ hd.v (by omega) ?_
    simp [opG_none, opA_call, putC_lt, loadT, indexAddrT, opS, opV, Go.Mx.look, mapO, callA, partA, loadA, loadS, plusS, indexArrA, evP_s, opAt_some, chkK_eq, sameV_some, sameO_some, allQ_nil, allQ_cons, valQ_none, valS_move, valS_load, valS_indexAddr, sz2, ag2, Try.underlying23, ok13, hh]
    refine typing_sp _ L t1 H2 _ hd.v (by omega) ?_
    generalize typL t0 L = A at hback la
    generalize typL t1 L = B at hback lb
    simp [ev_seq, ev_block, ev_region2, ev_loop, loopK, evOps_nil, evOps_cons, opG_none, opA_assign, putO_some, putH_lt, putC_lt, opS, opV, Go.Mx.look, seqK, mapO, headK, getV, getB, chkP, firstReg, evP_nil, evP_s, opAt_some, chkK_eq, allQ_nil]
    refine LoopC.intro (fun n xs _ H3 => FaInv2 u b A B H2 n xs H3) B.length ⟨0, by omega, by omega, by simp [rowU], rfl⟩ ?_
    rintro n xs bs H3 ⟨i, hi, rfl, rfl, rfl⟩
    simp [ev_skip, ev_seq, ev_cond2, ev_block, ev_exit, ev_region2, ev_loop, loopK, evOps_nil, evOps_cons, opG_none, opA_move, opA_assign, opA_bin, opA_load, opA_indexAddr, opA_len, putO_some, putH_lt, binT_some, binA, avO_some, loadT, lenT_row, indexAddrT, io_lss, opS, opV, Go.Mx.look, seqK, blockK, Fr.known, mapO, partA, loadA, loadS, plusS, indexArrA, headK, getV, getB, chkP, mkFr, slotsOf, ptrsOf, boxesOf, firstReg, orO_some, eqT_some, ev_draw, drawK, evP_q, opAt_some, sz2, ag2, tk3, Try.underlying23, Try.underlying31, rowU]
    refine ⟨fun hlt => ?_, fun hge => ?_⟩
    · have hx := List.getElem?_eq_getElem hlt
      generalize hxx : B[i] = x at hx
      have w1 : IntKind.i64.wrap ((i : Int) + 1) = (i : Int) + 1 := wr_i64 (by omega)
      have hxA : x ∈ A := hback x (List.mem_of_getElem? hx)
      refine LoopC.intro (fun n xs _ H4 => FaInv3 u b A B x i H3 n xs H4) A.length ⟨0, by omega, by omega, by simp [rowU], rfl⟩ ?_
      rintro n xs bs H4 ⟨k, hk2, rfl, rfl, rfl⟩
      simp [ev_skip, ev_seq, ev_cond2, ev_block, ev_exit, ev_ret, ev_region2, evOps_nil, evOps_cons, opG_none, opG_some, opJ, opU_ff, isU_bool, opK_eq, opA_move, opA_assign, opA_pick, opA_bin, opA_un, opA_indexAddr, opA_len, putO_some, putH_lt, putV_lt, condB_true, condB_false, binT_some, binA, avO_some, pickT, unT, lenT_row, indexAddrT, io_add, io_lss, opS, opV, Go.Mx.look, seqK, blockK, Fr.known, retK, retA, resA, mapO, unA, indexAddrA, headK, getV, getB, chkP, mkFr, slotsOf, ptrsOf, boxesOf, orO_some, eqT_some, ev_draw, drawK, evP_nil, evP_q, evP_s, opAt_some, chkK_eq, allQ_nil, tk3, sz9, Try.underlying31, rowU]
      refine ⟨fun hkl => ?_, fun hkg => ?_⟩
      · have hxk := List.getElem?_eq_getElem hkl
        generalize hss : A[k] = y at hxk
        have w5 : IntKind.i64.wrap ((k : Int) + 1) = (k : Int) + 1 := wr_i64 (by omega)
        have htk : A.take (k + 1) = A.take k ++ [y] := by rw [List.take_add_one, hxk]; rfl
        by_cases hin : x ∈ A.take k
        · have hin2 : x ∈ A.take (k + 1) := by rw [htk]; simp [hin]
          simp [hin, w5]
          exact ⟨A.length - (k + 1), by omega, k + 1, by omega, by omega, by simp [rowU, hin2], rfl⟩
        · by_cases he : y = x
          · have hin2 : x ∈ A.take (k + 1) := by rw [htk]; simp [he]
            simp [ev_region2, evOps_nil, evOps_cons, opG_none, opG_some, opJ, opU_ff, isU_bool, opK_eq, opA_move, opA_assign, opA_pick, opA_bin, opA_load, opA_indexAddr, putO_some, putH_lt, condB_false, binT_some, binA, avO_some, pickT, loadT, indexAddrT, io_add, strOp, opS, opV, Go.Mx.look, seqK, blockK, Fr.known, mapO, partA, loadA, loadS, indexAddrA, headK, getV, getB, chkP, orO_some, eqT_some, evP_nil, evP_q, evP_s, opAt_some, chkK_eq, allQ_nil, tk3, sz9, ag9, tk9, Try.underlying31, hin, w5, hlt, hkl, hxx, hss, he]
            exact ⟨A.length - (k + 1), by omega, k + 1, by omega, by omega, by simp [rowU, hin2], rfl⟩
          · have hin2 : x ∉ A.take (k + 1) := by rw [htk]; simp [hin, Ne.symm he]
            simp [ev_region2, evOps_nil, evOps_cons, opG_none, opG_some, opJ, opU_ff, isU_bool, opK_eq, opA_move, opA_assign, opA_pick, opA_bin, opA_load, opA_indexAddr, putO_some, putH_lt, condB_false, binT_some, binA, avO_some, pickT, loadT, indexAddrT, io_add, strOp, opS, opV, Go.Mx.look, seqK, blockK, Fr.known, mapO, partA, loadA, loadS, indexAddrA, headK, getV, getB, chkP, orO_some, eqT_some, evP_nil, evP_q, evP_s, opAt_some, chkK_eq, allQ_nil, tk3, sz9, ag9, tk9, Try.underlying31, hin, w5, hlt, hkl, hxx, hss]
            exact ⟨A.length - (k + 1), by omega, k + 1, by omega, by omega, by simp [rowU, hin2, he, tl_inj], rfl⟩
      · have hkk : k = A.length := by omega
        subst hkk
        simp [hxA, w1]
        exact ⟨B.length - (i + 1), by omega, i + 1, by omega, by omega, by simp [rowU], rfl⟩
    · have hu2 : u.size ≤ 100000 := by omega
      simp [opG_none, opA_move, opA_load, opA_indexAddr, opA_call, putO_some, putH_lt, loadT, indexAddrT, opS, opV, Go.Mx.look, mapO, callA, partA, loadA, loadS, plusS, indexArrA, evP_q, evP_s, opAt_some, sz2, ag2, Try.underlying23, ok15, hh]
      refine presence_sp _ L u t0 H3 _ hd.v hu2 ?_
      simp [opG_none, opA_call, putC_lt, loadT, indexAddrT, opS, opV, Go.Mx.look, mapO, callA, partA, loadA, loadS, plusS, indexArrA, evP_s, opAt_some, chkK_eq, sameV_some, sameO_some, allQ_nil, allQ_cons, valQ_none, valS_move, valS_load, valS_indexAddr, sz2, ag2, Try.underlying23, ok14, hh]
      refine rank_sp _ _ _ ?_
      simp [opG_none, opA_call, putC_lt, loadT, indexAddrT, opS, opV, Go.Mx.look, mapO, callA, partA, loadA, loadS, plusS, indexArrA, evP_s, opAt_some, chkK_eq, sameV_some, sameO_some, allQ_nil, allQ_cons, valQ_none, valS_move, valS_load, valS_indexAddr, sz2, ag2, Try.underlying23, ok15, hh]
      refine presence_sp _ L u t1 H3 _ hd.v hu2 ?_
      simp [opG_none, opA_call, putC_lt, opS, opV, Go.Mx.look, mapO, callA, evP_s, opAt_some, chkK_eq, allQ_nil, ok14]
      refine rank_sp _ _ _ ?_
      simp [ev_ret, opG_none, opG_some, opJ, opU_ft, isU_bool, opK_eq, opA_move, opA_assign, opA_pick, opA_bin, opA_call, putO_some, putH_lt, putC_lt, putV_lt, binT_some, binA, avO_some, pickT, io_geq, opS, opV, Go.Mx.look, seqK, Fr.known, retK, retA, resA, mapO, callA, orO_some, eqT_some, evP_nil, evP_q, evP_s, opAt_some, chkK_eq, allQ_nil, tk3, ok12]
      refine ⟨fun _ => ?_, hrank⟩
      refine awake_sp _ _ (fun H9 _ => ?_)
      simp [ev_ret, opG_none, opA_assign, opA_pick, putO_some, putH_lt, putC_lt, pickT, opS, opV, Go.Mx.look, seqK, retK, retA, resA, mapO, evP_nil, evP_q, evP_s, opAt_some, chkK_eq, allQ_nil]

/-! ### LiveLast -/
theorem last_old {L : List Sg} (hok : OkL L) {s : Sg} (h : ∀ o ∈ L, o.user = s.user → o.at_ < s.at_) : oldS L s = false := by
  rw [← Bool.not_eq_true, oldS_iff hok.1]
  rintro ⟨o, h1, h2⟩
  obtain ⟨hm, hk⟩ := (fK_iff hok.1).1 h1
  have := h o hm (by simp [keyS] at hk; exact hk.1)
  unfold countsS at h2
  rw [if_neg (by omega)] at h2
  simp at h2; omega
def LaInv1 (L : List Sg) (s : Sg) (b : Nat) (H1 : Hp) (n : Nat) (xs : List AV) (H2 : Hp) : Prop :=
  ∃ i : Nat, i ≤ L.length ∧ n = L.length - i ∧ xs = [.ptr 0 0 0, .ptr b 0 0, rowG L, .v (.int .i64 L.length), .v (.int .i64 i)] ∧ H2 = H1 ∧ ∀ j o, j < i → L[j]? = some o → o.user = s.user → o.at_ < s.at_
open Classical in
noncomputable def LaInv2 (s : Sg) (A : List ByteArray) (H1 : Hp) (n : Nat) (xs : List AV) (H2 : Hp) : Prop :=
  ∃ k : Nat, k ≤ A.length ∧ n = A.length - k ∧ xs = [.ptr 0 0 0, rowU A, .v (.bool (decide (s.user ∈ A.take k))), .v (.int .i64 k)] ∧ H2 = H1
set_option maxRecDepth 20000 in
set_option maxHeartbeats 2000000 in
theorem last_law (l : List Sg) (s : Sg) : Sp Try.prog 4 [rowG l, .agg (sgC s)] (fun v _ => v = .v (.bool true)) [] := by
  refine Sp.body [(5, ⟨[3, 5, 30, 31, 32], [], []⟩), (21, ⟨[3, 10, 11, 12], [], []⟩)] ⟨[7], [], pl4⟩ tb4 mo Try.func4 rfl (Nat.le_of_ble_eq_true rfl) (by kernel_rfl) ?_
  simp [ev_seq, ev_region2, evOps_nil, evOps_cons, opG_none, opA_move, opA_assign, opA_call, opA_box, putO_some, putH_lt, boxT, opS, opV, Go.Mx.look, fr0, argSlots, seqK, mapO, callA, cellsA_agg, okPart_agg, newK, ok9, pl4, rowG, sgC]
  refine few_sp l false _ _ (fun hf => ?_) (fun _ => by simp [ev_seq, ev_cond2, ev_ret, ev_region2, evOps_nil, evOps_cons, opG_none, opG_some, opJ, opU_ff, isU_bool, opA_move, opA_assign, opA_pick, opA_un, putO_some, putH_lt, putC_lt, putV_lt, condB_true, pickT, unT, opS, opV, Go.Mx.look, seqK, Fr.known, retK, retA, resA, mapO, unA])
  simp [evOps_cons, opG_none, opG_some, opJ, opU_ff, isU_bool, opK_eq, opA_move, opA_un, opA_load, opA_call, opA_buildSlice, putO_some, putH_lt, putC_lt, condB_false, unT, loadT, buildSliceT, repeatL_1, opS, opV, Go.Mx.look, Fr.known, mapO, unA, callA, cellsA_agg, okPart_agg, partA, loadA, loadS, fillA, bindO, Try.underlying22, sz29, ag29, ze29, ok9]
  refine few_sp [s] true _ _ (fun hfs => ?_) (fun _ => by simp [ev_seq, ev_cond2, ev_ret, ev_region2, evOps_nil, evOps_cons, opG_none, opG_some, opJ, opU_ff, isU_bool, opK_eq, opA_move, opA_assign, opA_pick, opA_un, putO_some, putH_lt, putC_lt, putV_lt, condB_true, condB_false, pickT, unT, opS, opV, Go.Mx.look, seqK, Fr.known, retK, retA, resA, mapO, unA])
  have hz := hfs.2 s (by simp)
  simp [evOps_cons, opG_none, opG_some, opJ, opU_ff, isU_bool, opK_eq, opA_move, opA_pick, opA_un, opA_load, opA_call, putO_some, putH_lt, putC_lt, condB_false, pickT, unT, loadT, opS, opV, Go.Mx.look, Fr.known, mapO, unA, callA, partA, loadA, loadS, sz29, ag29, ok16]
  refine rright_sp s _ _ (by omega) ?_
  cases hr : rightS s with
  | false => simp [ev_seq, ev_cond2, ev_ret, ev_region2, evOps_nil, evOps_cons, opG_none, opG_some, opJ, opU_ff, isU_bool, opK_eq, opA_assign, opA_pick, opA_un, putO_some, putH_lt, putC_lt, condB_true, condB_false, pickT, unT, opS, opV, Go.Mx.look, seqK, Fr.known, retK, retA, resA, mapO, unA]
  | true =>
  simp [ev_skip, ev_seq, ev_cond2, ev_region2, evOps_nil, evOps_cons, opG_none, opG_some, opJ, opU_ff, isU_bool, opK_eq, opA_move, opA_pick, opA_un, opA_call, putO_some, putH_lt, putC_lt, condB_false, pickT, unT, opS, opV, Go.Mx.look, seqK, Fr.known, mapO, unA, callA, ok10]
  refine board_sp false l _ _ hf (fun b H1 fp hd hs hfp => ?_)
  have hL : (boardL l).length ≤ 60 := Nat.le_trans (boardL_len l) hf.1
  have hok : OkL (boardL l) := boardL_ok hf.2
  generalize boardL l = L at hd hL hok
  have hh := hs.2 0 _ rfl (by simp)
  have hfp0 : 0 ∉ fp := fun h => by have := hfp 0 h; simp at this
  simp [ev_seq, ev_region2, evOps_nil, evOps_cons, opG_none, opA_move, opA_assign, opA_call, putO_some, putH_lt, putC_lt, opS, opV, Go.Mx.look, seqK, mapO, callA, ok11]
  refine all_sp _ L H1 _ hd.v (by omega) ?_
  simp [ev_block, ev_loop, loopK, evOps_nil, evOps_cons, opG_none, opA_move, opA_len, putO_some, putH_lt, putC_lt, lenT_row, opS, opV, Go.Mx.look, seqK, mapO, headK, getV, getB, chkP, firstReg, Try.underlying22]
  refine LoopC.intro (fun n xs _ H2 => LaInv1 L s b H1 n xs H2) L.length ⟨0, by omega, by omega, by simp [rowG], rfl, by simp⟩ ?_
  rintro n xs bs H2 ⟨i, hi, rfl, rfl, rfl, hall⟩
  simp [ev_skip, ev_seq, ev_cond2, ev_block, ev_exit, ev_region2, evOps_nil, evOps_cons, opG_none, opA_move, opA_bin, opA_load, opA_indexAddr, putO_some, putH_lt, binT_some, binA, avO_some, loadT, indexAddrT, io_lss, opS, opV, Go.Mx.look, seqK, blockK, Fr.known, partA, loadA, loadS, indexAddrA, mkFr, slotsOf, ptrsOf, boxesOf, orO_some, eqT_some, tk3, Try.underlying22, sz29, ag29, rowG]
  refine ⟨fun hlt => ?_, fun hge => ?_⟩
  · have hx := List.getElem?_eq_getElem hlt
    generalize L[i] = o at hx
    have hsl := flat_sub sgC_len L i hx
    have hle : i * 4 + 4 ≤ (List.map (fun a : Sg => 4) L).sum := flat_le2 sgC_len hx
    have w1 : IntKind.i64.wrap ((i : Int) + 1) = (i : Int) + 1 := wr_i64 (by omega)
    have next : (o.user = s.user → o.at_ < s.at_) → ∃ m, m < L.length - i ∧ LaInv1 L s b H2 m [.ptr 0 0 0, .ptr b 0 0, rowG L, .v (.int .i64 L.length), .v (.int .i64 ((i : Int) + 1))] H2 := fun e =>
      ⟨L.length - (i + 1), by omega, i + 1, by omega, rfl, by simp, rfl, fun j y hj hy => by
        rcases Nat.lt_or_ge j i with h3 | h3
        · exact hall j y h3 hy
        · obtain rfl : j = i := by omega
          rw [hx] at hy; simp at hy; subst hy; exact e⟩
    simp only [rowG] at next
    simp [ev_skip, ev_seq, ev_cond2, ev_region2, evOps_nil, evOps_cons, opG_none, opG_some, opJ, opU_ft, isU_bool, opK_eq, opA_move, opA_pick, opA_bin, opA_load, opA_fieldAddr, opA_call, opA_alloc, opA_store, putO_some, putH_lt, putU_none, putV_lt, condB_true, condB_false, binT_some, binA, avO_some, pickT, loadT, fieldAddrT, allocT, storeT, io_add, io_geq, strOp, opS, opV, Go.Mx.look, seqK, blockK, Fr.known, Fr.newBox, dropBp, mapO, callA, cellsA_agg, okPart_agg, partA, loadA, loadS, plusS, newK, storeS, headK, getV, getB, chkP, orO_some, eqT_some, sz2, ag2, tk2, tk3, sz9, ag9, tk9, sz29, ag29, ze29, Try.underlying29, ok12, hlt, hsl, hle, sgC, splice, hh, w1, tl_inj]
    refine ⟨fun e1 => ⟨fun e2 => ?_, fun e2 => ?_⟩, fun e1 => ?_⟩
    · refine awake_sp _ _ (fun H9 _ => ?_)
      simp [ev_ret, evOps_nil, evOps_cons, opG_none, opA_assign, putO_some, putH_lt, putC_lt, opS, opV, Go.Mx.look, seqK, blockK, retK, retA, resA, mapO]
    · simpa using next (fun _ => by omega)
    · simpa using next (fun e => absurd e e1)
  · have hat : ∀ o ∈ L, o.user = s.user → o.at_ < s.at_ := fun o hs => by
      obtain ⟨j, hj⟩ := List.getElem?_of_mem hs
      exact hall j o (by have := (List.getElem?_eq_some_iff.1 hj).1; omega) hj
    have hold := last_old hok hat
    obtain ⟨_, r1, r2, r3, r4, r5⟩ := rightS_iff.1 hr
    simp [evOps_cons, opG_none, opA_call, putO_some, putH_lt, opS, opV, Go.Mx.look, mapO, callA, ok17, hh]
    refine put_sp b L fp s H2 _ hd hz (fun e => by rw [hr] at e; simp at e) (fun _ H3 hd3 hs3 => ?_)
    have hput : putL L s = insG s false L := by unfold putL; rw [hold]; rfl
    have hh3 := hs3.2 0 _ hh hfp0
    have hok3 := hd3.1
    have hfk := fK_ins hok.1 s (keyS s)
    rw [if_pos rfl, ← hput] at hfk
    have hmem : s ∈ putL L s := by rw [hput]; exact (mem_ins s s L).2 (.inl rfl)
    have hL3 := putL_len L s
    rw [hold]
    generalize putL L s = M at hd3 hfk hmem hok3 hL3
    simp [ev_skip, ev_seq, ev_cond2, ev_block, ev_region2, evOps_nil, evOps_cons, opG_none, opG_some, opJ, opU_ff, isU_bool, opK_eq, opA_move, opA_assign, opA_pick, opA_bin, opA_un, opA_extract, opA_load, opA_fieldAddr, opA_call, putO_some, putH_lt, putC_lt, condB_false, binT_some, binA, avO_some, pickT, unT, extractT, loadT, fieldAddrT, io_eql, io_neq, opS, opV, Go.Mx.look, seqK, blockK, Fr.known, mapO, unA, callA, extractA, partA, loadA, loadS, plusS, orO_some, eqT_some, sz2, ag2, sz3, ag3, tk3, sz9, ag9, Try.underlying29, tk37, ok13, ok15, hh3]
    refine ⟨fun k3 => ?_, fun k3 => ⟨fun k2 => ?_, fun k2 => ?_⟩⟩
    · have hk : fK M (s.user, false) = some s := by simpa [keyS, k3] using hfk
      have hoff : ∀ t, presS t (fK M (s.user, false)) = offT := fun t => by rw [hk]; simp [presS, k3]
      refine presence_sp _ M s.user s.at_ H3 _ hd3.v (by omega) ?_
      rw [hoff]
      simp [evOps_cons, opG_none, opG_some, opJ, opU_ft, isU_bool, opK_eq, opA_move, opA_bin, opA_load, opA_fieldAddr, opA_call, putO_some, putH_lt, putC_lt, condB_true, binT_some, binA, avO_some, loadT, fieldAddrT, strOp, opS, opV, Go.Mx.look, Fr.known, mapO, callA, partA, loadA, loadS, plusS, orO_some, eqT_some, sz2, ag2, sz9, ag9, tk9, Try.underlying29, ok15, offT, hh3]
      refine presence_sp _ M s.user s.till H3 _ hd3.v (by omega) ?_
      rw [hoff]
      simp [evOps_cons, opG_none, opG_some, opJ, opU_ft, isU_bool, opK_eq, opA_move, opA_pick, opA_bin, opA_call, putO_some, putH_lt, putC_lt, condB_true, binT_some, binA, avO_some, pickT, strOp, opS, opV, Go.Mx.look, Fr.known, mapO, callA, orO_some, eqT_some, tk9, ok12, offT]
      refine awake_sp _ _ (fun H9 _ => ?_)
      simp [ev_ret, evOps_nil, evOps_cons, opG_none, opA_assign, opA_pick, putO_some, putH_lt, putC_lt, pickT, opS, opV, Go.Mx.look, seqK, blockK, retK, retA, resA, mapO]
    · have hk : fK M (s.user, false) = some s := by simpa [keyS, k2] using hfk
      have hon : presS s.at_ (fK M (s.user, false)) = onT := by
        rw [hk]
        unfold presS
        simp only
        rw [if_neg k3, if_neg (by omega)]
        by_cases e : s.at_ < s.till
        · rw [if_pos e]
        · rw [if_neg e, if_pos trivial]
      refine presence_sp _ M s.user s.at_ H3 _ hd3.v (by omega) ?_
      rw [hon]
      simp [evOps_cons, opG_none, opG_some, opJ, opU_ft, isU_bool, opK_eq, opA_move, opA_bin, opA_call, putO_some, putH_lt, putC_lt, condB_true, binT_some, binA, avO_some, strOp, opS, opV, Go.Mx.look, Fr.known, mapO, callA, orO_some, eqT_some, tk9, ok12, onT]
      refine awake_sp _ _ (fun H9 _ => ?_)
      simp [ev_ret, evOps_nil, evOps_cons, opG_none, opA_assign, opA_pick, putO_some, putH_lt, putC_lt, pickT, opS, opV, Go.Mx.look, seqK, blockK, retK, retA, resA, mapO]
    · have k1 : s.kind = 1 := by omega
      have htyp : s.user ∈ typL s.at_ M ↔ s.at_ < s.till := by
        unfold typL
        rw [List.mem_map]
        constructor
        · rintro ⟨o, ho, hu⟩
          obtain ⟨h1, h2⟩ := List.mem_filter.1 ho
          simp [typS] at h2
          have : o = s := hok3.1.uniq h1 hmem (by simp [keyS, hu, h2.1.1, k1])
          subst this; omega
        · intro h
          exact ⟨s, List.mem_filter.2 ⟨hmem, by simp [typS, k1, h]⟩, rfl⟩
      have la := typL_len s.at_ M
      refine typing_sp _ M s.at_ H3 _ hd3.v (by omega) ?_
      generalize typL s.at_ M = A at htyp la
      simp [ev_seq, ev_block, ev_region2, ev_loop, loopK, evOps_nil, evOps_cons, opG_none, opA_assign, putO_some, putH_lt, putC_lt, opS, opV, Go.Mx.look, seqK, mapO, headK, getV, getB, chkP, firstReg]
      refine LoopC.intro (fun n xs _ H4 => LaInv2 s A H3 n xs H4) A.length ⟨0, by omega, by omega, by simp [rowU], rfl⟩ ?_
      rintro n xs bs H4 ⟨k, hk2, rfl, rfl, rfl⟩
      simp [ev_skip, ev_seq, ev_cond2, ev_block, ev_exit, ev_region2, evOps_nil, evOps_cons, opG_none, opG_some, opJ, opU_ff, isU_bool, opK_eq, opA_move, opA_assign, opA_pick, opA_bin, opA_load, opA_indexAddr, opA_fieldAddr, opA_len, putO_some, putH_lt, putV_lt, condB_true, condB_false, binT_some, binA, avO_some, pickT, loadT, lenT_row, fieldAddrT, indexAddrT, io_add, io_lss, opS, opV, Go.Mx.look, seqK, blockK, Fr.known, mapO, partA, loadA, loadS, plusS, indexAddrA, headK, getV, getB, chkP, mkFr, slotsOf, ptrsOf, boxesOf, orO_some, eqT_some, ev_draw, drawK, evP_nil, evP_q, evP_s, opAt_some, chkK_eq, allQ_nil, sz2, ag2, tk3, sz9, Try.underlying29, Try.underlying31, rowU]
      refine ⟨fun hkl => ?_, fun hkg => ?_⟩
      · have hxk := List.getElem?_eq_getElem hkl
        generalize hss : A[k] = y at hxk
        have w5 : IntKind.i64.wrap ((k : Int) + 1) = (k : Int) + 1 := wr_i64 (by omega)
        have htk : A.take (k + 1) = A.take k ++ [y] := by rw [List.take_add_one, hxk]; rfl
        by_cases hin : s.user ∈ A.take k
        · have hin2 : s.user ∈ A.take (k + 1) := by rw [htk]; simp [hin]
          simp [hin, w5]
          exact ⟨A.length - (k + 1), by omega, k + 1, by omega, by omega, by simp [rowU, hin2], rfl⟩
        · by_cases he : y = s.user
          · have hin2 : s.user ∈ A.take (k + 1) := by rw [htk]; simp [he]
            simp [ev_region2, evOps_nil, evOps_cons, opG_none, opG_some, opJ, opU_ff, isU_bool, opK_eq, opA_move, opA_assign, opA_pick, opA_bin, opA_load, opA_fieldAddr, putO_some, putH_lt, condB_false, binT_some, binA, avO_some, pickT, loadT, fieldAddrT, io_add, strOp, opS, opV, Go.Mx.look, seqK, blockK, Fr.known, mapO, partA, loadA, loadS, plusS, headK, getV, getB, chkP, orO_some, eqT_some, evP_nil, evP_q, evP_s, opAt_some, chkK_eq, allQ_nil, tk3, sz9, ag9, tk9, Try.underlying29, hin, w5, hkl, hss, he, hh3]
            exact ⟨A.length - (k + 1), by omega, k + 1, by omega, by omega, by simp [rowU, hin2], rfl⟩
          · have hin2 : s.user ∉ A.take (k + 1) := by rw [htk]; simp [hin, Ne.symm he]
            simp [ev_region2, evOps_nil, evOps_cons, opG_none, opG_some, opJ, opU_ff, isU_bool, opK_eq, opA_move, opA_assign, opA_pick, opA_bin, opA_load, opA_fieldAddr, putO_some, putH_lt, condB_false, binT_some, binA, avO_some, pickT, loadT, fieldAddrT, io_add, strOp, opS, opV, Go.Mx.look, seqK, blockK, Fr.known, mapO, partA, loadA, loadS, plusS, headK, getV, getB, chkP, orO_some, eqT_some, evP_nil, evP_q, evP_s, opAt_some, chkK_eq, allQ_nil, tk3, sz9, ag9, tk9, Try.underlying29, hin, w5, hkl, hss, hh3]
            exact ⟨A.length - (k + 1), by omega, k + 1, by omega, by omega, by simp [rowU, hin2, he, tl_inj], rfl⟩
      · have hkk : k = A.length := by omega
        subst hkk
        by_cases e : s.at_ < s.till
        · simp [evOps_cons, opG_none, opG_some, opJ, opU_ft, isU_bool, opK_eq, opA_move, opA_bin, opA_load, opA_fieldAddr, opA_call, putO_some, putH_lt, condB_true, binT_some, binA, eqRef, avO_some, loadT, fieldAddrT, io_gtr, opS, opV, Go.Mx.look, Fr.known, mapO, callA, partA, loadA, loadS, plusS, orO_some, eqT_some, sz2, ag2, tk2, tk4, Try.underlying29, ok12, htyp.2 e, e, hh3]
          refine awake_sp _ _ (fun H9 _ => ?_)
          simp [ev_ret, evOps_nil, evOps_cons, opG_none, opA_assign, opA_pick, putO_some, putH_lt, putC_lt, pickT, opS, opV, Go.Mx.look, seqK, retK, retA, resA, mapO]
        · have hn : s.user ∉ A := fun h => e (htyp.1 h)
          simp [evOps_cons, opG_none, opG_some, opJ, opU_ft, isU_bool, opK_eq, opA_move, opA_bin, opA_load, opA_fieldAddr, opA_call, putO_some, putH_lt, condB_true, binT_some, binA, eqRef, avO_some, loadT, fieldAddrT, io_gtr, opS, opV, Go.Mx.look, Fr.known, mapO, callA, partA, loadA, loadS, plusS, orO_some, eqT_some, sz2, ag2, tk2, tk4, Try.underlying29, ok12, hn, e, hh3]
          refine awake_sp _ _ (fun H9 _ => ?_)
          simp [ev_ret, evOps_nil, evOps_cons, opG_none, opA_assign, opA_pick, putO_some, putH_lt, putC_lt, pickT, opS, opV, Go.Mx.look, seqK, retK, retA, resA, mapO]
end Go.Proofs.Ytohmgnbndhojpaa
