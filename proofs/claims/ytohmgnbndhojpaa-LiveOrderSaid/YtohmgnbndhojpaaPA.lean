import Derived.Test.YtohmgnbndhojpaaPI
import Derived.Test.YtohmgnbndhojpaaPl
import Derived.Test.YtohmgnbndhojpaaMxSi
import Derived.Test.YtohmgnbndhojpaaMxSh
import Derived.Test.YtohmgnbndhojpaaMxSc
import Derived.Lib.Small
import Derived.Lib.Walk
import Derived.Laws.Cover1
import Derived.Test.YtohmgnbndhojpaaLy
import Derived.Test.YtohmgnbndhojpaaMxSe
namespace Go.Proofs.Ytohmgnbndhojpaa
open Go.Mx
set_option linter.unusedVariables false
set_option linter.unusedSimpArgs false

theorem tl_inj (s t : ByteArray) : (s.toList = t.toList) = (s = t) := propext txl_inj
theorem tx_back (s : ByteArray) : tx s.data.toList = s := by unfold tx; cases s; rfl
theorem sz_list (s : ByteArray) : s.data.toList.length = s.size := rfl
def userOk (s : ByteArray) : Bool := (partsP 64 s.data.toList).2.2
def sgC (s : Sg) : List AV := [.v (.string s.user), .v (.int .i64 s.kind), .v (.int .i64 s.at_), .v (.int .i64 s.till)]
theorem sgC_len (s : Sg) : (sgC s).length = 4 := rfl
def keyV (k : ByteArray × Bool) : AV := .agg [.v (.string k.1), .v (.bool k.2)]
def rightS (s : Sg) : Bool := userOk s.user && decide (1 ≤ s.kind) && decide (s.kind ≤ 3) && decide (0 ≤ s.at_) && decide (s.at_ ≤ s.till) && decide (s.till ≤ 9007199254740991)

theorem userS_sp (s : ByteArray) (H : Hp) (Q : AV → Hp → Prop) (hl : s.size ≤ 90000) (h : ∀ x y : ByteArray, Q (.tup [.v (.string x), .v (.string y), .v (.bool (userOk s))]) H) : Sp Try.prog 46 [.v (.string s)] Q H := by
  have := user_sp s.data.toList H Q (by rw [sz_list]; omega) (h _ _)
  rwa [tx_back] at this
theorem isUser_sp (s : ByteArray) (H : Hp) (Q : AV → Hp → Prop) (hl : s.size ≤ 90000) (h : Q (.v (.bool (userOk s))) H) : Sp Try.prog 31 [.v (.string s)] Q H := by
  refine Sp.body [] ⟨[], [], []⟩ [] mo Try.func31 rfl (Nat.le_of_ble_eq_true rfl) (by kernel_rfl) ?_
  simp [ev_seq, ev_region2, evOps_nil, evOps_cons, opG_none, opA_move, opA_assign, opA_call, putO_some, putH_lt, opS, opV, Go.Mx.look, fr0, argSlots, seqK, mapO, callA, ok45]
  have h45 : ∀ Q2, Q2 (tupP (partsP 64 s.data.toList)) H → Sp Try.prog 45 [.v (.string s)] Q2 H := fun Q2 h2 => by
    have : Sp Try.prog 45 [.v (.string (tx s.data.toList))] Q2 H := by
      refine Sp.body [] ⟨[], [], []⟩ [] mo Try.func45 rfl (Nat.le_of_ble_eq_true rfl) (by kernel_rfl) ?_
      simp [ev_seq, ev_region2, evOps_nil, evOps_cons, opG_none, opA_move, opA_assign, opA_call, putO_some, putH_lt, opS, opV, Go.Mx.look, fr0, argSlots, seqK, mapO, callA, ok58]
      refine parts_sp 64 s.data.toList H _ (by rw [sz_list]; omega) ?_
      simp [ev_ret, evOps_nil, evOps_cons, opG_none, opA_assign, opA_extract, putO_some, putH_lt, putC_lt, extractT, opS, opV, Go.Mx.look, seqK, retK, retA, resA, mapO, extractA, tupP]
      exact h2
    rwa [tx_back] at this
  refine h45 _ ?_
  simp [ev_seq, ev_ret, ev_region2, evOps_nil, evOps_cons, opG_none, opA_move, opA_assign, opA_extract, putO_some, putH_lt, putC_lt, extractT, opS, opV, Go.Mx.look, seqK, retK, retA, resA, mapO, extractA, tupP]
  exact h
theorem right_sp (s : Sg) (H : Hp) (Q : AV → Hp → Prop) (hl : s.user.size ≤ 90000) (h : Q (.v (.bool (rightS s))) H) : Sp Try.prog 32 [.agg (sgC s)] Q H := by
  refine Sp.body [] ⟨[1], [], []⟩ [] mo Try.func32 rfl (Nat.le_of_ble_eq_true rfl) (by kernel_rfl) ?_
  simp [ev_seq, ev_region2, evOps_nil, evOps_cons, opG_none, opA_assign, opA_load, opA_fieldAddr, opA_call, opA_box, putO_some, putH_lt, loadT, fieldAddrT, boxT, opS, opV, Go.Mx.look, fr0, argSlots, seqK, Fr.newBox, dropBp, mapO, callA, cellsA_agg, okPart_agg, partA, loadS, plusS, newK, sz9, ag9, Try.underlying29, ok46, sgC]
  refine userS_sp s.user H _ hl (fun x y => ?_)
  have key : ∀ b : Bool, (b = true ↔ rightS s = true) → Q (.v (.bool b)) H := fun b hb => by rwa [Bool.eq_iff_iff.2 hb]
  unfold rightS at key
  cases hu : userOk s.user with
  | false => simp [ev_seq, ev_ret, ev_region2, evOps_nil, evOps_cons, opG_none, opG_some, opJ, opU_ft, isU_bool, opA_move, opA_assign, opA_pick, opA_extract, putO_some, putH_lt, putC_lt, putV_lt, condB_false, pickT, extractT, opS, opV, Go.Mx.look, seqK, Fr.known, retK, retA, resA, mapO, extractA]; exact key false (by simp [hu])
  | true =>
    simp [ev_seq, ev_ret, ev_region2, evOps_nil, evOps_cons, opG_none, opG_some, opJ, opU_ft, isU_bool, opK_eq, opA_move, opA_assign, opA_pick, opA_bin, opA_extract, opA_load, opA_fieldAddr, putO_some, putH_lt, putC_lt, putV_lt, condB_true, condB_false, binT_some, binA, avO_some, pickT, extractT, loadT, fieldAddrT, io_leq, opS, opV, Go.Mx.look, seqK, Fr.known, retK, retA, resA, mapO, extractA, partA, loadS, plusS, orO_some, eqT_some, sz2, ag2, tk2, sz3, ag3, tk3, Try.underlying29]
    (repeat' (first | apply And.intro | intro _)) <;> apply key <;> simp [hu] <;> omega
theorem rright_sp (s : Sg) (H : Hp) (Q : AV → Hp → Prop) (hl : s.user.size ≤ 90000) (h : Q (.v (.bool (rightS s))) H) : Sp Try.prog 16 [.agg (sgC s)] Q H := by
  refine Sp.body [] ⟨[1], [], []⟩ [] mo Try.func16 rfl (Nat.le_of_ble_eq_true rfl) (by kernel_rfl) ?_
  simp [ev_seq, ev_region2, evOps_nil, evOps_cons, opG_none, opA_assign, opA_load, opA_fieldAddr, opA_call, opA_box, putO_some, putH_lt, loadT, fieldAddrT, boxT, opS, opV, Go.Mx.look, fr0, argSlots, seqK, Fr.newBox, dropBp, mapO, callA, cellsA_agg, okPart_agg, partA, loadS, plusS, newK, sz9, ag9, Try.underlying29, ok31, sgC]
  refine isUser_sp s.user H _ hl ?_
  have key : ∀ b : Bool, (b = true ↔ rightS s = true) → Q (.v (.bool b)) H := fun b hb => by rwa [Bool.eq_iff_iff.2 hb]
  unfold rightS at key
  cases hu : userOk s.user with
  | false => simp [ev_ret, evOps_nil, evOps_cons, opG_none, opG_some, opJ, opU_ft, isU_bool, opA_move, opA_assign, opA_pick, putO_some, putH_lt, putC_lt, putV_lt, condB_false, pickT, opS, opV, Go.Mx.look, seqK, Fr.known, retK, retA, resA, mapO]; exact key false (by simp [hu])
  | true =>
    simp [ev_ret, evOps_nil, evOps_cons, opG_none, opG_some, opJ, opU_ft, isU_bool, opK_eq, opA_move, opA_assign, opA_pick, opA_bin, opA_load, opA_fieldAddr, putO_some, putH_lt, putC_lt, putV_lt, condB_true, condB_false, binT_some, binA, avO_some, pickT, loadT, fieldAddrT, io_leq, io_geq, opS, opV, Go.Mx.look, seqK, Fr.known, retK, retA, resA, mapO, partA, loadS, plusS, orO_some, eqT_some, sz2, ag2, tk2, sz3, ag3, tk3, Try.underlying29]
    (repeat' (first | apply And.intro | intro _)) <;> apply key <;> simp [hu] <;> omega
theorem key_sp (s : Sg) (H : Hp) (Q : AV → Hp → Prop) (h : Q (keyV (keyS s)) H) : Sp Try.prog 33 [.agg (sgC s)] Q H := by
  refine Sp.body [] ⟨[1, 2], [], []⟩ [] mo Try.func33 rfl (Nat.le_of_ble_eq_true rfl) (by kernel_rfl) ?_
  simp [ev_seq, ev_ret, ev_region2, evOps_nil, evOps_cons, opG_none, opA_bin, opA_load, opA_fieldAddr, opA_alloc, opA_box, opA_store, opA_build, putO_some, putH_lt, putU_none, binT_some, binA, avO_some, loadT, fieldAddrT, allocT, boxT, storeT, buildZ, partsZ, fillO, aggO, io_eql, opS, opV, Go.Mx.look, fr0, argSlots, seqK, Fr.newBox, dropBp, retK, retA, resA, mapO, cellsA_v, cellsA_agg, okPart_v, okPart_agg, Value.oneCell', partA, loadS, plusS, fillA, newK, storeS, orO_some, eqT_some, sz3, ag3, tk3, sz9, ag9, Try.underlying29, sz55, ag55, ze55, of55, sgC, splice]
  have e : (s.kind == 1) = decide (s.kind = 1) := rfl
  rw [e]
  simpa [keyV, keyS] using h
theorem rlike_sp (a b : Sg) (H : Hp) (Q : AV → Hp → Prop) (h : Q (.v (.bool (likeS a b))) H) : Sp Try.prog 36 [.agg (sgC a), .agg (sgC b)] Q H := by
  refine Sp.body [] ⟨[2, 3], [], []⟩ [] mo Try.func36 rfl (Nat.le_of_ble_eq_true rfl) (by kernel_rfl) ?_
  have key : ∀ x : Bool, (x = true ↔ likeS a b = true) → Q (.v (.bool x)) H := fun x hb => by rwa [Bool.eq_iff_iff.2 hb]
  unfold likeS keyS at key
  simp [ev_seq, ev_ret, ev_region2, evOps_nil, evOps_cons, opG_none, opG_some, opJ, opU_ft, isU_bool, opK_eq, opA_move, opA_assign, opA_pick, opA_bin, opA_load, opA_fieldAddr, opA_box, putO_some, putH_lt, putV_lt, condB_true, condB_false, binT_some, binA, eqRef, avO_some, pickT, loadT, fieldAddrT, boxT, io_eql, strOp, opS, opV, Go.Mx.look, fr0, argSlots, seqK, Fr.known, Fr.newBox, dropBp, retK, retA, resA, mapO, cellsA_agg, okPart_agg, partA, loadS, plusS, newK, orO_some, eqT_some, sz3, ag3, tk3, tk4, sz9, ag9, tk9, Try.underlying29, sgC, tl_inj]
  refine ⟨fun e => key _ ?_, fun e => key _ ?_⟩
  · have e1 : (a.kind == 1) = decide (a.kind = 1) := rfl
    have e2 : (b.kind == 1) = decide (b.kind = 1) := rfl
    rw [e1, e2]; simp [e]
  · simp [e]
theorem rcounts_sp (a b : Sg) (H : Hp) (Q : AV → Hp → Prop) (h : Q (.v (.bool (countsS a b))) H) : Sp Try.prog 37 [.agg (sgC a), .agg (sgC b)] Q H := by
  refine Sp.body [] ⟨[2, 3], [], []⟩ [] mo Try.func37 rfl (Nat.le_of_ble_eq_true rfl) (by kernel_rfl) ?_
  unfold countsS at h
  simp [ev_skip, ev_seq, ev_cond2, ev_ret, ev_region2, evOps_nil, evOps_cons, opG_none, opA_assign, opA_bin, opA_load, opA_fieldAddr, opA_box, putO_some, putH_lt, binT_some, binA, avO_some, loadT, fieldAddrT, boxT, io_neq, io_gtr, opS, opV, Go.Mx.look, fr0, argSlots, seqK, Fr.known, Fr.newBox, dropBp, retK, retA, resA, mapO, cellsA_agg, okPart_agg, partA, loadS, plusS, newK, orO_some, eqT_some, sz2, ag2, tk2, sz3, ag3, tk3, Try.underlying29, sgC]
  refine ⟨fun e => ?_, fun e => ⟨fun e2 => ?_, fun e2 => ?_⟩⟩
  · rw [if_neg e] at h; simpa using h
  · rw [if_pos e, if_neg e2] at h; simpa using h
  · rw [if_pos e, if_pos e2] at h; simpa using h
theorem rahead_sp (a b : Sg) (H : Hp) (Q : AV → Hp → Prop) (h : Q (.v (.bool (aheadS a b))) H) : Sp Try.prog 38 [.agg (sgC a), .agg (sgC b)] Q H := by
  refine Sp.body [] ⟨[2, 3], [], []⟩ [] mo Try.func38 rfl (Nat.le_of_ble_eq_true rfl) (by kernel_rfl) ?_
  unfold aheadS at h
  simp [ev_skip, ev_seq, ev_cond2, ev_ret, ev_region2, evOps_nil, evOps_cons, opG_none, opG_some, opJ, opU_ft, isU_bool, opK_eq, opA_move, opA_assign, opA_pick, opA_bin, opA_load, opA_fieldAddr, opA_box, putO_some, putH_lt, putV_lt, condB_true, condB_false, binT_some, binA, avO_some, pickT, loadT, fieldAddrT, boxT, io_eql, io_neq, strOp, opS, opV, Go.Mx.look, fr0, argSlots, seqK, Fr.known, Fr.newBox, dropBp, retK, retA, resA, mapO, cellsA_agg, okPart_agg, partA, loadS, plusS, newK, orO_some, eqT_some, sz3, ag3, tk3, sz9, ag9, tk9, Try.underlying29, sgC, tl_inj, Go.Proofs.bytesLess_eq]
  refine ⟨fun e => ?_, fun e => ?_⟩
  · rw [if_neg e] at h; exact h
  · rw [if_pos e] at h
    have e1 : (b.kind != 1) = !decide (b.kind = 1) := rfl
    rw [e1]
    refine ⟨fun e2 => ?_, fun e2 => ?_⟩ <;> simpa [e2] using h
/-- When a sign tells nothing any more. -/
def endS (s : Sg) : Int := if s.kind = 1 then s.till else if s.kind = 2 then s.till + 600 else s.at_
def SmallS (s : Sg) : Prop := s.till ≤ 9007199254740991 ∧ 0 ≤ s.at_ ∧ s.at_ ≤ s.till
theorem end_sp (s : Sg) (H : Hp) (Q : AV → Hp → Prop) (hs : SmallS s) (h : Q (.v (.int .i64 (endS s))) H) : Sp Try.prog 39 [.agg (sgC s)] Q H := by
  obtain ⟨s1, s2, s3⟩ := hs
  refine Sp.body [] ⟨[1], [], []⟩ [] mo Try.func39 rfl (Nat.le_of_ble_eq_true rfl) (by kernel_rfl) ?_
  unfold endS at h
  have w1 : IntKind.i64.wrap (s.till + 600) = s.till + 600 := wr_i64 (by omega)
  simp [ev_skip, ev_seq, ev_cond2, ev_block, ev_ret, ev_region2, evOps_nil, evOps_cons, opG_none, opA_assign, opA_bin, opA_load, opA_fieldAddr, opA_box, putO_some, putH_lt, binT_some, binA, avO_some, loadT, fieldAddrT, boxT, io_add, io_eql, opS, opV, Go.Mx.look, fr0, argSlots, seqK, blockK, Fr.known, Fr.newBox, dropBp, retK, retA, resA, mapO, cellsA_agg, okPart_agg, partA, loadS, plusS, newK, orO_some, eqT_some, sz2, ag2, tk2, sz3, ag3, tk3, Try.underlying29, sgC, w1]
  refine ⟨fun e => by simpa [e] using h, fun e => ⟨fun e2 => by simpa [e, e2] using h, fun e2 => by simpa [e, e2] using h⟩⟩
theorem rstale_sp (s : Sg) (now : Int) (H : Hp) (Q : AV → Hp → Prop) (hs : SmallS s) (h : Q (.v (.bool (decide (endS s ≤ now)))) H) : Sp Try.prog 40 [.agg (sgC s), .v (.int .i64 now)] Q H := by
  obtain ⟨s1, s2, s3⟩ := hs
  refine Sp.body [] ⟨[2], [], []⟩ [] mo Try.func40 rfl (Nat.le_of_ble_eq_true rfl) (by kernel_rfl) ?_
  unfold endS at h
  have w1 : IntKind.i64.wrap (s.till + 600) = s.till + 600 := wr_i64 (by omega)
  simp [ev_skip, ev_seq, ev_cond2, ev_block, ev_ret, ev_region2, evOps_nil, evOps_cons, opG_none, opA_move, opA_assign, opA_bin, opA_load, opA_fieldAddr, opA_box, putO_some, putH_lt, binT_some, binA, avO_some, loadT, fieldAddrT, boxT, io_add, io_eql, io_leq, opS, opV, Go.Mx.look, fr0, argSlots, seqK, blockK, Fr.known, Fr.newBox, dropBp, retK, retA, resA, mapO, cellsA_agg, okPart_agg, partA, loadS, plusS, newK, orO_some, eqT_some, sz2, ag2, tk2, sz3, ag3, tk3, Try.underlying29, sgC, w1]
  refine ⟨fun e => by simpa [e] using h, fun e => ⟨fun e2 => by simpa [e, e2] using h, fun e2 => by simpa [e, e2] using h⟩⟩
def FewS (l : List Sg) : Prop := l.length ≤ 60 ∧ ∀ s ∈ l, s.user.size ≤ 100
theorem few_sp (l : List Sg) (x0 : Bool) (H : Hp) (Q : AV → Hp → Prop) (h1 : FewS l → Q (.v (.bool true)) H) (h0 : ¬ FewS l → Q (.v (.bool false)) H) : Sp Try.prog 9 [.row x0 l.length (l.flatMap sgC)] Q H := by
  refine Sp.body [(4, ⟨[0, 3], [], []⟩)] ⟨[], [], []⟩ [] mo Try.func9 rfl (Nat.le_of_ble_eq_true rfl) (by kernel_rfl) ?_
  simp [ev_skip, ev_seq, ev_cond2, ev_block, ev_ret, ev_region2, ev_loop, loopK, evOps_nil, evOps_cons, opG_none, opA_move, opA_assign, opA_bin, opA_len, putO_some, putH_lt, binT_some, binA, avO_some, lenT_row, io_gtr, opS, opV, Go.Mx.look, fr0, argSlots, seqK, Fr.known, retK, retA, resA, mapO, headK, getV, getB, chkP, firstReg, orO_some, eqT_some, tk3, Try.underlying22]
  refine ⟨fun h => h0 (fun hf => by have := hf.1; omega), fun h => ?_⟩
  refine LoopC.intro (fun n xs _ H2 => ∃ i : Nat, i ≤ l.length ∧ n = l.length - i ∧ (∀ j x, j < i → l[j]? = some x → x.user.size ≤ 100) ∧ xs = [.row x0 l.length (l.flatMap sgC), .v (.int .i64 i)] ∧ H2 = H) l.length
    ⟨0, by omega, by omega, fun j x hj => by omega, by simp, rfl⟩ ?_
  rintro n xs bs H2 ⟨i, hi, rfl, hj, rfl, rfl⟩
  simp [ev_skip, ev_seq, ev_cond2, ev_block, ev_exit, ev_ret, ev_region2, evOps_nil, evOps_cons, opG_none, opA_move, opA_assign, opA_bin, opA_indexAddr, opA_len, putO_some, putH_lt, binT_some, binA, avO_some, lenT_row, indexAddrT, io_lss, opS, opV, Go.Mx.look, seqK, blockK, Fr.known, retK, retA, resA, mapO, indexAddrA, mkFr, slotsOf, ptrsOf, boxesOf, orO_some, eqT_some, tk3, Try.underlying22, sz29]
  refine ⟨fun hlt => ?_, fun hge => ?_⟩
  · have hx := List.getElem?_eq_getElem hlt
    generalize l[i] = x at hx
    have g0 := flat_get0 sgC_len hx (by omega)
    simp [sgC] at g0
    have w1 : IntKind.i64.wrap ((i : Int) + 1) = (i : Int) + 1 := wr_i64 (by omega)
    have hm := List.mem_of_getElem? hx
    simp [ev_skip, ev_seq, ev_cond2, ev_ret, ev_region2, evOps_nil, evOps_cons, opG_none, opA_move, opA_assign, opA_bin, opA_load, opA_fieldAddr, opA_len, putO_some, putH_lt, binT_some, binA, avO_some, loadT, lenT_str, fieldAddrT, io_add, io_gtr, opS, opV, Go.Mx.look, seqK, blockK, Fr.known, retK, retA, resA, mapO, partA, loadA, loadS, plusS, headK, getV, getB, chkP, orO_some, eqT_some, tk3, sz9, ag9, Try.underlying9, Try.underlying29, g0, hlt, w1]
    refine ⟨fun hb => h0 (fun hf => by have := hf.2 x hm; omega), fun hb => ?_⟩
    refine ⟨l.length - (i + 1), by omega, i + 1, by omega, rfl, fun j y hj2 hy => ?_, by simp⟩
    rcases Nat.lt_or_ge j i with h3 | h3
    · exact hj j y h3 hy
    · obtain rfl : j = i := by omega
      rw [hx] at hy; simp at hy; subst hy; omega
  · refine h1 ⟨by omega, fun x hx => ?_⟩
    obtain ⟨j, hj2⟩ := List.getElem?_of_mem hx
    exact hj j x (by have := (List.getElem?_eq_some_iff.1 hj2).1; omega) hj2
end Go.Proofs.Ytohmgnbndhojpaa

namespace Go.Proofs.Ytohmgnbndhojpaa
open Go.Mx
set_option linter.unusedVariables false
set_option linter.unusedSimpArgs false

def cmpZ (a b : Int) : Int := if a < b then -1 else if a > b then 1 else 0
theorem nan3_sp (a : Int) (H : Hp) (Q : AV → Hp → Prop) (h : Q (.v (.bool false)) H) : Sp Try.prog 44 [.v (.int .i64 a)] Q H := by
  refine Sp.body [] ⟨[], [], []⟩ [] mo Try.func44 rfl (Nat.le_of_ble_eq_true rfl) (by kernel_rfl) ?_
  simp [ev_seq, ev_ret, ev_region2, evOps_nil, evOps_cons, opG_none, opA_move, opA_assign, opA_bin, putO_some, putH_lt, binT_some, binA, avO_some, io_neq, opS, opV, Go.Mx.look, fr0, argSlots, seqK, retK, retA, resA, mapO, orO_some, eqT_some, tk3]
  exact h
theorem nan2_sp (a : Int) (H : Hp) (Q : AV → Hp → Prop) (h : Q (.v (.bool false)) H) : Sp Try.prog 47 [.v (.int .i64 a)] Q H := by
  refine Sp.body [] ⟨[], [], []⟩ [] mo Try.func47 rfl (Nat.le_of_ble_eq_true rfl) (by kernel_rfl) ?_
  simp [ev_seq, ev_ret, ev_region2, evOps_nil, evOps_cons, opG_none, opA_move, opA_assign, opA_bin, putO_some, putH_lt, binT_some, binA, avO_some, io_neq, opS, opV, Go.Mx.look, fr0, argSlots, seqK, retK, retA, resA, mapO, orO_some, eqT_some, tk2]
  exact h
theorem cmp3_sp (a b : Int) (H : Hp) (Q : AV → Hp → Prop) (h : Q (.v (.int .i64 (cmpZ a b))) H) : Sp Try.prog 30 [.v (.int .i64 a), .v (.int .i64 b)] Q H := by
  refine Sp.body [] ⟨[], [], []⟩ [] mo Try.func30 rfl (Nat.le_of_ble_eq_true rfl) (by kernel_rfl) ?_
  unfold cmpZ at h
  simp [ev_seq, ev_region2, evOps_nil, evOps_cons, opG_none, opA_move, opA_assign, opA_call, putO_some, putH_lt, opS, opV, Go.Mx.look, fr0, argSlots, seqK, mapO, callA, ok44]
  refine nan3_sp a H _ ?_
  simp [ev_seq, ev_region2, evOps_nil, evOps_cons, opG_none, opA_move, opA_assign, opA_call, putO_some, putH_lt, putC_lt, opS, opV, Go.Mx.look, seqK, mapO, callA, ok44]
  refine nan3_sp b H _ ?_
  simp [ev_skip, ev_seq, ev_cond2, ev_ret, ev_region2, evOps_nil, evOps_cons, opG_none, opA_move, opA_assign, opA_bin, putO_some, putH_lt, putC_lt, condB_false, binT_some, binA, avO_some, io_lss, io_gtr, opS, opV, Go.Mx.look, seqK, Fr.known, retK, retA, resA, mapO, orO_some, eqT_some, tk3]
  refine ⟨fun e => by simpa [e] using h, fun e => ⟨fun e2 => by simpa [e2, show ¬ a < b by omega] using h, fun e2 => by simpa [show ¬ a < b by omega, show ¬ b < a by omega] using h⟩⟩
theorem cmp2_sp (a b : Int) (H : Hp) (Q : AV → Hp → Prop) (h : Q (.v (.int .i64 (cmpZ a b))) H) : Sp Try.prog 35 [.v (.int .i64 a), .v (.int .i64 b)] Q H := by
  refine Sp.body [] ⟨[], [], []⟩ [] mo Try.func35 rfl (Nat.le_of_ble_eq_true rfl) (by kernel_rfl) ?_
  unfold cmpZ at h
  simp [ev_seq, ev_region2, evOps_nil, evOps_cons, opG_none, opA_move, opA_assign, opA_call, putO_some, putH_lt, opS, opV, Go.Mx.look, fr0, argSlots, seqK, mapO, callA, ok47]
  refine nan2_sp a H _ ?_
  simp [ev_seq, ev_region2, evOps_nil, evOps_cons, opG_none, opA_move, opA_assign, opA_call, putO_some, putH_lt, putC_lt, opS, opV, Go.Mx.look, seqK, mapO, callA, ok47]
  refine nan2_sp b H _ ?_
  simp [ev_skip, ev_seq, ev_cond2, ev_ret, ev_region2, evOps_nil, evOps_cons, opG_none, opA_move, opA_assign, opA_bin, putO_some, putH_lt, putC_lt, condB_false, binT_some, binA, avO_some, io_lss, io_gtr, opS, opV, Go.Mx.look, seqK, Fr.known, retK, retA, resA, mapO, orO_some, eqT_some, tk2]
  refine ⟨fun e => by simpa [e] using h, fun e => ⟨fun e2 => by simpa [e2, show ¬ a < b by omega] using h, fun e2 => by simpa [show ¬ a < b by omega, show ¬ b < a by omega] using h⟩⟩
def orZ (a b c : Int) : Int := if a ≠ 0 then a else if b ≠ 0 then b else c
theorem or_sp (a b c : Int) (H : Hp) (Q : AV → Hp → Prop) (h : Q (.v (.int .i64 (orZ a b c))) H) : Sp Try.prog 34 [.row true 3 [.v (.int .i64 a), .v (.int .i64 b), .v (.int .i64 c)]] Q H := by
  refine Sp.body [(3, ⟨[3, 6, 7, 8], [], []⟩)] ⟨[], [], []⟩ [] mo Try.func34 rfl (Nat.le_of_ble_eq_true rfl) (by kernel_rfl) ?_
  unfold orZ at h
  simp [ev_seq, ev_block, ev_region2, ev_loop, loopK, evOps_nil, evOps_cons, opG_none, opA_move, opA_assign, opA_len, putO_some, putH_lt, lenT_row, opS, opV, Go.Mx.look, fr0, argSlots, seqK, mapO, headK, getV, getB, chkP, firstReg, Try.underlying73]
  refine LoopC.intro (fun n xs _ H2 => ∃ i : Nat, i ≤ 3 ∧ n = 3 - i ∧ (0 < i → a = 0) ∧ (1 < i → b = 0) ∧ (2 < i → c = 0) ∧ xs = [.v (.int .i64 0), .row true 3 [.v (.int .i64 a), .v (.int .i64 b), .v (.int .i64 c)], .v (.int .i64 3), .v (.int .i64 i)] ∧ H2 = H) 3
    ⟨0, by omega, by omega, by omega, by omega, by omega, by simp, rfl⟩ ?_
  rintro n xs bs H2 ⟨i, hi, rfl, ha, hb, hc, rfl, rfl⟩
  have hcase : i = 0 ∨ i = 1 ∨ i = 2 ∨ i = 3 := by omega
  have w1 : IntKind.i64.wrap 1 = 1 := wr_i64 (by omega)
  have w2 : IntKind.i64.wrap 2 = 2 := wr_i64 (by omega)
  have w3 : IntKind.i64.wrap 3 = 3 := wr_i64 (by omega)
  have step : ∀ i : Nat, i < 3 → (0 < i + 1 → a = 0) → (1 < i + 1 → b = 0) → (2 < i + 1 → c = 0) → ∃ m, m < 3 - i ∧ ∃ j : Nat, j ≤ 3 ∧ m = 3 - j ∧ (0 < j → a = 0) ∧ (1 < j → b = 0) ∧ (2 < j → c = 0) ∧
      [AV.v (.int .i64 0), .row true 3 [.v (.int .i64 a), .v (.int .i64 b), .v (.int .i64 c)], .v (.int .i64 3), .v (.int .i64 ((i + 1 : Nat) : Int))] = [.v (.int .i64 0), .row true 3 [.v (.int .i64 a), .v (.int .i64 b), .v (.int .i64 c)], .v (.int .i64 3), .v (.int .i64 j)] ∧ H2 = H2 :=
    fun i hi h1 h2 h3 => ⟨3 - (i + 1), by omega, i + 1, by omega, rfl, h1, h2, h3, rfl, rfl⟩
  rcases hcase with rfl | rfl | rfl | rfl
  · simp [ev_skip, ev_seq, ev_cond2, ev_block, ev_ret, ev_region2, evOps_nil, evOps_cons, opG_none, opA_move, opA_assign, opA_bin, opA_load, opA_indexAddr, putO_some, putH_lt, condB_true, binT_some, binA, avO_some, loadT, indexAddrT, io_add, io_neq, io_lss, opS, opV, Go.Mx.look, seqK, blockK, Fr.known, retK, retA, resA, mapO, partA, loadA, loadS, indexAddrA, headK, getV, getB, chkP, mkFr, slotsOf, ptrsOf, boxesOf, orO_some, eqT_some, sz3, ag3, tk3, Try.underlying73, w1]
    refine ⟨fun e => by simpa [e] using h, fun e => ?_⟩
    simpa using step 0 (by omega) (fun _ => e) (by omega) (by omega)
  · have e0 := ha (by omega)
    subst e0
    simp [ev_skip, ev_seq, ev_cond2, ev_block, ev_ret, ev_region2, evOps_nil, evOps_cons, opG_none, opA_move, opA_assign, opA_bin, opA_load, opA_indexAddr, putO_some, putH_lt, condB_true, binT_some, binA, avO_some, loadT, indexAddrT, io_add, io_neq, io_lss, opS, opV, Go.Mx.look, seqK, blockK, Fr.known, retK, retA, resA, mapO, partA, loadA, loadS, indexAddrA, headK, getV, getB, chkP, mkFr, slotsOf, ptrsOf, boxesOf, orO_some, eqT_some, sz3, ag3, tk3, Try.underlying73, w2]
    refine ⟨fun e => by simpa [e] using h, fun e => ?_⟩
    simpa using step 1 (by omega) (fun _ => rfl) (fun _ => e) (by omega)
  · have e0 := ha (by omega)
    have e1 := hb (by omega)
    subst e0 e1
    simp [ev_skip, ev_seq, ev_cond2, ev_block, ev_ret, ev_region2, evOps_nil, evOps_cons, opG_none, opA_move, opA_assign, opA_bin, opA_load, opA_indexAddr, putO_some, putH_lt, condB_true, binT_some, binA, avO_some, loadT, indexAddrT, io_add, io_neq, io_lss, opS, opV, Go.Mx.look, seqK, blockK, Fr.known, retK, retA, resA, mapO, partA, loadA, loadS, indexAddrA, headK, getV, getB, chkP, mkFr, slotsOf, ptrsOf, boxesOf, orO_some, eqT_some, sz3, ag3, tk3, Try.underlying73, w3]
    refine ⟨fun e => by simpa [e] using h, fun e => ?_⟩
    simpa using step 2 (by omega) (fun _ => rfl) (fun _ => rfl) (fun _ => e)
  · have e0 := ha (by omega)
    have e1 := hb (by omega)
    have e2 := hc (by omega)
    subst e0 e1 e2
    simp [ev_seq, ev_cond2, ev_exit, ev_ret, ev_region2, evOps_nil, evOps_cons, opG_none, opA_move, opA_assign, opA_bin, putO_some, putH_lt, condB_false, binT_some, binA, avO_some, io_lss, opS, opV, Go.Mx.look, seqK, blockK, Fr.known, retK, retA, resA, mapO, mkFr, slotsOf, ptrsOf, boxesOf, orO_some, eqT_some, tk3]
    simpa using h
theorem or_counts (s o : Sg) : orZ (cmpZ s.at_ o.at_) (cmpZ s.kind o.kind) (cmpZ s.till o.till) ≤ 0 ↔ countsS s o = false := by
  unfold orZ cmpZ countsS
  by_cases e1 : s.at_ = o.at_ <;> by_cases e2 : s.kind = o.kind <;> simp [e1, e2] <;> (repeat' split) <;> simp_all <;> omega

/-! ### The order in which a board's signs are told -/
open Go.RowKit Go.Lib Go.Sort
def encS (s : Sg) : List Value := [.string s.user, .int .i64 s.kind, .int .i64 s.at_, .int .i64 s.till]
theorem encS_cells (s : Sg) : cellsOfK encS s = sgC s := rfl
def cmpStr (a b : ByteArray) : Int := if txl a < txl b then -1 else if txl b < txl a then 1 else 0
def cmpS (x y : Sg) : Int := if x.user = y.user then cmpZ x.kind y.kind else cmpStr x.user y.user
set_option maxHeartbeats 1000000 in
theorem nanStr (x : ByteArray) (w : World) : Calls Try.prog 43 #[.string x] w fun e w' => e = .returned (.bool false) ∧ w' = w := by
  go_enter Try.func43, Try.ntmps43
  go_wp2
  go_ret
  exact ⟨by simp, rfl⟩
theorem cs1 {x y : ByteArray} (h : Op.bytesLess x.toList y.toList = true) : cmpStr x y = -1 := by
  rw [Go.Proofs.bytesLess_eq] at h
  unfold cmpStr txl; rw [if_pos (by simpa using h)]
theorem cs2 {x y : ByteArray} (h : Op.bytesLess x.toList y.toList = false) (h2 : (!x.toList == y.toList) = true) : cmpStr x y = 1 := by
  rw [Go.Proofs.bytesLess_eq] at h
  have h1 : ¬ txl x < txl y := by simpa [txl] using h
  have h3 : x ≠ y := fun e => by subst e; simp at h2
  unfold cmpStr; rw [if_neg h1, if_pos ((lt_tri h3).resolve_left h1)]
theorem cs3 {x y : ByteArray} (h : Op.bytesLess x.toList y.toList = false) (h2 : (!x.toList == y.toList) = false) : cmpStr x y = 0 := by
  have h3 : x = y := by simpa [tl_inj] using h2
  subst h3
  unfold cmpStr; simp [List.lt_irrefl]
theorem nanInt (x : Int) (w : World) : Calls Try.prog 44 #[.int .i64 x] w fun e w' => e = .returned (.bool false) ∧ w' = w := by
  go_enter Try.func44, Try.ntmps44
  go_wp2
  go_ret
  exact ⟨by simp, rfl⟩
set_option maxHeartbeats 1000000 in
theorem cmpStr29 (x y : ByteArray) (w : World) : Calls Try.prog 29 #[.string x, .string y] w fun e w' => e = .returned (.int .i64 (cmpStr x y)) ∧ w' = w := by
  go_enter Try.func29, Try.ntmps29
  go_wp2_with (go_at_call 43; refine (nanStr _ _).mono ?_; rintro e w' ⟨rfl, hw⟩; rw [hw])
  all_goals (go_ret; refine ⟨?_, rfl⟩)
  all_goals first | (rw [cs1 (by assumption)]; rfl) | (rw [cs2 (by assumption) (by assumption)]; rfl) | (rw [cs3 (by assumption) (by assumption)]; rfl)
set_option maxHeartbeats 1000000 in
theorem cmpInt30 (x y : Int) (w : World) : Calls Try.prog 30 #[.int .i64 x, .int .i64 y] w fun e w' => e = .returned (.int .i64 (cmpZ x y)) ∧ w' = w := by
  go_enter Try.func30, Try.ntmps30
  go_wp2_with (go_at_call 44; refine (nanInt _ _).mono ?_; rintro e w' ⟨rfl, hw⟩; rw [hw])
  all_goals (go_ret; refine ⟨?_, rfl⟩; unfold cmpZ; (repeat' split) <;> first | rfl | (exfalso; omega))
set_option maxHeartbeats 1000000 in
theorem closure28 (x y : Sg) (W : World) : Calls Try.prog 28 #[.agg (encS x).toArray, .agg (encS y).toArray] W fun e w' => e = .returned (.int .i64 (cmpS x y)) ∧ ∃ q os, w' = grow (W.drewN q) os := by
  show Calls Try.prog 28 #[.agg #[.string x.user, .int .i64 x.kind, .int .i64 x.at_, .int .i64 x.till], .agg #[.string y.user, .int .i64 y.kind, .int .i64 y.at_, .int .i64 y.till]] W _
  have hs := fun W' => cmpStr29 x.user y.user W'
  have hi := fun W' => cmpInt30 x.kind y.kind W'
  unfold cmpS
  generalize cmpStr x.user y.user = r1 at hs ⊢
  generalize cmpZ x.kind y.kind = r2 at hi ⊢
  go_enter Try.func28, Try.ntmps28
  go_wp2_with (first | (go_at_call 29; refine (hs _).mono ?_; rintro e w' ⟨rfl, rfl⟩) | (go_at_call 30; refine (hi _).mono ?_; rintro e w' ⟨rfl, rfl⟩))
  all_goals go_ret
  all_goals first | (exfalso; simp_all [tl_inj]; done) | exact ⟨rfl, 0, _, by rw [alloc_eq_grow, alloc_eq_grow, grow_grow]; rfl⟩
theorem cmpIs28 : CmpIs Try.prog 28 encS cmpS := fun x y W => closure28 x y W
theorem cmpS_lt {x y : Sg} : Go.Proofs.ltOf cmpS x y = true ↔ (x.user = y.user ∧ x.kind < y.kind) ∨ (x.user ≠ y.user ∧ txl x.user < txl y.user) := by
  unfold Go.Proofs.ltOf cmpS
  by_cases e : x.user = y.user
  · rw [if_pos e]
    unfold cmpZ
    by_cases h : x.kind < y.kind
    · simp [e, h]
    · simp [e, h]; split <;> omega
  · rw [if_neg e]
    unfold cmpStr
    by_cases h : txl x.user < txl y.user
    · simp [e, h]
    · simp [e, h]; split <;> omega
end Go.Proofs.Ytohmgnbndhojpaa

namespace Go.Proofs.Ytohmgnbndhojpaa
open Go.Mx
set_option linter.unusedVariables false
set_option linter.unusedSimpArgs false

/-! ### The order -/
theorem lt_nlt {x y : Sg} : Go.Proofs.ltOf cmpS x y = false ↔ (y.user = x.user ∧ y.kind ≤ x.kind) ∨ (y.user ≠ x.user ∧ txl y.user < txl x.user) := by
  rw [← Bool.not_eq_true, cmpS_lt]
  by_cases e : x.user = y.user
  · simp [e]
  · have := lt_tri e
    simp [e, Ne.symm e]
    constructor
    · intro h; exact this.resolve_left (List.not_lt.2 h)
    · intro h; exact List.not_lt.1 (fun h2 => List.lt_irrefl _ (List.lt_trans h h2))
theorem swoS : Go.Sort.SWO (Go.Proofs.ltOf cmpS) where
  irrefl x := by rw [lt_nlt]; exact .inl ⟨rfl, Int.le_refl _⟩
  trans x y z h1 h2 := by
    rw [cmpS_lt] at *
    rcases h1 with ⟨a, b⟩ | ⟨a, b⟩ <;> rcases h2 with ⟨c, d⟩ | ⟨c, d⟩
    · exact .inl ⟨a.trans c, by omega⟩
    · exact .inr ⟨by rw [a]; exact c, by rw [a]; exact d⟩
    · exact .inr ⟨by rw [← c]; exact a, by rw [← c]; exact b⟩
    · have h3 := List.lt_trans b d
      exact .inr ⟨fun e => by rw [e] at h3; exact List.lt_irrefl _ h3, h3⟩
  ntrans x y z h1 h2 := by
    rw [lt_nlt] at *
    rcases h1 with ⟨a, b⟩ | ⟨a, b⟩ <;> rcases h2 with ⟨c, d⟩ | ⟨c, d⟩
    · exact .inl ⟨c.trans a, by omega⟩
    · exact .inr ⟨by rw [← a]; exact c, by rw [← a]; exact d⟩
    · exact .inr ⟨by rw [c]; exact a, by rw [c]; exact b⟩
    · have h3 := List.lt_trans d b
      exact .inr ⟨fun e => by rw [e] at h3; exact List.lt_irrefl _ h3, h3⟩
/-- A board's row. -/
def OkL (L : List Sg) : Prop := Srt L ∧ ∀ s ∈ L, rightS s = true ∧ s.user.size ≤ 100
theorem rightS_iff {s : Sg} : rightS s = true ↔ userOk s.user = true ∧ 1 ≤ s.kind ∧ s.kind ≤ 3 ∧ 0 ≤ s.at_ ∧ s.at_ ≤ s.till ∧ s.till ≤ 9007199254740991 := by
  simp [rightS, and_assoc]
theorem Srt.nodup {L : List Sg} (h : Srt L) : L.Nodup := List.nodup_iff_pairwise_ne.2 (h.imp (fun {a b} hab e => by subst e; rw [ahead_irrefl] at hab; simp at hab))
theorem sort_eq {L l' : List Sg} (hL : OkL L) (hp : l'.Perm L) (hs : l'.Pairwise (fun x y => Go.Proofs.ltOf cmpS y x = false)) : l' = L := by
  have hn : l'.Nodup := hp.nodup_iff.2 hL.1.nodup
  refine Srt.eq ?_ hL.1 (fun o => hp.mem_iff)
  refine ((List.nodup_iff_pairwise_ne.1 hn).and hs).imp_of_mem (fun {a b} ha hb hab => ?_)
  obtain ⟨hne, hlt⟩ := hab
  have ha' := hp.mem_iff.1 ha
  have hb' := hp.mem_iff.1 hb
  have hl : likeS a b = false := like_iff'.2 (fun e => hne (hL.1.uniq ha' hb' e))
  rcases ahead_total hl with h | h
  · exact h
  · exfalso
    have k1 := (rightS_iff.1 (hL.2 a ha').1).2.1
    have k2 := (rightS_iff.1 (hL.2 b hb').1).2.1
    have : Go.Proofs.ltOf cmpS b a = true := by
      rw [cmpS_lt]
      unfold aheadS at h
      by_cases e : b.user = a.user
      · rw [if_pos e] at h
        simp at h
        exact .inl ⟨e, by omega⟩
      · rw [if_neg e] at h
        exact .inr ⟨e, by simpa using h⟩
    rw [this] at hlt; simp at hlt

/-! ### Boards -/
theorem laid : laidOutB Try.prog = true := by kernel_rfl
theorem agg55 : AggKey Try.prog 55 := AggKey.of laid (Nat.le_of_ble_eq_true (by kernel_rfl)) (Nat.le_of_ble_eq_true (by kernel_rfl)) (by kernel_rfl) (by kernel_rfl) (by kernel_rfl)
theorem good55 (k : ByteArray × Bool) (hs : k.1.size ≤ 140737488351232) : KGood Try.prog 55 (keyV k) := by
  have h := KGood.struct agg55 Try.underlying55 (by kernel_rfl) (by kernel_rfl) (by kernel_rfl) (us := [.string k.1, .bool k.2]) (by kernel_rfl) (fun i f hf => by
    match i, hf with
    | 0, hf => simp at hf; subst hf; exact ⟨rfl, by kernel_rfl, _, rfl, PlainAt.str Try.underlying9 (by simp only [maxLen]; omega)⟩
    | 1, hf => simp at hf; subst hf; exact ⟨rfl, by kernel_rfl, _, rfl, PlainAt.bool Try.underlying4⟩
    | i + 2, hf => simp at hf)
  exact h
def zeroS : Sg := ⟨⟨#[]⟩, 0, 0, 0⟩
theorem zero29 : zeroA Try.prog 29 = some (.agg (sgC zeroS)) := by kernel_rfl
def fA (L : List Sg) : AV → Option AV
  | .agg [.v (.string u), .v (.bool t)] => (fK L (u, t)).map (fun s => .agg (sgC s))
  | _ => none
theorem fA_key (L : List Sg) (k : ByteArray × Bool) : fA L (keyV k) = (fK L k).map (fun s => .agg (sgC s)) := rfl
theorem fA_some {L : List Sg} (h : Srt L) {k v : AV} (hf : fA L k = some v) : ∃ s ∈ L, k = keyV (keyS s) ∧ v = .agg (sgC s) := by
  unfold fA at hf
  split at hf
  · rename_i u t
    rw [Option.map_eq_some_iff] at hf
    obtain ⟨s, h1, h2⟩ := hf
    obtain ⟨h3, h4⟩ := (fK_iff h).1 h1
    exact ⟨s, h3, by rw [h4]; rfl, h2.symm⟩
  · simp at hf
theorem keyV_inj {k l : ByteArray × Bool} (h : keyV k = keyV l) : k = l := by
  simp [keyV] at h
  exact Prod.ext h.1 h.2
open Classical in
theorem fA_ext {L M : List Sg} {k : ByteArray × Bool} {o : Option Sg} (h : ∀ k', fK M k' = if k' = k then o else fK L k') : (fun x => if x = keyV k then o.map (fun s => AV.agg (sgC s)) else fA L x) = fA M := by
  funext x
  by_cases hx : x = keyV k
  · subst hx
    rw [if_pos rfl, fA_key, h, if_pos rfl]
  · rw [if_neg hx]
    unfold fA
    split
    · rename_i u t
      have : ¬ ((u, t) = k) := fun e => hx (by rw [← e]; rfl)
      rw [h, if_neg this]
    · rfl
def BdAt (H : Hp) (b : Nat) (L : List Sg) (fp : List Nat) : Prop := OkL L ∧ ∃ m, H[b]? = some (.cells 0 [.mp m]) ∧ MapAt Try.prog 55 H m (fA L) ∧ fp = [b, m]
theorem BdAt.same {H H' : Hp} {b : Nat} {L : List Sg} {fp fp' : List Nat} (h : BdAt H b L fp) (hs : Same fp' H H') (hd : ∀ j ∈ fp, j ∉ fp') : BdAt H' b L fp := by
  obtain ⟨h0, m, h1, h2, rfl⟩ := h
  exact ⟨h0, m, hs.2 _ _ h1 (hd _ (by simp)), h2.same hs (hd _ (by simp)), rfl⟩
theorem BdAt.lt {H : Hp} {b : Nat} {L : List Sg} {fp : List Nat} (h : BdAt H b L fp) : ∀ j ∈ fp, j < H.length := by
  obtain ⟨h0, m, h1, h2, rfl⟩ := h
  simpa using ⟨Hp.lt h1, h2.lt⟩
theorem BdAt.ne {H : Hp} {b m : Nat} (h1 : H[b]? = some (.cells 0 [.mp m])) {f : AV → Option AV} (h2 : MapAt Try.prog 55 H m f) : b ≠ m := by
  rintro rfl
  obtain ⟨es, c, q1, _⟩ := h2
  rw [h1] at q1; simp at q1
theorem look_bd {H : Hp} {m : Nat} {L : List Sg} (hm : MapAt Try.prog 55 H m (fA L)) (k : ByteArray × Bool) (hk : k.1.size ≤ 140737488351232) : lookV Try.prog H 49 (.mp m) (keyV k) true = some (.tup [.agg (sgC ((fK L k).getD zeroS)), .v (.bool (fK L k).isSome)]) := by
  rw [hm.look Try.underlying49 (good55 k hk), fA_key]
  cases fK L k with
  | some s => rfl
  | none =>
    show Go.Mx.valOf Try.prog 29 true none = _
    simp only [Go.Mx.valOf, zero29]
    rfl
theorem updA_mono2 {P : Program} {H : Hp} {t : TypeId} {m key val : AV} {k k' : Hp → Prop} (h : updA P H t m key val k) (hk : ∀ H', k H' → k' H') : updA P H t m key val k' := updA_mono hk h
theorem new_sp (H : Hp) (Q : AV → Hp → Prop) (h : ∀ H', BdAt H' (H.length + 1) [] [H.length + 1, H.length] → Same [] H H' → H'.length = H.length + 2 → Q (.ptr (H.length + 1) 0 0) H') : Sp Try.prog 20 [] Q H := by
  refine Sp.body [] ⟨[], [], []⟩ [] mo Try.func20 rfl (Nat.le_of_ble_eq_true rfl) (by kernel_rfl) ?_
  simp [ev_seq, ev_ret, ev_region2, evOps_nil, evOps_cons, opG_none, opA_assign, opA_box, opA_makeMap, opA_build, putO_some, putH_lt, boxT, makeMapT, buildZ, partsZ, fillO, aggO, opS, opV, Go.Mx.look, fr0, argSlots, seqK, retK, retA, resA, mapO, cellsA_agg, cellsA_mp, okPart_agg, okPart_mp, fillA, newK, Try.underlying49, ze51, of51]
  refine h _ ⟨⟨List.Pairwise.nil, by simp⟩, H.length, ?_, ?_, rfl⟩ (Same.app _ _ _) (by simp)
  · rw [List.getElem?_append_right (by omega)]; simp
  · have e : fA [] = fun _ => none := by
      funext x
      unfold fA
      split <;> rfl
    rw [e]
    exact ⟨[], 0, by rw [List.getElem?_append_right (by omega)]; simp, MapOk.nil _ _ _, fun k => rfl⟩
set_option maxRecDepth 20000 in
set_option maxHeartbeats 1000000 in
theorem put_sp (b : Nat) (L : List Sg) (fp : List Nat) (s : Sg) (H : Hp) (Q : AV → Hp → Prop) (hd : BdAt H b L fp) (hz : s.user.size ≤ 100)
    (h1 : rightS s = false → Q (.tup [.v (.bool false), .v (.int .i64 1)]) H)
    (h0 : rightS s = true → ∀ H', BdAt H' b (putL L s) fp → Same fp H H' → Q (.tup [.v (.bool (!oldS L s)), .v (.int .i64 0)]) H') : Sp Try.prog 17 [.ptr b 0 0, .agg (sgC s)] Q H := by
  refine Sp.body [] ⟨[3, 6], [], pl17⟩ tb17 mo Try.func17 rfl (Nat.le_of_ble_eq_true rfl) (by kernel_rfl) ?_
  obtain ⟨hok, m, g1, g2, rfl⟩ := id hd
  simp [ev_seq, ev_region2, evOps_nil, evOps_cons, opG_none, opG_some, opJ, opU_ff, isU_bool, opK_eq, opA_move, opA_assign, opA_pick, opA_bin, opA_load, opA_fieldAddr, opA_nilCheck, opA_call, opA_box, putO_some, putH_lt, condB_false, binT_some, binA, eqRef, avO_some, pickT, loadT, nilCheckT, fieldAddrT, boxT, opS, opV, Go.Mx.look, fr0, argSlots, seqK, Fr.known, Fr.newBox, dropBp, mapO, callA, cellsA_agg, okPart_agg, partA, loadA, loadS, plusS, nilCheckS, newK, orO_some, eqT_some, tk25, sz29, ag29, sz49, ag49, tk49, Try.underlying51, ok32, pl17, sgC, g1]
  refine right_sp s H _ (by omega) ?_
  cases hr : rightS s with
  | false => simp [ev_seq, ev_cond2, ev_ret, ev_region2, evOps_nil, evOps_cons, opG_none, opG_some, opJ, opU_ff, isU_bool, opK_eq, opA_assign, opA_pick, opA_un, putO_some, putH_lt, putC_lt, condB_true, condB_false, pickT, unT, opS, opV, Go.Mx.look, seqK, Fr.known, retK, retA, resA, mapO, unA]; exact h1 hr
  | true =>
  simp [ev_skip, ev_seq, ev_cond2, evOps_nil, evOps_cons, opG_none, opG_some, opJ, opU_ff, isU_bool, opK_eq, opA_move, opA_pick, opA_un, opA_load, opA_fieldAddr, opA_nilCheck, opA_call, putO_some, putH_lt, putC_lt, condB_false, pickT, unT, loadT, nilCheckT, fieldAddrT, opS, opV, Go.Mx.look, seqK, Fr.known, mapO, unA, callA, partA, loadA, loadS, plusS, nilCheckS, ev_draw, drawK, evP_q, evP_s, opAt_some, sz29, ag29, sz49, ag49, Try.underlying51, ok33, g1]
  refine key_sp s H _ ?_
  have hl := look_bd g2 (keyS s) (by show s.user.size ≤ _; omega)
  have hc : ∀ o, orZ (cmpZ s.at_ o.at_) (cmpZ s.kind o.kind) (cmpZ s.till o.till) ≤ 0 ↔ countsS s o = false := or_counts s
  have hold := oldS_iff hok.1 (s := s)
  simp only [keyV] at hl
  have hlt := Hp.lt g1
  have hne := BdAt.ne g1 g2
  have fin : oldS L s = false → ∀ x, x = .agg (sgC s) → updA Try.prog H 49 (.mp m) (.agg [.v (.string (keyS s).1), .v (.bool (keyS s).2)]) x (fun H' => Q (.tup [.v (.bool true), .v (.int .i64 0)]) H') := by
    rintro ho x rfl
    have hput : putL L s = insG s false L := by unfold putL; rw [ho]; rfl
    refine g2.upd Try.underlying49 (good55 (keyS s) (by show s.user.size ≤ _; omega)) (fun H' g5 hs hl' => ?_)
    have e6 := fA_ext (L := L) (M := putL L s) (k := keyS s) (o := some s) (fun k' => by rw [hput]; exact fK_ins hok.1 s k')
    simp only [Option.map_some] at e6
    rw [e6] at g5
    have := h0 hr H' ⟨⟨hok.1.put s, fun x hx => ?_⟩, m, ?_, g5, rfl⟩ (hs.wide (by simp))
    · rw [ho] at this; exact this
    · rw [hput] at hx
      rcases (mem_ins s x L).1 hx with rfl | ⟨hx, _⟩
      · exact ⟨hr, hz⟩
      · exact hok.2 x hx
    · exact hs.2 _ _ g1 (by simpa using hne)
  have hself : oldS L s = true → BdAt H b (putL L s) [b, m] := fun ho => by
    have : putL L s = L := by unfold putL; rw [ho]; rfl
    rw [this]; exact hd
  cases hf : fK L (keyS s) with
  | none =>
    have ho : oldS L s = false := by
      rw [← Bool.not_eq_true, hold, hf]; simp
    simp [ev_skip, ev_seq, ev_cond2, opG_none, opG_some, opJ, opU_ft, isU_bool, valU_false, opA_move, opA_assign, opA_pick, opA_extract, opA_load, opA_fieldAddr, opA_nilCheck, opA_call, opA_alloc, opA_store, putO_some, putH_lt, putC_lt, putU_none, putV_lt, condB_false, avO_some, pickT, extractT, loadT, nilCheckT, fieldAddrT, allocT, storeT, opS, opV, Go.Mx.look, seqK, Fr.known, Fr.newBox, dropBp, mapO, callA, extractA, cellsA_agg, okPart_agg, partA, loadA, loadS, plusS, nilCheckS, newK, storeS, lookT_some, opA_lookup, valS_lookup, ev_draw, drawK, evP_nil, evP_q, evP_s, opAt_some, chkK_eq, sameV_some, sameO_some, allQ_nil, allQ_cons, valJ, valQ_none, valQ_some, valS_move, valS_extract, valS_load, valS_fieldAddr, valS_nilCheck, sz29, ag29, ze29, sz49, ag49, Try.underlying51, ok33, hl, keyV, splice, sgC, g1, hf]
    refine key_sp s H _ ?_
    simp [opG_none, putC_lt, loadT, nilCheckT, fieldAddrT, opS, opV, Go.Mx.look, partA, loadA, loadS, plusS, nilCheckS, updT_some, opA_upd, evP_s, opAt_some, chkK_eq, sameV_some, sameO_some, allQ_nil, allQ_cons, valQ_none, valS_move, valS_load, valS_fieldAddr, valS_nilCheck, sz29, ag29, sz49, ag49, Try.underlying51, g1, keyV]
    refine updA_mono2 (fin ho _ rfl) (fun H' h => ?_)
    simpa [ev_skip, ev_seq, ev_cond2, ev_block, ev_exit, ev_ret, ev_region2, ev_loop, loopK, evOps_nil, evOps_cons, opG_none, opG_some, opJ, opU_true, opU_ft, opU_ff, isU_undef, isU_bool, valU_true, valU_false, opK_eq, opA_move, opA_assign, opA_pick, opA_bin, opA_un, opA_extract, opA_field, opA_load, opA_index, opA_indexAddr, opA_fieldAddr, opA_nilCheck, opA_len, opA_call, opA_max, opA_min, opA_alloc, opA_box, opA_store, opA_buildSlice, opA_makeSlice, opA_append, opA_copy, opA_convert, opA_makeMap, opA_slice, opA_makeFunc, opA_build, putO_some, putH_lt, putH_none, putC_lt, putC_none, putU_lt, putU_none, putV_lt, putV_none, condB_true, condB_false, CondP_true, CondP_false, binT_some, binA_int, binA_str, binA_eqb, binA_neb, binA, eqRef, avO_some, avO_none, avOf, pickT_true, pickT_false, pickT, unT, extractT, loadT, nilCheckT, lenT_str, lenT_row, lenT_sl, lenT_nil, lenT_arr, lenT_mp, lenT_nomp, maxT, minT, maxA, minA, fieldT, fieldAddrT, indexT, indexAddrT, allocT, boxT, storeT, buildSliceT, makeSliceT, appendT, copyT, convV, convC, convT, makeMapT, bndT, sliceT, fnT, bytesOf_nil, bytesOf_one, repeatL_0, repeatL_1, repeatL_2, repeatL_3, repeatL_4, buildZ, partsZ, fillO, aggO, io_add, io_sub, io_mul, io_quo, io_rem, io_shl, io_shr, io_and, io_or, io_xor, io_eql, io_neq, io_lss, io_leq, io_gtr, io_geq, strOp, opS_tmp, opS_const, opV_tmp, opV_const, opS, opV, look_eq, look_ne, Go.Mx.look, fr0, argSlots, seqK_n, seqK_r, seqK_e, seqK, blockK_n, blockK_r, blockK, Fr.known, Fr.newBox, dropBp, retK, retA, resA, mapO, unA, convInt, convStr, strOf, callA, extractA, lenM, cellsA_v, cellsA_agg, cellsA_row, cellsA_sl, cellsA_ptr, cellsA_rp, cellsA_mp, cellsA_fn, okPart_v, okPart_agg, okPart_row, okPart_sl, okPart_ptr, okPart_rp, okPart_mp, okPart_fn, Value.oneCell', fieldA, partA, loadA, loadS, plusS, indexAddrA, indexArrA, nilCheckS, sliceA, sliceArr, fillA, newK, storeS, headK, getV, getB, chkP, mkFr, slotsOf, ptrsOf, boxesOf, firstReg, bindO, makeA, appA, copyA, srcA, srcTy, okPart_u8, cellsA_u8, Cond_iff, orO_some, orO_none, eqT_some, opA_entry, entryT_some, lookT_some, updT_some, delT_some, clearT_some, rangeT_some, nextT_some, makeMapH, opA_lookup, opA_makeMap2, opA_upd, opA_delete, opA_clear, opA_range, opA_next, valS_lookup, ev_draw, drawK, evP_nil, evP_q, evP_s, opAt_some, chkK_eq, sameV_some, sameO_some, allQ_nil, allQ_cons, valG_some, valJ, valQ_none, valQ_some, valS_move, valS_pick, valS_bin, valS_un, valS_extract, valS_field, valS_load, valS_index, valS_indexAddr, valS_fieldAddr, valS_nilCheck, valS_len, valS_max, valS_min, valS_slice, valS_convert, valS_makeFunc, valS_build, valS_buildSlice, rowT, rowF, sz2, ag2, tk2, by2, ze2, Try.underlying2, sz3, ag3, tk3, by3, ze3, Try.underlying3, sz4, ag4, tk4, by4, ze4, Try.underlying4, sz5, ag5, tk5, by5, ze5, Try.underlying5, sz9, ag9, tk9, st9, by9, ze9, Try.underlying9, sz22, ag22, tk22, st22, by22, ze22, Try.underlying22, sz23, ag23, tk23, by23, ze23, Try.underlying23, sz25, ag25, tk25, by25, ze25, Try.underlying25, sz29, ag29, tk29, by29, ze29, of29, Try.underlying29, sz31, ag31, tk31, st31, by31, ze31, Try.underlying31, sz37, ag37, tk37, by37, ze37, Try.underlying37, sz44, ag44, tk44, by44, ze44, Try.underlying44, sz46, ag46, tk46, by46, ze46, of46, Try.underlying46, sz49, ag49, tk49, by49, ze49, Try.underlying49, sz51, ag51, tk51, by51, ze51, of51, Try.underlying51, sz52, ag52, tk52, st52, by52, ze52, Try.underlying52, sz55, ag55, tk55, by55, ze55, of55, Try.underlying55, sz73, ag73, tk73, st73, by73, ze73, Try.underlying73, mo, ok3, ok4, ok5, ok6, ok7, ok8, ok9, ok10, ok11, ok12, ok13, ok14, ok15, ok16, ok17, ok18, ok19, ok20, ok21, ok22, ok23, ok24, ok25, ok26, ok28, ok29, ok30, ok31, ok32, ok33, ok34, ok35, ok36, ok37, ok38, ok39, ok40, ok43, ok44, ok45, ok46, ok47, ok58, ok59, ok65, ok66, ok67, ok68, ok69, ok70, ok72, ok73, ok74, ok75, ok76, ok77, ok78, ok79, ok80, ok81, pl3, pl4, pl5, pl6, pl7, pl8, pl17, pl19, pl22, pl25, pl58, pl74] using h
  | some o =>
    simp [ev_seq, opG_none, opG_some, opJ, opU_ft, isU_bool, opK_eq, opA_move, opA_assign, opA_extract, opA_load, opA_fieldAddr, opA_call, opA_alloc, opA_store, putO_some, putH_lt, putC_lt, putU_none, condB_true, avO_some, extractT, loadT, nilCheckT, fieldAddrT, allocT, storeT, opS, opV, Go.Mx.look, seqK, Fr.known, Fr.newBox, dropBp, mapO, callA, extractA, cellsA_agg, okPart_agg, partA, loadA, loadS, plusS, nilCheckS, newK, storeS, lookT_some, opA_lookup, valS_lookup, ev_draw, drawK, evP_nil, evP_q, evP_s, opAt_some, chkK_eq, sameV_some, sameO_some, allQ_nil, allQ_cons, valQ_none, valS_move, valS_extract, valS_load, valS_fieldAddr, valS_nilCheck, sz2, ag2, sz3, ag3, sz29, ag29, ze29, Try.underlying29, sz49, ag49, Try.underlying51, ok35, hl, keyV, splice, sgC, g1, hf]
    refine cmp2_sp _ _ _ _ ?_
    simp [opG_some, opJ, opU_ft, isU_bool, valU_false, opK_eq, opA_call, putC_lt, condB_true, loadT, fieldAddrT, opS, opV, Go.Mx.look, Fr.known, mapO, callA, partA, loadS, plusS, evP_s, opAt_some, chkK_eq, sameV_some, sameO_some, allQ_nil, allQ_cons, valJ, valQ_some, valS_load, valS_fieldAddr, sz2, ag2, sz3, ag3, Try.underlying29, ok30]
    refine cmp3_sp _ _ _ _ ?_
    simp [opG_some, opJ, opU_ft, isU_bool, valU_false, opK_eq, opA_call, putC_lt, condB_true, loadT, fieldAddrT, opS, opV, Go.Mx.look, Fr.known, mapO, callA, partA, loadS, plusS, evP_s, opAt_some, chkK_eq, sameV_some, sameO_some, allQ_nil, allQ_cons, valJ, valQ_some, valS_load, valS_fieldAddr, sz2, ag2, Try.underlying29, ok35]
    refine cmp2_sp _ _ _ _ ?_
    simp [opG_some, opJ, opU_ft, isU_bool, opK_eq, opA_call, opA_buildSlice, putH_lt, putC_lt, condB_true, buildSliceT, opS, opV, Go.Mx.look, Fr.known, mapO, callA, cellsA_v, okPart_v, Value.oneCell', fillA, bindO, evP_q, evP_s, opAt_some, chkK_eq, allQ_nil, sz3, ze3, Try.underlying73, ok34]
    refine or_sp _ _ _ _ _ ?_
    simp [ev_skip, ev_seq, ev_cond2, ev_ret, ev_region2, evOps_nil, evOps_cons, opG_none, opG_some, opJ, opU_ft, isU_bool, opK_eq, opA_move, opA_assign, opA_pick, opA_bin, opA_load, opA_fieldAddr, opA_nilCheck, opA_call, putO_some, putH_lt, putC_lt, condB_true, binT_some, binA, avO_some, pickT, loadT, nilCheckT, fieldAddrT, io_leq, opS, opV, Go.Mx.look, seqK, Fr.known, retK, retA, resA, mapO, callA, partA, loadA, loadS, plusS, nilCheckS, orO_some, eqT_some, ev_draw, drawK, evP_nil, evP_q, evP_s, opAt_some, chkK_eq, allQ_nil, tk3, sz29, ag29, sz49, ag49, Try.underlying51, ok33, g1]
    refine ⟨fun e => ?_, fun e => ?_⟩
    · have ho : oldS L s = true := hold.2 ⟨o, hf, (hc o).1 e⟩
      have := h0 hr H (hself ho) (Same.refl _ _)
      rw [ho] at this
      exact this
    · have ho : oldS L s = false := by
        rw [← Bool.not_eq_true, hold, hf]
        rintro ⟨o', h1, h2⟩
        simp at h1; subst h1
        have := (hc o).2 h2
        omega
      refine key_sp s H _ ?_
      simp [opG_none, putC_lt, loadT, nilCheckT, fieldAddrT, opS, opV, Go.Mx.look, partA, loadA, loadS, plusS, nilCheckS, updT_some, opA_upd, evP_s, opAt_some, chkK_eq, sameV_some, sameO_some, allQ_nil, allQ_cons, valQ_none, valS_move, valS_load, valS_fieldAddr, valS_nilCheck, sz29, ag29, sz49, ag49, Try.underlying51, g1, keyV]
      refine updA_mono2 (fin ho _ rfl) (fun H' h => ?_)
      simpa [ev_skip, ev_seq, ev_cond2, ev_block, ev_exit, ev_ret, ev_region2, ev_loop, loopK, evOps_nil, evOps_cons, opG_none, opG_some, opJ, opU_true, opU_ft, opU_ff, isU_undef, isU_bool, valU_true, valU_false, opK_eq, opA_move, opA_assign, opA_pick, opA_bin, opA_un, opA_extract, opA_field, opA_load, opA_index, opA_indexAddr, opA_fieldAddr, opA_nilCheck, opA_len, opA_call, opA_max, opA_min, opA_alloc, opA_box, opA_store, opA_buildSlice, opA_makeSlice, opA_append, opA_copy, opA_convert, opA_makeMap, opA_slice, opA_makeFunc, opA_build, putO_some, putH_lt, putH_none, putC_lt, putC_none, putU_lt, putU_none, putV_lt, putV_none, condB_true, condB_false, CondP_true, CondP_false, binT_some, binA_int, binA_str, binA_eqb, binA_neb, binA, eqRef, avO_some, avO_none, avOf, pickT_true, pickT_false, pickT, unT, extractT, loadT, nilCheckT, lenT_str, lenT_row, lenT_sl, lenT_nil, lenT_arr, lenT_mp, lenT_nomp, maxT, minT, maxA, minA, fieldT, fieldAddrT, indexT, indexAddrT, allocT, boxT, storeT, buildSliceT, makeSliceT, appendT, copyT, convV, convC, convT, makeMapT, bndT, sliceT, fnT, bytesOf_nil, bytesOf_one, repeatL_0, repeatL_1, repeatL_2, repeatL_3, repeatL_4, buildZ, partsZ, fillO, aggO, io_add, io_sub, io_mul, io_quo, io_rem, io_shl, io_shr, io_and, io_or, io_xor, io_eql, io_neq, io_lss, io_leq, io_gtr, io_geq, strOp, opS_tmp, opS_const, opV_tmp, opV_const, opS, opV, look_eq, look_ne, Go.Mx.look, fr0, argSlots, seqK_n, seqK_r, seqK_e, seqK, blockK_n, blockK_r, blockK, Fr.known, Fr.newBox, dropBp, retK, retA, resA, mapO, unA, convInt, convStr, strOf, callA, extractA, lenM, cellsA_v, cellsA_agg, cellsA_row, cellsA_sl, cellsA_ptr, cellsA_rp, cellsA_mp, cellsA_fn, okPart_v, okPart_agg, okPart_row, okPart_sl, okPart_ptr, okPart_rp, okPart_mp, okPart_fn, Value.oneCell', fieldA, partA, loadA, loadS, plusS, indexAddrA, indexArrA, nilCheckS, sliceA, sliceArr, fillA, newK, storeS, headK, getV, getB, chkP, mkFr, slotsOf, ptrsOf, boxesOf, firstReg, bindO, makeA, appA, copyA, srcA, srcTy, okPart_u8, cellsA_u8, Cond_iff, orO_some, orO_none, eqT_some, opA_entry, entryT_some, lookT_some, updT_some, delT_some, clearT_some, rangeT_some, nextT_some, makeMapH, opA_lookup, opA_makeMap2, opA_upd, opA_delete, opA_clear, opA_range, opA_next, valS_lookup, ev_draw, drawK, evP_nil, evP_q, evP_s, opAt_some, chkK_eq, sameV_some, sameO_some, allQ_nil, allQ_cons, valG_some, valJ, valQ_none, valQ_some, valS_move, valS_pick, valS_bin, valS_un, valS_extract, valS_field, valS_load, valS_index, valS_indexAddr, valS_fieldAddr, valS_nilCheck, valS_len, valS_max, valS_min, valS_slice, valS_convert, valS_makeFunc, valS_build, valS_buildSlice, rowT, rowF, sz2, ag2, tk2, by2, ze2, Try.underlying2, sz3, ag3, tk3, by3, ze3, Try.underlying3, sz4, ag4, tk4, by4, ze4, Try.underlying4, sz5, ag5, tk5, by5, ze5, Try.underlying5, sz9, ag9, tk9, st9, by9, ze9, Try.underlying9, sz22, ag22, tk22, st22, by22, ze22, Try.underlying22, sz23, ag23, tk23, by23, ze23, Try.underlying23, sz25, ag25, tk25, by25, ze25, Try.underlying25, sz29, ag29, tk29, by29, ze29, of29, Try.underlying29, sz31, ag31, tk31, st31, by31, ze31, Try.underlying31, sz37, ag37, tk37, by37, ze37, Try.underlying37, sz44, ag44, tk44, by44, ze44, Try.underlying44, sz46, ag46, tk46, by46, ze46, of46, Try.underlying46, sz49, ag49, tk49, by49, ze49, Try.underlying49, sz51, ag51, tk51, by51, ze51, of51, Try.underlying51, sz52, ag52, tk52, st52, by52, ze52, Try.underlying52, sz55, ag55, tk55, by55, ze55, of55, Try.underlying55, sz73, ag73, tk73, st73, by73, ze73, Try.underlying73, mo, ok3, ok4, ok5, ok6, ok7, ok8, ok9, ok10, ok11, ok12, ok13, ok14, ok15, ok16, ok17, ok18, ok19, ok20, ok21, ok22, ok23, ok24, ok25, ok26, ok28, ok29, ok30, ok31, ok32, ok33, ok34, ok35, ok36, ok37, ok38, ok39, ok40, ok43, ok44, ok45, ok46, ok47, ok58, ok59, ok65, ok66, ok67, ok68, ok69, ok70, ok72, ok73, ok74, ok75, ok76, ok77, ok78, ok79, ok80, ok81, pl3, pl4, pl5, pl6, pl7, pl8, pl17, pl19, pl22, pl25, pl58, pl74] using h
end Go.Proofs.Ytohmgnbndhojpaa

namespace Go.Proofs.Ytohmgnbndhojpaa
open Go.Mx
set_option linter.unusedVariables false
set_option linter.unusedSimpArgs false

instance : Inhabited Sg := ⟨zeroS⟩
def BdV (H : Hp) (v : AV) (L : List Sg) : Prop := (v = .v (.pointer none) ∧ L = []) ∨ (∃ b, v = .ptr b 0 0 ∧ H[b]? = some (.cells 0 [.v (.map none)]) ∧ L = []) ∨ ∃ b fp, v = .ptr b 0 0 ∧ BdAt H b L fp
theorem BdAt.v {H : Hp} {b : Nat} {L : List Sg} {fp : List Nat} (h : BdAt H b L fp) : BdV H (.ptr b 0 0) L := .inr (.inr ⟨b, fp, rfl, h⟩)
theorem low_sgs (L : List Sg) : ∀ c ∈ L.flatMap sgC, Low 0 c := by
  intro c hc
  obtain ⟨s, _, hs⟩ := List.mem_flatMap.1 hc
  simp [sgC] at hs
  rcases hs with rfl | rfl | rfl | rfl <;> simp
theorem enters28 : ∀ args w, (callFunc 28 args).run Try.prog w = .ok (.enter 28 args) w := enters_of Try.func28 (by kernel_rfl) rfl
def AlInv (H : Hp) (L : List Sg) (it m N n : Nat) (xs : List AV) (H5 : Hp) : Prop :=
  ∃ (O : List Sg) (v : AV), xs = [v, .it it] ∧ IterAt Try.prog 55 H5 it m (fA L) N (O.map (fun s => keyV (keyS s))) ∧ (∀ s ∈ O, s ∈ L) ∧ NewK 4 H H5 O.length (O.flatMap sgC) v ∧ Same [] H H5 ∧ n = N - O.length ∧ O.length ≤ N
theorem nil_range {P : Program} {H : Hp} {t kt et : TypeId} (ht : P.underlying t = some (.map kt et)) {k : AV → Hp → Prop} (h : k (.it H.length) (H ++ [.mapIter none 0 [] 0])) : rangeA P H t (.v (.map none)) k := by
  simp only [rangeA, ht]; exact h
theorem nil_next {H : Hp} {i : Nat} {k : AV → Hp → Prop} (hi : H[i]? = some (.mapIter none 0 [] 0)) (h : k (.tup [.v (.bool false)]) H) : nextA H (.it i) false k := by
  simp only [nextA, hi]; exact h
set_option maxRecDepth 20000 in
set_option maxHeartbeats 1000000 in
theorem all_sp (bv : AV) (L : List Sg) (H : Hp) (Q : AV → Hp → Prop) (hd : BdV H bv L) (hL : L.length ≤ 1000) (h : Q (.row false L.length (L.flatMap sgC)) H) : Sp Try.prog 11 [bv] Q H := by
  refine Sp.newK ?_
  refine Sp.body [(5, ⟨[3, 12], [], []⟩)] ⟨[5], [], []⟩ [] mo Try.func11 rfl (Nat.le_of_ble_eq_true rfl) (by kernel_rfl) ?_
  rcases hd with ⟨rfl, rfl⟩ | ⟨b, rfl, hb, rfl⟩ | ⟨b, fp, rfl, hd⟩
  · simp [ev_seq, ev_cond2, ev_ret, ev_region2, evOps_nil, evOps_cons, opG_none, opA_move, opA_assign, opA_bin, putO_some, putH_lt, condB_true, binT_some, binA, eqRef, avO_some, opS, opV, Go.Mx.look, fr0, argSlots, seqK, Fr.known, retK, retA, resA, mapO, orO_some, eqT_some, tk25]
    exact ⟨Same.refl _ _, 4, 0, [], NewK.nil _ _ _, by simp, by simpa using h⟩
  · simp [ev_skip, ev_seq, ev_cond2, ev_region2, evOps_nil, evOps_cons, opG_none, opA_move, opA_assign, opA_bin, opA_load, opA_fieldAddr, opA_nilCheck, putO_some, putH_lt, condB_false, binT_some, binA, eqRef, avO_some, loadT, nilCheckT, fieldAddrT, opS, opV, Go.Mx.look, fr0, argSlots, seqK, Fr.known, partA, loadA, loadS, plusS, nilCheckS, orO_some, eqT_some, rangeT_some, opA_range, tk25, sz49, ag49, Try.underlying51, hb]
    refine nil_range Try.underlying49 ?_
    simp [ev_block, ev_loop, loopK, evOps_nil, putC_lt, opS, opV, Go.Mx.look, seqK, mapO, headK, getV, getB, chkP, firstReg]
    refine LoopC.intro (fun n xs _ H5 => xs = [.v (.slice none 0 0), .it H.length] ∧ H5 = H ++ [.mapIter none 0 [] 0]) 0 ⟨rfl, rfl⟩ ?_
    rintro n xs bx H5 ⟨rfl, rfl⟩
    simp [ev_seq, ev_region2, evOps_cons, opG_none, opS, opV, Go.Mx.look, mkFr, slotsOf, ptrsOf, boxesOf, nextT_some, opA_next]
    refine nil_next (by simp) ?_
    simp [ev_seq, ev_cond2, ev_exit, ev_region2, evOps_nil, evOps_cons, opG_none, opA_move, opA_extract, opA_call, putO_some, putH_lt, putC_lt, condB_false, extractT, opS, opV, Go.Mx.look, seqK, blockK, Fr.known, mapO, callA, extractA]
    refine Sp.sortFuncNil laySortF ?_
    simp [ev_seq, ev_ret, ev_region2, evOps_nil, evOps_cons, opG_none, opA_move, opA_assign, putO_some, putH_lt, putC_lt, opS, opV, Go.Mx.look, seqK, retK, retA, resA, mapO]
    exact ⟨Same.app _ _ _, 4, 0, [], NewK.nil _ _ _, by simp, by simpa using h⟩
  · obtain ⟨hok, m, g1, g2, rfl⟩ := hd
    simp [ev_skip, ev_seq, ev_cond2, ev_region2, evOps_nil, evOps_cons, opG_none, opA_move, opA_assign, opA_bin, opA_load, opA_fieldAddr, opA_nilCheck, putO_some, putH_lt, condB_false, binT_some, binA, eqRef, avO_some, loadT, nilCheckT, fieldAddrT, opS, opV, Go.Mx.look, fr0, argSlots, seqK, Fr.known, partA, loadA, loadS, plusS, nilCheckS, orO_some, eqT_some, rangeT_some, opA_range, tk25, sz49, ag49, Try.underlying51, g1]
    refine g2.range Try.underlying49 (fun H4 N hit hs4 hl4 => ?_)
    generalize hitn : H.length = it at hit
    simp [ev_block, ev_loop, loopK, evOps_nil, putC_lt, opS, opV, Go.Mx.look, seqK, mapO, headK, getV, getB, chkP, firstReg]
    refine LoopC.intro (fun n xs _ H5 => AlInv H L it m N n xs H5) N ⟨[], _, rfl, hit, by simp, NewK.nil _ _ _, hs4, by simp, by simp⟩ ?_
    clear hit hs4 hl4 H4
    rintro n xs bx H5 ⟨O, v2, rfl, hit, hOL, hO, hs5, rfl, hON⟩
    have hOn : O.Nodup := by
      have := hit.nodup
      exact List.nodup_iff_pairwise_ne.2 ((List.pairwise_map.1 (List.nodup_iff_pairwise_ne.1 this)).imp (fun {a b} hab e => hab (by rw [e])))
    have hOl : O.length ≤ 1000 := Nat.le_trans (hOn.length_le_of_subset hOL) hL
    simp [ev_seq, ev_region2, evOps_cons, opG_none, opS, opV, Go.Mx.look, mkFr, slotsOf, ptrsOf, boxesOf, nextT_some, opA_next]
    refine hit.next (fun H6 key val hf hkg hnd hlt hit6 hent hs6 hl6 => ?_) (fun hall => ?_)
    · obtain ⟨s, hsL, rfl, rfl⟩ := fA_some hok.1 hf
      have hs7 : Same [] H H6 := hs5.trans hs6 (by simp; omega)
      have hO6 : NewK 4 H H6 O.length (O.flatMap sgC) v2 := hO.same hs6 (fun id ver hv => by
        rcases hO with ⟨_, _, h2⟩ | ⟨_, _, id2, ver2, tl, h2, h3, _⟩
        · rw [h2] at hv; simp at hv
        · rw [h2] at hv; simp at hv
          obtain ⟨es, c, ds, h4, _⟩ := hit
          simp only [List.mem_singleton]
          rintro rfl
          rw [← hv.1, h3] at h4; simp at h4)
      have hKN : O.length < N := by simpa using hlt
      simp only [sgC] at hent
      simp [ev_skip, ev_seq, ev_cond2, ev_block, ev_region2, evOps_nil, evOps_cons, opG_none, opA_move, opA_extract, opA_load, opA_alloc, opA_store, opA_buildSlice, opA_append, putO_some, putH_lt, putC_lt, putU_none, condB_true, avO_some, extractT, loadT, allocT, storeT, buildSliceT, appendT, repeatL_1, opS, opV, Go.Mx.look, seqK, Fr.known, Fr.newBox, dropBp, mapO, extractA, cellsA_agg, okPart_agg, partA, loadS, fillA, newK, storeS, bindO, srcTy, opA_entry, entryT_some, st22, Try.underlying22, sz29, ag29, by29, ze29, sgC, hent, splice]
      refine hO6.app (by simp) hs7.1 (by omega) (fun v3 H7 fp hO7 hs8 hfp => ?_)
      have hnot : ∀ j o, H6[j]? = some o → (∀ ver cs, o ≠ .cells ver cs) → j ∉ fp := fun j o hj hno hm => by
        obtain ⟨_, ver, ds, h1⟩ := hfp j hm
        rw [h1] at hj; simp at hj
        exact hno ver ds hj.symm
      have hit7 : IterAt Try.prog 55 H7 it m (fA L) N (O.map (fun s => keyV (keyS s)) ++ [keyV (keyS s)]) := by
        refine hit6.same hs8 ?_ ?_
        · obtain ⟨es, c, ds, h4, _⟩ := hit6; exact hnot _ _ h4 (by simp)
        · obtain ⟨es, c, ds, _, h4, _⟩ := hit6; exact hnot _ _ h4 (by simp)
      simp [evOps_nil, evOps_cons, opG_none, opA_assign, putO_some, putH_lt, putC_lt, opS, opV, Go.Mx.look, seqK, blockK, mapO, headK, getV, getB, chkP]
      exact ⟨N - (O.length + 1), by omega, O ++ [s], v3, rfl, by simpa using hit7, by simpa [or_imp, forall_and] using ⟨hOL, hsL⟩, by simpa [sgC] using hO7, hs7.new hs8 (fun j hj => (hfp j hj).1), by simp, by simp; omega⟩
    · have hperm : O.Perm L := by
        refine (List.perm_ext_iff_of_nodup hOn hok.1.nodup).2 (fun s => ⟨hOL s, fun hs => ?_⟩)
        have := hall (keyV (keyS s)) (.agg (sgC s)) (by rw [fA_key, (fK_iff hok.1).2 ⟨hs, rfl⟩]; rfl)
        obtain ⟨t, ht, e⟩ := List.mem_map.1 this
        have e2 := hok.1.uniq (hOL t ht) hs (keyV_inj e)
        rw [← e2]; exact ht
      simp [ev_seq, ev_cond2, ev_exit, ev_region2, evOps_nil, evOps_cons, opG_none, opA_move, opA_extract, opA_call, putO_some, putH_lt, putC_lt, condB_false, extractT, opS, opV, Go.Mx.look, seqK, blockK, Fr.known, mapO, callA, extractA]
      rcases hO with ⟨h1, h2, rfl⟩ | ⟨h0, h1, id, ver, tl, rfl, h3, h4⟩
      · have hO0 : O = [] := by simpa using h1
        subst hO0
        have hL0 : L = [] := hperm.symm.eq_nil
        subst hL0
        refine Sp.sortFuncNil laySortF ?_
        simp [ev_seq, ev_ret, ev_region2, evOps_nil, evOps_cons, opG_none, opA_move, opA_assign, putO_some, putH_lt, putC_lt, opS, opV, Go.Mx.look, seqK, retK, retA, resA, mapO]
        exact ⟨hs5, 4, 0, [], NewK.nil _ _ _, by simp, by simpa using h⟩
      · refine Sp.sortFunc (k := 4) (enc := encS) (cf := cmpS) (l := O) laySortF Try.isAgg29 Try.sizeOf29 (fun _ => rfl) (fun x v hv => by simp [encS] at hv; rcases hv with rfl | rfl | rfl | rfl <;> rfl) swoS enters28 cmpIs28 h3 (by simp [h1]) ?_ (by omega) (fun l' hp hpw => ?_)
        · rw [List.drop_zero, ← h1]
          simp
          rfl
        · have hl' : l' = L := sort_eq hok (hp.trans hperm) hpw
          subst hl'
          have hlen : l'.length = O.length := hp.length_eq
          have hcl : (l'.flatMap (cellsOfK encS)).length = O.length * 4 := by
            show (l'.flatMap sgC).length = _
            rw [flat_len sgC_len, hlen]
          simp [ev_seq, ev_ret, ev_region2, evOps_nil, evOps_cons, opG_none, opA_move, opA_assign, putO_some, putH_lt, putC_lt, opS, opV, Go.Mx.look, seqK, retK, retA, resA, mapO]
          refine ⟨hs5.new (Same.set (fp := [id]) (by simp)) (by simpa using h4), 4, O.length, l'.flatMap sgC, .inr ⟨h0, hcl, id, ver, tl, rfl, ?_, h4⟩, low_sgs _, by rw [← hlen]; exact h⟩
          rw [List.getElem?_set_self (Hp.lt h3)]
          have hs : splice (O.flatMap sgC ++ tl) 0 (l'.flatMap (cellsOfK encS)) = l'.flatMap sgC ++ tl := by
            unfold splice
            rw [hcl, List.take_zero, List.nil_append, Nat.zero_add]
            have : (O.flatMap sgC ++ tl).drop (O.length * 4) = tl := by rw [← h1]; simp
            rw [this]; rfl
          rw [hs]
end Go.Proofs.Ytohmgnbndhojpaa
