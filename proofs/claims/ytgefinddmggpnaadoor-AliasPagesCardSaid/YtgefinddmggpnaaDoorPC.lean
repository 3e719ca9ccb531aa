import Derived.Test.YtgefinddmggpnaaDoorPP
import Derived.Test.YtgefinddmggpnaaDoorPD
namespace Go.Proofs.YtgefinddmggpnaaDoor.D
open Go.Md
set_option linter.unusedVariables false
set_option linter.unusedSimpArgs false
set_option linter.unnecessarySimpa false
set_option maxRecDepth 100000

/-! The comparing function, walked by the machine that counts what is drawn. -/
def plC (p : Pl) : List AV := [.v (.string p.al), .v (.string p.rm), .v (.string p.nm), .v (.int .i64 p.n)]
section
variable {P : Go.Program}
/-- A comparing function of no captured values tells this of any two, wherever it is called. -/
def CmpIs {α : Type} (P : Program) (g : Nat) (enc : α → List Value) (cf : α → α → Int) : Prop :=
  ∀ x y W, Calls P g #[.agg (enc x).toArray, .agg (enc y).toArray] W fun e w' => e = .returned (.int .i64 (cf x y)) ∧ ∃ q os, w' = Go.Sort.grow (W.drewN q) os
def cellsOfK {α : Type} (enc : α → List Value) (x : α) : List AV := (enc x).map .v
/-- A function of two structures of plain cells, told by its contract. -/
theorem CmpIs.of {α : Type} {g : Nat} {enc : α → List Value} {cf : α → α → Int} (h1 : ∀ x, ∀ v ∈ enc x, v.oneCell' = true) (h : ∀ x y, Sp P g [.agg (cellsOfK enc x), .agg (cellsOfK enc y)] (fun v _ => v = .v (.int .i64 (cf x y))) []) : CmpIs P g enc cf := by
  intro x y W
  have hst : StH (fun _ _ => none) (fun _ => none) [] W := ⟨fun _ _ _ h => by simp at h, fun _ _ h => by simp at h, fun _ _ h => by simp at h, fun _ _ _ _ _ h => by simp at h, fun _ _ _ h => by simp at h⟩
  have hagg : ∀ z, VR (fun _ _ => none) (fun _ => none) (.agg (cellsOfK enc z)) (.agg (enc z).toArray) := fun z => .agg _ (enc z) (by simp [cellsOfK]) (fun i c hc => by
    simp only [cellsOfK, List.getElem?_map, Option.map_eq_some_iff] at hc
    obtain ⟨v, hv, rfl⟩ := hc
    rw [List.getD_eq_getElem?_getD, hv]
    exact .v _) (h1 z)
  have hv : VRs (fun _ _ => none) (fun _ => none) [.agg (cellsOfK enc x), .agg (cellsOfK enc y)] [.agg (enc x).toArray, .agg (enc y).toArray] := ⟨rfl, fun i c hc => by
    match i, hc with
    | 0, hc => simp at hc; subst hc; exact hagg x
    | 1, hc => simp at hc; subst hc; exact hagg y
    | i + 2, hc => simp at hc⟩
  refine (h x y _ _ W _ hst hv).mono ?_
  rintro e w' ⟨v, u, ρ', I', H', rfl, hm, hvr, rfl⟩
  rw [hvr.v_is]
  refine ⟨rfl, w'.drawn - W.drawn, w'.heap.extract W.heap.size w'.heap.size, ?_⟩
  have hf := hm.fw
  have hheap : w'.heap = W.heap ++ w'.heap.extract W.heap.size w'.heap.size := by
    apply Array.ext_getElem?
    intro i
    rcases Nat.lt_or_ge i W.heap.size with hi | hi
    · rw [Array.getElem?_append_left hi]
      exact hf.keep i hi (fun ⟨id, o, ho, _⟩ => by simp at ho)
    · rw [Array.getElem?_append_right hi, Array.getElem?_extract]
      have e : W.heap.size + (i - W.heap.size) = i := by omega
      rw [e]
      have hs := hf.size
      split
      · rfl
      · rw [Array.getElem?_eq_none (by omega)]
  have h2 := hf.os
  have h3 := hf.tape
  have h4 := hf.output
  have h5 := hf.dr
  obtain ⟨hp, tp, dr, os, out⟩ := w'
  obtain ⟨hp0, tp0, dr0, os0, out0⟩ := W
  simp only at hheap h2 h3 h4 h5
  subst h2 h3 h4
  simp only [Go.Sort.grow, World.drewN]
  rw [← hheap]
  congr 1
  omega
end
theorem nanS_sp (s : ByteArray) (H : Hp) (Q : AV → Hp → Prop) (h : Q (.v (.bool false)) H) : Sp Tryd.prog 37 [.v (.string s)] Q H := by
  refine Sp.body [] ⟨[], [], []⟩ [] mo Tryd.func37 rfl (Nat.le_of_ble_eq_true rfl) (by kernel_rfl) ?_
  simp [ev_seq, ev_ret, ev_region2, evOps_nil, evOps_cons, opG_none, opA_move, opA_assign, opA_bin, putO_some, putH_lt, binT_some, binA, avO_some, strOp, opS, opV, look_eq, look_ne, fr0, argSlots, seqK, retK, retA, resA, mapO, orO_some, eqT_some, tk9]
  exact h
theorem nanI_sp (a : Int) (H : Hp) (Q : AV → Hp → Prop) (h : Q (.v (.bool false)) H) : Sp Tryd.prog 36 [.v (.int .i64 a)] Q H := by
  refine Sp.body [] ⟨[], [], []⟩ [] mo Tryd.func36 rfl (Nat.le_of_ble_eq_true rfl) (by kernel_rfl) ?_
  simp [ev_seq, ev_ret, ev_region2, evOps_nil, evOps_cons, opG_none, opA_move, opA_assign, opA_bin, putO_some, putH_lt, binT_some, binA, avO_some, io_neq, opS, opV, look_eq, look_ne, fr0, argSlots, seqK, retK, retA, resA, mapO, orO_some, eqT_some, tk3]
  exact h
theorem cmpS_sp (a b : ByteArray) (H : Hp) (Q : AV → Hp → Prop) (h : Q (.v (.int .i64 (cmpStr a b))) H) : Sp Tryd.prog 24 [.v (.string a), .v (.string b)] Q H := by
  refine Sp.body [] ⟨[], [], []⟩ [] mo Tryd.func24 rfl (Nat.le_of_ble_eq_true rfl) (by kernel_rfl) ?_
  unfold cmpStr txl at h
  simp [ev_seq, ev_region2, evOps_nil, evOps_cons, opG_none, opA_move, opA_assign, opA_call, putO_some, putH_lt, opS, opV, look_eq, look_ne, fr0, argSlots, seqK, mapO, callA, ok37]
  refine nanS_sp a H _ ?_
  simp [ev_seq, ev_region2, evOps_nil, evOps_cons, opG_none, opA_move, opA_assign, opA_call, putO_some, putH_lt, putC_lt, opS, opV, look_eq, look_ne, seqK, mapO, callA, ok37]
  refine nanS_sp b H _ ?_
  simp [ev_skip, ev_seq, ev_cond2, ev_ret, ev_region2, evOps_nil, evOps_cons, opG_none, opA_move, opA_assign, opA_bin, putO_some, putH_lt, putC_lt, condB_false, binT_some, binA, avO_some, strOp, opS, opV, look_eq, look_ne, seqK, Fr.known, retK, retA, resA, mapO, orO_some, eqT_some, tk9, Go.Proofs.bytesLess_eq]
  refine ⟨fun e => by simpa [e] using h, fun e => ⟨fun e2 e3 => ?_, fun e2 => ?_⟩⟩
  · have h1 : ¬ a.toList < b.toList := List.not_lt.2 e
    have h2 : b.toList < a.toList := (lt_tri (fun e4 : a = b => e3 (by rw [e4]))).resolve_left h1
    simpa [h1, h2] using h
  · have e4 : a = b := txl_inj.1 (e2 e)
    subst e4
    simpa [List.lt_irrefl] using h
theorem cmpI_sp (a b : Int) (H : Hp) (Q : AV → Hp → Prop) (h : Q (.v (.int .i64 (cmpZ a b))) H) : Sp Tryd.prog 23 [.v (.int .i64 a), .v (.int .i64 b)] Q H := by
  refine Sp.body [] ⟨[], [], []⟩ [] mo Tryd.func23 rfl (Nat.le_of_ble_eq_true rfl) (by kernel_rfl) ?_
  unfold cmpZ at h
  simp [ev_seq, ev_region2, evOps_nil, evOps_cons, opG_none, opA_move, opA_assign, opA_call, putO_some, putH_lt, opS, opV, look_eq, look_ne, fr0, argSlots, seqK, mapO, callA, ok36]
  refine nanI_sp a H _ ?_
  simp [ev_seq, ev_region2, evOps_nil, evOps_cons, opG_none, opA_move, opA_assign, opA_call, putO_some, putH_lt, putC_lt, opS, opV, look_eq, look_ne, seqK, mapO, callA, ok36]
  refine nanI_sp b H _ ?_
  simp [ev_skip, ev_seq, ev_cond2, ev_ret, ev_region2, evOps_nil, evOps_cons, opG_none, opA_move, opA_assign, opA_bin, putO_some, putH_lt, putC_lt, condB_false, binT_some, binA, avO_some, io_lss, io_gtr, opS, opV, look_eq, look_ne, seqK, Fr.known, retK, retA, resA, mapO, orO_some, eqT_some, tk3]
  refine ⟨fun e => by simpa [e] using h, fun e => ⟨fun e2 => ?_, fun e2 => ?_⟩⟩
  · have h1 : ¬ a < b := by omega
    simpa [h1, e2] using h
  · have h1 : ¬ a < b := by omega
    have h2 : ¬ b < a := by omega
    simpa [h1, h2] using h
theorem or_sp (a b : Int) (H : Hp) (Q : AV → Hp → Prop) (h : Q (.v (.int .i64 (if a ≠ 0 then a else b))) H) : Sp Tryd.prog 22 [.row true 2 [.v (.int .i64 a), .v (.int .i64 b)]] Q H := by
  refine Sp.body [(3, ⟨[3, 6, 7, 8], [], []⟩)] ⟨[], [], []⟩ [] mo Tryd.func22 rfl (Nat.le_of_ble_eq_true rfl) (by kernel_rfl) ?_
  simp [ev_seq, ev_block, ev_region2, ev_loop, loopK, evOps_nil, evOps_cons, opG_none, opA_move, opA_assign, opA_len, putO_some, putH_lt, lenT_row, opS, opV, look_eq, look_ne, fr0, argSlots, seqK, mapO, headK, getV, getB, chkP, firstReg, Tryd.underlying61]
  refine LoopC.intro (fun n xs _ H2 => ∃ i : Nat, i ≤ 2 ∧ n = 2 - i ∧ (0 < i → a = 0) ∧ (1 < i → b = 0) ∧ xs = [.v (.int .i64 0), .row true 2 [.v (.int .i64 a), .v (.int .i64 b)], .v (.int .i64 2), .v (.int .i64 i)] ∧ H2 = H) 2
    ⟨0, by omega, by omega, by omega, by omega, by simp, rfl⟩ ?_
  rintro n xs bs H2 ⟨i, hi, rfl, ha, hb, rfl, rfl⟩
  have hcase : i = 0 ∨ i = 1 ∨ i = 2 := by omega
  have w1 : IntKind.i64.wrap 1 = 1 := wr_i64 (by omega)
  have w2 : IntKind.i64.wrap 2 = 2 := wr_i64 (by omega)
  have step : ∀ i : Nat, i < 2 → (0 < i + 1 → a = 0) → (1 < i + 1 → b = 0) → ∃ m, m < 2 - i ∧ ∃ j : Nat, j ≤ 2 ∧ m = 2 - j ∧ (0 < j → a = 0) ∧ (1 < j → b = 0) ∧
      [AV.v (.int .i64 0), .row true 2 [.v (.int .i64 a), .v (.int .i64 b)], .v (.int .i64 2), .v (.int .i64 ((i + 1 : Nat) : Int))] = [.v (.int .i64 0), .row true 2 [.v (.int .i64 a), .v (.int .i64 b)], .v (.int .i64 2), .v (.int .i64 j)] ∧ H2 = H2 :=
    fun i hi h1 h2 => ⟨2 - (i + 1), by omega, i + 1, by omega, rfl, h1, h2, rfl, rfl⟩
  rcases hcase with rfl | rfl | rfl
  · simp [ev_skip, ev_seq, ev_cond2, ev_block, ev_ret, ev_region2, evOps_nil, evOps_cons, opG_none, opA_move, opA_assign, opA_bin, opA_load, opA_indexAddr, putO_some, putH_lt, condB_true, binT_some, binA, avO_some, loadT, indexAddrT, io_add, io_neq, io_lss, opS, opV, look_eq, look_ne, seqK, blockK, Fr.known, retK, retA, resA, mapO, partA, loadA, loadS, indexAddrA, headK, getV, getB, chkP, mkFr, slotsOf, ptrsOf, boxesOf, orO_some, eqT_some, sz3, ag3, tk3, Tryd.underlying61, w1]
    refine ⟨fun e => by simpa [e] using h, fun e => ?_⟩
    simpa using step 0 (by omega) (fun _ => e) (by omega)
  · have e0 := ha (by omega)
    subst e0
    simp [ev_skip, ev_seq, ev_cond2, ev_block, ev_ret, ev_region2, evOps_nil, evOps_cons, opG_none, opA_move, opA_assign, opA_bin, opA_load, opA_indexAddr, putO_some, putH_lt, condB_true, binT_some, binA, avO_some, loadT, indexAddrT, io_add, io_neq, io_lss, opS, opV, look_eq, look_ne, seqK, blockK, Fr.known, retK, retA, resA, mapO, partA, loadA, loadS, indexAddrA, headK, getV, getB, chkP, mkFr, slotsOf, ptrsOf, boxesOf, orO_some, eqT_some, sz3, ag3, tk3, Tryd.underlying61, w2]
    refine ⟨fun e => by simpa [e] using h, fun e => ?_⟩
    simpa using step 1 (by omega) (fun _ => rfl) (fun _ => e)
  · have e0 := ha (by omega)
    have e1 := hb (by omega)
    subst e0 e1
    simp [ev_seq, ev_cond2, ev_exit, ev_ret, ev_region2, evOps_nil, evOps_cons, opG_none, opA_move, opA_assign, opA_bin, putO_some, putH_lt, condB_false, binT_some, binA, avO_some, io_lss, opS, opV, look_eq, look_ne, seqK, blockK, Fr.known, retK, retA, resA, mapO, mkFr, slotsOf, ptrsOf, boxesOf, orO_some, eqT_some, tk3]
    simpa using h
theorem plcmp_sp (x y : Pl) (H : Hp) (Q : AV → Hp → Prop) (h : Q (.v (.int .i64 (cmpP x y))) H) : Sp Tryd.prog 21 [.agg (plC x), .agg (plC y)] Q H := by
  refine Sp.body [] ⟨[2, 3], [], pl21⟩ tb21 mo Tryd.func21 rfl (Nat.le_of_ble_eq_true rfl) (by kernel_rfl) ?_
  simp [ev_seq, ev_region2, evOps_nil, evOps_cons, opG_none, opA_assign, opA_load, opA_fieldAddr, opA_call, opA_box, putO_some, putH_lt, loadT, fieldAddrT, boxT, opS, opV, look_eq, look_ne, fr0, argSlots, seqK, Fr.newBox, dropBp, mapO, callA, cellsA_agg, okPart_agg, partA, loadS, plusS, newK, ev_draw, drawK, evP_q, evP_s, opAt_some, sz3, ag3, sz9, ag9, Tryd.underlying30, ok23, pl21, plC]
  refine cmpI_sp _ _ _ _ ?_
  simp [opG_none, opA_call, putC_lt, loadT, fieldAddrT, opS, opV, look_eq, look_ne, mapO, callA, partA, loadS, plusS, evP_s, opAt_some, chkK_eq, sameV_some, sameO_some, allQ_nil, allQ_cons, valQ_none, valS_load, valS_fieldAddr, sz9, ag9, Tryd.underlying30, ok24]
  refine cmpS_sp _ _ _ _ ?_
  simp [opG_none, opA_call, opA_buildSlice, putH_lt, putC_lt, buildSliceT, opS, opV, look_eq, look_ne, mapO, callA, cellsA_v, okPart_v, Value.oneCell', fillA, bindO, evP_q, evP_s, opAt_some, chkK_eq, allQ_nil, sz3, ze3, Tryd.underlying61, ok22]
  refine or_sp _ _ _ _ ?_
  unfold cmpP at h
  simp [ev_ret, opG_none, opA_assign, putO_some, putH_lt, putC_lt, opS, opV, look_eq, seqK, retK, retA, resA, mapO, evP_nil, evP_s, opAt_some, chkK_eq, allQ_nil]
  simpa using h
theorem cmpIs21 : CmpIs Tryd.prog 21 encP cmpP := CmpIs.of (fun x v hv => by simp [encP] at hv; rcases hv with rfl | rfl | rfl | rfl <;> rfl) (fun x y => plcmp_sp x y [] _ rfl)
end Go.Proofs.YtgefinddmggpnaaDoor.D
namespace Go.Proofs.YtgefinddmggpnaaDoor
theorem cmpIs21 : Go.Mx.CmpIs Tryd.prog 21 encP cmpP := D.cmpIs21
end Go.Proofs.YtgefinddmggpnaaDoor
