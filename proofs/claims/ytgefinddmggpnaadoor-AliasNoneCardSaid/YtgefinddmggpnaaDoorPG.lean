import Derived.Test.YtgefinddmggpnaaDoorPA
namespace Go.Proofs.YtgefinddmggpnaaDoor
open Go.Mx
set_option linter.unusedVariables false
set_option linter.unusedSimpArgs false
set_option linter.unnecessarySimpa false
set_option maxRecDepth 100000

/-! ### A directory that is none -/
def NoDir (H : Hp) (v : AV) : Prop := v = .v (.pointer none) ∨ ∃ b, v = .ptr b 0 0 ∧ H[b]? = some (.cells 0 [.v (.string ⟨#[]⟩), .v (.map none), .v (.map none)])
theorem madeN_sp (v : AV) (H : Hp) (Q : AV → Hp → Prop) (hv : NoDir H v) (h : Q (.v (.bool false)) H) : Sp Tryd.prog 18 [v] Q H := by
  refine Sp.body [] ⟨[], [], []⟩ [] mo Tryd.func18 rfl (Nat.le_of_ble_eq_true rfl) (by kernel_rfl) ?_
  rcases hv with rfl | ⟨b, rfl, hb⟩
  · simp [ev_seq, ev_ret, ev_region2, evOps_nil, evOps_cons, opG_none, opG_some, opJ, opU_ft, isU_bool, opA_move, opA_assign, opA_pick, opA_bin, putO_some, putH_lt, putV_lt, condB_false, binT_some, binA, eqRef, avO_some, pickT, opS, opV, Go.Mx.look, fr0, argSlots, seqK, Fr.known, retK, retA, resA, mapO, orO_some, eqT_some, tk24]; exact h
  · simp [ev_seq, ev_ret, ev_region2, evOps_nil, evOps_cons, opG_none, opG_some, opJ, opU_ft, isU_bool, opK_eq, opA_move, opA_assign, opA_pick, opA_bin, opA_load, opA_fieldAddr, opA_nilCheck, putO_some, putH_lt, condB_true, binT_some, binA, eqRef, avO_some, pickT, loadT, nilCheckT, fieldAddrT, opS, opV, Go.Mx.look, fr0, argSlots, seqK, Fr.known, retK, retA, resA, mapO, partA, loadA, loadS, plusS, nilCheckS, orO_some, eqT_some, tk24, sz42, ag42, tk42, Tryd.underlying45, hb]; exact h
theorem putN_sp (v : AV) (al rm by_ : ByteArray) (H : Hp) (Q : AV → Hp → Prop) (hv : NoDir H v) (z1 : al.size ≤ 80000) (z3 : by_.size ≤ 80000) (h : Q (.v (.int .i64 1)) H) : Sp Tryd.prog 13 [v, .v (.string al), .v (.string rm), .v (.string by_)] Q H := by
  refine Sp.body [] ⟨[], [], []⟩ [] mo Tryd.func13 rfl (Nat.le_of_ble_eq_true rfl) (by kernel_rfl) ?_
  simp [ev_seq, ev_region2, evOps_nil, evOps_cons, opG_none, opA_move, opA_assign, opA_call, putO_some, putH_lt, opS, opV, Go.Mx.look, fr0, argSlots, seqK, mapO, callA, ok29]
  refine homeS_sp al H _ (by omega) ?_
  simp [ev_seq, ev_region2, evOps_nil, evOps_cons, opG_none, opA_move, opA_assign, opA_extract, opA_call, putO_some, putH_lt, putC_lt, extractT, opS, opV, Go.Mx.look, seqK, mapO, callA, extractA, ok30]
  refine userS_sp by_ H _ (by omega) (fun x => ?_)
  simp [ev_seq, ev_region2, evOps_nil, evOps_cons, opG_none, opA_move, opA_assign, opA_extract, opA_call, putO_some, putH_lt, putC_lt, extractT, opS, opV, Go.Mx.look, seqK, mapO, callA, extractA, ok18]
  refine madeN_sp v H _ hv ?_
  simp [ev_seq, ev_cond2, ev_ret, ev_region2, evOps_nil, evOps_cons, opG_none, opG_some, opJ, opU_ff, isU_bool, opA_move, opA_assign, opA_pick, opA_un, putO_some, putH_lt, putC_lt, putV_lt, condB_true, pickT, unT, opS, opV, Go.Mx.look, seqK, Fr.known, retK, retA, resA, mapO, unA]
  exact h
theorem removeN_sp (v : AV) (al by_ : ByteArray) (H : Hp) (Q : AV → Hp → Prop) (hv : NoDir H v) (h : Q (.v (.int .i64 2)) H) : Sp Tryd.prog 14 [v, .v (.string al), .v (.string by_)] Q H := by
  refine Sp.body [] ⟨[7], [], []⟩ [] mo Tryd.func14 rfl (Nat.le_of_ble_eq_true rfl) (by kernel_rfl) ?_
  simp [ev_seq, ev_region2, evOps_nil, evOps_cons, opG_none, opA_move, opA_assign, opA_call, putO_some, putH_lt, opS, opV, Go.Mx.look, fr0, argSlots, seqK, mapO, callA, ok18]
  refine madeN_sp v H _ hv ?_
  simp [ev_seq, ev_cond2, ev_ret, ev_region2, evOps_nil, evOps_cons, opG_none, opA_assign, opA_un, putO_some, putH_lt, putC_lt, condB_true, unT, opS, opV, Go.Mx.look, seqK, Fr.known, retK, retA, resA, mapO, unA]
  exact h
theorem findN_sp (v : AV) (al : ByteArray) (H : Hp) (Q : AV → Hp → Prop) (hv : NoDir H v) (h : Q (.v (.string ⟨#[]⟩)) H) : Sp Tryd.prog 15 [v, .v (.string al)] Q H := by
  refine Sp.body [] ⟨[], [], []⟩ [] mo Tryd.func15 rfl (Nat.le_of_ble_eq_true rfl) (by kernel_rfl) ?_
  simp [ev_seq, ev_region2, evOps_nil, evOps_cons, opG_none, opA_move, opA_assign, opA_call, putO_some, putH_lt, opS, opV, Go.Mx.look, fr0, argSlots, seqK, mapO, callA, ok18]
  refine madeN_sp v H _ hv ?_
  simp [ev_seq, ev_cond2, ev_ret, ev_region2, evOps_nil, evOps_cons, opG_none, opA_assign, opA_un, putO_some, putH_lt, putC_lt, condB_true, unT, opS, opV, Go.Mx.look, seqK, Fr.known, retK, retA, resA, mapO, unA]
  exact h
theorem ofN_sp (v : AV) (rm : ByteArray) (H : Hp) (Q : AV → Hp → Prop) (hv : NoDir H v) (h : Q (.v (.slice none 0 0)) H) : Sp Tryd.prog 16 [v, .v (.string rm)] Q H := by
  refine Sp.body [(5, ⟨[1, 5, 15], [], []⟩)] ⟨[7], [], []⟩ [] mo Tryd.func16 rfl (Nat.le_of_ble_eq_true rfl) (by kernel_rfl) ?_
  simp [ev_seq, ev_region2, evOps_nil, evOps_cons, opG_none, opA_move, opA_assign, opA_call, putO_some, putH_lt, opS, opV, Go.Mx.look, fr0, argSlots, seqK, mapO, callA, ok18]
  refine madeN_sp v H _ hv ?_
  simp [ev_seq, ev_cond2, ev_ret, ev_region2, evOps_nil, evOps_cons, opG_none, opA_assign, opA_un, putO_some, putH_lt, putC_lt, condB_true, unT, opS, opV, Go.Mx.look, seqK, Fr.known, retK, retA, resA, mapO, unA]
  exact h
theorem listN_sp (v : AV) (p : Pl) (H : Hp) (Q : AV → Hp → Prop) (hv : NoDir H v) (h : Q (.v (.int .i64 1)) H) : Sp Tryd.prog 11 [v, .agg (plC p)] Q H := by
  refine Sp.body [] ⟨[3], [], pl11⟩ tb11 mo Tryd.func11 rfl (Nat.le_of_ble_eq_true rfl) (by kernel_rfl) ?_
  simp [ev_seq, ev_region2, evOps_nil, evOps_cons, opG_none, opA_move, opA_assign, opA_call, opA_box, putO_some, putH_lt, boxT, opS, opV, Go.Mx.look, fr0, argSlots, seqK, Fr.newBox, dropBp, mapO, callA, cellsA_agg, okPart_agg, newK, ok18, pl11, plC]
  refine madeN_sp v H _ hv ?_
  simp [ev_seq, ev_cond2, ev_ret, ev_region2, evOps_nil, evOps_cons, opG_none, opG_some, opJ, opU_true, opU_ff, isU_undef, isU_bool, opA_move, opA_assign, opA_pick, opA_un, putO_some, putH_lt, putC_lt, putV_lt, condB_true, pickT, unT, opS, opV, Go.Mx.look, seqK, Fr.known, retK, retA, resA, mapO, unA]
  exact h
theorem unlistN_sp (v : AV) (rm : ByteArray) (H : Hp) (Q : AV → Hp → Prop) (hv : NoDir H v) (h : Q (.v (.bool false)) H) : Sp Tryd.prog 12 [v, .v (.string rm)] Q H := by
  refine Sp.body [] ⟨[5], [], []⟩ [] mo Tryd.func12 rfl (Nat.le_of_ble_eq_true rfl) (by kernel_rfl) ?_
  simp [ev_seq, ev_region2, evOps_nil, evOps_cons, opG_none, opA_move, opA_assign, opA_call, putO_some, putH_lt, opS, opV, Go.Mx.look, fr0, argSlots, seqK, mapO, callA, ok18]
  refine madeN_sp v H _ hv ?_
  simp [ev_seq, ev_cond2, ev_ret, ev_region2, evOps_nil, evOps_cons, opG_none, opA_assign, opA_un, putO_some, putH_lt, putC_lt, condB_true, unT, opS, opV, Go.Mx.look, seqK, Fr.known, retK, retA, resA, mapO, unA]
  exact h
theorem placesN_sp (v : AV) (pt : ByteArray) (fr lm : Int) (H : Hp) (Q : AV → Hp → Prop) (hv : NoDir H v) (h : Q (.tup [.v (.slice none 0 0), .v (.int .i64 0)]) H) : Sp Tryd.prog 8 [v, .v (.string pt), .v (.int .i64 fr), .v (.int .i64 lm)] Q H := by
  refine Sp.body [(5, ⟨[1, 2, 3, 10, 25], [], []⟩), (13, ⟨[10, 14, 15, 49, 50, 51], [], []⟩)] ⟨[12], [], []⟩ [] mo Tryd.func8 rfl (Nat.le_of_ble_eq_true rfl) (by kernel_rfl) ?_
  simp [ev_seq, ev_region2, evOps_nil, evOps_cons, opG_none, opA_move, opA_assign, opA_call, putO_some, putH_lt, opS, opV, Go.Mx.look, fr0, argSlots, seqK, mapO, callA, ok18]
  refine madeN_sp v H _ hv ?_
  simp [ev_seq, ev_cond2, ev_ret, ev_region2, evOps_nil, evOps_cons, opG_none, opA_assign, opA_un, putO_some, putH_lt, putC_lt, condB_true, unT, opS, opV, Go.Mx.look, seqK, Fr.known, retK, retA, resA, mapO, unA]
  exact h

/-! ### AliasNone -/
structure Wt where
  pt : ByteArray
  fr : Int
  lm : Int
def wtC (w : Wt) : List AV := [.v (.string w.pt), .v (.int .i64 w.fr), .v (.int .i64 w.lm)]
theorem want_read {xs : List AV} (h : Shp Tryd.prog 41 xs) : ∃ w : Wt, xs = wtC w := by
  obtain ⟨ps, rfl, hp⟩ := shp_struct Tryd.underlying41 h
  obtain ⟨s1, e1, z1⟩ := shp_str Tryd.underlying9 (hp 0 _ rfl)
  obtain ⟨n1, e2, _⟩ := shp_int Tryd.underlying2 (hp 1 _ rfl)
  obtain ⟨n2, e3, _⟩ := shp_int Tryd.underlying3 (hp 2 _ rfl)
  exact ⟨⟨s1, n1, n2⟩, by simp [List.range_succ, e1, e2, e3, wtC]⟩
def vsN (b : Nat) (i : Nat) : AV := if i = 0 then .v (.pointer none) else .ptr b 0 0
set_option maxHeartbeats 4000000 in
theorem none_law (x : {x : Dd // SzD x}) (w : Wt) : Sp Tryd.prog 5 [.agg (ddC x.1), .agg (wtC w)] (fun v _ => v = .v (.bool true)) [] := by
  obtain ⟨x, hz⟩ := x
  simp only
  refine Sp.body [(5, ⟨[5, 6], [(2, 2, 0), (3, 3, 0)], [2, 3]⟩)] ⟨[2, 3], [], []⟩ [] mo Tryd.func5 rfl (Nat.le_of_ble_eq_true rfl) (by kernel_rfl) ?_
  simp [ev_seq, ev_region2, evOps_nil, evOps_cons, opG_none, opA_assign, opA_load, opA_call, opA_box, opA_buildSlice, putO_some, putH_lt, loadT, boxT, buildSliceT, repeatL_1, opS, opV, Go.Mx.look, fr0, argSlots, seqK, Fr.newBox, dropBp, mapO, callA, cellsA_agg, okPart_agg, partA, loadS, fillA, newK, bindO, Tryd.underlying22, sz35, ag35, ze35, ok6, ddC, wtC]
  have hfew := fun Q h1 h0 => few_sp [x] true [] Q (by simpa using hz) h1 h0
  simp only [List.length_singleton, List.flatMap_cons, List.flatMap_nil, List.append_nil] at hfew
  refine hfew _ (fun hf => ?_) (fun _ => by simp [ev_seq, ev_cond2, ev_ret, ev_region2, evOps_nil, evOps_cons, opG_none, opG_some, opJ, opU_ff, isU_bool, opA_move, opA_assign, opA_pick, opA_un, putO_some, putH_lt, putC_lt, putV_lt, condB_true, pickT, unT, opS, opV, Go.Mx.look, seqK, Fr.known, retK, retA, resA, mapO, unA])
  obtain ⟨f1, f2, f3, f4⟩ := hf.2 x (by simp)
  simp [ev_skip, ev_seq, ev_cond2, ev_block, ev_ret, ev_region2, ev_loop, loopK, evOps_nil, evOps_cons, opG_none, opG_some, opJ, opU_ff, isU_bool, opK_eq, opA_move, opA_assign, opA_pick, opA_bin, opA_un, opA_load, opA_fieldAddr, opA_len, opA_box, opA_buildSlice, opA_build, putO_some, putH_lt, putC_lt, condB_false, binT_some, binA, avO_some, pickT, unT, loadT, lenT_str, fieldAddrT, boxT, buildSliceT, buildZ, partsZ, fillO, aggO, io_gtr, opS, opV, Go.Mx.look, seqK, Fr.known, retK, retA, resA, mapO, unA, cellsA_v, cellsA_agg, cellsA_ptr, okPart_v, okPart_agg, okPart_ptr, Value.oneCell', partA, loadS, plusS, fillA, newK, headK, getV, getB, chkP, firstReg, bindO, orO_some, eqT_some, tk3, sz9, ag9, Tryd.underlying9, sz24, ze24, Tryd.underlying41, ze45, of45, Tryd.underlying46]
  intro hpt
  refine LoopC.intro (fun n xs bs H2 => ∃ i : Nat, i ≤ 2 ∧ n = 2 - i ∧ xs = [.row true 2 [.v (.pointer none), .ptr 0 0 0], .v (.int .i64 i)] ∧ bs = [ddC x, wtC w] ∧ H2 = [.cells 0 [.v (.string ⟨#[]⟩), .v (.map none), .v (.map none)]]) 2 ⟨0, by omega, by omega, by simp, by simp [ddC, wtC], by simp⟩ ?_
  rintro n xs bs H2 ⟨i, hi, rfl, rfl, rfl, rfl⟩
  simp [ev_skip, ev_seq, ev_cond2, ev_block, ev_exit, ev_region2, evOps_nil, evOps_cons, opG_none, opA_move, opA_bin, opA_indexAddr, opA_len, opA_call, putO_some, putH_lt, binT_some, binA, avO_some, lenT_row, indexAddrT, io_lss, opS, opV, Go.Mx.look, seqK, blockK, Fr.known, mapO, callA, indexAddrA, mkFr, slotsOf, ptrsOf, boxesOf, orO_some, eqT_some, tk3, sz24, Tryd.underlying46, ok10, ddC, wtC]
  refine ⟨fun hlt => ?_, fun hge => ?_⟩
  · have hlt : i < 2 := by omega
    have w1 : IntKind.i64.wrap ((i : Int) + 1) = (i : Int) + 1 := wr_i64 (by omega)
    have hx : [AV.v (.pointer none), AV.ptr 0 0 0][i]? = some (vsN 0 i) := by
      rcases i with _ | _ | i
      · rfl
      · rfl
      · omega
    have hv : NoDir [.cells 0 [.v (.string ⟨#[]⟩), .v (.map none), .v (.map none)]] (vsN 0 i) := by
      unfold vsN NoDir
      split
      · exact .inl rfl
      · exact .inr ⟨0, rfl, rfl⟩
    generalize vsN 0 i = v at hx hv
    generalize [Ob.cells 0 [AV.v (.string ⟨#[]⟩), AV.v (.map none), AV.v (.map none)]] = H2 at *
    have hlt3 : (i : Int) < 2 := by omega
    simp [ev_seq, ev_region2, evOps_nil, evOps_cons, opG_none, opA_move, opA_assign, opA_load, opA_fieldAddr, opA_call, putO_some, putH_lt, loadT, fieldAddrT, opS, opV, Go.Mx.look, seqK, mapO, callA, partA, loadA, loadS, plusS, sz2, ag2, sz3, ag3, sz9, ag9, sz24, ag24, Tryd.underlying41, ok8, hlt3, hx]
    refine placesN_sp v w.pt w.fr w.lm H2 _ hv ?_
    simp [ev_seq, ev_region2, evOps_nil, evOps_cons, opG_none, opA_move, opA_assign, opA_extract, opA_load, opA_fieldAddr, opA_call, putO_some, putH_lt, putC_lt, extractT, loadT, fieldAddrT, opS, opV, Go.Mx.look, seqK, mapO, callA, extractA, partA, loadS, plusS, sz9, ag9, Tryd.underlying35, ok13]
    refine putN_sp v x.al x.rm x.by_ H2 _ hv (by omega) (by omega) ?_
    simp [evOps_cons, opG_none, opG_some, opJ, opU_ff, isU_bool, opK_eq, opA_move, opA_bin, opA_load, opA_fieldAddr, opA_call, putO_some, putH_lt, putC_lt, condB_false, binT_some, binA, avO_some, loadT, fieldAddrT, io_neq, opS, opV, Go.Mx.look, Fr.known, mapO, callA, partA, loadS, plusS, orO_some, eqT_some, sz9, ag9, Tryd.underlying35, tk36, ok14]
    refine removeN_sp v x.al x.by_ H2 _ hv ?_
    simp [evOps_cons, opG_none, opG_some, opJ, opU_ff, isU_bool, opK_eq, opA_move, opA_pick, opA_bin, opA_load, opA_fieldAddr, opA_call, putO_some, putH_lt, putC_lt, condB_false, binT_some, binA, avO_some, pickT, loadT, fieldAddrT, io_neq, opS, opV, Go.Mx.look, Fr.known, mapO, callA, partA, loadS, plusS, orO_some, eqT_some, sz9, ag9, Tryd.underlying35, tk36, ok15]
    refine findN_sp v x.al H2 _ hv ?_
    simp [evOps_cons, opG_none, opG_some, opJ, opU_ff, isU_bool, opK_eq, opA_move, opA_pick, opA_bin, opA_load, opA_fieldAddr, opA_call, putO_some, putH_lt, putC_lt, condB_false, binT_some, binA, avO_some, pickT, loadT, fieldAddrT, strOp, opS, opV, Go.Mx.look, Fr.known, mapO, callA, partA, loadS, plusS, orO_some, eqT_some, sz9, ag9, tk9, Tryd.underlying35, ok16]
    refine ofN_sp v x.rm H2 _ hv ?_
    simp [evOps_cons, opG_none, opG_some, opJ, opU_ff, isU_bool, opK_eq, opA_move, opA_pick, opA_bin, opA_load, opA_fieldAddr, opA_len, opA_call, putO_some, putH_lt, putC_lt, condB_false, binT_some, binA, avO_some, pickT, loadT, lenT_nil, fieldAddrT, io_neq, opS, opV, Go.Mx.look, Fr.known, mapO, callA, partA, loadS, plusS, orO_some, eqT_some, tk3, sz30, ag30, Tryd.underlying35, Tryd.underlying50, ok11]
    refine listN_sp v x.p H2 _ hv ?_
    simp [evOps_cons, opG_none, opG_some, opJ, opU_ff, isU_bool, opK_eq, opA_move, opA_pick, opA_bin, opA_load, opA_fieldAddr, opA_call, putO_some, putH_lt, putC_lt, condB_false, binT_some, binA, avO_some, pickT, loadT, fieldAddrT, io_neq, opS, opV, Go.Mx.look, Fr.known, mapO, callA, partA, loadS, plusS, orO_some, eqT_some, sz9, ag9, Tryd.underlying35, tk36, ok12]
    refine unlistN_sp v x.rm H2 _ hv ?_
    simp [ev_skip, ev_cond2, ev_region2, evOps_nil, evOps_cons, opG_none, opG_some, opJ, opU_ff, isU_bool, opK_eq, opA_move, opA_assign, opA_pick, opA_bin, opA_len, putO_some, putH_lt, putC_lt, condB_false, binT_some, binA, avO_some, pickT, lenT_nil, io_add, io_neq, opS, opV, Go.Mx.look, seqK, blockK, Fr.known, mapO, headK, getV, getB, chkP, orO_some, eqT_some, tk2, tk3, Tryd.underlying26, w1]
    exact ⟨2 - (i + 1), by omega, i + 1, by omega, rfl, by simp⟩
  · refine awake_sp _ _ (fun H3 _ => ?_)
    simp [ev_ret, evOps_nil, evOps_cons, opG_none, opA_assign, putO_some, putH_lt, putC_lt, opS, opV, Go.Mx.look, seqK, retK, retA, resA, mapO]
end Go.Proofs.YtgefinddmggpnaaDoor
