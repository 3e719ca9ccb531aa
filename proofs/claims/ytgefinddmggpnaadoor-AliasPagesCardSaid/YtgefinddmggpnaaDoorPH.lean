import Derived.Test.YtgefinddmggpnaaDoorPG
import Derived.Test.YtgefinddmggpnaaDoorPT
import Derived.Test.YtgefinddmggpnaaDoorPR
import Derived.MakeChecks
namespace Go.Proofs.YtgefinddmggpnaaDoor
open Go.Mx
set_option linter.unusedVariables false
set_option linter.unusedSimpArgs false
set_option maxRecDepth 100000

/-- Whether a pattern finds a place. -/
noncomputable def fitsB (pat : List UInt8) (p : Pl) : Bool := decide (pat = []) || decide (tx pat = p.rm) || globB pat p.nm.data.toList || globB pat p.al.data.toList
theorem tx_data_ (s : ByteArray) : tx s.data.toList = s := by simp [tx]
theorem fits2_sp (pat : List UInt8) (hp : pat.length ≤ 60) (p : Pl) (hok : OkPl p) (H : Hp) (hT : Tb H) (Q : AV → Hp → Prop) (h : Q (.v (.bool (fitsB pat p))) H) : Sp Tryd.prog 19 [.agg (plC p), .v (.string (tx pat))] Q H := by
  obtain ⟨_, z1, z2, z3⟩ := hok
  obtain ⟨al, rm, nm, n⟩ := p
  obtain ⟨al, rfl⟩ : ∃ l, al = tx l := tx_of al
  obtain ⟨nm, rfl⟩ : ∃ l, nm = tx l := tx_of nm
  obtain ⟨rm, rfl⟩ : ∃ l, rm = tx l := tx_of rm
  simp only [tx_size] at z1 z2 z3
  unfold fitsB at h
  simp only [tx_data, tx_inj, List.toList_toArray] at h
  refine Sp.body [] ⟨[2], [], []⟩ [] mo Tryd.func19 rfl (Nat.le_of_ble_eq_true rfl) (by kernel_rfl) ?_
  by_cases h0 : pat = []
  · subst h0
    simp at h
    simp [ev_seq, ev_ret, ev_region2, evOps_nil, evOps_cons, opG_none, opG_some, opJ, opU_ff, isU_bool, opA_move, opA_assign, opA_pick, opA_bin, opA_box, putO_some, putH_lt, putV_lt, condB_true, binT_some, binA, avO_some, pickT, boxT, strOp, opS, opV, Go.Mx.look, fr0, argSlots, seqK, Fr.known, Fr.newBox, dropBp, retK, retA, resA, mapO, cellsA_agg, okPart_agg, newK, orO_some, eqT_some, tk9, mk_tx, tx_list, plC]
    exact h
  by_cases h1 : pat = rm
  · subst h1
    simp at h
    simp [ev_seq, ev_ret, ev_region2, evOps_nil, evOps_cons, opG_none, opG_some, opJ, opU_ff, isU_bool, opK_eq, opA_move, opA_assign, opA_pick, opA_bin, opA_load, opA_fieldAddr, opA_box, putO_some, putH_lt, putV_lt, condB_true, condB_false, CondP_false, binT_some, binA, avO_some, pickT, loadT, fieldAddrT, boxT, strOp, opS, opV, Go.Mx.look, fr0, argSlots, seqK, Fr.known, Fr.newBox, dropBp, retK, retA, resA, mapO, cellsA_agg, okPart_agg, partA, loadS, plusS, newK, orO_some, eqT_some, sz9, ag9, tk9, Tryd.underlying30, mk_tx, tx_list, plC, h0]
    exact h
  rw [decide_eq_false h0, decide_eq_false h1] at h
  simp only [Bool.false_or] at h
  simp [ev_seq, ev_region2, evOps_nil, evOps_cons, opG_none, opG_some, opJ, opU_ff, isU_bool, opK_eq, opA_move, opA_assign, opA_pick, opA_bin, opA_load, opA_fieldAddr, opA_call, opA_box, putO_some, putH_lt, condB_false, CondP_false, binT_some, binA, avO_some, pickT, loadT, fieldAddrT, boxT, strOp, opS, opV, Go.Mx.look, fr0, argSlots, seqK, Fr.known, Fr.newBox, dropBp, mapO, callA, cellsA_agg, okPart_agg, partA, loadS, plusS, newK, orO_some, eqT_some, sz9, ag9, tk9, Tryd.underlying30, ok33, mk_tx, tx_list, plC, h0, h1]
  refine glob_sp pat nm (by omega) (by omega) H hT _ ?_
  cases hg : globB pat nm with
  | true =>
    rw [hg] at h
    simp [ev_ret, evOps_nil, evOps_cons, opG_none, opG_some, opJ, opU_ff, isU_bool, opA_move, opA_assign, opA_pick, putO_some, putH_lt, putC_lt, putV_lt, condB_true, pickT, opS, opV, Go.Mx.look, seqK, Fr.known, retK, retA, resA, mapO]
    exact h
  | false =>
    rw [hg] at h
    simp [evOps_cons, opG_none, opG_some, opJ, opU_ff, isU_bool, opK_eq, opA_move, opA_pick, opA_load, opA_fieldAddr, opA_call, putO_some, putH_lt, putC_lt, condB_false, pickT, loadT, fieldAddrT, opS, opV, Go.Mx.look, Fr.known, mapO, callA, partA, loadS, plusS, sz9, ag9, Tryd.underlying30, ok33]
    refine glob_sp pat al (by omega) (by omega) H hT _ ?_
    simp [ev_ret, evOps_nil, evOps_cons, opG_none, opA_assign, opA_pick, putO_some, putH_lt, putC_lt, pickT, opS, opV, Go.Mx.look, seqK, retK, retA, resA, mapO]
    exact h
end Go.Proofs.YtgefinddmggpnaaDoor

namespace Go.Proofs.YtgefinddmggpnaaDoor
open Go.Mx
set_option linter.unusedVariables false
set_option linter.unusedSimpArgs false
set_option maxRecDepth 100000

/-- The places that a pattern finds, in order. -/
structure IsPg (g : ByteArray → Option Pl) (pat : List UInt8) (O : List Pl) : Prop where
  mem : ∀ p, p ∈ O ↔ g p.rm = some p ∧ fitsB pat p = true
  nd : (O.map (·.rm)).Nodup
  ord : O.Pairwise (fun x y => Go.Proofs.ltOf cmpP y x = false)
  few : O.length ≤ 900
def Pg2Inv (H : Hp) (g : ByteArray → Option Pl) (pat : List UInt8) (frm : Nat) (lim : Int) (it m N n : Nat) (xs : List AV) (H5 : Hp) : Prop :=
  ∃ (V : List Pl) (v : AV), xs = [.v (.string (tx pat)), .v (.int .i64 (frm : Int)), .v (.int .i64 lim), v, .it it] ∧ IterAt Tryd.prog 9 H5 it m (fP g) N (V.map (fun p => strV p.rm)) ∧ (∀ p ∈ V, g p.rm = some p) ∧ NewK 4 H H5 (V.filter (fitsB pat)).length ((V.filter (fitsB pat)).flatMap plC) v ∧ Same [] H H5 ∧ n = N - V.length ∧ V.length ≤ N
def P22Inv (H : Hp) (O : List Pl) (frm k : Nat) (v10 : AV) (n : Nat) (xs : List AV) (H5 : Hp) : Prop :=
  ∃ (j : Nat) (v15 : AV), j ≤ k ∧ n = k - j ∧ xs = [v10, .v (.int .i64 ((frm : Int) + (k : Int))), v15, .row false k (intCF frm k), .v (.int .i64 k), .v (.int .i64 j)] ∧ OwnT 4 H5 O.length (O.flatMap plC) v10 ∧ OwnT 4 H5 j (((O.drop frm).take j).flatMap plC) v15 ∧ Same [] H H5 ∧ (∀ j ∈ slId v10, j ∉ slId v15) ∧ ∀ j ∈ slId v15, H.length ≤ j
set_option maxHeartbeats 2000000 in
theorem places2_sp (a : Nat) (D : Dir) (fp : List Nat) (pat : List UInt8) (frm : Nat) (lim : Int) (H : Hp) (Q : AV → Hp → Prop) (hd : DirAt H a D fp) (hw : WfG D.g) (hg : ∀ k p, D.g k = some p → OkPl p) (hT : Tb H) (hpat : pat.length ≤ 60) (hlim : 1 ≤ lim ∧ lim ≤ 9223372036854775807)
    (hfr : ∀ O, IsPg D.g pat O → frm ≤ O.length)
    (h : ∀ O H' k, IsPg D.g pat O → k ≤ O.length - frm → (k : Int) ≤ lim → (k = O.length - frm ∨ (k : Int) = lim) → Same [] H H' → Q (.tup [rowPl ((O.drop frm).take k), .v (.int .i64 ((frm : Int) + (k : Int)))]) H') : Sp Tryd.prog 8 [.ptr a 0 0, .v (.string (tx pat)), .v (.int .i64 (frm : Int)), .v (.int .i64 lim)] Q H := by
  refine rowOutK (k := 4) ?_
  refine Sp.body [(5, ⟨[1, 2, 3, 10, 25], [], []⟩), (13, ⟨[10, 14, 15, 49, 50, 51], [], []⟩)] ⟨[12], [], []⟩ [] mo Tryd.func8 rfl (Nat.le_of_ble_eq_true rfl) (by kernel_rfl) ?_
  simp [ev_seq, ev_region2, evOps_nil, evOps_cons, opG_none, opA_move, opA_assign, opA_call, putO_some, putH_lt, opS, opV, Go.Mx.look, fr0, argSlots, seqK, mapO, callA, ok18]
  refine made_sp a D fp H _ hd ?_
  obtain ⟨m1, m2, g1, g2, g3, g4, rfl⟩ := hd
  obtain ⟨hrm, K0, hK0, hK1⟩ := hw
  simp [ev_skip, ev_seq, ev_cond2, ev_region2, evOps_nil, evOps_cons, opG_none, opA_move, opA_assign, opA_un, opA_load, opA_fieldAddr, opA_nilCheck, putO_some, putH_lt, putC_lt, condB_false, unT, loadT, nilCheckT, fieldAddrT, opS, opV, Go.Mx.look, seqK, Fr.known, unA, partA, loadA, loadS, plusS, nilCheckS, rangeT_some, opA_range, sz43, ag43, Tryd.underlying45, g1]
  refine g3.range Tryd.underlying43 (fun H4 N hit hs4 hl4 => ?_)
  generalize hitn : H.length = it at hit
  simp [ev_block, ev_loop, loopK, evOps_nil, putC_lt, opS, opV, Go.Mx.look, seqK, mapO, headK, getV, getB, chkP, firstReg]
  refine LoopC.intro (fun n xs _ H5 => Pg2Inv H D.g pat frm lim it m2 N n xs H5) N ⟨[], _, rfl, hit, by simp, NewK.nil _ _ _, hs4, by simp, by simp⟩ ?_
  clear hit hs4 hl4 H4
  rintro n xs bx H5 ⟨V, v2, rfl, hit, hVg, hO, hs5, rfl, hVN⟩
  have hVr : (V.map (·.rm)).Nodup := by
    have := hit.nodup
    rw [show V.map (fun p => strV p.rm) = (V.map (·.rm)).map strV by rw [List.map_map]; rfl] at this
    exact strV_nodup this
  have hVl : V.length ≤ 900 := by
    have : (V.map (·.rm)).length ≤ K0.length := hVr.length_le_of_subset (fun s hs => by
      obtain ⟨p, hp, rfl⟩ := List.mem_map.1 hs
      exact hK1 _ (by rw [hVg p hp]; simp))
    rw [List.length_map] at this; omega
  have hFl : (V.filter (fitsB pat)).length ≤ V.length := List.length_filter_le _ _
  simp [ev_seq, ev_region2, evOps_cons, opG_none, opS, opV, Go.Mx.look, mkFr, slotsOf, ptrsOf, boxesOf, nextT_some, opA_next]
  refine hit.next (fun H6 key val hf hkg hnd hlt hit6 hent hs6 hl6 => ?_) (fun hall => ?_)
  · obtain ⟨s, p, rfl, hgs, rfl⟩ := fP_some hf
    obtain rfl := hrm _ _ hgs
    have hs7 : Same [] H H6 := hs5.trans hs6 (by simp; omega)
    have hO6 : NewK 4 H H6 (V.filter (fitsB pat)).length ((V.filter (fitsB pat)).flatMap plC) v2 := hO.same hs6 (fun id ver hv => by
      rcases hO with ⟨_, _, h2⟩ | ⟨_, _, id2, ver2, tl, h2, h3, _⟩
      · rw [h2] at hv; simp at hv
      · rw [h2] at hv; simp at hv
        obtain ⟨es, c, ds, h4, _⟩ := hit
        simp only [List.mem_singleton]
        rintro rfl
        rw [← hv.1, h3] at h4; simp at h4)
    have hKN : V.length < N := by simpa using hlt
    have hVg' : ∀ q ∈ V ++ [p], D.g q.rm = some q := fun q hq => by
      rcases List.mem_append.1 hq with hq | hq
      · exact hVg q hq
      · simp at hq; subst hq; exact hgs
    simp only [strV, plC] at hent
    simp [ev_skip, ev_seq, ev_cond2, ev_block, ev_region2, evOps_nil, evOps_cons, opG_none, opA_move, opA_extract, opA_load, opA_call, opA_alloc, opA_store, putO_some, putH_lt, putC_lt, putU_none, condB_true, avO_some, extractT, loadT, allocT, storeT, opS, opV, Go.Mx.look, seqK, Fr.known, Fr.newBox, dropBp, mapO, callA, extractA, cellsA_agg, okPart_agg, partA, loadS, newK, storeS, opA_entry, entryT_some, sz30, ag30, ze30, ok19, hent, splice]
    refine fits2_sp pat hpat p (hg _ _ hgs) H6 (hT.same hs7) _ ?_
    cases hfit : fitsB pat p with
    | false =>
      have hfl : (V ++ [p]).filter (fitsB pat) = V.filter (fitsB pat) := by rw [List.filter_append, List.filter_cons, hfit]; simp
      simp [ev_skip, ev_cond2, evOps_nil, putC_lt, condB_false, opS, opV, Go.Mx.look, seqK, blockK, Fr.known, mapO, headK, getV, getB, chkP]
      exact ⟨N - (V.length + 1), by omega, V ++ [p], v2, rfl, by simpa using hit6, hVg', by rw [hfl]; exact hO6, hs7, by simp, by simp; omega⟩
    | true =>
    have hfl : (V ++ [p]).filter (fitsB pat) = V.filter (fitsB pat) ++ [p] := by rw [List.filter_append, List.filter_cons, hfit]; simp
    simp [ev_cond2, ev_region2, evOps_nil, evOps_cons, opG_none, opA_move, opA_load, opA_buildSlice, opA_append, putO_some, putH_lt, putC_lt, condB_true, loadT, buildSliceT, appendT, repeatL_1, opS, opV, Go.Mx.look, seqK, Fr.known, mapO, cellsA_agg, okPart_agg, partA, loadS, fillA, bindO, srcTy, st26, Tryd.underlying26, sz30, ag30, by30, ze30]
    refine hO6.app (by simp) hs7.1 (by omega) (fun v3 H7 fp hO7 hs8 hfp => ?_)
    have hnot : ∀ j o, H6[j]? = some o → (∀ ver cs, o ≠ .cells ver cs) → j ∉ fp := fun j o hj hno hm => by
      obtain ⟨_, ver, ds, h1⟩ := hfp j hm
      rw [h1] at hj; simp at hj
      exact hno ver ds hj.symm
    have hit7 : IterAt Tryd.prog 9 H7 it m2 (fP D.g) N (V.map (fun p => strV p.rm) ++ [strV p.rm]) := by
      refine hit6.same hs8 ?_ ?_
      · obtain ⟨es, c, ds, h4, _⟩ := hit6; exact hnot _ _ h4 (by simp)
      · obtain ⟨es, c, ds, _, h4, _⟩ := hit6; exact hnot _ _ h4 (by simp)
    simp [evOps_nil, evOps_cons, opG_none, opA_assign, putO_some, putH_lt, putC_lt, opS, opV, Go.Mx.look, seqK, blockK, mapO, headK, getV, getB, chkP]
    exact ⟨N - (V.length + 1), by omega, V ++ [p], v3, rfl, by simpa using hit7, hVg', by rw [hfl]; simpa [plC] using hO7, hs7.new hs8 (fun j hj => (hfp j hj).1), by simp, by simp; omega⟩
  · have hmem : ∀ p, p ∈ V.filter (fitsB pat) ↔ D.g p.rm = some p ∧ fitsB pat p = true := fun p => by
      rw [List.mem_filter]
      refine ⟨fun ⟨h1, h2⟩ => ⟨hVg p h1, h2⟩, fun ⟨hp, h2⟩ => ⟨?_, h2⟩⟩
      have := hall (strV p.rm) (.agg (plC p)) (by simp [fP, strV, hp])
      obtain ⟨q, hq, e⟩ := List.mem_map.1 this
      have e2 : q.rm = p.rm := by simpa [strV] using e
      have e3 := hVg q hq
      rw [e2, hp] at e3
      simp at e3; subst e3; exact hq
    have hOr : ((V.filter (fitsB pat)).map (·.rm)).Nodup := hVr.sublist (List.filter_sublist.map _)
    generalize hOeq : V.filter (fitsB pat) = O at hmem hOr hO hFl
    have hOl : O.length ≤ 900 := by omega
    simp [ev_seq, ev_cond2, ev_exit, ev_region2, evOps_nil, evOps_cons, opG_none, opA_move, opA_extract, opA_call, putO_some, putH_lt, putC_lt, condB_false, extractT, opS, opV, Go.Mx.look, seqK, blockK, Fr.known, mapO, callA, extractA]
    rcases hO with ⟨h1, h2, rfl⟩ | ⟨h0, h1, id, ver, tl, rfl, h3, h4⟩
    · have hO0 : O = [] := by simpa using h1
      subst hO0
      refine Sp.sortFuncNil laySortF ?_
      have hO : NewK 4 H H5 ([] : List Pl).length (([] : List Pl).flatMap plC) (.v (.slice none 0 0)) := NewK.nil _ _ _
      have hord : ([] : List Pl).Pairwise (fun x y => Go.Proofs.ltOf cmpP y x = false) := List.Pairwise.nil
      generalize AV.v (.slice none 0 0) = v10 at hO ⊢
      clear hOeq
      generalize ([] : List Pl) = l' at *
      have hpg : IsPg D.g pat l' := ⟨hmem, hOr, hord, hOl⟩
      have hfr' := hfr l' hpg
      have hl10 := hO.lenT
      simp [ev_seq, ev_region2, evOps_nil, evOps_cons, opG_none, opA_move, opA_len, opA_call, opA_buildSlice, putO_some, putH_lt, putC_lt, buildSliceT, opS, opV, Go.Mx.look, seqK, mapO, callA, cellsA_v, okPart_v, Value.oneCell', fillA, bindO, sz4, ze4, Tryd.underlying26, Tryd.underlying64, ok26, hl10]
      refine repeat_sp l'.length H5 _ (by omega) (fun H6 hs6 => ?_)
      simp [evOps_cons, opG_none, opA_move, opA_call, putO_some, putH_lt, putC_lt, opS, opV, Go.Mx.look, mapO, callA, ok25]
      refine forward2_sp l'.length frm lim H6 _ hfr' (by omega) hlim (fun H7 k hs7 hk1 hk2 hk3 => ?_)
      simp [ev_seq, ev_block, ev_region2, ev_loop, loopK, evOps_nil, evOps_cons, opG_none, opA_move, opA_assign, opA_extract, opA_len, putO_some, putH_lt, putC_lt, extractT, lenT_row, opS, opV, Go.Mx.look, seqK, mapO, extractA, headK, getV, getB, chkP, firstReg, Tryd.underlying61]
      obtain ⟨oT, oJ⟩ := OwnT.of hO
      have hs57 : Same [] H5 H7 := hs6.trans hs7 (by simp)
      refine LoopC.intro (fun q xs _ H8 => P22Inv H l' frm k v10 q xs H8) k ⟨0, .v (.slice none 0 0), by omega, by omega, by simp, oT.same hs57 (by simp), by simpa using OwnT.nil 4 H7, hs5.trans hs57 (by simp), by simp [slId], by simp [slId]⟩ ?_
      rintro q xs bs H8 ⟨j, v15, hj, rfl, rfl, o10, o15, hs8, hd8, hj8⟩
      simp [ev_skip, ev_seq, ev_cond2, ev_block, ev_exit, ev_ret, ev_region2, evOps_nil, evOps_cons, opG_none, opA_move, opA_assign, opA_bin, opA_indexAddr, putO_some, putH_lt, binT_some, binA, avO_some, indexAddrT, io_lss, opS, opV, Go.Mx.look, seqK, blockK, Fr.known, retK, retA, resA, mapO, indexAddrA, mkFr, slotsOf, ptrsOf, boxesOf, orO_some, eqT_some, sz3, tk3, Tryd.underlying61]
      refine ⟨fun hlt => ?_, fun hge => ?_⟩
      · have hlt : j < k := by omega
        have hfj : frm + j < l'.length := by omega
        obtain ⟨p, hx⟩ : ∃ p, l'[frm + j]? = some p := ⟨_, List.getElem?_eq_getElem hfj⟩
        have hik := intCF_get (a := frm) hlt
        have hlt3 : (frm : Int) + (j : Int) < (l'.length : Int) := by omega
        have hge3 : (0 : Int) ≤ (frm : Int) + (j : Int) := by omega
        have wk : IntKind.i64.wrap ((j : Int) + 1) = (j : Int) + 1 := wr_i64 (by omega)
        rcases o10 with ⟨q1, _⟩ | ⟨q1, q2, id, ver, tl, rfl, hid⟩
        · omega
        have hsub := flat_sub2 plC_len hx tl
        have hle := flat_le plC_len hx
        have hle2 : (frm + j) * 4 + 4 ≤ (l'.flatMap plC ++ tl).length := by rw [List.length_append]; omega
        have htk : (l'.drop frm).take (j + 1) = (l'.drop frm).take j ++ [p] := by rw [List.take_add_one, List.getElem?_drop, hx]; rfl
        have o10' : OwnT 4 H8 l'.length (l'.flatMap plC) (.sl id ver 4 0 l'.length) := .inr ⟨q1, q2, id, ver, tl, rfl, hid⟩
        have hnat : ((frm : Int) + (j : Int)).toNat = frm + j := by omega
        generalize hcs : l'.flatMap plC ++ tl = cs at *
        simp [ev_region2, evOps_nil, evOps_cons, opG_none, opA_move, opA_assign, opA_load, opA_indexAddr, opA_buildSlice, opA_append, putO_some, putH_lt, loadT, indexAddrT, buildSliceT, appendT, repeatL_1, opS, opV, Go.Mx.look, seqK, mapO, cellsA_agg, okPart_agg, partA, loadA, loadS, indexAddrA, fillA, bindO, srcTy, sz3, ag3, st26, Tryd.underlying26, sz30, ag30, by30, ze30, hlt, hik, hlt3, hge3, hnat, hid, hsub, hle2, plC]
        refine o15.app (by simp) (by omega) (fun v16 H9 o16 hs9 hid9 => ?_)
        have hj16 : ∀ i ∈ slId v16, i ∈ slId v15 ∨ i = H8.length := fun i hi => by
          rcases hid9 with e | e
          · rw [e] at hi; exact .inl hi
          · rw [e] at hi; simp at hi; exact .inr hi
        simp [ev_region2, evOps_nil, evOps_cons, opG_none, opA_move, opA_assign, opA_bin, putO_some, putH_lt, putC_lt, binT_some, binA, avO_some, io_add, opS, opV, Go.Mx.look, seqK, blockK, mapO, headK, getV, getB, chkP, orO_some, eqT_some, tk3, wk]
        refine ⟨k - (j + 1), by omega, j + 1, v16, by omega, rfl, by simp, o10'.same hs9 hd8, by rw [htk]; simpa [plC] using o16, hs8.new hs9 hj8, fun i hi hm => ?_, fun i hi => ?_⟩
        · rcases hj16 i hm with h8 | h8
          · exact hd8 i hi h8
          · have := o10'.lt i hi; omega
        · rcases hj16 i hi with h8 | h8
          · exact hj8 i h8
          · have := hs8.1; omega
      · obtain rfl : j = k := by omega
        have hlk : ((l'.drop frm).take j).length = j := by rw [List.length_take, List.length_drop]; omega
        have h' := fun H9 hs9 => h l' H9 j hpg hk1 hk2 hk3 hs9
        simp only [rowPl, hlk] at h'
        exact ⟨_, _, ⟨rfl, rfl⟩, by simp, hs8, _, _, o15.new hj8, fun H9 hs9 => h' H9 hs9⟩
    · refine Sp.sortFunc (k := 4) (enc := encP) (cf := cmpP) (l := O) laySortF Tryd.isAgg30 Tryd.sizeOf30 (fun _ => rfl) (fun x v hv => by simp [encP] at hv; rcases hv with rfl | rfl | rfl | rfl <;> rfl) swoP enters21 cmpIs21 h3 (by simp [h1]) ?_ (by omega) (fun l' hp hpw => ?_)
      · rw [List.drop_zero, ← h1]
        simp
        rfl
      · have hlen : l'.length = O.length := hp.length_eq
        have hcl : (l'.flatMap (cellsOfK encP)).length = O.length * 4 := by
          show (l'.flatMap plC).length = _
          rw [flat_len plC_len, hlen]
        have hs : splice (O.flatMap plC ++ tl) 0 (l'.flatMap (cellsOfK encP)) = l'.flatMap plC ++ tl := by
          unfold splice
          rw [hcl, List.take_zero, List.nil_append, Nat.zero_add]
          have : (O.flatMap plC ++ tl).drop (O.length * 4) = tl := by rw [← h1]; simp
          rw [this]; rfl
        rw [hs]
        have hO : NewK 4 H (H5.set id (.cells ver (l'.flatMap plC ++ tl))) l'.length (l'.flatMap plC) (.sl id ver 4 0 O.length) := by
          rw [hlen]
          refine .inr ⟨h0, by rw [flat_len plC_len, hlen], id, ver, tl, rfl, ?_, h4⟩
          rw [List.getElem?_set_self (Hp.lt h3)]
        replace hs5 : Same [] H (H5.set id (.cells ver (l'.flatMap plC ++ tl))) := hs5.new (Same.set (fp := [id]) (by simp)) (by simpa using h4)
        generalize H5.set id (.cells ver (l'.flatMap plC ++ tl)) = H5 at *
        replace hmem : ∀ p, p ∈ l' ↔ D.g p.rm = some p ∧ fitsB pat p = true := fun p => hp.mem_iff.trans (hmem p)
        replace hOr : (l'.map (·.rm)).Nodup := (hp.map _).nodup_iff.2 hOr
        replace hOl : l'.length ≤ 900 := by omega
        have hord := hpw
        generalize AV.sl id ver 4 0 O.length = v10 at *
        have hpg : IsPg D.g pat l' := ⟨hmem, hOr, hord, hOl⟩
        have hfr' := hfr l' hpg
        have hl10 := hO.lenT
        simp [ev_seq, ev_region2, evOps_nil, evOps_cons, opG_none, opA_move, opA_len, opA_call, opA_buildSlice, putO_some, putH_lt, putC_lt, buildSliceT, opS, opV, Go.Mx.look, seqK, mapO, callA, cellsA_v, okPart_v, Value.oneCell', fillA, bindO, sz4, ze4, Tryd.underlying26, Tryd.underlying64, ok26, hl10]
        refine repeat_sp l'.length H5 _ (by omega) (fun H6 hs6 => ?_)
        simp [evOps_cons, opG_none, opA_move, opA_call, putO_some, putH_lt, putC_lt, opS, opV, Go.Mx.look, mapO, callA, ok25]
        refine forward2_sp l'.length frm lim H6 _ hfr' (by omega) hlim (fun H7 k hs7 hk1 hk2 hk3 => ?_)
        simp [ev_seq, ev_block, ev_region2, ev_loop, loopK, evOps_nil, evOps_cons, opG_none, opA_move, opA_assign, opA_extract, opA_len, putO_some, putH_lt, putC_lt, extractT, lenT_row, opS, opV, Go.Mx.look, seqK, mapO, extractA, headK, getV, getB, chkP, firstReg, Tryd.underlying61]
        obtain ⟨oT, oJ⟩ := OwnT.of hO
        have hs57 : Same [] H5 H7 := hs6.trans hs7 (by simp)
        refine LoopC.intro (fun q xs _ H8 => P22Inv H l' frm k v10 q xs H8) k ⟨0, .v (.slice none 0 0), by omega, by omega, by simp, oT.same hs57 (by simp), by simpa using OwnT.nil 4 H7, hs5.trans hs57 (by simp), by simp [slId], by simp [slId]⟩ ?_
        rintro q xs bs H8 ⟨j, v15, hj, rfl, rfl, o10, o15, hs8, hd8, hj8⟩
        simp [ev_skip, ev_seq, ev_cond2, ev_block, ev_exit, ev_ret, ev_region2, evOps_nil, evOps_cons, opG_none, opA_move, opA_assign, opA_bin, opA_indexAddr, putO_some, putH_lt, binT_some, binA, avO_some, indexAddrT, io_lss, opS, opV, Go.Mx.look, seqK, blockK, Fr.known, retK, retA, resA, mapO, indexAddrA, mkFr, slotsOf, ptrsOf, boxesOf, orO_some, eqT_some, sz3, tk3, Tryd.underlying61]
        refine ⟨fun hlt => ?_, fun hge => ?_⟩
        · have hlt : j < k := by omega
          have hfj : frm + j < l'.length := by omega
          obtain ⟨p, hx⟩ : ∃ p, l'[frm + j]? = some p := ⟨_, List.getElem?_eq_getElem hfj⟩
          have hik := intCF_get (a := frm) hlt
          have hlt3 : (frm : Int) + (j : Int) < (l'.length : Int) := by omega
          have hge3 : (0 : Int) ≤ (frm : Int) + (j : Int) := by omega
          have wk : IntKind.i64.wrap ((j : Int) + 1) = (j : Int) + 1 := wr_i64 (by omega)
          rcases o10 with ⟨q1, _⟩ | ⟨q1, q2, id, ver, tl, rfl, hid⟩
          · omega
          have hsub := flat_sub2 plC_len hx tl
          have hle := flat_le plC_len hx
          have hle2 : (frm + j) * 4 + 4 ≤ (l'.flatMap plC ++ tl).length := by rw [List.length_append]; omega
          have htk : (l'.drop frm).take (j + 1) = (l'.drop frm).take j ++ [p] := by rw [List.take_add_one, List.getElem?_drop, hx]; rfl
          have o10' : OwnT 4 H8 l'.length (l'.flatMap plC) (.sl id ver 4 0 l'.length) := .inr ⟨q1, q2, id, ver, tl, rfl, hid⟩
          have hnat : ((frm : Int) + (j : Int)).toNat = frm + j := by omega
          generalize hcs : l'.flatMap plC ++ tl = cs at *
          simp [ev_region2, evOps_nil, evOps_cons, opG_none, opA_move, opA_assign, opA_load, opA_indexAddr, opA_buildSlice, opA_append, putO_some, putH_lt, loadT, indexAddrT, buildSliceT, appendT, repeatL_1, opS, opV, Go.Mx.look, seqK, mapO, cellsA_agg, okPart_agg, partA, loadA, loadS, indexAddrA, fillA, bindO, srcTy, sz3, ag3, st26, Tryd.underlying26, sz30, ag30, by30, ze30, hlt, hik, hlt3, hge3, hnat, hid, hsub, hle2, plC]
          refine o15.app (by simp) (by omega) (fun v16 H9 o16 hs9 hid9 => ?_)
          have hj16 : ∀ i ∈ slId v16, i ∈ slId v15 ∨ i = H8.length := fun i hi => by
            rcases hid9 with e | e
            · rw [e] at hi; exact .inl hi
            · rw [e] at hi; simp at hi; exact .inr hi
          simp [ev_region2, evOps_nil, evOps_cons, opG_none, opA_move, opA_assign, opA_bin, putO_some, putH_lt, putC_lt, binT_some, binA, avO_some, io_add, opS, opV, Go.Mx.look, seqK, blockK, mapO, headK, getV, getB, chkP, orO_some, eqT_some, tk3, wk]
          refine ⟨k - (j + 1), by omega, j + 1, v16, by omega, rfl, by simp, o10'.same hs9 hd8, by rw [htk]; simpa [plC] using o16, hs8.new hs9 hj8, fun i hi hm => ?_, fun i hi => ?_⟩
          · rcases hj16 i hm with h8 | h8
            · exact hd8 i hi h8
            · have := o10'.lt i hi; omega
          · rcases hj16 i hi with h8 | h8
            · exact hj8 i h8
            · have := hs8.1; omega
        · obtain rfl : j = k := by omega
          have hlk : ((l'.drop frm).take j).length = j := by rw [List.length_take, List.length_drop]; omega
          have h' := fun H9 hs9 => h l' H9 j hpg hk1 hk2 hk3 hs9
          simp only [rowPl, hlk] at h'
          exact ⟨_, _, ⟨rfl, rfl⟩, by simp, hs8, _, _, o15.new hj8, fun H9 hs9 => h' H9 hs9⟩
end Go.Proofs.YtgefinddmggpnaaDoor

namespace Go.Proofs.YtgefinddmggpnaaDoor
open Go.Mx
set_option linter.unusedVariables false
set_option linter.unusedSimpArgs false
set_option maxRecDepth 100000

/-! ### The places that a pattern finds: one row -/
theorem ord_anti {x y : Pl} (h1 : Go.Proofs.ltOf cmpP y x = false) (h2 : Go.Proofs.ltOf cmpP x y = false) : x.rm = y.rm := by
  rw [cmpP_nlt] at h1 h2
  have hn : x.n = y.n := by omega
  have e1 : ¬ txl y.rm < txl x.rm := by rcases h1 with h | h; omega; exact h.2
  have e2 : ¬ txl x.rm < txl y.rm := by rcases h2 with h | h; omega; exact h.2
  exact Classical.byContradiction fun e => (lt_tri e).elim e2 e1
theorem pw_perm {α : Type} {R : α → α → Prop} : ∀ {l l' : List α}, (∀ a ∈ l, ∀ b ∈ l, R a b → R b a → a = b) → l.Perm l' → l.Pairwise R → l'.Pairwise R → l = l'
  | [], l', _, hp, _, _ => (List.Perm.nil_eq hp)
  | a :: l, [], _, hp, _, _ => by simp at hp
  | a :: l, b :: l', ha, hp, h1, h2 => by
    have hab : a = b := by
      rcases List.mem_cons.1 (hp.mem_iff.1 (List.mem_cons_self ..)) with e | hm
      · exact e
      rcases List.mem_cons.1 (hp.mem_iff.2 (List.mem_cons_self ..)) with e | hm'
      · exact e.symm
      exact ha a (List.mem_cons_self ..) b (List.mem_cons_of_mem _ hm') ((List.pairwise_cons.1 h1).1 b hm') ((List.pairwise_cons.1 h2).1 a hm)
    subst hab
    rw [pw_perm (fun x hx y hy => ha x (List.mem_cons_of_mem _ hx) y (List.mem_cons_of_mem _ hy)) (List.Perm.cons_inv hp) (List.pairwise_cons.1 h1).2 (List.pairwise_cons.1 h2).2]
theorem IsPg.uniq {g : ByteArray → Option Pl} {pat : List UInt8} {O O' : List Pl} (h : IsPg g pat O) (h' : IsPg g pat O') : O = O' := by
  refine pw_perm (fun a ha b hb h1 h2 => ?_) ((List.perm_ext_iff_of_nodup (nodup_of h.nd) (nodup_of h'.nd)).2 fun p => by rw [h.mem, h'.mem]) h.ord h'.ord
  have e := ord_anti h1 h2
  have e1 := ((h.mem a).1 ha).1
  have e2 := ((h.mem b).1 hb).1
  rw [e, e2] at e1
  simpa using e1.symm
theorem IsPg.le {g : ByteArray → Option Pl} {pat : List UInt8} {O O2 : List Pl} (h : IsPg g pat O) (h2 : IsPg g [] O2) : O.length ≤ O2.length := by
  refine (nodup_of h.nd).length_le_of_subset fun p hp => (h2.mem p).2 ⟨((h.mem p).1 hp).1, by simp [fitsB]⟩
theorem IsPg.num {g : ByteArray → Option Pl} {pat : List UInt8} {O : List Pl} (h : IsPg g pat O) {n : Nat} (hg : GOk g n) : O.length ≤ n := by
  obtain ⟨_, K, hK, hk⟩ := hg
  have : (O.map (·.rm)).length ≤ K.length := h.nd.length_le_of_subset (fun s hs => by
    obtain ⟨p, hp, rfl⟩ := List.mem_map.1 hs
    exact hk _ (by rw [((h.mem p).1 hp).1]; simp))
  rw [List.length_map] at this; omega
/-- One and the next: fewer members, or as many and a later room. -/
theorem IsPg.next {g : ByteArray → Option Pl} {pat : List UInt8} {O : List Pl} (h : IsPg g pat O) {i : Nat} {x y : Pl} (hx : O[i]? = some x) (hy : O[i + 1]? = some y) : y.n < x.n ∨ (x.n = y.n ∧ txl x.rm < txl y.rm) := by
  obtain ⟨hi, ex⟩ := List.getElem?_eq_some_iff.1 hx
  obtain ⟨hj, ey⟩ := List.getElem?_eq_some_iff.1 hy
  have h1 := List.pairwise_iff_getElem.1 h.ord i (i + 1) hi hj (by omega)
  rw [ex, ey, cmpP_nlt] at h1
  have hne : x.rm ≠ y.rm := by
    have := List.pairwise_iff_getElem.1 (List.nodup_iff_pairwise_ne.1 h.nd) i (i + 1) (by simpa using hi) (by simpa using hj) (by omega)
    simpa [ex, ey] using this
  rcases h1 with h1 | ⟨h1, h2⟩
  · exact .inl h1
  · exact .inr ⟨h1.symm, (lt_tri hne).elim id (fun e => absurd e h2)⟩

/-! ### Rows that are put together -/
theorem OwnT.appM {k n m : Nat} {H : Hp} {cs c : List AV} {v : AV} {x : Bool} {bytes : Nat} {K : AV → Hp → Prop} (h : OwnT k H n cs v) (hc : c.length = m * k) (hb : (n + m) * bytes ≤ 140737488355328 ∧ n + m ≤ 4611686018427387904)
    (hq : ∀ v' H', OwnT k H' (n + m) (cs ++ c) v' → Same (slId v) H H' → (slId v' = slId v ∨ slId v' = [H.length]) → K v' H') : appA H k bytes v (.row x m c) K := by
  by_cases hm : m = 0
  · subst hm
    have hc0 : c = [] := by simpa using hc
    subst hc0
    rcases h with ⟨rfl, rfl, rfl⟩ | ⟨h0, h1, id, ver, tl, rfl, h3⟩
    · have := hq _ H (.inl ⟨rfl, rfl, rfl⟩) (Same.refl _ _) (.inl rfl)
      simp [appA, srcA]; exact this
    · have h5 := hq (.sl id (ver + 1) k 0 n) (H.set id (.cells (ver + 1) cs)) (.inr ⟨h0, by simpa using h1, id, ver + 1, [], by simp, by rw [List.getElem?_set_self (Hp.lt h3)]; simp⟩) (Same.set (by simp [slId])) (.inl rfl)
      simp [appA, srcA, h3]
      refine ⟨⟨by omega, hb.1, hb.2⟩, ?_⟩
      have e : (cs ++ tl).take (n * k) = cs := by rw [← h1]; simp
      rw [e]; exact h5
  · rcases h with ⟨rfl, rfl, rfl⟩ | ⟨h0, h1, id, ver, tl, rfl, h3⟩
    · have h1 := hq (.sl H.length 0 k 0 m) (H ++ [.cells 0 c]) (.inr ⟨by omega, by simp [hc], H.length, 0, [], by simp, by simp⟩) (Same.app _ _ _) (.inr rfl)
      simp at hb
      simp [appA, srcA, hb, hc, hm]
      exact h1
    · have h5 := hq (.sl id (ver + 1) k 0 (n + m)) (H.set id (.cells (ver + 1) (cs ++ c))) (.inr ⟨by omega, by rw [List.length_append, h1, hc, Nat.add_mul], id, ver + 1, [], by simp, by rw [List.getElem?_set_self (Hp.lt h3)]; simp⟩) (Same.set (by simp [slId])) (.inl rfl)
      simp [appA, srcA, h3, hc]
      refine ⟨⟨by omega, hb.1, by omega⟩, ?_⟩
      have e : (cs ++ tl).take (n * k) = cs := by rw [← h1]; simp
      rw [e]; exact h5
theorem OwnT.frzR {P : Go.Program} {f k n : Nat} {H : Hp} {cs : List AV} {v : AV} {Q : AV → Hp → Prop} {x : Bool} {m : Nat} {c : List AV} (h : OwnT k H n cs v) (q : ∀ H', Same (slId v) H H' → Sp P f [.row x m c, .row false n cs] Q H') : Sp P f [.row x m c, v] Q H := by
  rcases h with ⟨rfl, rfl, rfl⟩ | ⟨h0, h1, id, ver, tl, rfl, h3⟩
  · exact Sp.argW (args' := [.row x m c, .row false 0 []]) ⟨Wk.refl _, Wk.nil _, trivial⟩ (q _ (Same.refl _ _))
  · refine Sp.frzArgs h3 ?_
    have e : [AV.row x m c, AV.sl id ver k 0 n].map (frz id ver (cs ++ tl)) = [.row x m c, .row false n cs] := by
      have e1 : frz id ver (cs ++ tl) (.sl id ver k 0 n) = .row false n cs := by
        have : (cs ++ tl).take (n * k) = cs := by rw [← h1]; simp
        simp [frz, frz2, frz1, this, h1]
      show [_, _] = _
      rw [e1]; rfl
    rw [e]
    exact q _ (Same.set (by simp [slId]))

/-! ### Rows that are the same -/
theorem same9_sp (O : List Pl) (H : Hp) (Q : AV → Hp → Prop) (hO : ∀ p ∈ O, OkPl p) (hl : O.length ≤ 100000) (h : Q (.v (.bool true)) H) : Sp Tryd.prog 9 [rowPl O, rowPl O] Q H := by
  obtain ⟨cs, hcs⟩ : ∃ cs, cs = O.flatMap plC := ⟨_, rfl⟩
  have hr : rowPl O = .row false O.length cs := by rw [hcs]; rfl
  have lc : cs.length = O.length * 4 := by rw [hcs, flat_len plC_len]
  have at_ : ∀ {i : Nat} {x : Pl}, O[i]? = some x → (cs.drop (i * 4)).take 4 = plC x := fun h => by rw [hcs]; exact flat_sub plC_len O _ h
  clear hcs
  rw [hr]
  refine Sp.body [(4, ⟨[0, 1, 5], [], []⟩)] ⟨[], [], pl9⟩ tb9 mo Tryd.func9 rfl (Nat.le_of_ble_eq_true rfl) (by kernel_rfl) ?_
  simp [ev_skip, ev_seq, ev_cond2, ev_block, ev_region2, ev_loop, loopK, evOps_nil, evOps_cons, opG_none, opA_move, opA_assign, opA_bin, opA_len, putO_some, putH_lt, condB_false, binT_some, binA, avO_some, lenT_row, io_neq, opS, opV, Go.Mx.look, fr0, argSlots, seqK, Fr.known, mapO, headK, getV, getB, chkP, firstReg, orO_some, eqT_some, tk3, Tryd.underlying26, pl9]
  refine LoopC.intro (fun n xs _ H2 => ∃ i : Nat, i ≤ O.length ∧ n = O.length - i ∧ xs = [.row false O.length cs, .row false O.length cs, .v (.int .i64 i)] ∧ H2 = H) O.length ⟨0, by omega, by omega, by simp, rfl⟩ ?_
  rintro n xs bs H2 ⟨i, hi, rfl, rfl, rfl⟩
  by_cases hlt : i < O.length
  · have hx := List.getElem?_eq_getElem hlt
    generalize O[i] = x at hx
    have hs := at_ hx
    have hle : i * 4 + 4 ≤ cs.length := by omega
    obtain ⟨w, z1, z2, z3⟩ := hO x (List.mem_of_getElem? hx)
    have hk := good30 w z1 z2 z3
    have he : eqAgg Tryd.prog 30 .neq (.agg (plC x)) (.agg (plC x)) = some (.v (.bool false)) := by simp [eqAgg, hk]
    simp only [plC] at he hs
    have w1 : IntKind.i64.wrap ((i : Int) + 1) = (i : Int) + 1 := wr_i64 (by omega)
    simp [ev_skip, ev_seq, ev_cond2, ev_block, ev_region2, evOps_nil, evOps_cons, opG_none, opA_move, opA_assign, opA_bin, opA_load, opA_indexAddr, opA_len, putO_some, putH_lt, condB_true, condB_false, binT_some, binA, eqRef, avO_some, avO_none, loadT, lenT_row, indexAddrT, io_add, io_lss, opS, opV, Go.Mx.look, seqK, blockK, Fr.known, mapO, partA, loadA, loadS, indexAddrA, headK, getV, getB, chkP, mkFr, slotsOf, ptrsOf, boxesOf, orO_some, orO_none, eqT_some, ev_draw, drawK, evP_nil, evP_q, opAt_some, tk3, Tryd.underlying26, sz30, ag30, tk30, hlt, hs, hle, he, w1]
    exact ⟨O.length - (i + 1), by omega, i + 1, by omega, rfl, by simp⟩
  · have : i = O.length := by omega
    subst this
    simp [ev_seq, ev_cond2, ev_exit, ev_ret, ev_region2, evOps_nil, evOps_cons, opG_none, opA_move, opA_assign, opA_bin, opA_len, putO_some, putH_lt, condB_false, binT_some, binA, avO_some, lenT_row, io_lss, opS, opV, Go.Mx.look, seqK, blockK, Fr.known, retK, retA, resA, mapO, mkFr, slotsOf, ptrsOf, boxesOf, orO_some, eqT_some, tk3, Tryd.underlying26]
    exact h
end Go.Proofs.YtgefinddmggpnaaDoor

namespace Go.Proofs.YtgefinddmggpnaaDoor
open Go.Mx
set_option linter.unusedVariables false
set_option linter.unusedSimpArgs false
set_option maxRecDepth 100000

/-! ### AliasPages -/
def PgsInv (a : Nat) (D : Dir) (fp : List Nat) (pat : List UInt8) (lim : Int) (O : List Pl) (H0 : Hp) (n : Nat) (xs : List AV) (H : Hp) : Prop :=
  ∃ (i c : Nat) (v : AV), i ≤ 60 ∧ n = 60 - i ∧ c ≤ O.length ∧ (i ≤ c ∨ c = O.length) ∧ OwnT 4 H c ((O.take c).flatMap plC) v ∧ (∀ j ∈ slId v, H0.length ≤ j) ∧ Same [] H0 H ∧
    xs = [.v (.string (tx pat)), .v (.int .i64 lim), .ptr a 0 0, rowPl O, v, .v (.int .i64 (c : Int)), .v (.int .i64 (i : Int))]
set_option maxHeartbeats 4000000 in
theorem pages_law (l : {l : List Dd // ∀ x ∈ l, SzD x ∧ WfP x.p}) (pt : ByteArray) (hzp : pt.size ≤ 140737488351232) (lim : Int) (hwl : (Lit.int .i64 lim).wf = true) : Sp Tryd.prog 3 [ddsV l.1, .v (.string pt), .v (.int .i64 lim)] (fun v _ => v = .v (.bool true)) [.tab 0 firstT, .tab 1 acceptT] := by
  obtain ⟨l, hz⟩ := l
  simp only
  have hlimr : lim ≤ 9223372036854775807 := by simp [Lit.wf, IntKind.min, IntKind.max, IntKind.signed, IntKind.bits] at hwl; omega
  clear hwl
  obtain ⟨pat, rfl⟩ := tx_of pt
  have hT0 : Tb [.tab 0 firstT, .tab 1 acceptT] := ⟨rfl, rfl⟩
  generalize ([.tab 0 firstT, .tab 1 acceptT] : Hp) = H0 at hT0 ⊢
  refine Sp.body [(10, ⟨[1, 2, 7, 8, 10, 11, 12], [], []⟩), (18, ⟨[7, 8, 10, 15], [], []⟩)] ⟨[], [], pl3⟩ tb3 mo Tryd.func3 rfl (Nat.le_of_ble_eq_true rfl) (by kernel_rfl) ?_
  simp [ev_seq, ev_region2, evOps_nil, evOps_cons, opG_none, opA_move, opA_assign, opA_call, putO_some, putH_lt, opS, opV, Go.Mx.look, fr0, argSlots, seqK, mapO, callA, ok6, pl3, mk_tx, ddsV]
  refine few_sp l false H0 _ (fun x hx => (hz x hx).1) (fun hfl => ?_) (fun _ => by simp [ev_seq, ev_cond2, ev_ret, ev_region2, evOps_nil, evOps_cons, opG_none, opG_some, opJ, opU_ff, isU_bool, opA_move, opA_assign, opA_pick, opA_un, putO_some, putH_lt, putC_lt, putV_lt, condB_true, pickT, unT, opS, opV, Go.Mx.look, seqK, Fr.known, retK, retA, resA, mapO, unA])
  rw [tx_size] at hzp
  simp [ev_skip, ev_seq, ev_cond2, ev_ret, ev_region2, evOps_nil, evOps_cons, opG_none, opG_some, opJ, opU_ff, isU_bool, opK_eq, opA_move, opA_assign, opA_pick, opA_bin, opA_un, opA_len, opA_call, putO_some, putH_lt, putC_lt, putV_lt, condB_true, condB_false, binT_some, binA, avO_some, pickT, unT, lenT_str, io_lss, io_gtr, opS, opV, Go.Mx.look, seqK, Fr.known, retK, retA, resA, mapO, unA, callA, orO_some, eqT_some, tk3, Tryd.underlying9, ok7, tx_size]
  intro hp60 hl1
  refine built2_sp _ l H0 _ (.inl ⟨false, rfl⟩) hfl (fun x hx => (hz x hx).2) (fun a H1 D fp hd1 hok hs1 hfp => ?_)
  obtain ⟨hok, hgk⟩ := hok
  have hl50 := hfl.1
  have hwf : WfG D.g := by
    obtain ⟨⟨h1, K, h2, h3⟩, _⟩ := hgk
    exact ⟨h1, K, by omega, h3⟩
  simp [ev_skip, ev_seq, ev_cond2, ev_region2, evOps_nil, evOps_cons, opG_none, opA_move, opA_assign, opA_bin, opA_call, putO_some, putH_lt, putC_lt, condB_false, binT_some, binA, eqRef, avO_some, opS, opV, Go.Mx.look, seqK, Fr.known, mapO, callA, orO_some, eqT_some, tk24, ok8]
  refine places2_sp a D fp pat 0 1000 H1 _ hd1 hwf hgk.2 (hT0.same hs1) (by omega) (by omega) (fun O _ => Nat.zero_le _) (fun O H2 k hO hk1 hk2 hk3 hs2 => ?_)
  have hOl : O.length ≤ 50 := Nat.le_trans (hO.num hgk.1) hl50
  obtain rfl : k = O.length := by omega
  rw [List.drop_zero, List.take_length]
  have hs12 := hs1.trans hs2 (by simp)
  have hd2 := hd1.same hs2 (by simp)
  have hrow : rowPl O = .row false O.length (O.flatMap plC) := rfl
  obtain ⟨R, hR⟩ : ∃ R, R = rowPl O := ⟨_, rfl⟩
  rw [← hR]
  simp [ev_seq, ev_block, ev_region2, ev_loop, loopK, evOps_nil, evOps_cons, opG_none, opA_move, opA_assign, opA_extract, putO_some, putH_lt, putC_lt, extractT, opS, opV, Go.Mx.look, seqK, mapO, extractA, headK, getV, getB, chkP, firstReg]
  refine LoopC.intro (fun n xs _ H => PgsInv a D fp pat lim O H2 n xs H) 60 ⟨0, 0, .v (.slice none 0 0), by omega, by omega, by omega, .inl (by omega), by simpa using OwnT.nil 4 H2, by simp [slId], Same.refl _ _, by simp [hR]⟩ ?_
  rintro n xs bs H3 ⟨i, c, v, hi, rfl, hc, hic, ho, hj, hs3, rfl⟩
  have hd3 := hd2.same hs3 (by simp)
  have hT3 := (hT0.same hs12).same hs3
  by_cases hlt : i < 60
  · have wi : IntKind.i64.wrap ((i : Int) + 1) = (i : Int) + 1 := wr_i64 (by omega)
    have hlt' : (i : Int) < 60 := by omega
    simp [ev_skip, ev_seq, ev_cond2, ev_block, ev_region2, evOps_nil, evOps_cons, opG_none, opA_move, opA_bin, opA_call, putO_some, putH_lt, condB_true, binT_some, binA, avO_some, io_lss, opS, opV, Go.Mx.look, seqK, Fr.known, mapO, callA, mkFr, slotsOf, ptrsOf, boxesOf, orO_some, eqT_some, tk3, ok8, hlt']
    refine places2_sp a D fp pat c lim H3 _ hd3 hwf hgk.2 hT3 (by omega) ⟨by omega, hlimr⟩ (fun O' h' => by rw [h'.uniq hO]; exact hc) (fun O' H4 k hO' hk1 hk2 hk3 hs4 => ?_)
    obtain rfl := hO'.uniq hO
    have hpgl : ((O'.drop c).take k).length = k := by rw [List.length_take, List.length_drop]; omega
    have hpr : rowPl ((O'.drop c).take k) = .row false k (((O'.drop c).take k).flatMap plC) := by unfold rowPl; rw [hpgl]
    have htk : O'.take (c + k) = O'.take c ++ (O'.drop c).take k := List.take_add
    rw [hpr]
    have ho4 := ho.same hs4 (by simp)
    have hkl : ¬ (lim < (k : Int)) := by omega
    have hge : ¬ ((c : Int) + (k : Int) < (c : Int)) := by omega
    simp [ev_skip, ev_seq, ev_cond2, ev_region2, evOps_nil, evOps_cons, opG_none, opG_some, opJ, opU_ff, isU_bool, opK_eq, opA_move, opA_assign, opA_pick, opA_bin, opA_extract, opA_len, opA_append, putO_some, putH_lt, putC_lt, condB_false, binT_some, binA, avO_some, pickT, extractT, lenT_row, appendT, io_lss, io_gtr, opS, opV, Go.Mx.look, seqK, Fr.known, extractA, srcTy, orO_some, eqT_some, tk2, tk3, st26, Tryd.underlying26, sz30, by30, ze30, hkl, hge]
    refine ho4.appM (by rw [flat_len plC_len, hpgl]) ⟨by omega, by omega⟩ (fun v' H5 ho5 hs5 hid5 => ?_)
    simp [ev_region2, evOps_nil, evOps_cons, opG_none, opA_move, opA_assign, opA_bin, putO_some, putH_lt, putC_lt, binT_some, binA, avO_some, io_add, opS, opV, Go.Mx.look, seqK, blockK, mapO, headK, getV, getB, chkP, orO_some, eqT_some, tk3, wi]
    refine ⟨60 - (i + 1), by omega, i + 1, c + k, v', by omega, rfl, by omega, by omega, by rw [htk, List.flatMap_append]; exact ho5, fun j h8 => ?_, (hs3.trans hs4 (by simp)).new hs5 hj, by simp⟩
    rcases hid5 with e | e
    · rw [e] at h8; exact hj j h8
    · rw [e] at h8; simp at h8; subst h8
      exact Nat.le_trans hs3.1 hs4.1
  · have hi60 : i = 60 := by omega
    have hcO : c = O.length := by omega
    subst hi60; subst hcO
    rw [List.take_length] at ho
    obtain ⟨cs, hcs⟩ : ∃ cs, cs = O.flatMap plC := ⟨_, rfl⟩
    have hRr : R = .row false O.length cs := by rw [hR, hcs]; rfl
    have lc : cs.length = O.length * 4 := by rw [hcs, flat_len plC_len]
    have at_ : ∀ {i : Nat} {x : Pl}, O[i]? = some x → ∀ j < 4, cs[i * 4 + j]? = (plC x)[j]? := fun h j hj => by rw [hcs]; exact flat_get plC_len h j hj
    rw [← hR]
    simp [ev_seq, ev_cond2, ev_block, ev_exit, ev_region2, ev_loop, loopK, evOps_nil, evOps_cons, opG_none, opA_move, opA_assign, opA_bin, putO_some, putH_lt, condB_false, binT_some, binA, avO_some, io_lss, opS, opV, Go.Mx.look, seqK, blockK, Fr.known, mapO, headK, getV, getB, chkP, mkFr, slotsOf, ptrsOf, boxesOf, firstReg, orO_some, eqT_some, tk3]
    refine LoopC.intro (fun n xs _ H => ∃ i : Nat, 1 ≤ i ∧ i ≤ O.length + 1 ∧ n = O.length + 1 - i ∧ xs = [.ptr a 0 0, R, v, .v (.int .i64 (i : Int))] ∧ H = H3) O.length ⟨1, by omega, by omega, by omega, by simp, rfl⟩ ?_
    rintro n xs bs H ⟨i, hi1, hi2, rfl, rfl, rfl⟩
    rw [hRr]
    by_cases hlt2 : i < O.length
    · have hlt' : (i : Int) < (O.length : Int) := by omega
      have wm : IntKind.i64.wrap ((i : Int) - 1) = ((i - 1 : Nat) : Int) := by rw [wr_i64 (by omega)]; omega
      have wi : IntKind.i64.wrap ((i : Int) + 1) = (i : Int) + 1 := wr_i64 (by omega)
      have hlt1 : i - 1 < O.length := by omega
      obtain ⟨x, hx⟩ : ∃ x, O[i - 1]? = some x := ⟨_, List.getElem?_eq_getElem hlt1⟩
      obtain ⟨y, hy⟩ : ∃ y, O[i]? = some y := ⟨_, List.getElem?_eq_getElem hlt2⟩
      have hxy := hO.next hx (by rw [Nat.sub_add_cancel hi1]; exact hy)
      have gx1 := at_ hx 1 (by omega)
      have gx3 := at_ hx 3 (by omega)
      have gy1 := at_ hy 1 (by omega)
      have gy3 := at_ hy 3 (by omega)
      simp [plC] at gx1 gx3 gy1 gy3
      have stp : ∃ m, m < O.length + 1 - i ∧ ∃ i_1 : Nat, 1 ≤ i_1 ∧ i_1 ≤ O.length + 1 ∧ m = O.length + 1 - i_1 ∧ (i : Int) + 1 = (i_1 : Int) := ⟨O.length + 1 - (i + 1), by omega, i + 1, by omega, by omega, rfl, by omega⟩
      simp [ev_skip, ev_seq, ev_cond2, ev_block, ev_ret, ev_region2, evOps_nil, evOps_cons, opG_none, opG_some, opJ, opU_true, opU_ft, opU_ff, isU_undef, isU_bool, opK_eq, opA_move, opA_assign, opA_pick, opA_bin, opA_load, opA_indexAddr, opA_fieldAddr, opA_len, putO_some, putH_lt, putV_lt, condB_true, condB_false, binT_some, binA, avO_some, pickT, loadT, lenT_row, fieldAddrT, indexAddrT, io_add, io_sub, io_eql, io_lss, strOp, opS, opV, Go.Mx.look, seqK, blockK, Fr.known, retK, retA, resA, mapO, partA, loadA, loadS, plusS, indexAddrA, headK, getV, getB, chkP, mkFr, slotsOf, ptrsOf, boxesOf, orO_some, eqT_some, ev_draw, drawK, evP_nil, evP_q, opAt_some, sz3, ag3, tk3, sz9, ag9, tk9, Tryd.underlying26, sz30, Tryd.underlying30, hlt', wm, hlt1, gx1, gx3, gy1, gy3, wi, Go.Proofs.bytesLess_eq]
      rcases hxy with h1 | ⟨h1, h2⟩
      · exact ⟨by omega, fun _ => ⟨fun e => by omega, fun _ => stp⟩⟩
      · exact ⟨by omega, fun _ => ⟨fun _ => ⟨h2, fun _ => stp⟩, fun _ => stp⟩⟩
    · have hlt' : ¬ ((i : Int) < (O.length : Int)) := by omega
      simp [ev_seq, ev_cond2, ev_exit, ev_region2, evOps_nil, evOps_cons, opG_none, opA_move, opA_bin, opA_len, opA_call, putO_some, putH_lt, condB_false, binT_some, binA, avO_some, lenT_row, io_lss, opS, opV, Go.Mx.look, seqK, blockK, Fr.known, mapO, callA, mkFr, slotsOf, ptrsOf, boxesOf, orO_some, eqT_some, tk3, Tryd.underlying26, ok8, hlt']

      refine places2_sp a D fp [] 0 1000 H _ hd3 hwf hgk.2 hT3 (by simp) (by omega) (fun O _ => Nat.zero_le _) (fun O2 H4 k2 hO2 hk21 hk22 hk23 hs4 => ?_)
      have hO2l : O2.length ≤ 50 := Nat.le_trans (hO2.num hgk.1) hl50
      obtain rfl : k2 = O2.length := by omega
      rw [List.drop_zero, List.take_length]
      have hle := hO.le hO2
      have ho4 := ho.same hs4 (by simp)
      simp [ev_seq, ev_region2, evOps_nil, evOps_cons, opG_none, opA_move, opA_assign, opA_extract, opA_call, putO_some, putH_lt, putC_lt, extractT, opS, opV, Go.Mx.look, seqK, mapO, callA, extractA, ok9, rowPl]
      refine ho4.frzR (fun H5 hs5 => ?_)
      have hsm := fun Q h => same9_sp O H5 Q (fun p hp => hgk.2 _ p ((hO.mem p).1 hp).1) (by omega) h
      rw [← hR, hRr] at hsm
      rw [← hcs]
      refine hsm _ ?_
      simp [evOps_cons, opG_none, opG_some, opJ, opU_ft, isU_bool, opK_eq, opA_move, opA_pick, opA_bin, opA_len, opA_call, putO_some, putH_lt, putC_lt, condB_true, binT_some, binA, avO_some, pickT, lenT_row, io_leq, opS, opV, Go.Mx.look, Fr.known, mapO, callA, orO_some, eqT_some, tk3, Tryd.underlying26, ok10, hle]
      refine awake_sp H5 _ (fun H6 _ => ?_)
      simp [ev_ret, evOps_nil, evOps_cons, opG_none, opA_assign, opA_pick, putO_some, putH_lt, putC_lt, pickT, opS, opV, Go.Mx.look, seqK, retK, retA, resA, mapO]
end Go.Proofs.YtgefinddmggpnaaDoor

namespace Go.Proofs.YtgefinddmggpnaaDoor
open Go.Mx
set_option linter.unusedVariables false
set_option linter.unusedSimpArgs false
set_option maxRecDepth 100000

/-! ### The tables, as the statement lists them -/
theorem mapM_at {α β : Type} {f : α → Option β} : ∀ {l : List α} {ys : List β}, l.mapM f = some ys → ys.length = l.length ∧ ∀ (i : Nat) (a : α), l[i]? = some a → ∃ y, ys[i]? = some y ∧ f a = some y
  | [], ys, h => by
    simp at h; subst h
    exact ⟨rfl, fun i a h => by simp at h⟩
  | x :: l, ys, h => by
    rw [List.mapM_cons] at h
    cases hx : f x with
    | none => rw [hx] at h; simp at h
    | some y =>
      cases hl : l.mapM f with
      | none => rw [hx, hl] at h; simp at h
      | some ys' =>
        rw [hx, hl] at h
        simp at h; subst h
        obtain ⟨h1, h2⟩ := mapM_at hl
        refine ⟨by simp [h1], fun i a ha => ?_⟩
        cases i with
        | zero => simp at ha; subst ha; exact ⟨y, rfl, hx⟩
        | succ i => simpa using h2 i a (by simpa using ha)
section
variable {H : Type} {enc : TypeId × Value → H} {P : Go.Program} {w : World} {base : Nat} {spare : Nat → Bool} {held : Bool}
theorem trod_arr {t e : TypeId} {n fuel : Nat} {cs : List Value} {ds : List (DataW H)} {p : List MemPlace} (hu : P.underlying t = some (.array n e)) (h : DataW.trod enc P w base spare held fuel t cs = some (.agg ds, p)) :
    cs.length = P.cellsOf t ∧ ∀ (i : Nat) (d : DataW H), i < n → ds[i]? = some d → ∃ q f2, DataW.trod enc P w base spare held f2 e ((cs.drop (i * P.cellsOf e)).take (P.cellsOf e)) = some (d, q) := by
  cases fuel with
  | zero => simp [DataW.trod] at h
  | succ fuel =>
    unfold DataW.trod at h
    simp only [hu] at h
    split at h
    · rename_i hl
      refine ⟨hl, fun i d hi hd => ?_⟩
      simp only [Option.map_eq_some_iff] at h
      obtain ⟨xs, hm, he⟩ := h
      simp only [Prod.mk.injEq, DataW.agg.injEq] at he
      obtain ⟨y, hy, hf⟩ := (mapM_at hm).2 i i (by simp [hi])
      have : ds[i]? = some y.1 := by rw [← he.1, List.getElem?_map, hy]; rfl
      rw [this] at hd
      simp at hd; subst hd
      exact ⟨y.2, fuel, hf⟩
    · simp at h
theorem trod_str {t : TypeId} {fs : Array Field} {fuel : Nat} {cs : List Value} {ds : List (DataW H)} {p : List MemPlace} (hu : P.underlying t = some (.struct fs)) (h : DataW.trod enc P w base spare held fuel t cs = some (.agg ds, p)) :
    cs.length = P.cellsOf t ∧ ∀ (i : Nat) (f : Field) (d : DataW H), fs.toList[i]? = some f → ds[i]? = some d → ∃ q f2, DataW.trod enc P w base spare held f2 f.type ((cs.drop f.offset).take (P.cellsOf f.type)) = some (d, q) := by
  cases fuel with
  | zero => simp [DataW.trod] at h
  | succ fuel =>
    unfold DataW.trod at h
    simp only [hu] at h
    split at h
    · rename_i hl
      refine ⟨hl, fun i f d hf hd => ?_⟩
      simp only [Option.map_eq_some_iff] at h
      obtain ⟨xs, hm, he⟩ := h
      simp only [Prod.mk.injEq, DataW.agg.injEq] at he
      obtain ⟨y, hy, hf2⟩ := (mapM_at hm).2 i f hf
      have : ds[i]? = some y.1 := by rw [← he.1, List.getElem?_map, hy]; rfl
      rw [this] at hd
      simp at hd; subst hd
      exact ⟨y.2, fuel, hf2⟩
    · simp at h
theorem trod_lit {t : TypeId} {k k' : IntKind} {z : Int} {fuel : Nat} {cs : List Value} {p : List MemPlace} (hu : P.underlying t = some (.int k)) (h : DataW.trod enc P w base spare held fuel t cs = some (.lit (.int k' z), p)) : cs = [.int k z] := by
  obtain ⟨n, hcs, hx, _⟩ := DataW.trod_int hu h
  simp at hx
  rw [hcs, hx.1.2]
end
theorem firstZ : Go.Pinned.utf8FirstZ = firstN := by kernel_rfl
/-- The sixteen pairs. -/
def pairsN : List (Nat × Nat) := [(128, 191), (160, 191), (128, 159), (144, 191), (128, 143)] ++ List.replicate 11 (0, 0)
theorem laid1 : (Rows.laid_unicode_utf8_acceptRanges : DataW Unit) = .agg (pairsN.map fun x => .agg [.lit (.int .u8 (x.1 : Nat)), .lit (.int .u8 (x.2 : Nat))]) := by rfl
theorem fields137 : ∃ f0 f1 : Field, Tryd.prog.underlying 137 = some (.struct #[f0, f1]) ∧ f0.type = 5 ∧ f0.offset = 0 ∧ f1.type = 5 ∧ f1.offset = 1 := ⟨_, _, Tryd.underlying137, rfl, rfl, rfl, rfl⟩
theorem first_of {w : World} {fuel : Nat} {cs : List Value} {p : List MemPlace} (h : DataW.trod (fun _ => ()) Tryd.prog w 0 (fun _ => true) false fuel 135 cs = some (Rows.laid_unicode_utf8_first, p)) : ∀ i, i < firstT.length → cs[i]? = some (firstT.getD i undef) := by
  intro i hi
  have h' : DataW.trod (fun _ => ()) Tryd.prog w 0 (fun _ => true) false fuel 135 cs = some (.agg (Go.Pinned.numbers .u8 Go.Pinned.utf8FirstZ), p) := h
  rw [firstZ] at h'
  obtain ⟨hl, hat⟩ := trod_arr (n := 256) (e := 5) (by kernel_rfl) h'
  have hi' : i < firstN.length := by simpa [firstT] using hi
  have h256 : firstN.length = 256 := by kernel_rfl
  obtain ⟨q, f2, h2⟩ := hat i (.lit (.int .u8 (firstN[i] : Nat))) (by omega) (by simp [Go.Pinned.numbers, hi'])
  have hc5 : Tryd.prog.cellsOf 5 = 1 := by kernel_rfl
  have h3 := trod_lit (k := .u8) (by kernel_rfl) h2
  rw [hc5, Nat.mul_one] at h3
  have h4 : cs[i]? = some (.int .u8 (firstN[i] : Nat)) := by
    have := congrArg (fun l => l[0]?) h3
    simpa [List.getElem?_take, List.getElem?_drop] using this
  rw [h4]
  simp [firstT, List.getD_eq_getElem?_getD, hi']
theorem accept_pair : ∀ i, i < 16 → ∃ x : Nat × Nat, pairsN[i]? = some x ∧ acceptN[i * 2]? = some x.1 ∧ acceptN[i * 2 + 1]? = some x.2 := by decide
theorem accept_of {w : World} {fuel : Nat} {cs : List Value} {p : List MemPlace} (h : DataW.trod (fun _ => ()) Tryd.prog w 0 (fun _ => true) false fuel 138 cs = some (Rows.laid_unicode_utf8_acceptRanges, p)) : ∀ i, i < acceptT.length → cs[i]? = some (acceptT.getD i undef) := by
  rw [laid1] at h
  obtain ⟨hl, hat⟩ := trod_arr (n := 16) (e := 137) (by kernel_rfl) h
  obtain ⟨f0, f1, hu, t0, o0, t1, o1⟩ := fields137
  have hc137 : Tryd.prog.cellsOf 137 = 2 := by kernel_rfl
  have hc5 : Tryd.prog.cellsOf 5 = 1 := by kernel_rfl
  have key : ∀ i, i < 16 → ∀ x : Nat × Nat, pairsN[i]? = some x → cs[i * 2]? = some (.int .u8 (x.1 : Nat)) ∧ cs[i * 2 + 1]? = some (.int .u8 (x.2 : Nat)) := by
    intro i hi x hx
    obtain ⟨q, f2, h2⟩ := hat i (.agg [.lit (.int .u8 (x.1 : Nat)), .lit (.int .u8 (x.2 : Nat))]) hi (by rw [List.getElem?_map, hx]; rfl)
    rw [hc137] at h2
    obtain ⟨_, hf⟩ := trod_str hu h2
    obtain ⟨q0, g0, e0⟩ := hf 0 f0 _ rfl rfl
    obtain ⟨q1, g1, e1⟩ := hf 1 f1 _ rfl rfl
    rw [t0] at e0
    rw [t1] at e1
    have k0 := trod_lit (k := .u8) (by kernel_rfl) e0
    have k1 := trod_lit (k := .u8) (by kernel_rfl) e1
    rw [o0, hc5] at k0
    rw [o1, hc5] at k1
    have j0 := congrArg (fun l => l[0]?) k0
    have j1 := congrArg (fun l => l[0]?) k1
    simp [List.getElem?_drop] at j0 j1
    exact ⟨j0, j1⟩
  intro i hi
  have h32 : acceptT.length = 32 := by kernel_rfl
  obtain ⟨x, hx, a0, a1⟩ := accept_pair (i / 2) (by omega)
  obtain ⟨c0, c1⟩ := key (i / 2) (by omega) x hx
  rcases Nat.mod_two_eq_zero_or_one i with hm | hm
  · have : i / 2 * 2 = i := by omega
    rw [this] at c0 a0
    rw [c0]
    simp [acceptT, List.getD_eq_getElem?_getD, a0]
  · have : i / 2 * 2 + 1 = i := by omega
    rw [this] at c1 a1
    rw [c1]
    simp [acceptT, List.getD_eq_getElem?_getD, a1]
theorem one_cells (l : List Nat) : ∀ u ∈ l.map (fun n => Value.int .u8 (n : Nat)), u.oneCell' = true := by
  intro u hu
  obtain ⟨n, _, rfl⟩ := List.mem_map.1 hu
  rfl
theorem var_heap {P : Go.Program} {w : World} {n : String} {g : Nat} {cs : Array Value} (hg : P.globalNamed n = some g) (h : w.var? P n = some cs) : immOf w g = some cs := by
  unfold World.var? at h
  rw [hg] at h
  simp only [Option.bind_some] at h
  unfold immOf
  split at h
  · rename_i arr t fz hh
    rw [hh]; simpa using h
  · simp at h
theorem tabs_of {w : World} (h : laidMetH Tryd.prog Rows.aliasPagesRow.laid w) : Tabs (immOf w) [.tab 0 firstT, .tab 1 acceptT] := by
  rw [MakeChecks.laidMetH_plain _ _ _ (by kernel_rfl)] at h
  obtain ⟨ps, hv, _, _⟩ := h
  obtain ⟨g, t, cs, fuel, p, q, hg, ht, hc, htr, hv2, _⟩ := hv
  obtain ⟨g2, t2, cs2, fuel2, p2, q2, hg2, ht2, hc2, htr2, hv3, _⟩ := hv2
  obtain rfl : g = 1 := Option.some.inj (hg.symm.trans (by kernel_rfl))
  obtain rfl : g2 = 0 := Option.some.inj (hg2.symm.trans (by kernel_rfl))
  obtain rfl : t = 138 := Option.some.inj (ht.symm.trans (by kernel_rfl))
  obtain rfl : t2 = 135 := Option.some.inj (ht2.symm.trans (by kernel_rfl))
  have h1 := accept_of htr
  have h0 := first_of htr2
  have i1 := var_heap hg hc
  have i0 := var_heap hg2 hc2
  intro id o ho
  match id, ho with
  | 0, ho =>
    simp at ho; subst ho
    refine .inr ⟨_, rfl, rfl, one_cells _, cs2, i0, fun i hi => ?_⟩
    have := h0 i hi
    rw [Array.getElem?_toList] at this
    simpa using this
  | 1, ho =>
    simp at ho; subst ho
    refine .inr ⟨_, rfl, rfl, one_cells _, cs, i1, fun i hi => ?_⟩
    have := h1 i hi
    rw [Array.getElem?_toList] at this
    simpa using this
  | n + 2, ho => simp at ho
end Go.Proofs.YtgefinddmggpnaaDoor
