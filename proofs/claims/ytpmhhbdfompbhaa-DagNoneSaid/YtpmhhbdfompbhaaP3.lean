import Derived.Test.YtpmhhbdfompbhaaP2
namespace Go.Proofs.Ytpmhhbdfompbhaa
open Go.Mx Go.Dag
set_option linter.unusedVariables false
set_option linter.unusedSimpArgs false

/-- What is put together of rows: nothing, or an object of its own. -/
def PV (H H' : Hp) (z : List Int) (v : AV) : Prop := (z = [] ∧ v = .row true 0 [] ∧ H' = H) ∨ (z ≠ [] ∧ ∃ ver, v = .sl H.length ver 1 0 z.length ∧ H' = H ++ [.cells ver (z.map intV)])
theorem pv_app {H H' : Hp} {z b : List Int} {v : AV} {K : AV → Hp → Prop} (h : PV H H' z v) (hb : z.length + b.length ≤ 1000) (k : ∀ v' H'', PV H H'' (z ++ b) v' → K v' H'') : appA H' 1 8 v (rowZ b) K := by
  rcases h with ⟨rfl, rfl, rfl⟩ | ⟨h1, ver, rfl, rfl⟩
  · cases b with
    | nil =>
      simp [appA, srcA, rowZ]
      exact k _ _ (.inl ⟨rfl, rfl, rfl⟩)
    | cons x b =>
      simp at hb
      simp [appA, srcA, rowZ]
      exact ⟨by omega, k _ _ (.inr ⟨by simp, 0, by simp, by simp⟩)⟩
  · simp [appA, srcA, rowZ]
    refine ⟨by omega, ?_⟩
    have := k (.sl H.length (ver + 1) 1 0 (z ++ b).length) (H ++ [.cells (ver + 1) ((z ++ b).map intV)]) (.inr ⟨by simp [h1], ver + 1, rfl, rfl⟩)
    simpa using this
theorem pv_past {H H' : Hp} {z : List Int} {v : AV} (h : PV H H' z v) (gv : AV) (L : List Th) (hG : Dag.Good L) (Q : AV → Hp → Prop) (hg : GrV H gv L) (hgl : ∃ g, gv = .ptr g 0 0) (hL : L.length ≤ 100000) (hl : z.length ≤ 100000)
    (hq : ∀ H2, Same [] H H2 → Q (rowI (pastL L false z)) H2) : Sp Try.prog 16 [gv, v] Q H' := by
  obtain ⟨g, rfl⟩ := hgl
  rcases h with ⟨rfl, rfl, rfl⟩ | ⟨h1, ver, rfl, rfl⟩
  · exact Sp.argW (args' := [.ptr g 0 0, rowZ []]) ⟨Wk.refl _, Wk.row, trivial⟩ (pastR_sp _ L hG [] _ Q hg hL (by simp) (hq _ (Same.refl _ _)))
  · have hid : (H ++ [Ob.cells ver (z.map intV)])[H.length]? = some (.cells ver (z.map intV)) := by simp
    refine Sp.frzArgs hid ?_
    have hset : (H ++ [Ob.cells ver (z.map intV)]).set H.length .dead = H ++ [.dead] := by simp
    rw [hset]
    have e : [AV.ptr g 0 0, AV.sl H.length ver 1 0 z.length].map (Go.Mx.frz H.length ver (z.map intV)) = [.ptr g 0 0, rowZ z] := by
      simp [Go.Mx.frz, Go.Mx.frz2, Go.Mx.frz1, rowZ]
    rw [e]
    have hs : Same [] H (H ++ [Ob.dead]) := Same.app _ _ _
    exact pastR_sp _ L hG z _ Q (hg.same hs) hL hl (hq _ hs)
theorem inP_iff (L : List Th) (au : Bool) (z : List Int) (i : Nat) (hi : i < L.length) : (i : Int) ∈ ofN (pastL L au z) ↔ past L au z i = true := by
  rw [mem_ofN]
  constructor
  · rintro ⟨j, hj, e⟩
    have : j = i := by omega
    subst this
    exact (mem_whereN.1 hj).2
  · intro h; exact ⟨i, mem_whereN.2 ⟨hi, h⟩, rfl⟩

set_option maxHeartbeats 2000000 in
theorem union_law (l : List Dd) (a b : List Int) (ha0 : a.length ≤ 140737488351232) (hb0 : b.length ≤ 140737488351232) : Sp Try.prog 4 [ddsV l, rowZ a, rowZ b] (fun v _ => v = .v (.bool true)) [] := by
  refine Sp.body [(6, ⟨[7, 9, 10, 11, 12, 13], [], []⟩), (12, ⟨[9, 12, 14, 15], [], []⟩)] ⟨[], [], []⟩ [] mo Try.func4 rfl (Nat.le_of_ble_eq_true rfl) (by kernel_rfl) ?_
  have w0 : IntKind.i64.wrap ((a.length : Int) + (b.length : Int)) = (a.length : Int) + (b.length : Int) := wr_i64 (by omega)
  simp [ev_seq, ev_region2, evOps_nil, evOps_cons, opG_none, opA_move, opA_assign, opA_call, putO_some, putH_lt, opS, opV, Go.Mx.look, fr0, argSlots, seqK, mapO, callA, ok10, rowZ]
  refine few_sp l _ _ (fun hf => ?_) (fun hf => by simp [ev_seq, ev_cond2, ev_ret, ev_region2, evOps_nil, evOps_cons, opG_none, opG_some, opJ, opU_ff, isU_bool, opA_move, opA_assign, opA_pick, opA_un, putO_some, putH_lt, putC_lt, putV_lt, condB_true, pickT, unT, opS, opV, Go.Mx.look, seqK, Fr.known, retK, retA, resA, mapO, unA])
  simp [ev_skip, ev_seq, ev_cond2, ev_ret, ev_region2, evOps_nil, evOps_cons, opG_none, opG_some, opJ, opU_ff, isU_bool, opK_eq, opA_move, opA_assign, opA_pick, opA_bin, opA_un, opA_len, opA_call, putO_some, putH_lt, putC_lt, condB_false, binT_some, binA, avO_some, pickT, unT, lenT_row, io_add, io_gtr, opS, opV, Go.Mx.look, seqK, Fr.known, retK, retA, resA, mapO, unA, callA, orO_some, eqT_some, tk3, Try.underlying30, ok11, w0]
  intro hk
  refine both_sp l [] _ hf (fun H1 g a1 fpg fpr hg hr hs => ?_)
  have hG := addAll_good l
  have hL60 : (addAll l).length ≤ 60 := by have := addAll_len l; have := hf.1; omega
  have hL : (addAll l).length ≤ 100000 := by omega
  generalize hLL : addAll l = L at hg hr hG hL hL60
  have hgv := hg.val
  clear hr
  simp [ev_seq, ev_region2, evOps_nil, evOps_cons, opG_none, opA_move, opA_assign, opA_extract, opA_call, putO_some, putH_lt, putC_lt, extractT, opS, opV, Go.Mx.look, seqK, mapO, callA, extractA, ok16]
  refine pastR_sp _ _ hG a H1 _ hgv hL (by omega) ?_
  simp [evOps_cons, opG_none, opA_move, opA_call, putO_some, putH_lt, putC_lt, opS, opV, Go.Mx.look, mapO, callA, ok16]
  refine pastR_sp _ _ hG b H1 _ hgv hL (by omega) ?_
  simp [evOps_cons, opG_none, opA_move, opA_buildSlice, opA_append, putO_some, putH_lt, putC_lt, buildSliceT, appendT, opS, opV, Go.Mx.look, mapO, fillA, bindO, srcTy, sz3, by3, ze3, st30, Try.underlying30]
  refine pv_app (z := []) (b := a) (.inl ⟨rfl, rfl, rfl⟩) (by simp; omega) (fun v2 H2 hp2 => ?_)
  replace hp2 : PV H1 H2 a v2 := by simpa using hp2
  simp [evOps_cons, opG_none, opA_move, opA_append, putO_some, putH_lt, putC_lt, appendT, opS, opV, Go.Mx.look, srcTy, sz3, by3, ze3, st30, Try.underlying30]
  refine pv_app (b := b) hp2 (by omega) (fun v3 H3 hp3 => ?_)
  simp [evOps_cons, opG_none, opA_call, putC_lt, opS, opV, Go.Mx.look, mapO, callA, ok16]
  refine pv_past hp3 _ L hG _ hgv ⟨_, rfl⟩ hL (by simp; omega) (fun H4 hs4 => ?_)
  have hgv4 := hgv.same hs4
  clear hp3 hgv hg hs4 hs H3
  have hw : ∀ z, (pastL L false z).length ≤ 100000 := fun z => Nat.le_trans (whereN_len _ _) hL
  simp [ev_seq, ev_block, ev_region2, ev_loop, loopK, evOps_nil, evOps_cons, opG_none, opA_assign, putO_some, putH_lt, putC_lt, opS, opV, Go.Mx.look, seqK, mapO, headK, getV, getB, chkP, firstReg]
  refine LoopC.intro (fun n xs _ H5 => ∃ i : Nat, i ≤ L.length ∧ n = L.length - i ∧ xs = [.ptr g 0 0, .v (.bool true), rowI (pastL L false a), rowI (pastL L false b), rowI (pastL L false (a ++ b)), .v (.int .i64 i)] ∧ H5 = H4) L.length
    ⟨0, by omega, by omega, by simp, rfl⟩ ?_
  rintro n xs bs H5 ⟨i, hi, rfl, rfl, rfl⟩
  simp [ev_seq, ev_region2, evOps_cons, opG_none, opA_move, opA_call, putO_some, putH_lt, opS, opV, Go.Mx.look, mapO, callA, mkFr, slotsOf, ptrsOf, boxesOf, ok17]
  refine len_sp _ L H5 _ hgv4 ?_
  simp [ev_skip, ev_seq, ev_cond2, ev_block, ev_exit, ev_region2, evOps_nil, evOps_cons, opG_none, opG_some, opJ, opU_ft, isU_bool, opK_eq, opA_move, opA_pick, opA_bin, opA_call, putO_some, putH_lt, putC_lt, putV_lt, condB_true, condB_false, binT_some, binA, avO_some, pickT, io_lss, opS, opV, Go.Mx.look, seqK, blockK, Fr.known, mapO, callA, orO_some, eqT_some, tk3, ok16, ok18]
  refine ⟨fun hlt => ?_, fun hge => ?_⟩
  · have w1 : IntKind.i64.wrap ((i : Int) + 1) = (i : Int) + 1 := wr_i64 (by omega)
    have hu := past_union hG false a b i
    rw [← inP_iff L false _ i hlt, ← inP_iff L false _ i hlt, ← inP_iff L false _ i hlt] at hu
    refine inI_sp i _ _ _ (hw _) (fun hz => ?_) (fun hz => ?_)
    · simp [evOps_cons, opG_none, opA_move, opA_call, putO_some, putH_lt, putC_lt, opS, opV, Go.Mx.look, mapO, callA, ok18]
      refine inI_sp i _ _ _ (hw _) (fun hx => ?_) (fun hx => ?_)
      · simp [ev_skip, ev_cond2, ev_region2, evOps_nil, evOps_cons, opG_none, opG_some, opJ, opU_ff, isU_bool, opA_move, opA_assign, opA_pick, opA_bin, putO_some, putH_lt, putC_lt, putV_lt, condB_true, condB_false, binT_some, binA, eqRef, avO_some, pickT, io_add, opS, opV, Go.Mx.look, seqK, blockK, Fr.known, mapO, headK, getV, getB, chkP, orO_some, eqT_some, tk3, tk4, w1]
        exact ⟨L.length - (i + 1), by omega, i + 1, by omega, rfl, by simp⟩
      · simp [evOps_cons, opG_none, opG_some, opJ, opU_ff, isU_bool, opK_eq, opA_move, opA_call, putO_some, putH_lt, putC_lt, condB_false, opS, opV, Go.Mx.look, Fr.known, mapO, callA, ok18]
        refine inI_sp i _ _ _ (hw _) (fun hy => ?_) (fun hy => ?_)
        · simp [ev_skip, ev_cond2, ev_region2, evOps_nil, evOps_cons, opG_none, opA_move, opA_assign, opA_pick, opA_bin, putO_some, putH_lt, putC_lt, condB_false, binT_some, binA, eqRef, avO_some, pickT, io_add, opS, opV, Go.Mx.look, seqK, blockK, Fr.known, mapO, headK, getV, getB, chkP, orO_some, eqT_some, tk3, tk4, w1]
          exact ⟨L.length - (i + 1), by omega, i + 1, by omega, rfl, by simp⟩
        · exact absurd (hu.1 hz) (by simp [hx, hy])
    · simp [evOps_cons, opG_none, opA_move, opA_call, putO_some, putH_lt, putC_lt, opS, opV, Go.Mx.look, mapO, callA, ok18]
      refine inI_sp i _ _ _ (hw _) (fun hx => ?_) (fun hx => ?_)
      · exact absurd (hu.2 (.inl hx)) hz
      · simp [evOps_cons, opG_none, opG_some, opJ, opU_ff, isU_bool, opK_eq, opA_move, opA_call, putO_some, putH_lt, putC_lt, condB_false, opS, opV, Go.Mx.look, Fr.known, mapO, callA, ok18]
        refine inI_sp i _ _ _ (hw _) (fun hy => ?_) (fun hy => ?_)
        · exact absurd (hu.2 (.inr hy)) hz
        · simp [ev_skip, ev_cond2, ev_region2, evOps_nil, evOps_cons, opG_none, opA_move, opA_assign, opA_pick, opA_bin, putO_some, putH_lt, putC_lt, condB_false, binT_some, binA, eqRef, avO_some, pickT, io_add, opS, opV, Go.Mx.look, seqK, blockK, Fr.known, mapO, headK, getV, getB, chkP, orO_some, eqT_some, tk3, tk4, w1]
          exact ⟨L.length - (i + 1), by omega, i + 1, by omega, rfl, by simp⟩
  · refine Sp.argW (args' := [.ptr g 0 0, rowZ (ofN (pastL L false (a ++ b)))]) ⟨Wk.refl _, rowI_wk _, trivial⟩ ?_
    refine pastR_sp _ _ hG _ H5 _ hgv4 hL (by rw [ofN_len]; exact hw _) ?_
    simp [ev_seq, ev_block, ev_region2, ev_loop, loopK, evOps_nil, evOps_cons, opG_none, opA_assign, putO_some, putH_lt, putC_lt, opS, opV, Go.Mx.look, seqK, mapO, headK, getV, getB, chkP, firstReg]
    have hsub : ∀ k ∈ pastL L false (ofN (pastL L false (a ++ b))), (k : Int) ∈ ofN (pastL L false (a ++ b)) := fun k hk => by
      obtain ⟨h1, h2⟩ := mem_whereN.1 hk
      exact (inP_iff L false _ k h1).2 (past_past hG false _ h2)
    have hwl := hw (ofN (pastL L false (a ++ b)))
    generalize pastL L false (ofN (pastL L false (a ++ b))) = W at hsub hwl
    refine LoopC.intro (fun n xs _ H6 => ∃ i : Nat, i ≤ W.length ∧ n = W.length - i ∧ xs = [.v (.bool true), rowI (pastL L false (a ++ b)), rowI W, .v (.int .i64 i)] ∧ H6 = H5) W.length
      ⟨0, by omega, by omega, by simp, rfl⟩ ?_
    rintro n xs bs H6 ⟨j, hj, rfl, rfl, rfl⟩
    simp [ev_skip, ev_seq, ev_cond2, ev_block, ev_exit, ev_region2, evOps_nil, evOps_cons, opG_none, opG_some, opJ, opU_ft, isU_bool, opK_eq, opA_move, opA_bin, opA_indexAddr, opA_len, opA_call, putO_some, putH_lt, condB_true, binT_some, binA, avO_some, indexAddrT, io_lss, opS, opV, Go.Mx.look, seqK, blockK, Fr.known, mapO, callA, indexAddrA, mkFr, slotsOf, ptrsOf, boxesOf, orO_some, eqT_some, sz3, tk3, Try.underlying30, ok15, lenT_rowI]
    refine ⟨fun hlt => ?_, fun hge2 => ?_⟩
    · obtain ⟨k, hk⟩ : ∃ k, W[j]? = some k := ⟨_, List.getElem?_eq_getElem hlt⟩
      have hne : W ≠ [] := fun e => by rw [e] at hlt; simp at hlt
      have hrow := rowI_ne hne
      have hlz : j < (ofN W).length := by simpa [ofN] using hlt
      have hkz : (ofN W)[j] = (k : Int) := by
        have : (ofN W)[j]? = some (k : Int) := by simp [ofN, hk]
        rw [List.getElem?_eq_getElem hlz] at this; simpa using this
      have w2 : IntKind.i64.wrap ((j : Int) + 1) = (j : Int) + 1 := wr_i64 (by omega)
      simp [evOps_cons, opG_none, opA_move, opA_load, opA_call, putO_some, putH_lt, loadT, opS, opV, Go.Mx.look, mapO, callA, partA, loadA, loadS, sz3, ag3, ok18, hrow, hkz, hlt, hlz, intV]
      refine inI_sp k _ _ _ (hw _) (fun hz => ?_) (fun hz => absurd (hsub k (List.mem_of_getElem? hk)) hz)
      simp [ev_skip, ev_cond2, ev_region2, evOps_nil, evOps_cons, opG_none, opA_move, opA_assign, opA_bin, opA_un, putO_some, putH_lt, putC_lt, condB_false, binT_some, binA, avO_some, unT, io_add, opS, opV, Go.Mx.look, seqK, blockK, Fr.known, mapO, unA, headK, getV, getB, chkP, orO_some, eqT_some, tk3, w2]
      exact ⟨W.length - (j + 1), by omega, j + 1, by omega, rfl, by simp⟩
    · refine awake_sp _ _ ?_
      simp [ev_ret, evOps_nil, evOps_cons, opG_none, opA_assign, opA_pick, putO_some, putH_lt, putC_lt, pickT, opS, opV, Go.Mx.look, seqK, retK, retA, resA, mapO]
end Go.Proofs.Ytpmhhbdfompbhaa

namespace Go.Proofs.Ytpmhhbdfompbhaa
open Go.Mx Go.Dag
set_option linter.unusedVariables false
set_option linter.unusedSimpArgs false

theorem prevR_sp (gv : AV) (L : List Th) (i : Int) (H : Hp) (Q : AV → Hp → Prop) (hg : GrV H gv L) (hb : (edgeZ L false i).length ≤ 1000000) (h : Q (rowI (edgeZ L false i)) H) : Sp Try.prog 19 [gv, .v (.int .i64 i)] Q H :=
  Sp.places (prevs_sp gv L i H _ hg hb (fun v H' hn => ⟨hn, h⟩))
theorem mem_ofN2 {l : List Nat} {i : Nat} : (i : Int) ∈ ofN l ↔ i ∈ l := by
  rw [mem_ofN]
  exact ⟨fun ⟨j, hj, e⟩ => by have : j = i := by omega
                              subst this; exact hj, fun h => ⟨i, h, rfl⟩⟩

/-- The first walk: is all that kept places follow kept? -/
def TpInv (L : List Th) (kept : List Bool) (g : Nat) (H4 : Hp) (n : Nat) (xs : List AV) (H5 : Hp) : Prop :=
  ∃ i, i ≤ min kept.length L.length ∧ n = min kept.length L.length - i ∧ xs = [rowB kept, .ptr g 0 0, .v (.bool true), .v (.int .i64 i)] ∧ H5 = H4 ∧
    ∀ j, j < i → kept.getD j false = true → ∀ k ∈ edge L false j, kept.getD k false = true
def TpInv2 (L : List Th) (kept : List Bool) (g : Nat) (H4 : Hp) (i n : Nat) (xs : List AV) (H5 : Hp) : Prop :=
  ∃ j, j ≤ (edge L false i).length ∧ n = (edge L false i).length - j ∧ xs = [rowB kept, .ptr g 0 0, .v (.bool true), .v (.int .i64 i), rowI (edge L false i), .v (.int .i64 j)] ∧ H5 = H4 ∧
    (kept.getD i false = true → ∀ k ∈ (edge L false i).take j, kept.getD k false = true)
def TpInv3 (L : List Th) (kept : List Bool) (g : Nat) (H4 : Hp) (n : Nat) (xs : List AV) (H5 : Hp) : Prop :=
  ∃ i, i ≤ min kept.length L.length ∧ n = min kept.length L.length - i ∧ xs = [rowB kept, .ptr g 0 0, .v (.bool true), rowI (headsL L kept), rowI (pastL L false (ofN (headsL L kept))), .v (.int .i64 i)] ∧ H5 = H4

set_option maxHeartbeats 4000000 in
theorem tops_law (l : List Dd) (kept : List Bool) : Sp Try.prog 5 [ddsV l, rowB kept] (fun v _ => v = .v (.bool true)) [] := by
  refine Sp.body [(5, ⟨[1, 5, 7, 8], [], []⟩), (9, ⟨[1, 5, 7, 8, 9, 10], [], []⟩), (16, ⟨[1, 5, 7, 11, 12, 13], [], []⟩)] ⟨[], [], pl5⟩ tb5 mo Try.func5 rfl (Nat.le_of_ble_eq_true rfl) (by kernel_rfl) ?_
  simp [ev_seq, ev_region2, evOps_nil, evOps_cons, opG_none, opA_move, opA_assign, opA_call, putO_some, putH_lt, opS, opV, Go.Mx.look, fr0, argSlots, seqK, mapO, callA, ok10, pl5, rowB]
  refine few_sp l _ _ (fun hf => ?_) (fun hf => by simp [ev_seq, ev_cond2, ev_ret, ev_region2, evOps_nil, evOps_cons, opG_none, opG_some, opJ, opU_ff, isU_bool, opA_move, opA_assign, opA_pick, opA_un, putO_some, putH_lt, putC_lt, putV_lt, condB_true, pickT, unT, opS, opV, Go.Mx.look, seqK, Fr.known, retK, retA, resA, mapO, unA])
  simp [ev_skip, ev_seq, ev_cond2, ev_ret, ev_region2, evOps_nil, evOps_cons, opG_none, opG_some, opJ, opU_ff, isU_bool, opK_eq, opA_move, opA_assign, opA_pick, opA_bin, opA_un, opA_len, opA_call, putO_some, putH_lt, putC_lt, condB_false, binT_some, binA, avO_some, pickT, unT, lenT_row, io_gtr, opS, opV, Go.Mx.look, seqK, Fr.known, retK, retA, resA, mapO, unA, callA, orO_some, eqT_some, tk3, Try.underlying23, ok11]
  intro hk
  refine both_sp l [] _ hf (fun H1 g a1 fpg fpr hg hr hs => ?_)
  have hG := addAll_good l
  have hL60 : (addAll l).length ≤ 60 := by have := addAll_len l; have := hf.1; omega
  have hL : (addAll l).length ≤ 100000 := by omega
  generalize hLL : addAll l = L at hg hr hG hL hL60
  have hgv := hg.val
  clear hr hg hs
  simp [ev_seq, ev_block, ev_region2, ev_loop, loopK, evOps_nil, evOps_cons, opG_none, opA_move, opA_assign, opA_extract, putO_some, putH_lt, putC_lt, extractT, opS, opV, Go.Mx.look, seqK, mapO, extractA, headK, getV, getB, chkP, firstReg]
  refine LoopC.intro (fun n xs _ H5 => TpInv L kept g H1 n xs H5) (min kept.length L.length) ⟨0, by omega, by omega, by simp [rowB], rfl, fun j hj => by omega⟩ ?_
  rintro n xs bs H5 ⟨i, hi, rfl, rfl, rfl, hall⟩
  simp [ev_seq, ev_cond2, ev_exit, ev_region2, evOps_nil, evOps_cons, opG_none, opG_some, opJ, opU_ft, isU_bool, opK_eq, opA_move, opA_pick, opA_bin, opA_len, opA_call, putO_some, putH_lt, putV_lt, condB_true, condB_false, binT_some, binA, avO_some, pickT, lenT_row, io_lss, opS, opV, Go.Mx.look, seqK, blockK, Fr.known, mapO, callA, mkFr, slotsOf, ptrsOf, boxesOf, orO_some, eqT_some, tk3, Try.underlying23, ok13, ok17, rowB]
  have fin : i = min kept.length L.length → ∀ j, j < kept.length → j < L.length → kept.getD j false = true → ∀ k ∈ edge L false j, kept.getD k false = true := fun e j h1 h2 => hall j (by omega)
  refine ⟨fun hlt => ?_, fun hge => ?_⟩
  · refine len_sp _ L H5 _ hgv ?_
    have hel : (edge L false i).length ≤ 100000 := by have := edgeZ_len hG false (i : Int); rw [edgeZ_nat] at this; omega
    have w1 : IntKind.i64.wrap ((i : Int) + 1) = (i : Int) + 1 := wr_i64 (by omega)
    simp [ev_skip, ev_seq, ev_cond2, ev_block, ev_exit, ev_region2, evOps_nil, evOps_cons, opG_none, opG_some, opJ, opU_ft, isU_bool, opK_eq, opA_move, opA_pick, opA_bin, opA_call, putO_some, putH_lt, putC_lt, condB_true, binT_some, binA, avO_some, pickT, io_lss, opS, opV, Go.Mx.look, seqK, blockK, Fr.known, mapO, callA, orO_some, eqT_some, tk3, ok13, ok19]
    refine ⟨fun hlt2 => ?_, fun hge2 => ?_⟩
    · refine prevR_sp _ L i H5 _ hgv (by rw [edgeZ_nat]; omega) ?_
      rw [edgeZ_nat]
      have hx := List.getElem?_eq_getElem hlt
      generalize hx2 : kept[i] = b at hx
      have hg1 : kept.getD i false = b := by rw [List.getD_eq_getElem?_getD, hx]; rfl
      simp [ev_seq, ev_block, ev_region2, ev_loop, loopK, evOps_nil, evOps_cons, opG_none, opA_assign, putO_some, putH_lt, putC_lt, opS, opV, Go.Mx.look, seqK, mapO, headK, getV, getB, chkP, firstReg]
      refine LoopC.intro (fun n xs _ H6 => TpInv2 L kept g H5 i n xs H6) (edge L false i).length ⟨0, by omega, by omega, by simp [rowB], rfl, by simp⟩ ?_
      rintro n xs bs H6 ⟨j, hj, rfl, rfl, rfl, hall2⟩
      simp [ev_skip, ev_seq, ev_cond2, ev_block, ev_exit, ev_region2, evOps_nil, evOps_cons, opG_none, opA_move, opA_assign, opA_bin, opA_indexAddr, opA_len, putO_some, putH_lt, binT_some, binA, avO_some, indexAddrT, io_add, io_lss, opS, opV, Go.Mx.look, seqK, blockK, Fr.known, mapO, indexAddrA, headK, getV, getB, chkP, mkFr, slotsOf, ptrsOf, boxesOf, orO_some, eqT_some, tk3, sz4, Try.underlying23, Try.underlying30, rowB, lenT_rowI]
      refine ⟨fun hlt3 => ?_, fun hge3 => ?_⟩
      · obtain ⟨k, hk⟩ : ∃ k, (edge L false i)[j]? = some k := ⟨_, List.getElem?_eq_getElem hlt3⟩
        have hkE : k ∈ edge L false i := List.mem_of_getElem? hk
        have hkl := edge_lt hG hkE
        have hkk : k < kept.length := by omega
        have hne : edge L false i ≠ [] := fun e => by rw [e] at hlt3; simp at hlt3
        have hrow := rowI_ne hne
        have hlz : j < (ofN (edge L false i)).length := by simpa [ofN] using hlt3
        have hkz : (ofN (edge L false i))[j] = (k : Int) := by
          have : (ofN (edge L false i))[j]? = some (k : Int) := by simp [ofN, hk]
          rw [List.getElem?_eq_getElem hlz] at this; simpa using this
        have hy := List.getElem?_eq_getElem hkk
        generalize hy2 : kept[k] = c at hy
        have hg2 : kept.getD k false = c := by rw [List.getD_eq_getElem?_getD, hy]; rfl
        have w2 : IntKind.i64.wrap ((j : Int) + 1) = (j : Int) + 1 := wr_i64 (by omega)
        have htk : (edge L false i).take (j + 1) = (edge L false i).take j ++ [k] := by rw [List.take_add_one, hk]; rfl
        have next : (b = true → c = true) → kept.getD i false = true → ∀ k2 ∈ (edge L false i).take (j + 1), kept.getD k2 false = true := fun hbc hki k2 hk2 => by
          rw [htk] at hk2
          rcases List.mem_append.1 hk2 with h5 | h5
          · exact hall2 hki k2 h5
          · simp at h5; subst h5; rw [hg2]; exact hbc (by rw [← hg1]; exact hki)
        cases b with
        | false =>
          simp [ev_skip, ev_cond2, ev_region2, evOps_nil, evOps_cons, opG_none, opG_some, opJ, opU_ft, isU_bool, opA_move, opA_assign, opA_pick, opA_bin, opA_load, putO_some, putH_lt, putV_lt, condB_false, binT_some, binA, avO_some, pickT, loadT, io_add, opS, opV, Go.Mx.look, seqK, blockK, Fr.known, mapO, partA, loadA, loadS, headK, getV, getB, chkP, orO_some, eqT_some, tk3, sz4, ag4, hx2, boolV, hlt, w2]
          exact ⟨(edge L false i).length - (j + 1), by omega, j + 1, by omega, rfl, by simp [rowB], rfl, next (by simp)⟩
        | true =>
          cases c with
          | true =>
            simp [ev_skip, ev_cond2, ev_region2, evOps_nil, evOps_cons, opG_none, opG_some, opJ, opU_ft, isU_bool, opK_eq, opA_move, opA_assign, opA_pick, opA_bin, opA_un, opA_load, opA_indexAddr, putO_some, putH_lt, condB_true, condB_false, binT_some, binA, avO_some, pickT, unT, loadT, indexAddrT, io_add, opS, opV, Go.Mx.look, seqK, blockK, Fr.known, mapO, unA, partA, loadA, loadS, indexAddrA, headK, getV, getB, chkP, orO_some, eqT_some, sz3, ag3, tk3, sz4, ag4, Try.underlying23, Try.underlying30, hx2, boolV, hlt, w2, hrow, hkz, hlt3, hlz, intV, hkk, hy2]
            exact ⟨(edge L false i).length - (j + 1), by omega, j + 1, by omega, rfl, by simp [rowB, hrow], rfl, next (by simp)⟩
          | false =>
            simp [ev_seq, ev_cond2, ev_region2, evOps_nil, evOps_cons, opG_none, opG_some, opJ, opU_ft, isU_bool, opK_eq, opA_move, opA_pick, opA_un, opA_load, opA_indexAddr, opA_call, putO_some, putH_lt, condB_true, pickT, unT, loadT, indexAddrT, opS, opV, Go.Mx.look, seqK, Fr.known, mapO, unA, callA, partA, loadA, loadS, indexAddrA, sz3, ag3, sz4, ag4, Try.underlying23, Try.underlying30, ok15, hx2, boolV, hlt, hrow, hkz, hlt3, hlz, intV, hkk, hy2]
            refine awake_sp _ _ ?_
            simp [ev_ret, evOps_nil, evOps_cons, opG_none, opA_assign, putO_some, putH_lt, putC_lt, opS, opV, Go.Mx.look, seqK, blockK, retK, retA, resA, mapO]
      · have hj2 : j = (edge L false i).length := by omega
        subst hj2
        rw [List.take_length] at hall2
        simp [w1]
        refine ⟨min kept.length L.length - (i + 1), by omega, i + 1, by omega, rfl, by simp [rowB], rfl, fun j2 hj2 => ?_⟩
        rcases Nat.lt_or_ge j2 i with h5 | h5
        · exact hall j2 h5
        · obtain rfl : j2 = i := by omega
          exact hall2
    · have hcl := fin (by omega)
      refine headsR_sp _ _ hG kept H5 _ hgv hL (by omega) ?_
      simp [ev_seq, ev_region2, evOps_nil, evOps_cons, opG_none, opA_move, opA_assign, opA_call, putO_some, putH_lt, putC_lt, opS, opV, Go.Mx.look, seqK, mapO, callA, ok16]
      have hwh : (headsL L kept).length ≤ 100000 := Nat.le_trans (whereN_len _ _) (by omega)
      have hwp : (pastL L false (ofN (headsL L kept))).length ≤ 100000 := Nat.le_trans (whereN_len _ _) hL
      refine Sp.argW (args' := [.ptr g 0 0, rowZ (ofN (headsL L kept))]) ⟨Wk.refl _, rowI_wk _, trivial⟩ ?_
      refine pastR_sp _ _ hG _ H5 _ hgv hL (by rw [ofN_len]; exact hwh) ?_
      simp [ev_seq, ev_block, ev_region2, ev_loop, loopK, evOps_nil, evOps_cons, opG_none, opA_assign, putO_some, putH_lt, putC_lt, opS, opV, Go.Mx.look, seqK, mapO, headK, getV, getB, chkP, firstReg]
      refine LoopC.intro (fun n xs _ H6 => TpInv3 L kept g H5 n xs H6) (min kept.length L.length) ⟨0, by omega, by omega, by simp [rowB], rfl⟩ ?_
      rintro n xs bs H6 ⟨i2, hi2, rfl, rfl, rfl⟩
      simp [ev_seq, ev_cond2, ev_exit, ev_region2, evOps_nil, evOps_cons, opG_none, opG_some, opJ, opU_ft, isU_bool, opK_eq, opA_move, opA_pick, opA_bin, opA_len, opA_call, putO_some, putH_lt, putV_lt, condB_true, condB_false, binT_some, binA, avO_some, pickT, lenT_row, io_lss, opS, opV, Go.Mx.look, seqK, blockK, Fr.known, mapO, callA, mkFr, slotsOf, ptrsOf, boxesOf, orO_some, eqT_some, tk3, Try.underlying23, ok15, ok17, rowB]
      refine ⟨fun hlt5 => ?_, fun hge5 => ?_⟩
      · refine len_sp _ L H6 _ hgv ?_
        simp [ev_skip, ev_seq, ev_cond2, ev_block, ev_exit, ev_region2, evOps_nil, evOps_cons, opG_none, opG_some, opJ, opU_ft, isU_bool, opK_eq, opA_move, opA_pick, opA_bin, opA_indexAddr, opA_call, putO_some, putH_lt, putC_lt, condB_true, binT_some, binA, avO_some, pickT, indexAddrT, io_lss, opS, opV, Go.Mx.look, seqK, blockK, Fr.known, mapO, callA, indexAddrA, orO_some, eqT_some, ev_draw, drawK, evP_q, opAt_some, tk3, sz4, Try.underlying23, ok15]
        refine ⟨fun hlt6 => ?_, fun hge6 => ?_⟩
        · have hx := List.getElem?_eq_getElem hlt5
          generalize hx2 : kept[i2] = b at hx
          have hg1 : kept.getD i2 false = b := by rw [List.getD_eq_getElem?_getD, hx]; rfl
          have w5 : IntKind.i64.wrap ((i2 : Int) + 1) = (i2 : Int) + 1 := wr_i64 (by omega)
          have ht := tops hG hcl hlt5 hlt6
          rw [hg1] at ht
          have hip : (i2 : Int) ∈ ofN (pastL L false (ofN (headsL L kept))) ↔ past L false (ofN (headsL L kept)) i2 = true := inP_iff L false _ i2 hlt6
          rw [← hip] at ht
          have next : ∃ m, m < min kept.length L.length - i2 ∧ TpInv3 L kept g H6 m [rowB kept, .ptr g 0 0, .v (.bool true), rowI (headsL L kept), rowI (pastL L false (ofN (headsL L kept))), .v (.int .i64 ((i2 : Int) + 1))] H6 :=
            ⟨min kept.length L.length - (i2 + 1), by omega, i2 + 1, by omega, rfl, by simp, rfl⟩
          cases b with
          | true =>
            simp [opG_none, opA_move, opA_load, opA_call, putO_some, putH_lt, loadT, opS, opV, Go.Mx.look, mapO, callA, partA, loadA, loadS, evP_q, evP_s, opAt_some, sz4, ag4, ok18, hx2, boolV, hlt5]
            refine inI_sp i2 _ _ _ hwh (fun hin => ?_) (fun hin => ?_)
            · simp [opG_none, opG_some, opJ, opU_ff, isU_bool, opK_eq, opA_move, opA_pick, opA_bin, opA_call, putO_some, putH_lt, putC_lt, putV_lt, condB_true, condB_false, binT_some, binA, eqRef, avO_some, pickT, loadT, indexAddrT, opS, opV, Go.Mx.look, Fr.known, mapO, callA, partA, loadA, loadS, indexAddrA, orO_some, eqT_some, evP_q, evP_s, opAt_some, chkK_eq, sameV_some, sameO_some, allQ_nil, allQ_cons, valQ_none, valS_move, valS_load, valS_indexAddr, sz4, ag4, tk4, Try.underlying23, ok18, hx2, boolV, hlt5]
              refine inI_sp i2 _ _ _ hwh (fun hin2 => ?_) (fun hin2 => absurd hin hin2)
              simp [opG_some, opJ, opU_ft, opU_ff, isU_bool, opK_eq, opA_move, opA_call, putO_some, putH_lt, putC_lt, condB_true, condB_false, opS, opV, Go.Mx.look, Fr.known, mapO, callA, evP_q, evP_s, opAt_some, chkK_eq, allQ_nil, ok18]
              refine inI_sp i2 _ _ _ hwp (fun hin3 => absurd ⟨mem_ofN2.1 hin, hin3⟩ ht.2) (fun hin3 => ?_)
              simp [ev_skip, ev_cond2, ev_region2, evOps_nil, evOps_cons, opG_none, opG_some, opJ, opU_ff, isU_bool, opK_eq, opA_move, opA_assign, opA_pick, opA_bin, putO_some, putH_lt, putC_lt, condB_false, binT_some, binA, avO_some, pickT, io_add, opS, opV, Go.Mx.look, seqK, blockK, Fr.known, mapO, headK, getV, getB, chkP, orO_some, eqT_some, evP_nil, evP_q, opAt_some, chkK_eq, allQ_nil, tk3, w5]
              exact next
            · simp [opG_none, opG_some, opJ, opU_ff, isU_bool, opK_eq, opA_move, opA_call, putO_some, putH_lt, putC_lt, condB_false, loadT, indexAddrT, opS, opV, Go.Mx.look, Fr.known, mapO, callA, partA, loadA, loadS, indexAddrA, evP_q, evP_s, opAt_some, chkK_eq, sameV_some, sameO_some, allQ_nil, allQ_cons, valQ_none, valS_move, valS_load, valS_indexAddr, sz4, ag4, Try.underlying23, ok18, hx2, boolV, hlt5]
              refine inI_sp i2 _ _ _ hwp (fun hin3 => ?_) (fun hin3 => ?_)
              · simp [opG_none, opG_some, opJ, opU_ff, isU_bool, opK_eq, opA_move, opA_pick, opA_bin, opA_call, putO_some, putH_lt, putC_lt, condB_false, binT_some, binA, eqRef, avO_some, pickT, loadT, indexAddrT, opS, opV, Go.Mx.look, Fr.known, mapO, callA, partA, loadA, loadS, indexAddrA, orO_some, eqT_some, evP_q, evP_s, opAt_some, chkK_eq, sameV_some, sameO_some, allQ_nil, allQ_cons, valQ_none, valS_move, valS_load, valS_indexAddr, sz4, ag4, tk4, Try.underlying23, ok18, hx2, boolV, hlt5]
                refine inI_sp i2 _ _ _ hwh (fun hin2 => absurd hin2 hin) (fun hin2 => ?_)
                simp [ev_skip, ev_cond2, ev_region2, evOps_nil, evOps_cons, opG_none, opG_some, opJ, opU_ft, opU_ff, isU_bool, opK_eq, opA_move, opA_assign, opA_pick, opA_bin, putO_some, putH_lt, putC_lt, putV_lt, condB_false, binT_some, binA, avO_some, pickT, io_add, opS, opV, Go.Mx.look, seqK, blockK, Fr.known, mapO, headK, getV, getB, chkP, orO_some, eqT_some, evP_nil, evP_q, evP_s, opAt_some, chkK_eq, allQ_nil, tk3, w5]
                exact next
              · exact absurd (ht.1.1 rfl) (by rw [← mem_ofN2 (l := headsL L kept)]; simp [hin, hin3])
          | false =>
            simp [opG_none, opA_move, opA_load, opA_call, putO_some, putH_lt, loadT, opS, opV, Go.Mx.look, mapO, callA, partA, loadA, loadS, evP_q, evP_s, opAt_some, sz4, ag4, ok18, hx2, boolV, hlt5]
            refine inI_sp i2 _ _ _ hwh (fun hin => ?_) (fun hin => ?_)
            · exact absurd (ht.1.2 (.inl (mem_ofN2.1 hin))) (by simp)
            · simp [opG_none, opG_some, opJ, opU_ff, isU_bool, opK_eq, opA_move, opA_call, putO_some, putH_lt, putC_lt, condB_false, loadT, indexAddrT, opS, opV, Go.Mx.look, Fr.known, mapO, callA, partA, loadA, loadS, indexAddrA, evP_q, evP_s, opAt_some, chkK_eq, sameV_some, sameO_some, allQ_nil, allQ_cons, valQ_none, valS_move, valS_load, valS_indexAddr, sz4, ag4, Try.underlying23, ok18, hx2, boolV, hlt5]
              refine inI_sp i2 _ _ _ hwp (fun hin3 => absurd (ht.1.2 (.inr hin3)) (by simp)) (fun hin3 => ?_)
              simp [opG_none, opG_some, opJ, opU_ff, isU_bool, opK_eq, opA_move, opA_pick, opA_bin, opA_call, putO_some, putH_lt, putC_lt, condB_false, binT_some, binA, eqRef, avO_some, pickT, loadT, indexAddrT, opS, opV, Go.Mx.look, Fr.known, mapO, callA, partA, loadA, loadS, indexAddrA, orO_some, eqT_some, evP_q, evP_s, opAt_some, chkK_eq, sameV_some, sameO_some, allQ_nil, allQ_cons, valQ_none, valS_move, valS_load, valS_indexAddr, sz4, ag4, tk4, Try.underlying23, ok18, hx2, boolV, hlt5]
              refine inI_sp i2 _ _ _ hwh (fun hin2 => absurd hin2 hin) (fun hin2 => ?_)
              simp [ev_skip, ev_cond2, ev_region2, evOps_nil, evOps_cons, opG_none, opG_some, opJ, opU_ft, opU_ff, isU_bool, opK_eq, opA_move, opA_assign, opA_pick, opA_bin, putO_some, putH_lt, putC_lt, putV_lt, condB_false, binT_some, binA, avO_some, pickT, io_add, opS, opV, Go.Mx.look, seqK, blockK, Fr.known, mapO, headK, getV, getB, chkP, orO_some, eqT_some, evP_nil, evP_q, evP_s, opAt_some, chkK_eq, allQ_nil, tk3, w5]
              exact next
        · refine awake_sp _ _ ?_
          simp [ev_ret, evOps_nil, evOps_cons, opG_none, opA_assign, opA_pick, putO_some, putH_lt, putC_lt, pickT, opS, opV, Go.Mx.look, seqK, retK, retA, resA, mapO]
      · refine awake_sp _ _ ?_
        simp [ev_ret, evOps_nil, evOps_cons, opG_none, opA_assign, opA_pick, putO_some, putH_lt, putC_lt, pickT, opS, opV, Go.Mx.look, seqK, retK, retA, resA, mapO]
  · have hcl := fin (by omega)
    refine headsR_sp _ _ hG kept H5 _ hgv hL (by omega) ?_
    simp [ev_seq, ev_region2, evOps_nil, evOps_cons, opG_none, opA_move, opA_assign, opA_call, putO_some, putH_lt, putC_lt, opS, opV, Go.Mx.look, seqK, mapO, callA, ok16]
    have hwh : (headsL L kept).length ≤ 100000 := Nat.le_trans (whereN_len _ _) (by omega)
    have hwp : (pastL L false (ofN (headsL L kept))).length ≤ 100000 := Nat.le_trans (whereN_len _ _) hL
    refine Sp.argW (args' := [.ptr g 0 0, rowZ (ofN (headsL L kept))]) ⟨Wk.refl _, rowI_wk _, trivial⟩ ?_
    refine pastR_sp _ _ hG _ H5 _ hgv hL (by rw [ofN_len]; exact hwh) ?_
    simp [ev_seq, ev_block, ev_region2, ev_loop, loopK, evOps_nil, evOps_cons, opG_none, opA_assign, putO_some, putH_lt, putC_lt, opS, opV, Go.Mx.look, seqK, mapO, headK, getV, getB, chkP, firstReg]
    refine LoopC.intro (fun n xs _ H6 => TpInv3 L kept g H5 n xs H6) (min kept.length L.length) ⟨0, by omega, by omega, by simp [rowB], rfl⟩ ?_
    rintro n xs bs H6 ⟨i2, hi2, rfl, rfl, rfl⟩
    simp [ev_seq, ev_cond2, ev_exit, ev_region2, evOps_nil, evOps_cons, opG_none, opG_some, opJ, opU_ft, isU_bool, opK_eq, opA_move, opA_pick, opA_bin, opA_len, opA_call, putO_some, putH_lt, putV_lt, condB_true, condB_false, binT_some, binA, avO_some, pickT, lenT_row, io_lss, opS, opV, Go.Mx.look, seqK, blockK, Fr.known, mapO, callA, mkFr, slotsOf, ptrsOf, boxesOf, orO_some, eqT_some, tk3, Try.underlying23, ok15, ok17, rowB]
    refine ⟨fun hlt5 => ?_, fun hge5 => ?_⟩
    · refine len_sp _ L H6 _ hgv ?_
      simp [ev_skip, ev_seq, ev_cond2, ev_block, ev_exit, ev_region2, evOps_nil, evOps_cons, opG_none, opG_some, opJ, opU_ft, isU_bool, opK_eq, opA_move, opA_pick, opA_bin, opA_indexAddr, opA_call, putO_some, putH_lt, putC_lt, condB_true, binT_some, binA, avO_some, pickT, indexAddrT, io_lss, opS, opV, Go.Mx.look, seqK, blockK, Fr.known, mapO, callA, indexAddrA, orO_some, eqT_some, ev_draw, drawK, evP_q, opAt_some, tk3, sz4, Try.underlying23, ok15]
      refine ⟨fun hlt6 => ?_, fun hge6 => ?_⟩
      · have hx := List.getElem?_eq_getElem hlt5
        generalize hx2 : kept[i2] = b at hx
        have hg1 : kept.getD i2 false = b := by rw [List.getD_eq_getElem?_getD, hx]; rfl
        have w5 : IntKind.i64.wrap ((i2 : Int) + 1) = (i2 : Int) + 1 := wr_i64 (by omega)
        have ht := tops hG hcl hlt5 hlt6
        rw [hg1] at ht
        have hip : (i2 : Int) ∈ ofN (pastL L false (ofN (headsL L kept))) ↔ past L false (ofN (headsL L kept)) i2 = true := inP_iff L false _ i2 hlt6
        rw [← hip] at ht
        have next : ∃ m, m < min kept.length L.length - i2 ∧ TpInv3 L kept g H6 m [rowB kept, .ptr g 0 0, .v (.bool true), rowI (headsL L kept), rowI (pastL L false (ofN (headsL L kept))), .v (.int .i64 ((i2 : Int) + 1))] H6 :=
          ⟨min kept.length L.length - (i2 + 1), by omega, i2 + 1, by omega, rfl, by simp, rfl⟩
        cases b with
        | true =>
          simp [opG_none, opA_move, opA_load, opA_call, putO_some, putH_lt, loadT, opS, opV, Go.Mx.look, mapO, callA, partA, loadA, loadS, evP_q, evP_s, opAt_some, sz4, ag4, ok18, hx2, boolV, hlt5]
          refine inI_sp i2 _ _ _ hwh (fun hin => ?_) (fun hin => ?_)
          · simp [opG_none, opG_some, opJ, opU_ff, isU_bool, opK_eq, opA_move, opA_pick, opA_bin, opA_call, putO_some, putH_lt, putC_lt, putV_lt, condB_true, condB_false, binT_some, binA, eqRef, avO_some, pickT, loadT, indexAddrT, opS, opV, Go.Mx.look, Fr.known, mapO, callA, partA, loadA, loadS, indexAddrA, orO_some, eqT_some, evP_q, evP_s, opAt_some, chkK_eq, sameV_some, sameO_some, allQ_nil, allQ_cons, valQ_none, valS_move, valS_load, valS_indexAddr, sz4, ag4, tk4, Try.underlying23, ok18, hx2, boolV, hlt5]
            refine inI_sp i2 _ _ _ hwh (fun hin2 => ?_) (fun hin2 => absurd hin hin2)
            simp [opG_some, opJ, opU_ft, opU_ff, isU_bool, opK_eq, opA_move, opA_call, putO_some, putH_lt, putC_lt, condB_true, condB_false, opS, opV, Go.Mx.look, Fr.known, mapO, callA, evP_q, evP_s, opAt_some, chkK_eq, allQ_nil, ok18]
            refine inI_sp i2 _ _ _ hwp (fun hin3 => absurd ⟨mem_ofN2.1 hin, hin3⟩ ht.2) (fun hin3 => ?_)
            simp [ev_skip, ev_cond2, ev_region2, evOps_nil, evOps_cons, opG_none, opG_some, opJ, opU_ff, isU_bool, opK_eq, opA_move, opA_assign, opA_pick, opA_bin, putO_some, putH_lt, putC_lt, condB_false, binT_some, binA, avO_some, pickT, io_add, opS, opV, Go.Mx.look, seqK, blockK, Fr.known, mapO, headK, getV, getB, chkP, orO_some, eqT_some, evP_nil, evP_q, opAt_some, chkK_eq, allQ_nil, tk3, w5]
            exact next
          · simp [opG_none, opG_some, opJ, opU_ff, isU_bool, opK_eq, opA_move, opA_call, putO_some, putH_lt, putC_lt, condB_false, loadT, indexAddrT, opS, opV, Go.Mx.look, Fr.known, mapO, callA, partA, loadA, loadS, indexAddrA, evP_q, evP_s, opAt_some, chkK_eq, sameV_some, sameO_some, allQ_nil, allQ_cons, valQ_none, valS_move, valS_load, valS_indexAddr, sz4, ag4, Try.underlying23, ok18, hx2, boolV, hlt5]
            refine inI_sp i2 _ _ _ hwp (fun hin3 => ?_) (fun hin3 => ?_)
            · simp [opG_none, opG_some, opJ, opU_ff, isU_bool, opK_eq, opA_move, opA_pick, opA_bin, opA_call, putO_some, putH_lt, putC_lt, condB_false, binT_some, binA, eqRef, avO_some, pickT, loadT, indexAddrT, opS, opV, Go.Mx.look, Fr.known, mapO, callA, partA, loadA, loadS, indexAddrA, orO_some, eqT_some, evP_q, evP_s, opAt_some, chkK_eq, sameV_some, sameO_some, allQ_nil, allQ_cons, valQ_none, valS_move, valS_load, valS_indexAddr, sz4, ag4, tk4, Try.underlying23, ok18, hx2, boolV, hlt5]
              refine inI_sp i2 _ _ _ hwh (fun hin2 => absurd hin2 hin) (fun hin2 => ?_)
              simp [ev_skip, ev_cond2, ev_region2, evOps_nil, evOps_cons, opG_none, opG_some, opJ, opU_ft, opU_ff, isU_bool, opK_eq, opA_move, opA_assign, opA_pick, opA_bin, putO_some, putH_lt, putC_lt, putV_lt, condB_false, binT_some, binA, avO_some, pickT, io_add, opS, opV, Go.Mx.look, seqK, blockK, Fr.known, mapO, headK, getV, getB, chkP, orO_some, eqT_some, evP_nil, evP_q, evP_s, opAt_some, chkK_eq, allQ_nil, tk3, w5]
              exact next
            · exact absurd (ht.1.1 rfl) (by rw [← mem_ofN2 (l := headsL L kept)]; simp [hin, hin3])
        | false =>
          simp [opG_none, opA_move, opA_load, opA_call, putO_some, putH_lt, loadT, opS, opV, Go.Mx.look, mapO, callA, partA, loadA, loadS, evP_q, evP_s, opAt_some, sz4, ag4, ok18, hx2, boolV, hlt5]
          refine inI_sp i2 _ _ _ hwh (fun hin => ?_) (fun hin => ?_)
          · exact absurd (ht.1.2 (.inl (mem_ofN2.1 hin))) (by simp)
          · simp [opG_none, opG_some, opJ, opU_ff, isU_bool, opK_eq, opA_move, opA_call, putO_some, putH_lt, putC_lt, condB_false, loadT, indexAddrT, opS, opV, Go.Mx.look, Fr.known, mapO, callA, partA, loadA, loadS, indexAddrA, evP_q, evP_s, opAt_some, chkK_eq, sameV_some, sameO_some, allQ_nil, allQ_cons, valQ_none, valS_move, valS_load, valS_indexAddr, sz4, ag4, Try.underlying23, ok18, hx2, boolV, hlt5]
            refine inI_sp i2 _ _ _ hwp (fun hin3 => absurd (ht.1.2 (.inr hin3)) (by simp)) (fun hin3 => ?_)
            simp [opG_none, opG_some, opJ, opU_ff, isU_bool, opK_eq, opA_move, opA_pick, opA_bin, opA_call, putO_some, putH_lt, putC_lt, condB_false, binT_some, binA, eqRef, avO_some, pickT, loadT, indexAddrT, opS, opV, Go.Mx.look, Fr.known, mapO, callA, partA, loadA, loadS, indexAddrA, orO_some, eqT_some, evP_q, evP_s, opAt_some, chkK_eq, sameV_some, sameO_some, allQ_nil, allQ_cons, valQ_none, valS_move, valS_load, valS_indexAddr, sz4, ag4, tk4, Try.underlying23, ok18, hx2, boolV, hlt5]
            refine inI_sp i2 _ _ _ hwh (fun hin2 => absurd hin2 hin) (fun hin2 => ?_)
            simp [ev_skip, ev_cond2, ev_region2, evOps_nil, evOps_cons, opG_none, opG_some, opJ, opU_ft, opU_ff, isU_bool, opK_eq, opA_move, opA_assign, opA_pick, opA_bin, putO_some, putH_lt, putC_lt, putV_lt, condB_false, binT_some, binA, avO_some, pickT, io_add, opS, opV, Go.Mx.look, seqK, blockK, Fr.known, mapO, headK, getV, getB, chkP, orO_some, eqT_some, evP_nil, evP_q, evP_s, opAt_some, chkK_eq, allQ_nil, tk3, w5]
            exact next
      · refine awake_sp _ _ ?_
        simp [ev_ret, evOps_nil, evOps_cons, opG_none, opA_assign, opA_pick, putO_some, putH_lt, putC_lt, pickT, opS, opV, Go.Mx.look, seqK, retK, retA, resA, mapO]
    · refine awake_sp _ _ ?_
      simp [ev_ret, evOps_nil, evOps_cons, opG_none, opA_assign, opA_pick, putO_some, putH_lt, putC_lt, pickT, opS, opV, Go.Mx.look, seqK, retK, retA, resA, mapO]
end Go.Proofs.Ytpmhhbdfompbhaa

namespace Go.Proofs.Ytpmhhbdfompbhaa
open Go.Mx Go.Dag
set_option linter.unusedVariables false
set_option linter.unusedSimpArgs false

theorem newR_lenT {H0 H : Hp} {cs : List AV} {v : AV} (h : NewR H0 H cs v) (H' : Hp) (e : TypeId) : lenT H' (some (.slice e)) (some v) = some (.av (.v (.int .i64 cs.length))) := by
  rcases h with ⟨rfl, rfl⟩ | ⟨_, id, ver, tl, rfl, _⟩
  · rfl
  · exact lenT_sl _ _ _ _ _ _
/-- One new slice is appended to another one. -/
theorem newR_appR {H0 H : Hp} {cs ds : List AV} {v y : AV} {K : AV → Hp → Prop} (h : NewR H0 H cs v) (k : NewR H0 H ds y) (hle : H0.length ≤ H.length) (hb : cs.length + ds.length ≤ 1000000)
    (hq : ∀ v' H', NewR H0 H' (cs ++ ds) v' → (∃ fp, Same fp H H' ∧ ∀ j ∈ fp, H0.length ≤ j) → K v' H') : appA H 1 8 v y K := by
  rcases h with ⟨rfl, rfl⟩ | ⟨h1, id, ver, tl, rfl, h3, h4⟩ <;> rcases k with ⟨rfl, rfl⟩ | ⟨k1, id2, ver2, tl2, rfl, k3, k4⟩
  · simp [appA, srcA]
    exact hq _ _ (.inl ⟨rfl, rfl⟩) ⟨[], Same.refl _ _, by simp⟩
  · have hne : ¬ ds = [] := k1
    simp at hb
    simp [appA, srcA, k3, hne]
    exact ⟨by omega, hq _ _ (.inr ⟨by simpa using k1, H.length, 0, [], by simp, by simp, hle⟩) ⟨[], Same.app _ _ _, by simp⟩⟩
  · simp at hb
    simp [appA, srcA, h3]
    exact ⟨by omega, hq _ _ (.inr ⟨by simpa using h1, id, ver + 1, [], by simp, by rw [List.getElem?_set_self (Hp.lt h3)]; simp, h4⟩) ⟨[id], Same.set (by simp), by simpa using h4⟩⟩
  · simp [appA, srcA, h3, k3]
    exact ⟨by omega, hq _ _ (.inr ⟨by simp [h1], id, ver + 1, [], by simp, by rw [List.getElem?_set_self (Hp.lt h3)]; simp, h4⟩) ⟨[id], Same.set (by simp), by simpa using h4⟩⟩
theorem newR_at {H0 H : Hp} {cs : List AV} {v : AV} (h : NewR H0 H cs v) {j : Nat} (hj : j < cs.length) : ∃ id ver tl, v = .sl id ver 1 0 cs.length ∧ H[id]? = some (.cells ver (cs ++ tl)) ∧ (cs ++ tl)[j]? = cs[j]? := by
  rcases h with ⟨rfl, rfl⟩ | ⟨h1, id, ver, tl, rfl, h3, h4⟩
  · simp at hj
  · exact ⟨id, ver, tl, rfl, h3, by rw [List.getElem?_append_left hj]⟩

theorem addT_cases (L : List Th) (nm : ByteArray) (pr au : List ByteArray) : ((addT L nm pr au).1 = 0 ∧ (addT L nm pr au).2.length = L.length + 1) ∨ ((addT L nm pr au).1 ≠ 0 ∧ (addT L nm pr au).2.length = L.length) := by
  unfold addT
  split
  · exact .inr ⟨by simp, rfl⟩
  · split
    · exact .inr ⟨by simp, rfl⟩
    · split
      · exact .inl ⟨rfl, by simp⟩
      · exact .inr ⟨by simp, rfl⟩

def BkInv (l : List Dd) (z : List Int) (H : Hp) (g : Nat) (n : Nat) (xs : List AV) (H2 : Hp) : Prop :=
  ∃ i fpg, i ≤ l.length ∧ n = l.length - i ∧ xs = [ddsV l, rowZ z, .ptr g 0 0, .v (.int .i64 i)] ∧ GrA H2 g (addAll (l.take i)) fpg
def BkInv2 (L : List Th) (z : List Int) (g : Nat) (H4 : Hp) (n : Nat) (xs : List AV) (H5 : Hp) : Prop :=
  ∃ (i : Nat) (M : Int), i ≤ z.length ∧ n = z.length - i ∧ xs = [rowZ z, .ptr g 0 0, .v (.int .i64 M), .v (.int .i64 i)] ∧ H5 = H4 ∧ ∀ x ∈ z.take i, x < L.length → x ≤ M
def BkInv3 (P : List Nat) (v : AV) (g : Nat) (M : Int) (H4 : Hp) (n : Nat) (xs : List AV) (H5 : Hp) : Prop :=
  ∃ i : Nat, i ≤ P.length ∧ n = P.length - i ∧ xs = [.ptr g 0 0, .v (.int .i64 M), v, .v (.int .i64 i)] ∧ H5 = H4
def BkInv4 (L : List Th) (g : Nat) (n : Nat) (xs : List AV) (H5 : Hp) : Prop :=
  ∃ i : Nat, i ≤ L.length ∧ n = L.length - i ∧ xs = [.ptr g 0 0, .v (.int .i64 i)] ∧ GrV H5 (.ptr g 0 0) L
def BkInv5 (P : List Nat) (v : AV) (g i : Nat) (H4 : Hp) (n : Nat) (xs : List AV) (H5 : Hp) : Prop :=
  ∃ j : Nat, j ≤ P.length ∧ n = P.length - j ∧ xs = [.ptr g 0 0, .v (.int .i64 i), v, .v (.int .i64 j)] ∧ H5 = H4

set_option maxHeartbeats 4000000 in
theorem back_law (l : List Dd) (z : List Int) : Sp Try.prog 7 [ddsV l, rowZ z] (fun v _ => v = .v (.bool true)) [] := by
  refine Sp.body [(5, ⟨[0, 1, 5, 6], [], []⟩), (13, ⟨[1, 5, 9, 10], [], []⟩), (19, ⟨[5, 9, 11, 12], [], []⟩), (24, ⟨[5, 13], [], []⟩), (28, ⟨[5, 13, 14, 15], [], []⟩)] ⟨[], [], pl7⟩ tb7 mo Try.func7 rfl (Nat.le_of_ble_eq_true rfl) (by kernel_rfl) ?_
  simp [ev_seq, ev_region2, evOps_nil, evOps_cons, opG_none, opA_move, opA_assign, opA_call, putO_some, putH_lt, opS, opV, Go.Mx.look, fr0, argSlots, seqK, mapO, callA, ok10, pl7, rowZ]
  refine few_sp l _ _ (fun hf => ?_) (fun hf => by simp [ev_seq, ev_cond2, ev_ret, ev_region2, evOps_nil, evOps_cons, opG_none, opG_some, opJ, opU_ff, isU_bool, opA_move, opA_assign, opA_pick, opA_un, putO_some, putH_lt, putC_lt, putV_lt, condB_true, pickT, unT, opS, opV, Go.Mx.look, seqK, Fr.known, retK, retA, resA, mapO, unA])
  simp [ev_skip, ev_seq, ev_cond2, ev_ret, ev_region2, evOps_nil, evOps_cons, opG_none, opG_some, opJ, opU_ff, isU_bool, opK_eq, opA_move, opA_assign, opA_pick, opA_bin, opA_un, opA_len, opA_call, putO_some, putH_lt, putC_lt, condB_false, binT_some, binA, avO_some, pickT, unT, lenT_row, io_gtr, opS, opV, Go.Mx.look, seqK, Fr.known, retK, retA, resA, mapO, unA, callA, orO_some, eqT_some, tk3, Try.underlying30, ok22]
  intro hk
  refine new_sp [] _ (fun H1 hg hs1 hl1 => ?_)
  simp [ev_seq, ev_block, ev_region2, ev_loop, loopK, evOps_nil, evOps_cons, opG_none, opA_assign, putO_some, putH_lt, putC_lt, opS, opV, Go.Mx.look, seqK, mapO, headK, getV, getB, chkP, firstReg]
  refine LoopC.intro (fun n xs _ H2 => BkInv l z [] 1 n xs H2) l.length ⟨0, _, by omega, by omega, by simp [rowZ], hg⟩ ?_
  clear hg hs1 hl1 H1
  rintro n xs bs H2 ⟨i, fpg, hi, rfl, rfl, hg⟩
  have hL60 : (addAll (l.take i)).length ≤ 60 := by
    have h1 := addAll_len (l.take i)
    have h2 := hf.1
    rw [List.length_take] at h1
    omega
  have hl60 := hf.1
  simp [ev_skip, ev_seq, ev_cond2, ev_block, ev_exit, ev_region2, ev_loop, loopK, evOps_nil, evOps_cons, opG_none, opA_move, opA_assign, opA_bin, opA_len, opA_call, putO_some, putH_lt, binT_some, binA, avO_some, lenT_row, io_lss, opS, opV, Go.Mx.look, seqK, blockK, Fr.known, mapO, callA, headK, getV, getB, chkP, mkFr, slotsOf, ptrsOf, boxesOf, firstReg, orO_some, eqT_some, tk3, Try.underlying22, ok17, rowZ, ddsV]
  refine ⟨fun hlt => ?_, fun hge => ?_⟩
  · refine len_sp _ _ H2 _ hg.val ?_
    have hx := List.getElem?_eq_getElem hlt
    generalize l[i] = x at hx
    have hfx := hf.2 x (List.mem_of_getElem? hx)
    have g0 := flat_get ddC_len hx 0 (by omega)
    have g1 := flat_get ddC_len hx 1 (by omega)
    have g2 := flat_get ddC_len hx 2 (by omega)
    simp [ddC] at g0 g1 g2
    have w1 : IntKind.i64.wrap ((i : Int) + 1) = (i : Int) + 1 := wr_i64 (by omega)
    have w2 : IntKind.i64.wrap (((addAll (l.take i)).length : Int) + 1) = ((addAll (l.take i)).length : Int) + 1 := wr_i64 (by omega)
    have htk : l.take (i + 1) = l.take i ++ [x] := by rw [List.take_add_one, hx]; rfl
    simp [ev_seq, evOps_nil, evOps_cons, opG_none, opA_move, opA_assign, opA_load, opA_indexAddr, opA_fieldAddr, opA_call, putO_some, putH_lt, putC_lt, loadT, fieldAddrT, indexAddrT, opS, opV, Go.Mx.look, seqK, mapO, callA, partA, loadA, loadS, plusS, indexAddrA, ev_draw, drawK, evP_q, evP_s, opAt_some, sz9, ag9, Try.underlying22, sz44, ag44, sz46, Try.underlying46, ok23, g0, g1, g2, hlt]
    refine add_sp _ _ fpg x.name x.prev x.auth H2 _ hg (by omega) (by have := hfx.2.1.1; omega) (by have := hfx.2.2.1; omega) (fun H3 fpg' hg3 hs3 hf3 => ?_)
    have hc := addT_cases (addAll (l.take i)) x.name x.prev x.auth
    have e1 : (addT (addAll (l.take i)) x.name x.prev x.auth).2 = addAll (l.take (i + 1)) := by rw [htk, addAll_snoc]
    rw [e1] at hg3 hc
    simp [ev_seq, ev_region2, evOps_cons, opG_none, opA_move, opA_assign, opA_bin, opA_call, putO_some, putH_lt, putC_lt, binT_some, binA, avO_some, io_eql, opS, opV, Go.Mx.look, seqK, mapO, callA, orO_some, eqT_some, evP_nil, evP_s, opAt_some, chkK_eq, allQ_nil, tk42, ok17]
    refine len_sp _ _ H3 _ hg3.val ?_
    rcases hc with ⟨h1, h2⟩ | ⟨h1, h2⟩
    · simp [ev_skip, ev_cond2, ev_region2, evOps_nil, evOps_cons, opG_none, opG_some, opJ, opU_ft, opU_ff, isU_bool, opK_eq, opA_move, opA_assign, opA_pick, opA_bin, putO_some, putH_lt, putC_lt, putV_lt, condB_false, binT_some, binA, eqRef, avO_some, pickT, io_add, io_eql, io_neq, opS, opV, Go.Mx.look, seqK, blockK, Fr.known, mapO, headK, getV, getB, chkP, orO_some, eqT_some, tk3, tk4, tk42, h1, h2, w2, w1]
      exact ⟨l.length - (i + 1), by omega, i + 1, fpg', by omega, rfl, by simp [rowZ, ddsV], hg3⟩
    · have b1 : ((addT (addAll (l.take i)) x.name x.prev x.auth).1 == 0) = false := by simp [h1]
      have b2 : (((addAll (l.take i)).length : Int) == ((addAll (l.take i)).length : Int) + 1) = false := by simp; omega
      simp [evOps_cons, opG_none, opG_some, opJ, opU_ft, opU_ff, isU_bool, opK_eq, opA_move, opA_bin, opA_call, putO_some, putH_lt, putC_lt, condB_true, condB_false, CondP_true, binT_some, binA, eqRef, avO_some, io_add, io_eql, io_neq, opS, opV, Go.Mx.look, Fr.known, mapO, callA, orO_some, eqT_some, tk3, tk4, tk42, ok17, h1, h2, w2, b1, b2]
      refine len_sp _ _ H3 _ hg3.val ?_
      simp [ev_skip, ev_cond2, ev_region2, evOps_nil, evOps_cons, opG_none, opG_some, opJ, opU_ft, opU_ff, isU_bool, opK_eq, opA_move, opA_assign, opA_pick, opA_bin, putO_some, putH_lt, putC_lt, condB_true, condB_false, binT_some, binA, avO_some, pickT, io_add, io_neq, opS, opV, Go.Mx.look, seqK, blockK, Fr.known, mapO, headK, getV, getB, chkP, orO_some, eqT_some, tk3, h2, w1]
      exact ⟨l.length - (i + 1), by omega, i + 1, fpg', by omega, rfl, by simp [rowZ, ddsV], hg3⟩
  · have : i = l.length := by omega
    subst this
    rw [List.take_length] at hg hL60
    have hG := addAll_good l
    generalize hLL : addAll l = L at hg hG hL60
    have hL : L.length ≤ 100000 := by omega
    have hgv := hg.val
    clear hg
    refine LoopC.intro (fun n xs _ H5 => BkInv2 L z 1 H2 n xs H5) z.length ⟨0, -1, by omega, by omega, by simp [rowZ], rfl, by simp⟩ ?_
    rintro n xs bs H5 ⟨i, M, hi, rfl, rfl, rfl, hM⟩
    simp [ev_skip, ev_seq, ev_cond2, ev_block, ev_exit, ev_region2, evOps_nil, evOps_cons, opG_none, opA_move, opA_bin, opA_indexAddr, opA_len, opA_call, putO_some, putH_lt, binT_some, binA, avO_some, lenT_row, indexAddrT, io_lss, opS, opV, Go.Mx.look, seqK, blockK, Fr.known, mapO, callA, indexAddrA, mkFr, slotsOf, ptrsOf, boxesOf, orO_some, eqT_some, ev_draw, drawK, evP_q, opAt_some, sz3, tk3, Try.underlying30, ok16, rowZ]
    refine ⟨fun hlt => ?_, fun hge => ?_⟩
    · have hx := List.getElem?_eq_getElem hlt
      generalize hx2 : z[i] = x at hx
      have w1 : IntKind.i64.wrap ((i : Int) + 1) = (i : Int) + 1 := wr_i64 (by omega)
      have htk : z.take (i + 1) = z.take i ++ [x] := by rw [List.take_add_one, hx]; rfl
      simp [opG_none, opA_move, opA_load, opA_call, putO_some, putH_lt, loadT, opS, opV, Go.Mx.look, mapO, callA, partA, loadA, loadS, evP_q, evP_s, opAt_some, sz3, ag3, ok17, hx2, intV, hlt]
      refine len_sp _ _ H5 _ hgv ?_
      simp [ev_skip, ev_cond2, ev_region2, evOps_nil, evOps_cons, opG_none, opA_move, opA_assign, opA_bin, opA_load, opA_indexAddr, opA_max, putO_some, putH_lt, putC_lt, binT_some, binA, avO_some, loadT, maxT, maxA, indexAddrT, io_add, io_lss, opS, opV, Go.Mx.look, seqK, blockK, Fr.known, mapO, partA, loadA, loadS, indexAddrA, headK, getV, getB, chkP, orO_some, eqT_some, evP_nil, evP_q, opAt_some, chkK_eq, sameV_some, sameO_some, allQ_nil, allQ_cons, valQ_none, valS_move, valS_load, valS_indexAddr, sz3, ag3, tk3, Try.underlying30, hx2, intV, hlt, w1]
      refine ⟨fun hxl => ⟨z.length - (i + 1), by omega, i + 1, _, by omega, rfl, by simp [rowZ]; rfl, rfl, fun y hy hyl => ?_⟩, fun hxl => ⟨z.length - (i + 1), by omega, i + 1, M, by omega, rfl, by simp [rowZ], rfl, fun y hy hyl => ?_⟩⟩
      · rw [htk] at hy
        rcases List.mem_append.1 hy with h5 | h5
        · have := hM y h5 hyl; split <;> omega
        · simp at h5; subst h5; split <;> omega
      · rw [htk] at hy
        rcases List.mem_append.1 hy with h5 | h5
        · exact hM y h5 hyl
        · simp at h5; subst h5; omega
    · have : i = z.length := by omega
      subst this
      rw [List.take_length] at hM
      refine past_sp _ L hG z H5 _ hgv hL (by omega) (fun v H6 hn => ?_)
      simp [evOps_cons, opG_none, opA_move, opA_call, putO_some, putH_lt, putC_lt, opS, opV, Go.Mx.look, mapO, callA, ok21]
      refine chain_sp _ L hG z H6 _ (hgv.same hn.2) hL (by omega) (fun v2 H7 hn2 => ?_)
      have hwp : (pastL L false z).length ≤ 60 := Nat.le_trans (whereN_len _ _) hL60
      have hwc : (pastL L true z).length ≤ 60 := Nat.le_trans (whereN_len _ _) hL60
      have hnA : NewR H5 H7 ((ofN (pastL L false z)).map intV) v := hn.1.same hn2.2 (by simp)
      have hnB : NewR H5 H7 ((ofN (pastL L true z)).map intV) v2 := hn2.1.later hn.2.1
      have hsA : Same [] H5 H7 := hn.2.trans hn2.2 (by simp)
      simp [evOps_cons, opG_none, opA_append, putC_lt, appendT, opS, opV, Go.Mx.look, srcTy, sz3, by3, ze3, st30, Try.underlying30]
      refine ⟨by rcases hnB with ⟨_, rfl⟩ | ⟨_, id, ver, tl, rfl, _⟩ <;> rfl, ?_⟩
      refine newR_appR hnA hnB hsA.1 (by simp [ofN]; omega) (fun v3 H8 hn3 hs3 => ?_)
      obtain ⟨fp3, hs3, hf3⟩ := hs3
      have hs8 : Same [] H5 H8 := hsA.new hs3 hf3
      have hgv8 := hgv.same hs8
      have hP : ∀ k ∈ pastL L false z ++ pastL L true z, (k : Int) < M := fun k hk => by
        have : ∃ au, past L au z k = true := by
          rcases List.mem_append.1 hk with h5 | h5
          · exact ⟨false, (mem_whereN.1 h5).2⟩
          · exact ⟨true, (mem_whereN.1 h5).2⟩
        obtain ⟨au, h6⟩ := this
        obtain ⟨i2, h7, h8, h9⟩ := past_below hG h6
        have := hM i2 h7 (by omega)
        omega
      have hn4 : NewR H5 H8 ((ofN (pastL L false z ++ pastL L true z)).map intV) v3 := by simpa [ofN] using hn3
      have hPl : (pastL L false z ++ pastL L true z).length ≤ 120 := by rw [List.length_append]; omega
      generalize pastL L false z ++ pastL L true z = P at hP hn4 hPl
      clear hn hn2 hn3 hnA hnB hwp hwc hsA hs3 hf3 hgv hM hs8
      simp [ev_seq, ev_block, ev_region2, ev_loop, loopK, evOps_nil, evOps_cons, opG_none, opA_assign, putO_some, putH_lt, putC_lt, opS, opV, Go.Mx.look, seqK, mapO, headK, getV, getB, chkP, firstReg]
      refine LoopC.intro (fun n xs _ H9 => BkInv3 P v3 1 M H8 n xs H9) P.length ⟨0, by omega, by omega, by simp, rfl⟩ ?_
      rintro n xs bs H9 ⟨j, hj, rfl, rfl, rfl⟩
      have hlenP : ((ofN P).map intV).length = P.length := by simp [ofN]
      have hlen3 := fun H' e => newR_lenT hn4 H' e
      rw [hlenP] at hlen3
      simp [ev_skip, ev_seq, ev_cond2, ev_block, ev_exit, ev_region2, ev_loop, loopK, evOps_nil, evOps_cons, opG_none, opA_move, opA_assign, opA_bin, opA_indexAddr, opA_len, putO_some, putH_lt, binT_some, binA, avO_some, indexAddrT, io_lss, opS, opV, Go.Mx.look, seqK, blockK, Fr.known, mapO, indexAddrA, headK, getV, getB, chkP, mkFr, slotsOf, ptrsOf, boxesOf, firstReg, orO_some, eqT_some, sz3, tk3, Try.underlying30, hlen3]
      refine ⟨fun hlt => ?_, fun hge => ?_⟩
      · obtain ⟨k, hk⟩ : ∃ k, P[j]? = some k := ⟨_, List.getElem?_eq_getElem hlt⟩
        have hkM := hP k (List.mem_of_getElem? hk)
        obtain ⟨id, ver, tl, rfl, hid, hgj⟩ := newR_at hn4 (j := j) (by rw [hlenP]; exact hlt)
        rw [hlenP] at *
        have hkz : ((ofN P).map intV ++ tl)[j]? = some (AV.v (.int .i64 k)) := by rw [hgj]; simp [ofN, hk, intV]
        have w1 : IntKind.i64.wrap ((j : Int) + 1) = (j : Int) + 1 := wr_i64 (by omega)
        have hk0 : ¬ ((k : Int) < 0) := by omega
        have hk1 : ¬ (M ≤ (k : Int)) := by omega
        clear hgj hn4
        generalize (ofN P).map intV ++ tl = CS at hid hkz
        simp [ev_skip, ev_cond2, ev_region2, evOps_nil, evOps_cons, opG_none, opG_some, opJ, opU_ff, isU_bool, opK_eq, opA_move, opA_assign, opA_pick, opA_bin, opA_load, opA_indexAddr, putO_some, putH_lt, condB_false, binT_some, binA, avO_some, pickT, loadT, indexAddrT, io_add, io_lss, io_geq, opS, opV, Go.Mx.look, seqK, blockK, Fr.known, mapO, partA, loadA, loadS, indexAddrA, headK, getV, getB, chkP, orO_some, eqT_some, sz3, ag3, tk3, Try.underlying30, hid, hlt, hkz, hk0, hk1, w1]
        exact ⟨P.length - (j + 1), by omega, j + 1, by omega, rfl, by simp, rfl⟩
      · clear hn4 hlenP hlen3
        refine LoopC.intro (fun n xs _ H10 => BkInv4 L 1 n xs H10) L.length ⟨0, by omega, by omega, by simp, hgv8⟩ ?_
        clear hgv8
        rintro n xs bs H10 ⟨i, hi, rfl, rfl, hgv⟩
        simp [ev_seq, ev_region2, evOps_cons, opG_none, opA_move, opA_call, putO_some, putH_lt, opS, opV, Go.Mx.look, mapO, callA, mkFr, slotsOf, ptrsOf, boxesOf, ok17]
        refine len_sp _ _ H10 _ hgv ?_
        simp [ev_skip, ev_seq, ev_cond2, ev_block, ev_exit, ev_region2, evOps_nil, evOps_cons, opG_none, opA_move, opA_bin, opA_call, putO_some, putH_lt, putC_lt, binT_some, binA, avO_some, io_lss, opS, opV, Go.Mx.look, seqK, blockK, Fr.known, mapO, callA, orO_some, eqT_some, tk3, ok15, ok19]
        refine ⟨fun hlt => ?_, fun hge => ?_⟩
        · have hel : ∀ au, (edge L au i).length ≤ 60 := fun au => by have := edgeZ_len hG au (i : Int); rw [edgeZ_nat] at this; omega
          have w1 : IntKind.i64.wrap ((i : Int) + 1) = (i : Int) + 1 := wr_i64 (by omega)
          refine prevs_sp _ L i H10 _ hgv (by rw [edgeZ_nat]; have := hel false; omega) (fun v H6 hn => ?_)
          simp [evOps_cons, opG_none, opA_move, opA_call, putO_some, putH_lt, putC_lt, opS, opV, Go.Mx.look, mapO, callA, ok24]
          refine auths_sp _ L i H6 _ (hgv.same hn.2) (by rw [edgeZ_nat]; have := hel true; omega) (fun v2 H7 hn2 => ?_)
          rw [edgeZ_nat] at hn hn2
          have hnA : NewR H10 H7 ((ofN (edge L false i)).map intV) v := hn.1.same hn2.2 (by simp)
          have hnB : NewR H10 H7 ((ofN (edge L true i)).map intV) v2 := hn2.1.later hn.2.1
          have hsA : Same [] H10 H7 := hn.2.trans hn2.2 (by simp)
          simp [evOps_cons, opG_none, opA_append, putC_lt, appendT, opS, opV, Go.Mx.look, srcTy, sz3, by3, ze3, st30, Try.underlying30]
          refine ⟨by rcases hnB with ⟨_, rfl⟩ | ⟨_, id, ver, tl, rfl, _⟩ <;> rfl, ?_⟩
          refine newR_appR hnA hnB hsA.1 (by simp [ofN]; have := hel true; have := hel false; omega) (fun v3 H8 hn3 hs3 => ?_)
          obtain ⟨fp3, hs3, hf3⟩ := hs3
          have hs8 : Same [] H10 H8 := hsA.new hs3 hf3
          have hgv8 := hgv.same hs8
          have hP : ∀ k ∈ edge L false i ++ edge L true i, k < i := fun k hk => by
            rcases List.mem_append.1 hk with h5 | h5
            · exact (edge_lt hG h5).1
            · exact (edge_lt hG h5).1
          have hn4 : NewR H10 H8 ((ofN (edge L false i ++ edge L true i)).map intV) v3 := by simpa [ofN] using hn3
          have hPl : (edge L false i ++ edge L true i).length ≤ 120 := by rw [List.length_append]; have := hel true; have := hel false; omega
          generalize edge L false i ++ edge L true i = P2 at hP hn4 hPl
          clear hn hn2 hn3 hnA hnB hsA hs3 hf3 hgv hs8
          simp [ev_seq, ev_block, ev_region2, ev_loop, loopK, evOps_nil, evOps_cons, opG_none, opA_assign, putO_some, putH_lt, putC_lt, opS, opV, Go.Mx.look, seqK, mapO, headK, getV, getB, chkP, firstReg]
          refine LoopC.intro (fun n xs _ H9 => BkInv5 P2 v3 1 i H8 n xs H9) P2.length ⟨0, by omega, by omega, by simp, rfl⟩ ?_
          rintro n xs bs H9 ⟨j2, hj2, rfl, rfl, rfl⟩
          have hlenP : ((ofN P2).map intV).length = P2.length := by simp [ofN]
          have hlen3 := fun H' e => newR_lenT hn4 H' e
          rw [hlenP] at hlen3
          simp [ev_skip, ev_seq, ev_cond2, ev_block, ev_exit, ev_region2, evOps_nil, evOps_cons, opG_none, opA_move, opA_assign, opA_bin, opA_indexAddr, opA_len, putO_some, putH_lt, binT_some, binA, avO_some, indexAddrT, io_add, io_lss, opS, opV, Go.Mx.look, seqK, blockK, Fr.known, mapO, indexAddrA, headK, getV, getB, chkP, mkFr, slotsOf, ptrsOf, boxesOf, orO_some, eqT_some, sz3, tk3, Try.underlying30, hlen3]
          refine ⟨fun hlt2 => ?_, fun hge2 => ?_⟩
          · obtain ⟨k, hk⟩ : ∃ k, P2[j2]? = some k := ⟨_, List.getElem?_eq_getElem hlt2⟩
            have hkM := hP k (List.mem_of_getElem? hk)
            obtain ⟨id, ver, tl, rfl, hid, hgj⟩ := newR_at hn4 (j := j2) (by rw [hlenP]; exact hlt2)
            rw [hlenP] at *
            have hkz : ((ofN P2).map intV ++ tl)[j2]? = some (AV.v (.int .i64 k)) := by rw [hgj]; simp [ofN, hk, intV]
            have w2 : IntKind.i64.wrap ((j2 : Int) + 1) = (j2 : Int) + 1 := wr_i64 (by omega)
            have hk0 : ¬ ((k : Int) < 0) := by omega
            have hk1 : ¬ (i ≤ k) := by omega
            clear hgj hn4
            generalize (ofN P2).map intV ++ tl = CS at hid hkz
            simp [ev_skip, ev_cond2, ev_region2, evOps_nil, evOps_cons, opG_none, opG_some, opJ, opU_ff, isU_bool, opK_eq, opA_move, opA_assign, opA_pick, opA_bin, opA_load, opA_indexAddr, putO_some, putH_lt, condB_false, binT_some, binA, avO_some, pickT, loadT, indexAddrT, io_add, io_lss, io_geq, opS, opV, Go.Mx.look, seqK, blockK, Fr.known, mapO, partA, loadA, loadS, indexAddrA, headK, getV, getB, chkP, orO_some, eqT_some, sz3, ag3, tk3, Try.underlying30, hid, hlt2, hkz, hk0, hk1, w2]
            exact ⟨P2.length - (j2 + 1), by omega, j2 + 1, by omega, rfl, by simp, rfl⟩
          · simp [w1]
            exact ⟨L.length - (i + 1), by omega, i + 1, by omega, rfl, by simp, hgv8⟩
        · refine awake_sp _ _ ?_
          simp [ev_ret, evOps_nil, evOps_cons, opG_none, opA_assign, putO_some, putH_lt, putC_lt, opS, opV, Go.Mx.look, seqK, retK, retA, resA, mapO]
end Go.Proofs.Ytpmhhbdfompbhaa
