import Derived.Test.YtoakdmkjlpjahaaDoorPT
namespace Go.Proofs.YtoakdmkjlpjahaaDoor
open Go.Mx
set_option linter.unusedVariables false
set_option linter.unusedSimpArgs false
set_option linter.unnecessarySimpa false
set_option maxRecDepth 100000

/-! ### SearchNarrows -/
theorem in_sp2 (s : LB) (x : Bool) (l : List LB) (n : Nat) (cl : List AV) (hn : n = l.length) (hc : cl = l.flatMap txC) (H : Hp) (Q : AV → Hp → Prop) (hl : l.length ≤ 100000) (h : Q (.v (.bool (decide (s ∈ l)))) H) : Sp Tryd.prog 19 [.v (.string (tx s)), .row x n cl] Q H := by
  subst hc; subst hn
  exact in_sp s x l H Q hl h
theorem found_both {L : List Tx3} (hids : (L.map (·.id)).Nodup) (p q s : LB) : s ∈ foundL L (p ++ 32 :: q) ↔ s ∈ foundL L p ∧ s ∈ foundL L q := by
  rw [found_mem hids, found_mem hids, found_mem hids, splL_space]
  simp only [List.mem_append]
  constructor
  · rintro ⟨h1, h2⟩
    exact ⟨⟨h1, fun x hx => h2 x (.inl hx)⟩, h1, fun x hx => h2 x (.inr hx)⟩
  · rintro ⟨⟨h1, h2⟩, _, h3⟩
    exact ⟨h1, fun x hx => hx.elim (h2 x) (h3 x)⟩
theorem findF_both {L : List Tx3} (hids : (L.map (·.id)).Nodup) (hl : (L.length : Int) ≤ 100) {p q : LB} (hp : splL p ≠ []) (hq : splL q ≠ []) (s : LB) : s ∈ findF L (p ++ 32 :: q) 100 ↔ s ∈ findF L p 100 ∧ s ∈ findF L q 100 := by
  rw [mem_findF hl (by omega), mem_findF hl (by omega), mem_findF hl (by omega), found_both hids, splL_space]
  constructor
  · rintro ⟨_, h1, h2⟩; exact ⟨⟨hp, h1⟩, hq, h2⟩
  · rintro ⟨⟨_, h1⟩, _, h2⟩; exact ⟨by simp [hp], h1, h2⟩
theorem findF_star {L : List Tx3} (hids : (L.map (·.id)).Nodup) (hl : (L.length : Int) ≤ 100) {t w : LB} (hw : w ∈ wordsL t) (s : LB) (h : s ∈ findF L w 100) : s ∈ findF L (w ++ [42]) 100 := by
  obtain ⟨e1, e2⟩ := splL_word hw
  rw [mem_findF hl (by omega), found_mem hids, e1] at h
  rw [mem_findF hl (by omega), found_mem hids, e2]
  refine ⟨by simp, h.2.1, fun x hx => ?_⟩
  simp at hx; subst hx
  obtain ⟨v, hv, hp⟩ := h.2.2 (w, false) (by simp)
  refine ⟨v, ?_, hp⟩
  simp [fitsW] at hv ⊢
  exact .inl hv
theorem findF_count {L : List Tx3} (hl : (L.length : Int) ≤ 100) {t w : LB} (hw : w ∈ wordsL t) : (findF L w 100).length = countW L w := by
  obtain ⟨e1, e2⟩ := splL_word hw
  have hf := found_len L w
  unfold findF
  rw [if_neg (by rw [e1]; simp), List.length_take, sortT_len]
  have : (foundL L w).length = countW L w := by
    unfold foundL countW
    rw [List.length_map, e1]
    congr 2
    funext x
    rw [Bool.eq_iff_iff]
    simp [hasW, fitsW, List.any_eq_true]
  omega
def N1Inv (p : LB) (ix : Nat) (A B C : List LB) (ca cb cc : List AV) (H : Hp) (n : Nat) (xs : List AV) (H2 : Hp) : Prop :=
  ∃ i : Nat, i ≤ C.length ∧ n = C.length - i ∧ xs = [.v (.string (tx p)), .ptr ix 0 0, .row false A.length ca, .row false B.length cb, .row false C.length cc, .v (.int .i64 (i : Int))] ∧ H2 = H
def N2Inv (p : LB) (ix : Nat) (A B C : List LB) (ca cb cc : List AV) (H : Hp) (n : Nat) (xs : List AV) (H2 : Hp) : Prop :=
  ∃ i : Nat, i ≤ A.length ∧ n = A.length - i ∧ xs = [.v (.string (tx p)), .ptr ix 0 0, .row false A.length ca, .row false B.length cb, .row false C.length cc, .v (.int .i64 (i : Int))] ∧ H2 = H
def N3Inv (w : LB) (ix : Nat) (O S : List LB) (co cs : List AV) (H : Hp) (n : Nat) (xs : List AV) (H2 : Hp) : Prop :=
  ∃ i : Nat, i ≤ O.length ∧ n = O.length - i ∧ xs = [.ptr ix 0 0, .v (.string (tx w)), .row false O.length co, .row false S.length cs, .v (.int .i64 (i : Int))] ∧ H2 = H
theorem row_get (l : List LB) : ∀ {i : Nat} {w : LB}, l[i]? = some w → i < (l.flatMap txC).length ∧ (l.flatMap txC)[i]? = some (.v (.string (tx w))) := fun {i w} hw => by
  have h1 : (l.flatMap txC).length = l.length := by rw [flat_len txC_len, Nat.mul_one]
  have h2 : (l.flatMap txC)[i]? = some (.v (.string (tx w))) := by rw [flat_st, List.getElem?_map]; simp [stC, hw]
  exact ⟨by rw [h1]; exact (List.getElem?_eq_some_iff.1 hw).1, h2⟩
set_option maxHeartbeats 4000000 in
theorem narrows_sp (l : List De) (p q : LB) (hp0 : p.length ≤ 140737488351232) (hq0 : q.length ≤ 140737488351232) (H : Hp) (hT : Tb H) : Sp Tryd.prog 5 [rowD l, .v (.string (tx p)), .v (.string (tx q))] (fun v _ => v = .v (.bool true)) H := by
  refine Sp.body [(6, ⟨[1, 7, 8, 9, 10, 11], [], []⟩), (11, ⟨[1, 7, 8, 9, 10, 12], [], []⟩), (18, ⟨[7, 13, 14, 15, 16], [], []⟩)] ⟨[], [], []⟩ [] mo Tryd.func5 rfl (Nat.le_of_ble_eq_true rfl) (by kernel_rfl) ?_
  have hsp : (tx p).size = p.length := tx_size p
  have hsq : (tx q).size = q.length := tx_size q
  have bp := splL_len p
  have bq := splL_len q
  have bwp := wordsL_len p
  have bwq := wordsL_len q
  have w0 : IntKind.i64.wrap ((p.length : Int) + (q.length : Int)) = (p.length : Int) + (q.length : Int) := wr_i64 (by omega)
  simp [ev_seq, ev_region2, evOps_nil, evOps_cons, opG_none, opA_move, opA_assign, opA_call, putO_some, putH_lt, opS, opV, Go.Mx.look, fr0, argSlots, seqK, mapO, callA, ok13, rowD]
  refine few_sp l false H _ (fun hf => ?_) (fun _ => by
    simp [ev_seq, ev_cond2, ev_region2, evOps_nil, evOps_cons, opG_none, opG_some, opJ, opU_ff, isU_bool, opA_move, opA_pick, opA_un, opA_call, putO_some, putH_lt, putC_lt, putV_lt, condB_true, pickT, unT, opS, opV, Go.Mx.look, seqK, Fr.known, mapO, unA, callA, ok12]
    refine awake_sp _ _ hT ?_
    simp [ev_ret, evOps_nil, evOps_cons, opG_none, opA_assign, putO_some, putH_lt, putC_lt, opS, opV, Go.Mx.look, seqK, retK, retA, resA, mapO])
  by_cases hpq : p.length + q.length ≤ 100
  · have hpq' : ¬ (100 : Int) < (p.length : Int) + (q.length : Int) := by omega
    simp [evOps_cons, opG_none, opG_some, opJ, opU_ff, isU_bool, opK_eq, opA_move, opA_pick, opA_bin, opA_un, opA_len, opA_call, putO_some, putH_lt, putC_lt, condB_false, binT_some, binA, avO_some, pickT, unT, lenT_str, io_add, io_gtr, opS, opV, Go.Mx.look, Fr.known, mapO, unA, callA, orO_some, eqT_some, tk3, Tryd.underlying9, ok10, hsp, hsq, w0, hpq']
    refine words_sp p (by omega) _ hT _ (by omega) ?_
    by_cases hp1 : wordsL p = []
    · simp [ev_seq, ev_cond2, ev_region2, evOps_nil, evOps_cons, opG_none, opG_some, opJ, opU_ff, isU_bool, opK_eq, opA_move, opA_pick, opA_bin, opA_len, opA_call, putO_some, putH_lt, putC_lt, putV_lt, condB_true, condB_false, binT_some, binA, avO_some, pickT, lenT_row, io_eql, opS, opV, Go.Mx.look, seqK, Fr.known, mapO, callA, orO_some, eqT_some, rowT, tk3, Tryd.underlying23, ok12, rowT, hp1]
      refine awake_sp _ _ hT ?_
      simp [ev_ret, evOps_nil, evOps_cons, opG_none, opA_assign, putO_some, putH_lt, putC_lt, opS, opV, Go.Mx.look, seqK, retK, retA, resA, mapO]
    have hp2 : ¬ ((wordsL p).length = 0) := fun h => hp1 (List.length_eq_zero_iff.1 h)
    have hp2' : ¬ (((wordsL p).length : Int) = 0) := by omega
    simp [evOps_cons, opG_none, opG_some, opJ, opU_ff, isU_bool, opK_eq, opA_move, opA_pick, opA_bin, opA_len, opA_call, putO_some, putH_lt, putC_lt, condB_false, CondP_false, binT_some, binA, avO_some, pickT, lenT_row, io_eql, opS, opV, Go.Mx.look, Fr.known, mapO, callA, orO_some, eqT_some, rowT, tk3, Tryd.underlying23, ok10, rowT, hp2]
    refine words_sp q (by omega) _ hT _ (by omega) ?_
    by_cases hq1 : wordsL q = []
    · simp [ev_seq, ev_cond2, ev_region2, evOps_nil, evOps_cons, opG_none, opG_some, opJ, opU_ff, isU_bool, opK_eq, opA_pick, opA_bin, opA_len, opA_call, putO_some, putH_lt, putC_lt, condB_true, condB_false, binT_some, binA, avO_some, pickT, lenT_row, io_eql, opS, opV, Go.Mx.look, seqK, Fr.known, mapO, callA, orO_some, eqT_some, rowT, tk3, Tryd.underlying23, ok12, rowT, hq1]
      refine awake_sp _ _ hT ?_
      simp [ev_ret, evOps_nil, evOps_cons, opG_none, opA_assign, putO_some, putH_lt, putC_lt, opS, opV, Go.Mx.look, seqK, retK, retA, resA, mapO]
    have hq2 : ¬ ((wordsL q).length = 0) := fun h => hq1 (List.length_eq_zero_iff.1 h)
    have hq2' : ¬ (((wordsL q).length : Int) = 0) := by omega
    simp [ev_skip, ev_seq, ev_cond2, ev_region2, evOps_nil, evOps_cons, opG_none, opG_some, opJ, opU_ff, isU_bool, opK_eq, opA_move, opA_pick, opA_bin, opA_len, opA_call, putO_some, putH_lt, putC_lt, condB_false, CondP_false, binT_some, binA, avO_some, pickT, lenT_row, io_eql, opS, opV, Go.Mx.look, seqK, Fr.known, mapO, callA, orO_some, eqT_some, rowT, tk3, Tryd.underlying23, ok18, rowT, hq2]
    refine built_sp l false _ _ hf hT (fun ix H1 fp hix hs1 hf1 => ?_)
    have hT1 := hT.keep hs1 (by simp) (by simp)
    have hbl := builtL_len l
    have h50 := hf.1
    have hids : ((builtL l).map (·.id)).Nodup := by
      obtain ⟨_, _, _, _, _, _, h3, _⟩ := hix
      exact h3.ids
    generalize builtL l = L at hix hbl hids
    have hLl : (L.length : Int) ≤ 100 := by omega
    have sp1 : splL p ≠ [] := fun h => hp1 (by unfold wordsL; rw [h]; rfl)
    have sq1 : splL q ≠ [] := fun h => hq1 (by unfold wordsL; rw [h]; rfl)
    have c1 : addStr (tx p) ⟨#[32]⟩ = some (.v (.string (tx (p ++ [32])))) := addStr_tx p [32] (by simp; omega)
    have c2 := addStr_tx (p ++ [32]) q (by simp; omega)
    have c3 : p ++ [32] ++ q = p ++ 32 :: q := by simp
    rw [c3] at c2
    simp [ev_seq, ev_region2, evOps_nil, evOps_cons, opG_none, opA_move, opA_assign, opA_call, putO_some, putH_lt, putC_lt, opS, opV, Go.Mx.look, seqK, mapO, callA, ok16]
    refine find_sp p 100 H1 _ hix hT1 (by omega) (by omega) ?_
    simp [evOps_cons, opG_none, opA_move, opA_call, putO_some, putH_lt, putC_lt, opS, opV, Go.Mx.look, mapO, callA, rowT, ok16]
    refine find_sp q 100 H1 _ hix hT1 (by omega) (by omega) ?_
    simp [evOps_cons, opG_none, opA_move, opA_bin, opA_call, putO_some, putH_lt, putC_lt, binT_some, binA, avO_some, strOp, opS, opV, Go.Mx.look, mapO, callA, orO_some, eqT_some, rowT, tk9, ok16, c1, c2]
    refine find_sp (p ++ 32 :: q) 100 H1 _ hix hT1 (by omega) (by simp; omega) ?_
    have hboth := findF_both hids hLl sp1 sq1
    have lA := findF_le L p 100
    have lB := findF_le L q 100
    have lC := findF_le L (p ++ 32 :: q) 100
    generalize findF L p 100 = A at hboth lA ⊢
    generalize findF L q 100 = B at hboth lB ⊢
    generalize findF L (p ++ 32 :: q) 100 = C at hboth lC ⊢
    simp [ev_seq, ev_block, ev_region2, ev_loop, loopK, evOps_nil, evOps_cons, opG_none, opA_assign, putO_some, putH_lt, putC_lt, opS, opV, Go.Mx.look, seqK, mapO, headK, getV, getB, chkP, firstReg, rowT, rowT]
    have gA := fun {i : Nat} {w : LB} (h : A[i]? = some w) => row_get A h
    have gC := fun {i : Nat} {w : LB} (h : C[i]? = some w) => row_get C h
    generalize hca : A.flatMap txC = ca at gA
    generalize hcb : B.flatMap txC = cb
    generalize hcc : C.flatMap txC = cc at gC
    refine LoopC.intro (fun n xs _ H2 => N1Inv p ix A B C ca cb cc H1 n xs H2) C.length ⟨0, by omega, by omega, by simp, rfl⟩ ?_
    rintro n xs bs H2 ⟨i, hi, rfl, rfl, rfl⟩
    by_cases hlt : i < C.length
    · obtain ⟨s, hs⟩ : ∃ s, C[i]? = some s := ⟨_, List.getElem?_eq_getElem hlt⟩
      have hlt' : (i : Int) < (C.length : Int) := by omega
      have w1 : IntKind.i64.wrap ((i : Int) + 1) = (i : Int) + 1 := wr_i64 (by omega)
      obtain ⟨a2, a4⟩ := gC hs
      have a3 : cc[i] = .v (.string (tx s)) := (List.getElem?_eq_some_iff.1 a4).2
      have hm := (hboth s).1 (List.mem_of_getElem? hs)
      simp [ev_skip, ev_seq, ev_cond2, ev_block, ev_region2, evOps_nil, evOps_cons, opG_none, opA_move, opA_bin, opA_load, opA_indexAddr, opA_len, opA_call, putO_some, putH_lt, condB_true, binT_some, binA, avO_some, loadT, lenT_row, indexAddrT, io_lss, opS, opV, Go.Mx.look, seqK, Fr.known, mapO, callA, partA, loadA, loadS, indexAddrA, mkFr, slotsOf, ptrsOf, boxesOf, orO_some, eqT_some, tk3, sz9, ag9, Tryd.underlying23, ok19, hlt', a2, a3]
      refine in_sp2 s false A _ _ rfl hca.symm _ _ (by omega) ?_
      rw [decide_eq_true hm.1]
      simp [evOps_cons, opG_none, opG_some, opJ, opU_ff, isU_bool, opK_eq, opA_move, opA_un, opA_load, opA_indexAddr, opA_call, putO_some, putH_lt, putC_lt, condB_false, unT, loadT, indexAddrT, opS, opV, Go.Mx.look, Fr.known, mapO, unA, callA, partA, loadA, loadS, indexAddrA, sz9, ag9, Tryd.underlying23, ok19, hlt', a2, a3]
      refine in_sp2 s false B _ _ rfl hcb.symm _ _ (by omega) ?_
      rw [decide_eq_true hm.2]
      simp [ev_skip, ev_cond2, ev_region2, evOps_nil, evOps_cons, opG_none, opG_some, opJ, opU_ff, isU_bool, opK_eq, opA_move, opA_assign, opA_pick, opA_bin, opA_un, putO_some, putH_lt, putC_lt, condB_false, binT_some, binA, avO_some, pickT, unT, io_add, opS, opV, Go.Mx.look, seqK, blockK, Fr.known, mapO, unA, headK, getV, getB, chkP, orO_some, eqT_some, tk3, w1]
      exact ⟨C.length - (i + 1), by omega, i + 1, by omega, rfl, by simp, rfl⟩
    · have hii : i = C.length := by omega
      subst hii
      have hlt' : ¬ ((C.length : Int) < (C.length : Int)) := by omega
      simp [ev_seq, ev_cond2, ev_block, ev_exit, ev_region2, ev_loop, loopK, evOps_nil, evOps_cons, opG_none, opA_move, opA_assign, opA_bin, opA_len, putO_some, putH_lt, condB_false, binT_some, binA, avO_some, lenT_row, io_lss, opS, opV, Go.Mx.look, seqK, blockK, Fr.known, mapO, headK, getV, getB, chkP, mkFr, slotsOf, ptrsOf, boxesOf, firstReg, orO_some, eqT_some, tk3, Tryd.underlying23]
      refine LoopC.intro (fun n xs _ H3 => N2Inv p ix A B C ca cb cc H2 n xs H3) A.length ⟨0, by omega, by omega, by simp, rfl⟩ ?_
      rintro n xs bs H3 ⟨i, hi, rfl, rfl, rfl⟩
      by_cases hlt : i < A.length
      · obtain ⟨s, hs⟩ : ∃ s, A[i]? = some s := ⟨_, List.getElem?_eq_getElem hlt⟩
        have hlt' : (i : Int) < (A.length : Int) := by omega
        have w1 : IntKind.i64.wrap ((i : Int) + 1) = (i : Int) + 1 := wr_i64 (by omega)
        obtain ⟨a2, a4⟩ := gA hs
        have a3 : ca[i] = .v (.string (tx s)) := (List.getElem?_eq_some_iff.1 a4).2
        have hsA := List.mem_of_getElem? hs
        simp [ev_skip, ev_seq, ev_cond2, ev_block, ev_region2, evOps_nil, evOps_cons, opG_none, opA_move, opA_bin, opA_load, opA_indexAddr, opA_len, opA_call, putO_some, putH_lt, condB_true, binT_some, binA, avO_some, loadT, lenT_row, indexAddrT, io_lss, opS, opV, Go.Mx.look, seqK, Fr.known, mapO, callA, partA, loadA, loadS, indexAddrA, mkFr, slotsOf, ptrsOf, boxesOf, orO_some, eqT_some, tk3, sz9, ag9, Tryd.underlying23, ok19, hlt', a2, a3]
        refine in_sp2 s false B _ _ rfl hcb.symm _ _ (by omega) ?_
        by_cases hsB : s ∈ B
        · have hm := (hboth s).2 ⟨hsA, hsB⟩
          rw [decide_eq_true hsB]
          simp [evOps_cons, opG_none, opG_some, opJ, opU_ft, isU_bool, opK_eq, opA_move, opA_load, opA_indexAddr, opA_call, putO_some, putH_lt, putC_lt, condB_true, loadT, indexAddrT, opS, opV, Go.Mx.look, Fr.known, mapO, callA, partA, loadA, loadS, indexAddrA, sz9, ag9, Tryd.underlying23, ok19, hlt', a2, a3]
          refine in_sp2 s false C _ _ rfl hcc.symm _ _ (by omega) ?_
          rw [decide_eq_true hm]
          simp [ev_skip, ev_cond2, ev_region2, evOps_nil, evOps_cons, opG_none, opG_some, opJ, opU_ft, isU_bool, opK_eq, opA_move, opA_assign, opA_pick, opA_bin, opA_un, putO_some, putH_lt, putC_lt, condB_true, condB_false, binT_some, binA, avO_some, pickT, unT, io_add, opS, opV, Go.Mx.look, seqK, blockK, Fr.known, mapO, unA, headK, getV, getB, chkP, orO_some, eqT_some, tk3, w1]
          exact ⟨A.length - (i + 1), by omega, i + 1, by omega, rfl, by simp, rfl⟩
        · rw [decide_eq_false hsB]
          simp [ev_skip, ev_cond2, ev_region2, evOps_nil, evOps_cons, opG_none, opG_some, opJ, opU_ft, isU_bool, opA_move, opA_assign, opA_pick, opA_bin, putO_some, putH_lt, putC_lt, putV_lt, condB_false, binT_some, binA, avO_some, pickT, io_add, opS, opV, Go.Mx.look, seqK, blockK, Fr.known, mapO, headK, getV, getB, chkP, orO_some, eqT_some, tk3, w1]
          exact ⟨A.length - (i + 1), by omega, i + 1, by omega, rfl, by simp, rfl⟩
      · have hii : i = A.length := by omega
        subst hii
        have hlt' : ¬ ((A.length : Int) < (A.length : Int)) := by omega
        simp [ev_seq, ev_cond2, ev_exit, ev_region2, evOps_nil, evOps_cons, opG_none, opA_move, opA_bin, opA_len, opA_call, putO_some, putH_lt, condB_false, binT_some, binA, avO_some, lenT_row, io_lss, opS, opV, Go.Mx.look, seqK, blockK, Fr.known, mapO, callA, mkFr, slotsOf, ptrsOf, boxesOf, orO_some, eqT_some, tk3, Tryd.underlying23, ok10]
        refine words_sp p (by omega) _ hT1 _ (by omega) ?_
        obtain ⟨w, hw⟩ : ∃ w, (wordsL p)[0]? = some w := ⟨_, List.getElem?_eq_getElem (by omega)⟩
        obtain ⟨a2, a4⟩ := row_get _ hw
        have hwm := List.mem_of_getElem? hw
        have hws := wordsL_small p w hwm
        have hcount := findF_count hLl hwm
        have hstar := findF_star hids hLl hwm
        have c4 : addStr (tx w) ⟨#[42]⟩ = some (.v (.string (tx (w ++ [42])))) := addStr_tx w [42] (by simp; omega)
        simp only [rowT]
        generalize (wordsL p).flatMap txC = cw at a2 a4
        have a3 : cw[0] = .v (.string (tx w)) := (List.getElem?_eq_some_iff.1 a4).2
        have hp3 : 0 < (wordsL p).length := by omega
        have hp3' : (0 : Int) < ((wordsL p).length : Int) := by omega
        simp [ev_seq, ev_region2, evOps_nil, evOps_cons, opG_none, opA_move, opA_assign, opA_load, opA_indexAddr, opA_call, putO_some, putH_lt, putC_lt, loadT, indexAddrT, opS, opV, Go.Mx.look, seqK, mapO, callA, partA, loadA, loadS, indexAddrA, sz9, ag9, Tryd.underlying23, ok16, hp3, a2, a3]
        refine find_sp w 100 H3 _ hix hT1 (by omega) (by omega) ?_
        simp [evOps_cons, opG_none, opA_move, opA_bin, opA_call, putO_some, putH_lt, putC_lt, binT_some, binA, avO_some, strOp, opS, opV, Go.Mx.look, mapO, callA, orO_some, eqT_some, rowT, tk9, ok16, c4]
        refine find_sp (w ++ [42]) 100 H3 _ hix hT1 (by omega) (by simp; omega) ?_
        have lO := findF_le L w 100
        have lS := findF_le L (w ++ [42]) 100
        generalize findF L w 100 = O at hcount hstar lO ⊢
        generalize findF L (w ++ [42]) 100 = S at hstar lS ⊢
        simp [ev_seq, ev_block, ev_region2, ev_loop, loopK, evOps_nil, evOps_cons, opG_none, opA_assign, putO_some, putH_lt, putC_lt, opS, opV, Go.Mx.look, seqK, mapO, headK, getV, getB, chkP, firstReg, rowT, rowT]
        have gO := fun {i : Nat} {w : LB} (h : O[i]? = some w) => row_get O h
        generalize hco : O.flatMap txC = co at gO
        generalize hcs : S.flatMap txC = cs
        refine LoopC.intro (fun n xs _ H4 => N3Inv w ix O S co cs H3 n xs H4) O.length ⟨0, by omega, by omega, by simp, rfl⟩ ?_
        rintro n xs bs H4 ⟨i, hi, rfl, rfl, rfl⟩
        by_cases hlt : i < O.length
        · obtain ⟨s, hs⟩ : ∃ s, O[i]? = some s := ⟨_, List.getElem?_eq_getElem hlt⟩
          have hlt' : (i : Int) < (O.length : Int) := by omega
          have w1 : IntKind.i64.wrap ((i : Int) + 1) = (i : Int) + 1 := wr_i64 (by omega)
          obtain ⟨a2, a4⟩ := gO hs
          have a3 : co[i] = .v (.string (tx s)) := (List.getElem?_eq_some_iff.1 a4).2
          have hm := hstar s (List.mem_of_getElem? hs)
          simp [ev_skip, ev_seq, ev_cond2, ev_block, ev_region2, evOps_nil, evOps_cons, opG_none, opA_move, opA_bin, opA_load, opA_indexAddr, opA_len, opA_call, putO_some, putH_lt, condB_true, binT_some, binA, avO_some, loadT, lenT_row, indexAddrT, io_lss, opS, opV, Go.Mx.look, seqK, Fr.known, mapO, callA, partA, loadA, loadS, indexAddrA, mkFr, slotsOf, ptrsOf, boxesOf, orO_some, eqT_some, tk3, sz9, ag9, Tryd.underlying23, ok19, hlt', a2, a3]
          refine in_sp2 s false S _ _ rfl hcs.symm _ _ (by omega) ?_
          rw [decide_eq_true hm]
          simp [ev_skip, ev_cond2, ev_region2, evOps_nil, evOps_cons, opG_none, opA_move, opA_assign, opA_bin, opA_un, putO_some, putH_lt, putC_lt, condB_false, binT_some, binA, avO_some, unT, io_add, opS, opV, Go.Mx.look, seqK, blockK, Fr.known, mapO, unA, headK, getV, getB, chkP, orO_some, eqT_some, tk3, w1]
          exact ⟨O.length - (i + 1), by omega, i + 1, by omega, rfl, by simp, rfl⟩
        · have hii : i = O.length := by omega
          subst hii
          have hlt' : ¬ ((O.length : Int) < (O.length : Int)) := by omega
          simp [ev_seq, ev_cond2, ev_exit, ev_region2, evOps_nil, evOps_cons, opG_none, opA_move, opA_bin, opA_len, opA_call, putO_some, putH_lt, condB_false, binT_some, binA, avO_some, lenT_row, io_lss, opS, opV, Go.Mx.look, seqK, blockK, Fr.known, mapO, callA, mkFr, slotsOf, ptrsOf, boxesOf, orO_some, eqT_some, tk3, Tryd.underlying23, ok20]
          refine texts_sp w H4 _ hix ?_
          rw [← hcount]
          simp [evOps_cons, opG_none, opG_some, opJ, opU_ft, isU_bool, opK_eq, opA_move, opA_bin, opA_call, putO_some, putH_lt, putC_lt, condB_true, binT_some, binA, avO_some, io_eql, opS, opV, Go.Mx.look, Fr.known, mapO, callA, orO_some, eqT_some, tk3, ok12]
          refine awake_sp _ _ hT1 ?_
          simp [ev_ret, evOps_nil, evOps_cons, opG_none, opA_assign, opA_pick, putO_some, putH_lt, putC_lt, pickT, opS, opV, Go.Mx.look, seqK, retK, retA, resA, mapO]
  · have hpq' : (100 : Int) < (p.length : Int) + (q.length : Int) := by omega
    simp [ev_seq, ev_cond2, ev_region2, evOps_nil, evOps_cons, opG_none, opG_some, opJ, opU_ff, isU_bool, opK_eq, opA_move, opA_pick, opA_bin, opA_un, opA_len, opA_call, putO_some, putH_lt, putC_lt, putV_lt, condB_true, condB_false, binT_some, binA, avO_some, pickT, unT, lenT_str, io_add, io_gtr, opS, opV, Go.Mx.look, seqK, Fr.known, mapO, unA, callA, orO_some, eqT_some, tk3, Tryd.underlying9, ok12, hsp, hsq, w0, hpq']
    refine awake_sp _ _ hT ?_
    simp [ev_ret, evOps_nil, evOps_cons, opG_none, opA_assign, putO_some, putH_lt, putC_lt, opS, opV, Go.Mx.look, seqK, retK, retA, resA, mapO]
theorem narrows_law (l : List De) (s : ByteArray) (hs : s.size ≤ 140737488351232) (t : ByteArray) (ht : t.size ≤ 140737488351232) : Sp Tryd.prog 5 [rowD l, .v (.string s), .v (.string t)] (fun v _ => v = .v (.bool true)) [.tab 0 firstT, .tab 1 acceptT] :=
  narrows_sp l (txOf s) (txOf t) (by rw [← tx_size]; exact hs) (by rw [← tx_size]; exact ht) _ tb_tabs
end Go.Proofs.YtoakdmkjlpjahaaDoor
