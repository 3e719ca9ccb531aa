import Derived.Test.YtbdfhenelbakaaaE
namespace Go.Proofs.Ytbdfhenelbakaaa
open Go.Mx
set_option linter.unusedVariables false
set_option linter.unusedSimpArgs false

/-- What Join works with. -/
structure JAt (H : Hp) (me mr md ms mg : Nat) (E R D S G : List En) : Prop where
  e : SlAt H me E
  r : SlAt H mr R
  d : SlAt H md D
  s : BdAt H ms S
  g : BdAt H mg G
  n1 : me ≠ ms
  n2 : mr ≠ ms
  n3 : md ≠ ms
  n4 : mg ≠ ms
  n5 : me ≠ mg
  n6 : mr ≠ mg
  n7 : md ≠ mg
variable {H H' : Hp} {me mr md ms mg : Nat} {E R D S G S' G' : List En}
theorem JAt.set (h : JAt H me mr md ms mg E R D S G) (hs : Same [ms] H H') (hd : BdAt H' ms S') : JAt H' me mr md ms mg E R D S' G :=
  ⟨MapAt.same h.e hs (by simpa using h.n1), MapAt.same h.r hs (by simpa using h.n2), MapAt.same h.d hs (by simpa using h.n3), hd, h.g.same hs (by simpa using h.n4), h.n1, h.n2, h.n3, h.n4, h.n5, h.n6, h.n7⟩
theorem JAt.gone (h : JAt H me mr md ms mg E R D S G) (hs : Same [mg] H H') (hd : BdAt H' mg G') : JAt H' me mr md ms mg E R D S G' :=
  ⟨MapAt.same h.e hs (by simpa using h.n5), MapAt.same h.r hs (by simpa using h.n6), MapAt.same h.d hs (by simpa using h.n7), h.s.same hs (by simpa using Ne.symm h.n4), hd, h.n1, h.n2, h.n3, h.n4, h.n5, h.n6, h.n7⟩
def bxJ (dS dG eS eG : List En) : List (List AV) := [[rowE dS, rowE dG], [rowE eS, rowE eG], [.v (.slice none 0 0), .v (.slice none 0 0)]]
def JInv1 (H : Hp) (me mr md ms mg : Nat) (dS dG eS eG : List En) (n : Nat) (xs : List AV) (bs : List (List AV)) (H2 : Hp) : Prop :=
  ∃ i : Nat, i ≤ dS.length ∧ n = dS.length - i ∧ xs = [.mp me, .mp mr, .mp md, .mp ms, .mp mg, rowE dS, .v (.int .i64 dS.length), .v (.int .i64 i)] ∧ bs = bxJ dS dG eS eG ∧
    JAt H2 me mr md ms mg (sortE dG) eS eG (((dS.take i).filter (fun x => !hasK eS (keyE x) && !hasK eG (keyE x))).foldl putE []) [] ∧ Same [] H H2
def JInv2 (H : Hp) (me mr md ms mg : Nat) (dS dG eS eG : List En) (n : Nat) (xs : List AV) (bs : List (List AV)) (H2 : Hp) : Prop :=
  ∃ i : Nat, i ≤ dG.length ∧ n = dG.length - i ∧ xs = [.mp me, .mp mr, .mp ms, .mp mg, rowE dG, .v (.int .i64 dG.length), .v (.int .i64 i)] ∧ bs = bxJ dS dG eS eG ∧
    JAt H2 me mr md ms mg (sortE dG) eS eG (setJ dS eS eG) (((dG.take i).filter (fun x => !hasK eS (keyE x))).foldl putE []) ∧ Same [] H H2
def JInv3 (H : Hp) (me mr md ms mg : Nat) (dS dG eS eG : List En) (n : Nat) (xs : List AV) (bs : List (List AV)) (H2 : Hp) : Prop :=
  ∃ i : Nat, i ≤ eG.length ∧ n = eG.length - i ∧ xs = [.mp me, .mp mr, .mp ms, .mp mg, rowE eG, .v (.int .i64 eG.length), .v (.int .i64 i)] ∧ bs = bxJ dS dG eS eG ∧
    JAt H2 me mr md ms mg (sortE dG) eS eG (setJ dS eS eG) (((eG.take i).filter (fun x => !hasK eS (keyE x) && !hasK (sortE dG) (keyE x))).foldl putE ((dG.filter (fun x => !hasK eS (keyE x))).foldl putE [])) ∧ Same [] H H2
theorem fl_add (l : List En) (e : En) (q : En → Bool) (L : List En) : ((l ++ [e]).filter q).foldl putE L = if q e then putE ((l.filter q).foldl putE L) e else (l.filter q).foldl putE L := by
  rw [List.filter_append]
  cases hq : q e <;> simp [hq]
set_option maxRecDepth 20000 in
set_option maxHeartbeats 4000000 in
theorem join_sp (dS dG eS eG : List En) (H : Hp) (Q : AV → Hp → Prop) (h1 : Few1 dS) (h2 : Few1 dG) (h3 : Few1 eS) (h4 : Few1 eG) (h : Q (delV (setJ dS eS eG) (goneJ dG eS eG)) H) : Sp Try.prog 17 [delV dS dG, delV eS eG] Q H := by
  refine Sp.clean ?_
  refine Sp.body [(4, ⟨[5, 6, 7, 8, 9, 29, 30, 31], [(2, 2, 0), (3, 3, 0), (4, 4, 0)], [2, 3, 4]⟩), (11, ⟨[5, 6, 8, 9, 57, 58, 59], [(2, 2, 0), (3, 3, 0), (4, 4, 0)], [2, 3, 4]⟩), (17, ⟨[5, 6, 8, 9, 74, 75, 76], [(2, 2, 0), (3, 3, 0), (4, 4, 0)], [2, 3, 4]⟩)] ⟨[2, 3, 4, 11, 13, 15], [], pl17⟩ tb17 mo Try.func17 rfl (Nat.le_of_ble_eq_true rfl) (by kernel_rfl) ?_
  have hl1 := h1.1
  have hl2 := h2.1
  have hl4 := h4.1
  simp [ev_seq, ev_region2, evOps_nil, evOps_cons, opG_none, opA_load, opA_fieldAddr, opA_call, opA_alloc, opA_box, putO_some, putH_lt, loadT, fieldAddrT, allocT, boxT, opS, opV, Go.Mx.look, fr0, argSlots, seqK, Fr.newBox, dropBp, mapO, callA, cellsA_agg, okPart_agg, partA, loadS, plusS, newK, ev_draw, drawK, evP_q, evP_s, opAt_some, sz22, ag22, ze28, Try.underlying28, ok10, pl17, delV]
  refine sort_sp dG H _ h2 ?_
  simp [opG_none, opA_call, putC_lt, loadT, fieldAddrT, opS, opV, Go.Mx.look, mapO, callA, partA, loadS, plusS, evP_s, opAt_some, chkK_eq, sameV_some, sameO_some, allQ_nil, allQ_cons, valQ_none, valS_load, valS_fieldAddr, sz22, ag22, Try.underlying28, ok27]
  refine slots_sp (sortE dG) H _ (few_sort h2) (fun H2 me he hs1 hme => ?_)
  simp [opG_none, opA_call, putC_lt, loadT, fieldAddrT, opS, opV, Go.Mx.look, mapO, callA, partA, loadS, plusS, evP_s, opAt_some, chkK_eq, sameV_some, sameO_some, allQ_nil, allQ_cons, valQ_none, valS_load, valS_fieldAddr, sz22, ag22, Try.underlying28, ok27]
  refine slots_sp eS H2 _ h3 (fun H3 mr hr hs2 hmr => ?_)
  simp [opG_none, opA_call, putC_lt, loadT, fieldAddrT, opS, opV, Go.Mx.look, mapO, callA, partA, loadS, plusS, evP_s, opAt_some, chkK_eq, sameV_some, sameO_some, allQ_nil, allQ_cons, valQ_none, valS_load, valS_fieldAddr, sz22, ag22, Try.underlying28, ok27]
  refine slots_sp eG H3 _ h4 (fun H4 md hd hs3 hmd => ?_)
  simp [ev_seq, ev_block, ev_region2, ev_loop, loopK, evOps_nil, evOps_cons, opG_none, opA_move, opA_assign, opA_load, opA_fieldAddr, opA_len, opA_makeMap, putO_some, putH_lt, putC_lt, loadT, lenT_row, fieldAddrT, makeMapT, opS, opV, Go.Mx.look, seqK, mapO, partA, loadS, plusS, headK, getV, getB, chkP, firstReg, evP_nil, evP_s, opAt_some, chkK_eq, allQ_nil, sz22, ag22, Try.underlying22, Try.underlying28, Try.underlying41, rowE]
  have hlr := MapAt.lt hr
  have hle := MapAt.lt he
  have hld := MapAt.lt hd
  have hs5 : Same [] H4 (H4 ++ [.map [] 0, .map [] 0]) := Same.app _ _ _
  have hs6 : Same [] H (H4 ++ [.map [] 0, .map [] 0]) := ((hs1.new hs2 (by simp)).new hs3 (by simp)).new hs5 (by simp)
  have g2 := hs2.1
  have g3 := hs3.1
  have g1 := hs1.1
  have hm0 : ∀ i, (H4 ++ [Ob.map [] 0, .map [] 0])[i]? = some (.map [] 0) → MapAt Try.prog 47 (H4 ++ [Ob.map [] 0, .map [] 0]) i (fA []) := fun i hi => by
    have e : fA [] = fun _ => none := by funext x; unfold fA; split <;> rfl
    rw [e]; exact ⟨[], 0, hi, MapOk.nil _ _ _, fun k => rfl⟩
  have hJ : JAt (H4 ++ [Ob.map [] 0, .map [] 0]) me mr md H4.length (H4.length + 1) (sortE dG) eS eG [] [] :=
    ⟨MapAt.same (MapAt.same (MapAt.same he hs2 (by simp)) hs3 (by simp)) hs5 (by simp), MapAt.same (MapAt.same hr hs3 (by simp)) hs5 (by simp), MapAt.same hd hs5 (by simp),
      ⟨Nice.nil, by simp, hm0 _ (by simp)⟩, ⟨Nice.nil, by simp, hm0 _ (by simp)⟩, by omega, by omega, by omega, by omega, by omega, by omega, by omega⟩
  have hms : H.length ≤ H4.length := by omega
  have hmg : H.length ≤ H4.length + 1 := by omega
  generalize H4 ++ [Ob.map [] 0, .map [] 0] = H5 at *
  generalize H4.length + 1 = mg at *
  generalize H4.length = ms at *
  clear hs5 hm0 hs1 hs2 hs3 he hr hd
  refine LoopC.intro (fun n xs bs H2 => JInv1 H me mr md ms mg dS dG eS eG n xs bs H2) dS.length ⟨0, by omega, by omega, by simp [rowE], by simp [bxJ, rowE], by simpa using hJ, hs6⟩ ?_
  clear hJ hs6
  rintro n xs bs H6 ⟨i, hi, rfl, rfl, rfl, hJ, hs⟩
  simp [ev_skip, ev_seq, ev_cond2, ev_block, ev_exit, ev_region2, evOps_nil, evOps_cons, opG_none, opA_move, opA_bin, opA_load, opA_indexAddr, opA_fieldAddr, opA_call, putO_some, putH_lt, binT_some, binA, avO_some, loadT, fieldAddrT, indexAddrT, io_lss, opS, opV, Go.Mx.look, seqK, blockK, Fr.known, mapO, callA, partA, loadS, plusS, indexAddrA, mkFr, slotsOf, ptrsOf, boxesOf, orO_some, eqT_some, tk3, sz22, ag22, Try.underlying22, Try.underlying28, sz32, ok26, rowE, bxJ]
  refine ⟨fun hlt => ?_, fun hge => ?_⟩
  · have hx := List.getElem?_eq_getElem hlt
    generalize dS[i] = e at hx
    have hsl := flat_sub enC_len dS i hx
    have hle : i * 3 + 3 ≤ (List.map (fun a : En => 3) dS).sum := flat_le2 enC_len hx
    have w1 : IntKind.i64.wrap ((i : Int) + 1) = (i : Int) + 1 := wr_i64 (by omega)
    have htk : dS.take (i + 1) = dS.take i ++ [e] := by rw [List.take_add_one, hx]; rfl
    have hfe := h1.2 e (List.mem_of_getElem? hx)
    have l1 := look_sl hJ.r e hfe
    have l2 := look_sl hJ.d e hfe
    have step : ∀ H7 S', S' = (((dS.take (i + 1)).filter (fun x => !hasK eS (keyE x) && !hasK eG (keyE x))).foldl putE []) → JAt H7 me mr md ms mg (sortE dG) eS eG S' [] → Same [] H H7 → ∃ m, m < dS.length - i ∧ JInv1 H me mr md ms mg dS dG eS eG m [.mp me, .mp mr, .mp md, .mp ms, .mp mg, rowE dS, .v (.int .i64 dS.length), .v (.int .i64 (i + 1))] (bxJ dS dG eS eG) H7 := fun H7 S' e1 e2 e3 =>
      ⟨dS.length - (i + 1), by omega, i + 1, by omega, rfl, by simp, rfl, by rw [← e1]; exact e2, e3⟩
    simp only [bxJ, rowE] at step
    rw [htk, fl_add] at step
    simp [ev_seq, ev_region2, evOps_nil, evOps_cons, opG_none, opA_move, opA_load, opA_call, opA_alloc, opA_store, putO_some, putH_lt, putU_none, loadT, allocT, storeT, opS, opV, Go.Mx.look, seqK, Fr.newBox, dropBp, mapO, callA, cellsA_agg, okPart_agg, partA, loadA, loadS, newK, storeS, sz32, ag32, ze32, ok28, hlt, hsl, hle, enC, splice]
    refine at_sp e H6 _ ?_
    simp [ev_skip, ev_cond2, ev_region2, evOps_nil, evOps_cons, opG_none, opG_some, opJ, opU_ft, isU_bool, opK_eq, opA_move, opA_pick, opA_bin, opA_un, opA_load, opA_call, putO_some, putH_lt, putC_lt, putV_lt, condB_true, condB_false, binT_some, binA, avO_some, pickT, unT, loadT, io_add, opS, opV, Go.Mx.look, seqK, blockK, Fr.known, mapO, unA, callA, partA, loadS, headK, getV, getB, chkP, orO_some, eqT_some, lookT_some, opA_lookup, tk3, sz32, ag32, ok28, keyV, keyE, l1]
    cases hr : hasK eS (keyE e) with
    | true =>
      have hr2 : hasK eS (e.ty, e.ky) = true := hr
      simp [hr2, w1]
      simpa using step H6 _ (by simp [hr]) hJ hs
    | false =>
      have hr2 : hasK eS (e.ty, e.ky) = false := hr
      simp [hr2, w1]
      refine at_sp e H6 _ ?_
      simp [ev_skip, ev_cond2, ev_region2, evOps_nil, evOps_cons, opG_none, opG_some, opJ, opU_ft, isU_bool, opK_eq, opA_move, opA_pick, opA_bin, opA_un, opA_load, opA_call, opA_buildSlice, putO_some, putH_lt, putC_lt, condB_true, binT_some, binA, avO_some, pickT, unT, loadT, buildSliceT, repeatL_1, io_add, opS, opV, Go.Mx.look, seqK, blockK, Fr.known, mapO, unA, callA, cellsA_agg, okPart_agg, partA, loadS, fillA, headK, getV, getB, chkP, bindO, orO_some, eqT_some, lookT_some, opA_lookup, tk3, Try.underlying22, sz32, ag32, ze32, ok26, keyV, keyE, l2]
      cases hg : hasK eG (keyE e) with
      | true =>
        have hg2 : hasK eG (e.ty, e.ky) = true := hg
        simp [hg2, w1]
        simpa using step H6 _ (by simp [hr, hg]) hJ hs
      | false =>
        have hg2 : hasK eG (e.ty, e.ky) = false := hg
        simp [hg2, w1]
        have hp := put_sp ms _ [e] true H6 (fun v H' => v = .tup [] ∧ BdAt H' ms (putE (((dS.take i).filter (fun x => !hasK eS (keyE x) && !hasK eG (keyE x))).foldl putE []) e) ∧ Same [ms] H6 H') hJ.s ⟨by simp, by simpa using hfe⟩ (fun H7 a b => ⟨rfl, a, b⟩)
        simp only [List.flatMap_cons, List.flatMap_nil, List.append_nil, List.length_cons, List.length_nil, enC] at hp
        refine hp.mono (fun v H7 hv => ?_)
        obtain ⟨rfl, a, b⟩ := hv
        simp [ev_region2, evOps_nil, evOps_cons, opG_none, opA_move, opA_bin, putO_some, putH_lt, putC_lt, binT_some, binA, avO_some, io_add, opS, opV, Go.Mx.look, seqK, blockK, mapO, headK, getV, getB, chkP, orO_some, eqT_some, tk3, w1]
        simpa using step H7 _ (by simp [hr, hg]) (hJ.set b a) (hs.new b (by simpa using hms))
  · have : i = dS.length := by omega
    subst this
    rw [List.take_length] at hJ
    refine put_sp ms _ eS false H6 _ hJ.s h3 (fun H7 hd7 hs7 => ?_)
    have hJ2 := hJ.set hs7 hd7
    have hs8 : Same [] H H7 := hs.new hs7 (by simpa using hms)
    clear hJ hs7 hd7 hs
    simp [ev_seq, ev_block, ev_region2, ev_loop, loopK, evOps_nil, evOps_cons, opG_none, opA_move, opA_load, opA_fieldAddr, opA_len, putO_some, putH_lt, putC_lt, loadT, lenT_row, fieldAddrT, opS, opV, Go.Mx.look, seqK, mapO, partA, loadS, plusS, headK, getV, getB, chkP, firstReg, sz22, ag22, Try.underlying22, Try.underlying28]
    refine LoopC.intro (fun n xs bs H2 => JInv2 H me mr md ms mg dS dG eS eG n xs bs H2) dG.length ⟨0, by omega, by omega, by simp [rowE], by simp [bxJ, rowE], by simpa [setJ] using hJ2, hs8⟩ ?_
    clear hJ2 hs8
    rintro n xs bs H8 ⟨i, hi, rfl, rfl, rfl, hJ, hs⟩
    simp [ev_skip, ev_seq, ev_cond2, ev_block, ev_exit, ev_region2, ev_loop, loopK, evOps_nil, evOps_cons, opG_none, opA_move, opA_bin, opA_load, opA_indexAddr, opA_fieldAddr, opA_len, putO_some, putH_lt, binT_some, binA, avO_some, loadT, lenT_row, fieldAddrT, indexAddrT, io_lss, opS, opV, Go.Mx.look, seqK, blockK, Fr.known, mapO, partA, loadS, plusS, indexAddrA, headK, getV, getB, chkP, mkFr, slotsOf, ptrsOf, boxesOf, firstReg, orO_some, eqT_some, tk3, sz22, ag22, Try.underlying22, Try.underlying28, sz32, rowE, bxJ]
    refine ⟨fun hlt => ?_, fun hge => ?_⟩
    · have hx := List.getElem?_eq_getElem hlt
      generalize dG[i] = e at hx
      have hsl := flat_sub enC_len dG i hx
      have hle : i * 3 + 3 ≤ (List.map (fun a : En => 3) dG).sum := flat_le2 enC_len hx
      have w1 : IntKind.i64.wrap ((i : Int) + 1) = (i : Int) + 1 := wr_i64 (by omega)
      have htk : dG.take (i + 1) = dG.take i ++ [e] := by rw [List.take_add_one, hx]; rfl
      have hfe := h2.2 e (List.mem_of_getElem? hx)
      have l1 := look_sl hJ.r e hfe
      have step : ∀ H7 S', S' = (((dG.take (i + 1)).filter (fun x => !hasK eS (keyE x))).foldl putE []) → JAt H7 me mr md ms mg (sortE dG) eS eG (setJ dS eS eG) S' → Same [] H H7 → ∃ m, m < dG.length - i ∧ JInv2 H me mr md ms mg dS dG eS eG m [.mp me, .mp mr, .mp ms, .mp mg, rowE dG, .v (.int .i64 dG.length), .v (.int .i64 (i + 1))] (bxJ dS dG eS eG) H7 := fun H7 S' e1 e2 e3 =>
        ⟨dG.length - (i + 1), by omega, i + 1, by omega, rfl, by simp, rfl, by rw [← e1]; exact e2, e3⟩
      simp only [bxJ, rowE] at step
      rw [htk, fl_add] at step
      simp [ev_seq, ev_region2, evOps_nil, evOps_cons, opG_none, opA_move, opA_load, opA_call, opA_alloc, opA_store, putO_some, putH_lt, putU_none, loadT, allocT, storeT, opS, opV, Go.Mx.look, seqK, Fr.newBox, dropBp, mapO, callA, cellsA_agg, okPart_agg, partA, loadA, loadS, newK, storeS, sz32, ag32, ze32, ok28, hlt, hsl, hle, enC, splice]
      refine at_sp e H8 _ ?_
      simp [ev_skip, ev_cond2, ev_region2, evOps_nil, evOps_cons, opG_none, opA_move, opA_bin, opA_un, opA_load, opA_call, opA_buildSlice, putO_some, putH_lt, putC_lt, binT_some, binA, avO_some, unT, loadT, buildSliceT, repeatL_1, io_add, opS, opV, Go.Mx.look, seqK, blockK, Fr.known, mapO, unA, callA, cellsA_agg, okPart_agg, partA, loadS, fillA, headK, getV, getB, chkP, bindO, orO_some, eqT_some, lookT_some, opA_lookup, tk3, Try.underlying22, sz32, ag32, ze32, ok26, keyV, keyE, l1]
      cases hr : hasK eS (keyE e) with
      | true =>
        have hr2 : hasK eS (e.ty, e.ky) = true := hr
        simp [hr2, w1]
        simpa using step H8 _ (by simp [hr]) hJ hs
      | false =>
        have hr2 : hasK eS (e.ty, e.ky) = false := hr
        simp [hr2, w1]
        have hp := put_sp mg _ [e] true H8 (fun v H' => v = .tup [] ∧ BdAt H' mg (putE (((dG.take i).filter (fun x => !hasK eS (keyE x))).foldl putE []) e) ∧ Same [mg] H8 H') hJ.g ⟨by simp, by simpa using hfe⟩ (fun H7 a b => ⟨rfl, a, b⟩)
        simp only [List.flatMap_cons, List.flatMap_nil, List.append_nil, List.length_cons, List.length_nil, enC] at hp
        refine hp.mono (fun v H7 hv => ?_)
        obtain ⟨rfl, a, b⟩ := hv
        simp [ev_region2, evOps_nil, evOps_cons, opG_none, opA_move, opA_bin, putO_some, putH_lt, putC_lt, binT_some, binA, avO_some, io_add, opS, opV, Go.Mx.look, seqK, blockK, mapO, headK, getV, getB, chkP, orO_some, eqT_some, tk3, w1]
        simpa using step H7 _ (by simp [hr]) (hJ.gone b a) (hs.new b (by simpa using hmg))
    · have : i = dG.length := by omega
      subst this
      rw [List.take_length] at hJ
      refine LoopC.intro (fun n xs bs H2 => JInv3 H me mr md ms mg dS dG eS eG n xs bs H2) eG.length ⟨0, by omega, by omega, by simp [rowE], by simp [bxJ, rowE], by simpa using hJ, hs⟩ ?_
      clear hJ hs
      rintro n xs bs H9 ⟨i, hi, rfl, rfl, rfl, hJ, hs⟩
      simp [ev_skip, ev_seq, ev_cond2, ev_block, ev_exit, ev_region2, evOps_nil, evOps_cons, opG_none, opA_move, opA_bin, opA_indexAddr, opA_call, putO_some, putH_lt, binT_some, binA, avO_some, indexAddrT, io_lss, opS, opV, Go.Mx.look, seqK, blockK, Fr.known, mapO, callA, indexAddrA, mkFr, slotsOf, ptrsOf, boxesOf, orO_some, eqT_some, tk3, Try.underlying22, sz32, ok19, rowE, bxJ]
      refine ⟨fun hlt => ?_, fun hge => ?_⟩
      · have hx := List.getElem?_eq_getElem hlt
        generalize eG[i] = e at hx
        have hsl := flat_sub enC_len eG i hx
        have hle : i * 3 + 3 ≤ (List.map (fun a : En => 3) eG).sum := flat_le2 enC_len hx
        have w1 : IntKind.i64.wrap ((i : Int) + 1) = (i : Int) + 1 := wr_i64 (by omega)
        have htk : eG.take (i + 1) = eG.take i ++ [e] := by rw [List.take_add_one, hx]; rfl
        have hfe := h4.2 e (List.mem_of_getElem? hx)
        have l1 := look_sl hJ.r e hfe
        have l2 := look_sl hJ.e e hfe
        have step : ∀ H7 S', S' = (((eG.take (i + 1)).filter (fun x => !hasK eS (keyE x) && !hasK (sortE dG) (keyE x))).foldl putE ((dG.filter (fun x => !hasK eS (keyE x))).foldl putE [])) → JAt H7 me mr md ms mg (sortE dG) eS eG (setJ dS eS eG) S' → Same [] H H7 → ∃ m, m < eG.length - i ∧ JInv3 H me mr md ms mg dS dG eS eG m [.mp me, .mp mr, .mp ms, .mp mg, rowE eG, .v (.int .i64 eG.length), .v (.int .i64 (i + 1))] (bxJ dS dG eS eG) H7 := fun H7 S' e1 e2 e3 =>
          ⟨eG.length - (i + 1), by omega, i + 1, by omega, rfl, by simp, rfl, by rw [← e1]; exact e2, e3⟩
        simp only [bxJ, rowE] at step
        rw [htk, fl_add] at step
        simp [ev_seq, ev_region2, evOps_nil, evOps_cons, opG_none, opA_move, opA_load, opA_call, opA_alloc, opA_store, putO_some, putH_lt, putU_none, loadT, allocT, storeT, opS, opV, Go.Mx.look, seqK, Fr.newBox, dropBp, mapO, callA, cellsA_agg, okPart_agg, partA, loadA, loadS, newK, storeS, sz32, ag32, ze32, ok28, hlt, hsl, hle, enC, splice]
        refine at_sp e H9 _ ?_
        simp [ev_skip, ev_cond2, ev_region2, evOps_nil, evOps_cons, opG_none, opG_some, opJ, opU_ft, isU_bool, opK_eq, opA_move, opA_pick, opA_bin, opA_un, opA_load, opA_call, putO_some, putH_lt, putC_lt, putV_lt, condB_true, condB_false, binT_some, binA, avO_some, pickT, unT, loadT, io_add, opS, opV, Go.Mx.look, seqK, blockK, Fr.known, mapO, unA, callA, partA, loadS, headK, getV, getB, chkP, orO_some, eqT_some, lookT_some, opA_lookup, tk3, sz32, ag32, ok28, keyV, keyE, l1]
        cases hr : hasK eS (keyE e) with
        | true =>
          have hr2 : hasK eS (e.ty, e.ky) = true := hr
          simp [hr2, w1]
          simpa using step H9 _ (by simp [hr]) hJ hs
        | false =>
          have hr2 : hasK eS (e.ty, e.ky) = false := hr
          simp [hr2, w1]
          refine at_sp e H9 _ ?_
          simp [ev_skip, ev_cond2, ev_region2, evOps_nil, evOps_cons, opG_none, opG_some, opJ, opU_ft, isU_bool, opK_eq, opA_move, opA_pick, opA_bin, opA_un, opA_load, opA_call, opA_buildSlice, putO_some, putH_lt, putC_lt, condB_true, binT_some, binA, avO_some, pickT, unT, loadT, buildSliceT, repeatL_1, io_add, opS, opV, Go.Mx.look, seqK, blockK, Fr.known, mapO, unA, callA, cellsA_agg, okPart_agg, partA, loadS, fillA, headK, getV, getB, chkP, bindO, orO_some, eqT_some, lookT_some, opA_lookup, tk3, Try.underlying22, sz32, ag32, ze32, ok26, keyV, keyE, l2]
          cases hg : hasK (sortE dG) (keyE e) with
          | true =>
            have hg2 : hasK (sortE dG) (e.ty, e.ky) = true := hg
            simp [hg2, w1]
            simpa using step H9 _ (by simp [hr, hg]) hJ hs
          | false =>
            have hg2 : hasK (sortE dG) (e.ty, e.ky) = false := hg
            simp [hg2, w1]
            have hp := put_sp mg _ [e] true H9 (fun v H' => v = .tup [] ∧ BdAt H' mg (putE (((eG.take i).filter (fun x => !hasK eS (keyE x) && !hasK (sortE dG) (keyE x))).foldl putE ((dG.filter (fun x => !hasK eS (keyE x))).foldl putE [])) e) ∧ Same [mg] H9 H') hJ.g ⟨by simp, by simpa using hfe⟩ (fun H7 a b => ⟨rfl, a, b⟩)
            simp only [List.flatMap_cons, List.flatMap_nil, List.append_nil, List.length_cons, List.length_nil, enC] at hp
            refine hp.mono (fun v H7 hv => ?_)
            obtain ⟨rfl, a, b⟩ := hv
            simp [ev_region2, evOps_nil, evOps_cons, opG_none, opA_move, opA_bin, putO_some, putH_lt, putC_lt, binT_some, binA, avO_some, io_add, opS, opV, Go.Mx.look, seqK, blockK, mapO, headK, getV, getB, chkP, orO_some, eqT_some, tk3, w1]
            simpa using step H7 _ (by simp [hr, hg]) (hJ.gone b a) (hs.new b (by simpa using hmg))
      · have : i = eG.length := by omega
        subst this
        rw [List.take_length] at hJ
        have hG : JAt H9 me mr md ms mg (sortE dG) eS eG (setJ dS eS eG) (goneJ dG eS eG) := hJ
        have hlS : (setJ dS eS eG).length ≤ 1000 := by
          have a1 := puts_len eS ((dS.filter (fun x => !hasK eS (keyE x) && !hasK eG (keyE x))).foldl putE [])
          have a2 := puts_len (dS.filter (fun x => !hasK eS (keyE x) && !hasK eG (keyE x))) []
          have a3 := List.length_filter_le (fun x => !hasK eS (keyE x) && !hasK eG (keyE x)) dS
          have := h3.1
          simp only [List.length_nil] at a2
          unfold setJ; omega
        have hlG : (goneJ dG eS eG).length ≤ 1000 := by
          have a1 := puts_len (eG.filter (fun x => !hasK eS (keyE x) && !hasK (sortE dG) (keyE x))) ((dG.filter (fun x => !hasK eS (keyE x))).foldl putE [])
          have a2 := puts_len (dG.filter (fun x => !hasK eS (keyE x))) []
          have a3 := List.length_filter_le (fun x => !hasK eS (keyE x) && !hasK (sortE dG) (keyE x)) eG
          have a4 := List.length_filter_le (fun x => !hasK eS (keyE x)) dG
          simp only [List.length_nil] at a2
          unfold goneJ; omega
        clear hJ
        generalize setJ dS eS eG = S at *
        generalize goneJ dG eS eG = G at *
        have e : ∀ l : List En, l.filter (fun _ => true) = l := fun l => by simp
        refine entries_sp ms _ _ 20 [] H9 _ hG.s hlS (may_all _ _) ?_
        rw [e]
        simp [evOps_cons, opG_none, opA_move, opA_call, putO_some, putH_lt, putC_lt, opS, opV, Go.Mx.look, mapO, callA, ok19, rowE]
        refine entries_sp mg _ _ 20 [] H9 _ hG.g hlG (may_all _ _) ?_
        rw [e]
        simp [ev_ret, evOps_nil, evOps_cons, opG_none, opA_store, opA_build, putO_some, putH_lt, putC_lt, putU_none, storeT, buildZ, partsZ, fillO, aggO, opS, opV, Go.Mx.look, seqK, retK, retA, resA, mapO, cellsA_agg, cellsA_row, okPart_agg, okPart_row, partA, loadS, fillA, storeS, sz28, ag28, ze28, of28, rowE, splice]
        exact ⟨hs.grown, ⟨fun c x hx hc => low_ens _ c (List.mem_flatMap.2 ⟨x, hx, hc⟩), fun c x hx hc => low_ens _ c (List.mem_flatMap.2 ⟨x, hx, hc⟩)⟩, h⟩
end Go.Proofs.Ytbdfhenelbakaaa
