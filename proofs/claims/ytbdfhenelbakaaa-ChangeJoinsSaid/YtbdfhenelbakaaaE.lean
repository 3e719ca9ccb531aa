import Derived.Test.YtbdfhenelbakaaaC
import Derived.Test.YtbdfhenelbakaaaD
namespace Go.Proofs.Ytbdfhenelbakaaa
open Go.Mx
set_option linter.unusedVariables false
set_option linter.unusedSimpArgs false

theorem zero9 : zeroA Try.prog 9 = some (.v (.string ⟨#[]⟩)) := by kernel_rfl
theorem look_bd {H : Hp} {m : Nat} {L : List En} (hd : BdAt H m L) (e : En) (he : FewE e) (ok : Bool) : lookV Try.prog H 41 (.mp m) (keyV (keyE e)) ok = Go.Mx.valOf Try.prog 9 ok ((fK L (keyE e)).map idV) := by
  rw [hd.2.2.look Try.underlying41 (goodE e he), fA_key]
theorem clo1_sp (ba m : Nat) (A : List En) (e : En) (H : Hp) (Q : AV → Hp → Prop) (hb : H[ba]? = some (.cells 0 [.mp m])) (hd : BdAt H m A) (he : FewE e) (hid : e.id ≠ noId) (h : Q (.v (.bool (decide (e ∉ A)))) H) : Sp Try.prog 22 [keyV (keyE e), idV e, .ptr ba 0 0] Q H := by
  refine Sp.body [] ⟨[3], [], []⟩ [] mo Try.func22 rfl (Nat.le_of_ble_eq_true rfl) (by kernel_rfl) ?_
  have hl := look_bd hd e he false
  have key : ∀ x : Bool, (x = true ↔ e ∉ A) → Q (.v (.bool x)) H := fun x hx => by
    have : x = decide (e ∉ A) := by rw [Bool.eq_iff_iff, hx]; simp
    rw [this]; exact h
  have hmem : e ∈ A ↔ (fK A (keyE e)).map (·.id) = some e.id := by
    rw [Option.map_eq_some_iff]
    constructor
    · intro hm; exact ⟨e, (fK_iff hd.1.1).2 ⟨hm, rfl⟩, rfl⟩
    · rintro ⟨o, h1, h2⟩
      obtain ⟨h3, h4⟩ := (fK_iff hd.1.1).1 h1
      have : o = e := by
        obtain ⟨o1, o2, o3⟩ := o
        obtain ⟨e1, e2, e3⟩ := e
        simp [keyE] at h4 h2
        obtain ⟨rfl, rfl⟩ := h4
        rw [h2]
      rw [← this]; exact h3
  simp only [keyV, keyE] at hl
  cases hf : fK A (e.ty, e.ky) with
  | none =>
    have hf2 : fK A (keyE e) = none := hf
    rw [hf] at hl
    simp only [Option.map_none, Go.Mx.valOf, zero9] at hl
    simp [ev_seq, ev_ret, ev_region2, evOps_nil, evOps_cons, opG_none, opA_move, opA_assign, opA_bin, opA_load, opA_box, putO_some, putH_lt, binT_some, binA, avO_some, loadT, boxT, strOp, opS, opV, Go.Mx.look, fr0, argSlots, seqK, Fr.newBox, dropBp, retK, retA, resA, mapO, cellsA_agg, okPart_agg, partA, loadA, loadS, newK, orO_some, eqT_some, lookT_some, opA_lookup, tk9, sz41, ag41, sz47, ag47, keyV, keyE, idV, hb, hl]
    apply key
    rw [hmem, hf2]
    have tl0 : ∀ s : ByteArray, (s.toList = []) = (s = noId) := fun s => by show _ = (s = tx []); rw [← tl_inj, tx_list]
    simp [tl0, hid]
  | some o =>
    have hf2 : fK A (keyE e) = some o := hf
    rw [hf] at hl
    simp only [Option.map_some, Go.Mx.valOf, idV] at hl
    simp [ev_seq, ev_ret, ev_region2, evOps_nil, evOps_cons, opG_none, opA_move, opA_assign, opA_bin, opA_load, opA_box, putO_some, putH_lt, binT_some, binA, avO_some, loadT, boxT, strOp, opS, opV, Go.Mx.look, fr0, argSlots, seqK, Fr.newBox, dropBp, retK, retA, resA, mapO, cellsA_agg, okPart_agg, partA, loadA, loadS, newK, orO_some, eqT_some, lookT_some, opA_lookup, tk9, sz41, ag41, sz47, ag47, keyV, keyE, idV, hb, hl]
    apply key
    rw [hmem, hf2]
    simp [tl_inj]
theorem clo2_sp (ba m : Nat) (B : List En) (e : En) (H : Hp) (Q : AV → Hp → Prop) (hb : H[ba]? = some (.cells 0 [.mp m])) (hd : BdAt H m B) (he : FewE e) (h : Q (.v (.bool (!B.any (fun x => decide (keyE x = keyE e))))) H) : Sp Try.prog 23 [keyV (keyE e), idV e, .ptr ba 0 0] Q H := by
  refine Sp.body [] ⟨[3], [], []⟩ [] mo Try.func23 rfl (Nat.le_of_ble_eq_true rfl) (by kernel_rfl) ?_
  have hl := look_bd hd e he true
  have hk := mem_key hd.1 (keyE e)
  rw [hk] at h
  unfold val at h
  simp only [keyV, keyE] at hl
  cases hf : fK B (e.ty, e.ky) with
  | none =>
    have hf2 : fK B (keyE e) = none := hf
    rw [hf2] at h
    rw [hf] at hl
    simp only [Option.map_none, Go.Mx.valOf, zero9] at hl
    simp [ev_seq, ev_ret, ev_region2, evOps_nil, evOps_cons, opG_none, opA_move, opA_assign, opA_un, opA_extract, opA_load, opA_box, putO_some, putH_lt, avO_some, unT, extractT, loadT, boxT, opS, opV, Go.Mx.look, fr0, argSlots, seqK, Fr.newBox, dropBp, retK, retA, resA, mapO, unA, extractA, cellsA_agg, okPart_agg, partA, loadA, loadS, newK, lookT_some, opA_lookup, sz41, ag41, sz47, ag47, keyV, keyE, idV, hb, hl]
    simpa using h
  | some o =>
    have hf2 : fK B (keyE e) = some o := hf
    rw [hf2] at h
    rw [hf] at hl
    simp only [Option.map_some, Go.Mx.valOf, idV] at hl
    simp [ev_seq, ev_ret, ev_region2, evOps_nil, evOps_cons, opG_none, opA_move, opA_assign, opA_un, opA_extract, opA_load, opA_box, putO_some, putH_lt, avO_some, unT, extractT, loadT, boxT, opS, opV, Go.Mx.look, fr0, argSlots, seqK, Fr.newBox, dropBp, retK, retA, resA, mapO, unA, extractA, cellsA_agg, okPart_agg, partA, loadA, loadS, newK, lookT_some, opA_lookup, sz41, ag41, sz47, ag47, keyV, keyE, idV, hb, hl]
    simpa using h
set_option maxRecDepth 20000 in
set_option maxHeartbeats 1000000 in
theorem diff_sp (a b : List En) (H : Hp) (Q : AV → Hp → Prop) (ha : Few1 a) (hb : Few1 b) (h : Q (delV (setD (sortE a) (sortE b)) (goneD (sortE a) (sortE b))) H) : Sp Try.prog 13 [rowE a, rowE b] Q H := by
  refine Sp.clean ?_
  refine Sp.body [] ⟨[4], [], pl13⟩ tb13 mo Try.func13 rfl (Nat.le_of_ble_eq_true rfl) (by kernel_rfl) ?_
  simp [ev_seq, ev_region2, evOps_nil, evOps_cons, opG_none, opA_move, opA_call, opA_alloc, putO_some, putH_lt, allocT, opS, opV, Go.Mx.look, fr0, argSlots, seqK, Fr.newBox, dropBp, mapO, callA, newK, ze28, ok18, pl13]
  refine of_sp a H _ ha (fun H2 m hd hs hm => ?_)
  simp [evOps_cons, opG_none, opA_move, opA_call, putO_some, putH_lt, putC_lt, opS, opV, Go.Mx.look, mapO, callA, ok18]
  refine of_sp b H2 _ hb (fun H3 m2 hd2 hs2 hm2 => ?_)
  simp [ev_seq, evOps_nil, evOps_cons, opG_none, opA_load, opA_call, opA_alloc, opA_store, opA_makeFunc, putO_some, putH_lt, putC_lt, putU_none, loadT, allocT, storeT, fnT, opS, opV, Go.Mx.look, seqK, mapO, callA, cellsA_mp, okPart_mp, partA, loadA, loadS, newK, storeS, ev_draw, drawK, evP_q, evP_s, opAt_some, sz41, ag41, ze41, ok19]
  have hfA := few_sort ha
  have hfB := few_sort hb
  have hlm := hd.lt
  have hlm2 := hd2.lt
  have hs4 : Same [] H3 (H3 ++ [.cells 0 [.mp m], .cells 0 [.mp m2]]) := Same.app _ _ _
  have hdA : BdAt (H3 ++ [.cells 0 [.mp m], .cells 0 [.mp m2]]) m (sortE a) := (hd.same hs2 (by simp)).same hs4 (by simp)
  have hdB : BdAt (H3 ++ [.cells 0 [.mp m], .cells 0 [.mp m2]]) m2 (sortE b) := hd2.same hs4 (by simp)
  have hb1 : (H3 ++ [Ob.cells 0 [.mp m], .cells 0 [.mp m2]])[H3.length]? = some (.cells 0 [.mp m]) := by simp
  have hb2 : (H3 ++ [Ob.cells 0 [.mp m], .cells 0 [.mp m2]])[H3.length + 1]? = some (.cells 0 [.mp m2]) := by simp
  have hs5 := (hs.new hs2 (by simp)).new hs4 (by simp)
  generalize H3 ++ [Ob.cells 0 [.mp m], .cells 0 [.mp m2]] = H4 at *
  generalize sortE a = A at *
  generalize sortE b = B at *
  have hA60 := hfA.1
  have hB60 := hfB.1
  refine entries_sp m2 B (fun e => decide (e ∉ A)) 22 _ H4 _ hdB (by omega) ⟨ok22, fun e he H5 Q5 hs6 hq => clo1_sp _ m A e H5 Q5 (hs6.2 _ _ hb1 (by simp)) (hdA.same hs6 (by simp)) (hfB.2 e he) (hdB.1.2 e he) hq⟩ ?_
  simp [opG_none, opA_call, putC_lt, loadT, fnT, opS, opV, Go.Mx.look, mapO, callA, partA, loadA, loadS, evP_s, opAt_some, chkK_eq, sameV_some, sameO_some, allQ_nil, allQ_cons, valQ_none, valS_load, valS_makeFunc, sz41, ag41, ok19, rowE, hb1]
  refine entries_sp m A (fun e => !B.any (fun x => decide (keyE x = keyE e))) 23 _ H4 _ hdA (by omega) ⟨ok23, fun e he H5 Q5 hs6 hq => clo2_sp _ m2 B e H5 Q5 (hs6.2 _ _ hb2 (by simp)) (hdB.same hs6 (by simp)) (hfA.2 e he) hq⟩ ?_
  simp [ev_ret, opG_none, opA_store, opA_build, putO_some, putH_lt, putC_lt, putU_none, storeT, buildZ, partsZ, fillO, aggO, opS, opV, Go.Mx.look, seqK, retK, retA, resA, mapO, cellsA_agg, cellsA_row, okPart_agg, okPart_row, partA, loadS, fillA, storeS, evP_nil, evP_q, evP_s, opAt_some, chkK_eq, allQ_nil, sz28, ag28, ze28, of28, rowE, splice]
  refine ⟨hs5.grown, ⟨fun c x hx _ hc => low_ens B c (List.mem_flatMap.2 ⟨x, hx, hc⟩), fun c x hx _ hc => low_ens A c (List.mem_flatMap.2 ⟨x, hx, hc⟩)⟩, ?_⟩
  simpa [delV, setD, goneD, rowE] using h
theorem few_filter {l : List En} (h : Few1 l) (q : En → Bool) : Few1 (l.filter q) := ⟨Nat.le_trans (List.length_filter_le _ _) h.1, fun e he => h.2 e (List.mem_filter.1 he).1⟩
theorem puts_len : ∀ (l L : List En), (l.foldl putE L).length ≤ L.length + l.length := by
  intro l
  induction l with
  | nil => intro L; simp
  | cons s r ih =>
    intro L
    have h1 := ih (putE L s)
    have h2 : (putE L s).length ≤ L.length + 1 := by
      unfold putE; split
      · exact Nat.le_trans (List.length_filter_le _ _) (by omega)
      · exact ins_len _ _ _
    simp only [List.foldl_cons, List.length_cons]
    omega
theorem drops_len : ∀ (l L : List En), (l.foldl dropE L).length ≤ L.length := by
  intro l
  induction l with
  | nil => intro L; simp
  | cons s r ih => intro L; exact Nat.le_trans (ih _) (List.length_filter_le _ _)
theorem apply_sp (a s g : List En) (H : Hp) (Q : AV → Hp → Prop) (ha : Few1 a) (hs : Few1 s) (hg : Few1 g) (h : Q (rowE (applyE (sortE a) s g)) H) : Sp Try.prog 16 [rowE a, delV s g] Q H := by
  refine Sp.clean ?_
  refine Sp.body [] ⟨[3], [], []⟩ [] mo Try.func16 rfl (Nat.le_of_ble_eq_true rfl) (by kernel_rfl) ?_
  simp [ev_seq, ev_region2, evOps_nil, evOps_cons, opG_none, opA_move, opA_assign, opA_call, opA_box, putO_some, putH_lt, boxT, opS, opV, Go.Mx.look, fr0, argSlots, seqK, Fr.newBox, dropBp, mapO, callA, cellsA_agg, okPart_agg, newK, ok18, delV]
  refine of_sp a H _ ha (fun H2 m hd hs2 hm => ?_)
  simp [ev_seq, ev_region2, evOps_nil, evOps_cons, opG_none, opA_move, opA_assign, opA_load, opA_fieldAddr, opA_call, putO_some, putH_lt, putC_lt, loadT, fieldAddrT, opS, opV, Go.Mx.look, seqK, mapO, callA, partA, loadS, plusS, sz22, ag22, Try.underlying28, ok25]
  refine drop_sp m _ g H2 _ hd hg (fun H3 hd3 hs3 => ?_)
  simp [ev_seq, ev_region2, evOps_nil, evOps_cons, opG_none, opA_move, opA_load, opA_fieldAddr, opA_call, putO_some, putH_lt, putC_lt, loadT, fieldAddrT, opS, opV, Go.Mx.look, seqK, mapO, callA, partA, loadS, plusS, sz22, ag22, Try.underlying28, ok26, rowE]
  refine put_sp m _ s false H3 _ hd3 hs (fun H4 hd4 hs4 => ?_)
  simp [ev_seq, ev_region2, evOps_nil, evOps_cons, opG_none, opA_move, opA_call, putO_some, putH_lt, putC_lt, opS, opV, Go.Mx.look, seqK, mapO, callA, ok19]
  have hlen : (applyE (sortE a) s g).length ≤ 1000 := by
    have h1 := puts_len s (g.foldl dropE (sortE a))
    have h2 := drops_len g (sortE a)
    have h3 := sortE_len a
    have := ha.1
    have := hs.1
    unfold applyE; omega
  refine entries_sp m _ _ 20 [] H4 _ hd4 hlen (may_all _ _) ?_
  have e : ∀ l : List En, l.filter (fun _ => true) = l := fun l => by simp
  rw [e]
  simp [ev_ret, evOps_nil, evOps_cons, opG_none, opA_assign, putO_some, putH_lt, putC_lt, opS, opV, Go.Mx.look, seqK, retK, retA, resA, mapO, rowE]
  exact ⟨((hs2.trans hs3 (by simpa using hm)).trans hs4 (by simpa using hm)).grown, fun c x hx hc => low_ens _ c (List.mem_flatMap.2 ⟨x, hx, hc⟩), h⟩

/-! ### Slots -/
def fS (l : List En) : AV → Option AV
  | .agg [.v (.string t), .v (.string k)] => if hasK l (t, k) then some (.v (.bool true)) else none
  | _ => none
def SlAt (H : Hp) (m : Nat) (l : List En) : Prop := MapAt Try.prog 47 H m (fS l)
theorem zero4 : zeroA Try.prog 4 = some (.v (.bool false)) := by kernel_rfl
theorem look_sl {H : Hp} {m : Nat} {l : List En} (hd : SlAt H m l) (e : En) (he : FewE e) : lookV Try.prog H 51 (.mp m) (.agg [.v (.string e.ty), .v (.string e.ky)]) false = some (.v (.bool (hasK l (keyE e)))) := by
  have := MapAt.look hd Try.underlying51 (goodE e he) false
  simp only [keyV, keyE] at this
  rw [this]
  simp only [fS, keyE]
  cases hasK l (e.ty, e.ky) with
  | true => rfl
  | false => simp [Go.Mx.valOf, zero4]
open Classical in
theorem fS_add (l : List En) (e : En) : (fun x => if x = keyV (keyE e) then some (AV.v (.bool true)) else fS l x) = fS (l ++ [e]) := by
  funext x
  by_cases hx : x = keyV (keyE e)
  · subst hx
    rw [if_pos rfl]
    simp [keyV, fS, hasK, keyE]
  · rw [if_neg hx]
    unfold fS
    split
    · rename_i t k
      have : ¬ (keyE e = (t, k)) := fun e2 => hx (by rw [e2]; rfl)
      simp [hasK, this]
    · rfl
def SsInv (l : List En) (H : Hp) (m : Nat) (n : Nat) (xs : List AV) (H2 : Hp) : Prop :=
  ∃ i : Nat, i ≤ l.length ∧ n = l.length - i ∧ xs = [.mp m, rowE l, .v (.int .i64 l.length), .v (.int .i64 i)] ∧ SlAt H2 m (l.take i) ∧ Same [] H H2
theorem slots_sp (l : List En) (H : Hp) (Q : AV → Hp → Prop) (hl : Few1 l) (h : ∀ H' m, SlAt H' m l → Same [] H H' → H.length ≤ m → Q (.mp m) H') : Sp Try.prog 27 [rowE l] Q H := by
  refine Sp.body [(3, ⟨[3, 7, 8, 9], [], []⟩)] ⟨[5], [], []⟩ [] mo Try.func27 rfl (Nat.le_of_ble_eq_true rfl) (by kernel_rfl) ?_
  have hl60 := hl.1
  simp [ev_seq, ev_block, ev_region2, ev_loop, loopK, evOps_nil, evOps_cons, opG_none, opA_move, opA_assign, opA_len, opA_makeMap, putO_some, putH_lt, lenT_row, makeMapT, opS, opV, Go.Mx.look, fr0, argSlots, seqK, mapO, headK, getV, getB, chkP, firstReg, Try.underlying22, Try.underlying51, rowE]
  have h0 : SlAt (H ++ [.map [] 0]) H.length [] := by
    have e : fS [] = fun _ => none := by funext x; unfold fS; split <;> rfl
    show MapAt _ _ _ _ (fS [])
    rw [e]; exact MapAt.new _ _ _
  have hs0 : Same [] H (H ++ [.map [] 0]) := Same.app _ _ _
  generalize hm : H.length = m at h0
  have hm2 : H.length ≤ m := by omega
  refine LoopC.intro (fun n xs _ H2 => SsInv l H m n xs H2) l.length ⟨0, by omega, by omega, by simp [rowE], by simpa using h0, hs0⟩ ?_
  clear h0 hs0
  rintro n xs bs H2 ⟨i, hi, rfl, rfl, hd2, hs⟩
  simp [ev_skip, ev_seq, ev_cond2, ev_block, ev_exit, ev_ret, ev_region2, evOps_nil, evOps_cons, opG_none, opA_move, opA_assign, opA_bin, opA_indexAddr, putO_some, putH_lt, binT_some, binA, avO_some, indexAddrT, io_lss, opS, opV, Go.Mx.look, seqK, blockK, Fr.known, retK, retA, resA, mapO, indexAddrA, mkFr, slotsOf, ptrsOf, boxesOf, orO_some, eqT_some, tk3, Try.underlying22, sz32, rowE]
  refine ⟨fun hlt => ?_, fun hge => ?_⟩
  · have hx := List.getElem?_eq_getElem hlt
    generalize l[i] = e at hx
    have hsl := flat_sub enC_len l i hx
    have hle : i * 3 + 3 ≤ (List.map (fun a : En => 3) l).sum := flat_le2 enC_len hx
    have w1 : IntKind.i64.wrap ((i : Int) + 1) = (i : Int) + 1 := wr_i64 (by omega)
    have htk : l.take (i + 1) = l.take i ++ [e] := by rw [List.take_add_one, hx]; rfl
    have hfe := hl.2 e (List.mem_of_getElem? hx)
    simp [ev_region2, evOps_nil, evOps_cons, opG_none, opA_move, opA_load, opA_call, opA_alloc, opA_store, putO_some, putH_lt, putU_none, loadT, allocT, storeT, opS, opV, Go.Mx.look, seqK, Fr.newBox, dropBp, mapO, callA, cellsA_agg, okPart_agg, partA, loadA, loadS, newK, storeS, sz32, ag32, ze32, ok28, hlt, hsl, hle, enC, splice]
    refine at_sp e H2 _ ?_
    simp [evOps_cons, opG_none, putC_lt, opS, opV, Go.Mx.look, updT_some, opA_upd, keyV]
    refine MapAt.upd hd2 Try.underlying51 (goodE e hfe) (fun H3 g5 hs3 hl3 => ?_)
    rw [fS_add, ← htk] at g5
    simp [ev_region2, evOps_nil, evOps_cons, opG_none, opA_move, opA_bin, putO_some, putH_lt, putU_none, binT_some, binA, avO_some, io_add, opS, opV, Go.Mx.look, seqK, blockK, mapO, headK, getV, getB, chkP, orO_some, eqT_some, tk3, w1]
    exact ⟨l.length - (i + 1), by omega, i + 1, by omega, rfl, by simp [rowE], g5, hs.new hs3 (by simpa using hm2)⟩
  · have : i = l.length := by omega
    subst this
    rw [List.take_length] at hd2
    exact h H2 m hd2 hs hm2
end Go.Proofs.Ytbdfhenelbakaaa
