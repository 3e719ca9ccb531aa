import Derived.Test.YtdgdkgfkeinhbaaQ3
namespace Go.Proofs.Ytdgdkgfkeinhbaa
open Go.Mx
set_option linter.unusedVariables false
set_option linter.unusedSimpArgs false

theorem nodup_new {b n : Nat} {f1 f3 : List Nat} (h : (b :: (f1 ++ ([] ++ f3))).Nodup) (hl : ∀ j ∈ b :: (f1 ++ ([] ++ f3)), j < n) : (b :: (f1 ++ ([n] ++ f3))).Nodup := by
  simp only [List.nil_append, List.nodup_cons, List.nodup_append, List.mem_append, List.mem_cons, List.cons_append, not_or] at *
  obtain ⟨⟨h1, h2⟩, h3, h4, h5⟩ := h
  refine ⟨⟨h1, fun e => ?_, h2⟩, h3, ⟨fun hm => ?_, h4⟩, fun x hx y hy => ?_⟩
  · have := hl b (.inl rfl); omega
  · have := hl n (.inr (.inr hm)); omega
  · rcases hy with rfl | hy
    · have := hl x (.inr (.inl hx)); omega
    · exact h5 x hx y hy
theorem nodup_new3 {b n : Nat} {f1 f2 : List Nat} (h : (b :: (f1 ++ (f2 ++ []))).Nodup) (hl : ∀ j ∈ b :: (f1 ++ (f2 ++ [])), j < n) : (b :: (f1 ++ (f2 ++ [n]))).Nodup := by
  simp only [List.append_nil, List.nodup_cons, List.nodup_append, List.mem_append, List.mem_cons, not_or, List.not_mem_nil, or_false] at *
  obtain ⟨⟨h1, h2⟩, h3, h4, h5⟩ := h
  refine ⟨⟨h1, h2, fun e => ?_⟩, h3, ⟨h4, by simp, fun x hx y hy => ?_⟩, fun x hx y hy => ?_⟩
  · have := hl b (.inl rfl); omega
  · subst hy; have := hl x (.inr (.inr hx)); omega
  · rcases hy with hy | rfl
    · exact h5 x hx y hy
    · have := hl x (.inr (.inl hx)); omega

theorem nd_b {b : Nat} {f1 f2 f3 : List Nat} (h : (b :: (f1 ++ (f2 ++ f3))).Nodup) : (∀ j ∈ f1, j ≠ b) ∧ (∀ j ∈ f2, j ≠ b) ∧ (∀ j ∈ f3, j ≠ b) ∧ (∀ j ∈ f1, j ∉ f2) ∧ (∀ j ∈ f3, j ∉ f2) ∧ (∀ j ∈ f1, j ∉ f3) := by
  simp only [List.nodup_cons, List.nodup_append, List.mem_append, not_or] at h
  obtain ⟨⟨h1, h2, h3⟩, h4, ⟨h5, h6, h7⟩, h8⟩ := h
  exact ⟨fun j hj e => h1 (e ▸ hj), fun j hj e => h2 (e ▸ hj), fun j hj e => h3 (e ▸ hj), fun j hj hj2 => h8 j hj j (.inl hj2) rfl, fun j hj hj2 => h7 j hj2 j hj rfl, fun j hj hj2 => h8 j hj j (.inr hj2) rfl⟩

theorem rdigest_sp {H : Hp} {b : Nat} {sl tl : List ByteArray} {gl : List (ByteArray × ByteArray)} {fp : List Nat} (d : AV) (bs : List UInt8) (Q : AV → Hp → Prop) (ht : RefT H b sl tl gl fp) (hd : BytesV d bs) (hb : tl.length ≤ 1000000)
    (h : ∀ H' fp', RefT H' b sl (addT tl (tx bs)) gl fp' → Same fp H H' → (∀ j ∈ fp', j ∈ fp ∨ H.length ≤ j) → Q (.v (.string (letN (numT tl (tx bs))))) H') : Sp Try.prog 18 [.ptr b 0 0, d] Q H := by
  refine Sp.argW (args' := [.ptr b 0 0, .row false bs.length (bs.map u8A)]) ⟨Wk.refl _, hd.wk, trivial⟩ ?_
  refine Sp.body [(2, ⟨[0, 1, 5], [], []⟩)] ⟨[], [], pl18⟩ tb18 mo Try.func18 rfl (Nat.le_of_ble_eq_true rfl) (by kernel_rfl) ?_
  have ht0 := ht
  obtain ⟨nv, lv, sv, f1, f2, f3, hb1, hn, hl, hg, rfl, hnd, hlt⟩ := ht
  have hlen := hl.len
  simp [ev_seq, ev_block, ev_region2, ev_loop, loopK, evOps_nil, evOps_cons, opG_none, opA_assign, putO_some, putH_lt, opS, opV, Go.Mx.look, fr0, argSlots, seqK, mapO, headK, getV, getB, chkP, firstReg, pl18, mk_tx]
  refine LoopC.intro (fun n xs _ H2 => ∃ i : Nat, i ≤ tl.length ∧ n = tl.length - i ∧ (∀ j, j < i → tl[j]? ≠ some (tx bs)) ∧ xs = [.ptr b 0 0, .row false bs.length (bs.map u8A), .v (.int .i64 i)] ∧ H2 = H) tl.length
    ⟨0, by omega, rfl, fun j hj => by omega, rfl, rfl⟩ ?_
  rintro n xs bs' H2 ⟨i, hi, rfl, hj, rfl, rfl⟩
  simp [ev_skip, ev_seq, ev_cond2, ev_block, ev_exit, ev_region2, evOps_nil, evOps_cons, opG_none, opA_move, opA_bin, opA_load, opA_indexAddr, opA_fieldAddr, opA_nilCheck, opA_len, opA_store, opA_buildSlice, opA_append, opA_convert, putO_some, putH_lt, putC_lt, putU_none, binT_some, binA, avO_some, loadT, nilCheckT, fieldAddrT, indexAddrT, storeT, buildSliceT, appendT, convV, convT, io_lss, opS, opV, Go.Mx.look, seqK, blockK, Fr.known, mapO, strOf, cellsA_v, cellsA_sl, okPart_v, okPart_sl, Value.oneCell', partA, loadA, loadS, plusS, indexAddrA, nilCheckS, fillA, storeS, mkFr, slotsOf, ptrsOf, boxesOf, bindO, appA, srcA, srcTy, orO_some, eqT_some, ev_draw, drawK, evP_nil, evP_q, evP_s, opAt_some, chkK_eq, sameV_some, sameO_some, allQ_nil, allQ_cons, valQ_none, valS_move, valS_load, valS_fieldAddr, valS_nilCheck, tk3, Try.underlying5, sz9, by9, ze9, Try.underlying9, sz22, ag22, st22, Try.underlying22, Try.underlying28, Try.underlying47, mk_tx, hb1, hlen]
  refine ⟨fun hlt2 => ?_, fun hge => ?_⟩
  · rcases hl with ⟨rfl, rfl, _⟩ | ⟨id, ver, rfl, hid, hf2⟩
    · simp at hlt2
    · have hx := List.getElem?_eq_getElem hlt2
      have hc : (tl.map strV)[i]? = some (strV tl[i]) := by rw [List.getElem?_map, hx]; rfl
      have w1 : IntKind.i64.wrap ((i : Int) + 1) = (i : Int) + 1 := wr_i64 (by omega)
      have hfst := numT_first (l := tl) (s := tx bs) (i := i) hj
      generalize hcs : tl.map strV = cs at hc hid
      simp [ev_skip, ev_seq, ev_cond2, ev_region2, evOps_nil, evOps_cons, opG_none, opA_move, opA_assign, opA_bin, opA_load, opA_call, opA_convert, putO_some, putH_lt, binT_some, binA, avO_some, loadT, convV, convT, io_add, strOp, opS, opV, Go.Mx.look, seqK, blockK, Fr.known, mapO, strOf, callA, partA, loadA, loadS, headK, getV, getB, chkP, orO_some, eqT_some, evP_nil, evP_q, opAt_some, tk3, Try.underlying5, sz9, ag9, tk9, Try.underlying9, Try.underlying28, ok29, mk_tx, tx_list, hid, hc, hlt2, strV, w1]
      refine ⟨fun e => ?_, fun e => ?_⟩
      · have e2 : tl[i] = tx bs := tl_tx e
        have e3 := hfst (by rw [hx, e2])
        have e4 : (i : Int) + 1 = ((i + 1 : Nat) : Int) := by omega
        rw [e4]
        refine number_sp (i + 1) _ _ (by omega) ?_
        simp [ev_ret, evOps_nil, evOps_cons, opG_none, opA_assign, putO_some, putH_lt, putC_lt, opS, opV, Go.Mx.look, seqK, blockK, retK, retA, resA, mapO]
        have := h H2 _ (by unfold addT; rw [if_pos (by omega)]; exact ht0) (Same.refl _ _) (fun _ => .inl)
        rw [e3] at this
        exact this
      · refine ⟨tl.length - (i + 1), by omega, i + 1, by omega, rfl, fun j hj2 => ?_, by simp⟩
        rcases Nat.lt_or_ge j i with h3 | h3
        · exact hj j h3
        · obtain rfl : j = i := by omega
          rw [hx]; intro e2; simp at e2; exact e (by rw [e2, tx_tl])
  · have hnn := numT_none (l := tl) (s := tx bs) (fun j hj2 => hj j (by omega))
    have hle := numT_le tl (tx bs)
    have hadd : addT tl (tx bs) = tl ++ [tx bs] := by unfold addT; rw [if_neg hnn]
    have hnum : numT tl (tx bs) = tl.length + 1 := by omega
    have hbl := Hp.lt hb1
    obtain ⟨d1, d2, d3, d4, d5, d6⟩ := nd_b hnd
    rcases hl with ⟨rfl, rfl, rfl⟩ | ⟨id, ver, rfl, hid, rfl⟩
    · have hG : ∀ G, (H2 ++ G)[b]? = some (.cells 0 [nv, .v (.slice none 0 0), sv]) := fun G => by rw [List.getElem?_append_left hbl]; exact hb1
      have hS : ∀ G x, ((H2 ++ G).set b x)[b]? = some x := fun G x => List.getElem?_set_self (by simp; omega)
      simp [evOps_cons, opG_none, opA_len, opA_call, putO_some, putH_lt, lenT_sl, opS, opV, Go.Mx.look, mapO, callA, Try.underlying22, ok29, hG, hS, splice]
      refine number_sp 1 _ _ (by omega) ?_
      simp [ev_ret, evOps_nil, evOps_cons, opG_none, opA_assign, putO_some, putH_lt, putC_lt, opS, opV, Go.Mx.look, seqK, retK, retA, resA, mapO]
      have hs1 : Same [b] H2 ((H2 ++ [Ob.cells 0 [.v (.string (tx bs))]]).set b (.cells 0 [nv, .sl H2.length 0 1 0 1, sv])) := (Same.app [b] H2 _).trans (Same.set (fp := [b]) (by simp)) (by simp)
      have := h _ (b :: (f1 ++ ([H2.length] ++ f3))) ⟨nv, _, sv, f1, [H2.length], f3, hS _ _, hn.same hs1 (fun j hj => by simpa using d1 j hj),
        .inr ⟨H2.length, 0, by rw [hadd]; rfl, by rw [List.getElem?_set_ne (by omega), hadd]; simp [strV], rfl⟩, hg.same hs1 (fun j hj => by simpa using d3 j hj), rfl, nodup_new hnd hlt, fun j hj => ?_⟩ (same_wider hs1 (by simp)) (fun j hj => ?_)
      · rw [hnum] at this; exact this
      · simp at hj ⊢
        rcases hj with rfl | hj | rfl | hj
        · omega
        · have := hlt j (by simp [hj]); omega
        · omega
        · have := hlt j (by simp [hj]); omega
      · simp at hj ⊢
        rcases hj with rfl | hj | rfl | hj
        · simp
        · exact .inl (.inr (.inl hj))
        · simp
        · exact .inl (.inr (.inr hj))
    · have hne : id ≠ b := d2 id (by simp)
      have hS1 : ∀ y, (H2.set id y)[b]? = some (.cells 0 [nv, .sl id ver 1 0 tl.length, sv]) := fun y => by rw [List.getElem?_set_ne hne]; exact hb1
      have hS : ∀ y x, ((H2.set id y).set b x)[b]? = some x := fun y x => List.getElem?_set_self (by simp; omega)
      have hlm : (tl.map strV).length = tl.length := by simp
      simp [evOps_cons, opG_none, opA_len, opA_call, putO_some, putH_lt, lenT_sl, opS, opV, Go.Mx.look, mapO, callA, Try.underlying22, ok29, hid, hS1, hS, splice]
      have e4 : (tl.length : Int) + 1 = ((tl.length + 1 : Nat) : Int) := by omega
      refine ⟨by omega, ?_⟩
      rw [e4]
      refine number_sp (tl.length + 1) _ _ (by omega) ?_
      simp [ev_ret, evOps_nil, evOps_cons, opG_none, opA_assign, putO_some, putH_lt, putC_lt, opS, opV, Go.Mx.look, seqK, retK, retA, resA, mapO]
      have hs1 : Same [b, id] H2 ((H2.set id (Ob.cells (ver + 1) (tl.map strV ++ [.v (.string (tx bs))]))).set b (.cells 0 [nv, .sl id (ver + 1) 1 0 (tl.length + 1), sv])) := (Same.set (fp := [b, id]) (by simp)).trans (Same.set (fp := [b, id]) (by simp)) (by simp)
      have := h _ (b :: (f1 ++ ([id] ++ f3))) ⟨nv, _, sv, f1, [id], f3, hS _ _, hn.same hs1 (fun j hj => by simp; exact ⟨d1 j hj, by simpa using d4 j hj⟩),
        .inr ⟨id, ver + 1, by rw [hadd]; simp, by rw [List.getElem?_set_ne (Ne.symm hne), List.getElem?_set_self (Hp.lt hid), hadd]; simp [strV], rfl⟩, hg.same hs1 (fun j hj => by simp; exact ⟨d3 j hj, by simpa using d5 j hj⟩), rfl, hnd, fun j hj => by simpa using hlt j hj⟩ (same_wider hs1 (by simp)) (fun j hj => .inl hj)
      rw [hnum] at this; exact this

theorem rsign_sp {H : Hp} {b : Nat} {sl tl : List ByteArray} {gl : List (ByteArray × ByteArray)} {fp : List Nat} (s : ByteArray) (d : AV) (bs : List UInt8) (Q : AV → Hp → Prop) (ht : RefT H b sl tl gl fp) (hd : BytesV d bs) (hb : gl.length ≤ 1000000) (hsl : sl.length ≤ 1000000)
    (h0 : s ∉ sl → Q (.tup [.v (.string ⟨#[]⟩), .v (.int .i64 2)]) H)
    (h : s ∈ sl → ∀ H' fp', RefT H' b sl tl (addT gl (s, tx bs)) fp' → Same fp H H' → (∀ j ∈ fp', j ∈ fp ∨ H.length ≤ j) → Q (.tup [.v (.string (letN (numT gl (s, tx bs)))), .v (.int .i64 0)]) H') : Sp Try.prog 19 [.ptr b 0 0, .v (.string s), d] Q H := by
  refine Sp.argW (args' := [.ptr b 0 0, .v (.string s), .row false bs.length (bs.map u8A)]) ⟨Wk.refl _, Wk.refl _, hd.wk, trivial⟩ ?_
  refine Sp.body [] ⟨[], [], pl19⟩ tb19 mo Try.func19 rfl (Nat.le_of_ble_eq_true rfl) (by kernel_rfl) ?_
  simp [ev_seq, ev_region2, evOps_nil, evOps_cons, opG_none, opA_move, opA_assign, opA_call, putO_some, putH_lt, opS, opV, Go.Mx.look, fr0, argSlots, seqK, mapO, callA, ok30, pl19, mk_tx]
  refine has_sp s _ ht hsl (fun hm => ?_) (fun hm => ?_)
  · simp [ev_seq, ev_cond2, ev_ret, ev_region2, evOps_nil, evOps_cons, opG_none, opA_assign, opA_un, putO_some, putH_lt, putC_lt, condB_true, unT, opS, opV, Go.Mx.look, seqK, Fr.known, retK, retA, resA, mapO, unA]
    exact h0 hm
  have h := h hm
  simp [ev_skip, ev_seq, ev_cond2, ev_region2, evOps_nil, evOps_cons, opG_none, opA_move, opA_un, opA_call, putO_some, putH_lt, putC_lt, condB_false, unT, opS, opV, Go.Mx.look, seqK, Fr.known, mapO, unA, callA, ok31]
  refine find_sp s bs _ ht hb ?_
  have hle := numT_le gl (s, tx bs)
  by_cases hin : numT gl (s, tx bs) ≤ gl.length
  · rw [if_pos hin]
    have hpos : (numT gl (s, tx bs) : Int) ≠ 0 := by unfold numT; omega
    simp [ev_skip, ev_seq, ev_cond2, ev_region2, evOps_nil, evOps_cons, opG_none, opA_move, opA_assign, opA_bin, opA_load, opA_fieldAddr, opA_nilCheck, opA_call, putO_some, putH_lt, putC_lt, binT_some, binA, avO_some, loadT, nilCheckT, fieldAddrT, io_eql, opS, opV, Go.Mx.look, seqK, Fr.known, mapO, callA, partA, loadA, loadS, plusS, nilCheckS, orO_some, eqT_some, ev_draw, drawK, evP_q, opAt_some, tk3, sz45, ag45, Try.underlying47, ok29]
    have hp0 : ¬ numT gl (s, tx bs) = 0 := by unfold numT; omega
    simp [hp0]
    refine number_sp _ _ _ (by omega) ?_
    simp [ev_ret, evOps_nil, evOps_cons, opG_none, opA_assign, putO_some, putH_lt, putC_lt, opS, opV, Go.Mx.look, seqK, retK, retA, resA, mapO]
    exact h H fp (by unfold addT; rw [if_pos hin]; exact ht) (Same.refl _ _) (fun _ => .inl)
  · rw [if_neg hin]
    have hadd : addT gl (s, tx bs) = gl ++ [(s, tx bs)] := by unfold addT; rw [if_neg hin]
    have hnum : numT gl (s, tx bs) = gl.length + 1 := by omega
    obtain ⟨nv, lv, sv, f1, f2, f3, hb1, hn, hl, hg, rfl, hnd, hlt⟩ := ht
    have hbl := Hp.lt hb1
    obtain ⟨d1, d2, d3, d4, d5, d6⟩ := nd_b hnd
    rcases hg with ⟨rfl, rfl, rfl⟩ | ⟨id, ver, rfl, hid, rfl⟩
    · have hG : ∀ G, (H ++ G)[b]? = some (.cells 0 [nv, lv, .v (.slice none 0 0)]) := fun G => by rw [List.getElem?_append_left hbl]; exact hb1
      have hS : ∀ G x, ((H ++ G).set b x)[b]? = some x := fun G x => List.getElem?_set_self (by simp; omega)
      simp [ev_seq, ev_cond2, ev_region2, evOps_nil, evOps_cons, opG_none, opA_move, opA_assign, opA_bin, opA_load, opA_fieldAddr, opA_nilCheck, opA_len, opA_call, opA_store, opA_buildSlice, opA_append, opA_convert, opA_build, putO_some, putH_lt, putC_lt, putU_none, condB_true, binT_some, binA, avO_some, loadT, nilCheckT, lenT_sl, fieldAddrT, storeT, buildSliceT, appendT, convV, convT, repeatL_1, buildZ, partsZ, fillO, aggO, io_eql, opS, opV, Go.Mx.look, seqK, Fr.known, mapO, strOf, callA, cellsA_v, cellsA_agg, cellsA_sl, okPart_v, okPart_agg, okPart_sl, Value.oneCell', partA, loadA, loadS, plusS, nilCheckS, fillA, storeS, bindO, appA, srcA, srcTy, orO_some, eqT_some, ev_draw, drawK, evP_nil, evP_q, evP_s, opAt_some, chkK_eq, sameV_some, sameO_some, allQ_nil, allQ_cons, valQ_none, valS_move, valS_load, valS_fieldAddr, valS_nilCheck, tk3, Try.underlying5, Try.underlying9, Try.underlying28, sz45, ag45, st45, Try.underlying45, Try.underlying47, sz68, by68, ze68, of68, ok29, mk_tx, hb1, hG, hS, splice]
      refine number_sp 1 _ _ (by omega) ?_
      simp [ev_ret, evOps_nil, evOps_cons, opG_none, opA_assign, putO_some, putH_lt, putC_lt, opS, opV, Go.Mx.look, seqK, retK, retA, resA, mapO]
      have hs1 : Same [b] H ((H ++ [Ob.cells 0 [.v (.string s), .v (.string (tx bs))]]).set b (.cells 0 [nv, lv, .sl H.length 0 2 0 1])) := (Same.app [b] H _).trans (Same.set (fp := [b]) (by simp)) (by simp)
      have := h _ (b :: (f1 ++ (f2 ++ [H.length]))) ⟨nv, lv, _, f1, f2, [H.length], hS _ _, hn.same hs1 (fun j hj => by simpa using d1 j hj), hl.same hs1 (fun j hj => by simpa using d2 j hj),
        .inr ⟨H.length, 0, by rw [hadd]; rfl, by rw [List.getElem?_set_ne (by omega), hadd]; simp [sgC], rfl⟩, rfl, nodup_new3 hnd hlt, fun j hj => ?_⟩ (same_wider hs1 (by simp)) (fun j hj => ?_)
      · rw [hnum] at this; exact this
      · simp at hj ⊢
        rcases hj with rfl | hj | hj | rfl
        · omega
        · have := hlt j (by simp [hj]); omega
        · have := hlt j (by simp [hj]); omega
        · omega
      · simp at hj ⊢
        rcases hj with rfl | hj | hj | rfl
        · simp
        · exact .inl (.inr (.inl hj))
        · exact .inl (.inr (.inr hj))
        · simp
    · have hne : id ≠ b := d3 id (by simp)
      have hS1 : ∀ y, (H.set id y)[b]? = some (.cells 0 [nv, lv, .sl id ver 2 0 gl.length]) := fun y => by rw [List.getElem?_set_ne hne]; exact hb1
      have hS : ∀ y x, ((H.set id y).set b x)[b]? = some x := fun y x => List.getElem?_set_self (by simp; omega)
      have hcl := sgCs_len gl
      have htk : (gl.flatMap sgC).take (gl.length * 2) = gl.flatMap sgC := List.take_of_length_le (by omega)
      have hle2 : gl.length * 2 ≤ (gl.flatMap sgC).length := by omega
      generalize hcs : gl.flatMap sgC = cs at hid htk hle2
      simp [ev_seq, ev_cond2, ev_region2, evOps_nil, evOps_cons, opG_none, opA_move, opA_assign, opA_bin, opA_load, opA_fieldAddr, opA_nilCheck, opA_len, opA_call, opA_store, opA_buildSlice, opA_append, opA_convert, opA_build, putO_some, putH_lt, putC_lt, putU_none, condB_true, binT_some, binA, avO_some, loadT, nilCheckT, lenT_sl, fieldAddrT, storeT, buildSliceT, appendT, convV, convT, repeatL_1, buildZ, partsZ, fillO, aggO, io_eql, opS, opV, Go.Mx.look, seqK, Fr.known, mapO, strOf, callA, cellsA_v, cellsA_agg, cellsA_sl, okPart_v, okPart_agg, okPart_sl, Value.oneCell', partA, loadA, loadS, plusS, nilCheckS, fillA, storeS, bindO, appA, srcA, srcTy, orO_some, eqT_some, ev_draw, drawK, evP_nil, evP_q, evP_s, opAt_some, chkK_eq, sameV_some, sameO_some, allQ_nil, allQ_cons, valQ_none, valS_move, valS_load, valS_fieldAddr, valS_nilCheck, tk3, Try.underlying5, Try.underlying9, Try.underlying28, sz45, ag45, st45, Try.underlying45, Try.underlying47, sz68, by68, ze68, of68, ok29, mk_tx, hb1, hid, hS1, hS, splice, htk, hle2]
      have e4 : (gl.length : Int) + 1 = ((gl.length + 1 : Nat) : Int) := by omega
      refine ⟨by omega, ?_⟩
      rw [e4]
      refine number_sp (gl.length + 1) _ _ (by omega) ?_
      simp [ev_ret, evOps_nil, evOps_cons, opG_none, opA_assign, putO_some, putH_lt, putC_lt, opS, opV, Go.Mx.look, seqK, retK, retA, resA, mapO]
      have hs1 : Same [b, id] H ((H.set id (Ob.cells (ver + 1) (cs ++ [.v (.string s), .v (.string (tx bs))]))).set b (.cells 0 [nv, lv, .sl id (ver + 1) 2 0 (gl.length + 1)])) := (Same.set (fp := [b, id]) (by simp)).trans (Same.set (fp := [b, id]) (by simp)) (by simp)
      have := h _ (b :: (f1 ++ (f2 ++ [id]))) ⟨nv, lv, _, f1, f2, [id], hS _ _, hn.same hs1 (fun j hj => by simp; exact ⟨d1 j hj, by simpa using d6 j hj⟩), hl.same hs1 (fun j hj => by simp; exact ⟨d2 j hj, fun e => d5 id (by simp) (e ▸ hj)⟩),
        .inr ⟨id, ver + 1, by rw [hadd]; simp, by rw [List.getElem?_set_ne (Ne.symm hne), List.getElem?_set_self (Hp.lt hid), hadd, ← hcs]; simp [sgC], rfl⟩, rfl, hnd, fun j hj => by simpa using hlt j hj⟩ (same_wider hs1 (by simp)) (fun j hj => .inl hj)
      rw [hnum] at this; exact this

theorem rverify_sp {H : Hp} {b : Nat} {sl tl : List ByteArray} {gl : List (ByteArray × ByteArray)} {fp : List Nat} (s : ByteArray) (d : AV) (bs : List UInt8) (tok : ByteArray) (Q : AV → Hp → Prop) (ht : RefT H b sl tl gl fp) (hd : BytesV d bs) (hb : gl.length ≤ 1000000)
    (h : Q (.v (.bool (decide (numT gl (s, tx bs) ≤ gl.length ∧ letN (numT gl (s, tx bs)) = tok)))) H) : Sp Try.prog 20 [.ptr b 0 0, .v (.string s), d, .v (.string tok)] Q H := by
  refine Sp.argW (args' := [.ptr b 0 0, .v (.string s), .row false bs.length (bs.map u8A), .v (.string tok)]) ⟨Wk.refl _, Wk.refl _, hd.wk, Wk.refl _, trivial⟩ ?_
  refine Sp.body [] ⟨[], [], []⟩ [] mo Try.func20 rfl (Nat.le_of_ble_eq_true rfl) (by kernel_rfl) ?_
  simp [ev_seq, ev_region2, evOps_nil, evOps_cons, opG_none, opA_move, opA_assign, opA_call, putO_some, putH_lt, opS, opV, Go.Mx.look, fr0, argSlots, seqK, mapO, callA, ok31]
  refine find_sp s bs _ ht hb ?_
  by_cases hin : numT gl (s, tx bs) ≤ gl.length
  · rw [if_pos hin]
    have hpos : (0 : Int) < numT gl (s, tx bs) := by unfold numT; omega
    simp [ev_seq, ev_ret, ev_region2, evOps_nil, evOps_cons, opG_none, opG_some, opJ, opU_ft, isU_bool, opK_eq, opA_move, opA_assign, opA_pick, opA_bin, opA_call, putO_some, putH_lt, putC_lt, putV_lt, condB_true, condB_false, binT_some, binA, avO_some, pickT, io_gtr, opS, opV, Go.Mx.look, seqK, Fr.known, retK, retA, resA, mapO, callA, orO_some, eqT_some, tk3, ok29]
    refine ⟨fun _ => ?_, fun e => absurd e (by unfold numT; omega)⟩
    refine number_sp (numT gl (s, tx bs)) _ _ (by omega) ?_
    simp [ev_ret, evOps_nil, evOps_cons, opG_none, opG_some, opJ, opU_ft, isU_bool, opK_eq, opA_move, opA_assign, opA_pick, opA_bin, putO_some, putH_lt, putC_lt, condB_true, binT_some, binA, avO_some, pickT, strOp, opS, opV, Go.Mx.look, seqK, Fr.known, retK, retA, resA, mapO, orO_some, eqT_some, tk9]
    by_cases e : letN (numT gl (s, tx bs)) = tok
    · simp [e, hin] at h ⊢; exact h
    · have e2 : ((letN (numT gl (s, tx bs))).toList == tok.toList) = false := by
        rw [beq_eq_false_iff_ne]
        exact fun h => e ((bl_inj _ _).mp h)
      rw [e2]
      simpa [e] using h
  · rw [if_neg hin]
    simp [ev_seq, ev_ret, ev_region2, evOps_nil, evOps_cons, opG_none, opG_some, opJ, opU_ft, isU_bool, opA_move, opA_assign, opA_pick, opA_bin, putO_some, putH_lt, putC_lt, putV_lt, condB_false, binT_some, binA, avO_some, pickT, io_gtr, opS, opV, Go.Mx.look, seqK, Fr.known, retK, retA, resA, mapO, orO_some, eqT_some, tk3]
    simpa [hin] using h

theorem nodup_at {l : List ByteArray} : l.Nodup ↔ ∀ i k, k < i → i < l.length → l[i]? ≠ l[k]? := by
  rw [List.nodup_iff_pairwise_ne, List.pairwise_iff_getElem]
  constructor
  · intro h i k hk hi e
    rw [List.getElem?_eq_getElem hi, List.getElem?_eq_getElem (by omega)] at e
    exact h k i (by omega) hi hk (by simpa using e.symm)
  · intro h i j hi hj hij e
    exact h j i hij hj (by rw [List.getElem?_eq_getElem hi, List.getElem?_eq_getElem hj, e])
theorem rnew_sp (l : List ByteArray) (H : Hp) (Q : AV → Hp → Prop) (hl : l.length ≤ 100000)
    (h0 : ¬ OkN l → Q (.tup [.v (.pointer none), .v (.int .i64 1)]) H)
    (h1 : OkN l → ∀ b H' fp, RefT H' b l [] [] fp → Same [] H H' → (∀ j ∈ fp, H.length ≤ j) → Q (.tup [.ptr b 0 0, .v (.int .i64 0)]) H') : Sp Try.prog 16 [rowS l] Q H := by
  refine Sp.body [(4, ⟨[0, 4], [], []⟩), (7, ⟨[0, 4, 5], [], []⟩)] ⟨[], [], pl16⟩ tb16 mo Try.func16 rfl (Nat.le_of_ble_eq_true rfl) (by kernel_rfl) ?_
  simp [ev_skip, ev_seq, ev_cond2, ev_block, ev_ret, ev_region2, ev_loop, loopK, evOps_nil, evOps_cons, opG_none, opA_move, opA_assign, opA_bin, opA_len, putO_some, putH_lt, binT_some, binA, avO_some, lenT_row, io_gtr, opS, opV, Go.Mx.look, fr0, argSlots, seqK, Fr.known, retK, retA, resA, mapO, headK, getV, getB, chkP, firstReg, orO_some, eqT_some, tk3, Try.underlying22, pl16, rowS]
  refine ⟨fun h64 => h0 (fun ⟨h, _⟩ => by omega), fun h64 => ?_⟩
  refine LoopC.intro (fun n xs _ H2 => ∃ i : Nat, i ≤ l.length ∧ n = l.length - i ∧ (∀ a c, c < a → a < i → l[a]? ≠ l[c]?) ∧ xs = [rowS l, .v (.int .i64 i)] ∧ H2 = H) l.length
    ⟨0, by omega, rfl, fun a c h1 h2 => by omega, rfl, rfl⟩ ?_
  rintro n xs bs H2 ⟨i, hi, rfl, hj, rfl, rfl⟩
  simp [ev_skip, ev_seq, ev_cond2, ev_block, ev_exit, ev_ret, ev_region2, ev_loop, loopK, evOps_nil, evOps_cons, opG_none, opA_move, opA_assign, opA_bin, opA_len, opA_box, opA_buildSlice, opA_append, opA_build, putO_some, putH_lt, putC_lt, binT_some, binA, avO_some, lenT_row, boxT, buildSliceT, appendT, buildZ, partsZ, fillO, aggO, io_lss, opS, opV, Go.Mx.look, seqK, blockK, Fr.known, retK, retA, resA, mapO, cellsA_agg, cellsA_row, cellsA_sl, okPart_agg, okPart_row, okPart_sl, fillA, newK, headK, getV, getB, chkP, mkFr, slotsOf, ptrsOf, boxesOf, firstReg, bindO, appA, srcA, srcTy, orO_some, eqT_some, tk3, sz9, by9, ze9, st22, Try.underlying22, ze47, of47, rowS]
  refine ⟨fun hlt => ?_, fun hge => ?_⟩
  · refine LoopC.intro (fun n xs _ H3 => ∃ k : Nat, k ≤ i ∧ n = i - k ∧ (∀ c, c < k → l[i]? ≠ l[c]?) ∧ xs = [rowS l, .v (.int .i64 i), .v (.int .i64 k)] ∧ H3 = H2) i
      ⟨0, by omega, rfl, fun c hc => by omega, rfl, rfl⟩ ?_
    rintro n xs bs H3 ⟨k, hk, rfl, hc, rfl, rfl⟩
    have w1 : IntKind.i64.wrap ((i : Int) + 1) = (i : Int) + 1 := wr_i64 (by omega)
    have w2 : IntKind.i64.wrap ((k : Int) + 1) = (k : Int) + 1 := wr_i64 (by omega)
    simp [ev_skip, ev_seq, ev_cond2, ev_block, ev_exit, ev_region2, evOps_nil, evOps_cons, opG_none, opA_move, opA_assign, opA_bin, opA_indexAddr, putO_some, putH_lt, binT_some, binA, avO_some, indexAddrT, io_add, io_lss, opS, opV, Go.Mx.look, seqK, blockK, Fr.known, mapO, indexAddrA, headK, getV, getB, chkP, mkFr, slotsOf, ptrsOf, boxesOf, orO_some, eqT_some, ev_draw, drawK, evP_q, opAt_some, tk3, sz9, Try.underlying22, rowS]
    refine ⟨fun hlt2 => ?_, fun hge2 => ?_⟩
    · have hkl : k < l.length := by omega
      have e1 := List.getElem?_eq_getElem hlt
      have e2 := List.getElem?_eq_getElem hkl
      simp [ev_skip, ev_seq, ev_cond2, ev_ret, ev_region2, evOps_nil, evOps_cons, opG_none, opA_move, opA_assign, opA_bin, opA_load, opA_indexAddr, putO_some, putH_lt, binT_some, binA, avO_some, loadT, indexAddrT, io_add, strOp, opS, opV, Go.Mx.look, seqK, blockK, Fr.known, retK, retA, resA, mapO, partA, loadA, loadS, indexAddrA, headK, getV, getB, chkP, orO_some, eqT_some, evP_nil, evP_q, opAt_some, tk3, sz9, ag9, tk9, Try.underlying22, hlt, hkl, strV, w2, bl_inj]
      refine ⟨fun e => h0 (fun ⟨_, hnd⟩ => nodup_at.1 hnd i k hlt2 hlt (by rw [e1, e2, e])), fun e => ?_⟩
      refine ⟨i - (k + 1), by omega, k + 1, by omega, rfl, fun c hc2 => ?_, by simp⟩
      rcases Nat.lt_or_ge c k with h3 | h3
      · rw [← e1]; exact hc c h3
      · obtain rfl : c = k := by omega
        rw [e2]; simpa using e
    · obtain rfl : k = i := by omega
      simp [w1]
      refine ⟨l.length - (k + 1), by omega, k + 1, by omega, rfl, fun a c h3 h4 => ?_, by simp⟩
      rcases Nat.lt_or_ge a k with h5 | h5
      · exact hj a c h3 h5
      · obtain rfl : a = k := by omega
        exact hc c h3
  · have hok : OkN l := ⟨by omega, nodup_at.2 (fun a c h3 h4 => hj a c h3 (by omega))⟩
    cases l with
    | nil =>
      simp
      refine h1 hok _ _ [H2.length] ⟨_, _, _, [], [], [], ?_, .inl ⟨rfl, rfl, rfl⟩, .inl ⟨rfl, rfl, rfl⟩, .inl ⟨rfl, rfl, rfl⟩, rfl, by simp, by simp⟩ (Same.app [] _ _) (by simp)
      simp
    | cons s l =>
      simp
      simp at hl
      refine ⟨by omega, ?_⟩
      refine h1 hok _ _ [H2.length + 1, H2.length] ⟨_, _, _, [H2.length], [], [], ?_, .inr ⟨H2.length, 0, by simp; rfl, ?_, rfl⟩, .inl ⟨rfl, rfl, rfl⟩, .inl ⟨rfl, rfl, rfl⟩, rfl, by simp, by simp⟩ (Same.app [] _ _) (by simp)
      · rw [List.getElem?_append_right (by omega)]; simp
      · rw [List.getElem?_append_right (by omega)]; simp
end Go.Proofs.Ytdgdkgfkeinhbaa
