import Derived.Test.YtoakdmkjlpjahaaDoorPF
import Derived.MakeChecks
namespace Go.Proofs.YtoakdmkjlpjahaaDoor
open Go.Mx
set_option linter.unusedVariables false
set_option linter.unusedSimpArgs false
set_option linter.unnecessarySimpa false
set_option maxRecDepth 100000

def asksB (q : LB) (i : Nat) (L : List Tx3) (s : LB) : Prop := ∀ j x, j < i → (splL q)[j]? = some x → ∃ w, fitsW x w = true ∧ prL L w s
def FiO (H : Hp) (a bx : Nat) (lim : Int) (q : LB) (L : List Tx3) (rest : AV) (n : Nat) (xs : List AV) (H2 : Hp) : Prop :=
  ∃ (i m : Nat) (S : List LB), i + 1 ≤ (splL q).length ∧ n = (splL q).length - (i + 1) ∧ xs = [.v (.int .i64 lim), .ptr bx 0 0, .mp m, rest, .v (.int .i64 (((splL q).length - 1 : Nat) : Int)), .v (.int .i64 (i : Int))] ∧ AsAt H2 m (stA S) ∧ S.Nodup ∧ (∀ s, s ∈ S ↔ asksB q (i + 1) L s) ∧ H2[bx]? = some (.cells 0 [.ptr a 0 0]) ∧ Same [] H H2
def FiR (H : Hp) (a bx : Nat) (lim : Int) (it m N : Nat) (S : List LB) (n : Nat) (xs : List AV) (H5 : Hp) : Prop :=
  ∃ (f : AV → Option AV) (O : List LB) (v : AV), xs = [.v (.int .i64 lim), .ptr bx 0 0, v, .it it] ∧ IterAt Tryd.prog 9 H5 it m f N (O.map kv) ∧ (∀ k v, f k = some v ↔ ∃ p ∈ stA S, k = kv p.1 ∧ v = p.2) ∧ NewK 1 (H ++ [.cells 0 [.ptr a 0 0]]) H5 O.length (O.flatMap txC) v ∧ (∀ s ∈ O, s ∈ S) ∧ H5[bx]? = some (.cells 0 [.ptr a 0 0]) ∧ Same [] H H5 ∧ n = N - O.length
set_option maxHeartbeats 2000000 in
theorem find_sp {N a : Nat} {L : List Tx3} {fp : List Nat} (q : LB) (lim : Int) (H : Hp) (Q : AV → Hp → Prop) (hp : IxAt N H a L fp) (hT : Tb H) (hN : N ≤ 100) (hq : q.length ≤ 900)
    (h : Q (rowT (findF L q lim)) H) : Sp Tryd.prog 16 [.ptr a 0 0, .v (.string (tx q)), .v (.int .i64 lim)] Q H := by
  refine Sp.newK ?_
  obtain ⟨mt, mw, v, W, h1, h2, h3, rfl⟩ := hp
  refine Sp.body [(6, ⟨[2, 3, 8, 33, 34, 35], [], []⟩), (12, ⟨[2, 3, 11, 46], [], []⟩)] ⟨[10], [], pl16⟩ tb16 mo Tryd.func16 rfl (Nat.le_of_ble_eq_true rfl) (by kernel_rfl) ?_
  have hsl := splL_len q
  have hsm := splL_small q
  generalize hbx : H.length = bx
  have hs1 : Same [] H (H ++ [.cells 0 [.ptr a 0 0]]) := Same.app _ _ _
  have hb1 : (H ++ [.cells 0 [.ptr a 0 0]])[bx]? = some (.cells 0 [.ptr a 0 0]) := by rw [← hbx]; simp
  have hT1 : Tb (H ++ [.cells 0 [.ptr a 0 0]]) := hT.keep hs1 (by simp) (by simp)
  have g1 := h1.same hs1 (by simp)
  have gc := g1.c
  simp [ev_seq, ev_region2, evOps_nil, evOps_cons, opG_none, opA_move, opA_assign, opA_call, opA_box, putO_some, putH_lt, boxT, opS, opV, Go.Mx.look, fr0, argSlots, seqK, mapO, callA, cellsA_ptr, okPart_ptr, newK, ok26, pl16, hbx]
  refine split_sp q (by omega) _ hT1 _ ?_
  simp [ev_seq, ev_region2, evOps_nil, evOps_cons, opG_none, opA_assign, opA_load, opA_call, putO_some, putH_lt, putC_lt, loadT, opS, opV, Go.Mx.look, seqK, mapO, callA, partA, loadA, loadS, sz29, ag29, ok28, rowW, hb1]
  refine made_sp _ _ gc ?_
  have hWl : W.length ≤ 100000 := by
    have := words_few (N := 0) (M := 0) h2 (L.flatMap fun x => wordsL x.s) (fun w s hws => by
      obtain ⟨x, hx, _, hw⟩ := hws
      exact List.mem_flatMap.2 ⟨x, hx, hw⟩)
    have h5 := all_words N L h3.sm
    have h6 := h3.few
    have : L.length * 901 ≤ 100 * 901 := Nat.mul_le_mul_right _ (by omega)
    omega
  have hwW : ∀ e ∈ W, e.w.length ≤ 100000 := fun e he => by
    obtain ⟨s, hs⟩ := List.exists_mem_of_ne_nil _ (h2.ne e he).1
    obtain ⟨t, ht, _, hw⟩ := (h2.pr e.w s).1 ⟨e, he, rfl, hs⟩
    have := wordsL_small t.s e.w hw
    have := h3.sm t ht
    omega
  have hfind : findF L q lim = if splL q = [] ∨ lim < 1 then [] else (sortT L (foundL L q)).take lim.toNat := rfl
  by_cases hnil : splL q = []
  · have hf0 : findF L q lim = [] := by rw [hfind, if_pos (.inl hnil)]
    rw [hf0] at h
    simp [ev_seq, ev_cond2, ev_ret, ev_region2, evOps_nil, evOps_cons, opG_none, opG_some, opJ, opU_ff, isU_bool, opK_eq, opA_move, opA_assign, opA_pick, opA_bin, opA_un, opA_len, putO_some, putH_lt, putC_lt, putV_lt, condB_true, condB_false, binT_some, binA, avO_some, pickT, unT, lenT_row, io_eql, opS, opV, Go.Mx.look, seqK, Fr.known, retK, retA, resA, mapO, unA, orO_some, eqT_some, tk3, Tryd.underlying53, hnil]
    exact ⟨hs1, 1, 0, [], NewK.nil _ _ _, by simp, h⟩
  · by_cases hl1 : lim < 1
    · have hf0 : findF L q lim = [] := by rw [hfind, if_pos (.inr hl1)]
      rw [hf0] at h
      simp [ev_seq, ev_cond2, ev_ret, ev_region2, evOps_nil, evOps_cons, opG_none, opG_some, opJ, opU_ff, isU_bool, opK_eq, opA_move, opA_assign, opA_pick, opA_bin, opA_un, opA_len, putO_some, putH_lt, putC_lt, condB_true, condB_false, CondP_false, binT_some, binA, avO_some, pickT, unT, lenT_row, io_eql, io_lss, opS, opV, Go.Mx.look, seqK, Fr.known, retK, retA, resA, mapO, unA, orO_some, eqT_some, tk3, Tryd.underlying53, hnil, hl1]
      exact ⟨hs1, 1, 0, [], NewK.nil _ _ _, by simp, h⟩
    · have hf1 : findF L q lim = (sortT L (foundL L q)).take lim.toNat := by rw [hfind, if_neg (fun h => h.elim hnil hl1)]
      have hn0 : 0 < (splL q).length := List.length_pos_iff.2 hnil
      have hn0' : (0 : Int) < ((splL q).length : Int) := by omega
      have hne0 : ¬ ((splL q).length = 0) := by omega
      obtain ⟨x0, hx0⟩ : ∃ x, (splL q)[0]? = some x := ⟨_, List.getElem?_eq_getElem hn0⟩
      have hcsl : ((splL q).flatMap wdC).length = (splL q).length * 2 := flat_len wdC_len _
      have hat : ∀ {i : Nat} {x : W2}, (splL q)[i]? = some x → (((splL q).flatMap wdC).drop (i * 2)).take 2 = wdC x := fun h => flat_sub wdC_len _ _ h
      generalize hcs : (splL q).flatMap wdC = cs at hcsl hat ⊢
      have hat0 := hat hx0
      simp at hat0
      have hle0 : 2 ≤ cs.length := by omega
      have hxs : ∀ x ∈ splL q, x.1.length ≤ 100000 := fun x hx => by have := hsm x hx; omega
      simp [ev_skip, ev_seq, ev_cond2, evOps_nil, evOps_cons, opG_none, opG_some, opJ, opU_ff, isU_bool, opK_eq, opA_move, opA_pick, opA_bin, opA_un, opA_load, opA_indexAddr, opA_len, opA_call, putO_some, putH_lt, putC_lt, condB_false, CondP_false, binT_some, binA, avO_some, pickT, unT, loadT, lenT_row, indexAddrT, io_eql, io_lss, opS, opV, Go.Mx.look, seqK, Fr.known, mapO, unA, callA, partA, loadA, loadS, indexAddrA, orO_some, eqT_some, ev_draw, drawK, evP_q, evP_s, opAt_some, tk3, sz29, ag29, Tryd.underlying53, sz56, ag56, ok31, hl1, hne0, hn0, hb1, hat0, hle0]
      refine having_sp x0 _ _ g1 h2 hWl (hxs x0 (List.mem_of_getElem? hx0)) hwW (fun m1 H2 S1 hm1 hSn1 hS1 hs2 hlm1 => ?_)
      have hs02 : Same [] H H2 := hs1.trans hs2 (by simp)
      have hb2 := hs2.2 _ _ hb1 (by simp)
      have hc1 : (1 : Int) ≤ ((splL q).length : Int) := by omega
      have hsub : (((splL q).length : Int) - 1).toNat = (splL q).length - 1 := by omega
      have hcast : (((splL q).length - 1 : Nat) : Int) = ((splL q).length : Int) - 1 := by omega
      simp [ev_seq, ev_block, ev_region2, ev_loop, loopK, evOps_nil, evOps_cons, opG_none, opA_move, opA_assign, opA_len, opA_slice, putO_some, putH_lt, putC_lt, lenT_row, bndT, sliceT, opS, opV, Go.Mx.look, seqK, mapO, sliceA, headK, getV, getB, chkP, firstReg, evP_nil, evP_s, opAt_some, chkK_eq, allQ_nil, Tryd.underlying53, sz56, sliceRow, hc1, hsub]
      generalize hrest : AV.row false ((splL q).length - 1) ((cs.drop 2).take (((splL q).length - 1) * 2)) = rest
      have hrestl : ∀ (i : Nat) (x : W2), (splL q)[i + 1]? = some x → ((((cs.drop 2).take (((splL q).length - 1) * 2)).drop (i * 2)).take 2 = wdC x ∧ i * 2 + 2 ≤ ((cs.drop 2).take (((splL q).length - 1) * 2)).length) := fun i x hx => by
        have hl := (List.getElem?_eq_some_iff.1 hx).1
        have := hat hx
        refine ⟨?_, by simp; omega⟩
        rw [← this, List.drop_take, List.drop_drop, List.take_take]
        congr 1
        · omega
        · congr 1; omega
      generalize (cs.drop 2).take (((splL q).length - 1) * 2) = cr at hrest hrestl
      have hexit : ∀ (m2 : Nat) (S2 : List LB) (H3 : Hp), AsAt H3 m2 (stA S2) → S2.Nodup → (∀ s, s ∈ S2 ↔ asksB q (splL q).length L s) → H3[bx]? = some (.cells 0 [.ptr a 0 0]) → Same [] H H3 → True := fun _ _ _ _ _ _ _ _ => trivial
      refine LoopC.intro (fun n xs _ H3 => FiO H a bx lim q L rest n xs H3) ((splL q).length - 1) ⟨0, m1, S1, by omega, by omega, by simp [hcast], hm1, hSn1, fun s => ?_, hb2, hs02⟩ ?_
      · rw [hS1]
        constructor
        · intro hw j x hj hx
          have : j = 0 := by omega
          subst this
          rw [hx0] at hx; simp at hx; subst hx
          exact hw
        · intro hw
          exact hw 0 x0 (by omega) hx0
      · clear hm1 hSn1 hS1 hs2 hlm1 hs02 hb2 S1 H2 m1 hexit
        rintro n xs bs H3 ⟨i, m2, S2, hi, rfl, rfl, hm2, hSn2, hS2, hb3, hs3⟩
        by_cases hlt : i + 1 < (splL q).length
        · obtain ⟨x, hx⟩ : ∃ x, (splL q)[i + 1]? = some x := ⟨_, List.getElem?_eq_getElem hlt⟩
          have hr := hrestl i x hx
          have hlt' : (i : Int) < (((splL q).length - 1 : Nat) : Int) := by omega
          have hlt2 : i < (splL q).length - 1 := by omega
          have w1 : IntKind.i64.wrap ((i : Int) + 1) = (i : Int) + 1 := wr_i64 (by omega)
          have g3 := h1.same hs3 (by simp)
          rw [← hrest]
          simp [ev_skip, ev_seq, ev_cond2, ev_block, ev_region2, evOps_nil, evOps_cons, opG_none, opA_move, opA_bin, opA_load, opA_indexAddr, opA_call, opA_alloc, opA_store, putO_some, putH_lt, putU_none, condB_true, binT_some, binA, avO_some, loadT, indexAddrT, allocT, storeT, io_lss, opS, opV, Go.Mx.look, seqK, Fr.known, Fr.newBox, dropBp, mapO, callA, cellsA_agg, okPart_agg, partA, loadA, loadS, indexAddrA, newK, storeS, mkFr, slotsOf, ptrsOf, boxesOf, orO_some, eqT_some, tk3, sz29, ag29, Tryd.underlying53, sz56, ag56, ze56, ok31, hlt', hr.1, hr.2, hb3, splice, wdC]
          refine having_sp x _ _ g3 h2 hWl (hxs x (List.mem_of_getElem? hx)) hwW (fun m4 H4 S4 hm4 hSn4 hS4 hs4 hlm4 => ?_)
          have hm24 := hm2.same hs4 (by simp)
          have hb4 := hs4.2 _ _ hb3 (by simp)
          simp [evOps_cons, opG_none, opA_call, putC_lt, opS, opV, Go.Mx.look, mapO, callA, ok32]
          refine meet_sp _ _ hm24 hm4 (fun m5 H5 S5 hm5 hSn5 hS5 hs5 hlm5 => ?_)
          have hb5 := hs5.2 _ _ hb4 (by simp)
          simp [ev_region2, evOps_nil, evOps_cons, opG_none, opA_move, opA_assign, opA_bin, putO_some, putH_lt, putC_lt, binT_some, binA, avO_some, io_add, opS, opV, Go.Mx.look, seqK, blockK, mapO, headK, getV, getB, chkP, orO_some, eqT_some, tk3, w1, hrest]
          refine ⟨(splL q).length - (i + 1 + 1), by omega, i + 1, m5, S5, by omega, rfl, by simp, hm5, hSn5, fun s => ?_, hb5, (hs3.trans hs4 (by simp)).trans hs5 (by simp)⟩
          rw [hS5, hS2, hS4]
          constructor
          · rintro ⟨h6, h7⟩ j y hj hy
            by_cases hji : j = i + 1
            · subst hji
              rw [hx] at hy; simp at hy; subst hy
              exact h7
            · exact h6 j y (by omega) hy
          · intro h6
            exact ⟨fun j y hj hy => h6 j y (by omega) hy, h6 (i + 1) x (by omega) hx⟩
        · have hii : i + 1 = (splL q).length := by omega
          have hlt' : ¬ ((i : Int) < (((splL q).length - 1 : Nat) : Int)) := by omega
          have hlt2 : ¬ (i < (splL q).length - 1) := by omega
          simp [ev_seq, ev_cond2, ev_exit, ev_region2, evOps_nil, evOps_cons, opG_none, opA_move, opA_assign, opA_bin, putO_some, putH_lt, condB_false, binT_some, binA, avO_some, io_lss, opS, opV, Go.Mx.look, seqK, blockK, Fr.known, mkFr, slotsOf, ptrsOf, boxesOf, orO_some, eqT_some, rangeT_some, opA_range, tk3, hlt']
          rw [hii] at hS2
          have hSL : S2.length ≤ L.length := by
            have := hSn2.length_le_of_subset (l₂ := L.map (·.id)) (fun s hs => by
              obtain ⟨w, _, t, ht, hid, _⟩ := (hS2 s).1 hs 0 x0 hn0 hx0
              exact List.mem_map.2 ⟨t, ht, hid⟩)
            simpa using this
          have hLl := h3.few
          have hSf : S2.Perm (foundL L q) := by
            refine (List.perm_ext_iff_of_nodup hSn2 (found_nodup h3.ids q)).2 (fun s => ?_)
            rw [hS2, found_mem h3.ids]
            constructor
            · intro h6
              refine ⟨?_, fun x hx => ?_⟩
              · obtain ⟨w, _, t, ht, hid, _⟩ := h6 0 x0 hn0 hx0
                exact List.mem_map.2 ⟨t, ht, hid⟩
              · obtain ⟨j, hj⟩ := List.getElem?_of_mem hx
                exact h6 j x (List.getElem?_eq_some_iff.1 hj).1 hj
            · rintro ⟨_, h7⟩ j x hj hx
              exact h7 x (List.mem_of_getElem? hx)
          obtain ⟨f, hm, hf⟩ := hm2
          refine hm.range Tryd.underlying65 (fun H4 N2 hit hs4 hl4 => ?_)
          generalize hitn : H3.length = it at hit
          have hit0 : H.length + 1 ≤ it := by have := hs3.1; have := (List.getElem?_eq_some_iff.1 hb3).1; omega
          simp [ev_block, ev_loop, loopK, evOps_nil, putC_lt, opS, opV, Go.Mx.look, seqK, mapO, headK, getV, getB, chkP, firstReg]
          refine LoopC.intro (fun n xs _ H5 => FiR H a bx lim it m2 N2 S2 n xs H5) N2 ⟨f, [], .v (.slice none 0 0), by simp, hit, hf, NewK.nil _ _ _, by simp, hs4.2 _ _ hb3 (by simp), hs3.trans hs4 (by simp), by simp⟩ ?_
          clear hit hs4 hl4 hm hf hb3 hs3
          rintro n xs bs H5 ⟨f, O, v5, rfl, hit, hf, hO, hOS, hb5, hs5, rfl⟩
          have hOn : O.Nodup := by
            have := hit.nodup
            exact List.Pairwise.of_map (f := kv) (fun a b hne e => hne (by rw [e])) this
          have hOl : O.length ≤ 100 := by have := hOn.length_le_of_subset hOS; omega
          simp [ev_seq, ev_region2, evOps_cons, opG_none, opS, opV, Go.Mx.look, mkFr, slotsOf, ptrsOf, boxesOf, nextT_some, opA_next]
          refine hit.next (fun H6 key val hfk hkg hnd hlt6 hit6 hent hs6 hl6 => ?_) (fun hall => ?_)
          · obtain ⟨s, hs1', rfl, rfl⟩ := stA_key hf hfk
            have hbit : bx ≠ it := by omega
            have hs7 : Same [] H H6 := hs5.trans hs6 (by simp; omega)
            have hb6 := hs6.2 _ _ hb5 (by simp; exact hbit)
            have hO6 := hO.same hs6 (fun id ver hv => by
              rcases hO with ⟨_, _, h2⟩ | ⟨_, _, id2, ver2, tl, h2, h3, _⟩
              · rw [h2] at hv; simp at hv
              · rw [h2] at hv; simp at hv
                obtain ⟨a', b', c', d', h4⟩ := iter_obj hit
                simp only [List.mem_singleton]
                rintro rfl
                rw [← hv.1, h3] at h4; simp at h4)
            simp only [kv] at hent
            simp [ev_skip, ev_seq, ev_cond2, ev_block, ev_region2, evOps_nil, evOps_cons, opG_none, opA_move, opA_assign, opA_extract, opA_buildSlice, opA_append, putO_some, putH_lt, putC_lt, condB_true, avO_some, extractT, buildSliceT, appendT, opS, opV, Go.Mx.look, seqK, Fr.known, mapO, extractA, cellsA_v, okPart_v, Value.oneCell', fillA, bindO, srcTy, opA_entry, entryT_some, sz9, by9, ze9, st23, Tryd.underlying23, hent]
            refine hO6.app (c := txC s) rfl (by have := hs7.1; have := (List.getElem?_eq_some_iff.1 hb6).1; simp; omega) ⟨by omega, by omega⟩ (fun v7 H7 fp hO7 hs8 hfp => ?_)
            have hnot : ∀ j o, H6[j]? = some o → (∀ ver cs, o ≠ .cells ver cs) → j ∉ fp := fun j o hj hno hm => by
              obtain ⟨_, ver, ds, h1⟩ := hfp j hm
              rw [h1] at hj; simp at hj
              exact hno ver ds hj.symm
            have hit7 : IterAt Tryd.prog 9 H7 it m2 f N2 (O.map kv ++ [kv s]) := by
              refine hit6.same hs8 ?_ ?_
              · obtain ⟨a', b', c', d', h4⟩ := iter_obj hit6; exact hnot _ _ h4 (by simp)
              · obtain ⟨es, c, ds, _, h4, _⟩ := hit6; exact hnot _ _ h4 (by simp)
            have hb7 := hs8.2 _ _ hb6 (fun hm => by
              have := (hfp bx hm).1
              simp at this; omega)
            have hKN : O.length < N2 := by simpa using hlt6
            simp [evOps_nil, evOps_cons, opG_none, opA_assign, putO_some, putH_lt, putC_lt, opS, opV, Go.Mx.look, seqK, blockK, mapO, headK, getV, getB, chkP]
            exact ⟨N2 - (O.length + 1), by omega, f, O ++ [s], v7, rfl, by simpa using hit7, hf, by simpa using hO7, fun s' hs' => by
              rcases List.mem_append.1 hs' with hs' | hs'
              · exact hOS s' hs'
              · simp at hs'; subst hs'; exact hs1', hb7, hs7.new hs8 (fun j hj => by have := (hfp j hj).1; simp at this; omega), by simp⟩
          · have hperm : O.Perm (foundL L q) := by
              refine List.Perm.trans ((List.perm_ext_iff_of_nodup hOn hSn2).2 (fun s => ⟨hOS s, fun hs => ?_⟩)) hSf
              obtain ⟨s', hs', e⟩ := List.mem_map.1 (hall _ _ (stA_has hf hs))
              exact kv_inj e ▸ hs'
            have hso := sortT_congr L hperm
            rw [← hso] at hf1
            have g5 := h1.same hs5 (by simp)
            simp [ev_seq, ev_cond2, ev_exit, ev_region2, evOps_nil, evOps_cons, opG_none, opA_move, opA_extract, opA_call, opA_makeFunc, putO_some, putH_lt, putC_lt, condB_false, extractT, fnT, opS, opV, Go.Mx.look, seqK, blockK, Fr.known, mapO, callA, extractA]
            rcases hO with ⟨q1, q2, rfl⟩ | ⟨q0, q2, id, ver, tl, rfl, hid, hidl⟩
            · have hO0 : O = [] := List.length_eq_zero_iff.1 q1
              subst hO0
              refine sort0_sp _ _ _ ?_
              have hf0 : findF L q lim = [] := by rw [hf1]; simp [sortT]
              rw [hf0] at h
              have hlp : 0 < lim := by omega
              have hlp2 : ¬ (lim ≤ 0) := by omega
              simp [ev_seq, ev_ret, ev_region2, evOps_nil, evOps_cons, opG_none, opA_move, opA_assign, opA_len, opA_min, opA_slice, putO_some, putH_lt, putC_lt, lenT_nil, minT, minA, bndT, sliceT, opS, opV, Go.Mx.look, seqK, retK, retA, resA, mapO, sliceA, sz9, Tryd.underlying23, hlp]
              exact ⟨hs5, 1, 0, [], NewK.nil _ _ _, by simp, h⟩
            · refine sort_sp O H5 _ hid (by omega) hb5 g5 (fun hj => by
                have := h1.lt id hj
                simp at hidl; omega) (by simp at hidl; omega) ?_
              have hmin : (if (O.length : Int) < lim then (O.length : Int) else lim) = ((min O.length lim.toNat : Nat) : Int) := by split <;> omega
              have hsh : sliceSl 1 id ver 1 0 O.length 0 ((min O.length lim.toNat : Nat) : Int) = some (.sl id ver 1 0 (min O.length lim.toNat)) := by
                unfold sliceSl
                rw [if_pos rfl, if_pos (by omega), if_pos (by omega)]
                simp
              have hjp : 0 < min O.length lim.toNat := by omega
              generalize hj : min O.length lim.toNat = j at hmin hsh hjp
              simp [ev_seq, ev_ret, ev_region2, evOps_nil, evOps_cons, opG_none, opA_move, opA_assign, opA_len, opA_min, opA_slice, putO_some, putH_lt, putC_lt, lenT_sl, minT, minA, bndT, sliceT, opS, opV, Go.Mx.look, seqK, retK, retA, resA, mapO, sliceA, sz9, Tryd.underlying23, hmin, hsh]
              have hlen := sortT_len L O
              have hfj : findF L q lim = (sortT L O).take j := by
                rw [hf1, ← hj]
                rw [List.take_eq_take_iff, hlen]
                omega
              have hfl : (findF L q lim).length = j := by rw [hfj, List.length_take, hlen]; omega
              refine ⟨hs5.new (Same.set (fp := [id]) (by simp)) (by simp at hidl ⊢; omega), 1, j, ((sortT L O).take j).flatMap txC, .inr ⟨hjp, by rw [flat_len txC_len, ← hfj, hfl], id, ver, ((sortT L O).drop j).flatMap txC ++ tl, rfl, ?_, by simp at hidl; omega⟩, ?_, ?_⟩
              · rw [List.getElem?_set_self (Hp.lt hid), ← List.append_assoc, ← List.flatMap_append, List.take_append_drop]
              · intro c hc
                obtain ⟨x, _, hx⟩ := List.mem_flatMap.1 hc
                simp [txC] at hx; subst hx; simp
              · unfold rowT at h
                rw [hfl, hfj] at h
                exact h
end Go.Proofs.YtoakdmkjlpjahaaDoor

namespace Go.Proofs.YtoakdmkjlpjahaaDoor
open Go.Mx
set_option linter.unusedVariables false
set_option linter.unusedSimpArgs false
set_option linter.unnecessarySimpa false
set_option maxRecDepth 100000

theorem findN_sp (v : AV) (q : LB) (lim : Int) (H : Hp) (Q : AV → Hp → Prop) (hv : NoIx H v) (hT : Tb H) (hq : q.length ≤ 900) (h : Q (rowT []) H) : Sp Tryd.prog 16 [v, .v (.string (tx q)), .v (.int .i64 lim)] Q H := by
  refine Sp.newK ?_
  refine Sp.body [(6, ⟨[2, 3, 8, 33, 34, 35], [], []⟩), (12, ⟨[2, 3, 11, 46], [], []⟩)] ⟨[10], [], pl16⟩ tb16 mo Tryd.func16 rfl (Nat.le_of_ble_eq_true rfl) (by kernel_rfl) ?_
  have hs1 : Same [] H (H ++ [.cells 0 [v]]) := Same.app _ _ _
  have hb1 : (H ++ [.cells 0 [v]])[H.length]? = some (.cells 0 [v]) := by simp
  have hT1 : Tb (H ++ [.cells 0 [v]]) := hT.keep hs1 (by simp) (by simp)
  have hv1 : NoIx (H ++ [.cells 0 [v]]) v := by
    rcases hv with h | ⟨b, h, hb⟩
    · exact .inl h
    · exact .inr ⟨b, h, hs1.2 _ _ hb (by simp)⟩
  have hcv : cellsA v = [v] ∧ okPart v = true := by
    rcases hv with rfl | ⟨b, rfl, _⟩ <;> exact ⟨rfl, rfl⟩
  simp [ev_seq, ev_region2, evOps_nil, evOps_cons, opG_none, opA_move, opA_assign, opA_call, opA_box, putO_some, putH_lt, boxT, opS, opV, Go.Mx.look, fr0, argSlots, seqK, mapO, callA, newK, ok26, pl16, hcv.1, hcv.2]
  refine split_sp q (by omega) _ hT1 _ ?_
  simp [ev_seq, ev_region2, evOps_nil, evOps_cons, opG_none, opA_assign, opA_load, opA_call, putO_some, putH_lt, putC_lt, loadT, opS, opV, Go.Mx.look, seqK, mapO, callA, partA, loadA, loadS, sz29, ag29, ok28, rowW]
  refine madeN_sp v _ _ hv1 ?_
  simp [ev_seq, ev_cond2, ev_ret, ev_region2, evOps_nil, evOps_cons, opG_none, opG_some, opJ, opU_ff, isU_bool, opA_move, opA_assign, opA_pick, opA_un, putO_some, putH_lt, putC_lt, putV_lt, condB_true, pickT, unT, opS, opV, Go.Mx.look, seqK, Fr.known, retK, retA, resA, mapO, unA]
  exact ⟨hs1, 1, 0, [], NewK.nil _ _ _, by simp, h⟩
def StI (H : Hp) (x y : Bool) (l m : List LB) (cl cm : List AV) (n : Nat) (xs : List AV) (H2 : Hp) : Prop :=
  ∃ i : Nat, i ≤ l.length ∧ n = l.length - i ∧ xs = [.row x l.length cl, .row y m.length cm, .v (.int .i64 (i : Int))] ∧ l.take i = m.take i ∧ H2 = H
/-- agoraref05.Strings. -/
theorem strings_sp (x y : Bool) (l m : List LB) (H : Hp) (Q : AV → Hp → Prop) (hl : l.length ≤ 100000) (h : Q (.v (.bool (decide (l = m)))) H) :
    Sp Tryd.prog 9 [.row x l.length (l.flatMap txC), .row y m.length (m.flatMap txC)] Q H := by
  refine Sp.body [(4, ⟨[0, 1, 5], [], []⟩)] ⟨[], [], pl9⟩ tb9 mo Tryd.func9 rfl (Nat.le_of_ble_eq_true rfl) (by kernel_rfl) ?_
  by_cases hlm : l.length = m.length
  · have hlm' : (l.length : Int) = (m.length : Int) := by omega
    simp [ev_skip, ev_seq, ev_cond2, ev_block, ev_region2, ev_loop, loopK, evOps_nil, evOps_cons, opG_none, opA_move, opA_assign, opA_bin, opA_len, putO_some, putH_lt, condB_false, binT_some, binA, avO_some, lenT_row, io_neq, opS, opV, Go.Mx.look, fr0, argSlots, seqK, Fr.known, mapO, headK, getV, getB, chkP, firstReg, orO_some, eqT_some, tk3, Tryd.underlying23, pl9, hlm']
    have lc : (l.flatMap txC).length = l.length := by rw [flat_len txC_len, Nat.mul_one]
    have mc : (m.flatMap txC).length = m.length := by rw [flat_len txC_len, Nat.mul_one]
    have lg : ∀ {i : Nat} {w : LB}, l[i]? = some w → (l.flatMap txC)[i]? = some (.v (.string (tx w))) := fun {i w} hw => by
      rw [flat_st, List.getElem?_map]; simp [stC, hw]
    have mg : ∀ {i : Nat} {w : LB}, m[i]? = some w → (m.flatMap txC)[i]? = some (.v (.string (tx w))) := fun {i w} hw => by
      rw [flat_st, List.getElem?_map]; simp [stC, hw]
    generalize l.flatMap txC = cl at lc lg ⊢
    generalize m.flatMap txC = cm at mc mg ⊢
    refine LoopC.intro (fun n xs _ H2 => StI H x y l m cl cm n xs H2) l.length ⟨0, by omega, by omega, by simp [hlm], rfl, rfl⟩ ?_
    rintro n xs bs H2 ⟨i, hi, rfl, rfl, ht, rfl⟩
    by_cases hlt : i < l.length
    · obtain ⟨a, ha⟩ : ∃ a, l[i]? = some a := ⟨_, List.getElem?_eq_getElem hlt⟩
      obtain ⟨b, hb⟩ : ∃ b, m[i]? = some b := ⟨_, List.getElem?_eq_getElem (by omega)⟩
      have hlt' : (i : Int) < (l.length : Int) := by omega
      have hlt2 : (i : Int) < (m.length : Int) := by omega
      have hlt3 : i < m.length := by omega
      have a1 := lg ha
      have b1 := mg hb
      have a2 : i < cl.length := by omega
      have b2 : i < cm.length := by omega
      have a3 : cl[i] = .v (.string (tx a)) := (List.getElem?_eq_some_iff.1 a1).2
      have b3 : cm[i] = .v (.string (tx b)) := (List.getElem?_eq_some_iff.1 b1).2
      have w1 : IntKind.i64.wrap ((i : Int) + 1) = (i : Int) + 1 := wr_i64 (by omega)
      by_cases hab : a = b
      · simp [ev_skip, ev_seq, ev_cond2, ev_block, ev_region2, evOps_nil, evOps_cons, opG_none, opA_move, opA_assign, opA_bin, opA_load, opA_indexAddr, opA_len, putO_some, putH_lt, condB_true, condB_false, binT_some, binA, avO_some, loadT, lenT_row, indexAddrT, io_add, io_lss, strOp, opS, opV, Go.Mx.look, seqK, blockK, Fr.known, mapO, partA, loadA, loadS, indexAddrA, headK, getV, getB, chkP, mkFr, slotsOf, ptrsOf, boxesOf, orO_some, eqT_some, ev_draw, drawK, evP_nil, evP_q, opAt_some, tk3, sz9, ag9, tk9, Tryd.underlying23, tx_list, hlt', hlt2, a2, b2, a3, b3, hab, w1]
        exact ⟨l.length - (i + 1), by omega, i + 1, by omega, rfl, by simp [hlm], by rw [List.take_add_one, List.take_add_one, ht, ha, hb, hab], rfl⟩
      · have hne : ¬ (l = m) := fun e => by subst e; rw [ha] at hb; simp at hb; exact hab hb
        rw [decide_eq_false hne] at h
        simp [ev_skip, ev_seq, ev_cond2, ev_block, ev_ret, ev_region2, evOps_nil, evOps_cons, opG_none, opA_move, opA_assign, opA_bin, opA_load, opA_indexAddr, opA_len, putO_some, putH_lt, condB_true, CondP_true, binT_some, binA, avO_some, loadT, lenT_row, indexAddrT, io_lss, strOp, opS, opV, Go.Mx.look, seqK, blockK, Fr.known, retK, retA, resA, mapO, partA, loadA, loadS, indexAddrA, mkFr, slotsOf, ptrsOf, boxesOf, orO_some, eqT_some, ev_draw, drawK, evP_nil, evP_q, opAt_some, tk3, sz9, ag9, tk9, Tryd.underlying23, tx_list, hlt', hlt2, a2, b2, a3, b3, hab]
        exact h
    · have hii : i = l.length := by omega
      subst hii
      have he : l = m := by rw [List.take_length] at ht; rw [ht, List.take_of_length_le (by omega)]
      rw [decide_eq_true he] at h
      have hlt' : ¬ ((l.length : Int) < (l.length : Int)) := by omega
      simp [ev_seq, ev_cond2, ev_exit, ev_ret, ev_region2, evOps_nil, evOps_cons, opG_none, opA_move, opA_assign, opA_bin, opA_len, putO_some, putH_lt, condB_false, binT_some, binA, avO_some, lenT_row, io_lss, opS, opV, Go.Mx.look, seqK, blockK, Fr.known, retK, retA, resA, mapO, mkFr, slotsOf, ptrsOf, boxesOf, orO_some, eqT_some, tk3, Tryd.underlying23]
      exact h
  · have hlm' : ¬ ((l.length : Int) = (m.length : Int)) := by omega
    have hne : ¬ (l = m) := fun e => hlm (by rw [e])
    rw [decide_eq_false hne] at h
    simp [ev_seq, ev_cond2, ev_ret, ev_region2, evOps_nil, evOps_cons, opG_none, opA_move, opA_assign, opA_bin, opA_len, putO_some, putH_lt, CondP_true, binT_some, binA, avO_some, lenT_row, io_neq, opS, opV, Go.Mx.look, fr0, argSlots, seqK, Fr.known, retK, retA, resA, mapO, orO_some, eqT_some, tk3, Tryd.underlying23, pl9, hlm']
    exact h
end Go.Proofs.YtoakdmkjlpjahaaDoor

namespace Go.Proofs.YtoakdmkjlpjahaaDoor
open Go.Mx
set_option linter.unusedVariables false
set_option linter.unusedSimpArgs false
set_option linter.unnecessarySimpa false
set_option maxRecDepth 100000

/-! ### The examples -/
def wGood : LB := [103, 111, 111, 100]
def t1E : Tx3 := ⟨[49], 1, [71, 111, 111, 100, 32, 100, 97, 121]⟩
def t2E : Tx3 := ⟨[50], 2, [103, 111, 111, 100, 32, 110, 105, 103, 104, 116]⟩
theorem s_good : splL [103, 111, 111, 100] = [(wGood, false)] := by kernel_rfl
theorem s_da : splL [103, 111, 111, 100, 32, 100, 97, 42] = [(wGood, false), ([100, 97], true)] := by kernel_rfl
theorem s_go : splL [103, 111] = [([103, 111], false)] := by kernel_rfl
theorem w_1 : wordsL t1E.s = [wGood, [100, 97, 121]] := by kernel_rfl
theorem w_2 : wordsL t2E.s = [wGood, [110, 105, 103, 104, 116]] := by kernel_rfl
def LE : List Tx3 := [t1E, t2E]
theorem a_1 : addL [] t1E = (0, [t1E]) := by simp [addL, t1E]
theorem a_2 : addL [t1E] t2E = (0, LE) := by simp [addL, t1E, t2E, LE]
theorem f_good : foundL LE [103, 111, 111, 100] = [[49], [50]] := by kernel_rfl
theorem f_da : foundL LE [103, 111, 111, 100, 32, 100, 97, 42] = [[49]] := by kernel_rfl
theorem f_go : foundL LE [103, 111] = [] := by kernel_rfl
theorem r_good : findF LE [103, 111, 111, 100] 5 = [[50], [49]] := by
  have h : sortT LE [[49], [50]] = [[50], [49]] := (sortT_uniq LE (List.Perm.swap _ _ _) (by
    rw [List.pairwise_cons]
    refine ⟨fun y hy => ?_, by simp⟩
    simp at hy; subst hy
    simp [befT, tsOf, LE, t1E, t2E])).symm
  unfold findF
  rw [if_neg (by rw [s_good]; simp), f_good, h]; rfl
theorem r_da : findF LE [103, 111, 111, 100, 32, 100, 97, 42] 5 = [[49]] := by
  unfold findF
  rw [if_neg (by rw [s_da]; simp), f_da]
  simp [sortT]
theorem r_go : findF LE [103, 111] 5 = [] := by
  unfold findF
  rw [f_go]; simp [sortT]
theorem c_good : countW LE [103, 111, 111, 100] = 2 := by
  simp [countW, LE, w_1, w_2, wGood]
theorem awake_sp (H : Hp) (Q : AV → Hp → Prop) (hT : Tb H) (h : Q (.v (.bool true)) H) : Sp Tryd.prog 12 [] Q H := by
  refine Sp.clean ?_
  refine Sp.body [] ⟨[], [], []⟩ [] mo Tryd.func12 rfl (Nat.le_of_ble_eq_true rfl) (by kernel_rfl) ?_
  have e1 : (⟨#[49]⟩ : ByteArray) = tx t1E.id := rfl
  have e2 : (⟨#[71, 111, 111, 100, 32, 100, 97, 121]⟩ : ByteArray) = tx t1E.s := rfl
  have e3 : (⟨#[50]⟩ : ByteArray) = tx t2E.id := rfl
  have e4 : (⟨#[103, 111, 111, 100, 32, 110, 105, 103, 104, 116]⟩ : ByteArray) = tx t2E.s := rfl
  have e5 : (⟨#[103, 111, 111, 100]⟩ : ByteArray) = tx [103, 111, 111, 100] := rfl
  have e6 : (⟨#[103, 111, 111, 100, 32, 100, 97, 42]⟩ : ByteArray) = tx [103, 111, 111, 100, 32, 100, 97, 42] := rfl
  have e7 : (⟨#[103, 111]⟩ : ByteArray) = tx [103, 111] := rfl
  simp [ev_seq, ev_region2, evOps_nil, evOps_cons, opG_none, opA_assign, opA_call, putO_some, putH_lt, opS, opV, fr0, argSlots, seqK, mapO, callA, ok14]
  refine new_sp 2 H _ (fun a H1 fp1 hp1 hs1 hf1 => ?_)
  have hT1 := hT.keep hs1 (by simp) (by simp)
  simp [ev_seq, ev_region2, evOps_nil, evOps_cons, opG_none, opA_move, opA_assign, opA_call, putO_some, putH_lt, putC_lt, opS, opV, Go.Mx.look, seqK, mapO, callA, ok15]
  rw [e1, e2]
  refine add_sp t1E H1 _ hp1 hT1 (by omega) (by simp) (by simp [t1E]) ?_
  rw [a_1]
  intro H2 fp2 hp2 hs2 hf2
  have hT2 := hp1.tb hT1 hs2
  simp [ev_seq, ev_region2, evOps_nil, evOps_cons, opG_none, opA_move, opA_call, putO_some, putH_lt, putC_lt, opS, opV, Go.Mx.look, seqK, mapO, callA, ok15]
  rw [e3, e4]
  refine add_sp t2E H2 _ hp2 hT2 (by omega) (by simp) (by simp [t2E]) ?_
  rw [a_2]
  intro H3 fp3 hp3 hs3 hf3
  have hT3 := hp2.tb hT2 hs3
  have hsA : Same [] H H3 := (hs1.new hs2 hf1).new hs3 (fun j hj => (hf2 j hj).elim (hf1 j) (fun h => Nat.le_trans hs1.1 h))
  simp [ev_seq, ev_region2, evOps_nil, evOps_cons, opG_none, opA_move, opA_call, putO_some, putH_lt, putC_lt, opS, opV, Go.Mx.look, seqK, mapO, callA, ok16]
  rw [e5]
  refine find_sp _ 5 H3 _ hp3 hT3 (by omega) (by simp) ?_
  rw [r_good]
  simp [evOps_cons, opG_none, opA_call, opA_buildSlice, putH_lt, putC_lt, buildSliceT, opS, opV, Go.Mx.look, mapO, callA, cellsA_v, okPart_v, Value.oneCell', fillA, bindO, rowT, sz9, ze9, Tryd.underlying23, ok9, rowT]
  refine strings_sp false true [[50], [49]] [[50], [49]] H3 _ (by simp) ?_
  simp [evOps_cons, opG_none, opG_some, opJ, opU_ft, isU_bool, opK_eq, opA_move, opA_call, putO_some, putH_lt, putC_lt, condB_true, opS, opV, Go.Mx.look, Fr.known, mapO, callA, ok16]
  rw [e6]
  refine find_sp _ 5 H3 _ hp3 hT3 (by omega) (by simp) ?_
  rw [r_da]
  simp [evOps_cons, opG_some, opJ, opU_ft, isU_bool, opK_eq, opA_call, opA_buildSlice, putH_lt, putC_lt, condB_true, buildSliceT, opS, opV, Go.Mx.look, Fr.known, mapO, callA, cellsA_v, okPart_v, Value.oneCell', fillA, bindO, rowT, sz9, ze9, Tryd.underlying23, ok9, rowT]
  refine strings_sp false true [[49]] [[49]] H3 _ (by simp) ?_
  simp [evOps_cons, opG_none, opG_some, opJ, opU_ft, isU_bool, opK_eq, opA_move, opA_pick, opA_call, putO_some, putH_lt, putC_lt, condB_true, pickT, opS, opV, Go.Mx.look, Fr.known, mapO, callA, ok16]
  rw [e7]
  refine find_sp _ 5 H3 _ hp3 hT3 (by omega) (by simp) ?_
  rw [r_go]
  simp [evOps_cons, opG_none, opG_some, opJ, opU_ft, isU_bool, opK_eq, opA_move, opA_pick, opA_bin, opA_len, opA_call, putO_some, putH_lt, putC_lt, condB_true, binT_some, binA, avO_some, pickT, lenT_row, io_eql, opS, opV, Go.Mx.look, Fr.known, mapO, callA, orO_some, eqT_some, rowT, tk3, Tryd.underlying23, ok20, rowT]
  refine texts_sp _ H3 _ hp3 ?_
  rw [c_good]
  simp [ev_ret, evOps_nil, evOps_cons, opG_none, opG_some, opJ, opU_ft, isU_bool, opK_eq, opA_assign, opA_pick, opA_bin, putO_some, putH_lt, putC_lt, condB_true, binT_some, binA, avO_some, pickT, io_eql, opS, opV, Go.Mx.look, seqK, Fr.known, retK, retA, resA, mapO, orO_some, eqT_some, tk3]
  exact ⟨hsA.grown, h⟩
end Go.Proofs.YtoakdmkjlpjahaaDoor

namespace Go.Proofs.YtoakdmkjlpjahaaDoor
open Go.Mx
set_option linter.unusedVariables false
set_option linter.unusedSimpArgs false
set_option linter.unnecessarySimpa false
set_option maxRecDepth 100000

/-! ### The tables, as the statement lists them -/
theorem mapM_at {α β : Type} {f : α → Option β} : ∀ {l : List α} {ys : List β}, l.mapM f = some ys → ys.length = l.length ∧ ∀ (i : Nat) (a : α), l[i]? = some a → ∃ y, ys[i]? = some y ∧ f a = some y
  | [], ys, h => by
    simp at h; subst h
    exact ⟨rfl, fun i a h => by simp at h⟩
  | x :: l, ys, h => by
    rw [List.mapM_cons] at h
    cases hx : f x with
    | none => rw [hx] at h; simp at h
    | some y =>
      cases hl : l.mapM f with
      | none => rw [hx, hl] at h; simp at h
      | some ys' =>
        rw [hx, hl] at h
        simp at h; subst h
        obtain ⟨h1, h2⟩ := mapM_at hl
        refine ⟨by simp [h1], fun i a ha => ?_⟩
        cases i with
        | zero => simp at ha; subst ha; exact ⟨y, rfl, hx⟩
        | succ i => simpa using h2 i a (by simpa using ha)
section
variable {H : Type} {enc : TypeId × Value → H} {P : Go.Program} {w : World} {base : Nat} {spare : Nat → Bool} {held : Bool}
theorem trod_arr {t e : TypeId} {n fuel : Nat} {cs : List Value} {ds : List (DataW H)} {p : List MemPlace} (hu : P.underlying t = some (.array n e)) (h : DataW.trod enc P w base spare held fuel t cs = some (.agg ds, p)) :
    cs.length = P.cellsOf t ∧ ∀ (i : Nat) (d : DataW H), i < n → ds[i]? = some d → ∃ q f2, DataW.trod enc P w base spare held f2 e ((cs.drop (i * P.cellsOf e)).take (P.cellsOf e)) = some (d, q) := by
  cases fuel with
  | zero => simp [DataW.trod] at h
  | succ fuel =>
    unfold DataW.trod at h
    simp only [hu] at h
    split at h
    · rename_i hl
      refine ⟨hl, fun i d hi hd => ?_⟩
      simp only [Option.map_eq_some_iff] at h
      obtain ⟨xs, hm, he⟩ := h
      simp only [Prod.mk.injEq, DataW.agg.injEq] at he
      obtain ⟨y, hy, hf⟩ := (mapM_at hm).2 i i (by simp [hi])
      have : ds[i]? = some y.1 := by rw [← he.1, List.getElem?_map, hy]; rfl
      rw [this] at hd
      simp at hd; subst hd
      exact ⟨y.2, fuel, hf⟩
    · simp at h
theorem trod_str {t : TypeId} {fs : Array Field} {fuel : Nat} {cs : List Value} {ds : List (DataW H)} {p : List MemPlace} (hu : P.underlying t = some (.struct fs)) (h : DataW.trod enc P w base spare held fuel t cs = some (.agg ds, p)) :
    cs.length = P.cellsOf t ∧ ∀ (i : Nat) (f : Field) (d : DataW H), fs.toList[i]? = some f → ds[i]? = some d → ∃ q f2, DataW.trod enc P w base spare held f2 f.type ((cs.drop f.offset).take (P.cellsOf f.type)) = some (d, q) := by
  cases fuel with
  | zero => simp [DataW.trod] at h
  | succ fuel =>
    unfold DataW.trod at h
    simp only [hu] at h
    split at h
    · rename_i hl
      refine ⟨hl, fun i f d hf hd => ?_⟩
      simp only [Option.map_eq_some_iff] at h
      obtain ⟨xs, hm, he⟩ := h
      simp only [Prod.mk.injEq, DataW.agg.injEq] at he
      obtain ⟨y, hy, hf2⟩ := (mapM_at hm).2 i f hf
      have : ds[i]? = some y.1 := by rw [← he.1, List.getElem?_map, hy]; rfl
      rw [this] at hd
      simp at hd; subst hd
      exact ⟨y.2, fuel, hf2⟩
    · simp at h
theorem trod_lit {t : TypeId} {k k' : IntKind} {z : Int} {fuel : Nat} {cs : List Value} {p : List MemPlace} (hu : P.underlying t = some (.int k)) (h : DataW.trod enc P w base spare held fuel t cs = some (.lit (.int k' z), p)) : cs = [.int k z] := by
  obtain ⟨n, hcs, hx, _⟩ := DataW.trod_int hu h
  simp at hx
  rw [hcs, hx.1.2]
end
theorem firstZ : Go.Pinned.utf8FirstZ = firstN := by kernel_rfl
/-- The sixteen pairs. -/
def pairsN : List (Nat × Nat) := [(128, 191), (160, 191), (128, 159), (144, 191), (128, 143)] ++ List.replicate 11 (0, 0)
theorem laid1 : (Rows.laid_unicode_utf8_acceptRanges : DataW Unit) = .agg (pairsN.map fun x => .agg [.lit (.int .u8 (x.1 : Nat)), .lit (.int .u8 (x.2 : Nat))]) := by rfl
theorem fieldsP : ∃ f0 f1 : Field, Tryd.prog.underlying 117 = some (.struct #[f0, f1]) ∧ f0.type = 5 ∧ f0.offset = 0 ∧ f1.type = 5 ∧ f1.offset = 1 := ⟨_, _, Tryd.underlying117, rfl, rfl, rfl, rfl⟩
theorem first_of {w : World} {fuel : Nat} {cs : List Value} {p : List MemPlace} (h : DataW.trod (fun _ => ()) Tryd.prog w 0 (fun _ => true) false fuel 115 cs = some (Rows.laid_unicode_utf8_first, p)) : ∀ i, i < firstT.length → cs[i]? = some (firstT.getD i undef) := by
  intro i hi
  have h' : DataW.trod (fun _ => ()) Tryd.prog w 0 (fun _ => true) false fuel 115 cs = some (.agg (Go.Pinned.numbers .u8 Go.Pinned.utf8FirstZ), p) := h
  rw [firstZ] at h'
  obtain ⟨hl, hat⟩ := trod_arr (n := 256) (e := 5) (by kernel_rfl) h'
  have hi' : i < firstN.length := by simpa [firstT] using hi
  have h256 : firstN.length = 256 := by kernel_rfl
  obtain ⟨q, f2, h2⟩ := hat i (.lit (.int .u8 (firstN[i] : Nat))) (by omega) (by simp [Go.Pinned.numbers, hi'])
  have hc5 : Tryd.prog.cellsOf 5 = 1 := by kernel_rfl
  have h3 := trod_lit (k := .u8) (by kernel_rfl) h2
  rw [hc5, Nat.mul_one] at h3
  have h4 : cs[i]? = some (.int .u8 (firstN[i] : Nat)) := by
    have := congrArg (fun l => l[0]?) h3
    simpa [List.getElem?_take, List.getElem?_drop] using this
  rw [h4]
  simp [firstT, List.getD_eq_getElem?_getD, hi']
theorem accept_pair : ∀ i, i < 16 → ∃ x : Nat × Nat, pairsN[i]? = some x ∧ acceptN[i * 2]? = some x.1 ∧ acceptN[i * 2 + 1]? = some x.2 := by decide
theorem accept_of {w : World} {fuel : Nat} {cs : List Value} {p : List MemPlace} (h : DataW.trod (fun _ => ()) Tryd.prog w 0 (fun _ => true) false fuel 118 cs = some (Rows.laid_unicode_utf8_acceptRanges, p)) : ∀ i, i < acceptT.length → cs[i]? = some (acceptT.getD i undef) := by
  rw [laid1] at h
  obtain ⟨hl, hat⟩ := trod_arr (n := 16) (e := 117) (by kernel_rfl) h
  obtain ⟨f0, f1, hu, t0, o0, t1, o1⟩ := fieldsP
  have hcP : Tryd.prog.cellsOf 117 = 2 := by kernel_rfl
  have hc5 : Tryd.prog.cellsOf 5 = 1 := by kernel_rfl
  have key : ∀ i, i < 16 → ∀ x : Nat × Nat, pairsN[i]? = some x → cs[i * 2]? = some (.int .u8 (x.1 : Nat)) ∧ cs[i * 2 + 1]? = some (.int .u8 (x.2 : Nat)) := by
    intro i hi x hx
    obtain ⟨q, f2, h2⟩ := hat i (.agg [.lit (.int .u8 (x.1 : Nat)), .lit (.int .u8 (x.2 : Nat))]) hi (by rw [List.getElem?_map, hx]; rfl)
    rw [hcP] at h2
    obtain ⟨_, hf⟩ := trod_str hu h2
    obtain ⟨q0, g0, e0⟩ := hf 0 f0 _ rfl rfl
    obtain ⟨q1, g1, e1⟩ := hf 1 f1 _ rfl rfl
    rw [t0] at e0
    rw [t1] at e1
    have k0 := trod_lit (k := .u8) (by kernel_rfl) e0
    have k1 := trod_lit (k := .u8) (by kernel_rfl) e1
    rw [o0, hc5] at k0
    rw [o1, hc5] at k1
    have j0 := congrArg (fun l => l[0]?) k0
    have j1 := congrArg (fun l => l[0]?) k1
    simp [List.getElem?_drop] at j0 j1
    exact ⟨j0, j1⟩
  intro i hi
  have h32 : acceptT.length = 32 := by kernel_rfl
  obtain ⟨x, hx, a0, a1⟩ := accept_pair (i / 2) (by omega)
  obtain ⟨c0, c1⟩ := key (i / 2) (by omega) x hx
  rcases Nat.mod_two_eq_zero_or_one i with hm | hm
  · have : i / 2 * 2 = i := by omega
    rw [this] at c0 a0
    rw [c0]
    simp [acceptT, List.getD_eq_getElem?_getD, a0]
  · have : i / 2 * 2 + 1 = i := by omega
    rw [this] at c1 a1
    rw [c1]
    simp [acceptT, List.getD_eq_getElem?_getD, a1]
theorem one_cells (l : List Nat) : ∀ u ∈ l.map (fun n => Value.int .u8 (n : Nat)), u.oneCell' = true := by
  intro u hu
  obtain ⟨n, _, rfl⟩ := List.mem_map.1 hu
  rfl
theorem var_heap {P : Go.Program} {w : World} {n : String} {g : Nat} {cs : Array Value} (hg : P.globalNamed n = some g) (h : w.var? P n = some cs) : immOf w g = some cs := by
  unfold World.var? at h
  rw [hg] at h
  simp only [Option.bind_some] at h
  unfold immOf
  split at h
  · rename_i arr t fz hh
    rw [hh]; simpa using h
  · simp at h
theorem tabs_of {w : World} (h : laidMetH Tryd.prog Rows.searchNoneRow.laid w) : Tabs (immOf w) [.tab 0 firstT, .tab 1 acceptT] := by
  rw [MakeChecks.laidMetH_plain _ _ _ (by kernel_rfl)] at h
  obtain ⟨ps, hv, _, _⟩ := h
  obtain ⟨g, t, cs, fuel, p, q, hg, ht, hc, htr, hv2, _⟩ := hv
  obtain ⟨g2, t2, cs2, fuel2, p2, q2, hg2, ht2, hc2, htr2, hv3, _⟩ := hv2
  obtain rfl : g = 1 := Option.some.inj (hg.symm.trans (by kernel_rfl))
  obtain rfl : g2 = 0 := Option.some.inj (hg2.symm.trans (by kernel_rfl))
  obtain rfl : t = 118 := Option.some.inj (ht.symm.trans (by kernel_rfl))
  obtain rfl : t2 = 115 := Option.some.inj (ht2.symm.trans (by kernel_rfl))
  have h1 := accept_of htr
  have h0 := first_of htr2
  have i1 := var_heap hg hc
  have i0 := var_heap hg2 hc2
  intro id o ho
  match id, ho with
  | 0, ho =>
    simp at ho; subst ho
    refine .inr ⟨_, rfl, rfl, one_cells _, cs2, i0, fun i hi => ?_⟩
    have := h0 i hi
    rw [Array.getElem?_toList] at this
    simpa using this
  | 1, ho =>
    simp at ho; subst ho
    refine .inr ⟨_, rfl, rfl, one_cells _, cs, i1, fun i hi => ?_⟩
    have := h1 i hi
    rw [Array.getElem?_toList] at this
    simpa using this
  | n + 2, ho => simp at ho
end Go.Proofs.YtoakdmkjlpjahaaDoor
