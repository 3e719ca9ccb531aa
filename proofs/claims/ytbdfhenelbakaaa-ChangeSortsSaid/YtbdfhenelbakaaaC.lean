import Derived.Test.YtbdfhenelbakaaaB
import Derived.Test.YtbdfhenelbakaaaLy
import Derived.Test.YtbdfhenelbakaaaMxSh
namespace Go.Proofs.Ytbdfhenelbakaaa
open Go.Mx
set_option linter.unusedVariables false
set_option linter.unusedSimpArgs false

open Go.RowKit Go.Lib Go.Sort
theorem cmpIs30 : CmpIs Try.prog 30 encE cmpE := CmpIs.of (fun x v hv => by simp [encE] at hv; rcases hv with rfl | rfl | rfl <;> rfl) (fun x y => sortcmp_sp x y [] _ rfl)
theorem cmpE_lt {x y : En} : Go.Proofs.ltOf cmpE x y = true ↔ aheadE x y = true := by
  unfold Go.Proofs.ltOf cmpE aheadE
  by_cases e : x.ty = y.ty
  · have := cmpStr_eq.2 e
    simp [e, cmpStr_eq.2 rfl]
    rw [cmpStr_lt]
  · have : cmpStr x.ty y.ty ≠ 0 := fun h => e (cmpStr_eq.1 h)
    simp [e, this]
    rw [cmpStr_lt]
theorem cmpE_eq : Go.Proofs.ltOf cmpE = aheadE := by funext x y; rw [Bool.eq_iff_iff]; exact cmpE_lt
theorem swoE : Go.Sort.SWO (Go.Proofs.ltOf cmpE) where
  irrefl x := by rw [cmpE_eq]; exact ahead_irrefl x
  trans x y z h1 h2 := by rw [cmpE_eq] at *; exact ahead_trans h1 h2
  ntrans x y z h1 h2 := by
    rw [cmpE_eq] at *
    rcases nahead.1 h1 with a | a
    · rw [(ahead_key a).1]; exact h2
    · rcases nahead.1 h2 with b | b
      · rw [← (ahead_key b).2]; exact h1
      · exact ahead_asym (ahead_trans b a)
theorem sort_eq {L l' : List En} (hL : Srt L) (hp : l'.Perm L) (hs : l'.Pairwise (fun x y => Go.Proofs.ltOf cmpE y x = false)) : l' = L := by
  have hn : l'.Nodup := hp.nodup_iff.2 hL.nodup
  refine Srt.eq ?_ hL (fun o => hp.mem_iff)
  rw [cmpE_eq] at hs
  refine ((List.nodup_iff_pairwise_ne.1 hn).and hs).imp_of_mem (fun {a b} ha hb hab => ?_)
  obtain ⟨hne, hlt⟩ := hab
  rcases nahead.1 hlt with h | h
  · exact absurd (hL.uniq (hp.mem_iff.1 ha) (hp.mem_iff.1 hb) h.symm) hne
  · exact h

instance : Inhabited En := ⟨⟨⟨#[]⟩, ⟨#[]⟩, ⟨#[]⟩⟩⟩
theorem enters30 : ∀ args w, (callFunc 30 args).run Try.prog w = .ok (.enter 30 args) w := enters_of Try.func30 (by kernel_rfl) rfl
/-- A test of entries that a closure makes. -/
def MayIs (H : Hp) (g : Nat) (cap : List AV) (L : List En) (q : En → Bool) : Prop := bodyOk Try.prog g = true ∧ ∀ e ∈ L, ∀ H2 Q, Same [] H H2 → Q (.v (.bool (q e))) H2 → Sp Try.prog g (keyV (keyE e) :: idV e :: cap) Q H2
def EnInv (H : Hp) (L : List En) (q : En → Bool) (g it m N : Nat) (cap : List AV) (n : Nat) (xs : List AV) (H5 : Hp) : Prop :=
  ∃ (O : List En) (v : AV), xs = [.fn (.func g) [] cap, v, .it it] ∧ IterAt Try.prog 47 H5 it m (fA L) N (O.map (fun s => keyV (keyE s))) ∧ (∀ s ∈ O, s ∈ L) ∧ NewK 3 H H5 (O.filter q).length ((O.filter q).flatMap enC) v ∧ Same [] H H5 ∧ n = N - O.length ∧ O.length ≤ N
set_option maxRecDepth 20000 in
set_option maxHeartbeats 1000000 in
theorem entries_sp (m : Nat) (L : List En) (q : En → Bool) (g : Nat) (cap : List AV) (H : Hp) (Q : AV → Hp → Prop) (hd : BdAt H m L) (hL : L.length ≤ 1000) (hmay : MayIs H g cap L q) (h : Q (rowE (L.filter q)) H) : Sp Try.prog 19 [.mp m, .fn (.func g) [] cap] Q H := by
  refine Sp.newK ?_
  refine Sp.body [(3, ⟨[1, 5, 9], [], []⟩)] ⟨[6], [], []⟩ [] mo Try.func19 rfl (Nat.le_of_ble_eq_true rfl) (by kernel_rfl) ?_
  obtain ⟨hok, hfew, g2⟩ := id hd
  obtain ⟨hgb, hmay⟩ := hmay
  simp [ev_seq, ev_region2, evOps_nil, evOps_cons, opG_none, opA_move, opA_assign, putO_some, putH_lt, opS, opV, Go.Mx.look, fr0, argSlots, seqK, rangeT_some, opA_range]
  refine g2.range Try.underlying41 (fun H4 N hit hs4 hl4 => ?_)
  generalize hitn : H.length = it at hit
  simp [ev_block, ev_loop, loopK, evOps_nil, putC_lt, opS, opV, Go.Mx.look, seqK, mapO, headK, getV, getB, chkP, firstReg]
  refine LoopC.intro (fun n xs _ H5 => EnInv H L q g it m N cap n xs H5) N ⟨[], _, rfl, hit, by simp, NewK.nil _ _ _, hs4, by simp, by simp⟩ ?_
  clear hit hs4 hl4 H4
  rintro n xs bx H5 ⟨O, v2, rfl, hit, hOL, hO, hs5, rfl, hON⟩
  have hOn : O.Nodup := by
    have := hit.nodup
    exact List.nodup_iff_pairwise_ne.2 ((List.pairwise_map.1 (List.nodup_iff_pairwise_ne.1 this)).imp (fun {a b} hab e => hab (by rw [e])))
  have hOl : O.length ≤ 1000 := Nat.le_trans (hOn.length_le_of_subset hOL) hL
  have hOf : (O.filter q).length ≤ 1000 := Nat.le_trans (List.length_filter_le _ _) hOl
  simp [ev_seq, ev_region2, evOps_cons, opG_none, opS, opV, Go.Mx.look, mkFr, slotsOf, ptrsOf, boxesOf, nextT_some, opA_next]
  refine hit.next (fun H6 key val hf hkg hnd hlt hit6 hent hs6 hl6 => ?_) (fun hall => ?_)
  · obtain ⟨s, hsL, rfl, rfl⟩ := fA_some hok.1 hf
    have hs7 : Same [] H H6 := hs5.trans hs6 (by simp; omega)
    have hO6 : NewK 3 H H6 (O.filter q).length ((O.filter q).flatMap enC) v2 := hO.same hs6 (fun id ver hv => by
      rcases hO with ⟨_, _, h2⟩ | ⟨_, _, id2, ver2, tl, h2, h3, _⟩
      · rw [h2] at hv; simp at hv
      · rw [h2] at hv; simp at hv
        obtain ⟨es, c, ds, h4, _⟩ := hit
        simp only [List.mem_singleton]
        rintro rfl
        rw [← hv.1, h3] at h4; simp at h4)
    have hKN : O.length < N := by simpa using hlt
    simp only [keyV, idV] at hent
    simp [ev_skip, ev_seq, ev_cond2, ev_block, ev_region2, evOps_nil, evOps_cons, opG_none, opA_move, opA_assign, opA_extract, opA_load, opA_call, opA_alloc, opA_store, putO_some, putH_lt, putC_lt, putU_none, condB_true, avO_some, extractT, loadT, allocT, storeT, opS, opV, Go.Mx.look, seqK, Fr.known, Fr.newBox, dropBp, mapO, callA, extractA, cellsA_agg, okPart_agg, partA, loadS, newK, storeS, opA_entry, entryT_some, sz47, ag47, ze47, hent, splice, keyV, idV]
    have hm := hmay s hsL H6 
    simp only [keyV, idV] at hm
    simp [hgb]
    refine hm _ hs7 ?_
    cases hq : q s with
    | false =>
      simp [ev_skip, ev_cond2, evOps_nil, putC_lt, condB_false, opS, opV, Go.Mx.look, seqK, blockK, Fr.known, mapO, headK, getV, getB, chkP]
      exact ⟨N - (O.length + 1), by omega, O ++ [s], v2, rfl, by simpa using hit6, by simpa [or_imp, forall_and] using ⟨hOL, hsL⟩, by simpa [hq] using hO6, hs7, by simp, by simp; omega⟩
    | true =>
      simp [ev_cond2, ev_region2, evOps_nil, evOps_cons, opG_none, opA_move, opA_load, opA_fieldAddr, opA_buildSlice, opA_append, opA_build, putO_some, putH_lt, putC_lt, condB_true, loadT, fieldAddrT, buildSliceT, appendT, repeatL_1, buildZ, partsZ, fillO, aggO, opS, opV, Go.Mx.look, seqK, Fr.known, mapO, cellsA_v, cellsA_agg, okPart_v, okPart_agg, Value.oneCell', partA, loadS, plusS, fillA, bindO, srcTy, sz9, ag9, st22, Try.underlying22, sz32, by32, ze32, of32, Try.underlying47]
      refine hO6.app (by simp) hs7.1 (by omega) (fun v3 H7 fp hO7 hs8 hfp => ?_)
      have hnot : ∀ j o, H6[j]? = some o → (∀ ver cs, o ≠ .cells ver cs) → j ∉ fp := fun j o hj hno hm => by
        obtain ⟨_, ver, ds, h1⟩ := hfp j hm
        rw [h1] at hj; simp at hj
        exact hno ver ds hj.symm
      have hit7 : IterAt Try.prog 47 H7 it m (fA L) N (O.map (fun s => keyV (keyE s)) ++ [keyV (keyE s)]) := by
        refine hit6.same hs8 ?_ ?_
        · obtain ⟨es, c, ds, h4, _⟩ := hit6; exact hnot _ _ h4 (by simp)
        · obtain ⟨es, c, ds, _, h4, _⟩ := hit6; exact hnot _ _ h4 (by simp)
      simp [evOps_nil, evOps_cons, opG_none, opA_assign, putO_some, putH_lt, putC_lt, opS, opV, Go.Mx.look, seqK, blockK, mapO, headK, getV, getB, chkP]
      exact ⟨N - (O.length + 1), by omega, O ++ [s], v3, rfl, by simpa using hit7, by simpa [or_imp, forall_and] using ⟨hOL, hsL⟩, by simpa [enC, hq, keyE] using hO7, hs7.new hs8 (fun j hj => (hfp j hj).1), by simp, by simp; omega⟩
  · have hperm : O.Perm L := by
      refine (List.perm_ext_iff_of_nodup hOn hok.1.nodup).2 (fun s => ⟨hOL s, fun hs => ?_⟩)
      have := hall (keyV (keyE s)) (idV s) (by rw [fA_key, (fK_iff hok.1).2 ⟨hs, rfl⟩]; rfl)
      obtain ⟨t, ht, e⟩ := List.mem_map.1 this
      have e2 := hok.1.uniq (hOL t ht) hs (keyV_inj e)
      rw [← e2]; exact ht
    have hpf : (O.filter q).Perm (L.filter q) := hperm.filter q
    have hsf : Srt (L.filter q) := (hok.filter q).1
    generalize O.filter q = O at hO hpf hOf
    generalize L.filter q = L at h hpf hsf
    simp [ev_seq, ev_cond2, ev_exit, ev_region2, evOps_nil, evOps_cons, opG_none, opA_move, opA_extract, opA_call, putO_some, putH_lt, putC_lt, condB_false, extractT, opS, opV, Go.Mx.look, seqK, blockK, Fr.known, mapO, callA, extractA]
    rcases hO with ⟨h1, h2, rfl⟩ | ⟨h0, h1, id, ver, tl, rfl, h3, h4⟩
    · have hO0 : O = [] := by simpa using h1
      subst hO0
      have hL0 : L = [] := hpf.symm.eq_nil
      subst hL0
      refine Sp.sortFuncNil laySortF ?_
      simp [ev_seq, ev_ret, ev_region2, evOps_nil, evOps_cons, opG_none, opA_move, opA_assign, putO_some, putH_lt, putC_lt, opS, opV, Go.Mx.look, seqK, retK, retA, resA, mapO]
      exact ⟨hs5, 3, 0, [], NewK.nil _ _ _, by simp, by simpa [rowE] using h⟩
    · refine Sp.sortFunc (k := 3) (enc := encE) (cf := cmpE) (l := O) laySortF Try.isAgg32 Try.sizeOf32 (fun _ => rfl) (fun x v hv => by simp [encE] at hv; rcases hv with rfl | rfl | rfl <;> rfl) swoE enters30 cmpIs30 h3 (by simp [h1]) ?_ (by omega) (fun l' hp hpw => ?_)
      · rw [List.drop_zero, ← h1]
        simp
        rfl
      · have hl' : l' = L := sort_eq hsf (hp.trans hpf) hpw
        subst hl'
        have hlen : l'.length = O.length := hp.length_eq
        have hcl : (l'.flatMap (cellsOfK encE)).length = O.length * 3 := by
          show (l'.flatMap enC).length = _
          rw [flat_len enC_len, hlen]
        simp [ev_seq, ev_ret, ev_region2, evOps_nil, evOps_cons, opG_none, opA_move, opA_assign, putO_some, putH_lt, putC_lt, opS, opV, Go.Mx.look, seqK, retK, retA, resA, mapO]
        refine ⟨hs5.new (Same.set (fp := [id]) (by simp)) (by simpa using h4), 3, O.length, l'.flatMap enC, .inr ⟨h0, hcl, id, ver, tl, rfl, ?_, h4⟩, low_ens _, by rw [← hlen]; exact h⟩
        rw [List.getElem?_set_self (Hp.lt h3)]
        have hs : splice (O.flatMap enC ++ tl) 0 (l'.flatMap (cellsOfK encE)) = l'.flatMap enC ++ tl := by
          unfold splice
          rw [hcl, List.take_zero, List.nil_append, Nat.zero_add]
          have : (O.flatMap enC ++ tl).drop (O.length * 3) = tl := by rw [← h1]; simp
          rw [this]; rfl
        rw [hs]
theorem all_sp (a b : AV) (H : Hp) (Q : AV → Hp → Prop) (ha : cellsA a = [a] ∨ True) (h : Q (.v (.bool true)) H) (k : Ky) (hk : a = keyV k) : Sp Try.prog 20 [a, b] Q H := by
  subst hk
  refine Sp.body [] ⟨[2], [], []⟩ [] mo Try.func20 rfl (Nat.le_of_ble_eq_true rfl) (by kernel_rfl) ?_
  simp [ev_seq, ev_ret, ev_region2, evOps_nil, evOps_cons, opG_none, opA_assign, opA_box, putO_some, putH_lt, boxT, opS, opV, Go.Mx.look, fr0, argSlots, seqK, Fr.newBox, dropBp, retK, retA, resA, mapO, cellsA_agg, okPart_agg, newK, keyV]
  exact h
theorem may_all (H : Hp) (L : List En) : MayIs H 20 [] L (fun _ => true) := ⟨ok20, fun e _ H2 Q _ hq => all_sp _ _ H2 Q (.inr trivial) hq _ rfl⟩
theorem sortE_len (l : List En) : (sortE l).length ≤ l.length := by
  have : ∀ (l L : List En), (l.foldl putE L).length ≤ L.length + l.length := by
    intro l
    induction l with
    | nil => intro L; simp
    | cons s r ih =>
      intro L
      have h1 := ih (putE L s)
      have h2 : (putE L s).length ≤ L.length + 1 := by
        unfold putE; split
        · exact Nat.le_trans (List.length_filter_le _ _) (by omega)
        · exact ins_len _ _ _
      simp only [List.foldl_cons, List.length_cons]
      omega
  simpa [sortE] using this l []
theorem few_sort {l : List En} (h : Few1 l) : Few1 (sortE l) := by
  refine ⟨Nat.le_trans (sortE_len l) h.1, ?_⟩
  have : ∀ (l L : List En), (∀ e ∈ L, FewE e) → (∀ e ∈ l, FewE e) → ∀ e ∈ l.foldl putE L, FewE e := by
    intro l
    induction l with
    | nil => intro L hL _; exact hL
    | cons s r ih => intro L hL hl; exact ih _ (few_put hL (hl s (by simp))) (fun e he => hl e (by simp [he]))
  exact this l [] (by simp) h.2
theorem sort_sp (l : List En) (H : Hp) (Q : AV → Hp → Prop) (hl : Few1 l) (h : Q (rowE (sortE l)) H) : Sp Try.prog 10 [rowE l] Q H := by
  refine Sp.clean ?_
  refine Sp.body [] ⟨[], [], []⟩ [] mo Try.func10 rfl (Nat.le_of_ble_eq_true rfl) (by kernel_rfl) ?_
  simp [ev_seq, ev_region2, evOps_nil, evOps_cons, opG_none, opA_move, opA_assign, opA_call, putO_some, putH_lt, opS, opV, Go.Mx.look, fr0, argSlots, seqK, mapO, callA, ok18]
  refine of_sp l H _ hl (fun H2 m hd hs hm => ?_)
  simp [evOps_cons, opG_none, opA_call, putC_lt, opS, opV, Go.Mx.look, mapO, callA, ok19]
  have := (few_sort hl).1
  refine entries_sp m _ _ 20 [] H2 _ hd (by omega) (may_all _ _) ?_
  have e : (sortE l).filter (fun _ => true) = sortE l := by simp
  rw [e]
  simp [ev_ret, evOps_nil, evOps_cons, opG_none, opA_assign, putO_some, putH_lt, putC_lt, opS, opV, Go.Mx.look, seqK, retK, retA, resA, mapO, rowE]
  exact ⟨hs.grown, fun c x hx hc => low_ens _ c (List.mem_flatMap.2 ⟨x, hx, hc⟩), h⟩
def RsInv (l : List En) (H : Hp) (n : Nat) (xs : List AV) (H2 : Hp) : Prop :=
  ∃ (i : Nat) (v : AV), i ≤ l.length ∧ n = l.length - i ∧ xs = [rowE l, v, .v (.int .i64 i)] ∧ Wk v (rowE ((l.take i).foldl putE [])) ∧ (v = rowE ((l.take i).foldl putE []) ∨ i = 0) ∧ H2 = H
set_option maxRecDepth 20000 in
theorem rsort_sp (l : List En) (H : Hp) (Q : AV → Hp → Prop) (hl : l.length ≤ 300) (h : Q (rowE (sortE l)) H) : Sp Try.prog 11 [rowE l] Q H := by
  refine Sp.weak ?_
  refine Sp.body [(3, ⟨[0, 3, 4], [], []⟩)] ⟨[], [], []⟩ [] mo Try.func11 rfl (Nat.le_of_ble_eq_true rfl) (by kernel_rfl) ?_
  simp [ev_seq, ev_block, ev_region2, ev_loop, loopK, evOps_nil, evOps_cons, opG_none, opA_assign, putO_some, putH_lt, opS, opV, Go.Mx.look, fr0, argSlots, seqK, mapO, headK, getV, getB, chkP, firstReg]
  refine LoopC.intro (fun n xs _ H2 => RsInv l H n xs H2) l.length ⟨0, _, by omega, by omega, by simp [rowE], Wk.nil _, .inr rfl, rfl⟩ ?_
  rintro n xs bs H2 ⟨i, v, hi, rfl, rfl, hv, hv2, rfl⟩
  simp [ev_skip, ev_seq, ev_cond2, ev_block, ev_exit, ev_ret, ev_region2, evOps_nil, evOps_cons, opG_none, opA_move, opA_assign, opA_bin, opA_indexAddr, opA_len, putO_some, putH_lt, binT_some, binA, avO_some, lenT_row, indexAddrT, io_lss, opS, opV, Go.Mx.look, seqK, blockK, Fr.known, retK, retA, resA, mapO, indexAddrA, mkFr, slotsOf, ptrsOf, boxesOf, orO_some, eqT_some, tk3, Try.underlying22, sz32, rowE]
  refine ⟨fun hlt => ?_, fun hge => ?_⟩
  · have hx := List.getElem?_eq_getElem hlt
    generalize l[i] = e at hx
    have hsl := flat_sub enC_len l i hx
    have hle : i * 3 + 3 ≤ (List.map (fun a : En => 3) l).sum := flat_le2 enC_len hx
    have w1 : IntKind.i64.wrap ((i : Int) + 1) = (i : Int) + 1 := wr_i64 (by omega)
    have htk : l.take (i + 1) = l.take i ++ [e] := by rw [List.take_add_one, hx]; rfl
    have hfold : (l.take (i + 1)).foldl putE [] = putE ((l.take i).foldl putE []) e := by rw [htk, List.foldl_append]; rfl
    have hlen : ((l.take i).foldl putE []).length ≤ 1000 := by
      have := sortE_len (l.take i)
      rw [List.length_take] at this
      unfold sortE at this; omega
    simp [evOps_cons, opG_none, opA_load, opA_call, putO_some, putH_lt, loadT, opS, opV, Go.Mx.look, mapO, callA, partA, loadA, loadS, sz32, ag32, ok21, hlt, hsl, hle, enC]
    refine Sp.argW (args' := [rowE ((l.take i).foldl putE []), .agg (enC e)]) ⟨hv, Wk.refl _, trivial⟩ ?_
    refine rput_sp _ e H2 _ hlen ?_
    rw [← hfold]
    simp [ev_region2, evOps_nil, evOps_cons, opG_none, opA_move, opA_assign, opA_bin, putO_some, putH_lt, putC_lt, binT_some, binA, avO_some, io_add, opS, opV, Go.Mx.look, seqK, blockK, mapO, headK, getV, getB, chkP, orO_some, eqT_some, tk3, w1, rowE]
    exact ⟨l.length - (i + 1), by omega, i + 1, _, by omega, rfl, by simp [rowE], Wk.refl _, .inl rfl, rfl⟩
  · have : i = l.length := by omega
    subst this
    rw [List.take_length] at hv
    exact ⟨_, hv, h⟩
end Go.Proofs.Ytbdfhenelbakaaa
