import Derived.Test.YtpmhhbdfompbhaaP1
namespace Go.Proofs.Ytpmhhbdfompbhaa
open Go.Mx Go.Dag
set_option linter.unusedVariables false
set_option linter.unusedSimpArgs false

/-- A graph at an address, its own objects. -/
def GrA (H : Hp) (g : Nat) (L : List Th) (fp : List Nat) : Prop :=
  ∃ tv m, H[g]? = some (.cells 0 [tv, .mp m]) ∧ MapAt Try.prog 9 H m (fK L) ∧ ((L = [] ∧ tv = .v (.slice none 0 0) ∧ fp = [g, m]) ∨ ∃ t ver, tv = .sl t ver 3 0 L.length ∧ H[t]? = some (.cells ver (L.flatMap thC)) ∧ L ≠ [] ∧ t ≠ g ∧ fp = [g, m, t])
theorem GrA.val {H : Hp} {g : Nat} {L : List Th} {fp : List Nat} (h : GrA H g L fp) : GrV H (.ptr g 0 0) L := by
  obtain ⟨tv, m, h1, h2, h3⟩ := h
  refine .inr ⟨g, tv, .mp m, rfl, h1, ?_, .inr ⟨m, rfl, h2⟩⟩
  rcases h3 with ⟨h3, h4, _⟩ | ⟨t, ver, h3, h4, h5, _⟩
  · exact .inl ⟨h3, h4⟩
  · exact .inr ⟨t, ver, h3, h4, h5⟩
theorem GrA.same {H H' : Hp} {g : Nat} {L : List Th} {fp fp' : List Nat} (h : GrA H g L fp) (hs : Same fp' H H') (hf : ∀ j ∈ fp, j ∉ fp') : GrA H' g L fp := by
  obtain ⟨tv, m, h1, h2, h3⟩ := h
  rcases h3 with ⟨h3, h4, rfl⟩ | ⟨t, ver, h3, h4, h5, h6, rfl⟩
  · exact ⟨tv, m, hs.2 _ _ h1 (hf _ (by simp)), h2.same hs (hf _ (by simp)), .inl ⟨h3, h4, rfl⟩⟩
  · exact ⟨tv, m, hs.2 _ _ h1 (hf _ (by simp)), h2.same hs (hf _ (by simp)), .inr ⟨t, ver, h3, hs.2 _ _ h4 (hf _ (by simp)), h5, h6, rfl⟩⟩
theorem GrA.lt {H : Hp} {g : Nat} {L : List Th} {fp : List Nat} (h : GrA H g L fp) : ∀ j ∈ fp, j < H.length := by
  obtain ⟨tv, m, h1, h2, h3⟩ := h
  rcases h3 with ⟨h3, h4, rfl⟩ | ⟨t, ver, h3, h4, h5, h6, rfl⟩
  · intro j hj; simp at hj
    rcases hj with rfl | rfl
    · exact Hp.lt h1
    · exact h2.lt
  · intro j hj; simp at hj
    rcases hj with rfl | rfl | rfl
    · exact Hp.lt h1
    · exact h2.lt
    · exact Hp.lt h4
open Classical in
theorem fK_add {L : List Th} {t : Th} (h : placeN L t.name = none) : (fun x => if x = strV t.name then some (intV L.length) else fK L x) = fK (L ++ [t]) := by
  funext x
  by_cases hx : x = strV t.name
  · rw [if_pos hx, hx]
    simp only [fK, strV, placeN_app, h]
    simp
  · rw [if_neg hx]
    unfold fK
    split
    · rename_i s
      have hs : ¬ t.name = s := fun e => hx (by rw [e]; rfl)
      rw [placeN_app, if_neg hs]
      cases placeN L s <;> rfl
    · rfl

theorem new_sp (H : Hp) (Q : AV → Hp → Prop) (h : ∀ H', GrA H' (H.length + 1) [] [H.length + 1, H.length] → Same [] H H' → H'.length = H.length + 2 → Q (.ptr (H.length + 1) 0 0) H') : Sp Try.prog 22 [] Q H := by
  refine Sp.body [] ⟨[], [], []⟩ [] mo Try.func22 rfl (Nat.le_of_ble_eq_true rfl) (by kernel_rfl) ?_
  simp [ev_seq, ev_ret, ev_region2, evOps_nil, evOps_cons, opG_none, opA_assign, opA_box, opA_makeMap, opA_build, putO_some, putH_lt, boxT, makeMapT, buildZ, partsZ, fillO, aggO, opS, opV, Go.Mx.look, fr0, argSlots, seqK, retK, retA, resA, mapO, cellsA_agg, cellsA_mp, okPart_agg, okPart_mp, fillA, newK, Try.underlying60, ze62, of62]
  refine h _ ⟨_, H.length, ?_, ?_, .inl ⟨rfl, rfl, rfl⟩⟩ ?_ (by simp)
  · rw [List.getElem?_append_right (by omega)]; simp
  · have e : fK [] = fun _ => none := by funext x; unfold fK; split <;> rfl
    rw [e]
    have := (MapAt.new Try.prog 9 H).same (Same.app [] _ [Ob.cells 0 [AV.v (Value.slice none 0 0), AV.mp H.length]]) (by simp)
    simpa using this
  · have := Same.app [] H [Ob.map [] 0, Ob.cells 0 [AV.v (Value.slice none 0 0), AV.mp H.length]]
    simpa using this

set_option maxHeartbeats 4000000 in
theorem add_sp (g : Nat) (L : List Th) (fp : List Nat) (nm : ByteArray) (pr au : List ByteArray) (H : Hp) (Q : AV → Hp → Prop) (hg : GrA H g L fp) (hL : L.length ≤ 100000) (hp : pr.length ≤ 100000) (ha : au.length ≤ 100000)
    (h : ∀ H' fp', GrA H' g (addT L nm pr au).2 fp' → Same fp H H' → (∀ j ∈ fp', j ∈ fp ∨ H.length ≤ j) → Q (.v (.int .i64 (addT L nm pr au).1)) H') : Sp Try.prog 23 [.ptr g 0 0, strV nm, rowS pr, rowS au] Q H := by
  refine Sp.body [] ⟨[], [], pl23⟩ tb23 mo Try.func23 rfl (Nat.le_of_ble_eq_true rfl) (by kernel_rfl) ?_
  obtain ⟨tv, m, h2, hm, h3⟩ := id hg
  have hl := look_str (.inr ⟨m, rfl, hm⟩) nm
  simp only [strV] at hl
  have same0 : ∀ n, addT L nm pr au = (n, L) → Q (.v (.int .i64 n)) H := fun n e => by
    have := h H fp (by rw [e]; exact hg) (Same.refl _ _) (fun j hj => .inl hj)
    rw [e] at this; exact this
  by_cases hnm : nm = ⟨#[]⟩
  · have := same0 1 (by unfold addT; rw [if_pos hnm])
    subst hnm
    simp [ev_seq, ev_cond2, ev_ret, ev_region2, evOps_nil, evOps_cons, opG_none, opG_some, opJ, opU_ff, isU_bool, opK_eq, opA_move, opA_assign, opA_pick, opA_bin, opA_load, opA_fieldAddr, opA_nilCheck, putO_some, putH_lt, condB_true, condB_false, binT_some, binA, eqRef, avO_some, pickT, loadT, nilCheckT, fieldAddrT, strOp, opS, opV, Go.Mx.look, fr0, argSlots, seqK, Fr.known, retK, retA, resA, mapO, partA, loadA, loadS, plusS, nilCheckS, orO_some, eqT_some, tk9, tk25, sz60, ag60, tk60, Try.underlying62, pl23, strV, h2]
    exact this
  · have hnm2 : ¬ nm.toList = (⟨#[]⟩ : ByteArray).toList := by rw [bl_inj]; exact hnm
    have hnm3 : ¬ nm.toList = [] := fun e => hnm2 (by rw [e, ByteArray.toList_eq])
    cases hpn : placeN L nm with
    | some i =>
      have := same0 4 (by unfold addT; rw [if_neg hnm, hpn]; rfl)
      rw [hpn] at hl
      simp [ev_skip, ev_seq, ev_cond2, ev_ret, ev_region2, evOps_nil, evOps_cons, opG_none, opG_some, opJ, opU_ff, isU_bool, opK_eq, opA_move, opA_assign, opA_pick, opA_bin, opA_extract, opA_load, opA_fieldAddr, opA_nilCheck, putO_some, putH_lt, condB_true, condB_false, CondP_false, binT_some, binA, eqRef, avO_some, pickT, extractT, loadT, nilCheckT, fieldAddrT, strOp, opS, opV, Go.Mx.look, fr0, argSlots, seqK, Fr.known, retK, retA, resA, mapO, extractA, partA, loadA, loadS, plusS, nilCheckS, orO_some, eqT_some, lookT_some, opA_lookup, tk9, tk25, sz60, ag60, tk60, Try.underlying62, pl23, strV, h2, hnm3, hl, placeV]
      exact this
    | none =>
      rw [hpn] at hl
      simp [ev_skip, ev_seq, ev_cond2, ev_region2, evOps_nil, evOps_cons, opG_none, opG_some, opJ, opU_ff, isU_bool, opK_eq, opA_move, opA_assign, opA_pick, opA_bin, opA_extract, opA_load, opA_fieldAddr, opA_nilCheck, opA_call, putO_some, putH_lt, condB_false, CondP_false, binT_some, binA, eqRef, avO_some, pickT, extractT, loadT, nilCheckT, fieldAddrT, strOp, opS, opV, Go.Mx.look, fr0, argSlots, seqK, Fr.known, mapO, callA, extractA, partA, loadA, loadS, plusS, nilCheckS, orO_some, eqT_some, lookT_some, opA_lookup, tk9, tk25, sz60, ag60, tk60, Try.underlying62, ok38, pl23, strV, h2, hnm3, hl, placeV]
      refine find_sp g tv m L pr H _ h2 hm (by omega) (fun hf1 => ?_) (fun hf1 => ?_)
      · simp [ev_seq, ev_region2, evOps_nil, evOps_cons, opG_none, opA_move, opA_assign, opA_extract, opA_call, putO_some, putH_lt, putC_lt, extractT, opS, opV, Go.Mx.look, seqK, mapO, callA, extractA, ok38]
        refine find_sp g tv m L au H _ h2 hm (by omega) (fun hf2 => ?_) (fun hf2 => ?_)
        · have had : addT L nm pr au = (0, L ++ [⟨nm, places L pr, places L au⟩]) := by
            unfold addT; rw [if_neg hnm, if_neg (by rw [hpn]; simp), if_pos ⟨hf1, hf2⟩]
          rw [had] at h
          have hlen : ∀ H' e, lenT H' (some (.slice e)) (some tv) = some (.av (.v (.int .i64 L.length))) := by
            rcases h3 with ⟨rfl, rfl, _⟩ | ⟨t, ver, rfl, _⟩
            · intro _ _; rfl
            · intro _ _; exact lenT_sl _ _ _ _ _ _
          have hgm : g ≠ m := by
            rintro rfl
            obtain ⟨es, c, h5, _⟩ := hm
            rw [h2] at h5; simp at h5
          simp [ev_skip, ev_seq, ev_cond2, ev_region2, evOps_nil, evOps_cons, opG_none, opG_some, opJ, opU_ff, isU_bool, opK_eq, opA_move, opA_assign, opA_pick, opA_un, opA_extract, opA_load, opA_fieldAddr, opA_nilCheck, opA_len, putO_some, putH_lt, putC_lt, condB_false, pickT, unT, extractT, loadT, nilCheckT, fieldAddrT, opS, opV, Go.Mx.look, seqK, Fr.known, unA, extractA, partA, loadA, loadS, plusS, nilCheckS, updT_some, opA_upd, ev_draw, drawK, evP_q, evP_s, opAt_some, sz59, ag59, Try.underlying59, sz60, ag60, Try.underlying62, h2, hlen]
          refine hm.upd Try.underlying60 (KGood.str Try.underlying9 _) (fun H1 hm1 hs1 hl1 => ?_)
          have h21 := hs1.2 _ _ h2 (by simpa using hgm)
          have hm2 : MapAt Try.prog 9 H1 m (fK (L ++ [⟨nm, places L pr, places L au⟩])) := by
            rw [← fK_add (t := ⟨nm, places L pr, places L au⟩) hpn]; exact hm1
          have hglt := Hp.lt h21
          rcases h3 with ⟨rfl, rfl, rfl⟩ | ⟨t, ver, rfl, h4, h5, h6, rfl⟩
          · have hG : ∀ c, (H1 ++ [c])[g]? = some (Ob.cells 0 [AV.v (.slice none 0 0), AV.mp m]) := fun c => by rw [List.getElem?_append_left hglt]; exact h21
            simp [ev_seq, ev_ret, ev_region2, evOps_nil, evOps_cons, opG_none, opA_move, opA_assign, opA_load, opA_fieldAddr, opA_nilCheck, opA_store, opA_buildSlice, opA_append, opA_build, putO_some, putH_lt, putC_lt, putU_none, loadT, nilCheckT, fieldAddrT, storeT, buildSliceT, appendT, repeatL_1, buildZ, partsZ, fillO, aggO, opS, opV, Go.Mx.look, seqK, retK, retA, resA, mapO, cellsA_v, cellsA_agg, cellsA_sl, okPart_v, okPart_agg, okPart_sl, Value.oneCell', partA, loadA, loadS, plusS, nilCheckS, fillA, storeS, bindO, appA, srcA, srcTy, evP_nil, chkK_eq, allQ_nil, sz59, ag59, st59, Try.underlying59, Try.underlying62, sz69, by69, ze69, of69, h21, okPart_rowI, cellsA_rowI, splice, hG]
            have hs2 : Same [] H1 (H1 ++ [Ob.cells 0 (thC ⟨nm, places [] pr, places [] au⟩)]) := Same.app _ _ _
            have hs3 : Same [g] (H1 ++ [Ob.cells 0 (thC ⟨nm, places [] pr, places [] au⟩)]) ((H1 ++ [Ob.cells 0 (thC ⟨nm, places [] pr, places [] au⟩)]).set g (.cells 0 [.sl H1.length 0 3 0 1, .mp m])) := Same.set (by simp)
            refine h _ [g, m, H1.length] ⟨.sl H1.length 0 3 0 1, m, ?_, (hm2.same hs2 (by simp)).same hs3 (by simpa using Ne.symm hgm), .inr ⟨H1.length, 0, rfl, ?_, by simp, by omega, rfl⟩⟩ ?_ ?_
            · rw [List.getElem?_set_self (by simp; omega)]
            · exact hs3.2 _ _ (by simp) (by simp; omega)
            · exact ((hs1.wide (fp' := [g, m]) (by simp)).trans hs2 (by simp)).trans hs3 (by simp)
            · intro j hj; simp at hj
              rcases hj with rfl | rfl | rfl
              · exact .inl (by simp)
              · exact .inl (by simp)
              · exact .inr (by omega)
          · have htm : t ≠ m := by
              rintro rfl
              obtain ⟨es, c, h7, _⟩ := hm
              rw [h4] at h7; simp at h7
            have h41 := hs1.2 _ _ h4 (by simpa using htm)
            have hG : ∀ o, (H1.set t o)[g]? = some (Ob.cells 0 [AV.sl t ver 3 0 L.length, AV.mp m]) := fun o => by rw [List.getElem?_set_ne h6]; exact h21
            have hsum : (List.map (fun a => (thC a).length) L).sum = L.length * 3 := by rw [← List.length_flatMap]; exact flat_len thC_len L
            have htake : List.take (L.length * 3) (List.flatMap thC L) = List.flatMap thC L := List.take_of_length_le (by rw [flat_len thC_len]; omega)
            simp [ev_seq, ev_ret, ev_region2, evOps_nil, evOps_cons, opG_none, opA_move, opA_assign, opA_load, opA_fieldAddr, opA_nilCheck, opA_store, opA_buildSlice, opA_append, opA_build, putO_some, putH_lt, putC_lt, putU_none, loadT, nilCheckT, fieldAddrT, storeT, buildSliceT, appendT, repeatL_1, buildZ, partsZ, fillO, aggO, opS, opV, Go.Mx.look, seqK, retK, retA, resA, mapO, cellsA_v, cellsA_agg, cellsA_sl, okPart_v, okPart_agg, okPart_sl, Value.oneCell', partA, loadA, loadS, plusS, nilCheckS, fillA, storeS, bindO, appA, srcA, srcTy, evP_nil, chkK_eq, allQ_nil, sz59, ag59, st59, Try.underlying59, Try.underlying62, sz69, by69, ze69, of69, h21, h41, okPart_rowI, cellsA_rowI, splice, hG, hsum, htake]
            have hfl : (L ++ [Th.mk nm (places L pr) (places L au)]).flatMap thC = List.flatMap thC L ++ [AV.v (.string nm), rowI (places L pr), rowI (places L au)] := by simp [thC, strV]
            have hs2 : Same [t] H1 (H1.set t (Ob.cells (ver + 1) (List.flatMap thC L ++ [AV.v (.string nm), rowI (places L pr), rowI (places L au)]))) := Same.set (by simp)
            have hs3 : Same [g] (H1.set t (Ob.cells (ver + 1) (List.flatMap thC L ++ [AV.v (.string nm), rowI (places L pr), rowI (places L au)]))) ((H1.set t (Ob.cells (ver + 1) (List.flatMap thC L ++ [AV.v (.string nm), rowI (places L pr), rowI (places L au)]))).set g (.cells 0 [.sl t (ver + 1) 3 0 (L.length + 1), .mp m])) := Same.set (by simp)
            refine ⟨⟨by omega, by omega⟩, h _ [g, m, t] ⟨.sl t (ver + 1) 3 0 (L.length + 1), m, ?_, (hm2.same hs2 (by simpa using Ne.symm htm)).same hs3 (by simpa using Ne.symm hgm), .inr ⟨t, ver + 1, by simp, ?_, by simp, h6, rfl⟩⟩ ?_ ?_⟩
            · rw [List.getElem?_set_self (by simpa using hglt)]
            · rw [hfl]
              refine hs3.2 _ _ ?_ (by simpa using h6)
              rw [List.getElem?_set_self (Hp.lt h41)]
            · exact ((hs1.wide (fp' := [g, m, t]) (by simp)).trans hs2 (by simp)).trans hs3 (by simp)
            · intro j hj; exact .inl hj
        · have := same0 80 (by unfold addT; rw [if_neg hnm, if_neg (by rw [hpn]; simp), if_neg (by rw [hf2]; simp)])
          simp [ev_seq, ev_cond2, ev_ret, ev_region2, evOps_nil, evOps_cons, opG_none, opG_some, opJ, opU_ff, isU_bool, opK_eq, opA_move, opA_assign, opA_pick, opA_un, opA_extract, putO_some, putH_lt, putC_lt, condB_true, condB_false, pickT, unT, extractT, opS, opV, Go.Mx.look, seqK, Fr.known, retK, retA, resA, mapO, unA, extractA]
          exact this
      · have := same0 80 (by unfold addT; rw [if_neg hnm, if_neg (by rw [hpn]; simp), if_neg (by rw [hf1]; simp)])
        simp [ev_seq, ev_region2, evOps_nil, evOps_cons, opG_none, opA_move, opA_assign, opA_extract, opA_call, putO_some, putH_lt, putC_lt, extractT, opS, opV, Go.Mx.look, seqK, mapO, callA, extractA, ok38]
        refine find_sp g tv m L au H _ h2 hm (by omega) (fun hf2 => ?_) (fun hf2 => ?_) <;> (simp [ev_seq, ev_cond2, ev_ret, ev_region2, evOps_nil, evOps_cons, opG_none, opG_some, opJ, opU_ff, isU_bool, opA_move, opA_assign, opA_pick, opA_un, opA_extract, putO_some, putH_lt, putC_lt, putV_lt, condB_true, pickT, unT, extractT, opS, opV, Go.Mx.look, seqK, Fr.known, retK, retA, resA, mapO, unA, extractA]; exact this)
end Go.Proofs.Ytpmhhbdfompbhaa

namespace Go.Proofs.Ytpmhhbdfompbhaa
open Go.Mx Go.Dag
set_option linter.unusedVariables false
set_option linter.unusedSimpArgs false

set_option maxHeartbeats 4000000 in
theorem radd_sp (a : Nat) (L : List Th) (fp : List Nat) (nm : ByteArray) (pr au : List ByteArray) (H : Hp) (Q : AV → Hp → Prop) (hr : RfAt H a L fp) (hL : L.length ≤ 100000) (hp : pr.length ≤ 100000) (ha : au.length ≤ 100000)
    (h : ∀ H' fp', RfAt H' a (addT L nm pr au).2 fp' → Same fp H H' → (∀ j ∈ fp', j ∈ fp ∨ H.length ≤ j) → Q (.v (.int .i64 (addT L nm pr au).1)) H') : Sp Try.prog 32 [.ptr a 0 0, strV nm, rowS pr, rowS au] Q H := by
  refine Sp.body [] ⟨[], [], []⟩ [] mo Try.func32 rfl (Nat.le_of_ble_eq_true rfl) (by kernel_rfl) ?_
  have same0 : ∀ n, addT L nm pr au = (n, L) → Q (.v (.int .i64 n)) H := fun n e => by
    have := h H fp (by rw [e]; exact hr) (Same.refl _ _) (fun j hj => .inl hj)
    rw [e] at this; exact this
  by_cases hnm : nm = ⟨#[]⟩
  · have := same0 1 (by unfold addT; rw [if_pos hnm])
    subst hnm
    simp [ev_seq, ev_cond2, ev_ret, ev_region2, evOps_nil, evOps_cons, opG_none, opA_move, opA_assign, opA_bin, putO_some, putH_lt, condB_true, binT_some, binA, avO_some, strOp, opS, opV, Go.Mx.look, fr0, argSlots, seqK, Fr.known, retK, retA, resA, mapO, orO_some, eqT_some, tk9, strV]
    exact this
  · have hnm2 : ¬ nm.toList = (⟨#[]⟩ : ByteArray).toList := by rw [bl_inj]; exact hnm
    have hnm3 : ¬ nm.toList = [] := fun e => hnm2 (by rw [e, ByteArray.toList_eq])
    simp [ev_skip, ev_seq, ev_cond2, ev_region2, evOps_nil, evOps_cons, opG_none, opA_move, opA_assign, opA_bin, opA_call, putO_some, putH_lt, CondP_false, binT_some, binA, avO_some, strOp, opS, opV, Go.Mx.look, fr0, argSlots, seqK, Fr.known, mapO, callA, orO_some, eqT_some, tk9, ok31, strV, hnm3]
    refine rplace_sp a L fp nm H _ hr hL ?_
    cases hpn : placeN L nm with
    | some i =>
      have := same0 4 (by unfold addT; rw [if_neg hnm, hpn]; rfl)
      simp [ev_seq, ev_cond2, ev_ret, ev_region2, evOps_nil, evOps_cons, opG_none, opA_move, opA_assign, opA_extract, putO_some, putH_lt, putC_lt, condB_true, extractT, opS, opV, Go.Mx.look, seqK, Fr.known, retK, retA, resA, mapO, extractA, placeV]
      exact this
    | none =>
      simp [ev_skip, ev_seq, ev_cond2, ev_region2, evOps_nil, evOps_cons, opG_none, opA_move, opA_assign, opA_extract, opA_call, putO_some, putH_lt, putC_lt, condB_false, extractT, opS, opV, Go.Mx.look, seqK, Fr.known, mapO, callA, extractA, ok41, placeV]
      refine rplaces_sp a L fp pr H _ hr hL (by omega) (fun hf1 => ?_) (fun hf1 => ?_)
      · simp [ev_seq, ev_region2, evOps_nil, evOps_cons, opG_none, opA_move, opA_assign, opA_extract, opA_call, putO_some, putH_lt, putC_lt, extractT, opS, opV, Go.Mx.look, seqK, mapO, callA, extractA, ok41]
        refine rplaces_sp a L fp au H _ hr hL (by omega) (fun hf2 => ?_) (fun hf2 => ?_)
        · have had : addT L nm pr au = (0, L ++ [⟨nm, places L pr, places L au⟩]) := by
            unfold addT; rw [if_neg hnm, if_neg (by rw [hpn]; simp), if_pos ⟨hf1, hf2⟩]
          rw [had] at h
          rcases id hr with ⟨rfl, h2, rfl⟩ | ⟨t, ver, h2, h4, h5, h6, rfl⟩
          · have hglt := Hp.lt h2
            have hG : ∀ c, (H ++ [c])[a]? = some (Ob.cells 0 [AV.v (.slice none 0 0)]) := fun c => by rw [List.getElem?_append_left hglt]; exact h2
            simp [ev_skip, ev_seq, ev_cond2, ev_ret, ev_region2, evOps_nil, evOps_cons, opG_none, opG_some, opJ, opU_ff, isU_bool, opK_eq, opA_move, opA_assign, opA_pick, opA_un, opA_extract, opA_load, opA_fieldAddr, opA_nilCheck, opA_store, opA_buildSlice, opA_append, opA_build, putO_some, putH_lt, putC_lt, putU_none, condB_false, pickT, unT, extractT, loadT, nilCheckT, fieldAddrT, storeT, buildSliceT, appendT, repeatL_1, buildZ, partsZ, fillO, aggO, opS, opV, Go.Mx.look, seqK, Fr.known, retK, retA, resA, mapO, unA, extractA, cellsA_v, cellsA_agg, cellsA_sl, okPart_v, okPart_agg, okPart_sl, Value.oneCell', partA, loadA, loadS, plusS, nilCheckS, fillA, storeS, bindO, appA, srcA, srcTy, sz50, ag50, st50, Try.underlying50, Try.underlying52, sz54, by54, ze54, of54, h2, okPart_rowI, cellsA_rowI, splice, hG]
            have hs2 : Same [] H (H ++ [Ob.cells 0 (thC ⟨nm, places [] pr, places [] au⟩)]) := Same.app _ _ _
            have hs3 : Same [a] (H ++ [Ob.cells 0 (thC ⟨nm, places [] pr, places [] au⟩)]) ((H ++ [Ob.cells 0 (thC ⟨nm, places [] pr, places [] au⟩)]).set a (.cells 0 [.sl H.length 0 3 0 1])) := Same.set (by simp)
            refine h _ [a, H.length] (.inr ⟨H.length, 0, ?_, ?_, by simp, by omega, rfl⟩) ?_ ?_
            · rw [List.getElem?_set_self (by simp; omega)]; rfl
            · exact hs3.2 _ _ (by simp) (by simp; omega)
            · exact (hs2.wide (fp' := [a]) (by simp)).trans hs3 (by simp)
            · intro j hj; simp at hj
              rcases hj with rfl | rfl
              · exact .inl (by simp)
              · exact .inr (by omega)
          · have hglt := Hp.lt h2
            have hG : ∀ o, (H.set t o)[a]? = some (Ob.cells 0 [AV.sl t ver 3 0 L.length]) := fun o => by rw [List.getElem?_set_ne h6]; exact h2
            have hsum : (List.map (fun a => (thC a).length) L).sum = L.length * 3 := by rw [← List.length_flatMap]; exact flat_len thC_len L
            have htake : List.take (L.length * 3) (List.flatMap thC L) = List.flatMap thC L := List.take_of_length_le (by rw [flat_len thC_len]; omega)
            simp [ev_skip, ev_seq, ev_cond2, ev_ret, ev_region2, evOps_nil, evOps_cons, opG_none, opG_some, opJ, opU_ff, isU_bool, opK_eq, opA_move, opA_assign, opA_pick, opA_un, opA_extract, opA_load, opA_fieldAddr, opA_nilCheck, opA_store, opA_buildSlice, opA_append, opA_build, putO_some, putH_lt, putC_lt, putU_none, condB_false, pickT, unT, extractT, loadT, nilCheckT, fieldAddrT, storeT, buildSliceT, appendT, repeatL_1, buildZ, partsZ, fillO, aggO, opS, opV, Go.Mx.look, seqK, Fr.known, retK, retA, resA, mapO, unA, extractA, cellsA_v, cellsA_agg, cellsA_sl, okPart_v, okPart_agg, okPart_sl, Value.oneCell', partA, loadA, loadS, plusS, nilCheckS, fillA, storeS, bindO, appA, srcA, srcTy, sz50, ag50, st50, Try.underlying50, Try.underlying52, sz54, by54, ze54, of54, h2, h4, okPart_rowI, cellsA_rowI, splice, hG, hsum, htake]
            have hfl : (L ++ [Th.mk nm (places L pr) (places L au)]).flatMap thC = List.flatMap thC L ++ [AV.v (.string nm), rowI (places L pr), rowI (places L au)] := by simp [thC, strV]
            have hs2 : Same [t] H (H.set t (Ob.cells (ver + 1) (List.flatMap thC L ++ [AV.v (.string nm), rowI (places L pr), rowI (places L au)]))) := Same.set (by simp)
            have hs3 : Same [a] (H.set t (Ob.cells (ver + 1) (List.flatMap thC L ++ [AV.v (.string nm), rowI (places L pr), rowI (places L au)]))) ((H.set t (Ob.cells (ver + 1) (List.flatMap thC L ++ [AV.v (.string nm), rowI (places L pr), rowI (places L au)]))).set a (.cells 0 [.sl t (ver + 1) 3 0 (L.length + 1)])) := Same.set (by simp)
            refine ⟨⟨by omega, by omega⟩, h _ [a, t] (.inr ⟨t, ver + 1, ?_, ?_, by simp, h6, rfl⟩) ?_ ?_⟩
            · rw [List.getElem?_set_self (by simpa using hglt)]; simp
            · rw [hfl]
              refine hs3.2 _ _ ?_ (by simpa using h6)
              rw [List.getElem?_set_self (Hp.lt h4)]
            · exact (hs2.wide (fp' := [a, t]) (by simp)).trans hs3 (by simp)
            · intro j hj; exact .inl hj
        · have := same0 80 (by unfold addT; rw [if_neg hnm, if_neg (by rw [hpn]; simp), if_neg (by rw [hf2]; simp)])
          simp [ev_seq, ev_cond2, ev_ret, ev_region2, evOps_nil, evOps_cons, opG_none, opG_some, opJ, opU_ff, isU_bool, opK_eq, opA_move, opA_assign, opA_pick, opA_un, opA_extract, putO_some, putH_lt, putC_lt, condB_true, condB_false, pickT, unT, extractT, opS, opV, Go.Mx.look, seqK, Fr.known, retK, retA, resA, mapO, unA, extractA]
          exact this
      · have := same0 80 (by unfold addT; rw [if_neg hnm, if_neg (by rw [hpn]; simp), if_neg (by rw [hf1]; simp)])
        simp [ev_seq, ev_region2, evOps_nil, evOps_cons, opG_none, opA_move, opA_assign, opA_extract, opA_call, putO_some, putH_lt, putC_lt, extractT, opS, opV, Go.Mx.look, seqK, mapO, callA, extractA, ok41]
        refine rplaces_sp a L fp au H _ hr hL (by omega) (fun hf2 => ?_) (fun hf2 => ?_) <;> (simp [ev_seq, ev_cond2, ev_ret, ev_region2, evOps_nil, evOps_cons, opG_none, opG_some, opJ, opU_ff, isU_bool, opA_move, opA_assign, opA_pick, opA_un, opA_extract, putO_some, putH_lt, putC_lt, putV_lt, condB_true, pickT, unT, extractT, opS, opV, Go.Mx.look, seqK, Fr.known, retK, retA, resA, mapO, unA, extractA]; exact this)

/-! ### Deeds -/
structure Dd where
  name : ByteArray
  prev : List ByteArray
  auth : List ByteArray
def ddC (x : Dd) : List AV := [strV x.name, rowS x.prev, rowS x.auth]
theorem ddC_len (x : Dd) : (ddC x).length = 3 := rfl
def ddsV (l : List Dd) : AV := .row false l.length (l.flatMap ddC)
def ShortN (l : List ByteArray) : Prop := l.length ≤ 10 ∧ ∀ x ∈ l, x.size ≤ 100
def FewD (x : Dd) : Prop := x.name.size ≤ 100 ∧ ShortN x.prev ∧ ShortN x.auth
def Few (l : List Dd) : Prop := l.length ≤ 60 ∧ ∀ x ∈ l, FewD x
def addAll (l : List Dd) : List Th := l.foldl (fun L d => (addT L d.name d.prev d.auth).2) []
theorem addAll_snoc (l : List Dd) (d : Dd) : addAll (l ++ [d]) = (addT (addAll l) d.name d.prev d.auth).2 := by simp [addAll]
theorem addT_len (L : List Th) (nm : ByteArray) (pr au : List ByteArray) : (addT L nm pr au).2.length ≤ L.length + 1 := by
  unfold addT
  split
  · simp
  · split
    · simp
    · split <;> simp
theorem addAll_good (l : List Dd) : Dag.Good (addAll l) := by
  have : ∀ (l : List Dd) (L : List Th), Dag.Good L → Dag.Good (l.foldl (fun L d => (addT L d.name d.prev d.auth).2) L) := by
    intro l
    induction l with
    | nil => intro L h; exact h
    | cons d l ih => intro L h; exact ih _ (h.add _ _ _)
  exact this l [] Dag.Good.nil
theorem addAll_len (l : List Dd) : (addAll l).length ≤ l.length := by
  have : ∀ (l : List Dd) (L : List Th), (l.foldl (fun L d => (addT L d.name d.prev d.auth).2) L).length ≤ L.length + l.length := by
    intro l
    induction l with
    | nil => intro L; simp
    | cons d l ih =>
      intro L
      have h1 := ih (addT L d.name d.prev d.auth).2
      have h2 := addT_len L d.name d.prev d.auth
      simp only [List.foldl_cons, List.length_cons]
      omega
  simpa [addAll] using this l []

theorem few_sp (l : List Dd) (H : Hp) (Q : AV → Hp → Prop) (h1 : Few l → Q (.v (.bool true)) H) (h0 : ¬ Few l → Q (.v (.bool false)) H) : Sp Try.prog 10 [ddsV l] Q H := by
  refine Sp.body [(4, ⟨[0, 3], [], []⟩)] ⟨[], [], []⟩ [] mo Try.func10 rfl (Nat.le_of_ble_eq_true rfl) (by kernel_rfl) ?_
  simp [ev_skip, ev_seq, ev_cond2, ev_block, ev_ret, ev_region2, ev_loop, loopK, evOps_nil, evOps_cons, opG_none, opA_move, opA_assign, opA_bin, opA_len, putO_some, putH_lt, binT_some, binA, avO_some, lenT_row, io_gtr, opS, opV, Go.Mx.look, fr0, argSlots, seqK, Fr.known, retK, retA, resA, mapO, headK, getV, getB, chkP, firstReg, orO_some, eqT_some, tk3, Try.underlying22, ddsV]
  refine ⟨fun h => h0 (fun hf => by have := hf.1; omega), fun h => ?_⟩
  refine LoopC.intro (fun n xs _ H2 => ∃ i : Nat, i ≤ l.length ∧ n = l.length - i ∧ (∀ j x, j < i → l[j]? = some x → FewD x) ∧ xs = [ddsV l, .v (.int .i64 i)] ∧ H2 = H) l.length
    ⟨0, by omega, by omega, fun j x hj => by omega, rfl, rfl⟩ ?_
  rintro n xs bs H2 ⟨i, hi, rfl, hj, rfl, rfl⟩
  simp [ev_skip, ev_seq, ev_cond2, ev_block, ev_exit, ev_ret, ev_region2, evOps_nil, evOps_cons, opG_none, opA_move, opA_assign, opA_bin, opA_indexAddr, opA_len, putO_some, putH_lt, binT_some, binA, avO_some, lenT_row, indexAddrT, io_lss, opS, opV, Go.Mx.look, seqK, blockK, Fr.known, retK, retA, resA, mapO, indexAddrA, mkFr, slotsOf, ptrsOf, boxesOf, orO_some, eqT_some, tk3, Try.underlying22, sz46, ddsV]
  refine ⟨fun hlt => ?_, fun hge => ?_⟩
  · have hx := List.getElem?_eq_getElem hlt
    generalize l[i] = x at hx
    have g0 := flat_get ddC_len hx 0 (by omega)
    have g1 := flat_get ddC_len hx 1 (by omega)
    have g2 := flat_get ddC_len hx 2 (by omega)
    simp [ddC, strV] at g0 g1 g2
    have w1 : IntKind.i64.wrap ((i : Int) + 1) = (i : Int) + 1 := wr_i64 (by omega)
    simp [ev_seq, ev_cond2, ev_ret, ev_region2, evOps_nil, evOps_cons, opG_none, opG_some, opJ, opU_ff, isU_bool, opK_eq, opA_move, opA_assign, opA_pick, opA_bin, opA_load, opA_indexAddr, opA_fieldAddr, opA_len, opA_call, putO_some, putH_lt, putV_lt, condB_true, condB_false, binT_some, binA, avO_some, pickT, loadT, lenT_str, fieldAddrT, indexAddrT, io_gtr, opS, opV, Go.Mx.look, seqK, blockK, Fr.known, retK, retA, resA, mapO, callA, partA, loadA, loadS, plusS, indexAddrA, orO_some, eqT_some, tk3, sz9, ag9, Try.underlying9, Try.underlying22, sz44, ag44, sz46, Try.underlying46, ok25, g0, g1, hlt]
    refine ⟨fun hb => h0 (fun hf => ?_), fun hb => ?_⟩
    · have := (hf.2 x (List.mem_of_getElem? hx)).1; omega
    · refine short_sp x.prev _ _ (fun hp => ?_) (fun hp => ?_)
      · simp [evOps_cons, opG_none, opG_some, opJ, opU_ff, isU_bool, opK_eq, opA_move, opA_pick, opA_un, opA_load, opA_indexAddr, opA_fieldAddr, opA_call, putO_some, putH_lt, putC_lt, condB_false, pickT, unT, loadT, fieldAddrT, indexAddrT, opS, opV, Go.Mx.look, Fr.known, mapO, unA, callA, partA, loadA, loadS, plusS, indexAddrA, Try.underlying22, sz44, ag44, sz46, Try.underlying46, ok25, g2, hlt]
        refine short_sp x.auth _ _ (fun ha => ?_) (fun ha => ?_)
        · simp [ev_skip, ev_cond2, ev_region2, evOps_nil, evOps_cons, opG_none, opG_some, opJ, opU_ff, isU_bool, opK_eq, opA_move, opA_assign, opA_pick, opA_bin, opA_un, putO_some, putH_lt, putC_lt, condB_false, binT_some, binA, avO_some, pickT, unT, io_add, opS, opV, Go.Mx.look, seqK, blockK, Fr.known, mapO, unA, headK, getV, getB, chkP, orO_some, eqT_some, tk3, w1]
          refine ⟨l.length - (i + 1), by omega, i + 1, by omega, rfl, fun j y hj2 hy => ?_, by simp⟩
          rcases Nat.lt_or_ge j i with h3 | h3
          · exact hj j y h3 hy
          · obtain rfl : j = i := by omega
            rw [hx] at hy; simp at hy; subst hy; exact ⟨by omega, hp, ha⟩
        · simp [ev_seq, ev_cond2, ev_ret, ev_region2, evOps_nil, evOps_cons, opG_none, opG_some, opJ, opU_ff, isU_bool, opK_eq, opA_assign, opA_pick, opA_un, putO_some, putH_lt, putC_lt, condB_true, condB_false, pickT, unT, opS, opV, Go.Mx.look, seqK, blockK, Fr.known, retK, retA, resA, mapO, unA]
          exact h0 (fun hf => ha (hf.2 x (List.mem_of_getElem? hx)).2.2)
      · simp [ev_seq, ev_cond2, ev_ret, ev_region2, evOps_nil, evOps_cons, opG_none, opG_some, opJ, opU_ff, isU_bool, opK_eq, opA_move, opA_assign, opA_pick, opA_un, putO_some, putH_lt, putC_lt, putV_lt, condB_true, condB_false, pickT, unT, opS, opV, Go.Mx.look, seqK, blockK, Fr.known, retK, retA, resA, mapO, unA]
        exact h0 (fun hf => hp (hf.2 x (List.mem_of_getElem? hx)).2.1)
  · refine h1 ⟨by omega, fun x hx => ?_⟩
    obtain ⟨j, hj2⟩ := List.getElem?_of_mem hx
    exact hj j x (by have := (List.getElem?_eq_some_iff.1 hj2).1; omega) hj2
end Go.Proofs.Ytpmhhbdfompbhaa

namespace Go.Proofs.Ytpmhhbdfompbhaa
open Go.Mx Go.Dag
set_option linter.unusedVariables false
set_option linter.unusedSimpArgs false

def BoInv (l : List Dd) (H : Hp) (g a : Nat) (n : Nat) (xs : List AV) (H2 : Hp) : Prop :=
  ∃ i fpg fpr, i ≤ l.length ∧ n = l.length - i ∧ xs = [ddsV l, .ptr g 0 0, .ptr a 0 0, .v (.int .i64 i)] ∧ GrA H2 g (addAll (l.take i)) fpg ∧ RfAt H2 a (addAll (l.take i)) fpr ∧
    (∀ j ∈ fpg, j ∉ fpr ∧ H.length ≤ j) ∧ (∀ j ∈ fpr, H.length ≤ j) ∧ Same [] H H2

set_option maxHeartbeats 4000000 in
theorem both_sp (l : List Dd) (H : Hp) (Q : AV → Hp → Prop) (hf : Few l)
    (h : ∀ H' g a fpg fpr, GrA H' g (addAll l) fpg → RfAt H' a (addAll l) fpr → Same [] H H' → Q (.tup [.ptr g 0 0, .ptr a 0 0, .v (.bool true)]) H') : Sp Try.prog 11 [ddsV l] Q H := by
  refine Sp.body [(3, ⟨[0, 5, 6, 7], [], []⟩)] ⟨[], [], pl11⟩ tb11 mo Try.func11 rfl (Nat.le_of_ble_eq_true rfl) (by kernel_rfl) ?_
  simp [ev_seq, ev_region2, evOps_nil, evOps_cons, opG_none, opA_assign, opA_call, putO_some, putH_lt, opS, opV, fr0, argSlots, seqK, mapO, callA, ok22, pl11, ddsV]
  refine new_sp H _ (fun H1 hg hs1 hl1 => ?_)
  simp [ev_seq, ev_block, ev_region2, ev_loop, loopK, evOps_nil, evOps_cons, opG_none, opA_assign, opA_box, opA_build, putO_some, putH_lt, putC_lt, boxT, buildZ, partsZ, fillO, aggO, opS, opV, Go.Mx.look, seqK, mapO, cellsA_agg, okPart_agg, fillA, newK, headK, getV, getB, chkP, firstReg, ze52, of52]
  have hs2 : Same [] H1 (H1 ++ [Ob.cells 0 [AV.v (.slice none 0 0)]]) := Same.app _ _ _
  refine LoopC.intro (fun n xs _ H2 => BoInv l H (H.length + 1) H1.length n xs H2) l.length
    ⟨0, _, [H1.length], by omega, by omega, by simp [ddsV], hg.same hs2 (by simp), .inl ⟨rfl, by simp, rfl⟩, ?_, ?_, hs1.trans hs2 (by simp)⟩ ?_
  · intro j hj; simp at hj ⊢; omega
  · intro j hj; simp at hj; omega
  clear hg hs2
  rintro n xs bs H2 ⟨i, fpg, fpr, hi, rfl, rfl, hg, hr, hd, hd2, hs⟩
  have hL : (addAll (l.take i)).length ≤ 60 := by
    have h1 := addAll_len (l.take i)
    have h2 := hf.1
    rw [List.length_take] at h1
    omega
  have hl60 := hf.1
  obtain ⟨tv, h2, hlen, _⟩ := hr.head
  simp [ev_skip, ev_seq, ev_cond2, ev_block, ev_exit, ev_region2, evOps_nil, evOps_cons, opG_none, opA_move, opA_bin, opA_load, opA_indexAddr, opA_fieldAddr, opA_nilCheck, opA_len, opA_call, putO_some, putH_lt, binT_some, binA, avO_some, loadT, nilCheckT, lenT_row, fieldAddrT, indexAddrT, io_lss, opS, opV, Go.Mx.look, seqK, blockK, Fr.known, mapO, callA, partA, loadA, loadS, plusS, indexAddrA, nilCheckS, mkFr, slotsOf, ptrsOf, boxesOf, orO_some, eqT_some, ev_draw, drawK, evP_q, evP_s, opAt_some, tk3, Try.underlying22, sz46, sz50, ag50, Try.underlying50, Try.underlying52, ok17, ddsV, h2, hlen]
  refine ⟨fun hlt => ?_, fun hge => ?_⟩
  · have hx := List.getElem?_eq_getElem hlt
    generalize l[i] = x at hx
    have hfx := hf.2 x (List.mem_of_getElem? hx)
    have g0 := flat_get ddC_len hx 0 (by omega)
    have g1 := flat_get ddC_len hx 1 (by omega)
    have g2 := flat_get ddC_len hx 2 (by omega)
    simp [ddC] at g0 g1 g2
    have w1 : IntKind.i64.wrap ((i : Int) + 1) = (i : Int) + 1 := wr_i64 (by omega)
    have htk : l.take (i + 1) = l.take i ++ [x] := by rw [List.take_add_one, hx]; rfl
    simp [opG_none, opA_move, opA_load, opA_indexAddr, opA_fieldAddr, opA_call, putO_some, putH_lt, loadT, fieldAddrT, indexAddrT, opS, opV, Go.Mx.look, mapO, callA, partA, loadA, loadS, plusS, indexAddrA, evP_q, evP_s, opAt_some, sz9, ag9, Try.underlying22, sz44, ag44, sz46, Try.underlying46, ok23, g0, g1, g2, hlt]
    refine add_sp _ _ fpg x.name x.prev x.auth H2 _ hg (by omega) (by have := hfx.2.1.1; omega) (by have := hfx.2.2.1; omega) (fun H3 fpg' hg3 hs3 hf3 => ?_)
    have hr3 := hr.same hs3 (fun j hj hm => (hd j hm).1 hj)
    simp [opG_none, opA_call, putC_lt, loadT, fieldAddrT, indexAddrT, opS, opV, Go.Mx.look, mapO, callA, partA, loadA, loadS, plusS, indexAddrA, evP_s, opAt_some, chkK_eq, sameV_some, sameO_some, allQ_nil, allQ_cons, valQ_none, valS_move, valS_load, valS_indexAddr, valS_fieldAddr, sz9, ag9, Try.underlying22, sz44, ag44, sz46, Try.underlying46, ok32, g0, g1, g2, hlt]
    refine radd_sp _ _ fpr x.name x.prev x.auth H3 _ hr3 (by omega) (by have := hfx.2.1.1; omega) (by have := hfx.2.2.1; omega) (fun H4 fpr' hr4 hs4 hf4 => ?_)
    have hgd : ∀ j ∈ fpg', j ∉ fpr := fun j hj hm => by
      rcases hf3 j hj with h1 | h1
      · exact (hd j h1).1 hm
      · have := hr.lt j hm; omega
    have hg4 := hg3.same hs4 (fun j hj hm => hgd j hj hm)
    simp [ev_skip, ev_cond2, ev_region2, evOps_nil, evOps_cons, opG_none, opA_move, opA_assign, opA_bin, putO_some, putH_lt, putC_lt, condB_false, binT_some, binA, avO_some, io_add, io_neq, opS, opV, Go.Mx.look, seqK, blockK, Fr.known, mapO, headK, getV, getB, chkP, orO_some, eqT_some, evP_nil, evP_q, opAt_some, chkK_eq, allQ_nil, tk3, tk42, w1]
    refine ⟨l.length - (i + 1), by omega, i + 1, fpg', fpr', by omega, rfl, by simp [ddsV], by rw [htk, addAll_snoc]; exact hg4, by rw [htk, addAll_snoc]; exact hr4, fun j hj => ⟨fun hm => ?_, ?_⟩, fun j hj => ?_, ?_⟩
    · rcases hf4 j hm with h1 | h1
      · exact hgd j hj h1
      · have := hg3.lt j hj; omega
    · rcases hf3 j hj with h1 | h1
      · exact (hd j h1).2
      · exact Nat.le_trans hs.1 h1
    · rcases hf4 j hj with h1 | h1
      · exact hd2 j h1
      · exact Nat.le_trans hs.1 (Nat.le_trans hs3.1 h1)
    · exact (hs.new hs3 (fun j hj => (hd j hj).2)).new hs4 (fun j hj => hd2 j hj)
  · have : i = l.length := by omega
    subst this
    rw [List.take_length] at hg hr hL
    refine len_sp _ _ H2 _ hg.val ?_
    rw [List.take_length] at hlen
    simp [ev_ret, opG_none, opA_assign, opA_bin, putO_some, putH_lt, putC_lt, binT_some, binA, avO_some, loadT, nilCheckT, fieldAddrT, io_eql, opS, opV, Go.Mx.look, seqK, retK, retA, resA, mapO, partA, loadA, loadS, plusS, nilCheckS, orO_some, eqT_some, evP_nil, evP_q, evP_s, opAt_some, chkK_eq, sameV_some, sameO_some, allQ_nil, allQ_cons, valQ_none, valS_move, valS_bin, valS_load, valS_fieldAddr, valS_nilCheck, valS_len, tk3, sz50, ag50, Try.underlying50, Try.underlying52, h2, hlen]
    exact h _ _ _ _ _ hg hr hs
end Go.Proofs.Ytpmhhbdfompbhaa

namespace Go.Proofs.Ytpmhhbdfompbhaa
open Go.Mx Go.Dag
set_option linter.unusedVariables false
set_option linter.unusedSimpArgs false

theorem pastR_sp (gv : AV) (L : List Th) (hG : Dag.Good L) (l : List Int) (H : Hp) (Q : AV → Hp → Prop) (hg : GrV H gv L) (hL : L.length ≤ 100000) (hl : l.length ≤ 100000) (h : Q (rowI (pastL L false l)) H) : Sp Try.prog 16 [gv, rowZ l] Q H :=
  Sp.places (past_sp gv L hG l H _ hg hL hl (fun v H' hn => ⟨hn, h⟩))
theorem chainR_sp (gv : AV) (L : List Th) (hG : Dag.Good L) (l : List Int) (H : Hp) (Q : AV → Hp → Prop) (hg : GrV H gv L) (hL : L.length ≤ 100000) (hl : l.length ≤ 100000) (h : Q (rowI (pastL L true l)) H) : Sp Try.prog 21 [gv, rowZ l] Q H :=
  Sp.places (chain_sp gv L hG l H _ hg hL hl (fun v H' hn => ⟨hn, h⟩))
theorem headsR_sp (gv : AV) (L : List Th) (hG : Dag.Good L) (kept : List Bool) (H : Hp) (Q : AV → Hp → Prop) (hg : GrV H gv L) (hL : L.length ≤ 100000) (hl : kept.length ≤ 100000) (h : Q (rowI (headsL L kept)) H) : Sp Try.prog 13 [gv, rowB kept] Q H :=
  Sp.places (heads_sp gv L hG kept H _ hg hL hl (fun v H' hn => ⟨hn, h⟩))
theorem intsI_sp (a b : List Nat) (H : Hp) (Q : AV → Hp → Prop) (hb : a.length ≤ 100000) (h1 : a = b → Q (.v (.bool true)) H) (h0 : a ≠ b → Q (.v (.bool false)) H) : Sp Try.prog 12 [rowI a, rowI b] Q H :=
  Sp.argW (args' := [rowZ (ofN a), rowZ (ofN b)]) ⟨rowI_wk a, rowI_wk b, trivial⟩ (ints_sp (ofN a) (ofN b) H Q (by rw [ofN_len]; omega) (fun e => h1 (ofN_inj e)) (fun e => h0 (fun e2 => e (by rw [e2]))))

theorem Wk.rowW {x : Bool} {n : Nat} {cs ds : List AV} (h : Wks cs ds) : Wk (.row x n cs) (.row false n ds) := fun ρ I u hu => by
  cases hu with
  | row _ _ _ us ad cap h1 h2 h3 h4 h5 h6 =>
    refine .row false n ds us ad cap (by rw [h.len]; exact h1) (fun i c hc => ?_) h3 h4 h5 (by simp)
    obtain ⟨a, ha, hw⟩ := h.get hc
    exact hw _ _ _ (h2 i a ha)

/-! ### Chapter 8's examples -/
def nmA : ByteArray := ⟨#[97]⟩
def nmB : ByteArray := ⟨#[98]⟩
def nmC : ByteArray := ⟨#[99]⟩
def nmD : ByteArray := ⟨#[100]⟩
def awD : List Dd := [⟨nmA, [], []⟩, ⟨nmB, [nmA], []⟩, ⟨nmC, [nmA], []⟩, ⟨nmD, [nmC, nmB], []⟩]
theorem awL : addAll awD = [⟨nmA, [], []⟩, ⟨nmB, [0], []⟩, ⟨nmC, [0], []⟩, ⟨nmD, [1, 2], []⟩] := by kernel_rfl
theorem awP : pastL (addAll awD) false [3] = [0, 1, 2] := by kernel_rfl
theorem awH : headsL (addAll awD) [true, true, true, false] = [1, 2] := by kernel_rfl
theorem awF : Few awD := by
  refine ⟨by decide, ?_⟩
  intro x hx
  simp only [awD, List.mem_cons, List.mem_nil_iff, or_false] at hx
  rcases hx with rfl | rfl | rfl | rfl <;> refine ⟨by decide, ⟨by decide, ?_⟩, ⟨by decide, ?_⟩⟩ <;> intro y hy <;> simp at hy <;> (first | (rcases hy with rfl | rfl <;> decide) | (subst hy; decide))
theorem awW : Wk (.row true 4 [strV nmA, .v (.slice none 0 0), .v (.slice none 0 0), strV nmB, .row true 1 [strV nmA], .v (.slice none 0 0), strV nmC, .row true 1 [strV nmA], .v (.slice none 0 0), strV nmD, .row true 2 [strV nmC, strV nmB], .v (.slice none 0 0)]) (ddsV awD) :=
  Wk.rowW ⟨Wk.refl _, Wk.nil false, Wk.nil false, Wk.refl _, Wk.row, Wk.nil false, Wk.refl _, Wk.row, Wk.nil false, Wk.refl _, Wk.row, Wk.nil false, trivial⟩

set_option maxHeartbeats 1000000 in
theorem awake_sp (H : Hp) (Q : AV → Hp → Prop) (h : Q (.v (.bool true)) H) : Sp Try.prog 15 [] Q H := by
  refine Sp.clean (Sp.body [] ⟨[], [], []⟩ [] mo Try.func15 rfl (Nat.le_of_ble_eq_true rfl) (by kernel_rfl) ?_)
  simp [ev_seq, ev_region2, evOps_nil, evOps_cons, opG_none, opA_assign, opA_call, opA_buildSlice, opA_build, putO_some, putH_lt, buildSliceT, repeatL_4, buildZ, partsZ, fillO, aggO, opS, opV, Go.Mx.look, fr0, argSlots, seqK, mapO, callA, cellsA_v, cellsA_agg, cellsA_row, okPart_v, okPart_agg, okPart_row, Value.oneCell', fillA, bindO, sz9, ze9, Try.underlying22, Try.underlying44, sz46, ze46, of46, ok11]
  refine Sp.argW (args' := [ddsV awD]) ⟨awW, trivial⟩ ?_
  refine both_sp awD H _ awF (fun H1 g a fpg fpr hg hr hs => ?_)
  have hG := addAll_good awD
  have hL : (addAll awD).length ≤ 100000 := by rw [awL]; simp
  simp [ev_seq, ev_region2, evOps_nil, evOps_cons, opG_none, opG_some, opJ, opU_ft, isU_bool, opK_eq, opA_move, opA_assign, opA_extract, opA_call, opA_buildSlice, putO_some, putH_lt, putC_lt, condB_true, extractT, buildSliceT, opS, opV, Go.Mx.look, seqK, Fr.known, mapO, callA, extractA, cellsA_v, okPart_v, Value.oneCell', fillA, bindO, sz3, ze3, Try.underlying30, ok16]
  refine Sp.argW (args' := [.ptr g 0 0, rowZ [3]]) ⟨Wk.refl _, Wk.row, trivial⟩ ?_
  refine pastR_sp _ _ hG [3] H1 _ hg.val hL (by simp) ?_
  rw [awP]
  simp [evOps_cons, opG_some, opJ, opU_ft, isU_bool, opK_eq, opA_call, opA_buildSlice, putH_lt, putC_lt, condB_true, buildSliceT, opS, opV, Go.Mx.look, Fr.known, mapO, callA, cellsA_v, okPart_v, Value.oneCell', fillA, bindO, sz3, ze3, Try.underlying30, ok12]
  refine Sp.argW (args' := [rowI [0, 1, 2], rowI [0, 1, 2]]) ⟨Wk.refl _, Wk.row, trivial⟩ ?_
  refine intsI_sp _ _ H1 _ (by simp) (fun _ => ?_) (fun e => absurd rfl e)
  simp [evOps_cons, opG_none, opG_some, opJ, opU_ft, isU_bool, opK_eq, opA_move, opA_pick, opA_call, opA_buildSlice, putO_some, putH_lt, putC_lt, condB_true, pickT, buildSliceT, opS, opV, Go.Mx.look, Fr.known, mapO, callA, cellsA_v, okPart_v, Value.oneCell', fillA, bindO, sz4, ze4, Try.underlying23, ok13]
  refine Sp.argW (args' := [.ptr g 0 0, rowB [true, true, true, false]]) ⟨Wk.refl _, Wk.row, trivial⟩ ?_
  refine headsR_sp _ _ hG _ H1 _ hg.val hL (by simp) ?_
  rw [awH]
  simp [evOps_cons, opG_some, opJ, opU_ft, isU_bool, opK_eq, opA_call, opA_buildSlice, putH_lt, putC_lt, condB_true, buildSliceT, opS, opV, Go.Mx.look, Fr.known, mapO, callA, cellsA_v, okPart_v, Value.oneCell', fillA, bindO, sz3, ze3, Try.underlying30, ok12]
  refine Sp.argW (args' := [rowI [1, 2], rowI [1, 2]]) ⟨Wk.refl _, Wk.row, trivial⟩ ?_
  refine intsI_sp _ _ H1 _ (by simp) (fun _ => ?_) (fun e => absurd rfl e)
  simp [ev_ret, evOps_nil, evOps_cons, opG_none, opA_assign, opA_pick, putO_some, putH_lt, putC_lt, pickT, opS, opV, Go.Mx.look, seqK, retK, retA, resA, mapO]
  exact ⟨hs.grown, h⟩
end Go.Proofs.Ytpmhhbdfompbhaa

namespace Go.Proofs.Ytpmhhbdfompbhaa
open Go.Mx Go.Dag
set_option linter.unusedVariables false
set_option linter.unusedSimpArgs false

theorem flat_one {α : Type} (f : α → AV) (l : List α) : l.flatMap (fun s => [f s]) = l.map f := by
  induction l with
  | nil => rfl
  | cons a l ih => simp [ih]
theorem strs_read {x : AV} (h : Shp Try.prog 44 [x]) : ∃ l : List ByteArray, x = rowS l := by
  obtain ⟨l, h1, _, _⟩ := shp_rows (f := fun s => [strV s]) (p := fun _ => True) Try.underlying44 (fun xs ha => by
    obtain ⟨s, e, _⟩ := shp_str Try.underlying9 ha
    exact ⟨s, e, trivial⟩) h
  refine ⟨l, ?_⟩
  simp at h1
  rw [h1, flat_one, rowS]
theorem ints_read {x : AV} (h : Shp Try.prog 30 [x]) : ∃ l : List Int, x = rowZ l := by
  obtain ⟨l, h1, _, _⟩ := shp_rows (f := fun s => [intV s]) (p := fun _ => True) Try.underlying30 (fun xs ha => by
    obtain ⟨s, e, _⟩ := shp_int Try.underlying3 ha
    exact ⟨s, e, trivial⟩) h
  refine ⟨l, ?_⟩
  simp at h1
  rw [h1, flat_one, rowZ]
theorem bools_read {x : AV} (h : Shp Try.prog 23 [x]) : ∃ l : List Bool, x = rowB l := by
  obtain ⟨l, h1, _, _⟩ := shp_rows (f := fun s => [boolV s]) (p := fun _ => True) Try.underlying23 (fun xs ha => by
    obtain ⟨s, e⟩ := shp_bool Try.underlying4 ha
    exact ⟨s, e, trivial⟩) h
  refine ⟨l, ?_⟩
  simp at h1
  rw [h1, flat_one, rowB]
theorem shp_one {t e : TypeId} {xs : List AV} (ht : Try.prog.underlying t = some (.slice e)) (h : Shp Try.prog t xs) : ∃ x, xs = [x] := by
  obtain ⟨n, ads, h1, _⟩ := shp_slice ht h
  exact ⟨_, h1⟩
theorem dd_read {xs : List AV} (h : Shp Try.prog 46 xs) : ∃ x : Dd, xs = ddC x ∧ True := by
  obtain ⟨ps, rfl, hp⟩ := shp_struct Try.underlying46 h
  obtain ⟨n0, e0, _⟩ := shp_str Try.underlying9 (hp 0 _ rfl)
  have h1 := hp 1 _ rfl
  have h2 := hp 2 _ rfl
  obtain ⟨x1, e1⟩ := shp_one Try.underlying44 h1
  obtain ⟨x2, e2⟩ := shp_one Try.underlying44 h2
  rw [e1] at h1
  rw [e2] at h2
  obtain ⟨l1, rfl⟩ := strs_read h1
  obtain ⟨l2, rfl⟩ := strs_read h2
  exact ⟨⟨n0, l1, l2⟩, by simp [List.range_succ, e0, e1, e2, ddC, strV], trivial⟩
theorem dds_read {x : AV} (h : Shp Try.prog 22 [x]) : ∃ l : List Dd, x = ddsV l := by
  obtain ⟨l, h1, _, _⟩ := shp_rows Try.underlying22 (fun _ ha => dd_read ha) h
  simp at h1
  exact ⟨l, h1⟩

set_option maxHeartbeats 1000000 in
theorem heads_law (l : List Dd) (kept : List Bool) : Sp Try.prog 3 [ddsV l, rowB kept] (fun v _ => v = .v (.bool true)) [] := by
  refine Sp.body [] ⟨[], [], []⟩ [] mo Try.func3 rfl (Nat.le_of_ble_eq_true rfl) (by kernel_rfl) ?_
  simp [ev_seq, ev_region2, evOps_nil, evOps_cons, opG_none, opA_move, opA_assign, opA_call, putO_some, putH_lt, opS, opV, Go.Mx.look, fr0, argSlots, seqK, mapO, callA, ok10, rowB]
  refine few_sp l _ _ (fun hf => ?_) (fun hf => by simp [ev_seq, ev_cond2, ev_ret, ev_region2, evOps_nil, evOps_cons, opG_none, opG_some, opJ, opU_ff, isU_bool, opA_move, opA_assign, opA_pick, opA_un, putO_some, putH_lt, putC_lt, putV_lt, condB_true, pickT, unT, opS, opV, Go.Mx.look, seqK, Fr.known, retK, retA, resA, mapO, unA])
  simp [ev_skip, ev_seq, ev_cond2, ev_ret, ev_region2, evOps_nil, evOps_cons, opG_none, opG_some, opJ, opU_ff, isU_bool, opK_eq, opA_move, opA_assign, opA_pick, opA_bin, opA_un, opA_len, opA_call, putO_some, putH_lt, putC_lt, condB_false, binT_some, binA, avO_some, pickT, unT, lenT_row, io_gtr, opS, opV, Go.Mx.look, seqK, Fr.known, retK, retA, resA, mapO, unA, callA, orO_some, eqT_some, tk3, Try.underlying23, ok11]
  intro hk
  refine both_sp l [] _ hf (fun H1 g a fpg fpr hg hr hs => ?_)
  have hG := addAll_good l
  have hL : (addAll l).length ≤ 100000 := by have := addAll_len l; have := hf.1; omega
  simp [ev_seq, ev_region2, evOps_nil, evOps_cons, opG_none, opG_some, opJ, opU_ft, isU_bool, opK_eq, opA_move, opA_assign, opA_extract, opA_call, putO_some, putH_lt, putC_lt, condB_true, extractT, opS, opV, Go.Mx.look, seqK, Fr.known, mapO, callA, extractA, ok13]
  refine headsR_sp _ _ hG kept H1 _ hg.val hL (by omega) ?_
  simp [evOps_cons, opG_some, opJ, opU_ft, isU_bool, opK_eq, opA_move, opA_call, putO_some, putH_lt, putC_lt, condB_true, opS, opV, Go.Mx.look, Fr.known, mapO, callA, ok14]
  refine rheads_sp a _ fpr hG kept H1 _ hr hL (by omega) ?_
  simp [evOps_cons, opG_some, opJ, opU_ft, isU_bool, opK_eq, opA_call, putC_lt, condB_true, opS, opV, Go.Mx.look, Fr.known, mapO, callA, ok12]
  refine intsI_sp _ _ H1 _ (by have := whereN_len (min kept.length (addAll l).length) (hdP (addAll l) kept); exact Nat.le_trans this (by omega)) (fun _ => ?_) (fun e => absurd rfl e)
  simp [evOps_cons, opG_none, opG_some, opJ, opU_ft, isU_bool, opK_eq, opA_move, opA_pick, opA_call, putO_some, putH_lt, putC_lt, condB_true, pickT, opS, opV, Go.Mx.look, Fr.known, mapO, callA, ok15]
  refine awake_sp _ _ ?_
  simp [ev_ret, evOps_nil, evOps_cons, opG_none, opA_assign, opA_pick, putO_some, putH_lt, putC_lt, pickT, opS, opV, Go.Mx.look, seqK, retK, retA, resA, mapO]

set_option maxHeartbeats 1000000 in
theorem reaches_law (l : List Dd) (z : List Int) : Sp Try.prog 6 [ddsV l, rowZ z] (fun v _ => v = .v (.bool true)) [] := by
  refine Sp.body [] ⟨[], [], []⟩ [] mo Try.func6 rfl (Nat.le_of_ble_eq_true rfl) (by kernel_rfl) ?_
  simp [ev_seq, ev_region2, evOps_nil, evOps_cons, opG_none, opA_move, opA_assign, opA_call, putO_some, putH_lt, opS, opV, Go.Mx.look, fr0, argSlots, seqK, mapO, callA, ok10, rowZ]
  refine few_sp l _ _ (fun hf => ?_) (fun hf => by simp [ev_seq, ev_cond2, ev_ret, ev_region2, evOps_nil, evOps_cons, opG_none, opG_some, opJ, opU_ff, isU_bool, opA_move, opA_assign, opA_pick, opA_un, putO_some, putH_lt, putC_lt, putV_lt, condB_true, pickT, unT, opS, opV, Go.Mx.look, seqK, Fr.known, retK, retA, resA, mapO, unA])
  simp [ev_skip, ev_seq, ev_cond2, ev_ret, ev_region2, evOps_nil, evOps_cons, opG_none, opG_some, opJ, opU_ff, isU_bool, opK_eq, opA_move, opA_assign, opA_pick, opA_bin, opA_un, opA_len, opA_call, putO_some, putH_lt, putC_lt, condB_false, binT_some, binA, avO_some, pickT, unT, lenT_row, io_gtr, opS, opV, Go.Mx.look, seqK, Fr.known, retK, retA, resA, mapO, unA, callA, orO_some, eqT_some, tk3, Try.underlying30, ok11]
  intro hk
  refine both_sp l [] _ hf (fun H1 g a fpg fpr hg hr hs => ?_)
  have hG := addAll_good l
  have hL : (addAll l).length ≤ 100000 := by have := addAll_len l; have := hf.1; omega
  have hw : ∀ au, (pastL (addAll l) au z).length ≤ 100000 := fun au => Nat.le_trans (whereN_len _ _) hL
  simp [ev_seq, ev_region2, evOps_nil, evOps_cons, opG_none, opG_some, opJ, opU_ft, isU_bool, opK_eq, opA_move, opA_assign, opA_extract, opA_call, putO_some, putH_lt, putC_lt, condB_true, extractT, opS, opV, Go.Mx.look, seqK, Fr.known, mapO, callA, extractA, ok16]
  refine pastR_sp _ _ hG z H1 _ hg.val hL (by omega) ?_
  simp [evOps_cons, opG_some, opJ, opU_ft, isU_bool, opK_eq, opA_move, opA_call, putO_some, putH_lt, putC_lt, condB_true, opS, opV, Go.Mx.look, Fr.known, mapO, callA, ok20]
  refine rreach_false a _ fpr hG z H1 _ hr hL (by omega) ?_
  simp [evOps_cons, opG_some, opJ, opU_ft, isU_bool, opK_eq, opA_call, putC_lt, condB_true, opS, opV, Go.Mx.look, Fr.known, mapO, callA, ok12]
  refine intsI_sp _ _ H1 _ (hw _) (fun _ => ?_) (fun e => absurd rfl e)
  simp [evOps_cons, opG_none, opG_some, opJ, opU_ft, isU_bool, opK_eq, opA_move, opA_pick, opA_call, putO_some, putH_lt, putC_lt, condB_true, pickT, opS, opV, Go.Mx.look, Fr.known, mapO, callA, ok21]
  refine chainR_sp _ _ hG z H1 _ hg.val hL (by omega) ?_
  simp [evOps_cons, opG_some, opJ, opU_ft, isU_bool, opK_eq, opA_move, opA_call, putO_some, putH_lt, putC_lt, condB_true, opS, opV, Go.Mx.look, Fr.known, mapO, callA, ok20]
  refine rreach_true a _ fpr hG z H1 _ hr hL (by omega) ?_
  simp [evOps_cons, opG_some, opJ, opU_ft, isU_bool, opK_eq, opA_call, putC_lt, condB_true, opS, opV, Go.Mx.look, Fr.known, mapO, callA, ok12]
  refine intsI_sp _ _ H1 _ (hw _) (fun _ => ?_) (fun e => absurd rfl e)
  simp [evOps_cons, opG_none, opG_some, opJ, opU_ft, isU_bool, opK_eq, opA_move, opA_pick, opA_call, putO_some, putH_lt, putC_lt, condB_true, pickT, opS, opV, Go.Mx.look, Fr.known, mapO, callA, ok15]
  refine awake_sp _ _ ?_
  simp [ev_ret, evOps_nil, evOps_cons, opG_none, opA_assign, opA_pick, putO_some, putH_lt, putC_lt, pickT, opS, opV, Go.Mx.look, seqK, retK, retA, resA, mapO]
end Go.Proofs.Ytpmhhbdfompbhaa

namespace Go.Proofs.Ytpmhhbdfompbhaa
open Go.Mx Go.Dag
set_option linter.unusedVariables false
set_option linter.unusedSimpArgs false

theorem intsB_read {x : AV} (h : Shp Try.prog 30 [x]) : ∃ y : { l : List Int // l.length ≤ 140737488351232 }, x = rowZ y.1 := by
  obtain ⟨l, h1, h2, _⟩ := shp_rows (f := fun s => [intV s]) (p := fun _ => True) Try.underlying30 (fun xs ha => by
    obtain ⟨s, e, _⟩ := shp_int Try.underlying3 ha
    exact ⟨s, e, trivial⟩) h
  have hb : Try.prog.bytesOf 3 = 8 := by kernel_rfl
  rw [hb] at h2
  refine ⟨⟨l, by omega⟩, ?_⟩
  simp at h1
  rw [h1, flat_one, rowZ]
theorem dd_read1 {xs : List AV} (h : Shp Try.prog 46 xs) : ∃ x : Dd, xs = ddC x := by
  obtain ⟨x, h1, _⟩ := dd_read h
  exact ⟨x, h1⟩
end Go.Proofs.Ytpmhhbdfompbhaa
