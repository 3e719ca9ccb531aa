import Derived.Test.YtbdfhenelbakaaaJ
import Derived.Test.YtbdfhenelbakaaaMxSb
namespace Go.Proofs.Ytbdfhenelbakaaa
open Go.Mx
set_option linter.unusedVariables false
set_option linter.unusedSimpArgs false

abbrev Ens := {l : List En // ∀ e ∈ l, SzE e}
theorem en_read {xs : List AV} (h : Shp Try.prog 32 xs) : ∃ x : En, xs = enC x ∧ SzE x := by
  obtain ⟨ps, rfl, hp⟩ := shp_struct Try.underlying32 h
  obtain ⟨s1, e1, z1⟩ := shp_str Try.underlying9 (hp 0 _ rfl)
  obtain ⟨s2, e2, z2⟩ := shp_str Try.underlying9 (hp 1 _ rfl)
  obtain ⟨s3, e3, z3⟩ := shp_str Try.underlying9 (hp 2 _ rfl)
  exact ⟨⟨s1, s2, s3⟩, by simp [List.range_succ, e1, e2, e3, enC], z1, z2, z3⟩
theorem ens_read {x : AV} (h : Shp Try.prog 22 [x]) : ∃ l : Ens, x = rowE l.1 := by
  obtain ⟨l, h1, _, h2⟩ := shp_rows Try.underlying22 (fun _ ha => en_read ha) h
  simp at h1
  exact ⟨⟨l, h2⟩, h1⟩
theorem few_puts {l L : List En} (hL : ∀ e ∈ L, FewE e) (hl : ∀ e ∈ l, FewE e) : ∀ e ∈ l.foldl putE L, FewE e := by
  induction l generalizing L with
  | nil => exact hL
  | cons s r ih => exact ih (few_put hL (hl s (by simp))) (fun e he => hl e (by simp [he]))
theorem rdiff (a b : List En) (H : Hp) (Q : AV → Hp → Prop) (ha : Few1 a) (hb : Few1 b) (h : Q (delV (setD (sortE a) (sortE b)) (goneD (sortE a) (sortE b))) H) : Sp Try.prog 14 [rowE a, rowE b] Q H :=
  rdiff_sp a b H Q ha hb (fun l H Q h1 h2 => rsort_sp l H Q h1 h2) (fun h => few_sort h) h
def exX : En := ⟨⟨#[110, 97, 109, 101]⟩, ⟨#[]⟩, ⟨#[120]⟩⟩
def exY : En := ⟨⟨#[110, 97, 109, 101]⟩, ⟨#[]⟩, ⟨#[121]⟩⟩
def exT : En := ⟨⟨#[116, 111, 112, 105, 99]⟩, ⟨#[]⟩, ⟨#[116]⟩⟩
theorem ex1 : setD (sortE [exX]) (sortE [exT, exY]) = [exY, exT] := by decide +kernel
theorem ex2 : goneD (sortE [exX]) (sortE [exT, exY]) = [] := by decide +kernel
theorem ex3 : setD (sortE [exT, exY]) (sortE [exX]) = [exX] := by decide +kernel
theorem ex4 : goneD (sortE [exT, exY]) (sortE [exX]) = [exT] := by decide +kernel
theorem fewX : FewE exX := by unfold FewE; decide
theorem fewY : FewE exY := by unfold FewE; decide
theorem fewT : FewE exT := by unfold FewE; decide
theorem few_1 {a : En} (ha : FewE a) : Few1 [a] := ⟨by simp, by simpa using ha⟩
theorem few_2 {a b : En} (ha : FewE a) (hb : FewE b) : Few1 [a, b] := ⟨by simp, by simpa using ⟨ha, hb⟩⟩
theorem few_0 : Few1 [] := ⟨by simp, by simp⟩
theorem wkE (l : List En) : Wk (.row true l.length (l.flatMap enC)) (rowE l) := Wk.row
set_option maxRecDepth 20000 in
theorem awake_sp (H : Hp) (Q : AV → Hp → Prop) (h : Q (.v (.bool true)) H) : Sp Try.prog 15 [] Q H := by
  refine Sp.body [] ⟨[1, 2, 3, 4, 5], [], pl15⟩ tb15 mo Try.func15 rfl (Nat.le_of_ble_eq_true rfl) (by kernel_rfl) ?_
  simp [ev_seq, ev_region2, evOps_nil, evOps_cons, opG_none, opA_assign, opA_load, opA_call, opA_alloc, opA_store, opA_buildSlice, opA_build, putO_some, putH_lt, putU_none, loadT, allocT, storeT, buildSliceT, repeatL_1, repeatL_2, buildZ, partsZ, fillO, aggO, opS, opV, Go.Mx.look, fr0, argSlots, seqK, Fr.newBox, dropBp, mapO, callA, cellsA_v, cellsA_agg, okPart_v, okPart_agg, Value.oneCell', partA, loadS, fillA, newK, storeS, bindO, ev_draw, drawK, evP_q, evP_s, opAt_some, Try.underlying22, sz32, ag32, ze32, of32, ok13, pl15, splice]
  refine Sp.argW (args' := [rowE [exX], rowE [exT, exY]]) ⟨wkE [exX], wkE [exT, exY], trivial⟩ ?_
  refine diff_sp _ _ H _ (few_1 fewX) (few_2 fewT fewY) ?_
  rw [ex1, ex2]
  simp [opG_none, opA_call, putC_lt, loadT, repeatL_1, repeatL_2, opS, opV, Go.Mx.look, mapO, callA, cellsA_agg, okPart_agg, partA, loadS, fillA, evP_s, opAt_some, chkK_eq, sameV_some, sameO_some, allQ_nil, allQ_cons, valQ_none, valS_load, valS_buildSlice, rowT, rowF, Try.underlying22, sz32, ag32, ze32, ok13, delV]
  refine Sp.argW (args' := [rowE [exT, exY], rowE [exX]]) ⟨wkE [exT, exY], wkE [exX], trivial⟩ ?_
  refine diff_sp _ _ H _ (few_2 fewT fewY) (few_1 fewX) ?_
  rw [ex3, ex4]
  simp [ev_seq, ev_region2, evOps_cons, opG_none, opA_load, opA_call, opA_alloc, opA_store, opA_buildSlice, opA_build, putO_some, putH_lt, putC_lt, putU_none, loadT, allocT, storeT, buildSliceT, repeatL_1, repeatL_2, buildZ, partsZ, fillO, aggO, opS, opV, Go.Mx.look, seqK, Fr.newBox, dropBp, mapO, callA, cellsA_agg, cellsA_row, okPart_agg, okPart_row, partA, loadS, fillA, newK, storeS, bindO, evP_nil, evP_s, opAt_some, chkK_eq, sameV_some, sameO_some, allQ_nil, allQ_cons, valQ_none, valS_load, valS_buildSlice, rowT, rowF, Try.underlying22, sz28, ag28, ze28, of28, sz32, ag32, ze32, ok12, splice, delV]
  refine Sp.argW (args' := [delV [exY, exT] [], delV [exY, exT] []]) ⟨Wk.refl _, Wk.agg ⟨wkE [exY, exT], Wk.nil _, trivial⟩, trivial⟩ ?_
  refine deltas_sp _ _ _ _ H _ (few_2 fewY fewT) few_0 (few_2 fewY fewT) few_0 ?_
  simp [evOps_cons, opG_none, opG_some, opJ, opU_ft, isU_bool, opK_eq, opA_move, opA_load, opA_call, opA_buildSlice, opA_build, putO_some, putH_lt, putC_lt, condB_true, loadT, buildSliceT, repeatL_1, buildZ, partsZ, fillO, aggO, opS, opV, Go.Mx.look, Fr.known, mapO, callA, cellsA_agg, cellsA_row, okPart_agg, okPart_row, partA, loadS, fillA, bindO, Try.underlying22, sz28, ag28, ze28, of28, sz32, ag32, ze32, ok12]
  refine Sp.argW (args' := [delV [exX] [exT], delV [exX] [exT]]) ⟨Wk.refl _, Wk.agg ⟨wkE [exX], wkE [exT], trivial⟩, trivial⟩ ?_
  refine deltas_sp _ _ _ _ H _ (few_1 fewX) (few_1 fewT) (few_1 fewX) (few_1 fewT) ?_
  simp [ev_ret, evOps_nil, evOps_cons, opG_none, opA_assign, opA_pick, putO_some, putH_lt, putC_lt, pickT, opS, opV, Go.Mx.look, seqK, retK, retA, resA, mapO]
  exact h
set_option maxRecDepth 20000 in
theorem diffs_law (a b : Ens) : Sp Try.prog 3 [rowE a.1, rowE b.1] (fun v _ => v = .v (.bool true)) [] := by
  obtain ⟨a, za⟩ := a
  obtain ⟨b, zb⟩ := b
  refine Sp.body [] ⟨[], [], []⟩ [] mo Try.func3 rfl (Nat.le_of_ble_eq_true rfl) (by kernel_rfl) ?_
  simp [ev_seq, ev_region2, evOps_nil, evOps_cons, opG_none, opA_move, opA_assign, opA_call, opA_buildSlice, putO_some, putH_lt, buildSliceT, opS, opV, Go.Mx.look, fr0, argSlots, seqK, mapO, callA, cellsA_row, okPart_row, fillA, bindO, sz22, ze22, Try.underlying39, ok8, rowE]
  refine few_sp [a, b] [] _ (by simp) (by simpa using ⟨za, zb⟩) (fun hf => ?_) (fun _ => by simp [ev_seq, ev_cond2, ev_ret, ev_region2, evOps_nil, evOps_cons, opG_none, opA_assign, opA_un, putO_some, putH_lt, putC_lt, condB_true, unT, opS, opV, Go.Mx.look, seqK, Fr.known, retK, retA, resA, mapO, unA])
  have ha := (hf a (by simp)).to
  have hb := (hf b (by simp)).to
  simp [ev_skip, ev_seq, ev_cond2, ev_region2, evOps_nil, evOps_cons, opG_none, opA_move, opA_un, opA_call, putO_some, putH_lt, putC_lt, condB_false, unT, opS, opV, Go.Mx.look, seqK, Fr.known, mapO, unA, callA, ok10]
  refine sort_sp a [] _ ha ?_
  simp [evOps_cons, opG_none, opA_move, opA_call, putO_some, putH_lt, putC_lt, opS, opV, Go.Mx.look, mapO, callA, ok11]
  refine rsort_sp a [] _ ha.1 ?_
  simp [evOps_cons, opG_none, opA_call, putC_lt, opS, opV, Go.Mx.look, mapO, callA, ok9]
  refine same_sp _ _ [] _ (few_sort ha) (few_sort ha) ?_
  simp [evOps_cons, opG_none, opG_some, opJ, opU_ft, isU_bool, opK_eq, opA_move, opA_call, putO_some, putH_lt, putC_lt, condB_true, opS, opV, Go.Mx.look, Fr.known, mapO, callA, ok13]
  refine diff_sp a b [] _ ha hb ?_
  simp [evOps_cons, opG_some, opJ, opU_ft, isU_bool, opK_eq, opA_move, opA_call, putO_some, putH_lt, putC_lt, condB_true, opS, opV, Go.Mx.look, Fr.known, mapO, callA, ok14]
  refine rdiff a b [] _ ha hb ?_
  simp [evOps_cons, opG_some, opJ, opU_ft, isU_bool, opK_eq, opA_call, putC_lt, condB_true, opS, opV, Go.Mx.look, Fr.known, mapO, callA, ok12]
  refine deltas_sp _ _ _ _ [] _ (few_filter (few_sort hb) _) (few_filter (few_sort ha) _) (few_filter (few_sort hb) _) (few_filter (few_sort ha) _) ?_
  simp [evOps_cons, opG_none, opG_some, opJ, opU_ft, isU_bool, opK_eq, opA_move, opA_pick, opA_call, putO_some, putH_lt, putC_lt, condB_true, pickT, opS, opV, Go.Mx.look, Fr.known, mapO, callA, ok15]
  refine awake_sp _ _ ?_
  simp [ev_ret, evOps_nil, evOps_cons, opG_none, opA_assign, opA_pick, putO_some, putH_lt, putC_lt, pickT, opS, opV, Go.Mx.look, seqK, retK, retA, resA, mapO]
theorem few_setD {A B : List En} (h : Few1 B) : Few1 (setD A B) := few_filter h _
theorem few_goneD {A B : List En} (h : Few1 A) : Few1 (goneD A B) := few_filter h _
theorem join_few {dS dG eS eG : List En} (h1 : Few1 dS) (h2 : Few1 dG) (h3 : Few1 eS) (h4 : Few1 eG) (hn : dS.length + eS.length ≤ 300) (hm : dG.length + eG.length ≤ 300) : Few1 (setJ dS eS eG) ∧ Few1 (goneJ dG eS eG) := by
  have a1 := puts_len eS ((dS.filter (fun x => !hasK eS (keyE x) && !hasK eG (keyE x))).foldl putE [])
  have a2 := puts_len (dS.filter (fun x => !hasK eS (keyE x) && !hasK eG (keyE x))) []
  have a3 := List.length_filter_le (fun x => !hasK eS (keyE x) && !hasK eG (keyE x)) dS
  have b1 := puts_len (eG.filter (fun x => !hasK eS (keyE x) && !hasK (sortE dG) (keyE x))) ((dG.filter (fun x => !hasK eS (keyE x))).foldl putE [])
  have b2 := puts_len (dG.filter (fun x => !hasK eS (keyE x))) []
  have b3 := List.length_filter_le (fun x => !hasK eS (keyE x) && !hasK (sortE dG) (keyE x)) eG
  have b4 := List.length_filter_le (fun x => !hasK eS (keyE x)) dG
  simp only [List.length_nil] at a2 b2
  refine ⟨⟨by unfold setJ; omega, ?_⟩, ⟨by unfold goneJ; omega, ?_⟩⟩
  · exact few_puts (few_puts (by simp) (few_filter h1 _).2) h3.2
  · exact few_puts (few_puts (by simp) (few_filter h2 _).2) (few_filter h4 _).2
set_option maxRecDepth 20000 in
set_option maxHeartbeats 1000000 in
theorem steps_law (a b c : Ens) : Sp Try.prog 6 [rowE a.1, rowE b.1, rowE c.1] (fun v _ => v = .v (.bool true)) [] := by
  obtain ⟨a, za⟩ := a
  obtain ⟨b, zb⟩ := b
  obtain ⟨c, zc⟩ := c
  refine Sp.body [] ⟨[7, 8], [], pl6⟩ tb6 mo Try.func6 rfl (Nat.le_of_ble_eq_true rfl) (by kernel_rfl) ?_
  simp [ev_seq, ev_region2, evOps_nil, evOps_cons, opG_none, opA_move, opA_assign, opA_call, opA_buildSlice, putO_some, putH_lt, buildSliceT, opS, opV, Go.Mx.look, fr0, argSlots, seqK, mapO, callA, cellsA_row, okPart_row, fillA, bindO, sz22, ze22, Try.underlying39, ok8, pl6, rowE]
  refine few_sp [a, b, c] [] _ (by simp) (by simpa using ⟨za, zb, zc⟩) (fun hf => ?_) (fun _ => by simp [ev_seq, ev_cond2, ev_ret, ev_region2, evOps_nil, evOps_cons, opG_none, opA_assign, opA_un, putO_some, putH_lt, putC_lt, condB_true, unT, opS, opV, Go.Mx.look, seqK, Fr.known, retK, retA, resA, mapO, unA])
  have ha := (hf a (by simp)).to
  have hb := (hf b (by simp)).to
  have hc := (hf c (by simp)).to
  have la := sortE_len a
  have lb := sortE_len b
  have lc := sortE_len c
  have la2 := (hf a (by simp)).1
  have lb2 := (hf b (by simp)).1
  have lc2 := (hf c (by simp)).1
  have nA := sort_nice a
  have nB := sort_nice b
  have nC := sort_nice c
  have fA := few_sort ha
  have fB := few_sort hb
  have fC := few_sort hc
  have j1 := apply_diff nA nB
  have j2 := apply_diff nB nC
  have j3 := apply_join (dS := setD (sortE a) (sortE b)) (dG := goneD (sortE a) (sortE b)) (eS := setD (sortE b) (sortE c)) (eG := goneD (sortE b) (sortE c)) nA (nB.filter _) (nA.filter _) (nC.filter _) (nB.filter _)
  rw [j1, j2] at j3
  simp [ev_skip, ev_seq, ev_cond2, ev_region2, evOps_nil, evOps_cons, opG_none, opA_move, opA_un, opA_call, putO_some, putH_lt, putC_lt, condB_false, unT, opS, opV, Go.Mx.look, seqK, Fr.known, mapO, unA, callA, ok13]
  refine diff_sp a b [] _ ha hb ?_
  simp [evOps_cons, opG_none, opA_move, opA_call, putO_some, putH_lt, putC_lt, opS, opV, Go.Mx.look, mapO, callA, ok13, delV]
  refine diff_sp b c [] _ hb hc ?_
  simp [ev_seq, evOps_nil, evOps_cons, opG_none, opA_move, opA_load, opA_call, opA_alloc, opA_store, putO_some, putH_lt, putC_lt, putU_none, loadT, allocT, storeT, opS, opV, Go.Mx.look, seqK, Fr.newBox, dropBp, mapO, callA, cellsA_agg, okPart_agg, partA, loadS, newK, storeS, ev_draw, drawK, evP_q, evP_s, opAt_some, sz28, ag28, ze28, ok16, delV, splice]
  have s1 := List.length_filter_le (fun e => decide (e ∉ sortE a)) (sortE b)
  have s2 := List.length_filter_le (fun e => decide (e ∉ sortE b)) (sortE c)
  have s3 := List.length_filter_le (fun e => !(sortE b).any (fun x => decide (keyE x = keyE e))) (sortE a)
  have s4 := List.length_filter_le (fun e => !(sortE c).any (fun x => decide (keyE x = keyE e))) (sortE b)
  have hjf := join_few (dS := setD (sortE a) (sortE b)) (dG := goneD (sortE a) (sortE b)) (eS := setD (sortE b) (sortE c)) (eG := goneD (sortE b) (sortE c)) (few_setD fB) (few_goneD fA) (few_setD fC) (few_goneD fB) (by unfold setD; omega) (by unfold goneD; omega)
  refine apply_sp a _ _ [] _ ha (few_setD fB) (few_goneD fA) ?_
  rw [j1]
  simp [opG_none, opA_call, putC_lt, loadT, opS, opV, Go.Mx.look, mapO, callA, partA, loadS, evP_s, opAt_some, chkK_eq, sameV_some, sameO_some, allQ_nil, allQ_cons, valQ_none, valS_load, sz28, ag28, ok16]
  refine apply_sp (sortE b) _ _ [] _ fB (few_setD fC) (few_goneD fB) ?_
  rw [sort_self nB, j2]
  simp [ev_seq, ev_region2, evOps_cons, opG_none, opA_move, opA_assign, opA_load, opA_call, putO_some, putH_lt, putC_lt, loadT, opS, opV, Go.Mx.look, seqK, mapO, callA, partA, loadS, evP_nil, evP_s, opAt_some, chkK_eq, allQ_nil, sz28, ag28, ok17]
  refine join_sp _ _ _ _ [] _ (few_setD fB) (few_goneD fA) (few_setD fC) (few_goneD fB) ?_
  simp [evOps_cons, opG_none, opA_call, putC_lt, opS, opV, Go.Mx.look, mapO, callA, ok16, delV]
  refine apply_sp a _ _ [] _ ha hjf.1 hjf.2 ?_
  rw [j3]
  simp [ev_seq, ev_region2, evOps_nil, evOps_cons, opG_none, opA_move, opA_assign, opA_call, putO_some, putH_lt, putC_lt, opS, opV, Go.Mx.look, seqK, mapO, callA, ok10]
  refine sort_sp c [] _ hc ?_
  simp [evOps_cons, opG_none, opA_call, putC_lt, opS, opV, Go.Mx.look, mapO, callA, ok9]
  refine same_sp _ _ [] _ fC fC ?_
  simp [evOps_cons, opG_none, opG_some, opJ, opU_ft, isU_bool, opK_eq, opA_move, opA_call, putO_some, putH_lt, putC_lt, condB_true, opS, opV, Go.Mx.look, Fr.known, mapO, callA, ok9]
  refine same_sp _ _ [] _ fC fC ?_
  simp [evOps_cons, opG_none, opG_some, opJ, opU_ft, isU_bool, opK_eq, opA_move, opA_pick, opA_call, putO_some, putH_lt, putC_lt, condB_true, pickT, opS, opV, Go.Mx.look, Fr.known, mapO, callA, ok15]
  refine awake_sp _ _ ?_
  simp [ev_ret, evOps_nil, evOps_cons, opG_none, opA_assign, opA_pick, putO_some, putH_lt, putC_lt, pickT, opS, opV, Go.Mx.look, seqK, retK, retA, resA, mapO]
end Go.Proofs.Ytbdfhenelbakaaa
