import Derived.Test.YtdgdkgfkeinhbaaQ1
import Derived.Test.YtdgdkgfkeinhbaaMxSb
namespace Go.Proofs.Ytdgdkgfkeinhbaa
open Go.Mx
set_option linter.unusedVariables false
set_option linter.unusedSimpArgs false

/-- A deed. -/
structure Dd where
  kind : Int
  server : ByteArray
  text : ByteArray
  tok : ByteArray
  n : Int
def ddC (x : Dd) : List AV := [.v (.int .i64 x.kind), .v (.string x.server), .v (.string x.text), .v (.string x.tok), .v (.int .i64 x.n)]
theorem ddC_len (x : Dd) : (ddC x).length = 5 := rfl
theorem dd_read {xs : List AV} (h : Shp Try.prog 33 xs) : ∃ x : Dd, xs = ddC x ∧ True := by
  obtain ⟨ps, rfl, hp⟩ := shp_struct Try.underlying33 h
  obtain ⟨n0, e0, _⟩ := shp_int Try.underlying3 (hp 0 _ rfl)
  obtain ⟨s1, e1, _⟩ := shp_str Try.underlying9 (hp 1 _ rfl)
  obtain ⟨s2, e2, _⟩ := shp_str Try.underlying9 (hp 2 _ rfl)
  obtain ⟨s3, e3, _⟩ := shp_str Try.underlying9 (hp 3 _ rfl)
  obtain ⟨n4, e4, _⟩ := shp_int Try.underlying3 (hp 4 _ rfl)
  exact ⟨⟨n0, s1, s2, s3, n4⟩, by simp [List.range_succ, e0, e1, e2, e3, e4, ddC], trivial⟩
def ddsV (l : List Dd) : AV := .row false l.length (l.flatMap ddC)
theorem dds_read {x : AV} (h : Shp Try.prog 31 [x]) : ∃ l : List Dd, x = ddsV l := by
  obtain ⟨l, h1, _, _⟩ := shp_rows Try.underlying31 (fun _ ha => dd_read ha) h
  simp at h1
  exact ⟨l, h1⟩
def rowS (l : List ByteArray) : AV := .row false l.length (l.map strV)
theorem rowS_is (l : List ByteArray) : RowS (rowS l) l := .inl ⟨false, rfl⟩
theorem strs_read {x : AV} (h : Shp Try.prog 22 [x]) : ∃ l : List ByteArray, x = rowS l := by
  obtain ⟨l, h1, _, _⟩ := shp_rows (p := fun _ : ByteArray => True) (f := fun s => [strV s]) Try.underlying22 (fun _ ha => by obtain ⟨s, e, _⟩ := shp_str Try.underlying9 ha; exact ⟨s, by simpa [strV] using e, trivial⟩) h
  simp at h1
  refine ⟨l, by rw [h1]; unfold rowS; rw [List.map_eq_flatMap]⟩
theorem one_read {x : AV} (h : Shp Try.prog 33 [x]) : ∃ d : Dd, True := ⟨⟨0, ⟨#[]⟩, ⟨#[]⟩, ⟨#[]⟩, 0⟩, trivial⟩

/-- Few and small. -/
def FewD (x : Dd) : Prop := x.text.size ≤ 500 ∧ x.server.size ≤ 100 ∧ x.tok.size ≤ 100
def Few (l : List Dd) (sl : List ByteArray) : Prop := l.length ≤ 100 ∧ sl.length ≤ 100 ∧ (∀ s ∈ sl, s.size ≤ 100) ∧ ∀ x ∈ l, FewD x
theorem few_sp (l : List Dd) (sv : AV) (sl : List ByteArray) (x0 : Bool) (H : Hp) (Q : AV → Hp → Prop) (hsv : RowS sv sl) (h1 : Few l sl → Q (.v (.bool true)) H) (h0 : ¬ Few l sl → Q (.v (.bool false)) H) :
    Sp Try.prog 11 [.row x0 l.length (l.flatMap ddC), sv] Q H := by
  refine Sp.body [(4, ⟨[0, 1, 5], [], []⟩), (9, ⟨[0, 6], [], []⟩)] ⟨[], [], []⟩ [] mo Try.func11 rfl (Nat.le_of_ble_eq_true rfl) (by kernel_rfl) ?_
  have hlen : ∀ t, lenT t (some (.slice 9)) (some sv) = some (.av (.v (.int .i64 sl.length))) := fun t => by
    rcases hsv with ⟨x, rfl⟩ | ⟨rfl, rfl⟩ <;> rfl
  simp [ev_skip, ev_seq, ev_cond2, ev_block, ev_ret, ev_region2, ev_loop, loopK, evOps_nil, evOps_cons, opG_none, opG_some, opJ, opU_ff, isU_bool, opK_eq, opA_move, opA_assign, opA_pick, opA_bin, opA_len, putO_some, putH_lt, putV_lt, condB_true, condB_false, binT_some, binA, avO_some, pickT, lenT_row, io_gtr, opS, opV, Go.Mx.look, fr0, argSlots, seqK, Fr.known, retK, retA, resA, mapO, headK, getV, getB, chkP, firstReg, orO_some, eqT_some, tk3, Try.underlying22, Try.underlying31, hlen]
  refine ⟨fun h => h0 (fun hf => by have := hf.1; omega), fun h => ⟨fun h2 => h0 (fun hf => by have := hf.2.1; omega), fun h2 => ?_⟩⟩
  refine LoopC.intro (fun n xs _ H2 => ∃ i : Nat, i ≤ sl.length ∧ n = sl.length - i ∧ (∀ j s, j < i → sl[j]? = some s → s.size ≤ 100) ∧ xs = [.row x0 l.length (l.flatMap ddC), sv, .v (.int .i64 i)] ∧ H2 = H) sl.length
    ⟨0, by omega, rfl, fun j x hj => by omega, rfl, rfl⟩ ?_
  rintro n xs bs H2 ⟨i, hi, rfl, hj, rfl, rfl⟩
  simp [ev_skip, ev_seq, ev_cond2, ev_block, ev_exit, ev_region2, ev_loop, loopK, evOps_nil, evOps_cons, opG_none, opA_move, opA_assign, opA_bin, opA_indexAddr, opA_len, putO_some, putH_lt, binT_some, binA, avO_some, indexAddrT, io_lss, opS, opV, Go.Mx.look, seqK, blockK, Fr.known, mapO, indexAddrA, headK, getV, getB, chkP, mkFr, slotsOf, ptrsOf, boxesOf, firstReg, orO_some, eqT_some, tk3, sz9, Try.underlying22, hlen]
  refine ⟨fun hlt => ?_, fun hge => ?_⟩
  · rcases hsv with ⟨x, rfl⟩ | ⟨rfl, rfl⟩
    · have hx := List.getElem?_eq_getElem hlt
      have w1 : IntKind.i64.wrap ((i : Int) + 1) = (i : Int) + 1 := wr_i64 (by omega)
      simp [ev_skip, ev_seq, ev_cond2, ev_ret, ev_region2, evOps_nil, evOps_cons, opG_none, opA_move, opA_assign, opA_bin, opA_load, opA_len, putO_some, putH_lt, binT_some, binA, avO_some, loadT, lenT_str, io_add, io_gtr, opS, opV, Go.Mx.look, seqK, blockK, Fr.known, retK, retA, resA, mapO, partA, loadA, loadS, headK, getV, getB, chkP, orO_some, eqT_some, tk3, sz9, ag9, Try.underlying9, hlt, strV, w1]
      refine ⟨fun hb => h0 (fun hf => by have := hf.2.2.1 _ (List.getElem_mem hlt); omega), fun hb => ?_⟩
      refine ⟨sl.length - (i + 1), by omega, i + 1, by omega, rfl, fun j s hj2 hs => ?_, by simp⟩
      rcases Nat.lt_or_ge j i with h3 | h3
      · exact hj j s h3 hs
      · obtain rfl : j = i := by omega
        rw [hx] at hs; simp at hs; subst hs; omega
    · simp at hlt
  · have hsz : ∀ s ∈ sl, s.size ≤ 100 := fun s hs => by
      obtain ⟨j, hj2⟩ := List.getElem?_of_mem hs
      exact hj j s (by have := (List.getElem?_eq_some_iff.1 hj2).1; omega) hj2
    clear hj hi hge
    refine LoopC.intro (fun n xs _ H3 => ∃ i : Nat, i ≤ l.length ∧ n = l.length - i ∧ (∀ j x, j < i → l[j]? = some x → FewD x) ∧ xs = [.row x0 l.length (l.flatMap ddC), .v (.int .i64 i)] ∧ H3 = H2) l.length
      ⟨0, by omega, rfl, fun j x hj => by omega, rfl, rfl⟩ ?_
    rintro n xs bs H3 ⟨i, hi, rfl, hj, rfl, rfl⟩
    simp [ev_skip, ev_seq, ev_cond2, ev_block, ev_exit, ev_ret, ev_region2, evOps_nil, evOps_cons, opG_none, opA_move, opA_assign, opA_bin, opA_indexAddr, opA_len, putO_some, putH_lt, binT_some, binA, avO_some, lenT_row, indexAddrT, io_lss, opS, opV, Go.Mx.look, seqK, blockK, Fr.known, retK, retA, resA, mapO, indexAddrA, mkFr, slotsOf, ptrsOf, boxesOf, orO_some, eqT_some, tk3, Try.underlying31, sz33]
    refine ⟨fun hlt => ?_, fun hge => ?_⟩
    · have hx := List.getElem?_eq_getElem hlt
      generalize l[i] = x at hx
      have g1 := flat_get ddC_len hx 1 (by omega)
      have g2 := flat_get ddC_len hx 2 (by omega)
      have g3 := flat_get ddC_len hx 3 (by omega)
      simp [ddC] at g1 g2 g3
      have w1 : IntKind.i64.wrap ((i : Int) + 1) = (i : Int) + 1 := wr_i64 (by omega)
      simp [ev_skip, ev_seq, ev_cond2, ev_ret, ev_region2, evOps_nil, evOps_cons, opG_none, opG_some, opJ, opU_ff, isU_bool, opK_eq, opA_move, opA_assign, opA_pick, opA_bin, opA_load, opA_indexAddr, opA_fieldAddr, opA_len, putO_some, putH_lt, putV_lt, condB_true, condB_false, binT_some, binA, avO_some, pickT, loadT, lenT_str, fieldAddrT, indexAddrT, io_add, io_gtr, opS, opV, Go.Mx.look, seqK, blockK, Fr.known, retK, retA, resA, mapO, partA, loadA, loadS, plusS, indexAddrA, headK, getV, getB, chkP, orO_some, eqT_some, tk3, sz9, ag9, Try.underlying9, Try.underlying31, sz33, Try.underlying33, g1, g2, g3, hlt, w1]
      have hm := List.mem_of_getElem? hx
      refine ⟨fun hb => h0 (fun hf => by have := (hf.2.2.2 x hm).1; omega), fun hb => ⟨fun hb2 => h0 (fun hf => by have := (hf.2.2.2 x hm).2.1; omega), fun hb2 => ⟨fun hb3 => h0 (fun hf => by have := (hf.2.2.2 x hm).2.2; omega), fun hb3 => ?_⟩⟩⟩
      refine ⟨l.length - (i + 1), by omega, i + 1, by omega, rfl, fun j y hj2 hy => ?_, by simp⟩
      rcases Nat.lt_or_ge j i with h3 | h3
      · exact hj j y h3 hy
      · obtain rfl : j = i := by omega
        rw [hx] at hy; simp at hy; subst hy; exact ⟨by omega, by omega, by omega⟩
    · refine h1 ⟨by omega, by omega, hsz, fun x hx => ?_⟩
      obtain ⟨j, hj2⟩ := List.getElem?_of_mem hx
      exact hj j x (by have := (List.getElem?_eq_some_iff.1 hj2).1; omega) hj2

theorem b1 (x : Bool) (b : UInt8) : BytesV (.row x 1 [.v (.int .u8 b.toNat)]) [b] := .inl ⟨x, rfl⟩
theorem let1 : letN 1 = tx [65, 65, 65, 65, 65, 65, 65, 65, 65, 65, 69] := by decide +kernel
theorem let2 : letN 2 = tx [65, 65, 65, 65, 65, 65, 65, 65, 65, 65, 73] := by decide +kernel

theorem awake_sp (H : Hp) (Q : AV → Hp → Prop) (h : Q (.v (.bool true)) H) : Sp Try.prog 10 [] Q H := by
  refine Sp.clean (Sp.body [] ⟨[], [14, 18, 22, 27, 53, 60], []⟩ [] mo Try.func10 rfl (Nat.le_of_ble_eq_true rfl) (by kernel_rfl) ?_)
  simp [ev_seq, ev_region2, evOps_nil, evOps_cons, opG_none, opA_assign, opA_call, opA_buildSlice, putO_some, putH_lt, buildSliceT, opS, opV, Go.Mx.look, fr0, argSlots, seqK, mapO, callA, cellsA_v, okPart_v, Value.oneCell', fillA, bindO, sz9, ze9, Try.underlying22, ok8, mk_tx]
  have hok : OkN [tx [97], tx [98]] := ⟨by decide, by decide⟩
  refine new_sp _ [tx [97], tx [98]] H _ (.inl ⟨true, rfl⟩) (by decide) (fun h => absurd hok h) (fun _ a H1 fp ht hs hf => ?_)
  simp [ev_seq, ev_region2, evOps_nil, evOps_cons, opG_none, opA_move, opA_assign, opA_extract, opA_call, opA_buildSlice, opA_convert, putO_some, putH_lt, putC_lt, extractT, buildSliceT, convT, opS, opV, Go.Mx.look, seqK, mapO, callA, extractA, cellsA_v, okPart_v, Value.oneCell', fillA, bindO, sz5, ze5, Try.underlying5, Try.underlying28, ok9]
  have hd : ∀ {H' : Hp} {G : List Ob}, Same [] H' (H' ++ G) := fun {H' G} => Same.app [] _ _
  refine digest_sp _ [49] _ (ht.same hd (by simp)) (b1 _ 49) (by simp) (fun H2 ht2 s2 => ?_)
  rw [show addT [] (tx [49]) = [tx [49]] from rfl] at ht2
  have q2 : Same [] H H2 := (hs.trans hd (by simp)).new s2 hf
  simp [evOps_cons, opG_none, opA_move, opA_call, opA_buildSlice, opA_convert, putO_some, putH_lt, putC_lt, buildSliceT, convT, opS, opV, Go.Mx.look, mapO, callA, cellsA_v, okPart_v, Value.oneCell', fillA, bindO, sz5, ze5, Try.underlying5, Try.underlying28, ok9]
  refine digest_sp _ [50] _ (ht2.same hd (by simp)) (b1 _ 50) (by simp) (fun H3 ht3 s3 => ?_)
  rw [show addT [tx [49]] (tx [50]) = [tx [49], tx [50]] from by decide +kernel] at ht3
  have q3 : Same [] H H3 := (q2.trans hd (by simp)).new s3 hf
  simp [evOps_cons, opG_none, opA_move, opA_call, opA_buildSlice, opA_convert, putO_some, putH_lt, putC_lt, buildSliceT, convT, opS, opV, Go.Mx.look, mapO, callA, cellsA_v, okPart_v, Value.oneCell', fillA, bindO, sz5, ze5, Try.underlying5, Try.underlying28, ok9]
  refine digest_sp _ [49] _ (ht3.same hd (by simp)) (b1 _ 49) (by simp) (fun H4 ht4 s4 => ?_)
  rw [show addT [tx [49], tx [50]] (tx [49]) = [tx [49], tx [50]] from by decide +kernel] at ht4
  have q4 : Same [] H H4 := (q3.trans hd (by simp)).new s4 hf
  rw [show numT [] (tx [49]) = 1 from rfl, show numT [tx [49]] (tx [50]) = 2 from by decide +kernel, show numT [tx [49], tx [50]] (tx [49]) = 1 from by decide +kernel]
  simp [ev_seq, ev_region2, evOps_nil, evOps_cons, opG_none, opA_move, opA_assign, opA_call, opA_buildSlice, opA_convert, putO_some, putH_lt, putC_lt, buildSliceT, convT, opS, opV, Go.Mx.look, seqK, mapO, callA, cellsA_v, okPart_v, Value.oneCell', fillA, bindO, sz5, ze5, Try.underlying5, Try.underlying28, ok12]
  refine sign_sp _ _ [49] _ (ht4.same hd (by simp)) (b1 _ 49) (by simp) (by simp) (by decide) (by decide) (fun h => absurd h (by simp)) (fun _ H5 ht5 s5 => ?_)
  rw [show addT [] (tx [97], tx [49]) = [(tx [97], tx [49])] from rfl] at ht5
  have q5 : Same [] H H5 := (q4.trans hd (by simp)).new s5 hf
  rw [show numT [] (tx [97], tx [49]) = 1 from rfl]
  simp [ev_seq, ev_region2, evOps_nil, evOps_cons, opG_none, opG_some, opJ, opU_ft, isU_bool, opK_eq, opA_move, opA_assign, opA_pick, opA_bin, opA_extract, opA_call, opA_buildSlice, opA_convert, putO_some, putH_lt, putC_lt, condB_true, binT_some, binA, avO_some, pickT, extractT, buildSliceT, convT, io_eql, strOp, opS, opV, Go.Mx.look, seqK, Fr.known, mapO, callA, extractA, cellsA_v, okPart_v, Value.oneCell', fillA, bindO, orO_some, eqT_some, sz5, ze5, Try.underlying5, tk9, tk24, Try.underlying28, ok13, tx_list, let1, let2]
  refine verify_sp _ _ [49] _ _ (ht5.same hd (by simp)) (b1 _ 49) (by simp) (by decide) (by decide) ?_
  rw [show decide (numT [(tx [97], tx [49])] (tx [97], tx [49]) ≤ [(tx [97], tx [49])].length ∧ letN (numT [(tx [97], tx [49])] (tx [97], tx [49])) = tx [65, 65, 65, 65, 65, 65, 65, 65, 65, 65, 69]) = true from by decide +kernel]
  simp [evOps_cons, opG_none, opG_some, opJ, opU_ft, isU_bool, opK_eq, opA_move, opA_pick, opA_call, opA_buildSlice, opA_convert, putO_some, putH_lt, putC_lt, condB_true, pickT, buildSliceT, convT, opS, opV, Go.Mx.look, Fr.known, mapO, callA, cellsA_v, okPart_v, Value.oneCell', fillA, bindO, sz5, ze5, Try.underlying5, Try.underlying28, ok13]
  refine verify_sp _ _ [49] _ _ (ht5.same (H' := H5 ++ [Ob.dead, Ob.dead]) hd (by simp)) (b1 _ 49) (by simp) (by decide) (by decide) ?_
  rw [show decide (numT [(tx [97], tx [49])] (tx [98], tx [49]) ≤ [(tx [97], tx [49])].length ∧ letN (numT [(tx [97], tx [49])] (tx [98], tx [49])) = tx [65, 65, 65, 65, 65, 65, 65, 65, 65, 65, 69]) = false from by decide +kernel]
  simp [ev_ret, evOps_nil, evOps_cons, opG_none, opG_some, opJ, opU_ft, isU_bool, opK_eq, opA_assign, opA_pick, opA_un, putO_some, putH_lt, putC_lt, condB_true, pickT, unT, opS, opV, Go.Mx.look, seqK, Fr.known, retK, retA, resA, mapO, unA]
  obtain ⟨G, rfl⟩ := q5.grown
  exact ⟨⟨_, List.append_assoc _ _ _⟩, h⟩
end Go.Proofs.Ytdgdkgfkeinhbaa

namespace Go.Proofs.Ytdgdkgfkeinhbaa
open Go.Mx
set_option linter.unusedVariables false
set_option linter.unusedSimpArgs false

/-- Slices of texts that are told, one by one. -/
def Told (H : Hp) (D : List ByteArray) (dv : AV) (fp : List Nat) : Prop := NewR [] H (D.map strV) dv ∧ ∀ id ver a b n, dv = .sl id ver a b n → id ∉ fp
theorem Told.nil (H : Hp) (fp : List Nat) : Told H [] (.v (.slice none 0 0)) fp := ⟨.inl ⟨rfl, rfl⟩, fun id ver a b n h => by simp at h⟩
theorem Told.same {H H' : Hp} {D : List ByteArray} {dv : AV} {fp fp' : List Nat} (h : Told H D dv fp) (hs : Same fp' H H') (hsub : ∀ j ∈ fp', j ∈ fp) : Told H' D dv fp :=
  ⟨h.1.same hs (fun id ver e hm => h.2 id ver _ _ _ e (hsub id hm)), h.2⟩
theorem Told.app {H : Hp} {D : List ByteArray} {dv : AV} {fp : List Nat} {x : Bool} {s : ByteArray} {k : AV → Hp → Prop} (h : Told H D dv fp) (hf : ∀ j ∈ fp, j < H.length) (hb : (D.length + 1) * 16 ≤ 140737488355328)
    (hq : ∀ dv' H', Told H' (D ++ [s]) dv' fp → (∀ fp2, Same fp2 H H' → True) → (∀ j o, j ∈ fp → H[j]? = some o → H'[j]? = some o) → H.length ≤ H'.length → k dv' H') : appA H 1 16 dv (.row x 1 [.v (.string s)]) k := by
  refine h.1.app (by simp) (by simp; omega) (fun v' H' fp' hn hs hj hi => hq v' H' ⟨by simpa [strV] using hn, fun id ver a b n e hm => ?_⟩ (fun _ _ => trivial) (fun j o hm ho => hs.2 j o ho (fun hm2 => ?_)) hs.1)
  · rcases hi id ver a b n e with h1 | ⟨ver', h1⟩
    · have := hf id hm; omega
    · exact h.2 _ _ _ _ _ h1 hm
  · obtain ⟨_, ver, ds, _, e⟩ := hj j hm2
    exact h.2 _ _ _ _ _ e hm
theorem Told.at {H : Hp} {D : List ByteArray} {dv : AV} {fp : List Nat} (h : Told H D dv fp) (hne : D ≠ []) : ∃ id ver tl, dv = .sl id ver 1 0 D.length ∧ H[id]? = some (.cells ver (D.map strV ++ tl)) := by
  rcases h.1 with ⟨e, _⟩ | ⟨_, id, ver, tl, e1, e2, _⟩
  · exact absurd (by simpa using e) hne
  · exact ⟨id, ver, tl, by simpa using e1, e2⟩
theorem Told.len {H H' : Hp} {D : List ByteArray} {dv : AV} {fp : List Nat} (h : Told H D dv fp) : lenT H' (some (.slice 9)) (some dv) = some (.av (.v (.int .i64 D.length))) := by
  rcases h.1 with ⟨e, rfl⟩ | ⟨_, id, ver, tl, rfl, _, _⟩
  · have : D = [] := by simpa using e
    subst this; rfl
  · simp [lenT, lenA]
theorem table_keep {H H' : Hp} {a : Nat} {sl tl : List ByteArray} {gl : List (ByteArray × ByteArray)} {fp : List Nat} (h : TableAt H a sl tl gl fp) (hk : ∀ j o, j ∈ fp → H[j]? = some o → H'[j]? = some o) (hl : H.length ≤ H'.length) : TableAt H' a sl tl gl fp := by
  obtain ⟨sv, m1, m2, h1, h2, ⟨f, ⟨es, c, k1, k2⟩, h4⟩, ⟨g, ⟨es2, c2, k3, k4⟩, h6⟩, h7, rfl⟩ := h
  exact ⟨sv, m1, m2, hk _ _ (by simp) h1, h2, ⟨f, ⟨es, c, hk _ _ (by simp) k1, k2⟩, h4⟩, ⟨g, ⟨es2, c2, hk _ _ (by simp) k3, k4⟩, h6⟩, h7, rfl⟩
theorem bytesStr (s : ByteArray) : BytesV (.row false s.size (s.data.toList.map u8A)) s.data.toList := .inl ⟨false, rfl⟩
theorem tx_data (s : ByteArray) : tx s.data.toList = s := by simp [tx]

set_option maxRecDepth 20000 in
set_option maxHeartbeats 4000000 in
theorem apart_law (l : List ByteArray) : Sp Try.prog 3 [rowS l] (fun v _ => v = .v (.bool true)) [] := by
  refine Sp.body [(6, ⟨[0, 3, 4, 5, 6], [], []⟩), (12, ⟨[0, 3, 4, 5, 7], [], []⟩), (15, ⟨[0, 3, 4, 5, 7, 8], [], []⟩)] ⟨[], [], pl3⟩ tb3 mo Try.func3 rfl (Nat.le_of_ble_eq_true rfl) (by kernel_rfl) ?_
  simp [ev_skip, ev_seq, ev_cond2, ev_ret, ev_region2, evOps_nil, evOps_cons, opG_none, opA_move, opA_assign, opA_bin, opA_len, opA_call, putO_some, putH_lt, binT_some, binA, avO_some, lenT_row, io_gtr, opS, opV, Go.Mx.look, fr0, argSlots, seqK, Fr.known, retK, retA, resA, mapO, callA, orO_some, eqT_some, tk3, Try.underlying22, ok8, pl3, rowS]
  intro h60
  refine new_sp _ [] _ _ (.inr ⟨rfl, rfl⟩) (by simp) (fun h => absurd ⟨by simp, by simp⟩ h) (fun _ a H1 fp ht hs hf => ?_)
  simp [ev_seq, ev_block, ev_region2, ev_loop, loopK, evOps_nil, evOps_cons, opG_none, opA_move, opA_assign, opA_extract, putO_some, putH_lt, putC_lt, extractT, opS, opV, Go.Mx.look, seqK, mapO, extractA, headK, getV, getB, chkP, firstReg]
  refine LoopC.intro (fun n xs _ H2 => ∃ (i : Nat) (T D : List ByteArray) (dv : AV), i ≤ l.length ∧ n = l.length - i ∧ xs = [rowS l, .ptr a 0 0, .v (.int .i64 0), dv, .v (.int .i64 i)] ∧ TableAt H2 a [] T [] fp ∧ Told H2 D dv fp ∧ T.length ≤ i ∧ D.length = i ∧
      (∀ j s, j < i → l[j]? = some s → numT T s ≤ T.length ∧ D[j]? = some (letN (numT T s)))) l.length
    ⟨0, [], [], _, by omega, rfl, rfl, ht, Told.nil _ _, by simp, rfl, fun j s hj => by omega⟩ ?_
  rintro n xs bs H2 ⟨i, T, D, dv, hi, rfl, rfl, ht2, hD, hT, hDl, hall⟩
  simp [ev_skip, ev_seq, ev_cond2, ev_block, ev_exit, ev_region2, ev_loop, loopK, evOps_nil, evOps_cons, opG_none, opA_move, opA_assign, opA_bin, opA_indexAddr, opA_len, putO_some, putH_lt, binT_some, binA, avO_some, lenT_row, indexAddrT, io_lss, opS, opV, Go.Mx.look, seqK, blockK, Fr.known, mapO, indexAddrA, headK, getV, getB, chkP, mkFr, slotsOf, ptrsOf, boxesOf, firstReg, orO_some, eqT_some, tk3, sz9, Try.underlying22, rowS]
  refine ⟨fun hlt => ?_, fun hge => ?_⟩
  · have hx := List.getElem?_eq_getElem hlt
    have w1 : IntKind.i64.wrap ((i : Int) + 1) = (i : Int) + 1 := wr_i64 (by omega)
    simp [ev_skip, ev_seq, ev_cond2, ev_ret, ev_region2, evOps_nil, evOps_cons, opG_none, opA_move, opA_assign, opA_bin, opA_load, opA_indexAddr, opA_len, opA_call, opA_convert, putO_some, putH_lt, binT_some, binA, avO_some, loadT, lenT_str, indexAddrT, convT, io_gtr, opS, opV, Go.Mx.look, seqK, blockK, Fr.known, retK, retA, resA, mapO, callA, partA, loadA, loadS, indexAddrA, orO_some, eqT_some, tk3, Try.underlying5, sz9, ag9, Try.underlying9, Try.underlying22, Try.underlying28, ok9, hlt, strV]
    intro _
    generalize l[i] = s at hx
    refine digest_sp _ s.data.toList _ ht2 (bytesStr s) (by omega) (fun H3 ht3 s3 => ?_)
    have hD3 := hD.same s3 (fun j h => h)
    rw [tx_data] at ht3 ⊢
    simp [evOps_cons, opG_none, opA_buildSlice, opA_append, putH_lt, putC_lt, buildSliceT, appendT, opS, opV, Go.Mx.look, mapO, cellsA_v, okPart_v, Value.oneCell', fillA, bindO, srcTy, sz9, by9, ze9, st22, Try.underlying22]
    refine hD3.app ht3.lt (by omega) (fun dv' H4 hD4 _ hk hle => ?_)
    have ht4 := table_keep ht3 hk hle
    simp [ev_region2, evOps_nil, evOps_cons, opG_none, opA_move, opA_assign, opA_bin, putO_some, putH_lt, putC_lt, binT_some, binA, avO_some, io_add, opS, opV, Go.Mx.look, seqK, blockK, mapO, headK, getV, getB, chkP, orO_some, eqT_some, tk3, w1]
    have ha := addT_len T s
    refine ⟨l.length - (i + 1), by omega, i + 1, by omega, rfl, addT T s, D ++ [letN (numT T s)], dv', by simp, ht4, hD4, by omega, by simp [hDl], fun j s' hj hs' => ?_⟩
    rcases Nat.lt_or_ge j i with h3 | h3
    · obtain ⟨h4, h5⟩ := hall j s' h3 hs'
      rw [numT_old s h4, List.getElem?_append_left (by omega)]
      exact ⟨by omega, h5⟩
    · obtain rfl : j = i := by omega
      rw [hx] at hs'; simp at hs'; subst hs'
      exact ⟨numT_in T s, by rw [numT_add, List.getElem?_append_right (by omega), hDl]; simp⟩
  · obtain rfl : i = l.length := by omega
    clear hge hi
    refine LoopC.intro (fun n xs _ H3 => ∃ (i : Nat), i ≤ l.length ∧ n = l.length - i ∧ xs = [rowS l, .ptr a 0 0, .v (.int .i64 0), dv, .v (.int .i64 i)] ∧ TableAt H3 a [] T [] fp ∧ Told H3 D dv fp) l.length
      ⟨0, by omega, rfl, rfl, ht2, hD⟩ ?_
    clear ht2 hD
    rintro n xs bs H3 ⟨i, hi, rfl, rfl, ht3, hD3⟩
    simp [ev_skip, ev_seq, ev_cond2, ev_block, ev_exit, ev_region2, ev_loop, loopK, evOps_nil, evOps_cons, opG_none, opG_some, opJ, opU_ft, isU_bool, opK_eq, opA_move, opA_assign, opA_pick, opA_bin, opA_len, opA_call, putO_some, putH_lt, putV_lt, condB_true, condB_false, binT_some, binA, avO_some, pickT, lenT_row, io_eql, io_lss, opS, opV, Go.Mx.look, seqK, blockK, Fr.known, mapO, callA, headK, getV, getB, chkP, mkFr, slotsOf, ptrsOf, boxesOf, firstReg, orO_some, eqT_some, tk3, Try.underlying22, tk24, ok10, rowS]
    refine ⟨fun hlt => ?_, fun hge => ?_⟩
    · have w1 : IntKind.i64.wrap ((i : Int) + 1) = (i : Int) + 1 := wr_i64 (by omega)
      have hxi := List.getElem?_eq_getElem hlt
      obtain ⟨hn1, hd1⟩ := hall i _ hlt hxi
      refine LoopC.intro (fun n xs _ H4 => ∃ (k : Nat), k ≤ l.length ∧ n = l.length - k ∧ xs = [rowS l, .ptr a 0 0, .v (.int .i64 0), dv, .v (.int .i64 i), .v (.int .i64 k)] ∧ TableAt H4 a [] T [] fp ∧ Told H4 D dv fp) l.length
        ⟨0, by omega, rfl, rfl, ht3, hD3⟩ ?_
      clear ht3 hD3
      rintro n xs bs H4 ⟨k, hk, rfl, rfl, ht4, hD4⟩
      simp [ev_skip, ev_seq, ev_cond2, ev_block, ev_exit, ev_region2, evOps_nil, evOps_cons, opG_none, opA_move, opA_assign, opA_bin, opA_indexAddr, opA_len, putO_some, putH_lt, binT_some, binA, avO_some, lenT_row, indexAddrT, io_add, io_lss, opS, opV, Go.Mx.look, seqK, blockK, Fr.known, mapO, indexAddrA, headK, getV, getB, chkP, mkFr, slotsOf, ptrsOf, boxesOf, orO_some, eqT_some, ev_draw, drawK, evP_q, opAt_some, tk3, sz9, Try.underlying22, rowS]
      refine ⟨fun hlt2 => ?_, fun hge2 => ?_⟩
      · have w2 : IntKind.i64.wrap ((k : Int) + 1) = (k : Int) + 1 := wr_i64 (by omega)
        have hxk := List.getElem?_eq_getElem hlt2
        obtain ⟨hn2, hd2⟩ := hall k _ hlt2 hxk
        obtain ⟨id, ver, tl, rfl, hid⟩ := hD4.at (by intro e; rw [e] at hDl; simp at hDl; omega)
        have c1 : (D.map strV ++ tl)[i]? = some (strV (letN (numT T l[i]))) := by rw [List.getElem?_append_left (by simp; omega), List.getElem?_map, hd1]; rfl
        have c2 : (D.map strV ++ tl)[k]? = some (strV (letN (numT T l[k]))) := by rw [List.getElem?_append_left (by simp; omega), List.getElem?_map, hd2]; rfl
        have hl1 : i < D.length := by omega
        have hl2 : k < D.length := by omega
        have hsame : (letN (numT T l[i]) = letN (numT T l[k])) = (l[i] = l[k]) := by
          rw [eq_iff_iff]
          exact ⟨fun e => numT_inj hn1 (letN_inj (by omega) (by omega) e), fun e => by rw [e]⟩
        generalize (D.map strV ++ tl) = cs at hid c1 c2
        simp [ev_seq, ev_cond2, ev_ret, ev_region2, evOps_nil, evOps_cons, opG_none, opG_some, opJ, opU_ff, isU_bool, valU_false, opK_eq, opA_move, opA_assign, opA_pick, opA_bin, opA_load, opA_indexAddr, opA_call, opA_convert, putO_some, putH_lt, putV_lt, condB_true, condB_false, binT_some, binA, eqRef, avO_some, pickT, loadT, indexAddrT, convT, strOp, opS, opV, Go.Mx.look, seqK, blockK, Fr.known, retK, retA, resA, mapO, callA, partA, loadA, loadS, indexAddrA, orO_some, eqT_some, evP_nil, evP_q, evP_s, opAt_some, chkK_eq, sameV_some, sameO_some, allQ_nil, allQ_cons, valJ, valQ_some, tk4, Try.underlying5, sz9, ag9, tk9, Try.underlying9, Try.underlying22, Try.underlying28, ok9, hid, c1, c2, hl1, hl2, hlt, hlt2, strV]
        have hbe : ((letN (numT T l[i])).toList == (letN (numT T l[k])).toList) = (l[i].toList == l[k].toList) := by
          rw [Bool.eq_iff_iff, beq_iff_eq, beq_iff_eq, bl_inj, bl_inj]; exact iff_of_eq hsame
        refine ⟨hbe, fun _ => ?_⟩
        refine digest_sp _ l[k].data.toList _ ht4 (bytesStr l[k]) (by omega) (fun H5 ht5 s5 => ?_)
        rw [tx_data] at ht5 ⊢
        have hT2 : addT T l[k] = T := by unfold addT; rw [if_pos hn2]
        rw [hT2] at ht5
        have hid5 := s5.2 _ _ hid (hD4.2 _ _ _ _ _ rfl)
        have hD5 := hD4.same s5 (fun j h => h)
        simp [ev_skip, ev_cond2, ev_region2, evOps_nil, evOps_cons, opG_none, opG_some, opJ, opU_ff, isU_bool, valU_false, opK_eq, opA_move, opA_assign, opA_pick, opA_bin, putO_some, putH_lt, putC_lt, condB_false, binT_some, binA, avO_some, pickT, loadT, indexAddrT, io_add, strOp, opS, opV, Go.Mx.look, seqK, blockK, Fr.known, mapO, partA, loadA, loadS, indexAddrA, headK, getV, getB, chkP, orO_some, eqT_some, evP_nil, evP_q, opAt_some, chkK_eq, sameV_some, sameO_some, allQ_nil, allQ_cons, valJ, valQ_some, valS_move, valS_load, valS_indexAddr, tk3, sz9, ag9, tk9, Try.underlying22, hid5, c2, hl2, strV, w2]
        exact ⟨l.length - (k + 1), by omega, k + 1, by omega, rfl, by simp, ht5, hD5⟩
      · simp [w1]
        exact ⟨l.length - (i + 1), by omega, i + 1, by omega, rfl, by simp, ht4, hD4⟩
    · refine awake_sp _ _ ?_
      simp [ev_ret, evOps_nil, evOps_cons, opG_none, opA_assign, opA_pick, putO_some, putH_lt, putC_lt, pickT, opS, opV, Go.Mx.look, seqK, retK, retA, resA, mapO]
end Go.Proofs.Ytdgdkgfkeinhbaa

namespace Go.Proofs.Ytdgdkgfkeinhbaa
open Go.Mx
set_option linter.unusedVariables false
set_option linter.unusedSimpArgs false

theorem dd_read1 {xs : List AV} (h : Shp Try.prog 33 xs) : ∃ x : Dd, xs = ddC x := by obtain ⟨x, e, _⟩ := dd_read h; exact ⟨x, e⟩
theorem sz_max {s : ByteArray} {n : Nat} (h : s.size ≤ n) (hn : n ≤ 500) : s.size ≤ maxLen := by unfold maxLen; omega
theorem tx_sz (s : ByteArray) : (tx s.data.toList).size = s.size := by rw [tx_data]

set_option maxRecDepth 20000 in
set_option maxHeartbeats 4000000 in
theorem stays_law (sl : List ByteArray) (l : List Dd) (x : Dd) : Sp Try.prog 5 [rowS sl, ddsV l, .agg (ddC x)] (fun v _ => v = .v (.bool true)) [] := by
  refine Sp.body [(10, ⟨[1, 5, 7, 9, 11], [], []⟩)] ⟨[], [], pl5⟩ tb5 mo Try.func5 rfl (Nat.le_of_ble_eq_true rfl) (by kernel_rfl) ?_
  simp [ev_seq, ev_region2, evOps_nil, evOps_cons, opG_none, opA_move, opA_assign, opA_call, opA_box, putO_some, putH_lt, boxT, opS, opV, Go.Mx.look, fr0, argSlots, seqK, mapO, callA, cellsA_agg, okPart_agg, newK, ok11, pl5, mk_tx, ddsV]
  refine few_sp l (rowS sl) sl false _ _ (rowS_is sl) (fun hf => ?_) (fun _ => by simp [ev_seq, ev_cond2, ev_ret, ev_region2, evOps_nil, evOps_cons, opG_none, opG_some, opJ, opU_ff, isU_bool, opA_move, opA_assign, opA_pick, opA_un, putO_some, putH_lt, putC_lt, putV_lt, condB_true, pickT, unT, opS, opV, Go.Mx.look, seqK, Fr.known, retK, retA, resA, mapO, unA])
  simp [evOps_cons, opG_none, opG_some, opJ, opU_ff, isU_bool, opK_eq, opA_move, opA_un, opA_load, opA_call, opA_buildSlice, putO_some, putH_lt, putC_lt, condB_false, unT, loadT, buildSliceT, repeatL_1, opS, opV, Go.Mx.look, Fr.known, mapO, unA, callA, cellsA_agg, okPart_agg, partA, loadA, loadS, fillA, bindO, Try.underlying31, sz33, ag33, ze33, ok11, mk_tx, ddC]
  refine few_sp [x] _ [] true _ _ (.inr ⟨rfl, rfl⟩) (fun hx => ?_) (fun _ => by simp [ev_seq, ev_cond2, ev_ret, ev_region2, evOps_nil, evOps_cons, opG_none, opG_some, opJ, opU_ff, isU_bool, opK_eq, opA_assign, opA_pick, opA_un, putO_some, putH_lt, putC_lt, condB_true, condB_false, pickT, unT, opS, opV, Go.Mx.look, seqK, Fr.known, retK, retA, resA, mapO, unA])
  have hx1 := hx.2.2.2 x (by simp)
  simp [ev_skip, ev_seq, ev_cond2, ev_region2, evOps_nil, evOps_cons, opG_none, opG_some, opJ, opU_ff, isU_bool, opK_eq, opA_move, opA_pick, opA_un, opA_call, putO_some, putH_lt, putC_lt, condB_false, pickT, unT, opS, opV, Go.Mx.look, seqK, Fr.known, mapO, unA, callA, ok8]
  refine new_sp _ sl _ _ (rowS_is sl) (by have := hf.2.1; omega) (fun _ H1 hs => ?_) (fun hok a H1 fp ht hs hfp => ?_)
  · simp [ev_seq, ev_cond2, ev_region2, evOps_nil, evOps_cons, opG_none, opA_move, opA_assign, opA_bin, opA_extract, opA_call, putO_some, putH_lt, putC_lt, condB_true, binT_some, binA, avO_some, extractT, io_neq, opS, opV, Go.Mx.look, seqK, Fr.known, mapO, callA, extractA, orO_some, eqT_some, tk24, ok10]
    exact awake_sp _ _ (by simp [ev_ret, evOps_nil, evOps_cons, opG_none, opA_assign, putO_some, putH_lt, putC_lt, opS, opV, Go.Mx.look, seqK, retK, retA, resA, mapO])
  have h0 := hs.2 0 _ rfl (by simp)
  have hfp0 : 0 ∉ fp := fun h => by have := hfp 0 h; simp at this
  have hsl : sl.length ≤ 1000000 := by have := hf.2.1; omega
  simp [ev_skip, ev_seq, ev_cond2, ev_region2, evOps_nil, evOps_cons, opG_none, opA_move, opA_assign, opA_bin, opA_extract, opA_load, opA_fieldAddr, opA_call, opA_convert, putO_some, putH_lt, putC_lt, condB_false, binT_some, binA, avO_some, extractT, loadT, fieldAddrT, convT, io_neq, opS, opV, Go.Mx.look, seqK, Fr.known, mapO, callA, extractA, partA, loadA, loadS, plusS, orO_some, eqT_some, Try.underlying5, sz9, ag9, Try.underlying9, tk24, Try.underlying28, Try.underlying33, ok12, h0]
  refine sign_sp x.server _ x.text.data.toList _ ht (bytesStr x.text) (by simp) hsl (sz_max hx1.2.1 (by omega)) (by rw [tx_sz]; exact sz_max hx1.1 (by omega)) (fun hno => ?_) (fun hin H2 ht2 s2 => ?_)
  · simp [ev_seq, ev_cond2, ev_region2, evOps_nil, evOps_cons, opG_none, opG_some, opJ, opU_ft, isU_bool, opK_eq, opA_move, opA_assign, opA_pick, opA_bin, opA_extract, opA_call, putO_some, putH_lt, putC_lt, condB_true, binT_some, binA, avO_some, pickT, extractT, io_eql, io_neq, strOp, opS, opV, Go.Mx.look, seqK, Fr.known, mapO, callA, extractA, orO_some, eqT_some, tk9, tk24, ok15, mk_tx, tx_list]
    refine tokens_sp _ ht ?_
    simp [evOps_cons, opG_none, opG_some, opJ, opU_ft, isU_bool, opK_eq, opA_move, opA_pick, opA_bin, opA_call, putO_some, putH_lt, putC_lt, condB_true, binT_some, binA, avO_some, pickT, io_eql, opS, opV, Go.Mx.look, Fr.known, mapO, callA, orO_some, eqT_some, tk3, ok10]
    exact awake_sp _ _ (by simp [ev_ret, evOps_nil, evOps_cons, opG_none, opA_assign, opA_pick, putO_some, putH_lt, putC_lt, pickT, opS, opV, Go.Mx.look, seqK, retK, retA, resA, mapO])
  rw [tx_data] at ht2 ⊢
  have e1 : numT ([] : List (ByteArray × ByteArray)) (x.server, x.text) = 1 := rfl
  rw [e1]
  have h02 := s2.2 _ _ h0 hfp0
  have g2 : addT ([] : List (ByteArray × ByteArray)) (x.server, x.text) = [(x.server, x.text)] := rfl
  rw [g2] at ht2
  have hlen := hf.1
  simp [ev_skip, ev_seq, ev_cond2, ev_block, ev_region2, ev_loop, loopK, evOps_nil, evOps_cons, opG_none, opA_move, opA_assign, opA_bin, opA_extract, putO_some, putH_lt, putC_lt, condB_false, binT_some, binA, avO_some, extractT, io_neq, opS, opV, Go.Mx.look, seqK, Fr.known, mapO, extractA, headK, getV, getB, chkP, firstReg, orO_some, eqT_some, tk24]
  refine LoopC.intro (fun n xs _ H3 => ∃ (i : Nat) (tl : List ByteArray) (gl : List (ByteArray × ByteArray)), i ≤ l.length ∧ n = l.length - i ∧ xs = [ddsV l, .ptr 0 0 0, .ptr a 0 0, .v (.string (letN 1)), .v (.int .i64 i)] ∧
      TableAt H3 a sl tl gl fp ∧ tl.length ≤ i ∧ gl.length ≤ i + 1 ∧ numT gl (x.server, x.text) = 1 ∧ 1 ≤ gl.length ∧ H3[0]? = some (.cells 0 (ddC x))) l.length
    ⟨0, [], _, by omega, rfl, by simp [ddsV], ht2, by simp, by simp, by simp [numT], by simp, by simpa [ddC] using h02⟩ ?_
  rintro n xs bs H3 ⟨i, tl, gl, hi, rfl, rfl, ht3, htl, hgl, hp0, hg1, h03⟩
  simp [ev_skip, ev_seq, ev_cond2, ev_block, ev_exit, ev_region2, evOps_nil, evOps_cons, opG_none, opA_move, opA_bin, opA_load, opA_indexAddr, opA_fieldAddr, opA_len, putO_some, putH_lt, binT_some, binA, avO_some, loadT, lenT_row, fieldAddrT, indexAddrT, io_lss, opS, opV, Go.Mx.look, seqK, blockK, Fr.known, partA, loadA, loadS, plusS, indexAddrA, mkFr, slotsOf, ptrsOf, boxesOf, orO_some, eqT_some, tk3, sz9, ag9, Try.underlying31, sz33, Try.underlying33, ddsV]
  refine ⟨fun hlt => ?_, fun hge => ?_⟩
  · have hxi := List.getElem?_eq_getElem hlt
    generalize l[i] = y at hxi
    have hy : FewD y := hf.2.2.2 y (List.mem_of_getElem? hxi)
    have c0 := flat_get ddC_len hxi 0 (by omega)
    have c1 := flat_get ddC_len hxi 1 (by omega)
    have c2 := flat_get ddC_len hxi 2 (by omega)
    simp [ddC] at c0 c1 c2
    have w1 : IntKind.i64.wrap ((i : Int) + 1) = (i : Int) + 1 := wr_i64 (by omega)
    by_cases hk : y.kind = 1
    · simp [ev_seq, ev_cond2, evOps_nil, evOps_cons, opG_none, opA_move, opA_bin, opA_load, opA_indexAddr, opA_fieldAddr, opA_call, opA_convert, putO_some, putH_lt, condB_true, binT_some, binA, avO_some, loadT, fieldAddrT, indexAddrT, convT, io_eql, opS, opV, Go.Mx.look, seqK, Fr.known, mapO, callA, partA, loadA, loadS, plusS, indexAddrA, orO_some, eqT_some, ev_draw, drawK, evP_q, evP_s, opAt_some, sz3, ag3, tk3, Try.underlying5, sz9, ag9, Try.underlying9, Try.underlying28, Try.underlying31, sz33, Try.underlying33, ok12, c0, c1, c2, hlt, hk]
      refine sign_sp y.server _ y.text.data.toList _ ht3 (bytesStr y.text) (by omega) hsl (sz_max hy.2.1 (by omega)) (by rw [tx_sz]; exact sz_max hy.1 (by omega)) (fun hno => ?_) (fun hin4 H4 ht4 s4 => ?_)
      · simp [ev_skip, ev_seq, ev_cond2, ev_region2, evOps_cons, opG_none, opG_some, opJ, opU_true, opU_ft, isU_undef, isU_bool, opA_move, opA_assign, opA_pick, opA_bin, opA_extract, opA_load, opA_indexAddr, opA_fieldAddr, opA_call, opA_convert, putO_some, putH_lt, putC_lt, putV_lt, condB_false, binT_some, binA, avO_some, pickT, extractT, loadT, fieldAddrT, indexAddrT, convT, io_eql, opS, opV, Go.Mx.look, seqK, Fr.known, mapO, callA, extractA, partA, loadA, loadS, plusS, indexAddrA, orO_some, eqT_some, ev_draw, drawK, evP_nil, evP_q, evP_s, opAt_some, chkK_eq, sameV_some, sameO_some, allQ_nil, allQ_cons, valQ_none, valS_extract, Try.underlying5, sz9, ag9, Try.underlying9, tk24, Try.underlying28, Try.underlying31, sz33, Try.underlying33, ok9, mk_tx, c2, hlt]
        refine digest_sp _ y.text.data.toList _ ht3 (bytesStr y.text) (by omega) (fun H5 ht5 s5 => ?_)
        have h05 := s5.2 _ _ h03 hfp0
        have hta := addT_len tl (tx y.text.data.toList)
        simp [ev_region2, evOps_nil, evOps_cons, opG_none, opA_move, opA_assign, opA_bin, putO_some, putH_lt, putC_lt, binT_some, binA, avO_some, io_add, opS, opV, Go.Mx.look, seqK, blockK, mapO, headK, getV, getB, chkP, orO_some, eqT_some, tk3, tx_data, w1]
        exact ⟨l.length - (i + 1), by omega, i + 1, by omega, rfl, by omega, addT tl (tx y.text.data.toList), gl, ht5, by omega, by omega, hp0, hg1, h05⟩
      · rw [tx_data] at ht4 ⊢
        have h04 := s4.2 _ _ h03 hfp0
        have h04' := h04
        simp only [ddC] at h04'
        have hga := addT_len gl (y.server, y.text)
        have hnl := numT_le gl (y.server, y.text)
        have hp4 : numT (addT gl (y.server, y.text)) (x.server, x.text) = 1 := by rw [numT_old _ (by omega)]; exact hp0
        have hkey : (letN (numT gl (y.server, y.text)) = letN 1) = (y.server = x.server ∧ y.text = x.text) := by
          rw [eq_iff_iff]
          constructor
          · intro e
            have e2 := letN_inj (by omega) (by omega) e
            have e3 := numT_inj (l := gl) (s := (x.server, x.text)) (t := (y.server, y.text)) (by omega) (by omega)
            simp at e3
            exact ⟨e3.1.symm, e3.2.symm⟩
          · rintro ⟨e, e2⟩
            rw [e, e2, hp0]
        simp [ev_skip, ev_seq, ev_cond2, ev_ret, ev_region2, evOps_nil, evOps_cons, opG_none, opG_some, opJ, opU_ft, isU_bool, opK_eq, opA_move, opA_assign, opA_pick, opA_bin, opA_extract, opA_load, opA_indexAddr, opA_fieldAddr, opA_call, opA_convert, putO_some, putH_lt, putC_lt, putV_lt, condB_true, condB_false, binT_some, binA, eqRef, avO_some, pickT, extractT, loadT, fieldAddrT, indexAddrT, convT, io_eql, strOp, opS, opV, Go.Mx.look, seqK, blockK, Fr.known, retK, retA, resA, mapO, callA, extractA, partA, loadA, loadS, plusS, indexAddrA, orO_some, eqT_some, ev_draw, drawK, evP_nil, evP_q, evP_s, opAt_some, chkK_eq, sameV_some, sameO_some, allQ_nil, allQ_cons, valQ_none, valS_extract, tk4, Try.underlying5, sz9, ag9, tk9, Try.underlying9, tk24, Try.underlying28, Try.underlying31, sz33, Try.underlying33, ok9, c1, c2, hlt, h04', bl_inj]
        refine ⟨fun e => ⟨?_, fun _ => ?_⟩, fun e => ⟨?_, fun _ => ?_⟩⟩
        · rw [Bool.eq_iff_iff, beq_iff_eq, beq_iff_eq, bl_inj, bl_inj, hkey]
          exact ⟨fun h => h.2, fun h => ⟨e, h⟩⟩
        · skip
          refine digest_sp _ y.text.data.toList _ ht4 (bytesStr y.text) (by omega) (fun H5 ht5 s5 => ?_)
          have h05 := s5.2 _ _ h04 hfp0
          have hta := addT_len tl (tx y.text.data.toList)
          simp [ev_region2, evOps_nil, evOps_cons, opG_none, opA_move, opA_assign, opA_bin, putO_some, putH_lt, putC_lt, binT_some, binA, avO_some, io_add, opS, opV, Go.Mx.look, seqK, blockK, mapO, headK, getV, getB, chkP, orO_some, eqT_some, tk3, tx_data, w1]
          exact ⟨l.length - (i + 1), by omega, i + 1, by omega, rfl, by omega, addT tl (tx y.text.data.toList), _, ht5, by omega, by omega, hp4, by omega, h05⟩
        · rw [hkey]
          exact fun h => e h.1
        · skip
          refine digest_sp _ y.text.data.toList _ ht4 (bytesStr y.text) (by omega) (fun H5 ht5 s5 => ?_)
          have h05 := s5.2 _ _ h04 hfp0
          have hta := addT_len tl (tx y.text.data.toList)
          simp [ev_region2, evOps_nil, evOps_cons, opG_none, opA_move, opA_assign, opA_bin, putO_some, putH_lt, putC_lt, binT_some, binA, avO_some, io_add, opS, opV, Go.Mx.look, seqK, blockK, mapO, headK, getV, getB, chkP, orO_some, eqT_some, tk3, tx_data, w1]
          exact ⟨l.length - (i + 1), by omega, i + 1, by omega, rfl, by omega, addT tl (tx y.text.data.toList), _, ht5, by omega, by omega, hp4, by omega, h05⟩
    · simp [ev_skip, ev_cond2, ev_region2, evOps_nil, evOps_cons, opG_none, opA_move, opA_bin, opA_load, opA_indexAddr, opA_fieldAddr, opA_call, opA_convert, putO_some, putH_lt, CondP_false, binT_some, binA, avO_some, loadT, fieldAddrT, indexAddrT, convT, io_eql, opS, opV, Go.Mx.look, seqK, Fr.known, mapO, callA, partA, loadA, loadS, plusS, indexAddrA, orO_some, eqT_some, sz3, ag3, tk3, Try.underlying5, sz9, ag9, Try.underlying9, Try.underlying28, Try.underlying31, sz33, Try.underlying33, ok9, c0, c2, hlt, hk]
      refine digest_sp _ y.text.data.toList _ ht3 (bytesStr y.text) (by omega) (fun H5 ht5 s5 => ?_)
      have h05 := s5.2 _ _ h03 hfp0
      have hta := addT_len tl (tx y.text.data.toList)
      simp [ev_region2, evOps_nil, evOps_cons, opG_none, opA_move, opA_assign, opA_bin, putO_some, putH_lt, putC_lt, binT_some, binA, avO_some, io_add, opS, opV, Go.Mx.look, seqK, blockK, mapO, headK, getV, getB, chkP, orO_some, eqT_some, tk3, tx_data, w1]
      exact ⟨l.length - (i + 1), by omega, i + 1, by omega, rfl, by omega, addT tl (tx y.text.data.toList), gl, ht5, by omega, by omega, hp0, hg1, h05⟩
  · have h03' := h03
    simp only [ddC] at h03'
    simp [evOps_cons, opG_none, opA_load, opA_fieldAddr, opA_call, opA_convert, putO_some, putH_lt, loadT, fieldAddrT, convT, opS, opV, Go.Mx.look, mapO, callA, partA, loadA, loadS, plusS, Try.underlying5, sz9, ag9, Try.underlying9, Try.underlying28, Try.underlying33, ok12, h03']
    refine sign_sp x.server _ x.text.data.toList _ ht3 (bytesStr x.text) (by omega) hsl (sz_max hx1.2.1 (by omega)) (by rw [tx_sz]; exact sz_max hx1.1 (by omega)) (fun hno => absurd hin hno) (fun _ H4 ht4 s4 => ?_)
    rw [tx_data] at ht4 ⊢
    rw [hp0]
    have h04 := s4.2 _ _ h03 hfp0
    have h04' := h04
    simp only [ddC] at h04'
    have hp4 : numT (addT gl (x.server, x.text)) (x.server, x.text) = 1 := by rw [numT_add]; exact hp0
    have hga := addT_len gl (x.server, x.text)
    simp [ev_seq, ev_region2, evOps_nil, evOps_cons, opG_none, opG_some, opJ, opU_ft, isU_bool, opK_eq, opA_move, opA_assign, opA_pick, opA_bin, opA_extract, opA_load, opA_fieldAddr, opA_call, opA_convert, putO_some, putH_lt, putC_lt, condB_true, binT_some, binA, avO_some, pickT, extractT, loadT, fieldAddrT, convT, io_eql, strOp, opS, opV, Go.Mx.look, seqK, Fr.known, mapO, callA, extractA, partA, loadA, loadS, plusS, orO_some, eqT_some, Try.underlying5, sz9, ag9, tk9, Try.underlying9, tk24, Try.underlying28, Try.underlying33, ok13, h04']
    refine verify_sp x.server _ x.text.data.toList _ _ ht4 (bytesStr x.text) (by omega) (sz_max hx1.2.1 (by omega)) (by rw [tx_sz]; exact sz_max hx1.1 (by omega)) ?_
    rw [tx_data, hp4, show decide (1 ≤ (addT gl (x.server, x.text)).length ∧ letN 1 = letN 1) = true by simp; omega]
    simp [evOps_cons, opG_none, opG_some, opJ, opU_ft, opU_ff, isU_bool, opK_eq, opA_move, opA_pick, opA_bin, opA_load, opA_fieldAddr, opA_call, opA_convert, putO_some, putH_lt, putC_lt, putV_lt, condB_true, condB_false, binT_some, binA, avO_some, pickT, loadT, fieldAddrT, convT, strOp, opS, opV, Go.Mx.look, Fr.known, mapO, callA, partA, loadA, loadS, plusS, orO_some, eqT_some, Try.underlying5, sz9, ag9, tk9, Try.underlying9, Try.underlying28, Try.underlying33, ok10, ok13, h04', bl_inj]
    refine ⟨fun e => ?_, fun e => ?_⟩
    · exact awake_sp _ _ (by simp [ev_ret, evOps_nil, evOps_cons, opG_none, opA_assign, opA_pick, putO_some, putH_lt, putC_lt, pickT, opS, opV, Go.Mx.look, seqK, retK, retA, resA, mapO])
    · refine verify_sp x.server _ x.text.data.toList _ _ ht4 (bytesStr x.text) (by omega) (sz_max hx1.2.1 (by omega)) (by rw [tx_sz]; exact sz_max hx1.1 (by omega)) ?_
      rw [tx_data, hp4, show decide (1 ≤ (addT gl (x.server, x.text)).length ∧ letN 1 = x.tok) = false by simp; exact fun _ h => e h.symm]
      simp [evOps_cons, opG_none, opG_some, opJ, opU_ft, opU_ff, isU_bool, opK_eq, opA_move, opA_pick, opA_un, opA_call, putO_some, putH_lt, putC_lt, condB_true, condB_false, pickT, unT, opS, opV, Go.Mx.look, Fr.known, mapO, unA, callA, ok10]
      exact awake_sp _ _ (by simp [ev_ret, evOps_nil, evOps_cons, opG_none, opA_assign, opA_pick, putO_some, putH_lt, putC_lt, pickT, opS, opV, Go.Mx.look, seqK, retK, retA, resA, mapO])
end Go.Proofs.Ytdgdkgfkeinhbaa
