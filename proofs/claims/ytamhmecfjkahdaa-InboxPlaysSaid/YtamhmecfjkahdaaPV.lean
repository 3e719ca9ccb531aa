import Derived.Test.YtamhmecfjkahdaaPU
namespace Go.Proofs.Ytamhmecfjkahdaa
open Go.Mx
set_option linter.unusedVariables false
set_option linter.unusedSimpArgs false
set_option linter.unnecessarySimpa false

/-! ### Putting into a rising list -/
def risS (l : List ByteArray) : Prop := (bytesL l).Pairwise (fun x y : List UInt8 => x ≤ y)
theorem ris_sort (l : List ByteArray) : risS (sortS l) := by
  unfold risS sortS
  rw [bytes_texts]
  exact (List.pairwise_mergeSort (fun a b c h1 h2 => by simpa using List.le_trans (by simpa using h1) (by simpa using h2)) (fun a b => by simpa using List.le_total a b) _).imp (fun h => by simpa using h)
theorem sort_ris {l : List ByteArray} (h : risS l) : sortS l = l := by
  unfold sortS
  rw [List.mergeSort_of_pairwise (by unfold risS at h; exact h.imp (fun {a b} hab => by simpa using hab)), texts_bytes]
theorem sort_ins {M L : List ByteArray} {n : ByteArray} {j : Nat} (hL : L = sortS M) (hlt : ∀ y ∈ L.take j, y.toList < n.toList) (hge : ∀ y, L[j]? = some y → ¬ y.toList < n.toList) : sortS (M ++ [n]) = L.take j ++ n :: L.drop j := by
  have hr : risS L := by rw [hL]; exact ris_sort M
  have hp : (M ++ [n]).Perm (L.take j ++ n :: L.drop j) := by
    have h1 : L.Perm M := by rw [hL]; exact sortS_permL M
    have h2 : (L.take j ++ n :: L.drop j).Perm (n :: (L.take j ++ L.drop j)) := List.perm_middle
    rw [List.take_append_drop] at h2
    have h3 : (M ++ [n]).Perm (n :: M) := by simpa using (List.perm_append_comm (l₁ := M) (l₂ := [n]))
    exact h3.trans ((h1.symm.cons n).trans h2.symm)
  rw [sortS_perm hp]
  apply sort_ris
  unfold risS bytesL at hr ⊢
  rw [← List.take_append_drop j L, List.map_append, List.pairwise_append] at hr
  obtain ⟨r1, r2, r3⟩ := hr
  rw [List.map_append, List.map_cons, List.pairwise_append, List.pairwise_cons]
  have hn : ∀ b ∈ (L.drop j).map (fun s : ByteArray => s.data.toList), n.data.toList ≤ b := by
    cases hd : L.drop j with
    | nil => simp
    | cons y l =>
      have hy : L[j]? = some y := by
        have := congrArg (fun l => l[0]?) hd
        simpa using this
      have h1 := hge y hy
      rw [tl_data, tl_data] at h1
      have h2 : n.data.toList ≤ y.data.toList := List.not_lt.1 h1
      rw [hd, List.map_cons, List.pairwise_cons] at r2
      intro b hb
      rw [List.map_cons] at hb
      rcases List.mem_cons.1 hb with rfl | hb
      · exact h2
      · exact List.le_trans h2 (r2.1 b hb)
  refine ⟨r1, ⟨hn, r2⟩, fun a ha b hb => ?_⟩
  rcases List.mem_cons.1 hb with rfl | hb
  · obtain ⟨y, hy, rfl⟩ := List.mem_map.1 ha
    have := hlt y hy
    rw [tl_data, tl_data] at this
    exact List.le_of_lt this
  · exact r3 a ha b hb
def nms (u : ByteArray) (R : List Rw) : List ByteArray := (R.filter (fun r => decide (r.d.u = u))).map (·.d.n)
def strs (l : List ByteArray) : List AV := l.map (fun s => .v (.string s))
theorem strs_len (l : List ByteArray) : (strs l).length = l.length := by simp [strs]
def DvInv (R : List Rw) (c : Nat) (u : ByteArray) (H : Hp) (n : Nat) (xs : List AV) (H2 : Hp) : Prop :=
  ∃ (i : Nat) (v : AV), i ≤ R.length ∧ n = R.length - i ∧ xs = [.ptr c 0 0, .v (.string u), v, .v (.int .i64 i)] ∧ Same [] H H2 ∧ NewK 1 H H2 (sortS (nms u (R.take i))).length (strs (sortS (nms u (R.take i)))) v
def DwInv (L : List ByteArray) (c i : Nat) (u nm : ByteArray) (v : AV) (H : Hp) (n : Nat) (xs : List AV) (H2 : Hp) : Prop :=
  ∃ j : Nat, j ≤ L.length ∧ n = L.length - j ∧ xs = [.ptr c 0 0, .v (.string u), v, .v (.int .i64 i), .v (.int .i64 j)] ∧ H2 = H ∧ ∀ y ∈ L.take j, y.toList < nm.toList
theorem nms_take {u : ByteArray} {R : List Rw} {i : Nat} {r : Rw} (hx : R[i]? = some r) : nms u (R.take (i + 1)) = nms u (R.take i) ++ (if r.d.u = u then [r.d.n] else []) := by
  unfold nms
  rw [List.take_add_one, hx, List.filter_append, List.map_append, Option.toList_some, List.filter_cons, List.filter_nil]
  by_cases h : r.d.u = u
  · rw [decide_eq_true h, if_pos h]; rfl
  · rw [decide_eq_false h, if_neg h]; rfl
theorem own_new {k n : Nat} {H H' : Hp} {cs : List AV} {v : AV} (h : OwnS k H' n cs v) (hn : 0 < n) (hj : ∀ q ∈ slId v, H.length ≤ q) : NewK k H H' n cs v := by
  rcases h with ⟨h0, _⟩ | ⟨h0, h1, id, ver, tl, rfl, h3⟩
  · omega
  · exact .inr ⟨h0, h1, id, ver, tl, rfl, h3, hj id (by simp [slId])⟩
set_option maxRecDepth 20000 in
set_option maxHeartbeats 2000000 in
theorem rdevices_sp (c : Nat) (S : St) (fp : List Nat) (N : Nat) (u : ByteArray) (H : Hp) (Q : AV → Hp → Prop) (hp : RfAt H c S fp) (hk : StOk S N) (hN : N ≤ 50000) (h : Q (rowS (namesD S u)) H) : Sp Try.prog 27 [.ptr c 0 0, .v (.string u)] Q H := by
  refine Sp.newK ?_
  refine Sp.body [(3, ⟨[0, 1, 5, 6], [], []⟩), (7, ⟨[0, 1, 5, 6, 7], [], []⟩)] ⟨[], [], pl27⟩ tb27 mo Try.func27 rfl (Nat.le_of_ble_eq_true rfl) (by kernel_rfl) ?_
  obtain ⟨vL, vS, R, hp, rfl⟩ := hp
  have hRl : R.length ≤ 50000 := by rw [hp.len]; exact Nat.le_trans hk.l hN
  have hname : namesD S u = sortS (nms u R) := by
    unfold namesD nms
    rw [← hp.rd, List.filter_map, List.map_map]; rfl
  rw [hname] at h
  simp [ev_seq, ev_block, ev_region2, ev_loop, loopK, evOps_nil, evOps_cons, opG_none, opA_assign, putO_some, putH_lt, opS, opV, Go.Mx.look, fr0, argSlots, seqK, mapO, headK, getV, getB, chkP, firstReg, pl27]
  refine LoopC.intro (fun n xs _ H2 => DvInv R c u H n xs H2) R.length ⟨0, .v (.slice none 0 0), by omega, by omega, by simp, Same.refl _ _, by simpa [nms, sortS, textsL, bytesL, strs] using NewK.nil 1 H H⟩ ?_
  rintro n xs bs H2 ⟨i, v5, hi, rfl, rfl, hs2, o5⟩
  have hp2 := hp.same hs2 (by simp)
  have hc2 := hp2.cc
  have hln := hp2.ol.lenT
  simp [ev_skip, ev_seq, ev_cond2, ev_block, ev_exit, ev_ret, ev_region2, evOps_nil, evOps_cons, opG_none, opA_move, opA_assign, opA_bin, opA_load, opA_indexAddr, opA_fieldAddr, opA_nilCheck, opA_len, putO_some, putH_lt, binT_some, binA, avO_some, loadT, nilCheckT, fieldAddrT, indexAddrT, io_lss, opS, opV, Go.Mx.look, seqK, blockK, Fr.known, retK, retA, resA, mapO, partA, loadA, loadS, plusS, indexAddrA, nilCheckS, mkFr, slotsOf, ptrsOf, boxesOf, orO_some, eqT_some, tk3, sz43, ag43, Try.underlying43, Try.underlying45, sz65, hc2, hln]
  refine ⟨fun hlt => ?_, fun hge => ?_⟩
  · have hlt : i < R.length := by omega
    obtain ⟨r, hxr⟩ : ∃ r, R[i]? = some r := ⟨_, List.getElem?_eq_getElem hlt⟩
    obtain ⟨id, ver, cs, rfl, hid, hci, hcl⟩ := hp2.ptr hxr
    have hrm := List.mem_of_getElem? hxr
    obtain ⟨g1, g2⟩ := hp2.d.at_ r hrm
    simp only [cellF] at g1
    have w1 : IntKind.i64.wrap ((i : Int) + 1) = (i : Int) + 1 := wr_i64 (by omega)
    have htk := nms_take (u := u) hxr
    have hLl : (sortS (nms u (R.take i))).length ≤ 50000 := by
      rw [sortS_len]; unfold nms
      rw [List.length_map]
      refine Nat.le_trans (List.length_filter_le _ _) ?_
      rw [List.length_take]; omega
    by_cases hu : r.d.u = u
    · have tu : (r.d.u.toList = u.toList) = True := by rw [tl_inj]; exact eq_true hu
      rw [if_pos hu] at htk
      generalize hL : sortS (nms u (R.take i)) = L at *
      simp [ev_skip, ev_seq, ev_cond2, ev_block, ev_region2, ev_loop, loopK, evOps_nil, evOps_cons, opG_none, opA_move, opA_assign, opA_bin, opA_load, opA_fieldAddr, opA_nilCheck, putO_some, putH_lt, CondP_false, binT_some, binA, avO_some, loadT, nilCheckT, fieldAddrT, strOp, opS, opV, Go.Mx.look, seqK, Fr.known, mapO, partA, loadA, loadS, plusS, nilCheckS, headK, getV, getB, chkP, firstReg, orO_some, eqT_some, sz9, ag9, tk9, sz65, ag65, Try.underlying67, hid, hci, hlt, g1, tu]
      refine LoopC.intro (fun n xs _ H3 => DwInv L c i u r.d.n v5 H2 n xs H3) L.length ⟨0, by omega, by omega, by simp, rfl, by simp⟩ ?_
      rintro n9 xs9 bs9 H3 ⟨j, hj, rfl, rfl, rfl, hjl⟩
      have stepW : j + 1 ≤ L.length → (∃ y, L[j]? = some y ∧ y.toList < r.d.n.toList) → ∃ m, m < L.length - j ∧ DwInv L c i u r.d.n v5 H3 m [.ptr c 0 0, .v (.string u), v5, .v (.int .i64 i), .v (.int .i64 ((j : Int) + 1))] H3 := fun h1 ⟨y, hy, hyl⟩ =>
        ⟨L.length - (j + 1), by omega, j + 1, by omega, rfl, by simp, rfl, fun z hz => by
          rw [List.take_add_one, hy] at hz
          rcases List.mem_append.1 hz with hz | hz
          · exact hjl z hz
          · simp at hz; subst hz; exact hyl⟩
      have w2 : IntKind.i64.wrap ((j : Int) + 1) = (j : Int) + 1 := wr_i64 (by omega)
      have fin0 : (∀ y, L[j]? = some y → ¬ y.toList < r.d.n.toList) → ∀ v3 H4, OwnS 1 H4 (0 + j + 1 + (L.length - j)) ([] ++ strs (L.take j) ++ [AV.v (.string r.d.n)] ++ strs (L.drop j)) v3 → Same [] H3 H4 → (∀ q ∈ slId v3, H3.length ≤ q) → ∃ m, m < R.length - i ∧ DvInv R c u H m [.ptr c 0 0, .v (.string u), v3, .v (.int .i64 ((i : Int) + 1))] H4 := fun hge9 v3 H4 o3 hs4 n3 => by
        have hins := sort_ins (M := nms u (R.take i)) (n := r.d.n) (j := j) hL.symm hjl hge9
        refine ⟨R.length - (i + 1), by omega, i + 1, v3, by omega, rfl, by simp, hs2.trans hs4 (by simp), ?_⟩
        rw [htk, hins]
        have e1 : (L.take j ++ r.d.n :: L.drop j).length = 0 + j + 1 + (L.length - j) := by
          rw [List.length_append, List.length_cons, List.length_take, List.length_drop]; omega
        have e2 : strs (L.take j ++ r.d.n :: L.drop j) = [] ++ strs (L.take j) ++ [AV.v (.string r.d.n)] ++ strs (L.drop j) := by simp [strs]
        rw [e1, e2]
        exact own_new o3 (by omega) (fun q hq => by have := n3 q hq; have := hs2.1; omega)
      have o0 : OwnS 1 H3 0 [] (.row true 0 []) := .inl ⟨rfl, rfl, .inr rfl⟩
      rcases o5 with ⟨e1, e2, rfl⟩ | ⟨e0, e1, id5, ver5, tl5, rfl, hid5, hge5⟩
      · have hj0 : j = 0 := by omega
        subst hj0
        obtain rfl : L = [] := List.eq_nil_of_length_eq_zero e1
        have fin := fin0 (by simp)
        have src1 : srcA H3 1 (.v (.slice none 0 0)) = some (0, strs (([] : List ByteArray).take 0)) := rfl
        have src3 : ∀ X, srcA X 1 (.v (.slice none 0 0)) = some (([] : List ByteArray).length - 0, strs (([] : List ByteArray).drop 0)) := fun X => rfl
        simp [ev_seq, ev_cond2, ev_exit, opG_none, opG_some, opJ, opU_ft, isU_bool, opA_move, opA_pick, opA_bin, opA_load, opA_indexAddr, opA_fieldAddr, opA_nilCheck, opA_len, opA_buildSlice, opA_append, opA_slice, putO_some, putH_lt, putV_lt, condB_false, binT_some, binA, avO_some, pickT, loadT, nilCheckT, lenT_nil, fieldAddrT, indexAddrT, buildSliceT, appendT, bndT, sliceT, io_lss, opS, opV, Go.Mx.look, seqK, blockK, Fr.known, mapO, cellsA_v, okPart_v, Value.oneCell', partA, loadA, loadS, plusS, indexAddrA, nilCheckS, sliceA, fillA, mkFr, slotsOf, ptrsOf, boxesOf, bindO, srcTy, orO_some, eqT_some, ev_draw, drawK, evP_nil, evP_q, evP_s, opAt_some, tk3, sz9, ag9, by9, ze9, sz43, ag43, Try.underlying43, Try.underlying45, st48, Try.underlying48, sz65, ag65, Try.underlying67, hc2, hid, hci, hlt, g1]
        refine appA_src src1 (by simp [strs] <;> omega) ?_
        refine o0.appM (by simp [strs] <;> omega) (by omega) (fun v1 H1 o1 hs1 hid1 => ?_)
        replace hs1 : Same [] H3 H1 := hs1.wide (by simp [slId])
        have hc1 := hs1.2 _ _ hc2 (by simp)
        have hidA := hs1.2 _ _ hid (by simp)
        have gA := hs1.2 _ _ g1 (by simp)
        have n1 : ∀ q ∈ slId v1, H3.length ≤ q := fun q hq => by
          rcases hid1 with e | e <;> rw [e] at hq <;> simp [slId] at hq
          omega
        simp [opG_none, opA_append, putC_lt, loadT, nilCheckT, fieldAddrT, indexAddrT, appendT, bndT, sliceT, opS, opV, Go.Mx.look, mapO, cellsA_v, okPart_v, Value.oneCell', partA, loadA, loadS, plusS, indexAddrA, nilCheckS, sliceA, fillA, srcTy, evP_s, opAt_some, chkK_eq, sameV_some, sameO_some, allQ_nil, allQ_cons, valQ_none, valS_move, valS_load, valS_indexAddr, valS_fieldAddr, valS_nilCheck, valS_slice, valS_buildSlice, rowT, rowF, sz9, ag9, by9, ze9, sz43, ag43, Try.underlying43, Try.underlying45, st48, Try.underlying48, sz65, ag65, Try.underlying67, hc1, hidA, hci, hlt, gA]
        refine o1.appM (m := 1) (by simp) (by omega) (fun v2 HB o2 hs2B hid2 => ?_)
        have hsB : Same [] H3 HB := hs1.new hs2B n1
        have hcB := hsB.2 _ _ hc2 (by simp)
        have hidB := hsB.2 _ _ hid (by simp)
        have gB := hsB.2 _ _ g1 (by simp)
        have n2 : ∀ q ∈ slId v2, H3.length ≤ q := fun q hq => by
          rcases hid2 with e | e
          · rw [e] at hq; exact n1 q hq
          · rw [e] at hq; simp at hq; have := hs1.1; omega
        simp [opG_none, opA_append, putC_lt, appendT, bndT, sliceT, opS, opV, Go.Mx.look, sliceA, srcTy, evP_s, opAt_some, chkK_eq, sameV_some, sameO_some, allQ_nil, allQ_cons, valQ_none, valS_move, valS_slice, sz9, by9, ze9, st48, Try.underlying48]
        refine appA_src (src3 HB) (by simp [strs] <;> omega) ?_
        refine o2.appM (by simp [strs] <;> omega) (by omega) (fun v3 HC o3 hs3C hid3 => ?_)
        have n3 : ∀ q ∈ slId v3, H3.length ≤ q := fun q hq => by
          rcases hid3 with e | e
          · rw [e] at hq; exact n2 q hq
          · rw [e] at hq; simp at hq; have := hsB.1; omega
        simp [ev_region2, evOps_nil, evOps_cons, opG_none, opA_move, opA_assign, opA_bin, putO_some, putH_lt, putC_lt, binT_some, binA, avO_some, io_add, opS, opV, Go.Mx.look, seqK, blockK, mapO, headK, getV, getB, chkP, orO_some, eqT_some, evP_nil, evP_s, opAt_some, chkK_eq, allQ_nil, tk3, w1]
        exact fin v3 HC o3 (hsB.new hs3C n2) n3
      · have ss1 : sliceSl 1 id5 ver5 1 0 L.length 0 (j : Int) = some (.sl id5 ver5 1 0 j) := slice_hi (m := 0) e0 hj
        obtain ⟨v8, ss2, hsh, src2⟩ := slice_lo (id := id5) (ver := ver5) (n := L.length) (a := j) hj (L.length : Int) rfl
        have src1 : srcA H3 1 (.sl id5 ver5 1 0 j) = some (j, strs (L.take j)) := by
          have : (strs L ++ tl5).take j = strs (L.take j) := by
            rw [List.take_append_of_le_length (by rw [strs_len]; exact hj)]
            simp [strs, List.map_take]
          simp [srcA, hid5, this]
          rw [strs_len]; omega
        have src3 : ∀ X, Same [] H3 X → srcA X 1 v8 = some (L.length - j, strs (L.drop j)) := fun X hX => by
          have := src2 X _ (hX.2 _ _ hid5 (by simp)) (by rw [List.length_append, strs_len]; omega)
          have e : ((strs L ++ tl5).drop j).take (L.length - j) = strs (L.drop j) := by
            rw [List.drop_append_of_le_length (by rw [strs_len]; exact hj), List.take_append_of_le_length (by rw [List.length_drop, strs_len]; omega), List.take_of_length_le (by rw [List.length_drop, strs_len]; omega)]
            simp [strs, List.map_drop]
          rw [e] at this; exact this
        by_cases hjl2 : j < L.length
        · obtain ⟨y, hy⟩ : ∃ y, L[j]? = some y := ⟨_, List.getElem?_eq_getElem hjl2⟩
          have hy2 : (strs L ++ tl5)[j]? = some (.v (.string y)) := by
            rw [List.getElem?_append_left (by rw [strs_len]; exact hjl2)]
            simp [strs, hy]
          by_cases hbl2 : y.toList < r.d.n.toList
          · have hbl : Op.bytesLess y.toList r.d.n.toList = true := by rw [Go.Proofs.bytesLess_eq]; exact decide_eq_true hbl2
            simp [ev_skip, ev_seq, ev_cond2, ev_block, ev_region2, evOps_nil, evOps_cons, opG_none, opG_some, opJ, opU_ft, isU_bool, opK_eq, opA_move, opA_assign, opA_pick, opA_bin, opA_load, opA_indexAddr, opA_fieldAddr, opA_nilCheck, opA_len, putO_some, putH_lt, condB_true, binT_some, binA, avO_some, pickT, loadT, nilCheckT, lenT_sl, fieldAddrT, indexAddrT, io_add, io_lss, strOp, opS, opV, Go.Mx.look, seqK, blockK, Fr.known, mapO, partA, loadA, loadS, plusS, indexAddrA, nilCheckS, headK, getV, getB, chkP, mkFr, slotsOf, ptrsOf, boxesOf, orO_some, eqT_some, ev_draw, drawK, evP_nil, evP_q, opAt_some, tk3, sz9, ag9, tk9, sz43, ag43, Try.underlying43, Try.underlying45, Try.underlying48, sz65, ag65, Try.underlying67, hjl2, hid5, hy2, hc2, hid, hci, hlt, g1, hbl, w2]
            exact stepW (by omega) ⟨y, hy, hbl2⟩
          · have hbl : Op.bytesLess y.toList r.d.n.toList = false := by rw [Go.Proofs.bytesLess_eq]; exact decide_eq_false hbl2
            have fin := fin0 (fun z hz => by rw [hy] at hz; simp at hz; subst hz; exact hbl2)
            simp [ev_seq, ev_cond2, ev_exit, opG_none, opG_some, opJ, opU_ft, isU_bool, opK_eq, opA_move, opA_pick, opA_bin, opA_load, opA_indexAddr, opA_fieldAddr, opA_nilCheck, opA_len, opA_buildSlice, opA_append, opA_slice, putO_some, putH_lt, condB_true, condB_false, binT_some, binA, avO_some, pickT, loadT, nilCheckT, lenT_sl, fieldAddrT, indexAddrT, buildSliceT, appendT, bndT, sliceT, io_lss, strOp, opS, opV, Go.Mx.look, seqK, blockK, Fr.known, mapO, cellsA_v, okPart_v, Value.oneCell', partA, loadA, loadS, plusS, indexAddrA, nilCheckS, sliceA, fillA, mkFr, slotsOf, ptrsOf, boxesOf, bindO, srcTy, orO_some, eqT_some, ev_draw, drawK, evP_nil, evP_q, evP_s, opAt_some, tk3, sz9, ag9, tk9, by9, ze9, sz43, ag43, Try.underlying43, Try.underlying45, st48, Try.underlying48, sz65, ag65, Try.underlying67, hjl2, hy2, hbl, hid5, hc2, hid, hci, hlt, g1, ss1, ss2]
            refine appA_src src1 (by simp [strs] <;> omega) ?_
            refine o0.appM (by simp [strs] <;> omega) (by omega) (fun v1 H1 o1 hs1 hid1 => ?_)
            replace hs1 : Same [] H3 H1 := hs1.wide (by simp [slId])
            have hc1 := hs1.2 _ _ hc2 (by simp)
            have hidA := hs1.2 _ _ hid (by simp)
            have gA := hs1.2 _ _ g1 (by simp)
            have n1 : ∀ q ∈ slId v1, H3.length ≤ q := fun q hq => by
              rcases hid1 with e | e <;> rw [e] at hq <;> simp [slId] at hq
              omega
            simp [opG_none, opA_append, putC_lt, loadT, nilCheckT, fieldAddrT, indexAddrT, appendT, bndT, sliceT, opS, opV, Go.Mx.look, mapO, cellsA_v, okPart_v, Value.oneCell', partA, loadA, loadS, plusS, indexAddrA, nilCheckS, sliceA, fillA, srcTy, evP_s, opAt_some, chkK_eq, sameV_some, sameO_some, allQ_nil, allQ_cons, valQ_none, valS_move, valS_load, valS_indexAddr, valS_fieldAddr, valS_nilCheck, valS_slice, valS_buildSlice, rowT, rowF, sz9, ag9, by9, ze9, sz43, ag43, Try.underlying43, Try.underlying45, st48, Try.underlying48, sz65, ag65, Try.underlying67, hc1, hidA, hci, hlt, gA, ss2]
            refine o1.appM (m := 1) (by simp) (by omega) (fun v2 HB o2 hs2B hid2 => ?_)
            have hsB : Same [] H3 HB := hs1.new hs2B n1
            have hcB := hsB.2 _ _ hc2 (by simp)
            have hidB := hsB.2 _ _ hid (by simp)
            have gB := hsB.2 _ _ g1 (by simp)
            have n2 : ∀ q ∈ slId v2, H3.length ≤ q := fun q hq => by
              rcases hid2 with e | e
              · rw [e] at hq; exact n1 q hq
              · rw [e] at hq; simp at hq; have := hs1.1; omega
            rcases hsh with ⟨off8, m8, rfl⟩ | rfl
            · simp [opG_none, opA_append, putC_lt, appendT, bndT, sliceT, opS, opV, Go.Mx.look, sliceA, srcTy, evP_s, opAt_some, chkK_eq, sameV_some, sameO_some, allQ_nil, allQ_cons, valQ_none, valS_move, valS_slice, sz9, by9, ze9, st48, Try.underlying48, ss2]
              refine appA_src (src3 HB hsB) (by simp [strs] <;> omega) ?_
              refine o2.appM (by simp [strs] <;> omega) (by omega) (fun v3 HC o3 hs3C hid3 => ?_)
              have n3 : ∀ q ∈ slId v3, H3.length ≤ q := fun q hq => by
                rcases hid3 with e | e
                · rw [e] at hq; exact n2 q hq
                · rw [e] at hq; simp at hq; have := hsB.1; omega
              simp [ev_region2, evOps_nil, evOps_cons, opG_none, opA_move, opA_assign, opA_bin, putO_some, putH_lt, putC_lt, binT_some, binA, avO_some, io_add, opS, opV, Go.Mx.look, seqK, blockK, mapO, headK, getV, getB, chkP, orO_some, eqT_some, evP_nil, evP_s, opAt_some, chkK_eq, allQ_nil, tk3, w1]
              exact fin v3 HC o3 (hsB.new hs3C n2) n3
            · simp [opG_none, opA_append, putC_lt, appendT, bndT, sliceT, opS, opV, Go.Mx.look, sliceA, srcTy, evP_s, opAt_some, chkK_eq, sameV_some, sameO_some, allQ_nil, allQ_cons, valQ_none, valS_move, valS_slice, sz9, by9, ze9, st48, Try.underlying48, ss2]
              refine appA_src (src3 HB hsB) (by simp [strs] <;> omega) ?_
              refine o2.appM (by simp [strs] <;> omega) (by omega) (fun v3 HC o3 hs3C hid3 => ?_)
              have n3 : ∀ q ∈ slId v3, H3.length ≤ q := fun q hq => by
                rcases hid3 with e | e
                · rw [e] at hq; exact n2 q hq
                · rw [e] at hq; simp at hq; have := hsB.1; omega
              simp [ev_region2, evOps_nil, evOps_cons, opG_none, opA_move, opA_assign, opA_bin, putO_some, putH_lt, putC_lt, binT_some, binA, avO_some, io_add, opS, opV, Go.Mx.look, seqK, blockK, mapO, headK, getV, getB, chkP, orO_some, eqT_some, evP_nil, evP_s, opAt_some, chkK_eq, allQ_nil, tk3, w1]
              exact fin v3 HC o3 (hsB.new hs3C n2) n3
        · have hjl3 : ¬ ((j : Int) < (L.length : Int)) := by omega
          have fin := fin0 (fun z hz => by have := (List.getElem?_eq_some_iff.1 hz).1; omega)
          simp [ev_seq, ev_cond2, ev_exit, opG_none, opG_some, opJ, opU_ft, isU_bool, opA_move, opA_pick, opA_bin, opA_load, opA_indexAddr, opA_fieldAddr, opA_nilCheck, opA_len, opA_buildSlice, opA_append, opA_slice, putO_some, putH_lt, putV_lt, condB_false, binT_some, binA, avO_some, pickT, loadT, nilCheckT, lenT_sl, fieldAddrT, indexAddrT, buildSliceT, appendT, bndT, sliceT, io_lss, opS, opV, Go.Mx.look, seqK, blockK, Fr.known, mapO, cellsA_v, okPart_v, Value.oneCell', partA, loadA, loadS, plusS, indexAddrA, nilCheckS, sliceA, fillA, mkFr, slotsOf, ptrsOf, boxesOf, bindO, srcTy, orO_some, eqT_some, ev_draw, drawK, evP_nil, evP_q, evP_s, opAt_some, tk3, sz9, ag9, by9, ze9, sz43, ag43, Try.underlying43, Try.underlying45, st48, Try.underlying48, sz65, ag65, Try.underlying67, hjl3, hc2, hid, hci, hlt, g1, ss1, ss2]
          refine appA_src src1 (by simp [strs] <;> omega) ?_
          refine o0.appM (by simp [strs] <;> omega) (by omega) (fun v1 H1 o1 hs1 hid1 => ?_)
          replace hs1 : Same [] H3 H1 := hs1.wide (by simp [slId])
          have hc1 := hs1.2 _ _ hc2 (by simp)
          have hidA := hs1.2 _ _ hid (by simp)
          have gA := hs1.2 _ _ g1 (by simp)
          have n1 : ∀ q ∈ slId v1, H3.length ≤ q := fun q hq => by
            rcases hid1 with e | e <;> rw [e] at hq <;> simp [slId] at hq
            omega
          simp [opG_none, opA_append, putC_lt, loadT, nilCheckT, fieldAddrT, indexAddrT, appendT, bndT, sliceT, opS, opV, Go.Mx.look, mapO, cellsA_v, okPart_v, Value.oneCell', partA, loadA, loadS, plusS, indexAddrA, nilCheckS, sliceA, fillA, srcTy, evP_s, opAt_some, chkK_eq, sameV_some, sameO_some, allQ_nil, allQ_cons, valQ_none, valS_move, valS_load, valS_indexAddr, valS_fieldAddr, valS_nilCheck, valS_slice, valS_buildSlice, rowT, rowF, sz9, ag9, by9, ze9, sz43, ag43, Try.underlying43, Try.underlying45, st48, Try.underlying48, sz65, ag65, Try.underlying67, hc1, hidA, hci, hlt, gA, ss2]
          refine o1.appM (m := 1) (by simp) (by omega) (fun v2 HB o2 hs2B hid2 => ?_)
          have hsB : Same [] H3 HB := hs1.new hs2B n1
          have hcB := hsB.2 _ _ hc2 (by simp)
          have hidB := hsB.2 _ _ hid (by simp)
          have gB := hsB.2 _ _ g1 (by simp)
          have n2 : ∀ q ∈ slId v2, H3.length ≤ q := fun q hq => by
            rcases hid2 with e | e
            · rw [e] at hq; exact n1 q hq
            · rw [e] at hq; simp at hq; have := hs1.1; omega
          rcases hsh with ⟨off8, m8, rfl⟩ | rfl
          · simp [opG_none, opA_append, putC_lt, appendT, bndT, sliceT, opS, opV, Go.Mx.look, sliceA, srcTy, evP_s, opAt_some, chkK_eq, sameV_some, sameO_some, allQ_nil, allQ_cons, valQ_none, valS_move, valS_slice, sz9, by9, ze9, st48, Try.underlying48, ss2]
            refine appA_src (src3 HB hsB) (by simp [strs] <;> omega) ?_
            refine o2.appM (by simp [strs] <;> omega) (by omega) (fun v3 HC o3 hs3C hid3 => ?_)
            have n3 : ∀ q ∈ slId v3, H3.length ≤ q := fun q hq => by
              rcases hid3 with e | e
              · rw [e] at hq; exact n2 q hq
              · rw [e] at hq; simp at hq; have := hsB.1; omega
            simp [ev_region2, evOps_nil, evOps_cons, opG_none, opA_move, opA_assign, opA_bin, putO_some, putH_lt, putC_lt, binT_some, binA, avO_some, io_add, opS, opV, Go.Mx.look, seqK, blockK, mapO, headK, getV, getB, chkP, orO_some, eqT_some, evP_nil, evP_s, opAt_some, chkK_eq, allQ_nil, tk3, w1]
            exact fin v3 HC o3 (hsB.new hs3C n2) n3
          · simp [opG_none, opA_append, putC_lt, appendT, bndT, sliceT, opS, opV, Go.Mx.look, sliceA, srcTy, evP_s, opAt_some, chkK_eq, sameV_some, sameO_some, allQ_nil, allQ_cons, valQ_none, valS_move, valS_slice, sz9, by9, ze9, st48, Try.underlying48, ss2]
            refine appA_src (src3 HB hsB) (by simp [strs] <;> omega) ?_
            refine o2.appM (by simp [strs] <;> omega) (by omega) (fun v3 HC o3 hs3C hid3 => ?_)
            have n3 : ∀ q ∈ slId v3, H3.length ≤ q := fun q hq => by
              rcases hid3 with e | e
              · rw [e] at hq; exact n2 q hq
              · rw [e] at hq; simp at hq; have := hsB.1; omega
            simp [ev_region2, evOps_nil, evOps_cons, opG_none, opA_move, opA_assign, opA_bin, putO_some, putH_lt, putC_lt, binT_some, binA, avO_some, io_add, opS, opV, Go.Mx.look, seqK, blockK, mapO, headK, getV, getB, chkP, orO_some, eqT_some, evP_nil, evP_s, opAt_some, chkK_eq, allQ_nil, tk3, w1]
            exact fin v3 HC o3 (hsB.new hs3C n2) n3
    · have tu : (r.d.u.toList = u.toList) = False := by rw [tl_inj]; exact eq_false hu
      rw [if_neg hu, List.append_nil] at htk
      simp [ev_cond2, ev_exit, ev_region2, evOps_nil, evOps_cons, opG_none, opA_move, opA_assign, opA_bin, opA_load, opA_fieldAddr, opA_nilCheck, putO_some, putH_lt, CondP_true, binT_some, binA, avO_some, loadT, nilCheckT, fieldAddrT, io_add, strOp, opS, opV, Go.Mx.look, seqK, blockK, Fr.known, mapO, partA, loadA, loadS, plusS, nilCheckS, headK, getV, getB, chkP, orO_some, eqT_some, tk3, sz9, ag9, tk9, sz65, ag65, Try.underlying67, hid, hci, hlt, g1, tu, w1]
      exact ⟨R.length - (i + 1), by omega, i + 1, v5, by omega, rfl, by simp, hs2, by rw [htk]; exact o5⟩
  · have hie : R.take i = R := List.take_of_length_le (by omega)
    rw [hie] at o5
    exact ⟨hs2, 1, _, _, o5, low_strs _, h⟩
end Go.Proofs.Ytamhmecfjkahdaa

namespace Go.Proofs.Ytamhmecfjkahdaa
open Go.Mx
set_option linter.unusedVariables false
set_option linter.unusedSimpArgs false
set_option linter.unnecessarySimpa false

def StInv (L : List ByteArray) (H : Hp) (n : Nat) (xs : List AV) (H2 : Hp) : Prop :=
  ∃ i : Nat, i ≤ L.length ∧ n = L.length - i ∧ xs = [rowS L, rowS L, .v (.int .i64 i)] ∧ H2 = H
theorem strs_sp (L : List ByteArray) (H : Hp) (Q : AV → Hp → Prop) (hl : L.length ≤ 100000) (h : Q (.v (.bool true)) H) : Sp Try.prog 25 [rowS L, rowS L] Q H := by
  refine Sp.body [(4, ⟨[0, 1, 5], [], []⟩)] ⟨[], [], pl25⟩ tb25 mo Try.func25 rfl (Nat.le_of_ble_eq_true rfl) (by kernel_rfl) ?_
  simp [ev_skip, ev_seq, ev_cond2, ev_block, ev_region2, ev_loop, loopK, evOps_nil, evOps_cons, opG_none, opA_move, opA_assign, opA_bin, opA_len, putO_some, putH_lt, condB_false, binT_some, binA, avO_some, lenT_row, io_neq, opS, opV, Go.Mx.look, fr0, argSlots, seqK, Fr.known, mapO, headK, getV, getB, chkP, firstReg, orO_some, eqT_some, tk3, Try.underlying48, pl25, rowS]
  refine LoopC.intro (fun n xs _ H2 => StInv L H n xs H2) L.length ⟨0, by omega, by omega, by simp [rowS], rfl⟩ ?_
  rintro n xs bs H2 ⟨i, hi, rfl, rfl, rfl⟩
  simp [ev_skip, ev_seq, ev_cond2, ev_block, ev_exit, ev_ret, ev_region2, evOps_nil, evOps_cons, opG_none, opA_move, opA_assign, opA_bin, opA_indexAddr, opA_len, putO_some, putH_lt, binT_some, binA, avO_some, lenT_row, indexAddrT, io_lss, opS, opV, Go.Mx.look, seqK, blockK, Fr.known, retK, retA, resA, mapO, indexAddrA, mkFr, slotsOf, ptrsOf, boxesOf, orO_some, eqT_some, ev_draw, drawK, evP_q, opAt_some, tk3, sz9, Try.underlying48, rowS]
  refine ⟨fun hlt => ?_, fun hge => by simpa using h⟩
  have hx := List.getElem?_eq_getElem hlt
  generalize hgi : L[i] = s at hx
  have w1 : IntKind.i64.wrap ((i : Int) + 1) = (i : Int) + 1 := wr_i64 (by omega)
  simp [ev_skip, ev_cond2, ev_region2, evOps_nil, evOps_cons, opG_none, opA_move, opA_assign, opA_bin, opA_load, opA_indexAddr, putO_some, putH_lt, condB_false, binT_some, binA, avO_some, loadT, indexAddrT, io_add, strOp, opS, opV, Go.Mx.look, seqK, blockK, Fr.known, mapO, partA, loadA, loadS, indexAddrA, headK, getV, getB, chkP, orO_some, eqT_some, evP_nil, evP_q, opAt_some, tk3, sz9, ag9, tk9, Try.underlying48, hlt, hgi, w1]
  exact ⟨L.length - (i + 1), by omega, i + 1, by omega, rfl, by simp [rowS], rfl⟩
/-- The program's post and the reference's, of one state, apart. -/
structure Two (H : Hp) (a c : Nat) (S : St) (fp fq : List Nat) : Prop where
  po : PoAt H a S fp
  rf : RfAt H c S fq
  dj : ∀ j ∈ fp, j ∉ fq
theorem Two.same {H H' : Hp} {a c : Nat} {S : St} {fp fq : List Nat} (h : Two H a c S fp fq) (hs : Same [] H H') : Two H' a c S fp fq := ⟨h.po.same hs (by simp), h.rf.same hs (by simp), h.dj⟩
/-- The program's post has stepped; the reference's is as it was. -/
theorem Two.mid {H H1 : Hp} {a c : Nat} {S : St} {fp fq fp1 : List Nat} (h : Two H a c S fp fq) (hs : Stp fp H H1 fp1) : RfAt H1 c S fq ∧ ∀ j ∈ fp1, j ∉ fq := by
  have hlt := h.rf.lt
  refine ⟨h.rf.same hs.1 (fun j hj hm => h.dj j hm hj), fun j hj hm => ?_⟩
  rcases hs.2 j hj with h1 | h1
  · exact h.dj j h1 hm
  · have := hlt j hm; omega
theorem Two.fin {H1 H2 : Hp} {a c : Nat} {S' : St} {fq fp1 fq2 : List Nat} (hp : PoAt H1 a S' fp1) (hd : ∀ j ∈ fp1, j ∉ fq) (hr : RfAt H2 c S' fq2) (hs : Stp fq H1 H2 fq2) : Two H2 a c S' fp1 fq2 := by
  have hlt := hp.lt
  refine ⟨hp.same hs.1 hd, hr, fun j hj hm => ?_⟩
  rcases hs.2 j hm with h1 | h1
  · exact hd j hj h1
  · have := hlt j hj; omega
def PyInv (l : List De) (a c : Nat) (n : Nat) (xs : List AV) (H2 : Hp) : Prop :=
  ∃ (i : Nat) (S : St) (fp fq : List Nat), i ≤ l.length ∧ n = l.length - i ∧ xs = [rowD l, .ptr a 0 0, .ptr c 0 0, .v (.int .i64 i)] ∧ Two H2 a c S fp fq ∧ StOk S i
theorem rf0 (H : Hp) : RfAt (H ++ [.cells 0 [.v (.slice none 0 0), .v (.slice none 0 0)]]) H.length ⟨[], []⟩ [H.length] := by
  refine ⟨.v (.slice none 0 0), .v (.slice none 0 0), [], ⟨rfl, by simp, OwnS.nil _ _, OwnS.nil _ _, ⟨by simp, by simp [fpL]⟩, by simp [slId, fpL]⟩, by simp [slId, fpL]⟩
theorem names_le (S : St) (u : ByteArray) : (namesD S u).length ≤ S.ds.length := by
  unfold namesD
  rw [sortS_len, List.length_map]
  exact List.length_filter_le _ _
theorem out_few {S : St} {N : Nat} (hk : StOk S N) {k : Ky} {d : Dv} (hf : findD S k = some d) (since limit : Int) : (∀ p ∈ pollO d since limit, FewP p) ∧ (pollO d since limit).length ≤ N := by
  have hd := hk.d d (find_mem hf).1
  unfold pollO
  refine ⟨fun p hp => hd.f p (List.mem_of_mem_drop (List.mem_of_mem_take hp)), ?_⟩
  rw [List.length_take, List.length_drop]
  have := hd.l
  show min _ (d.al.length - _) ≤ _
  omega
set_option maxRecDepth 20000 in
set_option maxHeartbeats 8000000 in
theorem plays_law (l : Des) : Sp Try.prog 6 [rowD l.1] (fun v _ => v = .v (.bool true)) [] := by
  obtain ⟨l, hzl⟩ := l
  simp only
  refine Sp.body [(5, ⟨[0, 3, 4, 5], [], []⟩)] ⟨[6], [], pl6⟩ tb6 mo Try.func6 rfl (Nat.le_of_ble_eq_true rfl) (by kernel_rfl) ?_
  simp [ev_seq, ev_region2, evOps_nil, evOps_cons, opG_none, opA_move, opA_assign, opA_call, putO_some, putH_lt, opS, opV, Go.Mx.look, fr0, argSlots, seqK, mapO, callA, ok9, pl6, rowD]
  refine few_sp l false [] _ hzl (fun hfl => ?_) (fun _ => by simp [ev_seq, ev_cond2, ev_ret, ev_region2, evOps_nil, evOps_cons, opG_none, opA_assign, opA_un, putO_some, putH_lt, putC_lt, condB_true, unT, opS, opV, Go.Mx.look, seqK, Fr.known, retK, retA, resA, mapO, unA])
  have hl80 := hfl.1
  simp [ev_skip, ev_seq, ev_cond2, ev_region2, evOps_nil, evOps_cons, opG_none, opA_un, opA_call, putO_some, putH_lt, putC_lt, condB_false, unT, opS, opV, Go.Mx.look, seqK, Fr.known, mapO, unA, callA, ok10]
  refine new_sp [] _ (fun a H1 fp1 hp1 hs1 hf1 => ?_)
  have r0 := rf0 H1
  have hl1 := hp1.lt
  have t0 : Two (H1 ++ [.cells 0 [.v (.slice none 0 0), .v (.slice none 0 0)]]) a H1.length ⟨[], []⟩ fp1 [H1.length] := ⟨hp1.same (Same.app [] _ _) (by simp), r0, fun j hj hm => by simp at hm; have := hl1 j hj; omega⟩
  obtain ⟨c, hcc⟩ : ∃ c, c = H1.length := ⟨_, rfl⟩
  rw [← hcc] at t0
  simp [ev_seq, ev_block, ev_region2, ev_loop, loopK, evOps_nil, evOps_cons, opG_none, opA_assign, opA_box, opA_build, putO_some, putH_lt, putC_lt, boxT, buildZ, partsZ, fillO, aggO, opS, opV, Go.Mx.look, seqK, mapO, cellsA_agg, okPart_agg, fillA, newK, headK, getV, getB, chkP, firstReg, ze45, of45]
  refine LoopC.intro (fun n xs bs H2 => PyInv l a c n xs H2) l.length ⟨0, _, fp1, [c], by omega, by omega, by simp [rowD, hcc], t0, ⟨by simp, by simp, by simp, by simp, by simp⟩⟩ ?_
  clear t0 r0 hl1 hp1 hs1 hf1 hcc H1
  rintro n xs bs H2 ⟨i, S, fp, fq, hi, rfl, rfl, hT, hk⟩
  simp [ev_skip, ev_seq, ev_cond2, ev_block, ev_exit, ev_region2, evOps_nil, evOps_cons, opG_none, opA_move, opA_bin, opA_indexAddr, opA_len, opA_call, putO_some, putH_lt, binT_some, binA, avO_some, lenT_row, indexAddrT, io_lss, opS, opV, Go.Mx.look, seqK, blockK, Fr.known, mapO, callA, indexAddrA, mkFr, slotsOf, ptrsOf, boxesOf, orO_some, eqT_some, tk3, Try.underlying22, sz32, ok16, rowD]
  refine ⟨fun hlt => ?_, fun hge => ?_⟩
  · have hx := List.getElem?_eq_getElem hlt
    generalize l[i] = e at hx
    have hsl := flat_sub deC_len l i hx
    have hle : i * 10 + 10 ≤ (List.map (fun a : De => 10) l).sum := flat_le2 deC_len hx
    obtain ⟨d1, d2⟩ := hfl.2 e (List.mem_of_getElem? hx)
    have d3 := d2
    unfold FewX at d3
    have w1 : IntKind.i64.wrap ((i : Int) + 1) = (i : Int) + 1 := wr_i64 (by omega)
    have step : ∀ H3 S' fp' fq', Two H3 a c S' fp' fq' → StOk S' (i + 1) → ∃ m, m < l.length - i ∧ PyInv l a c m [rowD l, .ptr a 0 0, .ptr c 0 0, .v (.int .i64 ((i : Int) + 1))] H3 := fun H3 S' fp' fq' h1 h2 =>
      ⟨l.length - (i + 1), by omega, i + 1, S', fp', fq', by omega, rfl, by simp, h1, h2⟩
    simp only [rowD] at step
    simp [ev_seq, ev_cond2, ev_block, ev_region2, evOps_nil, evOps_cons, opG_none, opG_some, opJ, opU_ff, isU_bool, opK_eq, opA_move, opA_assign, opA_bin, opA_un, opA_load, opA_fieldAddr, opA_call, opA_alloc, opA_store, putO_some, putH_lt, putU_none, condB_false, binT_some, binA, avO_some, unT, loadT, fieldAddrT, allocT, storeT, io_eql, opS, opV, Go.Mx.look, seqK, blockK, Fr.known, Fr.newBox, dropBp, mapO, unA, callA, cellsA_agg, okPart_agg, partA, loadA, loadS, plusS, newK, storeS, orO_some, eqT_some, ev_draw, drawK, evP_q, evP_s, opAt_some, sz2, ag2, sz3, ag3, tk3, sz9, ag9, sz30, ag30, sz32, ag32, ze32, Try.underlying32, ok11, ok12, ok13, ok15, ok18, hlt, hsl, hle, deC, splice]
    refine ⟨fun k0 => ?_, fun k0 => ⟨fun k1 => ?_, fun k1 => ⟨fun k2 => ?_, fun k2 => ⟨fun k3 => ?_, fun k3 => ?_⟩⟩⟩⟩
    · refine enter_sp a S fp i e.u e.n H2 _ hT.po hk (by omega) (by omega) (fun H3 fp3 hp3 st3 => ?_)
      obtain ⟨rf3, dj3⟩ := hT.mid st3
      simp [opG_none, opA_call, putC_lt, loadT, fieldAddrT, opS, opV, Go.Mx.look, mapO, callA, partA, loadS, plusS, evP_s, opAt_some, chkK_eq, sameV_some, sameO_some, allQ_nil, allQ_cons, valQ_none, valS_move, valS_load, valS_fieldAddr, sz9, ag9, Try.underlying32, ok17]
      refine renter_sp c S fq i e.u e.n H3 _ rf3 hk (by omega) (by omega) (by omega) (fun H4 fq4 hr4 st4 => ?_)
      have T3 := Two.fin hp3 dj3 hr4 st4
      have k3 := hk.enter (u := e.u) (n := e.n) (by omega) (by omega)
      simp [ev_seq, opG_none, opG_some, opJ, opU_ff, isU_bool, opK_eq, opA_move, opA_assign, opA_bin, opA_un, opA_load, opA_fieldAddr, opA_call, putO_some, putH_lt, putC_lt, condB_false, binT_some, binA, avO_some, unT, loadT, fieldAddrT, io_eql, opS, opV, Go.Mx.look, seqK, blockK, Fr.known, mapO, unA, callA, partA, loadS, plusS, orO_some, eqT_some, ev_draw, drawK, evP_nil, evP_q, evP_s, opAt_some, chkK_eq, allQ_nil, sz9, ag9, tk26, Try.underlying32, ok15]
      refine waiting_sp a (enterS S e.u e.n) fp3 (i + 1) e.u e.n H4 _ T3.po k3 (by omega) (by omega) ?_
      simp [opG_some, opJ, opU_ff, isU_bool, valU_false, opK_eq, opA_call, putC_lt, condB_false, loadT, fieldAddrT, opS, opV, Go.Mx.look, Fr.known, mapO, callA, partA, loadS, plusS, evP_s, opAt_some, chkK_eq, sameV_some, sameO_some, allQ_nil, allQ_cons, valJ, valQ_some, valS_move, valS_load, valS_fieldAddr, sz9, ag9, Try.underlying32, ok22]
      refine rwait_sp c (enterS S e.u e.n) fq4 (i + 1) e.u e.n H4 _ T3.rf k3 (by omega) ?_
      simp [opG_none, opG_some, opJ, opU_ff, isU_bool, opK_eq, opA_move, opA_pick, opA_bin, opA_load, opA_fieldAddr, opA_call, putO_some, putH_lt, putC_lt, condB_false, binT_some, binA, avO_some, pickT, loadT, fieldAddrT, io_neq, opS, opV, Go.Mx.look, Fr.known, mapO, callA, partA, loadS, plusS, orO_some, eqT_some, evP_q, evP_s, opAt_some, chkK_eq, allQ_nil, tk3, sz9, ag9, sz30, Try.underlying30, Try.underlying32, ok23]
      refine seen_sp a (enterS S e.u e.n) fp3 e.p.fr e.p.tx_ H4 _ T3.po (by omega) (by omega) ?_
      simp [opG_some, opJ, opU_ff, isU_bool, valU_false, opK_eq, opA_call, putC_lt, condB_false, loadT, fieldAddrT, opS, opV, Go.Mx.look, Fr.known, mapO, callA, partA, loadS, plusS, evP_s, opAt_some, chkK_eq, sameV_some, sameO_some, allQ_nil, allQ_cons, valJ, valQ_some, valS_move, valS_load, valS_fieldAddr, sz9, ag9, sz30, Try.underlying30, Try.underlying32, ok24]
      refine rseen_sp c (enterS S e.u e.n) fq4 (i + 1) e.p.fr e.p.tx_ H4 _ T3.rf k3 (by omega) ?_
      simp [opG_none, opG_some, opJ, opU_ff, isU_bool, opK_eq, opA_move, opA_pick, opA_bin, opA_load, opA_fieldAddr, opA_call, putO_some, putH_lt, putC_lt, condB_false, binT_some, binA, eqRef, avO_some, pickT, loadT, fieldAddrT, opS, opV, Go.Mx.look, Fr.known, mapO, callA, partA, loadS, plusS, orO_some, eqT_some, evP_q, evP_s, opAt_some, chkK_eq, allQ_nil, tk4, sz9, ag9, Try.underlying32, ok26]
      refine devices_sp a (enterS S e.u e.n) fp3 (i + 1) e.u H4 _ T3.po k3 (by omega) ?_
      simp [opG_some, opJ, opU_ff, isU_bool, valU_false, opK_eq, opA_call, putC_lt, condB_false, loadT, fieldAddrT, opS, opV, Go.Mx.look, Fr.known, mapO, callA, partA, loadS, plusS, evP_s, opAt_some, chkK_eq, sameV_some, sameO_some, allQ_nil, allQ_cons, valJ, valQ_some, valS_move, valS_load, valS_fieldAddr, sz9, ag9, Try.underlying32, ok27]
      refine rdevices_sp c (enterS S e.u e.n) fq4 (i + 1) e.u H4 _ T3.rf k3 (by omega) ?_
      simp [opG_some, opJ, opU_ff, isU_bool, opK_eq, opA_call, putC_lt, condB_false, opS, opV, Go.Mx.look, Fr.known, mapO, callA, evP_s, opAt_some, chkK_eq, allQ_nil, ok25]
      refine strs_sp (namesD (enterS S e.u e.n) e.u) H4 _ (by have h8 := names_le (enterS S e.u e.n) e.u; have h9 := k3.l; omega) ?_
      simp [ev_skip, ev_cond2, ev_region2, evOps_nil, evOps_cons, opG_none, opG_some, opJ, opU_ff, isU_bool, opK_eq, opA_move, opA_assign, opA_pick, opA_bin, opA_un, putO_some, putH_lt, putC_lt, condB_false, binT_some, binA, avO_some, pickT, unT, io_add, opS, opV, Go.Mx.look, seqK, blockK, Fr.known, mapO, unA, headK, getV, getB, chkP, orO_some, eqT_some, evP_nil, evP_q, opAt_some, chkK_eq, allQ_nil, tk3, w1]
      exact step H4 (enterS S e.u e.n) fp3 fq4 T3 k3
    · refine leave_sp a S fp i e.u e.n H2 _ hT.po hk (by omega) (by omega) (fun H3 fp3 hp3 st3 => ?_)
      obtain ⟨rf3, dj3⟩ := hT.mid st3
      simp [opG_none, opA_call, putC_lt, loadT, fieldAddrT, opS, opV, Go.Mx.look, mapO, callA, partA, loadS, plusS, evP_s, opAt_some, chkK_eq, sameV_some, sameO_some, allQ_nil, allQ_cons, valQ_none, valS_move, valS_load, valS_fieldAddr, sz9, ag9, Try.underlying32, ok19]
      refine rleave_sp c S fq i e.u e.n H3 _ rf3 hk (by omega) (fun H4 fq4 hr4 st4 => ?_)
      have T3 := Two.fin hp3 dj3 hr4 st4
      have k3 := (hk.leave (e.u, e.n)).mono (Nat.le_succ i)
      simp [ev_seq, opG_none, opG_some, opJ, opU_ff, isU_bool, opK_eq, opA_move, opA_assign, opA_bin, opA_un, opA_load, opA_fieldAddr, opA_call, putO_some, putH_lt, putC_lt, condB_false, binT_some, binA, eqRef, avO_some, unT, loadT, fieldAddrT, opS, opV, Go.Mx.look, seqK, blockK, Fr.known, mapO, unA, callA, partA, loadS, plusS, orO_some, eqT_some, ev_draw, drawK, evP_nil, evP_q, evP_s, opAt_some, chkK_eq, allQ_nil, tk4, sz9, ag9, Try.underlying32, ok15]
      refine waiting_sp a (leaveS S (e.u, e.n)) fp3 (i + 1) e.u e.n H4 _ T3.po k3 (by omega) (by omega) ?_
      simp [opG_some, opJ, opU_ff, isU_bool, valU_false, opK_eq, opA_call, putC_lt, condB_false, loadT, fieldAddrT, opS, opV, Go.Mx.look, Fr.known, mapO, callA, partA, loadS, plusS, evP_s, opAt_some, chkK_eq, sameV_some, sameO_some, allQ_nil, allQ_cons, valJ, valQ_some, valS_move, valS_load, valS_fieldAddr, sz9, ag9, Try.underlying32, ok22]
      refine rwait_sp c (leaveS S (e.u, e.n)) fq4 (i + 1) e.u e.n H4 _ T3.rf k3 (by omega) ?_
      simp [opG_none, opG_some, opJ, opU_ff, isU_bool, opK_eq, opA_move, opA_pick, opA_bin, opA_load, opA_fieldAddr, opA_call, putO_some, putH_lt, putC_lt, condB_false, binT_some, binA, avO_some, pickT, loadT, fieldAddrT, io_neq, opS, opV, Go.Mx.look, Fr.known, mapO, callA, partA, loadS, plusS, orO_some, eqT_some, evP_q, evP_s, opAt_some, chkK_eq, allQ_nil, tk3, sz9, ag9, sz30, Try.underlying30, Try.underlying32, ok23]
      refine seen_sp a (leaveS S (e.u, e.n)) fp3 e.p.fr e.p.tx_ H4 _ T3.po (by omega) (by omega) ?_
      simp [opG_some, opJ, opU_ff, isU_bool, valU_false, opK_eq, opA_call, putC_lt, condB_false, loadT, fieldAddrT, opS, opV, Go.Mx.look, Fr.known, mapO, callA, partA, loadS, plusS, evP_s, opAt_some, chkK_eq, sameV_some, sameO_some, allQ_nil, allQ_cons, valJ, valQ_some, valS_move, valS_load, valS_fieldAddr, sz9, ag9, sz30, Try.underlying30, Try.underlying32, ok24]
      refine rseen_sp c (leaveS S (e.u, e.n)) fq4 (i + 1) e.p.fr e.p.tx_ H4 _ T3.rf k3 (by omega) ?_
      simp [opG_none, opG_some, opJ, opU_ff, isU_bool, opK_eq, opA_move, opA_pick, opA_bin, opA_load, opA_fieldAddr, opA_call, putO_some, putH_lt, putC_lt, condB_false, binT_some, binA, eqRef, avO_some, pickT, loadT, fieldAddrT, opS, opV, Go.Mx.look, Fr.known, mapO, callA, partA, loadS, plusS, orO_some, eqT_some, evP_q, evP_s, opAt_some, chkK_eq, allQ_nil, tk4, sz9, ag9, Try.underlying32, ok26]
      refine devices_sp a (leaveS S (e.u, e.n)) fp3 (i + 1) e.u H4 _ T3.po k3 (by omega) ?_
      simp [opG_some, opJ, opU_ff, isU_bool, valU_false, opK_eq, opA_call, putC_lt, condB_false, loadT, fieldAddrT, opS, opV, Go.Mx.look, Fr.known, mapO, callA, partA, loadS, plusS, evP_s, opAt_some, chkK_eq, sameV_some, sameO_some, allQ_nil, allQ_cons, valJ, valQ_some, valS_move, valS_load, valS_fieldAddr, sz9, ag9, Try.underlying32, ok27]
      refine rdevices_sp c (leaveS S (e.u, e.n)) fq4 (i + 1) e.u H4 _ T3.rf k3 (by omega) ?_
      simp [opG_some, opJ, opU_ff, isU_bool, opK_eq, opA_call, putC_lt, condB_false, opS, opV, Go.Mx.look, Fr.known, mapO, callA, evP_s, opAt_some, chkK_eq, allQ_nil, ok25]
      refine strs_sp (namesD (leaveS S (e.u, e.n)) e.u) H4 _ (by have h8 := names_le (leaveS S (e.u, e.n)) e.u; have h9 := k3.l; omega) ?_
      simp [ev_skip, ev_cond2, ev_region2, evOps_nil, evOps_cons, opG_none, opG_some, opJ, opU_ff, isU_bool, opK_eq, opA_move, opA_assign, opA_pick, opA_bin, opA_un, putO_some, putH_lt, putC_lt, condB_false, binT_some, binA, avO_some, pickT, unT, io_add, opS, opV, Go.Mx.look, seqK, blockK, Fr.known, mapO, unA, headK, getV, getB, chkP, orO_some, eqT_some, evP_nil, evP_q, opAt_some, chkK_eq, allQ_nil, tk3, w1]
      exact step H4 (leaveS S (e.u, e.n)) fp3 fq4 T3 k3
    · refine send_sp a S fp i e.p H2 _ hT.po hk (by omega) d2.to (fun H3 fp3 hp3 st3 => ?_)
      obtain ⟨rf3, dj3⟩ := hT.mid st3
      simp [ev_seq, ev_region2, evOps_nil, evOps_cons, opG_none, opA_move, opA_assign, opA_extract, opA_load, opA_fieldAddr, opA_call, putO_some, putH_lt, putC_lt, extractT, loadT, fieldAddrT, opS, opV, Go.Mx.look, seqK, mapO, callA, extractA, partA, loadS, plusS, sz30, ag30, Try.underlying32, ok20]
      refine rsend_sp c S fq i e.p H3 _ rf3 hk (by omega) d2.to (fun H4 fq4 hr4 st4 => ?_)
      have T3 := Two.fin hp3 dj3 hr4 st4
      have k3 := hk.send d2.to
      simp [ev_seq, ev_region2, evOps_nil, evOps_cons, opG_none, opG_some, opJ, opU_ft, opU_ff, isU_bool, opK_eq, opA_move, opA_assign, opA_pick, opA_bin, opA_un, opA_extract, opA_load, opA_fieldAddr, opA_call, putO_some, putH_lt, putC_lt, condB_true, condB_false, binT_some, binA, avO_some, pickT, unT, extractT, loadT, fieldAddrT, io_eql, opS, opV, Go.Mx.look, seqK, blockK, Fr.known, mapO, unA, callA, extractA, partA, loadS, plusS, orO_some, eqT_some, ev_draw, drawK, evP_q, evP_s, opAt_some, tk3, sz9, ag9, tk26, Try.underlying32, ok15]
      refine waiting_sp a (sendS S e.p) fp3 (i + 1) e.u e.n H4 _ T3.po k3 (by omega) (by omega) ?_
      simp [opG_some, opJ, opU_ff, isU_bool, valU_false, opK_eq, opA_call, putC_lt, condB_false, loadT, fieldAddrT, opS, opV, Go.Mx.look, Fr.known, mapO, callA, partA, loadS, plusS, evP_s, opAt_some, chkK_eq, sameV_some, sameO_some, allQ_nil, allQ_cons, valJ, valQ_some, valS_move, valS_load, valS_fieldAddr, sz9, ag9, Try.underlying32, ok22]
      refine rwait_sp c (sendS S e.p) fq4 (i + 1) e.u e.n H4 _ T3.rf k3 (by omega) ?_
      simp [opG_none, opG_some, opJ, opU_ff, isU_bool, opK_eq, opA_move, opA_pick, opA_bin, opA_load, opA_fieldAddr, opA_call, putO_some, putH_lt, putC_lt, condB_false, binT_some, binA, avO_some, pickT, loadT, fieldAddrT, io_neq, opS, opV, Go.Mx.look, Fr.known, mapO, callA, partA, loadS, plusS, orO_some, eqT_some, evP_q, evP_s, opAt_some, chkK_eq, allQ_nil, tk3, sz9, ag9, sz30, Try.underlying30, Try.underlying32, ok23]
      refine seen_sp a (sendS S e.p) fp3 e.p.fr e.p.tx_ H4 _ T3.po (by omega) (by omega) ?_
      simp [opG_some, opJ, opU_ff, isU_bool, valU_false, opK_eq, opA_call, putC_lt, condB_false, loadT, fieldAddrT, opS, opV, Go.Mx.look, Fr.known, mapO, callA, partA, loadS, plusS, evP_s, opAt_some, chkK_eq, sameV_some, sameO_some, allQ_nil, allQ_cons, valJ, valQ_some, valS_move, valS_load, valS_fieldAddr, sz9, ag9, sz30, Try.underlying30, Try.underlying32, ok24]
      refine rseen_sp c (sendS S e.p) fq4 (i + 1) e.p.fr e.p.tx_ H4 _ T3.rf k3 (by omega) ?_
      simp [opG_none, opG_some, opJ, opU_ff, isU_bool, opK_eq, opA_move, opA_pick, opA_bin, opA_load, opA_fieldAddr, opA_call, putO_some, putH_lt, putC_lt, condB_false, binT_some, binA, eqRef, avO_some, pickT, loadT, fieldAddrT, opS, opV, Go.Mx.look, Fr.known, mapO, callA, partA, loadS, plusS, orO_some, eqT_some, evP_q, evP_s, opAt_some, chkK_eq, allQ_nil, tk4, sz9, ag9, Try.underlying32, ok26]
      refine devices_sp a (sendS S e.p) fp3 (i + 1) e.u H4 _ T3.po k3 (by omega) ?_
      simp [opG_some, opJ, opU_ff, isU_bool, valU_false, opK_eq, opA_call, putC_lt, condB_false, loadT, fieldAddrT, opS, opV, Go.Mx.look, Fr.known, mapO, callA, partA, loadS, plusS, evP_s, opAt_some, chkK_eq, sameV_some, sameO_some, allQ_nil, allQ_cons, valJ, valQ_some, valS_move, valS_load, valS_fieldAddr, sz9, ag9, Try.underlying32, ok27]
      refine rdevices_sp c (sendS S e.p) fq4 (i + 1) e.u H4 _ T3.rf k3 (by omega) ?_
      simp [opG_some, opJ, opU_ff, isU_bool, opK_eq, opA_call, putC_lt, condB_false, opS, opV, Go.Mx.look, Fr.known, mapO, callA, evP_s, opAt_some, chkK_eq, allQ_nil, ok25]
      refine strs_sp (namesD (sendS S e.p) e.u) H4 _ (by have h8 := names_le (sendS S e.p) e.u; have h9 := k3.l; omega) ?_
      simp [ev_skip, ev_cond2, ev_region2, evOps_nil, evOps_cons, opG_none, opG_some, opJ, opU_ff, isU_bool, opK_eq, opA_move, opA_assign, opA_pick, opA_bin, opA_un, putO_some, putH_lt, putC_lt, condB_false, binT_some, binA, avO_some, pickT, unT, io_add, opS, opV, Go.Mx.look, seqK, blockK, Fr.known, mapO, unA, headK, getV, getB, chkP, orO_some, eqT_some, evP_nil, evP_q, opAt_some, chkK_eq, allQ_nil, tk3, w1]
      exact step H4 (sendS S e.p) fp3 fq4 T3 k3
    · refine poll_sp a S fp i e.u e.n e.since e.limit H2 _ hT.po hk (by omega) (by omega) (by omega) (fun hf H3 hs3 => ?_) (fun d hf H3 fp3 hp3 st3 => ?_)
      · simp [ev_seq, ev_region2, evOps_nil, evOps_cons, opG_none, opA_move, opA_assign, opA_extract, opA_load, opA_fieldAddr, opA_call, putO_some, putH_lt, putC_lt, extractT, loadT, fieldAddrT, opS, opV, Go.Mx.look, seqK, mapO, callA, extractA, partA, loadS, plusS, sz2, ag2, sz3, ag3, sz9, ag9, Try.underlying32, ok21]
        refine rpoll_sp c S fq i e.u e.n e.since e.limit H3 _ (hT.same hs3).rf hk (by omega) (fun _ H4 hs4 => ?_) (fun d hf2 => by rw [hf] at hf2; simp at hf2)
        have T3 := (hT.same hs3).same hs4
        have k3 := hk.mono (Nat.le_succ i)
        simp [ev_region2, evOps_nil, evOps_cons, opG_none, opA_move, opA_assign, opA_extract, opA_call, putO_some, putH_lt, putC_lt, extractT, opS, opV, Go.Mx.look, seqK, mapO, callA, extractA, ok14]
        refine same_sp [] H4 _ (by simp) (by simp) ?_
        simp [ev_seq, evOps_nil, evOps_cons, opG_none, opG_some, opJ, opU_ft, opU_ff, isU_bool, opK_eq, opA_move, opA_assign, opA_pick, opA_bin, opA_un, opA_load, opA_fieldAddr, opA_call, putO_some, putH_lt, putC_lt, condB_true, condB_false, binT_some, binA, avO_some, pickT, unT, loadT, fieldAddrT, io_eql, opS, opV, Go.Mx.look, seqK, blockK, Fr.known, mapO, unA, callA, partA, loadS, plusS, orO_some, eqT_some, ev_draw, drawK, evP_q, evP_s, opAt_some, tk2, sz9, ag9, tk26, Try.underlying32, ok15]
        refine waiting_sp a S fp (i + 1) e.u e.n H4 _ T3.po k3 (by omega) (by omega) ?_
        simp [opG_some, opJ, opU_ff, isU_bool, valU_false, opK_eq, opA_call, putC_lt, condB_false, loadT, fieldAddrT, opS, opV, Go.Mx.look, Fr.known, mapO, callA, partA, loadS, plusS, evP_s, opAt_some, chkK_eq, sameV_some, sameO_some, allQ_nil, allQ_cons, valJ, valQ_some, valS_move, valS_load, valS_fieldAddr, sz9, ag9, Try.underlying32, ok22]
        refine rwait_sp c S fq (i + 1) e.u e.n H4 _ T3.rf k3 (by omega) ?_
        simp [opG_none, opG_some, opJ, opU_ff, isU_bool, opK_eq, opA_move, opA_pick, opA_bin, opA_load, opA_fieldAddr, opA_call, putO_some, putH_lt, putC_lt, condB_false, binT_some, binA, avO_some, pickT, loadT, fieldAddrT, io_neq, opS, opV, Go.Mx.look, Fr.known, mapO, callA, partA, loadS, plusS, orO_some, eqT_some, evP_q, evP_s, opAt_some, chkK_eq, allQ_nil, tk3, sz9, ag9, sz30, Try.underlying30, Try.underlying32, ok23]
        refine seen_sp a S fp e.p.fr e.p.tx_ H4 _ T3.po (by omega) (by omega) ?_
        simp [opG_some, opJ, opU_ff, isU_bool, valU_false, opK_eq, opA_call, putC_lt, condB_false, loadT, fieldAddrT, opS, opV, Go.Mx.look, Fr.known, mapO, callA, partA, loadS, plusS, evP_s, opAt_some, chkK_eq, sameV_some, sameO_some, allQ_nil, allQ_cons, valJ, valQ_some, valS_move, valS_load, valS_fieldAddr, sz9, ag9, sz30, Try.underlying30, Try.underlying32, ok24]
        refine rseen_sp c S fq (i + 1) e.p.fr e.p.tx_ H4 _ T3.rf k3 (by omega) ?_
        simp [opG_none, opG_some, opJ, opU_ff, isU_bool, opK_eq, opA_move, opA_pick, opA_bin, opA_load, opA_fieldAddr, opA_call, putO_some, putH_lt, putC_lt, condB_false, binT_some, binA, eqRef, avO_some, pickT, loadT, fieldAddrT, opS, opV, Go.Mx.look, Fr.known, mapO, callA, partA, loadS, plusS, orO_some, eqT_some, evP_q, evP_s, opAt_some, chkK_eq, allQ_nil, tk4, sz9, ag9, Try.underlying32, ok26]
        refine devices_sp a S fp (i + 1) e.u H4 _ T3.po k3 (by omega) ?_
        simp [opG_some, opJ, opU_ff, isU_bool, valU_false, opK_eq, opA_call, putC_lt, condB_false, loadT, fieldAddrT, opS, opV, Go.Mx.look, Fr.known, mapO, callA, partA, loadS, plusS, evP_s, opAt_some, chkK_eq, sameV_some, sameO_some, allQ_nil, allQ_cons, valJ, valQ_some, valS_move, valS_load, valS_fieldAddr, sz9, ag9, Try.underlying32, ok27]
        refine rdevices_sp c S fq (i + 1) e.u H4 _ T3.rf k3 (by omega) ?_
        simp [opG_some, opJ, opU_ff, isU_bool, opK_eq, opA_call, putC_lt, condB_false, opS, opV, Go.Mx.look, Fr.known, mapO, callA, evP_s, opAt_some, chkK_eq, allQ_nil, ok25]
        refine strs_sp (namesD S e.u) H4 _ (by have h8 := names_le S e.u; have h9 := k3.l; omega) ?_
        simp [ev_skip, ev_cond2, ev_region2, evOps_nil, evOps_cons, opG_none, opG_some, opJ, opU_ff, isU_bool, opK_eq, opA_move, opA_assign, opA_pick, opA_bin, opA_un, putO_some, putH_lt, putC_lt, condB_false, binT_some, binA, avO_some, pickT, unT, io_add, opS, opV, Go.Mx.look, seqK, blockK, Fr.known, mapO, unA, headK, getV, getB, chkP, orO_some, eqT_some, evP_nil, evP_q, opAt_some, chkK_eq, allQ_nil, tk3, w1]
        exact step H4 S fp fq T3 k3
      · obtain ⟨rf3, dj3⟩ := hT.mid st3
        simp [ev_seq, ev_region2, evOps_nil, evOps_cons, opG_none, opA_move, opA_assign, opA_extract, opA_load, opA_fieldAddr, opA_call, putO_some, putH_lt, putC_lt, extractT, loadT, fieldAddrT, opS, opV, Go.Mx.look, seqK, mapO, callA, extractA, partA, loadS, plusS, sz2, ag2, sz3, ag3, sz9, ag9, Try.underlying32, ok21]
        refine rpoll_sp c S fq i e.u e.n e.since e.limit H3 _ rf3 hk (by omega) (fun hf2 => by rw [hf] at hf2; simp at hf2) (fun d9 hf2 H4 fq4 hr4 st4 => ?_)
        rw [hf] at hf2
        simp only [Option.some.injEq] at hf2
        subst hf2
        have T3 := Two.fin hp3 dj3 hr4 st4
        have k3 := (hk.poll (e.u, e.n) e.since).mono (Nat.le_succ i)
        obtain ⟨f1, f2⟩ := out_few hk hf e.since e.limit
        simp [ev_region2, evOps_nil, evOps_cons, opG_none, opA_move, opA_assign, opA_extract, opA_call, putO_some, putH_lt, putC_lt, extractT, opS, opV, Go.Mx.look, seqK, mapO, callA, extractA, ok14]
        refine same_sp (pollO d e.since e.limit) H4 _ f1 (by omega) ?_
        simp [ev_seq, evOps_nil, evOps_cons, opG_none, opG_some, opJ, opU_ft, opU_ff, isU_bool, opK_eq, opA_move, opA_assign, opA_pick, opA_bin, opA_un, opA_load, opA_fieldAddr, opA_call, putO_some, putH_lt, putC_lt, condB_true, condB_false, binT_some, binA, avO_some, pickT, unT, loadT, fieldAddrT, io_eql, opS, opV, Go.Mx.look, seqK, blockK, Fr.known, mapO, unA, callA, partA, loadS, plusS, orO_some, eqT_some, ev_draw, drawK, evP_q, evP_s, opAt_some, tk2, sz9, ag9, tk26, Try.underlying32, ok15]
        refine waiting_sp a (pollS S (e.u, e.n) e.since) fp3 (i + 1) e.u e.n H4 _ T3.po k3 (by omega) (by omega) ?_
        simp [opG_some, opJ, opU_ff, isU_bool, valU_false, opK_eq, opA_call, putC_lt, condB_false, loadT, fieldAddrT, opS, opV, Go.Mx.look, Fr.known, mapO, callA, partA, loadS, plusS, evP_s, opAt_some, chkK_eq, sameV_some, sameO_some, allQ_nil, allQ_cons, valJ, valQ_some, valS_move, valS_load, valS_fieldAddr, sz9, ag9, Try.underlying32, ok22]
        refine rwait_sp c (pollS S (e.u, e.n) e.since) fq4 (i + 1) e.u e.n H4 _ T3.rf k3 (by omega) ?_
        simp [opG_none, opG_some, opJ, opU_ff, isU_bool, opK_eq, opA_move, opA_pick, opA_bin, opA_load, opA_fieldAddr, opA_call, putO_some, putH_lt, putC_lt, condB_false, binT_some, binA, avO_some, pickT, loadT, fieldAddrT, io_neq, opS, opV, Go.Mx.look, Fr.known, mapO, callA, partA, loadS, plusS, orO_some, eqT_some, evP_q, evP_s, opAt_some, chkK_eq, allQ_nil, tk3, sz9, ag9, sz30, Try.underlying30, Try.underlying32, ok23]
        refine seen_sp a (pollS S (e.u, e.n) e.since) fp3 e.p.fr e.p.tx_ H4 _ T3.po (by omega) (by omega) ?_
        simp [opG_some, opJ, opU_ff, isU_bool, valU_false, opK_eq, opA_call, putC_lt, condB_false, loadT, fieldAddrT, opS, opV, Go.Mx.look, Fr.known, mapO, callA, partA, loadS, plusS, evP_s, opAt_some, chkK_eq, sameV_some, sameO_some, allQ_nil, allQ_cons, valJ, valQ_some, valS_move, valS_load, valS_fieldAddr, sz9, ag9, sz30, Try.underlying30, Try.underlying32, ok24]
        refine rseen_sp c (pollS S (e.u, e.n) e.since) fq4 (i + 1) e.p.fr e.p.tx_ H4 _ T3.rf k3 (by omega) ?_
        simp [opG_none, opG_some, opJ, opU_ff, isU_bool, opK_eq, opA_move, opA_pick, opA_bin, opA_load, opA_fieldAddr, opA_call, putO_some, putH_lt, putC_lt, condB_false, binT_some, binA, eqRef, avO_some, pickT, loadT, fieldAddrT, opS, opV, Go.Mx.look, Fr.known, mapO, callA, partA, loadS, plusS, orO_some, eqT_some, evP_q, evP_s, opAt_some, chkK_eq, allQ_nil, tk4, sz9, ag9, Try.underlying32, ok26]
        refine devices_sp a (pollS S (e.u, e.n) e.since) fp3 (i + 1) e.u H4 _ T3.po k3 (by omega) ?_
        simp [opG_some, opJ, opU_ff, isU_bool, valU_false, opK_eq, opA_call, putC_lt, condB_false, loadT, fieldAddrT, opS, opV, Go.Mx.look, Fr.known, mapO, callA, partA, loadS, plusS, evP_s, opAt_some, chkK_eq, sameV_some, sameO_some, allQ_nil, allQ_cons, valJ, valQ_some, valS_move, valS_load, valS_fieldAddr, sz9, ag9, Try.underlying32, ok27]
        refine rdevices_sp c (pollS S (e.u, e.n) e.since) fq4 (i + 1) e.u H4 _ T3.rf k3 (by omega) ?_
        simp [opG_some, opJ, opU_ff, isU_bool, opK_eq, opA_call, putC_lt, condB_false, opS, opV, Go.Mx.look, Fr.known, mapO, callA, evP_s, opAt_some, chkK_eq, allQ_nil, ok25]
        refine strs_sp (namesD (pollS S (e.u, e.n) e.since) e.u) H4 _ (by have h8 := names_le (pollS S (e.u, e.n) e.since) e.u; have h9 := k3.l; omega) ?_
        simp [ev_skip, ev_cond2, ev_region2, evOps_nil, evOps_cons, opG_none, opG_some, opJ, opU_ff, isU_bool, opK_eq, opA_move, opA_assign, opA_pick, opA_bin, opA_un, putO_some, putH_lt, putC_lt, condB_false, binT_some, binA, avO_some, pickT, unT, io_add, opS, opV, Go.Mx.look, seqK, blockK, Fr.known, mapO, unA, headK, getV, getB, chkP, orO_some, eqT_some, evP_nil, evP_q, opAt_some, chkK_eq, allQ_nil, tk3, w1]
        exact step H4 (pollS S (e.u, e.n) e.since) fp3 fq4 T3 k3
    · have T3 := hT
      have k3 := hk.mono (Nat.le_succ i)
      refine waiting_sp a S fp (i + 1) e.u e.n H2 _ T3.po k3 (by omega) (by omega) ?_
      simp [opG_some, opJ, opU_ff, isU_bool, valU_false, opK_eq, opA_call, putC_lt, condB_false, loadT, fieldAddrT, opS, opV, Go.Mx.look, Fr.known, mapO, callA, partA, loadS, plusS, evP_s, opAt_some, chkK_eq, sameV_some, sameO_some, allQ_nil, allQ_cons, valJ, valQ_some, valS_move, valS_load, valS_fieldAddr, sz9, ag9, Try.underlying32, ok22]
      refine rwait_sp c S fq (i + 1) e.u e.n H2 _ T3.rf k3 (by omega) ?_
      simp [opG_none, opG_some, opJ, opU_ff, isU_bool, opK_eq, opA_move, opA_pick, opA_bin, opA_load, opA_fieldAddr, opA_call, putO_some, putH_lt, putC_lt, condB_false, binT_some, binA, avO_some, pickT, loadT, fieldAddrT, io_neq, opS, opV, Go.Mx.look, Fr.known, mapO, callA, partA, loadS, plusS, orO_some, eqT_some, evP_q, evP_s, opAt_some, chkK_eq, allQ_nil, tk3, sz9, ag9, sz30, Try.underlying30, Try.underlying32, ok23]
      refine seen_sp a S fp e.p.fr e.p.tx_ H2 _ T3.po (by omega) (by omega) ?_
      simp [opG_some, opJ, opU_ff, isU_bool, valU_false, opK_eq, opA_call, putC_lt, condB_false, loadT, fieldAddrT, opS, opV, Go.Mx.look, Fr.known, mapO, callA, partA, loadS, plusS, evP_s, opAt_some, chkK_eq, sameV_some, sameO_some, allQ_nil, allQ_cons, valJ, valQ_some, valS_move, valS_load, valS_fieldAddr, sz9, ag9, sz30, Try.underlying30, Try.underlying32, ok24]
      refine rseen_sp c S fq (i + 1) e.p.fr e.p.tx_ H2 _ T3.rf k3 (by omega) ?_
      simp [opG_none, opG_some, opJ, opU_ff, isU_bool, opK_eq, opA_move, opA_pick, opA_bin, opA_load, opA_fieldAddr, opA_call, putO_some, putH_lt, putC_lt, condB_false, binT_some, binA, eqRef, avO_some, pickT, loadT, fieldAddrT, opS, opV, Go.Mx.look, Fr.known, mapO, callA, partA, loadS, plusS, orO_some, eqT_some, evP_q, evP_s, opAt_some, chkK_eq, allQ_nil, tk4, sz9, ag9, Try.underlying32, ok26]
      refine devices_sp a S fp (i + 1) e.u H2 _ T3.po k3 (by omega) ?_
      simp [opG_some, opJ, opU_ff, isU_bool, valU_false, opK_eq, opA_call, putC_lt, condB_false, loadT, fieldAddrT, opS, opV, Go.Mx.look, Fr.known, mapO, callA, partA, loadS, plusS, evP_s, opAt_some, chkK_eq, sameV_some, sameO_some, allQ_nil, allQ_cons, valJ, valQ_some, valS_move, valS_load, valS_fieldAddr, sz9, ag9, Try.underlying32, ok27]
      refine rdevices_sp c S fq (i + 1) e.u H2 _ T3.rf k3 (by omega) ?_
      simp [opG_some, opJ, opU_ff, isU_bool, opK_eq, opA_call, putC_lt, condB_false, opS, opV, Go.Mx.look, Fr.known, mapO, callA, evP_s, opAt_some, chkK_eq, allQ_nil, ok25]
      refine strs_sp (namesD S e.u) H2 _ (by have h8 := names_le S e.u; have h9 := k3.l; omega) ?_
      simp [ev_skip, ev_cond2, ev_region2, evOps_nil, evOps_cons, opG_none, opG_some, opJ, opU_ff, isU_bool, opK_eq, opA_move, opA_assign, opA_pick, opA_bin, opA_un, putO_some, putH_lt, putC_lt, condB_false, binT_some, binA, avO_some, pickT, unT, io_add, opS, opV, Go.Mx.look, seqK, blockK, Fr.known, mapO, unA, headK, getV, getB, chkP, orO_some, eqT_some, evP_nil, evP_q, opAt_some, chkK_eq, allQ_nil, tk3, w1]
      exact step H2 S fp fq T3 k3
  · refine awake_sp H2 _ (fun H3 _ => ?_)
    simp [ev_ret, evOps_nil, evOps_cons, opG_none, opA_assign, putO_some, putH_lt, putC_lt, opS, opV, Go.Mx.look, seqK, retK, retA, resA, mapO]
end Go.Proofs.Ytamhmecfjkahdaa
