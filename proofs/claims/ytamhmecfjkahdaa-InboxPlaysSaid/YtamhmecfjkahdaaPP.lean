import Derived.Test.YtamhmecfjkahdaaPO
namespace Go.Proofs.Ytamhmecfjkahdaa
open Go.Mx
set_option linter.unusedVariables false
set_option linter.unusedSimpArgs false
set_option linter.unnecessarySimpa false

/-! ### The reference's post -/
def cellF (d : Dv) (v : AV) : List AV := [.v (.string d.u), .v (.string d.n), v, .v (.int .i64 d.sn)]
def wlF (d : Dv) : List Pa := d.al
def ptrsR (R : List Rw) : List AV := R.map (fun r => .ptr r.b 0 0)
structure RfR (H : Hp) (c : Nat) (vL vS : AV) (R : List Rw) (S : St) : Prop where
  rd : R.map (·.d) = S.ds
  cc : H[c]? = some (.cells 0 [vL, vS])
  ol : OwnS 1 H R.length (ptrsR R) vL
  os : OwnS 5 H S.sent.length (S.sent.flatMap paC) vS
  d : Devs cellF wlF H R
  nd : (c :: (slId vL ++ (slId vS ++ fpL R))).Nodup
def RfAt (H : Hp) (c : Nat) (S : St) (fp : List Nat) : Prop := ∃ vL vS R, RfR H c vL vS R S ∧ fp = c :: (slId vL ++ (slId vS ++ fpL R))
section
variable {H H' : Hp} {c : Nat} {vL vS : AV} {R A B : List Rw} {S : St} {r : Rw} {fp fp' : List Nat} {N : Nat}
theorem RfR.lt (h : RfR H c vL vS R S) : ∀ j ∈ c :: (slId vL ++ (slId vS ++ fpL R)), j < H.length := by
  intro j hj
  simp only [List.mem_cons, List.mem_append] at hj
  rcases hj with rfl | hj | hj | hj
  · exact Hp.lt h.cc
  · exact h.ol.lt j hj
  · exact h.os.lt j hj
  · exact h.d.lt j hj
theorem RfR.same (h : RfR H c vL vS R S) (hs : Same fp' H H') (hf : ∀ j ∈ c :: (slId vL ++ (slId vS ++ fpL R)), j ∉ fp') : RfR H' c vL vS R S :=
  ⟨h.rd, hs.2 _ _ h.cc (hf _ (by simp)), h.ol.same hs (fun j hj => hf j (by simp [hj])), h.os.same hs (fun j hj => hf j (by simp [hj])), h.d.same hs (fun j hj => hf j (by simp [hj])), h.nd⟩
theorem RfAt.lt (h : RfAt H c S fp) : ∀ j ∈ fp, j < H.length := by
  obtain ⟨vL, vS, R, h, rfl⟩ := h; exact h.lt
theorem RfAt.same (h : RfAt H c S fp) (hs : Same fp' H H') (hf : ∀ j ∈ fp, j ∉ fp') : RfAt H' c S fp := by
  obtain ⟨vL, vS, R, h, rfl⟩ := h; exact ⟨vL, vS, R, h.same hs hf, rfl⟩
theorem RfR.keys (h : RfR H c vL vS R S) (hk : (S.ds.map keyD).Nodup) : (R.map (fun r => keyD r.d)).Nodup := by
  have : R.map (fun r => keyD r.d) = S.ds.map keyD := by rw [← h.rd, List.map_map]; rfl
  rw [this]; exact hk
theorem RfR.len (h : RfR H c vL vS R S) : R.length = S.ds.length := by rw [← h.rd, List.length_map]
/-- The pointer at an index. -/
theorem RfR.ptr (h : RfR H c vL vS R S) {i : Nat} {r : Rw} (hr : R[i]? = some r) : ∃ id ver cs, vL = .sl id ver 1 0 R.length ∧ H[id]? = some (.cells ver cs) ∧ cs[i]? = some (.ptr r.b 0 0) ∧ R.length ≤ cs.length := by
  have hi : i < R.length := (List.getElem?_eq_some_iff.1 hr).1
  rcases h.ol with ⟨h0, _⟩ | ⟨h0, h1, id, ver, tl, e, h3⟩
  · omega
  · refine ⟨id, ver, _, e, h3, ?_, ?_⟩
    · rw [List.getElem?_append_left (by rw [h1]; omega)]
      simp [ptrsR, hr]
    · rw [List.length_append, h1]; omega
end
def FdInv (R : List Rw) (c : Nat) (u nm : ByteArray) (H : Hp) (n : Nat) (xs : List AV) (H2 : Hp) : Prop :=
  ∃ i : Nat, i ≤ R.length ∧ n = R.length - i ∧ xs = [.ptr c 0 0, .v (.string u), .v (.string nm), .v (.int .i64 i)] ∧ H2 = H ∧ ∀ x ∈ R.take i, keyD x.d ≠ (u, nm)
set_option maxRecDepth 20000 in
theorem find_sp (c : Nat) (vL vS : AV) (R : List Rw) (S : St) (u nm : ByteArray) (H : Hp) (Q : AV → Hp → Prop) (hp : RfR H c vL vS R S) (hk : (S.ds.map keyD).Nodup) (hl : R.length ≤ 100000)
    (h0 : (∀ r ∈ R, keyD r.d ≠ (u, nm)) → Q (.v (.int .i64 (-1))) H) (h1 : ∀ A r B, R = A ++ r :: B → keyD r.d = (u, nm) → (∀ x ∈ A, keyD x.d ≠ (u, nm)) → (∀ x ∈ B, keyD x.d ≠ (u, nm)) → Q (.v (.int .i64 A.length)) H) : Sp Try.prog 36 [.ptr c 0 0, .v (.string u), .v (.string nm)] Q H := by
  refine Sp.body [(2, ⟨[0, 1, 2, 7], [], []⟩)] ⟨[], [], []⟩ [] mo Try.func36 rfl (Nat.le_of_ble_eq_true rfl) (by kernel_rfl) ?_
  have hc := hp.cc
  have hln := hp.ol.lenT
  simp [ev_seq, ev_block, ev_region2, ev_loop, loopK, evOps_nil, evOps_cons, opG_none, opA_assign, putO_some, putH_lt, opS, opV, Go.Mx.look, fr0, argSlots, seqK, mapO, headK, getV, getB, chkP, firstReg]
  refine LoopC.intro (fun n xs _ H2 => FdInv R c u nm H n xs H2) R.length ⟨0, by omega, by omega, by simp, rfl, by simp⟩ ?_
  rintro n xs bs H2 ⟨i, hi, rfl, rfl, rfl, hno⟩
  simp [ev_skip, ev_seq, ev_cond2, ev_block, ev_exit, ev_ret, ev_region2, evOps_nil, evOps_cons, opG_none, opA_move, opA_assign, opA_bin, opA_load, opA_indexAddr, opA_fieldAddr, opA_nilCheck, opA_len, putO_some, putH_lt, binT_some, binA, avO_some, loadT, nilCheckT, fieldAddrT, indexAddrT, io_lss, opS, opV, Go.Mx.look, seqK, blockK, Fr.known, retK, retA, resA, mapO, partA, loadA, loadS, plusS, indexAddrA, nilCheckS, mkFr, slotsOf, ptrsOf, boxesOf, orO_some, eqT_some, tk3, sz43, ag43, Try.underlying43, Try.underlying45, sz65, hc, hln]
  refine ⟨fun hlt => ?_, fun hge => ?_⟩
  · have hlt : i < R.length := by omega
    obtain ⟨r, hx⟩ : ∃ r, R[i]? = some r := ⟨_, List.getElem?_eq_getElem hlt⟩
    obtain ⟨id, ver, cs, rfl, hid, hci, hcl⟩ := hp.ptr hx
    have hrm := List.mem_of_getElem? hx
    obtain ⟨g1, g2⟩ := hp.d.at_ r hrm
    have w1 : IntKind.i64.wrap ((i : Int) + 1) = (i : Int) + 1 := wr_i64 (by omega)
    have htk : R.take (i + 1) = R.take i ++ [r] := by rw [List.take_add_one, hx]; rfl
    have hsp : R = R.take i ++ r :: R.drop (i + 1) := by
      conv => lhs; rw [← List.take_append_drop i R]
      rw [List.drop_eq_getElem_cons hlt]
      rw [List.getElem?_eq_getElem hlt] at hx; simp at hx; rw [hx]
    have tlu : (r.d.u.toList = u.toList) = (r.d.u = u) := tl_inj _ _
    have tln : (r.d.n.toList = nm.toList) = (r.d.n = nm) := tl_inj _ _
    have go : keyD r.d ≠ (u, nm) → ∃ m, m < R.length - i ∧ FdInv R c u nm H2 m [.ptr c 0 0, .v (.string u), .v (.string nm), .v (.int .i64 ((i : Int) + 1))] H2 := fun hne =>
      ⟨R.length - (i + 1), by omega, i + 1, by omega, rfl, by simp, rfl, fun x hx => by
        rw [htk] at hx
        rcases List.mem_append.1 hx with hx | hx
        · exact hno x hx
        · simp at hx; subst hx; exact hne⟩
    have hB : keyD r.d = (u, nm) → ∀ x ∈ R.drop (i + 1), keyD x.d ≠ (u, nm) := fun he x hx e => by
      have hn := hp.keys hk
      rw [hsp, List.map_append, List.map_cons, List.nodup_append, List.nodup_cons] at hn
      exact hn.2.1.1 (List.mem_map.2 ⟨x, hx, e.trans he.symm⟩)
    have hA : (R.take i).length = i := by rw [List.length_take]; omega
    simp [ev_skip, ev_seq, ev_cond2, ev_ret, ev_region2, evOps_nil, evOps_cons, opG_none, opG_some, opJ, opU_ft, isU_bool, opK_eq, opA_move, opA_assign, opA_pick, opA_bin, opA_load, opA_indexAddr, opA_fieldAddr, opA_nilCheck, putO_some, putH_lt, putV_lt, condB_true, condB_false, binT_some, binA, avO_some, pickT, loadT, nilCheckT, fieldAddrT, indexAddrT, io_add, strOp, opS, opV, Go.Mx.look, seqK, blockK, Fr.known, retK, retA, resA, mapO, partA, loadA, loadS, plusS, indexAddrA, nilCheckS, headK, getV, getB, chkP, orO_some, eqT_some, tk3, sz9, ag9, tk9, sz43, ag43, Try.underlying43, Try.underlying45, sz65, ag65, Try.underlying67, hc, hid, hci, hlt, g1, cellF, tlu, tln, w1]
    refine ⟨fun hu => ⟨fun hn => ?_, fun hn => ?_⟩, fun hu => ?_⟩
    · have he : keyD r.d = (u, nm) := Prod.ext hu hn
      have := h1 _ r _ hsp he hno (hB he)
      rwa [hA] at this
    · exact go (fun e => hn (Prod.ext_iff.1 e).2)
    · exact go (fun e => hu (Prod.ext_iff.1 e).1)
  · have : R.take i = R := List.take_of_length_le (by omega)
    rw [this] at hno
    exact h0 hno
theorem flat_at {α : Type} {f : α → List AV} {n : Nat} (hn : ∀ x, (f x).length = n) {x : α} {l : List α} {i : Nat} (h : l[i]? = some x) (tl : List AV) (j : Nat) (hj : j < n) : (l.flatMap f ++ tl)[i * n + j]? = (f x)[j]? := by
  rw [List.getElem?_append_left, flat_get hn h j hj]
  have := flat_le hn h
  omega
theorem flat_at0 {α : Type} {f : α → List AV} {n : Nat} (hn : ∀ x, (f x).length = n) {x : α} {l : List α} {i : Nat} (h : l[i]? = some x) (tl : List AV) (hj : 0 < n) : (l.flatMap f ++ tl)[i * n]? = (f x)[0]? := flat_at hn h tl 0 hj
theorem left_sp (r : Rw) (H : Hp) (Q : AV → Hp → Prop) (h0 : DevAt cellF wlF H r) (hs : r.d.sn ≤ r.d.al.length) (hl : r.d.al.length ≤ 100000) (h : Q (.v (.int .i64 ((r.d.al.length - r.d.sn : Nat) : Int))) H) : Sp Try.prog 37 [.ptr r.b 0 0] Q H := by
  refine Sp.body [] ⟨[], [], pl37⟩ tb37 mo Try.func37 rfl (Nat.le_of_ble_eq_true rfl) (by kernel_rfl) ?_
  obtain ⟨g1, g2⟩ := h0
  have hln := g2.lenT
  simp only [wlF] at hln
  have w1 : IntKind.i64.wrap ((r.d.al.length : Int) - (r.d.sn : Int)) = ((r.d.al.length - r.d.sn : Nat) : Int) := by rw [wr_i64 (by omega)]; omega
  simp [ev_seq, ev_ret, ev_region2, evOps_nil, evOps_cons, opG_none, opA_move, opA_assign, opA_bin, opA_load, opA_fieldAddr, opA_nilCheck, opA_len, putO_some, putH_lt, binT_some, binA, avO_some, loadT, nilCheckT, fieldAddrT, io_sub, opS, opV, Go.Mx.look, fr0, argSlots, seqK, retK, retA, resA, mapO, partA, loadA, loadS, plusS, nilCheckS, orO_some, eqT_some, ev_draw, drawK, evP_nil, evP_q, evP_s, opAt_some, chkK_eq, allQ_nil, sz3, ag3, tk3, sz28, ag28, Try.underlying28, Try.underlying67, pl37, g1, cellF, hln, w1]
  exact h
theorem findR_no {H : Hp} {c : Nat} {vL vS : AV} {R : List Rw} {S : St} (h : RfR H c vL vS R S) {k : Ky} (hn : ∀ r ∈ R, keyD r.d ≠ k) : findD S k = none ∧ hasD S k = false := by
  constructor
  · unfold findD
    rw [List.find?_eq_none, ← h.rd]
    intro d hd
    obtain ⟨r, hr, rfl⟩ := List.mem_map.1 hd
    rw [decide_eq_false (hn r hr)]; simp
  · unfold hasD
    rw [← h.rd, List.any_map, ← Bool.not_eq_true, List.any_eq_true]
    rintro ⟨r, hr, h2⟩
    exact hn r hr (of_decide_eq_true h2)
theorem findR_yes {H : Hp} {c : Nat} {vL vS : AV} {A B : List Rw} {r : Rw} {S : St} (h : RfR H c vL vS (A ++ r :: B) S) {k : Ky} (hk : keyD r.d = k) (hA : ∀ x ∈ A, keyD x.d ≠ k) : findD S k = some r.d ∧ hasD S k = true := by
  constructor
  · unfold findD
    have : (A.map (·.d)).find? (fun d => decide (keyD d = k)) = none := by
      rw [List.find?_eq_none]
      intro d hd
      obtain ⟨x, hx, rfl⟩ := List.mem_map.1 hd
      rw [decide_eq_false (hA x hx)]; simp
    rw [← h.rd, List.map_append, List.find?_append, this]
    simp only [Option.none_or, List.map_cons, List.find?_cons]
    rw [decide_eq_true hk]
  · unfold hasD
    rw [← h.rd, List.any_map, List.any_eq_true]
    exact ⟨r, by simp, decide_eq_true hk⟩
theorem get_mid {α : Type} (A : List α) (r : α) (B : List α) : (A ++ r :: B)[A.length]? = some r := by simp
set_option maxRecDepth 20000 in
theorem rwait_sp (c : Nat) (S : St) (fp : List Nat) (N : Nat) (u n : ByteArray) (H : Hp) (Q : AV → Hp → Prop) (hp : RfAt H c S fp) (hk : StOk S N) (hN : N ≤ 100000) (h : Q (.v (.int .i64 (waitN S (u, n)))) H) : Sp Try.prog 22 [.ptr c 0 0, .v (.string u), .v (.string n)] Q H := by
  refine Sp.body [] ⟨[], [], []⟩ [] mo Try.func22 rfl (Nat.le_of_ble_eq_true rfl) (by kernel_rfl) ?_
  obtain ⟨vL, vS, R, hp, rfl⟩ := hp
  have hc := hp.cc
  have hRl : R.length ≤ 100000 := by rw [hp.len]; exact Nat.le_trans hk.l hN
  simp [ev_seq, ev_region2, evOps_nil, evOps_cons, opG_none, opA_move, opA_assign, opA_call, putO_some, putH_lt, opS, opV, Go.Mx.look, fr0, argSlots, seqK, mapO, callA, ok36]
  refine find_sp c vL vS R S u n H _ hp hk.k hRl (fun hno => ?_) (fun A r B hR h2 h3 h4 => ?_)
  · have hf := (findR_no hp hno).1
    simp only [waitN, hf] at h
    simp [ev_seq, ev_cond2, ev_ret, ev_region2, evOps_nil, evOps_cons, opG_none, opA_move, opA_assign, opA_bin, putO_some, putH_lt, putC_lt, condB_true, binT_some, binA, avO_some, io_lss, opS, opV, Go.Mx.look, seqK, Fr.known, retK, retA, resA, mapO, orO_some, eqT_some, tk3]
    exact h
  · subst hR
    have hf := (findR_yes hp h2 h3).1
    simp only [waitN, hf] at h
    obtain ⟨id, ver, cs, rfl, hid, hci, hcl⟩ := hp.ptr (get_mid A r B)
    have hlt : A.length < cs.length := (List.getElem?_eq_some_iff.1 hci).1
    have hdo := hk.d r.d (by rw [← hp.rd]; simp)
    have hlt2 : (A.length : Int) < A.length + (B.length + 1) := by omega
    have hn0 : ¬ ((A.length : Int) < 0) := by omega
    simp only [List.length_append, List.length_cons] at hcl hc
    simp [ev_skip, ev_seq, ev_cond2, ev_region2, evOps_nil, evOps_cons, opG_none, opA_move, opA_assign, opA_bin, opA_load, opA_indexAddr, opA_fieldAddr, opA_nilCheck, opA_call, putO_some, putH_lt, putC_lt, condB_false, binT_some, binA, avO_some, loadT, nilCheckT, fieldAddrT, indexAddrT, io_lss, opS, opV, Go.Mx.look, seqK, Fr.known, mapO, callA, partA, loadA, loadS, plusS, indexAddrA, nilCheckS, orO_some, eqT_some, tk3, sz43, ag43, Try.underlying43, Try.underlying45, sz65, ag65, ok37, hc, hid, hci, hlt2, hn0]
    refine left_sp r H _ (hp.d.at_ r (by simp)) hdo.s (Nat.le_trans hdo.l hN) ?_
    simp [ev_ret, evOps_nil, evOps_cons, opG_none, opA_assign, putO_some, putH_lt, putC_lt, opS, opV, Go.Mx.look, seqK, retK, retA, resA, mapO]
    exact h
def SnInv (S : St) (c : Nat) (u nm : ByteArray) (H : Hp) (n : Nat) (xs : List AV) (H2 : Hp) : Prop :=
  ∃ i : Nat, i ≤ S.sent.length ∧ n = S.sent.length - i ∧ xs = [.ptr c 0 0, .v (.string u), .v (.string nm), .v (.int .i64 i)] ∧ H2 = H ∧ ∀ x ∈ S.sent.take i, keyP x ≠ (u, nm)
set_option maxRecDepth 20000 in
theorem rseen_sp (c : Nat) (S : St) (fp : List Nat) (N : Nat) (u nm : ByteArray) (H : Hp) (Q : AV → Hp → Prop) (hp : RfAt H c S fp) (hk : StOk S N) (hN : N ≤ 100000) (h : Q (.v (.bool (seenB S (u, nm)))) H) : Sp Try.prog 24 [.ptr c 0 0, .v (.string u), .v (.string nm)] Q H := by
  refine Sp.body [(2, ⟨[0, 1, 2, 7], [], []⟩)] ⟨[], [], []⟩ [] mo Try.func24 rfl (Nat.le_of_ble_eq_true rfl) (by kernel_rfl) ?_
  obtain ⟨vL, vS, R, hp, rfl⟩ := hp
  have hc := hp.cc
  have hln := hp.os.lenT
  have hsl := hk.s
  simp [ev_seq, ev_block, ev_region2, ev_loop, loopK, evOps_nil, evOps_cons, opG_none, opA_assign, putO_some, putH_lt, opS, opV, Go.Mx.look, fr0, argSlots, seqK, mapO, headK, getV, getB, chkP, firstReg]
  refine LoopC.intro (fun n xs _ H2 => SnInv S c u nm H n xs H2) S.sent.length ⟨0, by omega, by omega, by simp, rfl, by simp⟩ ?_
  rintro n xs bs H2 ⟨i, hi, rfl, rfl, rfl, hno⟩
  simp [ev_skip, ev_seq, ev_cond2, ev_block, ev_exit, ev_ret, ev_region2, evOps_nil, evOps_cons, opG_none, opA_move, opA_assign, opA_bin, opA_load, opA_indexAddr, opA_fieldAddr, opA_nilCheck, opA_len, putO_some, putH_lt, binT_some, binA, avO_some, loadT, nilCheckT, fieldAddrT, indexAddrT, io_lss, opS, opV, Go.Mx.look, seqK, blockK, Fr.known, retK, retA, resA, mapO, partA, loadA, loadS, plusS, indexAddrA, nilCheckS, mkFr, slotsOf, ptrsOf, boxesOf, orO_some, eqT_some, tk3, sz28, ag28, Try.underlying28, sz30, Try.underlying45, hc, hln]
  refine ⟨fun hlt => ?_, fun hge => ?_⟩
  · have hlt : i < S.sent.length := by omega
    obtain ⟨p, hx⟩ : ∃ p, S.sent[i]? = some p := ⟨_, List.getElem?_eq_getElem hlt⟩
    rcases hp.os with ⟨h9, _⟩ | ⟨_, h8, id, ver, tl, rfl, hid⟩
    · omega
    have q0 := flat_at0 paC_len hx tl (by omega)
    have q3 := flat_at paC_len hx tl 3 (by omega)
    have qle := flat_le paC_len hx
    have w1 : IntKind.i64.wrap ((i : Int) + 1) = (i : Int) + 1 := wr_i64 (by omega)
    have htk : S.sent.take (i + 1) = S.sent.take i ++ [p] := by rw [List.take_add_one, hx]; rfl
    have tlu : (p.fr.toList = u.toList) = (p.fr = u) := tl_inj _ _
    have tln : (p.tx_.toList = nm.toList) = (p.tx_ = nm) := tl_inj _ _
    have go : keyP p ≠ (u, nm) → ∃ m, m < S.sent.length - i ∧ SnInv S c u nm H2 m [.ptr c 0 0, .v (.string u), .v (.string nm), .v (.int .i64 ((i : Int) + 1))] H2 := fun hne =>
      ⟨S.sent.length - (i + 1), by omega, i + 1, by omega, rfl, by simp, rfl, fun x hx => by
        rw [htk] at hx
        rcases List.mem_append.1 hx with hx | hx
        · exact hno x hx
        · simp at hx; subst hx; exact hne⟩
    have hyes : keyP p = (u, nm) → seenB S (u, nm) = true := fun e => List.any_eq_true.2 ⟨keyP p, List.mem_map.2 ⟨p, List.mem_of_getElem? hx, rfl⟩, decide_eq_true e⟩
    generalize S.sent.flatMap paC ++ tl = cs at *
    have qlt : i * 5 < cs.length := (List.getElem?_eq_some_iff.1 q0).1
    simp only [paC, List.getElem?_cons_zero, List.getElem?_cons_succ] at q0 q3
    simp [ev_skip, ev_seq, ev_cond2, ev_ret, ev_region2, evOps_nil, evOps_cons, opG_none, opG_some, opJ, opU_ft, isU_bool, opK_eq, opA_move, opA_assign, opA_pick, opA_bin, opA_load, opA_indexAddr, opA_fieldAddr, opA_nilCheck, putO_some, putH_lt, putV_lt, condB_true, condB_false, binT_some, binA, avO_some, pickT, loadT, nilCheckT, fieldAddrT, indexAddrT, io_add, strOp, opS, opV, Go.Mx.look, seqK, blockK, Fr.known, retK, retA, resA, mapO, partA, loadA, loadS, plusS, indexAddrA, nilCheckS, headK, getV, getB, chkP, orO_some, eqT_some, tk3, sz9, ag9, tk9, sz28, ag28, Try.underlying28, sz30, Try.underlying30, Try.underlying45, hc, hid, hlt, tlu, tln, w1, q0, q3]
    refine ⟨fun hu => ⟨fun hn => ?_, fun hn => ?_⟩, fun hu => ?_⟩
    · rw [hyes (Prod.ext hu hn)] at h; exact h
    · exact go (fun e => hn (Prod.ext_iff.1 e).2)
    · exact go (fun e => hu (Prod.ext_iff.1 e).1)
  · have : S.sent.take i = S.sent := List.take_of_length_le (by omega)
    rw [this] at hno
    have hf : seenB S (u, nm) = false := by
      unfold seenB inS
      rw [← Bool.not_eq_true, List.any_eq_true]
      rintro ⟨k, h1, h2⟩
      obtain ⟨x, hx, rfl⟩ := List.mem_map.1 h1
      exact hno x hx (of_decide_eq_true h2)
    rw [hf] at h
    exact h
theorem RfR.mk' {H1 : Hp} {c : Nat} {vL vS : AV} {R : List Rw} {S : St} (hc : c < H1.length) (rd : R.map (·.d) = S.ds) (ol : OwnS 1 H1 R.length (ptrsR R) vL) (os : OwnS 5 H1 S.sent.length (S.sent.flatMap paC) vS) (d : Devs cellF wlF H1 R) (nd : (c :: (slId vL ++ (slId vS ++ fpL R))).Nodup) : RfR (H1.set c (.cells 0 [vL, vS])) c vL vS R S := by
  have hs : Same [c] H1 (H1.set c (.cells 0 [vL, vS])) := Same.set (by simp)
  have hn := (List.nodup_cons.1 nd).1
  refine ⟨rd, List.getElem?_set_self hc, ol.same hs (fun j hj hm => ?_), os.same hs (fun j hj hm => ?_), d.same hs (fun j hj hm => ?_), nd⟩ <;> (simp at hm; subst hm; exact hn (by simp [hj]))
theorem nd3 {c : Nat} {A B C : List Nat} : (c :: (A ++ (B ++ C))).Nodup ↔ (c ∉ A ∧ c ∉ B ∧ c ∉ C) ∧ A.Nodup ∧ B.Nodup ∧ C.Nodup ∧ (∀ j ∈ A, j ∉ B ∧ j ∉ C) ∧ (∀ j ∈ B, j ∉ C) := by
  rw [List.nodup_cons, List.nodup_append, List.nodup_append]
  simp only [List.mem_append, not_or]
  constructor
  · rintro ⟨h1, h2, ⟨h3, h4, h5⟩, h6⟩
    exact ⟨h1, h2, h3, h4, fun j hj => ⟨fun hm => h6 j hj j (.inl hm) rfl, fun hm => h6 j hj j (.inr hm) rfl⟩, fun j hj hm => h5 j hj j hm rfl⟩
  · rintro ⟨h1, h2, h3, h4, h5, h6⟩
    exact ⟨h1, h2, ⟨h3, h4, fun a ha b hb e => h6 a ha (e ▸ hb)⟩, fun a ha b hb e => by
      rcases hb with hb | hb
      · exact (h5 a ha).1 (e ▸ hb)
      · exact (h5 a ha).2 (e ▸ hb)⟩
set_option maxRecDepth 20000 in
theorem renter_sp (c : Nat) (S : St) (fp : List Nat) (N : Nat) (u n : ByteArray) (H : Hp) (Q : AV → Hp → Prop) (hp : RfAt H c S fp) (hk : StOk S N) (hN : N ≤ 100000) (hu : u.size ≤ 90000) (hn : n.size ≤ 90000)
    (h : ∀ H' fp', RfAt H' c (enterS S u n) fp' → Stp fp H H' fp' → Q (.v (.int .i64 (enterE S u n))) H') : Sp Try.prog 17 [.ptr c 0 0, .v (.string u), .v (.string n)] Q H := by
  refine Sp.body [] ⟨[], [], []⟩ [] mo Try.func17 rfl (Nat.le_of_ble_eq_true rfl) (by kernel_rfl) ?_
  obtain ⟨vL, vS, R, hp, rfl⟩ := hp
  have hc := hp.cc
  have hRl : R.length ≤ 100000 := by rw [hp.len]; exact Nat.le_trans hk.l hN
  have no : ∀ e : Int, enterE S u n = e → e ≠ 0 → Q (.v (.int .i64 e)) H := fun e he hne => by
    have := h H _ (by unfold enterS; rw [he, if_neg hne]; exact ⟨vL, vS, R, hp, rfl⟩) (Stp.refl _ _)
    rwa [he] at this
  simp [ev_seq, ev_region2, evOps_nil, evOps_cons, opG_none, opA_move, opA_assign, opA_call, putO_some, putH_lt, opS, opV, Go.Mx.look, fr0, argSlots, seqK, mapO, callA, ok34]
  refine isUser_sp u H _ hu ?_
  cases huo : userOk u with
  | false => simp [ev_seq, ev_cond2, ev_ret, ev_region2, evOps_nil, evOps_cons, opG_none, opG_some, opJ, opU_ff, isU_bool, opA_move, opA_assign, opA_pick, opA_un, putO_some, putH_lt, putC_lt, putV_lt, condB_true, pickT, unT, opS, opV, Go.Mx.look, seqK, Fr.known, retK, retA, resA, mapO, unA]; exact no 1 (by simp [enterE, huo]) (by simp)
  | true =>
  simp [evOps_cons, opG_none, opG_some, opJ, opU_ff, isU_bool, opK_eq, opA_move, opA_un, opA_call, putO_some, putH_lt, putC_lt, condB_false, unT, opS, opV, Go.Mx.look, Fr.known, mapO, unA, callA, ok35]
  refine rnamed_sp n H _ hn ?_
  cases hno : namedB n with
  | false => simp [ev_seq, ev_cond2, ev_ret, ev_region2, evOps_nil, evOps_cons, opG_none, opG_some, opJ, opU_ff, isU_bool, opK_eq, opA_assign, opA_pick, opA_un, putO_some, putH_lt, putC_lt, condB_true, condB_false, pickT, unT, opS, opV, Go.Mx.look, seqK, Fr.known, retK, retA, resA, mapO, unA]; exact no 1 (by simp [enterE, huo, hno]) (by simp)
  | true =>
  simp [ev_skip, ev_seq, ev_cond2, ev_region2, evOps_nil, evOps_cons, opG_none, opG_some, opJ, opU_ff, isU_bool, opK_eq, opA_move, opA_pick, opA_un, opA_call, putO_some, putH_lt, putC_lt, condB_false, pickT, unT, opS, opV, Go.Mx.look, seqK, Fr.known, mapO, unA, callA, ok36]
  refine find_sp c vL vS R S u n H _ hp hk.k hRl (fun hno2 => ?_) (fun A r B hR h2 h3 h4 => ?_)
  · have hhas := (findR_no hp hno2).2
    have he : enterE S u n = 0 := enterE_cases.2 ⟨huo, hno, hhas⟩
    have hs0 : Same [] H (H ++ [.cells 0 [.v (.string u), .v (.string n), .v (.slice none 0 0), .v (.int .i64 0)]]) := Same.app _ _ _
    have ol1 := hp.ol.same hs0 (by simp)
    have hlt := hp.lt
    obtain ⟨⟨k1, k2, k3⟩, k4, k5, k6, k7, k8⟩ := nd3.1 hp.nd
    have hcl : c < H.length := Hp.lt hc
    simp [ev_skip, ev_seq, ev_cond2, ev_region2, evOps_nil, evOps_cons, opG_none, opA_move, opA_bin, opA_load, opA_fieldAddr, opA_nilCheck, opA_box, opA_buildSlice, opA_append, opA_build, putO_some, putH_lt, putC_lt, condB_false, binT_some, binA, avO_some, loadT, nilCheckT, fieldAddrT, boxT, buildSliceT, appendT, buildZ, partsZ, fillO, aggO, io_geq, opS, opV, Go.Mx.look, seqK, Fr.known, mapO, cellsA_v, cellsA_agg, cellsA_ptr, okPart_v, okPart_agg, okPart_ptr, Value.oneCell', partA, loadA, loadS, plusS, nilCheckS, fillA, newK, bindO, srcTy, orO_some, eqT_some, tk3, sz43, ag43, st43, Try.underlying43, Try.underlying45, sz65, by65, ze65, ze67, of67, hc]
    refine ol1.app (by simp) (by omega) (fun v' H2 ho hs2 hid hl1 => ?_)
    have hc2 := hs2.2 _ _ (hs0.2 _ _ hc (by simp)) k1
    obtain ⟨d1, d2⟩ := ho.cells'
    simp [ev_seq, ev_ret, ev_region2, evOps_nil, evOps_cons, opG_none, opA_assign, opA_fieldAddr, opA_nilCheck, opA_store, putO_some, putH_lt, putC_lt, putU_none, nilCheckT, fieldAddrT, storeT, opS, opV, Go.Mx.look, seqK, retK, retA, resA, mapO, plusS, nilCheckS, storeS, sz43, Try.underlying45, hc2, d1, d2, splice]
    have hv' : ∀ j ∈ slId v', j ∈ slId vL ∨ j = H.length + 1 := fun j hj => by
      rcases hid with e | e
      · rw [e] at hj; exact .inl hj
      · rw [e] at hj; simp at hj; exact .inr (by omega)
    have hst2 : Same (slId vL) H H2 := (hs0.wide (by simp)).trans hs2 (fun j hj => .inl hj)
    have e1 : fpL [newR u n H.length] = [H.length] := by simp [fpL, fpR_new]
    have hd2 : Devs cellF wlF H2 (R ++ [newR u n H.length]) := by
      refine (Devs.add (r := newR u n H.length) hp.d hs0 ⟨by simp [cellF, newR], OwnS.nil _ _⟩ (by simp [fpR_new]) (by simp [fpR_new])).same hs2 (fun j hj hm => ?_)
      rw [fpL_app, e1] at hj
      rcases List.mem_append.1 hj with hj | hj
      · exact (k7 j hm).2 hj
      · simp at hj; have := hp.ol.lt j hm; omega
    have hol : OwnS 1 H2 (R ++ [newR u n H.length]).length (ptrsR (R ++ [newR u n H.length])) v' := by simpa [ptrsR, newR] using ho
    have hlt' : ∀ j, j ∈ slId vL ∨ j ∈ slId vS ∨ j ∈ fpL R → j < H.length := fun j hj => hlt j (by simp [hj])
    have hnd : (c :: (slId v' ++ (slId vS ++ fpL (R ++ [newR u n H.length])))).Nodup := by
      rw [fpL_app, e1]
      refine nd3.2 ⟨⟨fun hm => ?_, k2, fun hm => ?_⟩, ho.nodup, k5, ?_, fun j hj => ⟨fun hm => ?_, fun hm => ?_⟩, fun j hj hm => ?_⟩
      · rcases hv' c hm with h1 | h1
        · exact k1 h1
        · omega
      · rcases List.mem_append.1 hm with hm | hm
        · exact k3 hm
        · simp at hm; omega
      · rw [List.nodup_append]
        exact ⟨k6, by simp, fun a ha b hb e => by simp at hb; have := hlt' a (.inr (.inr ha)); omega⟩
      · rcases hv' j hj with h1 | h1
        · exact (k7 j h1).1 hm
        · have := hlt' j (.inr (.inl hm)); omega
      · rcases List.mem_append.1 hm with hm | hm
        · rcases hv' j hj with h1 | h1
          · exact (k7 j h1).2 hm
          · have := hlt' j (.inr (.inr hm)); omega
        · simp at hm
          rcases hv' j hj with h1 | h1
          · have := hlt' j (.inl h1); omega
          · omega
      · rcases List.mem_append.1 hm with hm | hm
        · exact k8 j hj hm
        · simp at hm; have := hlt' j (.inr (.inl hj)); omega
    have hos : OwnS 5 H2 S.sent.length (S.sent.flatMap paC) vS := hp.os.same hst2 (fun j hj hm => (k7 j hm).1 hj)
    have hen : enterS S u n = ⟨S.ds ++ [⟨u, n, [], 0⟩], S.sent⟩ := by unfold enterS; rw [if_pos he]
    have := h _ _ ⟨v', vS, R ++ [newR u n H.length], RfR.mk' (S := enterS S u n) (Hp.lt hc2) (by rw [hen, List.map_append, hp.rd]; rfl) hol (by rw [hen]; exact hos) hd2 hnd, rfl⟩ ⟨(hst2.wide (fun j hj => by simp [hj])).trans (Same.set (fp := c :: (slId vL ++ (slId vS ++ fpL R))) (by simp)) (fun j hj => .inl hj), fun j hj => ?_⟩
    · rw [he] at this; exact this
    · rw [fpL_app, e1] at hj
      simp only [List.mem_cons, List.mem_append, List.not_mem_nil, or_false] at hj ⊢
      rcases hj with h1 | h1 | h1 | h1 | h1
      · exact .inl (.inl h1)
      · rcases hv' j h1 with h2 | h2
        · exact .inl (.inr (.inl h2))
        · exact .inr (by omega)
      · exact .inl (.inr (.inr (.inl h1)))
      · exact .inl (.inr (.inr (.inr h1)))
      · exact .inr (by omega)
  · have hhas := (findR_yes (hR ▸ hp) h2 h3).2
    simp [ev_seq, ev_cond2, ev_ret, ev_region2, evOps_nil, evOps_cons, opG_none, opA_assign, opA_bin, putO_some, putH_lt, putC_lt, condB_true, binT_some, binA, avO_some, io_geq, opS, opV, Go.Mx.look, seqK, Fr.known, retK, retA, resA, mapO, orO_some, eqT_some, tk3]
    exact no 4 (by simp [enterE, huo, hno, hhas]) (by simp)
end Go.Proofs.Ytamhmecfjkahdaa

namespace Go.Proofs.Ytamhmecfjkahdaa
open Go.Mx
set_option linter.unusedVariables false
set_option linter.unusedSimpArgs false
set_option linter.unnecessarySimpa false

theorem appA_src {H : Hp} {k b m : Nat} {v s : AV} {c : List AV} {K : AV → Hp → Prop} (h : srcA H k s = some (m, c)) (hc : c.length = m * k) (q : appA H k b v (.row true m c) K) : appA H k b v s K := by
  unfold appA at q ⊢
  have e : srcA H k (.row true m c) = some (m, c) := by simp [srcA, hc]
  rw [h]; rw [e] at q
  exact q
theorem ptrsR_len (R : List Rw) : (ptrsR R).length = R.length := by simp [ptrsR]
theorem ptrsR_app (A B : List Rw) : ptrsR (A ++ B) = ptrsR A ++ ptrsR B := by simp [ptrsR]
/-- One device changes. -/
theorem RfR.upd {H H' : Hp} {c : Nat} {vL vS : AV} {A B : List Rw} {r r' : Rw} {S : St} (h : RfR H c vL vS (A ++ r :: B) S) (hs : Same (fpR r) H H') (hr : DevAt cellF wlF H' r') (hb : r'.b = r.b)
    (hf : ∀ j ∈ fpR r', j ∈ fpR r ∨ H.length ≤ j) (hn : (fpR r').Nodup) : RfR H' c vL vS (A ++ r' :: B) ⟨(A ++ r' :: B).map (·.d), S.sent⟩ ∧ Stp (c :: (slId vL ++ (slId vS ++ fpL (A ++ r :: B)))) H H' (c :: (slId vL ++ (slId vS ++ fpL (A ++ r' :: B)))) := by
  obtain ⟨⟨k1, k2, k3⟩, k4, k5, k6, k7, k8⟩ := nd3.1 h.nd
  have hlt := h.lt
  have hin : ∀ j ∈ fpR r, j ∈ fpL (A ++ r :: B) := fun j hj => by rw [fpL_app, fpL_cons]; simp [hj]
  have hd := Devs.upd h.d hs hr hf hn
  have hnew : ∀ j ∈ fpL (A ++ r' :: B), j ∈ fpL (A ++ r :: B) ∨ H.length ≤ j := fun j hj => by
    rw [fpL_app, fpL_cons] at hj ⊢
    rcases List.mem_append.1 hj with hj | hj
    · exact .inl (by simp [hj])
    · rcases List.mem_append.1 hj with hj | hj
      · rcases hf j hj with h1 | h1
        · exact .inl (by simp [h1])
        · exact .inr h1
      · exact .inl (by simp [hj])
  have old : ∀ j, j ∈ c :: (slId vL ++ slId vS) → j < H.length := fun j hj => hlt j (by
    simp only [List.mem_cons, List.mem_append] at hj ⊢
    rcases hj with h1 | h1 | h1 <;> simp [h1])
  refine ⟨⟨rfl, hs.2 _ _ h.cc (fun hm => k3 (hin _ hm)), ?_, h.os.same hs (fun j hj hm => k8 j hj (hin j hm)), hd, ?_⟩, hs.wide (fun j hj => by simp [hin j hj]), fun j hj => ?_⟩
  · have e : ptrsR (A ++ r' :: B) = ptrsR (A ++ r :: B) := by simp [ptrsR, hb]
    have e2 : (A ++ r' :: B).length = (A ++ r :: B).length := by simp
    rw [e, e2]
    exact h.ol.same hs (fun j hj hm => (k7 j hj).2 (hin j hm))
  · refine nd3.2 ⟨⟨k1, k2, fun hm => ?_⟩, k4, k5, hd.nd, fun j hj => ⟨(k7 j hj).1, fun hm => ?_⟩, fun j hj hm => ?_⟩
    · rcases hnew c hm with h1 | h1
      · exact k3 h1
      · have := old c (by simp); omega
    · rcases hnew j hm with h1 | h1
      · exact (k7 j hj).2 h1
      · have := old j (by simp [hj]); omega
    · rcases hnew j hm with h1 | h1
      · exact k8 j hj h1
      · have := old j (by simp [hj]); omega
  · simp only [List.mem_cons, List.mem_append] at hj
    rcases hj with h1 | h1 | h1 | h1
    · exact .inl (by simp [h1])
    · exact .inl (by simp [h1])
    · exact .inl (by simp [h1])
    · rcases hnew j h1 with h2 | h2
      · exact .inl (by simp [h2])
      · exact .inr h2
theorem slice_hi {id ver n a : Nat} {m : Int} (hn : 0 < n) (ha : a ≤ n) : sliceSl 1 id ver 1 0 n 0 (a : Int) = some (.sl id ver 1 0 a) := by
  unfold sliceSl
  rw [if_pos rfl, if_pos (by omega), if_pos (by omega)]
  simp
theorem slice_lo {id ver n a : Nat} (ha : a ≤ n) (m : Int) (hm : m = n) : ∃ v, sliceSl 1 id ver 1 0 n (a : Int) m = some v ∧ ((∃ off m, v = .sl id ver 1 off m) ∨ v = .row false 0 []) ∧ ∀ (H : Hp) (cs : List AV), H[id]? = some (.cells ver cs) → n ≤ cs.length → srcA H 1 v = some (n - a, (cs.drop a).take (n - a)) := by
  subst hm
  by_cases hlt : a < n
  · refine ⟨.sl id ver 1 (0 + (a : Int).toNat * 1) ((n : Int) - (a : Int)).toNat, ?_, .inl ⟨_, _, rfl⟩, fun H cs hid hl => ?_⟩
    · unfold sliceSl
      rw [if_pos rfl, if_pos (by omega), if_pos (by omega)]
    · have e : ((n : Int) - (a : Int)).toNat = n - a := by omega
      rw [e]
      simp [srcA, hid]
      omega
  · refine ⟨.row false 0 [], ?_, .inr rfl, fun H cs hid hl => ?_⟩
    · unfold sliceSl
      rw [if_pos rfl, if_pos (by omega), if_neg (by omega)]
    · have e : n - a = 0 := by omega
      rw [e]
      simp [srcA]
set_option maxRecDepth 20000 in
theorem rleave_sp (c : Nat) (S : St) (fp : List Nat) (N : Nat) (u n : ByteArray) (H : Hp) (Q : AV → Hp → Prop) (hp : RfAt H c S fp) (hk : StOk S N) (hN : N ≤ 100000)
    (h : ∀ H' fp', RfAt H' c (leaveS S (u, n)) fp' → Stp fp H H' fp' → Q (.v (.bool (hasD S (u, n)))) H') : Sp Try.prog 19 [.ptr c 0 0, .v (.string u), .v (.string n)] Q H := by
  refine Sp.body [] ⟨[], [], pl19⟩ tb19 mo Try.func19 rfl (Nat.le_of_ble_eq_true rfl) (by kernel_rfl) ?_
  obtain ⟨vL, vS, R, hp, rfl⟩ := hp
  have hc := hp.cc
  have hRl : R.length ≤ 100000 := by rw [hp.len]; exact Nat.le_trans hk.l hN
  simp [ev_seq, ev_region2, evOps_nil, evOps_cons, opG_none, opA_move, opA_assign, opA_call, putO_some, putH_lt, opS, opV, Go.Mx.look, fr0, argSlots, seqK, mapO, callA, ok36, pl19]
  refine find_sp c vL vS R S u n H _ hp hk.k hRl (fun hno => ?_) (fun A r B hR h2 h3 h4 => ?_)
  · have hhas := (findR_no hp hno).2
    simp [ev_seq, ev_cond2, ev_ret, ev_region2, evOps_nil, evOps_cons, opG_none, opA_move, opA_assign, opA_bin, putO_some, putH_lt, putC_lt, condB_true, binT_some, binA, avO_some, io_lss, opS, opV, Go.Mx.look, seqK, Fr.known, retK, retA, resA, mapO, orO_some, eqT_some, tk3]
    have := h H _ (by
      have : leaveS S (u, n) = S := by
        unfold leaveS
        rw [← hp.rd, filter_no hno, hp.rd]
      rw [this]; exact ⟨vL, vS, R, hp, rfl⟩) (Stp.refl _ _)
    rw [hhas] at this; exact this
  · subst hR
    have hhas := (findR_yes hp h2 h3).2
    obtain ⟨⟨k1, k2, k3⟩, k4, k5, k6, k7, k8⟩ := nd3.1 hp.nd
    have hlt := hp.lt
    have hol := hp.ol
    rcases hol with ⟨h9, _⟩ | ⟨_, h8, id, ver, tl, rfl, hid⟩
    · simp at h9
    have hl : (A ++ r :: B).length = A.length + (B.length + 1) := by simp
    simp only [List.length_append, List.length_cons] at hRl
    rw [hl] at hc h8
    have w1 : IntKind.i64.wrap ((A.length : Int) + 1) = ((A.length + 1 : Nat) : Int) := by rw [wr_i64 (by omega)]; omega
    have hn0 : ¬ ((A.length : Int) < 0) := by omega
    have c1 : (A.length : Int) ≤ A.length + (B.length + 1) := by omega
    have c2 : (0 : Int) < A.length + (B.length + 1) := by omega
    have src1 : srcA H 1 (.sl id ver 1 0 A.length) = some (A.length, ptrsR A) := by
      have : (ptrsR (A ++ r :: B) ++ tl).take A.length = ptrsR A := by
        rw [ptrsR_app, List.append_assoc, List.take_append_of_le_length (by rw [ptrsR_len]; exact Nat.le_refl _), List.take_of_length_le (by rw [ptrsR_len]; exact Nat.le_refl _)]
      simp [srcA, hid, this]
      rw [ptrsR_len]; simp; omega
    have ss1 : sliceSl 1 id ver 1 0 (A.length + (B.length + 1)) 0 (A.length : Int) = some (.sl id ver 1 0 A.length) := slice_hi (m := 0) (by omega) (by omega)
    obtain ⟨v8, ss2, hsh, src2⟩ := slice_lo (id := id) (ver := ver) (n := A.length + (B.length + 1)) (a := A.length + 1) (by omega) ((A.length : Int) + ((B.length : Int) + 1)) (by omega)
    have e2 : sliceSl 1 id ver 1 0 (A.length + (B.length + 1)) (IntKind.i64.wrap ((A.length : Int) + 1)) ((A.length : Int) + ((B.length : Int) + 1)) = some v8 := by rw [w1]; exact ss2
    simp [ev_skip, ev_seq, ev_cond2, ev_region2, evOps_nil, evOps_cons, opG_none, opA_move, opA_assign, opA_bin, opA_load, opA_fieldAddr, opA_nilCheck, opA_buildSlice, opA_append, opA_slice, putO_some, putH_lt, putC_lt, condB_false, binT_some, binA, avO_some, loadT, nilCheckT, fieldAddrT, buildSliceT, appendT, bndT, sliceT, io_add, io_lss, opS, opV, Go.Mx.look, seqK, Fr.known, mapO, partA, loadA, loadS, plusS, nilCheckS, sliceA, fillA, bindO, srcTy, orO_some, eqT_some, ev_draw, drawK, evP_q, evP_s, opAt_some, tk3, sz43, ag43, st43, Try.underlying43, Try.underlying45, sz65, by65, ze65, hc, hn0, ss1, e2]
    refine appA_src src1 (by rw [ptrsR_len]; simp) ?_
    have o0 : OwnS 1 H 0 [] (.row true 0 []) := .inl ⟨rfl, rfl, .inr rfl⟩
    refine o0.appM (by rw [ptrsR_len]; simp) (by omega) (fun v1 H1 ho1 hs1 hid1 => ?_)
    have hid2 := hs1.2 _ _ hid (by simp [slId])
    have src3 := src2 H1 _ hid2 (by rw [List.length_append, ptrsR_len]; simp)
    have hd8 : ((ptrsR (A ++ r :: B) ++ tl).drop (A.length + 1)).take (A.length + (B.length + 1) - (A.length + 1)) = ptrsR B := by
      have e1 : ptrsR (A ++ r :: B) = (ptrsR A ++ [AV.ptr r.b 0 0]) ++ ptrsR B := by simp [ptrsR]
      rw [e1, List.append_assoc, List.drop_append_of_le_length (by simp [ptrsR]), List.drop_of_length_le (by simp [ptrsR])]
      rw [List.nil_append, List.take_append_of_le_length (by rw [ptrsR_len]; omega), List.take_of_length_le (by rw [ptrsR_len]; omega)]
    have hB8 : A.length + (B.length + 1) - (A.length + 1) = B.length := by omega
    rw [hd8, hB8] at src3
    have fin : ∀ v2 H2, OwnS 1 H2 (0 + A.length + B.length) ([] ++ ptrsR A ++ ptrsR B) v2 → Same (slId v1) H1 H2 → (slId v2 = slId v1 ∨ slId v2 = [H1.length]) → H2[c]? = some (.cells 0 [.sl id ver 1 0 (A.length + (B.length + 1)), vS]) ∧ Q (.v (.bool true)) (H2.set c (.cells 0 [v2, vS])) := fun v2 H2 ho2 hs2 hid9 => by
      have hv1 : ∀ j ∈ slId v1, H.length ≤ j := fun j hj => by
        rcases hid1 with e | e <;> rw [e] at hj <;> simp [slId] at hj
        omega
      have hv2 : ∀ j ∈ slId v2, H.length ≤ j := fun j hj => by
        rcases hid9 with e | e
        · rw [e] at hj; exact hv1 j hj
        · rw [e] at hj; simp at hj; have := hs1.1; omega
      have hs3 : Same [] H H2 := (hs1.wide (by simp [slId])).new hs2 hv1
      have hc2 := hs3.2 _ _ hc (by simp)
      have hlt' : ∀ j, j ∈ slId vS ∨ j ∈ fpL (A ++ r :: B) → j < H.length := fun j hj => hlt j (by rcases hj with h | h <;> simp [h])
      have hsub : fpL (A ++ B) ⊆ fpL (A ++ r :: B) := fun j hj => by
        rw [fpL_app] at hj; rw [fpL_app, fpL_cons]
        rcases List.mem_append.1 hj with hj | hj <;> simp [hj]
      have hd3 := (Devs.del hp.d).same hs3 (by simp)
      have hos3 := hp.os.same hs3 (by simp)
      have hnd : (c :: (slId v2 ++ (slId vS ++ fpL (A ++ B)))).Nodup := by
        refine nd3.2 ⟨⟨fun hm => ?_, k2, fun hm => k3 (hsub hm)⟩, ho2.nodup, k5, hd3.nd, fun j hj => ⟨fun hm => ?_, fun hm => ?_⟩, fun j hj hm => k8 j hj (hsub hm)⟩
        · have h1 := hv2 c hm; have h2 := Hp.lt hc; omega
        · have h1 := hv2 j hj; have h2 := hlt' j (.inl hm); omega
        · have h1 := hv2 j hj; have h2 := hlt' j (.inr (hsub hm)); omega
      have hol3 : OwnS 1 H2 (A ++ B).length (ptrsR (A ++ B)) v2 := by
        rw [ptrsR_app, List.length_append]; simpa using ho2
      have := h _ _ ⟨v2, vS, A ++ B, RfR.mk' (S := leaveS S (u, n)) (Hp.lt hc2) (by
        unfold leaveS
        rw [← hp.rd, List.map_append, List.map_append, List.filter_append, filter_no h3, List.map_cons, List.filter_cons, filter_no h4, decide_eq_true h2]; rfl) hol3 hos3 hd3 hnd, rfl⟩ ⟨(hs3.wide (by simp)).trans (Same.set (fp := c :: (slId (AV.sl id ver 1 0 (A ++ r :: B).length) ++ (slId vS ++ fpL (A ++ r :: B)))) (by simp)) (fun j hj => .inl hj), fun j hj => ?_⟩
      · rw [hhas] at this
        exact ⟨hc2, this⟩
      · simp only [List.mem_cons, List.mem_append] at hj
        rcases hj with h1 | h1 | h1 | h1
        · exact .inl (by simp [h1])
        · exact .inr (hv2 j h1)
        · exact .inl (by simp [h1])
        · exact .inl (by simp [hsub h1])
    have hc1 := hs1.2 _ _ hc (by simp [slId])
    rcases hsh with ⟨off, m, rfl⟩ | rfl
    · simp [opG_none, opA_append, putC_lt, binT_some, binA, avO_some, loadT, nilCheckT, fieldAddrT, appendT, bndT, sliceT, io_add, opS, opV, Go.Mx.look, partA, loadA, loadS, plusS, nilCheckS, sliceA, srcTy, orO_some, eqT_some, evP_s, opAt_some, chkK_eq, sameV_some, sameO_some, allQ_nil, allQ_cons, valQ_none, valS_move, valS_bin, valS_load, valS_fieldAddr, valS_nilCheck, valS_slice, tk3, sz43, ag43, st43, Try.underlying43, Try.underlying45, sz65, by65, ze65, hc1, e2]
      refine appA_src src3 (by rw [ptrsR_len]; simp) ?_
      refine ho1.appM (by rw [ptrsR_len]; simp) (by omega) (fun v2 H2 ho2 hs2 hid9 => ?_)
      obtain ⟨d1, d2⟩ := ho2.cells'
      obtain ⟨hc2, hq⟩ := fin v2 H2 ho2 hs2 hid9
      simp [ev_seq, ev_ret, ev_region2, evOps_nil, evOps_cons, opG_none, opA_assign, opA_fieldAddr, opA_nilCheck, opA_store, putO_some, putH_lt, putC_lt, putU_none, nilCheckT, fieldAddrT, storeT, opS, opV, Go.Mx.look, seqK, retK, retA, resA, mapO, plusS, nilCheckS, storeS, evP_nil, evP_q, evP_s, opAt_some, chkK_eq, sameV_some, sameO_some, allQ_nil, allQ_cons, valQ_none, valS_move, sz43, Try.underlying45, hc2, d1, d2, splice]
      exact hq
    · simp [opG_none, opA_append, putC_lt, binT_some, binA, avO_some, loadT, nilCheckT, fieldAddrT, appendT, bndT, sliceT, io_add, opS, opV, Go.Mx.look, partA, loadA, loadS, plusS, nilCheckS, sliceA, srcTy, orO_some, eqT_some, evP_s, opAt_some, chkK_eq, sameV_some, sameO_some, allQ_nil, allQ_cons, valQ_none, valS_move, valS_bin, valS_load, valS_fieldAddr, valS_nilCheck, valS_slice, tk3, sz43, ag43, st43, Try.underlying43, Try.underlying45, sz65, by65, ze65, hc1, e2]
      refine appA_src src3 (by rw [ptrsR_len]; simp) ?_
      refine ho1.appM (by rw [ptrsR_len]; simp) (by omega) (fun v2 H2 ho2 hs2 hid9 => ?_)
      obtain ⟨d1, d2⟩ := ho2.cells'
      obtain ⟨hc2, hq⟩ := fin v2 H2 ho2 hs2 hid9
      simp [ev_seq, ev_ret, ev_region2, evOps_nil, evOps_cons, opG_none, opA_assign, opA_fieldAddr, opA_nilCheck, opA_store, putO_some, putH_lt, putC_lt, putU_none, nilCheckT, fieldAddrT, storeT, opS, opV, Go.Mx.look, seqK, retK, retA, resA, mapO, plusS, nilCheckS, storeS, evP_nil, evP_q, evP_s, opAt_some, chkK_eq, sameV_some, sameO_some, allQ_nil, allQ_cons, valQ_none, valS_move, sz43, Try.underlying45, hc2, d1, d2, splice]
      exact hq
end Go.Proofs.Ytamhmecfjkahdaa

namespace Go.Proofs.Ytamhmecfjkahdaa
open Go.Mx
set_option linter.unusedVariables false
set_option linter.unusedSimpArgs false
set_option linter.unnecessarySimpa false

theorem flat_sub2 {α : Type} {f : α → List AV} {n : Nat} (hn : ∀ x, (f x).length = n) {x : α} {l : List α} {i : Nat} (h : l[i]? = some x) (tl : List AV) : ((l.flatMap f ++ tl).drop (i * n)).take n = f x := by
  have hle := flat_le hn h
  rw [List.drop_append_of_le_length (by omega), List.take_append_of_le_length (by rw [List.length_drop]; omega)]
  exact flat_sub hn l i h
def PlInv (d : Dv) (b sn3 : Nat) (limit pn : Int) (H1 : Hp) (n : Nat) (xs : List AV) (H2 : Hp) : Prop :=
  ∃ (k m : Nat) (v : AV), m = sn3 + k ∧ k ≤ d.al.length - sn3 ∧ k ≤ (max 0 limit).toNat ∧ n = d.al.length - sn3 - k ∧ xs = [.v (.int .i64 limit), .ptr b 0 0, .v (.int .i64 pn), v, .v (.int .i64 (m : Int))] ∧ OwnS 5 H2 k (((d.al.drop sn3).take k).flatMap paC) v ∧ Same [] H1 H2 ∧ ∀ j ∈ slId v, H1.length ≤ j
set_option maxRecDepth 20000 in
set_option maxHeartbeats 1000000 in
theorem rpoll_sp (c : Nat) (S : St) (fp : List Nat) (N : Nat) (u n : ByteArray) (since limit : Int) (H : Hp) (Q : AV → Hp → Prop) (hp : RfAt H c S fp) (hk : StOk S N) (hN : N ≤ 100000)
    (h0 : findD S (u, n) = none → ∀ H', Same [] H H' → Q (.tup [rowP [], .v (.int .i64 0), .v (.int .i64 2)]) H')
    (h1 : ∀ d, findD S (u, n) = some d → ∀ H' fp', RfAt H' c (pollS S (u, n) since) fp' → Stp fp H H' fp' → Q (.tup [rowP (pollO d since limit), .v (.int .i64 (pollR d since limit)), .v (.int .i64 0)]) H') : Sp Try.prog 21 [.ptr c 0 0, .v (.string u), .v (.string n), .v (.int .i64 since), .v (.int .i64 limit)] Q H := by
  refine Sp.rowOut (k := 5) ?_
  refine Sp.body [(9, ⟨[4, 14, 15, 16, 17], [], []⟩)] ⟨[], [], []⟩ [] mo Try.func21 rfl (Nat.le_of_ble_eq_true rfl) (by kernel_rfl) ?_
  obtain ⟨vL, vS, R, hp, rfl⟩ := hp
  have hc := hp.cc
  have hRl : R.length ≤ 100000 := by rw [hp.len]; exact Nat.le_trans hk.l hN
  simp [ev_seq, ev_region2, evOps_nil, evOps_cons, opG_none, opA_move, opA_assign, opA_call, putO_some, putH_lt, opS, opV, Go.Mx.look, fr0, argSlots, seqK, mapO, callA, ok36]
  refine find_sp c vL vS R S u n H _ hp hk.k hRl (fun hno => ?_) (fun A r B hR h2 h3 h4 => ?_)
  · have hf := (findR_no hp hno).1
    simp [ev_seq, ev_cond2, ev_ret, ev_region2, evOps_nil, evOps_cons, opG_none, opA_move, opA_assign, opA_bin, putO_some, putH_lt, putC_lt, condB_true, binT_some, binA, avO_some, io_lss, opS, opV, Go.Mx.look, seqK, Fr.known, retK, retA, resA, mapO, orO_some, eqT_some, tk3]
    exact ⟨_, _, ⟨rfl, rfl⟩, by simp, 0, [], OwnS.nil _ _, fun H2 hs => h0 hf H2 hs⟩
  · subst hR
    have hf := (findR_yes hp h2 h3).1
    have hdo := hk.d r.d (by rw [← hp.rd]; simp)
    obtain ⟨g1, g2⟩ := hp.d.at_ r (by simp)
    have g1' := g1
    simp only [cellF] at g1
    have hl := g2.lenT
    simp only [wlF] at hl
    have s1 := hdo.s
    have s2 := hdo.l
    obtain ⟨id, ver, cs, rfl, hid, hci, hcl⟩ := hp.ptr (get_mid A r B)
    simp only [List.length_append, List.length_cons] at hcl hc
    have hlt2 : (A.length : Int) < A.length + (B.length + 1) := by omega
    have hn0 : ¬ ((A.length : Int) < 0) := by omega
    obtain ⟨p0, p1⟩ := pollN_le r.d since
    have hN1 : (if (r.d.al.length : Int) < if 0 < since then since else 0 then (r.d.al.length : Int) else if 0 < since then since else 0) = pollN r.d since := by
      unfold pollN; split <;> split <;> omega
    have hM : (if (r.d.sn : Int) < pollN r.d since then pollN r.d since else (r.d.sn : Int)) = ((pollD r.d since).sn : Int) := by
      show _ = ((max r.d.sn (pollN r.d since).toNat : Nat) : Int)
      split <;> omega
    have hrb : r.b < H.length := Hp.lt g1
    have gs : ∀ o, (H.set r.b o)[r.b]? = some o := fun o => List.getElem?_set_self hrb
    simp [ev_skip, ev_seq, ev_cond2, ev_block, ev_region2, ev_loop, loopK, evOps_nil, evOps_cons, opG_none, opA_move, opA_assign, opA_bin, opA_load, opA_indexAddr, opA_fieldAddr, opA_nilCheck, opA_len, opA_max, opA_min, opA_store, putO_some, putH_lt, putC_lt, putU_none, condB_false, binT_some, binA, avO_some, loadT, nilCheckT, maxT, minT, maxA, minA, fieldAddrT, indexAddrT, storeT, io_lss, opS, opV, Go.Mx.look, seqK, Fr.known, mapO, cellsA_v, okPart_v, Value.oneCell', partA, loadA, loadS, plusS, indexAddrA, nilCheckS, storeS, headK, getV, getB, chkP, firstReg, orO_some, eqT_some, sz3, ag3, tk3, sz28, ag28, Try.underlying28, sz43, ag43, Try.underlying43, Try.underlying45, sz65, ag65, Try.underlying67, hc, hid, hci, hlt2, hn0, g1, hl, hN1, hM, splice, gs]
    have hset : Same [r.b] H (H.set r.b (.cells 0 [.v (.string r.d.u), .v (.string r.d.n), r.v, .v (.int .i64 ((pollD r.d since).sn : Int))])) := Same.set (by simp)
    have hap := hp.d.nd
    rw [fpL_app, fpL_cons, List.nodup_append, List.nodup_append] at hap
    have hfr : (fpR r).Nodup := hap.2.1.1
    have hbv : ∀ j ∈ slId r.v, j ∉ [r.b] := fun j hj hm => by
      simp at hm; subst hm
      have := hfr
      simp only [fpR, List.nodup_cons] at this
      exact this.1 hj
    obtain ⟨P3, S3⟩ := RfR.upd (H' := H.set r.b (.cells 0 [.v (.string r.d.u), .v (.string r.d.n), r.v, .v (.int .i64 ((pollD r.d since).sn : Int))])) (r' := ⟨pollD r.d since, r.b, r.v⟩) hp (hset.wide (by simp [fpR])) ⟨gs _, g2.same hset hbv⟩ rfl (fun j hj => .inl hj) hfr
    have hds := poll_ds (since := since) (r' := ⟨pollD r.d since, r.b, r.v⟩) h2 h3 h4 rfl
    rw [hds, hp.rd] at P3
    have o3 : OwnS 5 (H.set r.b (.cells 0 [.v (.string r.d.u), .v (.string r.d.n), r.v, .v (.int .i64 ((pollD r.d since).sn : Int))])) r.d.al.length (r.d.al.flatMap paC) r.v := g2.same hset hbv
    have G3 := gs (.cells 0 [.v (.string r.d.u), .v (.string r.d.n), r.v, .v (.int .i64 ((pollD r.d since).sn : Int))])
    have hlv := P3.lt
    replace P3 : RfAt _ c (pollS S (u, n) since) _ := ⟨_, vS, _, P3, rfl⟩
    generalize H.set r.b (.cells 0 [.v (.string r.d.u), .v (.string r.d.n), r.v, .v (.int .i64 ((pollD r.d since).sn : Int))]) = H3 at *
    have hsn : (pollD r.d since).sn ≤ r.d.al.length := by
      show max r.d.sn (pollN r.d since).toNat ≤ _
      omega
    have fin := h1 _ hf
    unfold pollR at fin
    unfold pollO at fin
    clear h0 h1 hM
    generalize hsn3 : (pollD r.d since).sn = sn3 at *
    refine LoopC.intro (fun n xs _ H2 => PlInv r.d r.b sn3 limit (pollN r.d since) H3 n xs H2) (r.d.al.length - sn3) ⟨0, sn3, .v (.slice none 0 0), by omega, by omega, by omega, by omega, by simp, by simpa using OwnS.nil 5 H3, Same.refl _ _, by simp [slId]⟩ ?_
    rintro n9 xs bs H5 ⟨k, m, v5, hm, hk1, hk2, rfl, rfl, o5, hs5, hj5⟩
    have G5 := hs5.2 _ _ G3 (by simp)
    have hl5 := o5.lenT
    have og := o3.same hs5 (by simp)
    have P5 := P3.same hs5 (by simp)
    have hlk : ((r.d.al.drop sn3).take k).length = k := by rw [List.length_take, List.length_drop]; omega
    have w9 : IntKind.i64.wrap ((sn3 : Int) + (k : Int)) = ((sn3 + k : Nat) : Int) := by rw [wr_i64 (by omega)]; omega
    have F : (r.d.al.length ≤ m ∨ limit ≤ (k : Int)) → ∀ H6, Same (slId v5) H5 H6 → Q (.tup [.row false k (((r.d.al.drop sn3).take k).flatMap paC), .v (.int .i64 (if k = 0 then pollN r.d since else ((sn3 + k : Nat) : Int))), .v (.int .i64 0)]) H6 := fun hcnd H6 hs6 => by
      have e : (r.d.al.drop sn3).take (max 0 limit).toNat = (r.d.al.drop sn3).take k := by
        rcases hcnd with h | h
        · rw [List.take_of_length_le (by rw [List.length_drop]; omega), List.take_of_length_le (by rw [List.length_drop]; omega)]
        · rw [show (max 0 limit).toNat = k by omega]
      have := fin H6 _ (P5.same hs6 (fun j hj hm2 => by have := hj5 j hm2; have := hlv j hj; omega)) ⟨(S3.1.trans hs5 (by simp)).trans hs6 (fun j hj => .inr (by have := hj5 j hj; have := S3.1.1; omega)), S3.2⟩
      rw [e] at this
      unfold rowP at this
      rw [hlk] at this
      by_cases h0 : k = 0
      · have e0 : (r.d.al.drop sn3).take k = [] := by rw [h0]; rfl
        rw [if_pos e0] at this
        rw [if_pos h0]; exact this
      · have e0 : (r.d.al.drop sn3).take k ≠ [] := fun e => by rw [e] at hlk; simp at hlk; omega
        rw [if_neg e0] at this
        rw [if_neg h0]; exact this
    simp [ev_skip, ev_seq, ev_cond2, ev_block, ev_exit, ev_ret, ev_region2, evOps_nil, evOps_cons, opG_none, opG_some, opJ, opU_ft, isU_bool, opK_eq, opA_move, opA_assign, opA_pick, opA_bin, opA_load, opA_indexAddr, opA_fieldAddr, opA_nilCheck, opA_len, putO_some, putH_lt, putV_lt, condB_true, condB_false, binT_some, binA, avO_some, pickT, loadT, nilCheckT, fieldAddrT, indexAddrT, io_add, io_lss, io_gtr, opS, opV, Go.Mx.look, seqK, blockK, Fr.known, retK, retA, resA, mapO, partA, loadA, loadS, plusS, indexAddrA, nilCheckS, mkFr, slotsOf, ptrsOf, boxesOf, orO_some, eqT_some, sz3, ag3, tk3, sz28, ag28, Try.underlying28, sz30, Try.underlying67, G5, hl, hl5, w9]
    refine ⟨fun hlt => ⟨fun hltk => ?_, fun hge => ⟨fun hpos => ?_, fun hz => ?_⟩⟩, fun hge => ⟨fun hpos => ?_, fun hz => ?_⟩⟩
    · rcases og with ⟨e9, _⟩ | ⟨_, h8, id2, ver2, tl2, e, hid2⟩
      · omega
      have hmlt : m < r.d.al.length := by omega
      obtain ⟨x, hx⟩ : ∃ x, r.d.al[m]? = some x := ⟨_, List.getElem?_eq_getElem hmlt⟩
      have hsub := flat_sub2 paC_len hx tl2
      have hle := flat_le paC_len hx
      have hle2 : m * 5 + 5 ≤ (r.d.al.flatMap paC ++ tl2).length := by rw [List.length_append]; omega
      generalize hcs : r.d.al.flatMap paC ++ tl2 = cs2 at *
      have w1 : IntKind.i64.wrap ((m : Int) + 1) = (m : Int) + 1 := wr_i64 (by omega)
      simp [evOps_cons, opG_none, opA_load, opA_buildSlice, opA_append, putO_some, putH_lt, loadT, buildSliceT, appendT, repeatL_1, opS, opV, Go.Mx.look, mapO, cellsA_agg, okPart_agg, partA, loadA, loadS, fillA, bindO, srcTy, st28, Try.underlying28, sz30, ag30, by30, ze30, e, hid2, hlt, hsub, hle2, paC]
      refine o5.app (by simp) (by omega) (fun v7 H7 o7 hs7 hid7 _ => ?_)
      simp [ev_region2, evOps_nil, evOps_cons, opG_none, opA_move, opA_assign, opA_bin, putO_some, putH_lt, putC_lt, binT_some, binA, avO_some, io_add, opS, opV, Go.Mx.look, seqK, blockK, mapO, headK, getV, getB, chkP, orO_some, eqT_some, tk3, w1]
      refine ⟨r.d.al.length - sn3 - (k + 1), by omega, k + 1, m + 1, v7, by omega, by omega, by omega, rfl, by simp, ?_, hs5.new hs7 hj5, fun j hj => ?_⟩
      · have htk : (r.d.al.drop sn3).take (k + 1) = (r.d.al.drop sn3).take k ++ [x] := by
          rw [List.take_add_one, List.getElem?_drop, ← hm, hx]; rfl
        rw [htk, List.flatMap_append]
        simpa [paC] using o7
      · rcases hid7 with e | e
        · rw [e] at hj; exact hj5 j hj
        · rw [e] at hj; simp at hj; have := hs5.1; omega
    · have := F (.inr hge)
      rw [if_neg (by omega)] at this
      exact ⟨_, _, ⟨rfl, rfl⟩, by simp, _, _, o5, by simpa using this⟩
    · have := F (.inr hge)
      rw [if_pos hz] at this
      exact ⟨_, _, ⟨rfl, rfl⟩, by simp, _, _, o5, by simpa using this⟩
    · have := F (.inl (by omega))
      rw [if_neg (by omega)] at this
      exact ⟨_, _, ⟨rfl, rfl⟩, by simp, _, _, o5, by simpa using this⟩
    · have := F (.inl (by omega))
      rw [if_pos hz] at this
      exact ⟨_, _, ⟨rfl, rfl⟩, by simp, _, _, o5, by simpa using this⟩
end Go.Proofs.Ytamhmecfjkahdaa
