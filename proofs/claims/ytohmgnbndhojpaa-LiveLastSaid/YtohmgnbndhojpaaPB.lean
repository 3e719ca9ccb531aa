import Derived.Test.YtohmgnbndhojpaaPA
namespace Go.Proofs.Ytohmgnbndhojpaa
open Go.Mx
set_option linter.unusedVariables false
set_option linter.unusedSimpArgs false

def rowG (L : List Sg) : AV := .row false L.length (L.flatMap sgC)
def rowU (l : List ByteArray) : AV := .row false l.length (l.map (fun s => .v (.string s)))
/-- Does a sign tell that its user writes? -/
def typS (now : Int) (s : Sg) : Bool := decide (s.kind = 1) && decide (s.at_ ≤ now) && decide (now < s.till)
def typL (now : Int) (L : List Sg) : List ByteArray := (L.filter (typS now)).map (·.user)
def TyInv (H : Hp) (L : List Sg) (now : Int) (n : Nat) (xs : List AV) (H2 : Hp) : Prop :=
  ∃ (i : Nat) (v : AV), i ≤ L.length ∧ n = L.length - i ∧ xs = [.v (.int .i64 now), v, rowG L, .v (.int .i64 L.length), .v (.int .i64 i)] ∧ NewK 1 H H2 (typL now (L.take i)).length ((typL now (L.take i)).map (fun s => .v (.string s))) v ∧ Same [] H H2
set_option maxRecDepth 20000 in
theorem typing_sp (bv : AV) (L : List Sg) (now : Int) (H : Hp) (Q : AV → Hp → Prop) (hd : BdV H bv L) (hL : L.length ≤ 1000) (h : Q (rowU (typL now L)) H) : Sp Try.prog 13 [bv, .v (.int .i64 now)] Q H := by
  refine Sp.newK ?_
  refine Sp.body [(3, ⟨[1, 5, 9, 10, 11], [], []⟩)] ⟨[7], [], []⟩ [] mo Try.func13 rfl (Nat.le_of_ble_eq_true rfl) (by kernel_rfl) ?_
  simp [ev_seq, ev_region2, evOps_nil, evOps_cons, opG_none, opA_move, opA_assign, opA_call, putO_some, putH_lt, opS, opV, Go.Mx.look, fr0, argSlots, seqK, mapO, callA, ok11]
  refine all_sp bv L H _ hd hL ?_
  simp [ev_block, ev_loop, loopK, evOps_nil, evOps_cons, opG_none, opA_move, opA_len, putO_some, putH_lt, putC_lt, lenT_row, opS, opV, Go.Mx.look, seqK, mapO, headK, getV, getB, chkP, firstReg, Try.underlying22]
  refine LoopC.intro (fun n xs _ H2 => TyInv H L now n xs H2) L.length ⟨0, _, by omega, by omega, by simp [rowG], NewK.nil _ _ _, Same.refl _ _⟩ ?_
  rintro n xs bs H2 ⟨i, v, hi, rfl, rfl, hv, hs⟩
  simp [ev_skip, ev_seq, ev_cond2, ev_block, ev_exit, ev_ret, ev_region2, evOps_nil, evOps_cons, opG_none, opA_move, opA_assign, opA_bin, opA_indexAddr, putO_some, putH_lt, binT_some, binA, avO_some, indexAddrT, io_lss, opS, opV, Go.Mx.look, seqK, blockK, Fr.known, retK, retA, resA, mapO, indexAddrA, mkFr, slotsOf, ptrsOf, boxesOf, orO_some, eqT_some, tk3, Try.underlying22, sz29, rowG]
  refine ⟨fun hlt => ?_, fun hge => ?_⟩
  · have hx := List.getElem?_eq_getElem hlt
    generalize L[i] = s at hx
    have hsl := flat_sub sgC_len L i hx
    have hle2 := flat_le2 sgC_len hx
    have hle : i * 4 + 4 ≤ (List.map (fun a : Sg => 4) L).sum := hle2
    have w1 : IntKind.i64.wrap ((i : Int) + 1) = (i : Int) + 1 := wr_i64 (by omega)
    have htk : L.take (i + 1) = L.take i ++ [s] := by rw [List.take_add_one, hx]; rfl
    have hlenT : (typL now (L.take i)).length ≤ 1000 := by
      unfold typL
      rw [List.length_map]
      refine Nat.le_trans (List.length_filter_le _ _) ?_
      rw [List.length_take]; omega
    have no : typS now s = false → ∃ m, m < L.length - i ∧ TyInv H L now m [.v (.int .i64 now), v, rowG L, .v (.int .i64 L.length), .v (.int .i64 (i + 1))] H2 := fun ht => by
      have e : typL now (L.take (i + 1)) = typL now (L.take i) := by rw [htk]; simp [typL, ht]
      exact ⟨L.length - (i + 1), by omega, i + 1, v, by omega, rfl, by simp, by rw [e]; exact hv, hs⟩
    simp only [rowG] at no
    have hno : typS now s = false ↔ ¬ (s.kind = 1 ∧ s.at_ ≤ now ∧ now < s.till) := by
      rw [← Bool.not_eq_true]; simp [typS, and_assoc]
    simp [ev_skip, ev_seq, ev_cond2, ev_region2, evOps_nil, evOps_cons, opG_none, opG_some, opJ, opU_ft, isU_bool, opK_eq, opA_move, opA_pick, opA_bin, opA_load, opA_fieldAddr, opA_alloc, opA_store, opA_buildSlice, opA_append, putO_some, putH_lt, putU_none, putV_lt, condB_true, condB_false, binT_some, binA, avO_some, pickT, loadT, fieldAddrT, allocT, storeT, buildSliceT, appendT, io_add, io_eql, io_lss, io_leq, opS, opV, Go.Mx.look, seqK, blockK, Fr.known, Fr.newBox, dropBp, mapO, cellsA_v, cellsA_agg, okPart_v, okPart_agg, Value.oneCell', partA, loadA, loadS, plusS, fillA, newK, storeS, headK, getV, getB, chkP, bindO, srcTy, orO_some, eqT_some, sz2, ag2, tk2, sz3, ag3, tk3, sz9, ag9, by9, ze9, sz29, ag29, ze29, Try.underlying29, st31, Try.underlying31, hlt, hsl, hle, sgC, splice, w1]
    refine ⟨fun e1 => ⟨fun e2 => ⟨fun e3 => ?_, fun e3 => by simpa using no (hno.2 (by omega))⟩, fun e2 => by simpa using no (hno.2 (by omega))⟩, fun e1 => by simpa using no (hno.2 (by omega))⟩
    refine hv.app (by simp) hs.1 (by omega) (fun v' H3 fp hv' hs' hfp => ?_)
    have e : typL now (L.take (i + 1)) = typL now (L.take i) ++ [s.user] := by rw [htk]; simp [typL, typS, e1, e2, e3]
    simp [ev_region2, evOps_nil, evOps_cons, opG_none, opA_move, opA_assign, opA_bin, putO_some, putH_lt, putC_lt, binT_some, binA, avO_some, io_add, opS, opV, Go.Mx.look, seqK, blockK, mapO, headK, getV, getB, chkP, orO_some, eqT_some, tk3, w1]
    refine ⟨L.length - (i + 1), by omega, i + 1, v', by omega, rfl, by simp [rowG], ?_, hs.new hs' (fun j hj => (hfp j hj).1)⟩
    rw [e]
    simpa using hv'
  · have : i = L.length := by omega
    subst this
    rw [List.take_length] at hv
    refine ⟨hs, 1, _, _, hv, ?_, h⟩
    intro c hc
    obtain ⟨s, _, rfl⟩ := List.mem_map.1 hc
    simp

def offT : ByteArray := ⟨#[111, 102, 102, 108, 105, 110, 101]⟩
def onT : ByteArray := ⟨#[111, 110, 108, 105, 110, 101]⟩
def unaT : ByteArray := ⟨#[117, 110, 97, 118, 97, 105, 108, 97, 98, 108, 101]⟩
/-- Who is there. -/
def presS (now : Int) : Option Sg → ByteArray
  | none => offT
  | some s => if s.kind = 3 then offT else if s.at_ > now then offT else if now < s.till then onT else if now = s.at_ then onT else if IntKind.i64.wrap (now - s.till) < 600 then unaT else offT
theorem presence_sp (bv : AV) (L : List Sg) (u : ByteArray) (now : Int) (H : Hp) (Q : AV → Hp → Prop) (hd : BdV H bv L) (hu : u.size ≤ 100000) (h : Q (.v (.string (presS now (fK L (u, false))))) H) : Sp Try.prog 15 [bv, .v (.string u), .v (.int .i64 now)] Q H := by
  refine Sp.body [] ⟨[7], [], []⟩ [] mo Try.func15 rfl (Nat.le_of_ble_eq_true rfl) (by kernel_rfl) ?_
  rcases hd with ⟨rfl, rfl⟩ | ⟨b, rfl, hb, rfl⟩ | ⟨b, fp, rfl, hd⟩
  · simp [ev_seq, ev_cond2, ev_ret, ev_region2, evOps_nil, evOps_cons, opG_none, opA_move, opA_assign, opA_bin, putO_some, putH_lt, condB_true, binT_some, binA, eqRef, avO_some, opS, opV, Go.Mx.look, fr0, argSlots, seqK, Fr.known, retK, retA, resA, mapO, orO_some, eqT_some, tk25]
    exact h
  · have hl : lookV Try.prog H 49 (.v (.map none)) (keyV (u, false)) true = some (.tup [.agg (sgC zeroS), .v (.bool false)]) := by
      rw [nil_look Try.underlying49 (good55 _ (by show u.size ≤ _; omega))]
      simp only [Go.Mx.valOf, zero29]; rfl
    simp only [keyV] at hl
    simp [ev_skip, ev_seq, ev_cond2, ev_block, ev_ret, ev_region2, evOps_nil, evOps_cons, opG_none, opG_some, opJ, opU_ff, isU_bool, opA_move, opA_assign, opA_pick, opA_bin, opA_un, opA_extract, opA_load, opA_fieldAddr, opA_nilCheck, opA_alloc, opA_store, opA_build, putO_some, putH_lt, putU_none, putV_lt, condB_true, condB_false, binT_some, binA, eqRef, avO_some, pickT, unT, extractT, loadT, nilCheckT, fieldAddrT, allocT, storeT, buildZ, partsZ, fillO, aggO, opS, opV, Go.Mx.look, fr0, argSlots, seqK, blockK, Fr.known, Fr.newBox, dropBp, retK, retA, resA, mapO, unA, extractA, cellsA_v, cellsA_agg, okPart_v, okPart_agg, Value.oneCell', partA, loadA, loadS, plusS, nilCheckS, fillA, newK, storeS, orO_some, eqT_some, lookT_some, opA_lookup, tk25, sz29, ze29, sz49, ag49, Try.underlying51, ze55, of55, hb, hl, sgC, splice]
    exact h
  · obtain ⟨hok, m, g1, g2, rfl⟩ := hd
    have hl := look_bd g2 (u, false) (by show u.size ≤ _; omega)
    simp only [keyV] at hl
    cases hf : fK L (u, false) with
    | none =>
      rw [hf] at hl h
      simp [ev_skip, ev_seq, ev_cond2, ev_block, ev_ret, ev_region2, evOps_nil, evOps_cons, opG_none, opG_some, opJ, opU_ff, isU_bool, opA_move, opA_assign, opA_pick, opA_bin, opA_un, opA_extract, opA_load, opA_fieldAddr, opA_nilCheck, opA_alloc, opA_store, opA_build, putO_some, putH_lt, putU_none, putV_lt, condB_true, condB_false, binT_some, binA, eqRef, avO_some, pickT, unT, extractT, loadT, nilCheckT, fieldAddrT, allocT, storeT, buildZ, partsZ, fillO, aggO, opS, opV, Go.Mx.look, fr0, argSlots, seqK, blockK, Fr.known, Fr.newBox, dropBp, retK, retA, resA, mapO, unA, extractA, cellsA_v, cellsA_agg, okPart_v, okPart_agg, Value.oneCell', partA, loadA, loadS, plusS, nilCheckS, fillA, newK, storeS, orO_some, eqT_some, lookT_some, opA_lookup, tk25, sz29, ze29, sz49, ag49, Try.underlying51, ze55, of55, g1, hl, sgC, splice]
      exact h
    | some s =>
      rw [hf] at hl h
      unfold presS at h
      simp only at h
      simp [ev_skip, ev_seq, ev_cond2, ev_block, ev_ret, ev_region2, evOps_nil, evOps_cons, opG_none, opG_some, opJ, opU_ff, isU_bool, opK_eq, opA_move, opA_assign, opA_pick, opA_bin, opA_un, opA_extract, opA_load, opA_fieldAddr, opA_nilCheck, opA_alloc, opA_store, opA_build, putO_some, putH_lt, putU_none, putV_lt, condB_true, condB_false, binT_some, binA, eqRef, avO_some, pickT, unT, extractT, loadT, nilCheckT, fieldAddrT, allocT, storeT, buildZ, partsZ, fillO, aggO, io_sub, io_eql, io_lss, io_gtr, opS, opV, Go.Mx.look, fr0, argSlots, seqK, blockK, Fr.known, Fr.newBox, dropBp, retK, retA, resA, mapO, unA, extractA, cellsA_v, cellsA_agg, okPart_v, okPart_agg, Value.oneCell', partA, loadA, loadS, plusS, nilCheckS, fillA, newK, storeS, orO_some, eqT_some, lookT_some, opA_lookup, sz2, ag2, tk2, sz3, ag3, tk3, tk25, sz29, ze29, Try.underlying29, sz49, ag49, Try.underlying51, ze55, of55, g1, hl, sgC, splice]
      refine ⟨fun e1 => ?_, fun e1 => ⟨fun e2 => ?_, fun e2 => ⟨fun e3 => ?_, fun e3 => ⟨fun e4 => ?_, fun e4 => ⟨fun e5 => ?_, fun e5 => ?_⟩⟩⟩⟩⟩
      · rw [if_pos e1] at h; exact h
      · rw [if_neg e1, if_pos e2] at h; exact h
      · rw [if_neg e1, if_neg (by omega), if_pos e3] at h; exact h
      · rw [if_neg e1, if_neg (by omega), if_neg (by omega), if_pos e4] at h; exact h
      · rw [if_neg e1, if_neg (by omega), if_neg (by omega), if_neg e4, if_pos e5] at h; exact h
      · rw [if_neg e1, if_neg (by omega), if_neg (by omega), if_neg e4, if_neg (by omega)] at h; exact h

theorem fK_erase {A B : List Sg} {s : Sg} (h : Srt (A ++ s :: B)) (k : ByteArray × Bool) : fK (A ++ B) k = if k = keyS s then none else fK (A ++ s :: B) k := by
  have hs : Srt (A ++ B) := h.sublist (List.Sublist.append (List.Sublist.refl _) (List.sublist_cons_self _ _))
  have hmem : ∀ o, o ∈ A ++ s :: B ↔ o = s ∨ o ∈ A ++ B := fun o => by simp; constructor <;> (intro h; rcases h with h | h | h <;> simp [h])
  have hns : s ∉ A ++ B := by
    have := h.nodup
    intro hm
    rw [List.nodup_append] at this
    rcases List.mem_append.1 hm with h1 | h1
    · exact this.2.2 s h1 s (by simp) rfl
    · exact (List.nodup_cons.1 this.2.1).1 h1
  by_cases hk : k = keyS s
  · rw [if_pos hk, fK_none]
    intro o ho e
    have : o = s := h.uniq ((hmem o).2 (.inr ho)) ((hmem s).2 (.inl rfl)) (by rw [e, hk])
    exact hns (this ▸ ho)
  · rw [if_neg hk]
    cases hf : fK (A ++ s :: B) k with
    | none =>
      rw [fK_none] at hf ⊢
      exact fun o ho => hf o ((hmem o).2 (.inr ho))
    | some o =>
      obtain ⟨h1, h2⟩ := (fK_iff h).1 hf
      rcases (hmem o).1 h1 with rfl | h3
      · exact absurd h2.symm hk
      · exact (fK_iff hs).2 ⟨h3, h2⟩
/-- What tells something still. -/
def keepS (now : Int) (s : Sg) : Bool := !decide (endS s ≤ now)
theorem OkL.sub {L M : List Sg} (h : OkL L) (hs : M.Sublist L) : OkL M := ⟨h.1.sublist hs, fun s hm => h.2 s (hs.subset hm)⟩
theorem OkL.small {L : List Sg} (h : OkL L) {s : Sg} (hs : s ∈ L) : SmallS s := by
  obtain ⟨_, _, _, h1, h2, h3⟩ := rightS_iff.1 (h.2 s hs).1
  exact ⟨h3, h1, h2⟩
def SwInv (H : Hp) (b m : Nat) (L : List Sg) (now : Int) (n : Nat) (xs : List AV) (H2 : Hp) : Prop :=
  ∃ (i : Nat), i ≤ L.length ∧ n = L.length - i ∧ xs = [.ptr b 0 0, .v (.int .i64 now), .v (.int .i64 (i - ((L.take i).filter (keepS now)).length : Nat)), rowG L, .v (.int .i64 L.length), .v (.int .i64 i)] ∧
    BdAt H2 b ((L.take i).filter (keepS now) ++ L.drop i) [b, m] ∧ Same [b, m] H H2
set_option maxRecDepth 20000 in
set_option maxHeartbeats 1000000 in
theorem sweep_sp (b : Nat) (L : List Sg) (fp : List Nat) (now : Int) (H : Hp) (Q : AV → Hp → Prop) (hd : BdAt H b L fp) (hL : L.length ≤ 1000)
    (h : ∀ H', BdAt H' b (L.filter (keepS now)) fp → Same fp H H' → Q (.v (.int .i64 (L.length - (L.filter (keepS now)).length : Nat))) H') : Sp Try.prog 25 [.ptr b 0 0, .v (.int .i64 now)] Q H := by
  refine Sp.body [(3, ⟨[0, 1, 5, 9, 10, 11], [], []⟩)] ⟨[7], [], pl25⟩ tb25 mo Try.func25 rfl (Nat.le_of_ble_eq_true rfl) (by kernel_rfl) ?_
  simp [ev_seq, ev_region2, evOps_nil, evOps_cons, opG_none, opA_move, opA_assign, opA_call, putO_some, putH_lt, opS, opV, Go.Mx.look, fr0, argSlots, seqK, mapO, callA, ok11, pl25]
  refine all_sp _ L H _ hd.v hL ?_
  obtain ⟨hok, m, g1, g2, rfl⟩ := id hd
  simp [ev_block, ev_loop, loopK, evOps_nil, evOps_cons, opG_none, opA_move, opA_len, putO_some, putH_lt, putC_lt, lenT_row, opS, opV, Go.Mx.look, seqK, mapO, headK, getV, getB, chkP, firstReg, Try.underlying22]
  refine LoopC.intro (fun n xs _ H2 => SwInv H b m L now n xs H2) L.length ⟨0, by omega, by omega, by simp [rowG], by simpa using hd, Same.refl _ _⟩ ?_
  rintro n xs bs H2 ⟨i, hi, rfl, rfl, hd2, hs⟩
  have hfl : ((L.take i).filter (keepS now)).length ≤ i := by
    refine Nat.le_trans (List.length_filter_le _ _) ?_
    rw [List.length_take]; omega
  simp [ev_skip, ev_seq, ev_cond2, ev_block, ev_exit, ev_ret, ev_region2, evOps_nil, evOps_cons, opG_none, opA_move, opA_assign, opA_bin, opA_indexAddr, putO_some, putH_lt, binT_some, binA, avO_some, indexAddrT, io_lss, opS, opV, Go.Mx.look, seqK, blockK, Fr.known, retK, retA, resA, mapO, indexAddrA, mkFr, slotsOf, ptrsOf, boxesOf, orO_some, eqT_some, tk3, Try.underlying22, sz29, rowG]
  refine ⟨fun hlt => ?_, fun hge => ?_⟩
  · have hx := List.getElem?_eq_getElem hlt
    generalize L[i] = s at hx
    have hsl := flat_sub sgC_len L i hx
    have hle : i * 4 + 4 ≤ (List.map (fun a : Sg => 4) L).sum := flat_le2 sgC_len hx
    have w1 : IntKind.i64.wrap ((i : Int) + 1) = (i : Int) + 1 := wr_i64 (by omega)
    have htk : L.take (i + 1) = L.take i ++ [s] := by rw [List.take_add_one, hx]; rfl
    have hdr : L.drop i = s :: L.drop (i + 1) := by
      rw [List.drop_eq_getElem_cons hlt]
      rw [List.getElem?_eq_getElem hlt] at hx
      simp at hx; rw [hx]
    have hsm := hok.small (List.mem_of_getElem? hx)
    simp [ev_seq, ev_region2, evOps_nil, evOps_cons, opG_none, opA_load, opA_call, opA_alloc, opA_store, putO_some, putH_lt, putU_none, loadT, allocT, storeT, opS, opV, Go.Mx.look, seqK, Fr.newBox, dropBp, mapO, callA, cellsA_agg, okPart_agg, partA, loadA, loadS, newK, storeS, sz29, ag29, ze29, ok39, hlt, hsl, hle, sgC, splice]
    refine end_sp s H2 _ hsm ?_
    obtain ⟨hok2, m', k1, k2, hfp⟩ := id hd2
    obtain rfl : m = m' := by simpa using hfp
    simp [ev_skip, ev_seq, ev_cond2, ev_region2, evOps_nil, evOps_cons, opG_none, opA_move, opA_bin, opA_load, opA_fieldAddr, opA_nilCheck, opA_call, putO_some, putH_lt, putC_lt, binT_some, binA, avO_some, loadT, nilCheckT, fieldAddrT, io_add, io_leq, opS, opV, Go.Mx.look, seqK, blockK, Fr.known, mapO, callA, partA, loadA, loadS, plusS, nilCheckS, headK, getV, getB, chkP, orO_some, eqT_some, ev_draw, drawK, evP_q, evP_s, opAt_some, tk2, tk3, sz29, ag29, sz49, ag49, Try.underlying51, ok33, k1, w1]
    refine ⟨fun e => ?_, fun e => ?_⟩
    · refine key_sp s H2 _ ?_
      simp [opG_none, putC_lt, loadT, nilCheckT, fieldAddrT, opS, opV, Go.Mx.look, partA, loadA, loadS, plusS, nilCheckS, delT_some, opA_delete, evP_s, opAt_some, chkK_eq, sameV_some, sameO_some, allQ_nil, allQ_cons, valQ_none, valS_move, valS_load, valS_fieldAddr, valS_nilCheck, sz49, ag49, Try.underlying51, k1, keyV]
      refine k2.del Try.underlying49 (good55 (keyS s) (by show s.user.size ≤ _; have := (hok.2 s (List.mem_of_getElem? hx)).2; omega)) (fun H' g5 hs' hl' => ?_)
      have hf : (L.take (i + 1)).filter (keepS now) = (L.take i).filter (keepS now) := by rw [htk]; simp [keepS, e]
      rw [hdr] at hok2 g5 k2
      have e6 := fA_ext (L := (L.take i).filter (keepS now) ++ s :: L.drop (i + 1)) (M := (L.take i).filter (keepS now) ++ L.drop (i + 1)) (k := keyS s) (o := none) (fun k' => fK_erase hok2.1 k')
      simp only [Option.map_none] at e6
      rw [e6] at g5
      have w2 : IntKind.i64.wrap (((i - ((L.take i).filter (keepS now)).length : Nat) : Int) + 1) = ((i - ((L.take i).filter (keepS now)).length : Nat) : Int) + 1 := wr_i64 (by omega)
      simp [ev_region2, evOps_nil, evOps_cons, opG_none, opA_move, opA_assign, opA_bin, putO_some, putH_lt, putC_none, binT_some, binA, avO_some, io_add, opS, opV, Go.Mx.look, seqK, blockK, mapO, headK, getV, getB, chkP, orO_some, eqT_some, evP_nil, chkK_eq, allQ_nil, tk3, w1, w2]
      refine ⟨L.length - (i + 1), by omega, i + 1, by omega, rfl, by simp [rowG, hf]; omega, ⟨?_, m, ?_, ?_, rfl⟩, hs.trans (Same.wide (fp' := [b, m]) hs' (by simp)) (fun j hj => .inl hj)⟩
      · rw [hf]
        exact hok2.sub (List.Sublist.append (List.Sublist.refl _) (List.sublist_cons_self _ _))
      · exact hs'.2 _ _ k1 (by simpa using BdAt.ne k1 k2)
      · rw [hf]; exact g5
    · have hf : (L.take (i + 1)).filter (keepS now) = (L.take i).filter (keepS now) ++ [s] := by rw [htk]; simp [keepS, e]
      refine ⟨L.length - (i + 1), by omega, i + 1, by omega, rfl, by simp [rowG, hf], ?_, hs⟩
      rw [hf]
      rw [hdr] at hd2
      simpa using hd2
  · have : i = L.length := by omega
    subst this
    rw [List.take_length, List.drop_length, List.append_nil] at hd2
    simpa using h H2 hd2 hs
end Go.Proofs.Ytohmgnbndhojpaa

namespace Go.Proofs.Ytohmgnbndhojpaa
open Go.Mx
set_option linter.unusedVariables false
set_option linter.unusedSimpArgs false

/-- No board, or one of nothing. -/
def NoBd (H : Hp) (v : AV) : Prop := v = .v (.pointer none) ∨ ∃ b, v = .ptr b 0 0 ∧ H[b]? = some (.cells 0 [.v (.map none)])
theorem NoBd.v {H : Hp} {v : AV} (h : NoBd H v) : BdV H v [] := by
  rcases h with h | ⟨b, h1, h2⟩
  · exact .inl ⟨h, rfl⟩
  · exact .inr (.inl ⟨b, h1, h2, rfl⟩)
theorem putN_sp (v : AV) (s : Sg) (H : Hp) (Q : AV → Hp → Prop) (hv : NoBd H v) (h : Q (.tup [.v (.bool false), .v (.int .i64 1)]) H) : Sp Try.prog 17 [v, .agg (sgC s)] Q H := by
  refine Sp.body [] ⟨[3, 6], [], pl17⟩ tb17 mo Try.func17 rfl (Nat.le_of_ble_eq_true rfl) (by kernel_rfl) ?_
  rcases hv with rfl | ⟨b, rfl, hb⟩
  · simp [ev_seq, ev_cond2, ev_ret, ev_region2, evOps_nil, evOps_cons, opG_none, opG_some, opJ, opU_ff, isU_bool, opA_move, opA_assign, opA_pick, opA_bin, opA_box, putO_some, putH_lt, putV_lt, condB_true, binT_some, binA, eqRef, avO_some, pickT, boxT, opS, opV, Go.Mx.look, fr0, argSlots, seqK, Fr.known, Fr.newBox, dropBp, retK, retA, resA, mapO, cellsA_agg, okPart_agg, newK, orO_some, eqT_some, tk25, pl17, sgC]
    exact h
  · simp [ev_seq, ev_cond2, ev_ret, ev_region2, evOps_nil, evOps_cons, opG_none, opG_some, opJ, opU_ff, isU_bool, opK_eq, opA_move, opA_assign, opA_pick, opA_bin, opA_load, opA_fieldAddr, opA_nilCheck, opA_box, putO_some, putH_lt, putV_lt, condB_true, condB_false, binT_some, binA, eqRef, avO_some, pickT, loadT, nilCheckT, fieldAddrT, boxT, opS, opV, Go.Mx.look, fr0, argSlots, seqK, Fr.known, Fr.newBox, dropBp, retK, retA, resA, mapO, cellsA_agg, okPart_agg, partA, loadA, loadS, plusS, nilCheckS, newK, orO_some, eqT_some, tk25, sz49, ag49, tk49, Try.underlying51, pl17, sgC, hb]
    exact h
/-- How many signs of a row count. -/
def mergeN : List Sg → List Sg → Nat
  | _, [] => 0
  | L, s :: r => (!oldS L s).toNat + mergeN (putL L s) r
def mergeL (L M : List Sg) : List Sg := M.foldl putL L
theorem mergeN_app (L : List Sg) : ∀ (M : List Sg) (s : Sg), mergeN L (M ++ [s]) = mergeN L M + (!oldS (mergeL L M) s).toNat := by
  intro M
  induction M generalizing L with
  | nil => intro s; simp [mergeN, mergeL]
  | cons x r ih => intro s; simp only [List.cons_append, mergeN, ih]; simp [mergeL]; omega
theorem mergeL_app (L M : List Sg) (s : Sg) : mergeL L (M ++ [s]) = putL (mergeL L M) s := by simp [mergeL]
theorem mergeN_le (L : List Sg) : ∀ M : List Sg, mergeN L M ≤ M.length := by
  intro M
  induction M generalizing L with
  | nil => simp [mergeN]
  | cons x r ih =>
    have := ih (putL L x)
    have h2 : (!oldS L x).toNat ≤ 1 := by cases oldS L x <;> simp
    simp only [mergeN, List.length_cons]
    omega
def MgInv (H : Hp) (b : Nat) (L M : List Sg) (fp : List Nat) (n : Nat) (xs : List AV) (H2 : Hp) : Prop :=
  ∃ (i : Nat), i ≤ M.length ∧ n = M.length - i ∧ xs = [.ptr b 0 0, .v (.int .i64 (mergeN L (M.take i))), rowG M, .v (.int .i64 M.length), .v (.int .i64 i)] ∧ BdAt H2 b (mergeL L (M.take i)) fp ∧ Same fp H H2
set_option maxRecDepth 20000 in
set_option maxHeartbeats 1000000 in
theorem merge_sp (b : Nat) (L M : List Sg) (fp : List Nat) (v : AV) (H : Hp) (Q : AV → Hp → Prop) (hd : BdAt H b L fp) (hv : BdV H v M) (hM : M.length ≤ 1000)
    (h : ∀ H', BdAt H' b (mergeL L M) fp → Same fp H H' → Q (.v (.int .i64 (mergeN L M))) H') (hok : OkL M) : Sp Try.prog 18 [.ptr b 0 0, v] Q H := by
  refine Sp.body [(3, ⟨[0, 5, 11, 12, 13], [], []⟩)] ⟨[7], [], []⟩ [] mo Try.func18 rfl (Nat.le_of_ble_eq_true rfl) (by kernel_rfl) ?_
  simp [ev_seq, ev_region2, evOps_nil, evOps_cons, opG_none, opA_move, opA_assign, opA_call, putO_some, putH_lt, opS, opV, Go.Mx.look, fr0, argSlots, seqK, mapO, callA, ok11]
  refine all_sp v M H _ hv hM ?_
  simp [ev_block, ev_loop, loopK, evOps_nil, evOps_cons, opG_none, opA_move, opA_len, putO_some, putH_lt, putC_lt, lenT_row, opS, opV, Go.Mx.look, seqK, mapO, headK, getV, getB, chkP, firstReg, Try.underlying22]
  refine LoopC.intro (fun n xs _ H2 => MgInv H b L M fp n xs H2) M.length ⟨0, by omega, by omega, by simp [rowG, mergeN], by simpa [mergeL] using hd, Same.refl _ _⟩ ?_
  rintro n xs bs H2 ⟨i, hi, rfl, rfl, hd2, hs⟩
  have hml := mergeN_le L (M.take i)
  have htl : (M.take i).length ≤ i := by rw [List.length_take]; omega
  simp [ev_skip, ev_seq, ev_cond2, ev_block, ev_exit, ev_ret, ev_region2, evOps_nil, evOps_cons, opG_none, opA_move, opA_assign, opA_bin, opA_indexAddr, putO_some, putH_lt, binT_some, binA, avO_some, indexAddrT, io_lss, opS, opV, Go.Mx.look, seqK, blockK, Fr.known, retK, retA, resA, mapO, indexAddrA, mkFr, slotsOf, ptrsOf, boxesOf, orO_some, eqT_some, tk3, Try.underlying22, sz29, rowG]
  refine ⟨fun hlt => ?_, fun hge => ?_⟩
  · have hx := List.getElem?_eq_getElem hlt
    generalize M[i] = s at hx
    have hsl := flat_sub sgC_len M i hx
    have hle : i * 4 + 4 ≤ (List.map (fun a : Sg => 4) M).sum := flat_le2 sgC_len hx
    have w1 : IntKind.i64.wrap ((i : Int) + 1) = (i : Int) + 1 := wr_i64 (by omega)
    have w2 : IntKind.i64.wrap ((mergeN L (M.take i) : Int) + 1) = (mergeN L (M.take i) : Int) + 1 := wr_i64 (by omega)
    have htk : M.take (i + 1) = M.take i ++ [s] := by rw [List.take_add_one, hx]; rfl
    obtain ⟨hr, hz⟩ := hok.2 s (List.mem_of_getElem? hx)
    simp [ev_seq, ev_region2, evOps_nil, evOps_cons, opG_none, opA_move, opA_load, opA_call, opA_alloc, opA_store, putO_some, putH_lt, putU_none, loadT, allocT, storeT, opS, opV, Go.Mx.look, seqK, Fr.newBox, dropBp, mapO, callA, cellsA_agg, okPart_agg, partA, loadA, loadS, newK, storeS, sz29, ag29, ze29, ok17, hlt, hsl, hle, sgC, splice]
    refine put_sp b _ fp s H2 _ hd2 hz (fun e => by rw [hr] at e; simp at e) (fun _ H3 hd3 hs3 => ?_)
    have hst : ∀ c : Nat, c = mergeN L (M.take (i + 1)) → ∃ m, m < M.length - i ∧ MgInv H b L M fp m [.ptr b 0 0, .v (.int .i64 c), rowG M, .v (.int .i64 M.length), .v (.int .i64 (i + 1))] H3 := fun c hc =>
      ⟨M.length - (i + 1), by omega, i + 1, by omega, rfl, by rw [hc]; simp, by rw [htk, mergeL_app]; exact hd3, hs.trans hs3 (fun j hj => .inl hj)⟩
    rw [htk, mergeN_app] at hst
    simp only [rowG] at hst
    cases ho : oldS (mergeL L (M.take i)) s with
    | true =>
      rw [ho] at hst
      simp [ev_skip, ev_seq, ev_cond2, ev_region2, evOps_nil, evOps_cons, opG_none, opA_move, opA_assign, opA_bin, opA_extract, putO_some, putH_lt, putC_lt, condB_false, binT_some, binA, avO_some, extractT, io_add, opS, opV, Go.Mx.look, seqK, blockK, Fr.known, mapO, extractA, headK, getV, getB, chkP, orO_some, eqT_some, tk3, w1]
      simpa using hst _ rfl
    | false =>
      rw [ho] at hst
      simp [ev_seq, ev_cond2, ev_region2, evOps_nil, evOps_cons, opG_none, opA_move, opA_assign, opA_bin, opA_extract, putO_some, putH_lt, putC_lt, condB_true, binT_some, binA, avO_some, extractT, io_add, opS, opV, Go.Mx.look, seqK, blockK, Fr.known, mapO, extractA, headK, getV, getB, chkP, orO_some, eqT_some, tk3, w1, w2]
      simpa using hst _ rfl
  · have : i = M.length := by omega
    subst this
    rw [List.take_length] at hd2 ⊢
    exact h H2 hd2 hs
theorem mergeNo_sp (w : AV) (M : List Sg) (v : AV) (H : Hp) (Q : AV → Hp → Prop) (hd : NoBd H w) (hv : BdV H v M) (hM : M.length ≤ 1000)
    (h : Q (.v (.int .i64 0)) H) : Sp Try.prog 18 [w, v] Q H := by
  refine Sp.body [(3, ⟨[0, 5, 11, 12, 13], [], []⟩)] ⟨[7], [], []⟩ [] mo Try.func18 rfl (Nat.le_of_ble_eq_true rfl) (by kernel_rfl) ?_
  simp [ev_seq, ev_region2, evOps_nil, evOps_cons, opG_none, opA_move, opA_assign, opA_call, putO_some, putH_lt, opS, opV, Go.Mx.look, fr0, argSlots, seqK, mapO, callA, ok11]
  refine all_sp v M H _ hv hM ?_
  simp [ev_block, ev_loop, loopK, evOps_nil, evOps_cons, opG_none, opA_move, opA_len, putO_some, putH_lt, putC_lt, lenT_row, opS, opV, Go.Mx.look, seqK, mapO, headK, getV, getB, chkP, firstReg, Try.underlying22]
  refine LoopC.intro (fun n xs _ H2 => ∃ i : Nat, i ≤ M.length ∧ n = M.length - i ∧ xs = [w, .v (.int .i64 0), rowG M, .v (.int .i64 M.length), .v (.int .i64 i)] ∧ H2 = H) M.length ⟨0, by omega, by omega, by simp [rowG], rfl⟩ ?_
  rintro n xs bs H2 ⟨i, hi, rfl, rfl, rfl⟩
  simp [ev_skip, ev_seq, ev_cond2, ev_block, ev_exit, ev_ret, ev_region2, evOps_nil, evOps_cons, opG_none, opA_move, opA_assign, opA_bin, opA_indexAddr, putO_some, putH_lt, binT_some, binA, avO_some, indexAddrT, io_lss, opS, opV, Go.Mx.look, seqK, blockK, Fr.known, retK, retA, resA, mapO, indexAddrA, mkFr, slotsOf, ptrsOf, boxesOf, orO_some, eqT_some, tk3, Try.underlying22, sz29, rowG]
  refine ⟨fun hlt => ?_, fun hge => by simpa [ev_skip, ev_seq, ev_cond2, ev_block, ev_exit, ev_ret, ev_region2, ev_loop, loopK, evOps_nil, evOps_cons, opG_none, opG_some, opJ, opU_true, opU_ft, opU_ff, isU_undef, isU_bool, valU_true, valU_false, opK_eq, opA_move, opA_assign, opA_pick, opA_bin, opA_un, opA_extract, opA_field, opA_load, opA_index, opA_indexAddr, opA_fieldAddr, opA_nilCheck, opA_len, opA_call, opA_max, opA_min, opA_alloc, opA_box, opA_store, opA_buildSlice, opA_makeSlice, opA_append, opA_copy, opA_convert, opA_makeMap, opA_slice, opA_makeFunc, opA_build, putO_some, putH_lt, putH_none, putC_lt, putC_none, putU_lt, putU_none, putV_lt, putV_none, condB_true, condB_false, CondP_true, CondP_false, binT_some, binA_int, binA_str, binA_eqb, binA_neb, binA, eqRef, avO_some, avO_none, avOf, pickT_true, pickT_false, pickT, unT, extractT, loadT, nilCheckT, lenT_str, lenT_row, lenT_sl, lenT_nil, lenT_arr, lenT_mp, lenT_nomp, maxT, minT, maxA, minA, fieldT, fieldAddrT, indexT, indexAddrT, allocT, boxT, storeT, buildSliceT, makeSliceT, appendT, copyT, convV, convC, convT, makeMapT, bndT, sliceT, fnT, bytesOf_nil, bytesOf_one, repeatL_0, repeatL_1, repeatL_2, repeatL_3, repeatL_4, buildZ, partsZ, fillO, aggO, io_add, io_sub, io_mul, io_quo, io_rem, io_shl, io_shr, io_and, io_or, io_xor, io_eql, io_neq, io_lss, io_leq, io_gtr, io_geq, strOp, opS_tmp, opS_const, opV_tmp, opV_const, opS, opV, look_eq, look_ne, Go.Mx.look, fr0, argSlots, seqK_n, seqK_r, seqK_e, seqK, blockK_n, blockK_r, blockK, Fr.known, Fr.newBox, dropBp, retK, retA, resA, mapO, unA, convInt, convStr, strOf, callA, extractA, lenM, cellsA_v, cellsA_agg, cellsA_row, cellsA_sl, cellsA_ptr, cellsA_rp, cellsA_mp, cellsA_fn, okPart_v, okPart_agg, okPart_row, okPart_sl, okPart_ptr, okPart_rp, okPart_mp, okPart_fn, Value.oneCell', fieldA, partA, loadA, loadS, plusS, indexAddrA, indexArrA, nilCheckS, sliceA, sliceArr, fillA, newK, storeS, headK, getV, getB, chkP, mkFr, slotsOf, ptrsOf, boxesOf, firstReg, bindO, makeA, appA, copyA, srcA, srcTy, okPart_u8, cellsA_u8, Cond_iff, orO_some, orO_none, eqT_some, opA_entry, entryT_some, lookT_some, updT_some, delT_some, clearT_some, rangeT_some, nextT_some, makeMapH, opA_lookup, opA_makeMap2, opA_upd, opA_delete, opA_clear, opA_range, opA_next, valS_lookup, ev_draw, drawK, evP_nil, evP_q, evP_s, opAt_some, chkK_eq, sameV_some, sameO_some, allQ_nil, allQ_cons, valG_some, valJ, valQ_none, valQ_some, valS_move, valS_pick, valS_bin, valS_un, valS_extract, valS_field, valS_load, valS_index, valS_indexAddr, valS_fieldAddr, valS_nilCheck, valS_len, valS_max, valS_min, valS_slice, valS_convert, valS_makeFunc, valS_build, valS_buildSlice, rowT, rowF, sz2, ag2, tk2, by2, ze2, Try.underlying2, sz3, ag3, tk3, by3, ze3, Try.underlying3, sz4, ag4, tk4, by4, ze4, Try.underlying4, sz5, ag5, tk5, by5, ze5, Try.underlying5, sz9, ag9, tk9, st9, by9, ze9, Try.underlying9, sz22, ag22, tk22, st22, by22, ze22, Try.underlying22, sz23, ag23, tk23, by23, ze23, Try.underlying23, sz25, ag25, tk25, by25, ze25, Try.underlying25, sz29, ag29, tk29, by29, ze29, of29, Try.underlying29, sz31, ag31, tk31, st31, by31, ze31, Try.underlying31, sz37, ag37, tk37, by37, ze37, Try.underlying37, sz44, ag44, tk44, by44, ze44, Try.underlying44, sz46, ag46, tk46, by46, ze46, of46, Try.underlying46, sz49, ag49, tk49, by49, ze49, Try.underlying49, sz51, ag51, tk51, by51, ze51, of51, Try.underlying51, sz52, ag52, tk52, st52, by52, ze52, Try.underlying52, sz55, ag55, tk55, by55, ze55, of55, Try.underlying55, sz73, ag73, tk73, st73, by73, ze73, Try.underlying73, mo, ok3, ok4, ok5, ok6, ok7, ok8, ok9, ok10, ok11, ok12, ok13, ok14, ok15, ok16, ok17, ok18, ok19, ok20, ok21, ok22, ok23, ok24, ok25, ok26, ok28, ok29, ok30, ok31, ok32, ok33, ok34, ok35, ok36, ok37, ok38, ok39, ok40, ok43, ok44, ok45, ok46, ok47, ok58, ok59, ok65, ok66, ok67, ok68, ok69, ok70, ok72, ok73, ok74, ok75, ok76, ok77, ok78, ok79, ok80, ok81, pl3, pl4, pl5, pl6, pl7, pl8, pl17, pl19, pl22, pl25, pl58, pl74] using h⟩
  have hx := List.getElem?_eq_getElem hlt
  generalize M[i] = s at hx
  have hsl := flat_sub sgC_len M i hx
  have hle : i * 4 + 4 ≤ (List.map (fun a : Sg => 4) M).sum := flat_le2 sgC_len hx
  have w1 : IntKind.i64.wrap ((i : Int) + 1) = (i : Int) + 1 := wr_i64 (by omega)
  simp [ev_seq, ev_region2, evOps_nil, evOps_cons, opG_none, opA_move, opA_load, opA_call, opA_alloc, opA_store, putO_some, putH_lt, putU_none, loadT, allocT, storeT, opS, opV, Go.Mx.look, seqK, Fr.newBox, dropBp, mapO, callA, cellsA_agg, okPart_agg, partA, loadA, loadS, newK, storeS, sz29, ag29, ze29, ok17, hlt, hsl, hle, sgC, splice]
  refine putN_sp w s H2 _ hd ?_
  simp [ev_skip, ev_seq, ev_cond2, ev_region2, evOps_nil, evOps_cons, opG_none, opA_move, opA_assign, opA_bin, opA_extract, putO_some, putH_lt, putC_lt, condB_false, binT_some, binA, avO_some, extractT, io_add, opS, opV, Go.Mx.look, seqK, blockK, Fr.known, mapO, extractA, headK, getV, getB, chkP, orO_some, eqT_some, tk3, w1]
  exact ⟨M.length - (i + 1), by omega, i + 1, by omega, rfl, by simp⟩

/-- A board of signs. -/
def putR (L : List Sg) (s : Sg) : List Sg := if rightS s then putL L s else L
def boardL (l : List Sg) : List Sg := l.foldl putR []
theorem boardL_app (l : List Sg) (s : Sg) : boardL (l ++ [s]) = putR (boardL l) s := by simp [boardL]
theorem boardL_len (l : List Sg) : (boardL l).length ≤ l.length := by
  have : ∀ (l L : List Sg), (l.foldl putR L).length ≤ L.length + l.length := by
    intro l
    induction l with
    | nil => intro L; simp
    | cons s r ih =>
      intro L
      have h1 := ih (putR L s)
      have h2 : (putR L s).length ≤ L.length + 1 := by
        unfold putR; split
        · exact putL_len L s
        · omega
      simp only [List.foldl_cons, List.length_cons]
      omega
  simpa [boardL] using this l []
def BoInv (H : Hp) (v : AV) (b : Nat) (l : List Sg) (fp : List Nat) (n : Nat) (xs : List AV) (H2 : Hp) : Prop :=
  ∃ (i : Nat), i ≤ l.length ∧ n = l.length - i ∧ xs = [v, .ptr b 0 0, .v (.int .i64 i)] ∧ BdAt H2 b (boardL (l.take i)) fp ∧ Same [] H H2
set_option maxHeartbeats 1000000 in
theorem board_sp0 (x0 : Bool) (l : List Sg) (H : Hp) (Q : AV → Hp → Prop) (hf : l.length ≤ 1000 ∧ ∀ s ∈ l, s.user.size ≤ 100) (h : ∀ b H' fp, BdAt H' b (boardL l) fp → Same [] H H' → (∀ j ∈ fp, H.length ≤ j) → Q (.ptr b 0 0) H') : Sp Try.prog 10 [.row x0 l.length (l.flatMap sgC)] Q H := by
  refine Sp.body [(3, ⟨[0, 3, 4], [], []⟩)] ⟨[], [], []⟩ [] mo Try.func10 rfl (Nat.le_of_ble_eq_true rfl) (by kernel_rfl) ?_
  simp [ev_seq, ev_region2, evOps_nil, evOps_cons, opG_none, opA_assign, opA_call, putO_some, putH_lt, opS, opV, fr0, argSlots, seqK, mapO, callA, ok20]
  refine new_sp H _ (fun H1 hd hs1 hl1 => ?_)
  have hfp : ∀ j ∈ [H.length + 1, H.length], H.length ≤ j := by simp
  generalize H.length + 1 = b at hd hfp
  generalize [b, H.length] = fp at hd hfp
  have hl60 := hf.1
  simp [ev_seq, ev_block, ev_region2, ev_loop, loopK, evOps_nil, evOps_cons, opG_none, opA_assign, putO_some, putH_lt, putC_lt, opS, opV, Go.Mx.look, seqK, mapO, headK, getV, getB, chkP, firstReg]
  refine LoopC.intro (fun n xs _ H2 => BoInv H (.row x0 l.length (l.flatMap sgC)) b l fp n xs H2) l.length ⟨0, by omega, by omega, by simp, by simpa [boardL] using hd, hs1⟩ ?_
  clear hd hs1 hl1 H1
  rintro n xs bs H2 ⟨i, hi, rfl, rfl, hd, hs⟩
  simp [ev_skip, ev_seq, ev_cond2, ev_block, ev_exit, ev_ret, ev_region2, evOps_nil, evOps_cons, opG_none, opA_move, opA_assign, opA_bin, opA_indexAddr, opA_len, putO_some, putH_lt, binT_some, binA, avO_some, lenT_row, indexAddrT, io_lss, opS, opV, Go.Mx.look, seqK, blockK, Fr.known, retK, retA, resA, mapO, indexAddrA, mkFr, slotsOf, ptrsOf, boxesOf, orO_some, eqT_some, tk3, Try.underlying22, sz29]
  refine ⟨fun hlt => ?_, fun hge => ?_⟩
  · have hx := List.getElem?_eq_getElem hlt
    generalize l[i] = s at hx
    have hsl := flat_sub sgC_len l i hx
    have hle : i * 4 + 4 ≤ (List.map (fun a : Sg => 4) l).sum := flat_le2 sgC_len hx
    have w1 : IntKind.i64.wrap ((i : Int) + 1) = (i : Int) + 1 := wr_i64 (by omega)
    have htk : l.take (i + 1) = l.take i ++ [s] := by rw [List.take_add_one, hx]; rfl
    have hz := hf.2 s (List.mem_of_getElem? hx)
    simp [evOps_cons, opG_none, opA_load, opA_call, putO_some, putH_lt, loadT, opS, opV, Go.Mx.look, mapO, callA, partA, loadA, loadS, sz29, ag29, ok17, hlt, hsl, hle, sgC]
    refine put_sp b _ fp s H2 _ hd hz (fun e => ?_) (fun e H3 hd3 hs3 => ?_)
    · have : boardL (l.take (i + 1)) = boardL (l.take i) := by rw [htk, boardL_app]; simp [putR, e]
      simp [ev_region2, evOps_nil, evOps_cons, opG_none, opA_move, opA_assign, opA_bin, putO_some, putH_lt, putC_lt, binT_some, binA, avO_some, io_add, opS, opV, Go.Mx.look, seqK, blockK, mapO, headK, getV, getB, chkP, orO_some, eqT_some, tk3, w1]
      exact ⟨l.length - (i + 1), by omega, i + 1, by omega, rfl, by simp, by rw [this]; exact hd, hs⟩
    · have : boardL (l.take (i + 1)) = putL (boardL (l.take i)) s := by rw [htk, boardL_app]; simp [putR, e]
      simp [ev_region2, evOps_nil, evOps_cons, opG_none, opA_move, opA_assign, opA_bin, putO_some, putH_lt, putC_lt, binT_some, binA, avO_some, io_add, opS, opV, Go.Mx.look, seqK, blockK, mapO, headK, getV, getB, chkP, orO_some, eqT_some, tk3, w1]
      exact ⟨l.length - (i + 1), by omega, i + 1, by omega, rfl, by simp, by rw [this]; exact hd3, hs.new hs3 hfp⟩
  · have : i = l.length := by omega
    subst this
    rw [List.take_length] at hd
    exact h b H2 fp hd hs hfp
theorem board_sp (x0 : Bool) (l : List Sg) (H : Hp) (Q : AV → Hp → Prop) (hf : FewS l) (h : ∀ b H' fp, BdAt H' b (boardL l) fp → Same [] H H' → (∀ j ∈ fp, H.length ≤ j) → Q (.ptr b 0 0) H') : Sp Try.prog 10 [.row x0 l.length (l.flatMap sgC)] Q H :=
  board_sp0 x0 l H Q ⟨Nat.le_trans hf.1 (by omega), hf.2⟩ h
def rankZ (s : ByteArray) : Int := if s = onT then 2 else if s = unaT then 1 else if s = offT then 0 else -1000
theorem rank_sp (s : ByteArray) (H : Hp) (Q : AV → Hp → Prop) (h : Q (.v (.int .i64 (rankZ s))) H) : Sp Try.prog 14 [.v (.string s)] Q H := by
  refine Sp.body [] ⟨[], [], []⟩ [] mo Try.func14 rfl (Nat.le_of_ble_eq_true rfl) (by kernel_rfl) ?_
  unfold rankZ at h
  have tl : ∀ l, s.toList = l ↔ s = tx l := fun l => by rw [← tl_inj, tx_list]
  simp [ev_skip, ev_seq, ev_cond2, ev_block, ev_ret, ev_region2, evOps_nil, evOps_cons, opG_none, opA_move, opA_assign, opA_bin, putO_some, putH_lt, binT_some, binA, avO_some, strOp, opS, opV, Go.Mx.look, fr0, argSlots, seqK, blockK, Fr.known, retK, retA, resA, mapO, orO_some, eqT_some, tk9]
  refine ⟨fun e => ?_, fun e => ⟨fun e2 => ?_, fun e2 => ⟨fun e3 => ?_, fun e3 => ?_⟩⟩⟩
  · rw [if_pos (show s = onT from (tl _).1 e)] at h; exact h
  · rw [if_neg (fun x : s = onT => e ((tl _).2 x)), if_pos (show s = unaT from (tl _).1 e2)] at h; exact h
  · rw [if_neg (fun x : s = onT => e ((tl _).2 x)), if_neg (fun x : s = unaT => e2 ((tl _).2 x)), if_pos (show s = offT from (tl _).1 e3)] at h; exact h
  · rw [if_neg (fun x : s = onT => e ((tl _).2 x)), if_neg (fun x : s = unaT => e2 ((tl _).2 x)), if_neg (fun x : s = offT => e3 ((tl _).2 x))] at h; exact h
end Go.Proofs.Ytohmgnbndhojpaa

namespace Go.Proofs.Ytohmgnbndhojpaa
open Go.Mx
set_option linter.unusedVariables false
set_option linter.unusedSimpArgs false

theorem agg29 : AggKey Try.prog 29 := AggKey.of laid (Nat.le_of_ble_eq_true (by kernel_rfl)) (Nat.le_of_ble_eq_true (by kernel_rfl)) (by kernel_rfl) (by kernel_rfl) (by kernel_rfl)
theorem wf64 {z : Int} (h : -9223372036854775808 ≤ z ∧ z ≤ 9223372036854775807) : (Lit.int .i64 z).wf = true := by
  simp [Lit.wf, IntKind.min, IntKind.max, IntKind.signed, IntKind.bits]; omega
theorem good29 {s : Sg} (hr : rightS s = true) (hz : s.user.size ≤ 100) : KGood Try.prog 29 (.agg (sgC s)) := by
  obtain ⟨_, r1, r2, r3, r4, r5⟩ := rightS_iff.1 hr
  have h := KGood.struct agg29 Try.underlying29 (by kernel_rfl) (by kernel_rfl) (by kernel_rfl) (us := [.string s.user, .int .i64 s.kind, .int .i64 s.at_, .int .i64 s.till]) (by kernel_rfl) (fun i f hf => by
    match i, hf with
    | 0, hf => simp at hf; subst hf; exact ⟨rfl, by kernel_rfl, _, rfl, PlainAt.str Try.underlying9 (by simp only [maxLen]; omega)⟩
    | 1, hf => simp at hf; subst hf; exact ⟨rfl, by kernel_rfl, _, rfl, PlainAt.int Try.underlying3 (wf64 (by omega))⟩
    | 2, hf => simp at hf; subst hf; exact ⟨rfl, by kernel_rfl, _, rfl, PlainAt.int Try.underlying2 (wf64 (by omega))⟩
    | 3, hf => simp at hf; subst hf; exact ⟨rfl, by kernel_rfl, _, rfl, PlainAt.int Try.underlying2 (wf64 (by omega))⟩
    | i + 4, hf => simp at hf)
  exact h
theorem eq29 {s : Sg} (hr : rightS s = true) (hz : s.user.size ≤ 100) : eqAgg Try.prog 29 .neq (.agg (sgC s)) (.agg (sgC s)) = some (.v (.bool false)) := by
  have h := good29 hr hz
  simp [eqAgg, h]
/-- A row that is read: by value, or an object. -/
def RdG (H : Hp) (v : AV) (L : List Sg) : Prop := (∃ x, v = .row x L.length (L.flatMap sgC)) ∨ NewK 4 [] H L.length (L.flatMap sgC) v
theorem RdG.lenT {H : Hp} {v : AV} {L : List Sg} (h : RdG H v L) (H' : Hp) : lenT H' (some (.slice 29)) (some v) = some (.av (.v (.int .i64 L.length))) := by
  rcases h with ⟨x, rfl⟩ | h
  · rfl
  · exact h.lenT H' 29
theorem RdG.two {H : Hp} {v : AV} {L : List Sg} (h : RdG H v L) (hL : L ≠ []) : (∃ x, v = .row x L.length (L.flatMap sgC)) ∨ ∃ id ver tl, v = .sl id ver 4 0 L.length ∧ H[id]? = some (.cells ver (L.flatMap sgC ++ tl)) := by
  rcases h with h | ⟨h, _⟩ | ⟨_, _, id, ver, tl, h1, h2, _⟩
  · exact .inl h
  · exact absurd (by simpa using h) hL
  · exact .inr ⟨id, ver, tl, h1, h2⟩
theorem sl_sub {L : List Sg} (tl : List AV) {i : Nat} {s : Sg} (hx : L[i]? = some s) : ((L.flatMap sgC ++ tl).drop (i * 4)).take 4 = sgC s ∧ i * 4 + 4 ≤ (L.flatMap sgC ++ tl).length := by
  have h1 := flat_sub sgC_len L i hx
  have h2 := flat_le sgC_len hx
  refine ⟨?_, by rw [List.length_append]; omega⟩
  rw [List.drop_append_of_le_length (by omega), List.take_append_of_le_length (by rw [List.length_drop]; omega), h1]
set_option maxRecDepth 20000 in
set_option maxHeartbeats 1000000 in
theorem same_sp (v w : AV) (L : List Sg) (H : Hp) (Q : AV → Hp → Prop) (hv : RdG H v L) (hw : RdG H w L) (hok : OkL L) (hL : L.length ≤ 1000) (h : Q (.v (.bool true)) H) : Sp Try.prog 19 [v, w] Q H := by
  refine Sp.body [(4, ⟨[0, 1, 5], [], []⟩)] ⟨[], [], pl19⟩ tb19 mo Try.func19 rfl (Nat.le_of_ble_eq_true rfl) (by kernel_rfl) ?_
  have l1 := hv.lenT
  have l2 := hw.lenT
  simp [ev_skip, ev_seq, ev_cond2, ev_block, ev_exit, ev_ret, ev_region2, ev_loop, loopK, evOps_nil, evOps_cons, opG_none, opG_some, opJ, opU_true, opU_ft, opU_ff, isU_undef, isU_bool, valU_true, valU_false, opK_eq, opA_move, opA_assign, opA_pick, opA_bin, opA_un, opA_extract, opA_field, opA_load, opA_index, opA_indexAddr, opA_fieldAddr, opA_nilCheck, opA_len, opA_call, opA_max, opA_min, opA_alloc, opA_box, opA_store, opA_buildSlice, opA_makeSlice, opA_append, opA_copy, opA_convert, opA_makeMap, opA_slice, opA_makeFunc, opA_build, putO_some, putH_lt, putH_none, putC_lt, putC_none, putU_lt, putU_none, putV_lt, putV_none, condB_true, condB_false, CondP_true, CondP_false, binT_some, binA_int, binA_str, binA_eqb, binA_neb, binA, eqRef, avO_some, avO_none, avOf, pickT_true, pickT_false, pickT, unT, extractT, loadT, nilCheckT, lenT_str, lenT_row, lenT_sl, lenT_nil, lenT_arr, lenT_mp, lenT_nomp, maxT, minT, maxA, minA, fieldT, fieldAddrT, indexT, indexAddrT, allocT, boxT, storeT, buildSliceT, makeSliceT, appendT, copyT, convV, convC, convT, makeMapT, bndT, sliceT, fnT, bytesOf_nil, bytesOf_one, repeatL_0, repeatL_1, repeatL_2, repeatL_3, repeatL_4, buildZ, partsZ, fillO, aggO, io_add, io_sub, io_mul, io_quo, io_rem, io_shl, io_shr, io_and, io_or, io_xor, io_eql, io_neq, io_lss, io_leq, io_gtr, io_geq, strOp, opS_tmp, opS_const, opV_tmp, opV_const, opS, opV, look_eq, look_ne, Go.Mx.look, fr0, argSlots, seqK_n, seqK_r, seqK_e, seqK, blockK_n, blockK_r, blockK, Fr.known, Fr.newBox, dropBp, retK, retA, resA, mapO, unA, convInt, convStr, strOf, callA, extractA, lenM, cellsA_v, cellsA_agg, cellsA_row, cellsA_sl, cellsA_ptr, cellsA_rp, cellsA_mp, cellsA_fn, okPart_v, okPart_agg, okPart_row, okPart_sl, okPart_ptr, okPart_rp, okPart_mp, okPart_fn, Value.oneCell', fieldA, partA, loadA, loadS, plusS, indexAddrA, indexArrA, nilCheckS, sliceA, sliceArr, fillA, newK, storeS, headK, getV, getB, chkP, mkFr, slotsOf, ptrsOf, boxesOf, firstReg, bindO, makeA, appA, copyA, srcA, srcTy, okPart_u8, cellsA_u8, Cond_iff, orO_some, orO_none, eqT_some, opA_entry, entryT_some, lookT_some, updT_some, delT_some, clearT_some, rangeT_some, nextT_some, makeMapH, opA_lookup, opA_makeMap2, opA_upd, opA_delete, opA_clear, opA_range, opA_next, valS_lookup, ev_draw, drawK, evP_nil, evP_q, evP_s, opAt_some, chkK_eq, sameV_some, sameO_some, allQ_nil, allQ_cons, valG_some, valJ, valQ_none, valQ_some, valS_move, valS_pick, valS_bin, valS_un, valS_extract, valS_field, valS_load, valS_index, valS_indexAddr, valS_fieldAddr, valS_nilCheck, valS_len, valS_max, valS_min, valS_slice, valS_convert, valS_makeFunc, valS_build, valS_buildSlice, rowT, rowF, sz2, ag2, tk2, by2, ze2, Try.underlying2, sz3, ag3, tk3, by3, ze3, Try.underlying3, sz4, ag4, tk4, by4, ze4, Try.underlying4, sz5, ag5, tk5, by5, ze5, Try.underlying5, sz9, ag9, tk9, st9, by9, ze9, Try.underlying9, sz22, ag22, tk22, st22, by22, ze22, Try.underlying22, sz23, ag23, tk23, by23, ze23, Try.underlying23, sz25, ag25, tk25, by25, ze25, Try.underlying25, sz29, ag29, tk29, by29, ze29, of29, Try.underlying29, sz31, ag31, tk31, st31, by31, ze31, Try.underlying31, sz37, ag37, tk37, by37, ze37, Try.underlying37, sz44, ag44, tk44, by44, ze44, Try.underlying44, sz46, ag46, tk46, by46, ze46, of46, Try.underlying46, sz49, ag49, tk49, by49, ze49, Try.underlying49, sz51, ag51, tk51, by51, ze51, of51, Try.underlying51, sz52, ag52, tk52, st52, by52, ze52, Try.underlying52, sz55, ag55, tk55, by55, ze55, of55, Try.underlying55, sz73, ag73, tk73, st73, by73, ze73, Try.underlying73, mo, ok3, ok4, ok5, ok6, ok7, ok8, ok9, ok10, ok11, ok12, ok13, ok14, ok15, ok16, ok17, ok18, ok19, ok20, ok21, ok22, ok23, ok24, ok25, ok26, ok28, ok29, ok30, ok31, ok32, ok33, ok34, ok35, ok36, ok37, ok38, ok39, ok40, ok43, ok44, ok45, ok46, ok47, ok58, ok59, ok65, ok66, ok67, ok68, ok69, ok70, ok72, ok73, ok74, ok75, ok76, ok77, ok78, ok79, ok80, ok81, pl3, pl4, pl5, pl6, pl7, pl8, pl17, pl19, pl22, pl25, pl58, pl74, l1, l2]
  refine LoopC.intro (fun n xs _ H2 => ∃ i : Nat, i ≤ L.length ∧ n = L.length - i ∧ xs = [v, w, .v (.int .i64 i)] ∧ H2 = H) L.length ⟨0, by omega, by omega, by simp, rfl⟩ ?_
  rintro n xs bs H2 ⟨i, hi, rfl, rfl, rfl⟩
  simp [ev_skip, ev_seq, ev_cond2, ev_block, ev_exit, ev_ret, ev_region2, ev_loop, loopK, evOps_nil, evOps_cons, opG_none, opG_some, opJ, opU_true, opU_ft, opU_ff, isU_undef, isU_bool, valU_true, valU_false, opK_eq, opA_move, opA_assign, opA_pick, opA_bin, opA_un, opA_extract, opA_field, opA_load, opA_index, opA_indexAddr, opA_fieldAddr, opA_nilCheck, opA_len, opA_call, opA_max, opA_min, opA_alloc, opA_box, opA_store, opA_buildSlice, opA_makeSlice, opA_append, opA_copy, opA_convert, opA_makeMap, opA_slice, opA_makeFunc, opA_build, putO_some, putH_lt, putH_none, putC_lt, putC_none, putU_lt, putU_none, putV_lt, putV_none, condB_true, condB_false, CondP_true, CondP_false, binT_some, binA_int, binA_str, binA_eqb, binA_neb, binA, eqRef, avO_some, avO_none, avOf, pickT_true, pickT_false, pickT, unT, extractT, loadT, nilCheckT, lenT_str, lenT_row, lenT_sl, lenT_nil, lenT_arr, lenT_mp, lenT_nomp, maxT, minT, maxA, minA, fieldT, fieldAddrT, indexT, indexAddrT, allocT, boxT, storeT, buildSliceT, makeSliceT, appendT, copyT, convV, convC, convT, makeMapT, bndT, sliceT, fnT, bytesOf_nil, bytesOf_one, repeatL_0, repeatL_1, repeatL_2, repeatL_3, repeatL_4, buildZ, partsZ, fillO, aggO, io_add, io_sub, io_mul, io_quo, io_rem, io_shl, io_shr, io_and, io_or, io_xor, io_eql, io_neq, io_lss, io_leq, io_gtr, io_geq, strOp, opS_tmp, opS_const, opV_tmp, opV_const, opS, opV, look_eq, look_ne, Go.Mx.look, fr0, argSlots, seqK_n, seqK_r, seqK_e, seqK, blockK_n, blockK_r, blockK, Fr.known, Fr.newBox, dropBp, retK, retA, resA, mapO, unA, convInt, convStr, strOf, callA, extractA, lenM, cellsA_v, cellsA_agg, cellsA_row, cellsA_sl, cellsA_ptr, cellsA_rp, cellsA_mp, cellsA_fn, okPart_v, okPart_agg, okPart_row, okPart_sl, okPart_ptr, okPart_rp, okPart_mp, okPart_fn, Value.oneCell', fieldA, partA, loadA, loadS, plusS, indexAddrA, indexArrA, nilCheckS, sliceA, sliceArr, fillA, newK, storeS, headK, getV, getB, chkP, mkFr, slotsOf, ptrsOf, boxesOf, firstReg, bindO, makeA, appA, copyA, srcA, srcTy, okPart_u8, cellsA_u8, Cond_iff, orO_some, orO_none, eqT_some, opA_entry, entryT_some, lookT_some, updT_some, delT_some, clearT_some, rangeT_some, nextT_some, makeMapH, opA_lookup, opA_makeMap2, opA_upd, opA_delete, opA_clear, opA_range, opA_next, valS_lookup, ev_draw, drawK, evP_nil, evP_q, evP_s, opAt_some, chkK_eq, sameV_some, sameO_some, allQ_nil, allQ_cons, valG_some, valJ, valQ_none, valQ_some, valS_move, valS_pick, valS_bin, valS_un, valS_extract, valS_field, valS_load, valS_index, valS_indexAddr, valS_fieldAddr, valS_nilCheck, valS_len, valS_max, valS_min, valS_slice, valS_convert, valS_makeFunc, valS_build, valS_buildSlice, rowT, rowF, sz2, ag2, tk2, by2, ze2, Try.underlying2, sz3, ag3, tk3, by3, ze3, Try.underlying3, sz4, ag4, tk4, by4, ze4, Try.underlying4, sz5, ag5, tk5, by5, ze5, Try.underlying5, sz9, ag9, tk9, st9, by9, ze9, Try.underlying9, sz22, ag22, tk22, st22, by22, ze22, Try.underlying22, sz23, ag23, tk23, by23, ze23, Try.underlying23, sz25, ag25, tk25, by25, ze25, Try.underlying25, sz29, ag29, tk29, by29, ze29, of29, Try.underlying29, sz31, ag31, tk31, st31, by31, ze31, Try.underlying31, sz37, ag37, tk37, by37, ze37, Try.underlying37, sz44, ag44, tk44, by44, ze44, Try.underlying44, sz46, ag46, tk46, by46, ze46, of46, Try.underlying46, sz49, ag49, tk49, by49, ze49, Try.underlying49, sz51, ag51, tk51, by51, ze51, of51, Try.underlying51, sz52, ag52, tk52, st52, by52, ze52, Try.underlying52, sz55, ag55, tk55, by55, ze55, of55, Try.underlying55, sz73, ag73, tk73, st73, by73, ze73, Try.underlying73, mo, ok3, ok4, ok5, ok6, ok7, ok8, ok9, ok10, ok11, ok12, ok13, ok14, ok15, ok16, ok17, ok18, ok19, ok20, ok21, ok22, ok23, ok24, ok25, ok26, ok28, ok29, ok30, ok31, ok32, ok33, ok34, ok35, ok36, ok37, ok38, ok39, ok40, ok43, ok44, ok45, ok46, ok47, ok58, ok59, ok65, ok66, ok67, ok68, ok69, ok70, ok72, ok73, ok74, ok75, ok76, ok77, ok78, ok79, ok80, ok81, pl3, pl4, pl5, pl6, pl7, pl8, pl17, pl19, pl22, pl25, pl58, pl74, l1, l2]
  refine ⟨fun hlt => ?_, fun hge => by simpa [ev_skip, ev_seq, ev_cond2, ev_block, ev_exit, ev_ret, ev_region2, ev_loop, loopK, evOps_nil, evOps_cons, opG_none, opG_some, opJ, opU_true, opU_ft, opU_ff, isU_undef, isU_bool, valU_true, valU_false, opK_eq, opA_move, opA_assign, opA_pick, opA_bin, opA_un, opA_extract, opA_field, opA_load, opA_index, opA_indexAddr, opA_fieldAddr, opA_nilCheck, opA_len, opA_call, opA_max, opA_min, opA_alloc, opA_box, opA_store, opA_buildSlice, opA_makeSlice, opA_append, opA_copy, opA_convert, opA_makeMap, opA_slice, opA_makeFunc, opA_build, putO_some, putH_lt, putH_none, putC_lt, putC_none, putU_lt, putU_none, putV_lt, putV_none, condB_true, condB_false, CondP_true, CondP_false, binT_some, binA_int, binA_str, binA_eqb, binA_neb, binA, eqRef, avO_some, avO_none, avOf, pickT_true, pickT_false, pickT, unT, extractT, loadT, nilCheckT, lenT_str, lenT_row, lenT_sl, lenT_nil, lenT_arr, lenT_mp, lenT_nomp, maxT, minT, maxA, minA, fieldT, fieldAddrT, indexT, indexAddrT, allocT, boxT, storeT, buildSliceT, makeSliceT, appendT, copyT, convV, convC, convT, makeMapT, bndT, sliceT, fnT, bytesOf_nil, bytesOf_one, repeatL_0, repeatL_1, repeatL_2, repeatL_3, repeatL_4, buildZ, partsZ, fillO, aggO, io_add, io_sub, io_mul, io_quo, io_rem, io_shl, io_shr, io_and, io_or, io_xor, io_eql, io_neq, io_lss, io_leq, io_gtr, io_geq, strOp, opS_tmp, opS_const, opV_tmp, opV_const, opS, opV, look_eq, look_ne, Go.Mx.look, fr0, argSlots, seqK_n, seqK_r, seqK_e, seqK, blockK_n, blockK_r, blockK, Fr.known, Fr.newBox, dropBp, retK, retA, resA, mapO, unA, convInt, convStr, strOf, callA, extractA, lenM, cellsA_v, cellsA_agg, cellsA_row, cellsA_sl, cellsA_ptr, cellsA_rp, cellsA_mp, cellsA_fn, okPart_v, okPart_agg, okPart_row, okPart_sl, okPart_ptr, okPart_rp, okPart_mp, okPart_fn, Value.oneCell', fieldA, partA, loadA, loadS, plusS, indexAddrA, indexArrA, nilCheckS, sliceA, sliceArr, fillA, newK, storeS, headK, getV, getB, chkP, mkFr, slotsOf, ptrsOf, boxesOf, firstReg, bindO, makeA, appA, copyA, srcA, srcTy, okPart_u8, cellsA_u8, Cond_iff, orO_some, orO_none, eqT_some, opA_entry, entryT_some, lookT_some, updT_some, delT_some, clearT_some, rangeT_some, nextT_some, makeMapH, opA_lookup, opA_makeMap2, opA_upd, opA_delete, opA_clear, opA_range, opA_next, valS_lookup, ev_draw, drawK, evP_nil, evP_q, evP_s, opAt_some, chkK_eq, sameV_some, sameO_some, allQ_nil, allQ_cons, valG_some, valJ, valQ_none, valQ_some, valS_move, valS_pick, valS_bin, valS_un, valS_extract, valS_field, valS_load, valS_index, valS_indexAddr, valS_fieldAddr, valS_nilCheck, valS_len, valS_max, valS_min, valS_slice, valS_convert, valS_makeFunc, valS_build, valS_buildSlice, rowT, rowF, sz2, ag2, tk2, by2, ze2, Try.underlying2, sz3, ag3, tk3, by3, ze3, Try.underlying3, sz4, ag4, tk4, by4, ze4, Try.underlying4, sz5, ag5, tk5, by5, ze5, Try.underlying5, sz9, ag9, tk9, st9, by9, ze9, Try.underlying9, sz22, ag22, tk22, st22, by22, ze22, Try.underlying22, sz23, ag23, tk23, by23, ze23, Try.underlying23, sz25, ag25, tk25, by25, ze25, Try.underlying25, sz29, ag29, tk29, by29, ze29, of29, Try.underlying29, sz31, ag31, tk31, st31, by31, ze31, Try.underlying31, sz37, ag37, tk37, by37, ze37, Try.underlying37, sz44, ag44, tk44, by44, ze44, Try.underlying44, sz46, ag46, tk46, by46, ze46, of46, Try.underlying46, sz49, ag49, tk49, by49, ze49, Try.underlying49, sz51, ag51, tk51, by51, ze51, of51, Try.underlying51, sz52, ag52, tk52, st52, by52, ze52, Try.underlying52, sz55, ag55, tk55, by55, ze55, of55, Try.underlying55, sz73, ag73, tk73, st73, by73, ze73, Try.underlying73, mo, ok3, ok4, ok5, ok6, ok7, ok8, ok9, ok10, ok11, ok12, ok13, ok14, ok15, ok16, ok17, ok18, ok19, ok20, ok21, ok22, ok23, ok24, ok25, ok26, ok28, ok29, ok30, ok31, ok32, ok33, ok34, ok35, ok36, ok37, ok38, ok39, ok40, ok43, ok44, ok45, ok46, ok47, ok58, ok59, ok65, ok66, ok67, ok68, ok69, ok70, ok72, ok73, ok74, ok75, ok76, ok77, ok78, ok79, ok80, ok81, pl3, pl4, pl5, pl6, pl7, pl8, pl17, pl19, pl22, pl25, pl58, pl74] using h⟩
  have hx := List.getElem?_eq_getElem hlt
  generalize L[i] = s at hx
  have hsl := flat_sub sgC_len L i hx
  have hle : i * 4 + 4 ≤ (List.map (fun a : Sg => 4) L).sum := flat_le2 sgC_len hx
  have w1 : IntKind.i64.wrap ((i : Int) + 1) = (i : Int) + 1 := wr_i64 (by omega)
  obtain ⟨hr, hz⟩ := hok.2 s (List.mem_of_getElem? hx)
  have he := eq29 hr hz
  have hne : L ≠ [] := fun e => by subst e; simp at hlt
  have fin : ∃ m, m < L.length - i ∧ ∃ j : Nat, j ≤ L.length ∧ m = L.length - j ∧ [v, w, AV.v (.int .i64 ((i : Int) + 1))] = [v, w, .v (.int .i64 j)] ∧ H2 = H2 := ⟨L.length - (i + 1), by omega, i + 1, by omega, rfl, by simp, rfl⟩
  simp only [sgC] at he hsl
  rcases hv.two hne with ⟨x, rfl⟩ | ⟨id, ver, tl, rfl, hid⟩ <;> rcases hw.two hne with ⟨y, rfl⟩ | ⟨id2, ver2, tl2, rfl, hid2⟩
  · simp [ev_skip, ev_seq, ev_cond2, ev_block, ev_exit, ev_ret, ev_region2, ev_loop, loopK, evOps_nil, evOps_cons, opG_none, opG_some, opJ, opU_true, opU_ft, opU_ff, isU_undef, isU_bool, valU_true, valU_false, opK_eq, opA_move, opA_assign, opA_pick, opA_bin, opA_un, opA_extract, opA_field, opA_load, opA_index, opA_indexAddr, opA_fieldAddr, opA_nilCheck, opA_len, opA_call, opA_max, opA_min, opA_alloc, opA_box, opA_store, opA_buildSlice, opA_makeSlice, opA_append, opA_copy, opA_convert, opA_makeMap, opA_slice, opA_makeFunc, opA_build, putO_some, putH_lt, putH_none, putC_lt, putC_none, putU_lt, putU_none, putV_lt, putV_none, condB_true, condB_false, CondP_true, CondP_false, binT_some, binA_int, binA_str, binA_eqb, binA_neb, binA, eqRef, avO_some, avO_none, avOf, pickT_true, pickT_false, pickT, unT, extractT, loadT, nilCheckT, lenT_str, lenT_row, lenT_sl, lenT_nil, lenT_arr, lenT_mp, lenT_nomp, maxT, minT, maxA, minA, fieldT, fieldAddrT, indexT, indexAddrT, allocT, boxT, storeT, buildSliceT, makeSliceT, appendT, copyT, convV, convC, convT, makeMapT, bndT, sliceT, fnT, bytesOf_nil, bytesOf_one, repeatL_0, repeatL_1, repeatL_2, repeatL_3, repeatL_4, buildZ, partsZ, fillO, aggO, io_add, io_sub, io_mul, io_quo, io_rem, io_shl, io_shr, io_and, io_or, io_xor, io_eql, io_neq, io_lss, io_leq, io_gtr, io_geq, strOp, opS_tmp, opS_const, opV_tmp, opV_const, opS, opV, look_eq, look_ne, Go.Mx.look, fr0, argSlots, seqK_n, seqK_r, seqK_e, seqK, blockK_n, blockK_r, blockK, Fr.known, Fr.newBox, dropBp, retK, retA, resA, mapO, unA, convInt, convStr, strOf, callA, extractA, lenM, cellsA_v, cellsA_agg, cellsA_row, cellsA_sl, cellsA_ptr, cellsA_rp, cellsA_mp, cellsA_fn, okPart_v, okPart_agg, okPart_row, okPart_sl, okPart_ptr, okPart_rp, okPart_mp, okPart_fn, Value.oneCell', fieldA, partA, loadA, loadS, plusS, indexAddrA, indexArrA, nilCheckS, sliceA, sliceArr, fillA, newK, storeS, headK, getV, getB, chkP, mkFr, slotsOf, ptrsOf, boxesOf, firstReg, bindO, makeA, appA, copyA, srcA, srcTy, okPart_u8, cellsA_u8, Cond_iff, orO_some, orO_none, eqT_some, opA_entry, entryT_some, lookT_some, updT_some, delT_some, clearT_some, rangeT_some, nextT_some, makeMapH, opA_lookup, opA_makeMap2, opA_upd, opA_delete, opA_clear, opA_range, opA_next, valS_lookup, ev_draw, drawK, evP_nil, evP_q, evP_s, opAt_some, chkK_eq, sameV_some, sameO_some, allQ_nil, allQ_cons, valG_some, valJ, valQ_none, valQ_some, valS_move, valS_pick, valS_bin, valS_un, valS_extract, valS_field, valS_load, valS_index, valS_indexAddr, valS_fieldAddr, valS_nilCheck, valS_len, valS_max, valS_min, valS_slice, valS_convert, valS_makeFunc, valS_build, valS_buildSlice, rowT, rowF, sz2, ag2, tk2, by2, ze2, Try.underlying2, sz3, ag3, tk3, by3, ze3, Try.underlying3, sz4, ag4, tk4, by4, ze4, Try.underlying4, sz5, ag5, tk5, by5, ze5, Try.underlying5, sz9, ag9, tk9, st9, by9, ze9, Try.underlying9, sz22, ag22, tk22, st22, by22, ze22, Try.underlying22, sz23, ag23, tk23, by23, ze23, Try.underlying23, sz25, ag25, tk25, by25, ze25, Try.underlying25, sz29, ag29, tk29, by29, ze29, of29, Try.underlying29, sz31, ag31, tk31, st31, by31, ze31, Try.underlying31, sz37, ag37, tk37, by37, ze37, Try.underlying37, sz44, ag44, tk44, by44, ze44, Try.underlying44, sz46, ag46, tk46, by46, ze46, of46, Try.underlying46, sz49, ag49, tk49, by49, ze49, Try.underlying49, sz51, ag51, tk51, by51, ze51, of51, Try.underlying51, sz52, ag52, tk52, st52, by52, ze52, Try.underlying52, sz55, ag55, tk55, by55, ze55, of55, Try.underlying55, sz73, ag73, tk73, st73, by73, ze73, Try.underlying73, mo, ok3, ok4, ok5, ok6, ok7, ok8, ok9, ok10, ok11, ok12, ok13, ok14, ok15, ok16, ok17, ok18, ok19, ok20, ok21, ok22, ok23, ok24, ok25, ok26, ok28, ok29, ok30, ok31, ok32, ok33, ok34, ok35, ok36, ok37, ok38, ok39, ok40, ok43, ok44, ok45, ok46, ok47, ok58, ok59, ok65, ok66, ok67, ok68, ok69, ok70, ok72, ok73, ok74, ok75, ok76, ok77, ok78, ok79, ok80, ok81, pl3, pl4, pl5, pl6, pl7, pl8, pl17, pl19, pl22, pl25, pl58, pl74, hlt, hsl, hle, sgC, he, w1]
    simpa using fin
  · obtain ⟨k1, k2⟩ := sl_sub tl2 hx
    generalize L.flatMap sgC ++ tl2 = cs at k1 k2 hid2
    simp only [sgC] at k1
    simp [ev_skip, ev_seq, ev_cond2, ev_block, ev_exit, ev_ret, ev_region2, ev_loop, loopK, evOps_nil, evOps_cons, opG_none, opG_some, opJ, opU_true, opU_ft, opU_ff, isU_undef, isU_bool, valU_true, valU_false, opK_eq, opA_move, opA_assign, opA_pick, opA_bin, opA_un, opA_extract, opA_field, opA_load, opA_index, opA_indexAddr, opA_fieldAddr, opA_nilCheck, opA_len, opA_call, opA_max, opA_min, opA_alloc, opA_box, opA_store, opA_buildSlice, opA_makeSlice, opA_append, opA_copy, opA_convert, opA_makeMap, opA_slice, opA_makeFunc, opA_build, putO_some, putH_lt, putH_none, putC_lt, putC_none, putU_lt, putU_none, putV_lt, putV_none, condB_true, condB_false, CondP_true, CondP_false, binT_some, binA_int, binA_str, binA_eqb, binA_neb, binA, eqRef, avO_some, avO_none, avOf, pickT_true, pickT_false, pickT, unT, extractT, loadT, nilCheckT, lenT_str, lenT_row, lenT_sl, lenT_nil, lenT_arr, lenT_mp, lenT_nomp, maxT, minT, maxA, minA, fieldT, fieldAddrT, indexT, indexAddrT, allocT, boxT, storeT, buildSliceT, makeSliceT, appendT, copyT, convV, convC, convT, makeMapT, bndT, sliceT, fnT, bytesOf_nil, bytesOf_one, repeatL_0, repeatL_1, repeatL_2, repeatL_3, repeatL_4, buildZ, partsZ, fillO, aggO, io_add, io_sub, io_mul, io_quo, io_rem, io_shl, io_shr, io_and, io_or, io_xor, io_eql, io_neq, io_lss, io_leq, io_gtr, io_geq, strOp, opS_tmp, opS_const, opV_tmp, opV_const, opS, opV, look_eq, look_ne, Go.Mx.look, fr0, argSlots, seqK_n, seqK_r, seqK_e, seqK, blockK_n, blockK_r, blockK, Fr.known, Fr.newBox, dropBp, retK, retA, resA, mapO, unA, convInt, convStr, strOf, callA, extractA, lenM, cellsA_v, cellsA_agg, cellsA_row, cellsA_sl, cellsA_ptr, cellsA_rp, cellsA_mp, cellsA_fn, okPart_v, okPart_agg, okPart_row, okPart_sl, okPart_ptr, okPart_rp, okPart_mp, okPart_fn, Value.oneCell', fieldA, partA, loadA, loadS, plusS, indexAddrA, indexArrA, nilCheckS, sliceA, sliceArr, fillA, newK, storeS, headK, getV, getB, chkP, mkFr, slotsOf, ptrsOf, boxesOf, firstReg, bindO, makeA, appA, copyA, srcA, srcTy, okPart_u8, cellsA_u8, Cond_iff, orO_some, orO_none, eqT_some, opA_entry, entryT_some, lookT_some, updT_some, delT_some, clearT_some, rangeT_some, nextT_some, makeMapH, opA_lookup, opA_makeMap2, opA_upd, opA_delete, opA_clear, opA_range, opA_next, valS_lookup, ev_draw, drawK, evP_nil, evP_q, evP_s, opAt_some, chkK_eq, sameV_some, sameO_some, allQ_nil, allQ_cons, valG_some, valJ, valQ_none, valQ_some, valS_move, valS_pick, valS_bin, valS_un, valS_extract, valS_field, valS_load, valS_index, valS_indexAddr, valS_fieldAddr, valS_nilCheck, valS_len, valS_max, valS_min, valS_slice, valS_convert, valS_makeFunc, valS_build, valS_buildSlice, rowT, rowF, sz2, ag2, tk2, by2, ze2, Try.underlying2, sz3, ag3, tk3, by3, ze3, Try.underlying3, sz4, ag4, tk4, by4, ze4, Try.underlying4, sz5, ag5, tk5, by5, ze5, Try.underlying5, sz9, ag9, tk9, st9, by9, ze9, Try.underlying9, sz22, ag22, tk22, st22, by22, ze22, Try.underlying22, sz23, ag23, tk23, by23, ze23, Try.underlying23, sz25, ag25, tk25, by25, ze25, Try.underlying25, sz29, ag29, tk29, by29, ze29, of29, Try.underlying29, sz31, ag31, tk31, st31, by31, ze31, Try.underlying31, sz37, ag37, tk37, by37, ze37, Try.underlying37, sz44, ag44, tk44, by44, ze44, Try.underlying44, sz46, ag46, tk46, by46, ze46, of46, Try.underlying46, sz49, ag49, tk49, by49, ze49, Try.underlying49, sz51, ag51, tk51, by51, ze51, of51, Try.underlying51, sz52, ag52, tk52, st52, by52, ze52, Try.underlying52, sz55, ag55, tk55, by55, ze55, of55, Try.underlying55, sz73, ag73, tk73, st73, by73, ze73, Try.underlying73, mo, ok3, ok4, ok5, ok6, ok7, ok8, ok9, ok10, ok11, ok12, ok13, ok14, ok15, ok16, ok17, ok18, ok19, ok20, ok21, ok22, ok23, ok24, ok25, ok26, ok28, ok29, ok30, ok31, ok32, ok33, ok34, ok35, ok36, ok37, ok38, ok39, ok40, ok43, ok44, ok45, ok46, ok47, ok58, ok59, ok65, ok66, ok67, ok68, ok69, ok70, ok72, ok73, ok74, ok75, ok76, ok77, ok78, ok79, ok80, ok81, pl3, pl4, pl5, pl6, pl7, pl8, pl17, pl19, pl22, pl25, pl58, pl74, hlt, hsl, hle, sgC, he, w1, hid2, k1, k2]
    simpa using fin
  · obtain ⟨k1, k2⟩ := sl_sub tl hx
    have hsl' := hsl
    generalize L.flatMap sgC ++ tl = cs at k1 k2 hid
    simp only [sgC] at k1
    simp [ev_skip, ev_seq, ev_cond2, ev_block, ev_exit, ev_ret, ev_region2, ev_loop, loopK, evOps_nil, evOps_cons, opG_none, opG_some, opJ, opU_true, opU_ft, opU_ff, isU_undef, isU_bool, valU_true, valU_false, opK_eq, opA_move, opA_assign, opA_pick, opA_bin, opA_un, opA_extract, opA_field, opA_load, opA_index, opA_indexAddr, opA_fieldAddr, opA_nilCheck, opA_len, opA_call, opA_max, opA_min, opA_alloc, opA_box, opA_store, opA_buildSlice, opA_makeSlice, opA_append, opA_copy, opA_convert, opA_makeMap, opA_slice, opA_makeFunc, opA_build, putO_some, putH_lt, putH_none, putC_lt, putC_none, putU_lt, putU_none, putV_lt, putV_none, condB_true, condB_false, CondP_true, CondP_false, binT_some, binA_int, binA_str, binA_eqb, binA_neb, binA, eqRef, avO_some, avO_none, avOf, pickT_true, pickT_false, pickT, unT, extractT, loadT, nilCheckT, lenT_str, lenT_row, lenT_sl, lenT_nil, lenT_arr, lenT_mp, lenT_nomp, maxT, minT, maxA, minA, fieldT, fieldAddrT, indexT, indexAddrT, allocT, boxT, storeT, buildSliceT, makeSliceT, appendT, copyT, convV, convC, convT, makeMapT, bndT, sliceT, fnT, bytesOf_nil, bytesOf_one, repeatL_0, repeatL_1, repeatL_2, repeatL_3, repeatL_4, buildZ, partsZ, fillO, aggO, io_add, io_sub, io_mul, io_quo, io_rem, io_shl, io_shr, io_and, io_or, io_xor, io_eql, io_neq, io_lss, io_leq, io_gtr, io_geq, strOp, opS_tmp, opS_const, opV_tmp, opV_const, opS, opV, look_eq, look_ne, Go.Mx.look, fr0, argSlots, seqK_n, seqK_r, seqK_e, seqK, blockK_n, blockK_r, blockK, Fr.known, Fr.newBox, dropBp, retK, retA, resA, mapO, unA, convInt, convStr, strOf, callA, extractA, lenM, cellsA_v, cellsA_agg, cellsA_row, cellsA_sl, cellsA_ptr, cellsA_rp, cellsA_mp, cellsA_fn, okPart_v, okPart_agg, okPart_row, okPart_sl, okPart_ptr, okPart_rp, okPart_mp, okPart_fn, Value.oneCell', fieldA, partA, loadA, loadS, plusS, indexAddrA, indexArrA, nilCheckS, sliceA, sliceArr, fillA, newK, storeS, headK, getV, getB, chkP, mkFr, slotsOf, ptrsOf, boxesOf, firstReg, bindO, makeA, appA, copyA, srcA, srcTy, okPart_u8, cellsA_u8, Cond_iff, orO_some, orO_none, eqT_some, opA_entry, entryT_some, lookT_some, updT_some, delT_some, clearT_some, rangeT_some, nextT_some, makeMapH, opA_lookup, opA_makeMap2, opA_upd, opA_delete, opA_clear, opA_range, opA_next, valS_lookup, ev_draw, drawK, evP_nil, evP_q, evP_s, opAt_some, chkK_eq, sameV_some, sameO_some, allQ_nil, allQ_cons, valG_some, valJ, valQ_none, valQ_some, valS_move, valS_pick, valS_bin, valS_un, valS_extract, valS_field, valS_load, valS_index, valS_indexAddr, valS_fieldAddr, valS_nilCheck, valS_len, valS_max, valS_min, valS_slice, valS_convert, valS_makeFunc, valS_build, valS_buildSlice, rowT, rowF, sz2, ag2, tk2, by2, ze2, Try.underlying2, sz3, ag3, tk3, by3, ze3, Try.underlying3, sz4, ag4, tk4, by4, ze4, Try.underlying4, sz5, ag5, tk5, by5, ze5, Try.underlying5, sz9, ag9, tk9, st9, by9, ze9, Try.underlying9, sz22, ag22, tk22, st22, by22, ze22, Try.underlying22, sz23, ag23, tk23, by23, ze23, Try.underlying23, sz25, ag25, tk25, by25, ze25, Try.underlying25, sz29, ag29, tk29, by29, ze29, of29, Try.underlying29, sz31, ag31, tk31, st31, by31, ze31, Try.underlying31, sz37, ag37, tk37, by37, ze37, Try.underlying37, sz44, ag44, tk44, by44, ze44, Try.underlying44, sz46, ag46, tk46, by46, ze46, of46, Try.underlying46, sz49, ag49, tk49, by49, ze49, Try.underlying49, sz51, ag51, tk51, by51, ze51, of51, Try.underlying51, sz52, ag52, tk52, st52, by52, ze52, Try.underlying52, sz55, ag55, tk55, by55, ze55, of55, Try.underlying55, sz73, ag73, tk73, st73, by73, ze73, Try.underlying73, mo, ok3, ok4, ok5, ok6, ok7, ok8, ok9, ok10, ok11, ok12, ok13, ok14, ok15, ok16, ok17, ok18, ok19, ok20, ok21, ok22, ok23, ok24, ok25, ok26, ok28, ok29, ok30, ok31, ok32, ok33, ok34, ok35, ok36, ok37, ok38, ok39, ok40, ok43, ok44, ok45, ok46, ok47, ok58, ok59, ok65, ok66, ok67, ok68, ok69, ok70, ok72, ok73, ok74, ok75, ok76, ok77, ok78, ok79, ok80, ok81, pl3, pl4, pl5, pl6, pl7, pl8, pl17, pl19, pl22, pl25, pl58, pl74, hlt, hsl, hle, sgC, he, w1, hid, k1, k2]
    simpa using fin
  · obtain ⟨k1, k2⟩ := sl_sub tl hx
    obtain ⟨k3, k4⟩ := sl_sub tl2 hx
    generalize L.flatMap sgC ++ tl = cs at k1 k2 hid
    generalize L.flatMap sgC ++ tl2 = cs2 at k3 k4 hid2
    simp only [sgC] at k1 k3
    simp [ev_skip, ev_seq, ev_cond2, ev_block, ev_exit, ev_ret, ev_region2, ev_loop, loopK, evOps_nil, evOps_cons, opG_none, opG_some, opJ, opU_true, opU_ft, opU_ff, isU_undef, isU_bool, valU_true, valU_false, opK_eq, opA_move, opA_assign, opA_pick, opA_bin, opA_un, opA_extract, opA_field, opA_load, opA_index, opA_indexAddr, opA_fieldAddr, opA_nilCheck, opA_len, opA_call, opA_max, opA_min, opA_alloc, opA_box, opA_store, opA_buildSlice, opA_makeSlice, opA_append, opA_copy, opA_convert, opA_makeMap, opA_slice, opA_makeFunc, opA_build, putO_some, putH_lt, putH_none, putC_lt, putC_none, putU_lt, putU_none, putV_lt, putV_none, condB_true, condB_false, CondP_true, CondP_false, binT_some, binA_int, binA_str, binA_eqb, binA_neb, binA, eqRef, avO_some, avO_none, avOf, pickT_true, pickT_false, pickT, unT, extractT, loadT, nilCheckT, lenT_str, lenT_row, lenT_sl, lenT_nil, lenT_arr, lenT_mp, lenT_nomp, maxT, minT, maxA, minA, fieldT, fieldAddrT, indexT, indexAddrT, allocT, boxT, storeT, buildSliceT, makeSliceT, appendT, copyT, convV, convC, convT, makeMapT, bndT, sliceT, fnT, bytesOf_nil, bytesOf_one, repeatL_0, repeatL_1, repeatL_2, repeatL_3, repeatL_4, buildZ, partsZ, fillO, aggO, io_add, io_sub, io_mul, io_quo, io_rem, io_shl, io_shr, io_and, io_or, io_xor, io_eql, io_neq, io_lss, io_leq, io_gtr, io_geq, strOp, opS_tmp, opS_const, opV_tmp, opV_const, opS, opV, look_eq, look_ne, Go.Mx.look, fr0, argSlots, seqK_n, seqK_r, seqK_e, seqK, blockK_n, blockK_r, blockK, Fr.known, Fr.newBox, dropBp, retK, retA, resA, mapO, unA, convInt, convStr, strOf, callA, extractA, lenM, cellsA_v, cellsA_agg, cellsA_row, cellsA_sl, cellsA_ptr, cellsA_rp, cellsA_mp, cellsA_fn, okPart_v, okPart_agg, okPart_row, okPart_sl, okPart_ptr, okPart_rp, okPart_mp, okPart_fn, Value.oneCell', fieldA, partA, loadA, loadS, plusS, indexAddrA, indexArrA, nilCheckS, sliceA, sliceArr, fillA, newK, storeS, headK, getV, getB, chkP, mkFr, slotsOf, ptrsOf, boxesOf, firstReg, bindO, makeA, appA, copyA, srcA, srcTy, okPart_u8, cellsA_u8, Cond_iff, orO_some, orO_none, eqT_some, opA_entry, entryT_some, lookT_some, updT_some, delT_some, clearT_some, rangeT_some, nextT_some, makeMapH, opA_lookup, opA_makeMap2, opA_upd, opA_delete, opA_clear, opA_range, opA_next, valS_lookup, ev_draw, drawK, evP_nil, evP_q, evP_s, opAt_some, chkK_eq, sameV_some, sameO_some, allQ_nil, allQ_cons, valG_some, valJ, valQ_none, valQ_some, valS_move, valS_pick, valS_bin, valS_un, valS_extract, valS_field, valS_load, valS_index, valS_indexAddr, valS_fieldAddr, valS_nilCheck, valS_len, valS_max, valS_min, valS_slice, valS_convert, valS_makeFunc, valS_build, valS_buildSlice, rowT, rowF, sz2, ag2, tk2, by2, ze2, Try.underlying2, sz3, ag3, tk3, by3, ze3, Try.underlying3, sz4, ag4, tk4, by4, ze4, Try.underlying4, sz5, ag5, tk5, by5, ze5, Try.underlying5, sz9, ag9, tk9, st9, by9, ze9, Try.underlying9, sz22, ag22, tk22, st22, by22, ze22, Try.underlying22, sz23, ag23, tk23, by23, ze23, Try.underlying23, sz25, ag25, tk25, by25, ze25, Try.underlying25, sz29, ag29, tk29, by29, ze29, of29, Try.underlying29, sz31, ag31, tk31, st31, by31, ze31, Try.underlying31, sz37, ag37, tk37, by37, ze37, Try.underlying37, sz44, ag44, tk44, by44, ze44, Try.underlying44, sz46, ag46, tk46, by46, ze46, of46, Try.underlying46, sz49, ag49, tk49, by49, ze49, Try.underlying49, sz51, ag51, tk51, by51, ze51, of51, Try.underlying51, sz52, ag52, tk52, st52, by52, ze52, Try.underlying52, sz55, ag55, tk55, by55, ze55, of55, Try.underlying55, sz73, ag73, tk73, st73, by73, ze73, Try.underlying73, mo, ok3, ok4, ok5, ok6, ok7, ok8, ok9, ok10, ok11, ok12, ok13, ok14, ok15, ok16, ok17, ok18, ok19, ok20, ok21, ok22, ok23, ok24, ok25, ok26, ok28, ok29, ok30, ok31, ok32, ok33, ok34, ok35, ok36, ok37, ok38, ok39, ok40, ok43, ok44, ok45, ok46, ok47, ok58, ok59, ok65, ok66, ok67, ok68, ok69, ok70, ok72, ok73, ok74, ok75, ok76, ok77, ok78, ok79, ok80, ok81, pl3, pl4, pl5, pl6, pl7, pl8, pl17, pl19, pl22, pl25, pl58, pl74, hlt, sgC, he, w1, hid, hid2, k1, k2, k3, k4]
    simpa using fin
theorem strings_sp (l : List ByteArray) (H : Hp) (Q : AV → Hp → Prop) (hl : l.length ≤ 1000) (h : Q (.v (.bool true)) H) : Sp Try.prog 22 [rowU l, rowU l] Q H := by
  refine Sp.body [(4, ⟨[0, 1, 5], [], []⟩)] ⟨[], [], pl22⟩ tb22 mo Try.func22 rfl (Nat.le_of_ble_eq_true rfl) (by kernel_rfl) ?_
  simp [ev_skip, ev_seq, ev_cond2, ev_block, ev_exit, ev_ret, ev_region2, ev_loop, loopK, evOps_nil, evOps_cons, opG_none, opG_some, opJ, opU_true, opU_ft, opU_ff, isU_undef, isU_bool, valU_true, valU_false, opK_eq, opA_move, opA_assign, opA_pick, opA_bin, opA_un, opA_extract, opA_field, opA_load, opA_index, opA_indexAddr, opA_fieldAddr, opA_nilCheck, opA_len, opA_call, opA_max, opA_min, opA_alloc, opA_box, opA_store, opA_buildSlice, opA_makeSlice, opA_append, opA_copy, opA_convert, opA_makeMap, opA_slice, opA_makeFunc, opA_build, putO_some, putH_lt, putH_none, putC_lt, putC_none, putU_lt, putU_none, putV_lt, putV_none, condB_true, condB_false, CondP_true, CondP_false, binT_some, binA_int, binA_str, binA_eqb, binA_neb, binA, eqRef, avO_some, avO_none, avOf, pickT_true, pickT_false, pickT, unT, extractT, loadT, nilCheckT, lenT_str, lenT_row, lenT_sl, lenT_nil, lenT_arr, lenT_mp, lenT_nomp, maxT, minT, maxA, minA, fieldT, fieldAddrT, indexT, indexAddrT, allocT, boxT, storeT, buildSliceT, makeSliceT, appendT, copyT, convV, convC, convT, makeMapT, bndT, sliceT, fnT, bytesOf_nil, bytesOf_one, repeatL_0, repeatL_1, repeatL_2, repeatL_3, repeatL_4, buildZ, partsZ, fillO, aggO, io_add, io_sub, io_mul, io_quo, io_rem, io_shl, io_shr, io_and, io_or, io_xor, io_eql, io_neq, io_lss, io_leq, io_gtr, io_geq, strOp, opS_tmp, opS_const, opV_tmp, opV_const, opS, opV, look_eq, look_ne, Go.Mx.look, fr0, argSlots, seqK_n, seqK_r, seqK_e, seqK, blockK_n, blockK_r, blockK, Fr.known, Fr.newBox, dropBp, retK, retA, resA, mapO, unA, convInt, convStr, strOf, callA, extractA, lenM, cellsA_v, cellsA_agg, cellsA_row, cellsA_sl, cellsA_ptr, cellsA_rp, cellsA_mp, cellsA_fn, okPart_v, okPart_agg, okPart_row, okPart_sl, okPart_ptr, okPart_rp, okPart_mp, okPart_fn, Value.oneCell', fieldA, partA, loadA, loadS, plusS, indexAddrA, indexArrA, nilCheckS, sliceA, sliceArr, fillA, newK, storeS, headK, getV, getB, chkP, mkFr, slotsOf, ptrsOf, boxesOf, firstReg, bindO, makeA, appA, copyA, srcA, srcTy, okPart_u8, cellsA_u8, Cond_iff, orO_some, orO_none, eqT_some, opA_entry, entryT_some, lookT_some, updT_some, delT_some, clearT_some, rangeT_some, nextT_some, makeMapH, opA_lookup, opA_makeMap2, opA_upd, opA_delete, opA_clear, opA_range, opA_next, valS_lookup, ev_draw, drawK, evP_nil, evP_q, evP_s, opAt_some, chkK_eq, sameV_some, sameO_some, allQ_nil, allQ_cons, valG_some, valJ, valQ_none, valQ_some, valS_move, valS_pick, valS_bin, valS_un, valS_extract, valS_field, valS_load, valS_index, valS_indexAddr, valS_fieldAddr, valS_nilCheck, valS_len, valS_max, valS_min, valS_slice, valS_convert, valS_makeFunc, valS_build, valS_buildSlice, rowT, rowF, sz2, ag2, tk2, by2, ze2, Try.underlying2, sz3, ag3, tk3, by3, ze3, Try.underlying3, sz4, ag4, tk4, by4, ze4, Try.underlying4, sz5, ag5, tk5, by5, ze5, Try.underlying5, sz9, ag9, tk9, st9, by9, ze9, Try.underlying9, sz22, ag22, tk22, st22, by22, ze22, Try.underlying22, sz23, ag23, tk23, by23, ze23, Try.underlying23, sz25, ag25, tk25, by25, ze25, Try.underlying25, sz29, ag29, tk29, by29, ze29, of29, Try.underlying29, sz31, ag31, tk31, st31, by31, ze31, Try.underlying31, sz37, ag37, tk37, by37, ze37, Try.underlying37, sz44, ag44, tk44, by44, ze44, Try.underlying44, sz46, ag46, tk46, by46, ze46, of46, Try.underlying46, sz49, ag49, tk49, by49, ze49, Try.underlying49, sz51, ag51, tk51, by51, ze51, of51, Try.underlying51, sz52, ag52, tk52, st52, by52, ze52, Try.underlying52, sz55, ag55, tk55, by55, ze55, of55, Try.underlying55, sz73, ag73, tk73, st73, by73, ze73, Try.underlying73, mo, ok3, ok4, ok5, ok6, ok7, ok8, ok9, ok10, ok11, ok12, ok13, ok14, ok15, ok16, ok17, ok18, ok19, ok20, ok21, ok22, ok23, ok24, ok25, ok26, ok28, ok29, ok30, ok31, ok32, ok33, ok34, ok35, ok36, ok37, ok38, ok39, ok40, ok43, ok44, ok45, ok46, ok47, ok58, ok59, ok65, ok66, ok67, ok68, ok69, ok70, ok72, ok73, ok74, ok75, ok76, ok77, ok78, ok79, ok80, ok81, pl3, pl4, pl5, pl6, pl7, pl8, pl17, pl19, pl22, pl25, pl58, pl74, rowU]
  refine LoopC.intro (fun n xs _ H2 => ∃ i : Nat, i ≤ l.length ∧ n = l.length - i ∧ xs = [rowU l, rowU l, .v (.int .i64 i)] ∧ H2 = H) l.length ⟨0, by omega, by omega, by simp [rowU], rfl⟩ ?_
  rintro n xs bs H2 ⟨i, hi, rfl, rfl, rfl⟩
  simp [ev_skip, ev_seq, ev_cond2, ev_block, ev_exit, ev_ret, ev_region2, ev_loop, loopK, evOps_nil, evOps_cons, opG_none, opG_some, opJ, opU_true, opU_ft, opU_ff, isU_undef, isU_bool, valU_true, valU_false, opK_eq, opA_move, opA_assign, opA_pick, opA_bin, opA_un, opA_extract, opA_field, opA_load, opA_index, opA_indexAddr, opA_fieldAddr, opA_nilCheck, opA_len, opA_call, opA_max, opA_min, opA_alloc, opA_box, opA_store, opA_buildSlice, opA_makeSlice, opA_append, opA_copy, opA_convert, opA_makeMap, opA_slice, opA_makeFunc, opA_build, putO_some, putH_lt, putH_none, putC_lt, putC_none, putU_lt, putU_none, putV_lt, putV_none, condB_true, condB_false, CondP_true, CondP_false, binT_some, binA_int, binA_str, binA_eqb, binA_neb, binA, eqRef, avO_some, avO_none, avOf, pickT_true, pickT_false, pickT, unT, extractT, loadT, nilCheckT, lenT_str, lenT_row, lenT_sl, lenT_nil, lenT_arr, lenT_mp, lenT_nomp, maxT, minT, maxA, minA, fieldT, fieldAddrT, indexT, indexAddrT, allocT, boxT, storeT, buildSliceT, makeSliceT, appendT, copyT, convV, convC, convT, makeMapT, bndT, sliceT, fnT, bytesOf_nil, bytesOf_one, repeatL_0, repeatL_1, repeatL_2, repeatL_3, repeatL_4, buildZ, partsZ, fillO, aggO, io_add, io_sub, io_mul, io_quo, io_rem, io_shl, io_shr, io_and, io_or, io_xor, io_eql, io_neq, io_lss, io_leq, io_gtr, io_geq, strOp, opS_tmp, opS_const, opV_tmp, opV_const, opS, opV, look_eq, look_ne, Go.Mx.look, fr0, argSlots, seqK_n, seqK_r, seqK_e, seqK, blockK_n, blockK_r, blockK, Fr.known, Fr.newBox, dropBp, retK, retA, resA, mapO, unA, convInt, convStr, strOf, callA, extractA, lenM, cellsA_v, cellsA_agg, cellsA_row, cellsA_sl, cellsA_ptr, cellsA_rp, cellsA_mp, cellsA_fn, okPart_v, okPart_agg, okPart_row, okPart_sl, okPart_ptr, okPart_rp, okPart_mp, okPart_fn, Value.oneCell', fieldA, partA, loadA, loadS, plusS, indexAddrA, indexArrA, nilCheckS, sliceA, sliceArr, fillA, newK, storeS, headK, getV, getB, chkP, mkFr, slotsOf, ptrsOf, boxesOf, firstReg, bindO, makeA, appA, copyA, srcA, srcTy, okPart_u8, cellsA_u8, Cond_iff, orO_some, orO_none, eqT_some, opA_entry, entryT_some, lookT_some, updT_some, delT_some, clearT_some, rangeT_some, nextT_some, makeMapH, opA_lookup, opA_makeMap2, opA_upd, opA_delete, opA_clear, opA_range, opA_next, valS_lookup, ev_draw, drawK, evP_nil, evP_q, evP_s, opAt_some, chkK_eq, sameV_some, sameO_some, allQ_nil, allQ_cons, valG_some, valJ, valQ_none, valQ_some, valS_move, valS_pick, valS_bin, valS_un, valS_extract, valS_field, valS_load, valS_index, valS_indexAddr, valS_fieldAddr, valS_nilCheck, valS_len, valS_max, valS_min, valS_slice, valS_convert, valS_makeFunc, valS_build, valS_buildSlice, rowT, rowF, sz2, ag2, tk2, by2, ze2, Try.underlying2, sz3, ag3, tk3, by3, ze3, Try.underlying3, sz4, ag4, tk4, by4, ze4, Try.underlying4, sz5, ag5, tk5, by5, ze5, Try.underlying5, sz9, ag9, tk9, st9, by9, ze9, Try.underlying9, sz22, ag22, tk22, st22, by22, ze22, Try.underlying22, sz23, ag23, tk23, by23, ze23, Try.underlying23, sz25, ag25, tk25, by25, ze25, Try.underlying25, sz29, ag29, tk29, by29, ze29, of29, Try.underlying29, sz31, ag31, tk31, st31, by31, ze31, Try.underlying31, sz37, ag37, tk37, by37, ze37, Try.underlying37, sz44, ag44, tk44, by44, ze44, Try.underlying44, sz46, ag46, tk46, by46, ze46, of46, Try.underlying46, sz49, ag49, tk49, by49, ze49, Try.underlying49, sz51, ag51, tk51, by51, ze51, of51, Try.underlying51, sz52, ag52, tk52, st52, by52, ze52, Try.underlying52, sz55, ag55, tk55, by55, ze55, of55, Try.underlying55, sz73, ag73, tk73, st73, by73, ze73, Try.underlying73, mo, ok3, ok4, ok5, ok6, ok7, ok8, ok9, ok10, ok11, ok12, ok13, ok14, ok15, ok16, ok17, ok18, ok19, ok20, ok21, ok22, ok23, ok24, ok25, ok26, ok28, ok29, ok30, ok31, ok32, ok33, ok34, ok35, ok36, ok37, ok38, ok39, ok40, ok43, ok44, ok45, ok46, ok47, ok58, ok59, ok65, ok66, ok67, ok68, ok69, ok70, ok72, ok73, ok74, ok75, ok76, ok77, ok78, ok79, ok80, ok81, pl3, pl4, pl5, pl6, pl7, pl8, pl17, pl19, pl22, pl25, pl58, pl74, rowU]
  refine ⟨fun hlt => ?_, fun hge => by simpa [ev_skip, ev_seq, ev_cond2, ev_block, ev_exit, ev_ret, ev_region2, ev_loop, loopK, evOps_nil, evOps_cons, opG_none, opG_some, opJ, opU_true, opU_ft, opU_ff, isU_undef, isU_bool, valU_true, valU_false, opK_eq, opA_move, opA_assign, opA_pick, opA_bin, opA_un, opA_extract, opA_field, opA_load, opA_index, opA_indexAddr, opA_fieldAddr, opA_nilCheck, opA_len, opA_call, opA_max, opA_min, opA_alloc, opA_box, opA_store, opA_buildSlice, opA_makeSlice, opA_append, opA_copy, opA_convert, opA_makeMap, opA_slice, opA_makeFunc, opA_build, putO_some, putH_lt, putH_none, putC_lt, putC_none, putU_lt, putU_none, putV_lt, putV_none, condB_true, condB_false, CondP_true, CondP_false, binT_some, binA_int, binA_str, binA_eqb, binA_neb, binA, eqRef, avO_some, avO_none, avOf, pickT_true, pickT_false, pickT, unT, extractT, loadT, nilCheckT, lenT_str, lenT_row, lenT_sl, lenT_nil, lenT_arr, lenT_mp, lenT_nomp, maxT, minT, maxA, minA, fieldT, fieldAddrT, indexT, indexAddrT, allocT, boxT, storeT, buildSliceT, makeSliceT, appendT, copyT, convV, convC, convT, makeMapT, bndT, sliceT, fnT, bytesOf_nil, bytesOf_one, repeatL_0, repeatL_1, repeatL_2, repeatL_3, repeatL_4, buildZ, partsZ, fillO, aggO, io_add, io_sub, io_mul, io_quo, io_rem, io_shl, io_shr, io_and, io_or, io_xor, io_eql, io_neq, io_lss, io_leq, io_gtr, io_geq, strOp, opS_tmp, opS_const, opV_tmp, opV_const, opS, opV, look_eq, look_ne, Go.Mx.look, fr0, argSlots, seqK_n, seqK_r, seqK_e, seqK, blockK_n, blockK_r, blockK, Fr.known, Fr.newBox, dropBp, retK, retA, resA, mapO, unA, convInt, convStr, strOf, callA, extractA, lenM, cellsA_v, cellsA_agg, cellsA_row, cellsA_sl, cellsA_ptr, cellsA_rp, cellsA_mp, cellsA_fn, okPart_v, okPart_agg, okPart_row, okPart_sl, okPart_ptr, okPart_rp, okPart_mp, okPart_fn, Value.oneCell', fieldA, partA, loadA, loadS, plusS, indexAddrA, indexArrA, nilCheckS, sliceA, sliceArr, fillA, newK, storeS, headK, getV, getB, chkP, mkFr, slotsOf, ptrsOf, boxesOf, firstReg, bindO, makeA, appA, copyA, srcA, srcTy, okPart_u8, cellsA_u8, Cond_iff, orO_some, orO_none, eqT_some, opA_entry, entryT_some, lookT_some, updT_some, delT_some, clearT_some, rangeT_some, nextT_some, makeMapH, opA_lookup, opA_makeMap2, opA_upd, opA_delete, opA_clear, opA_range, opA_next, valS_lookup, ev_draw, drawK, evP_nil, evP_q, evP_s, opAt_some, chkK_eq, sameV_some, sameO_some, allQ_nil, allQ_cons, valG_some, valJ, valQ_none, valQ_some, valS_move, valS_pick, valS_bin, valS_un, valS_extract, valS_field, valS_load, valS_index, valS_indexAddr, valS_fieldAddr, valS_nilCheck, valS_len, valS_max, valS_min, valS_slice, valS_convert, valS_makeFunc, valS_build, valS_buildSlice, rowT, rowF, sz2, ag2, tk2, by2, ze2, Try.underlying2, sz3, ag3, tk3, by3, ze3, Try.underlying3, sz4, ag4, tk4, by4, ze4, Try.underlying4, sz5, ag5, tk5, by5, ze5, Try.underlying5, sz9, ag9, tk9, st9, by9, ze9, Try.underlying9, sz22, ag22, tk22, st22, by22, ze22, Try.underlying22, sz23, ag23, tk23, by23, ze23, Try.underlying23, sz25, ag25, tk25, by25, ze25, Try.underlying25, sz29, ag29, tk29, by29, ze29, of29, Try.underlying29, sz31, ag31, tk31, st31, by31, ze31, Try.underlying31, sz37, ag37, tk37, by37, ze37, Try.underlying37, sz44, ag44, tk44, by44, ze44, Try.underlying44, sz46, ag46, tk46, by46, ze46, of46, Try.underlying46, sz49, ag49, tk49, by49, ze49, Try.underlying49, sz51, ag51, tk51, by51, ze51, of51, Try.underlying51, sz52, ag52, tk52, st52, by52, ze52, Try.underlying52, sz55, ag55, tk55, by55, ze55, of55, Try.underlying55, sz73, ag73, tk73, st73, by73, ze73, Try.underlying73, mo, ok3, ok4, ok5, ok6, ok7, ok8, ok9, ok10, ok11, ok12, ok13, ok14, ok15, ok16, ok17, ok18, ok19, ok20, ok21, ok22, ok23, ok24, ok25, ok26, ok28, ok29, ok30, ok31, ok32, ok33, ok34, ok35, ok36, ok37, ok38, ok39, ok40, ok43, ok44, ok45, ok46, ok47, ok58, ok59, ok65, ok66, ok67, ok68, ok69, ok70, ok72, ok73, ok74, ok75, ok76, ok77, ok78, ok79, ok80, ok81, pl3, pl4, pl5, pl6, pl7, pl8, pl17, pl19, pl22, pl25, pl58, pl74] using h⟩
  have w1 : IntKind.i64.wrap ((i : Int) + 1) = (i : Int) + 1 := wr_i64 (by omega)
  simp [ev_skip, ev_seq, ev_cond2, ev_block, ev_exit, ev_ret, ev_region2, ev_loop, loopK, evOps_nil, evOps_cons, opG_none, opG_some, opJ, opU_true, opU_ft, opU_ff, isU_undef, isU_bool, valU_true, valU_false, opK_eq, opA_move, opA_assign, opA_pick, opA_bin, opA_un, opA_extract, opA_field, opA_load, opA_index, opA_indexAddr, opA_fieldAddr, opA_nilCheck, opA_len, opA_call, opA_max, opA_min, opA_alloc, opA_box, opA_store, opA_buildSlice, opA_makeSlice, opA_append, opA_copy, opA_convert, opA_makeMap, opA_slice, opA_makeFunc, opA_build, putO_some, putH_lt, putH_none, putC_lt, putC_none, putU_lt, putU_none, putV_lt, putV_none, condB_true, condB_false, CondP_true, CondP_false, binT_some, binA_int, binA_str, binA_eqb, binA_neb, binA, eqRef, avO_some, avO_none, avOf, pickT_true, pickT_false, pickT, unT, extractT, loadT, nilCheckT, lenT_str, lenT_row, lenT_sl, lenT_nil, lenT_arr, lenT_mp, lenT_nomp, maxT, minT, maxA, minA, fieldT, fieldAddrT, indexT, indexAddrT, allocT, boxT, storeT, buildSliceT, makeSliceT, appendT, copyT, convV, convC, convT, makeMapT, bndT, sliceT, fnT, bytesOf_nil, bytesOf_one, repeatL_0, repeatL_1, repeatL_2, repeatL_3, repeatL_4, buildZ, partsZ, fillO, aggO, io_add, io_sub, io_mul, io_quo, io_rem, io_shl, io_shr, io_and, io_or, io_xor, io_eql, io_neq, io_lss, io_leq, io_gtr, io_geq, strOp, opS_tmp, opS_const, opV_tmp, opV_const, opS, opV, look_eq, look_ne, Go.Mx.look, fr0, argSlots, seqK_n, seqK_r, seqK_e, seqK, blockK_n, blockK_r, blockK, Fr.known, Fr.newBox, dropBp, retK, retA, resA, mapO, unA, convInt, convStr, strOf, callA, extractA, lenM, cellsA_v, cellsA_agg, cellsA_row, cellsA_sl, cellsA_ptr, cellsA_rp, cellsA_mp, cellsA_fn, okPart_v, okPart_agg, okPart_row, okPart_sl, okPart_ptr, okPart_rp, okPart_mp, okPart_fn, Value.oneCell', fieldA, partA, loadA, loadS, plusS, indexAddrA, indexArrA, nilCheckS, sliceA, sliceArr, fillA, newK, storeS, headK, getV, getB, chkP, mkFr, slotsOf, ptrsOf, boxesOf, firstReg, bindO, makeA, appA, copyA, srcA, srcTy, okPart_u8, cellsA_u8, Cond_iff, orO_some, orO_none, eqT_some, opA_entry, entryT_some, lookT_some, updT_some, delT_some, clearT_some, rangeT_some, nextT_some, makeMapH, opA_lookup, opA_makeMap2, opA_upd, opA_delete, opA_clear, opA_range, opA_next, valS_lookup, ev_draw, drawK, evP_nil, evP_q, evP_s, opAt_some, chkK_eq, sameV_some, sameO_some, allQ_nil, allQ_cons, valG_some, valJ, valQ_none, valQ_some, valS_move, valS_pick, valS_bin, valS_un, valS_extract, valS_field, valS_load, valS_index, valS_indexAddr, valS_fieldAddr, valS_nilCheck, valS_len, valS_max, valS_min, valS_slice, valS_convert, valS_makeFunc, valS_build, valS_buildSlice, rowT, rowF, sz2, ag2, tk2, by2, ze2, Try.underlying2, sz3, ag3, tk3, by3, ze3, Try.underlying3, sz4, ag4, tk4, by4, ze4, Try.underlying4, sz5, ag5, tk5, by5, ze5, Try.underlying5, sz9, ag9, tk9, st9, by9, ze9, Try.underlying9, sz22, ag22, tk22, st22, by22, ze22, Try.underlying22, sz23, ag23, tk23, by23, ze23, Try.underlying23, sz25, ag25, tk25, by25, ze25, Try.underlying25, sz29, ag29, tk29, by29, ze29, of29, Try.underlying29, sz31, ag31, tk31, st31, by31, ze31, Try.underlying31, sz37, ag37, tk37, by37, ze37, Try.underlying37, sz44, ag44, tk44, by44, ze44, Try.underlying44, sz46, ag46, tk46, by46, ze46, of46, Try.underlying46, sz49, ag49, tk49, by49, ze49, Try.underlying49, sz51, ag51, tk51, by51, ze51, of51, Try.underlying51, sz52, ag52, tk52, st52, by52, ze52, Try.underlying52, sz55, ag55, tk55, by55, ze55, of55, Try.underlying55, sz73, ag73, tk73, st73, by73, ze73, Try.underlying73, mo, ok3, ok4, ok5, ok6, ok7, ok8, ok9, ok10, ok11, ok12, ok13, ok14, ok15, ok16, ok17, ok18, ok19, ok20, ok21, ok22, ok23, ok24, ok25, ok26, ok28, ok29, ok30, ok31, ok32, ok33, ok34, ok35, ok36, ok37, ok38, ok39, ok40, ok43, ok44, ok45, ok46, ok47, ok58, ok59, ok65, ok66, ok67, ok68, ok69, ok70, ok72, ok73, ok74, ok75, ok76, ok77, ok78, ok79, ok80, ok81, pl3, pl4, pl5, pl6, pl7, pl8, pl17, pl19, pl22, pl25, pl58, pl74, hlt, w1]
  exact ⟨l.length - (i + 1), by omega, i + 1, by omega, rfl, by simp [rowU]⟩
end Go.Proofs.Ytohmgnbndhojpaa
