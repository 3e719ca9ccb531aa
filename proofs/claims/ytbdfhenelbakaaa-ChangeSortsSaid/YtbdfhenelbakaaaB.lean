import Derived.Test.YtbdfhenelbakaaaA
namespace Go.Proofs.Ytbdfhenelbakaaa
open Go.Mx
set_option linter.unusedVariables false
set_option linter.unusedSimpArgs false

/-! ### The order in which a board's entries are told -/
def cmpStr (a b : ByteArray) : Int := if txl a < txl b then -1 else if txl b < txl a then 1 else 0
def cmpE (x y : En) : Int := if cmpStr x.ty y.ty ≠ 0 then cmpStr x.ty y.ty else cmpStr x.ky y.ky
def encE (e : En) : List Value := [.string e.ty, .string e.ky, .string e.id]
theorem nan_sp (s : ByteArray) (H : Hp) (Q : AV → Hp → Prop) (h : Q (.v (.bool false)) H) : Sp Try.prog 38 [.v (.string s)] Q H := by
  refine Sp.body [] ⟨[], [], []⟩ [] mo Try.func38 rfl (Nat.le_of_ble_eq_true rfl) (by kernel_rfl) ?_
  simp [ev_seq, ev_ret, ev_region2, evOps_nil, evOps_cons, opG_none, opA_move, opA_assign, opA_bin, putO_some, putH_lt, binT_some, binA, avO_some, strOp, opS, opV, Go.Mx.look, fr0, argSlots, seqK, retK, retA, resA, mapO, orO_some, eqT_some, tk9]
  exact h
theorem cmp_sp (a b : ByteArray) (H : Hp) (Q : AV → Hp → Prop) (h : Q (.v (.int .i64 (cmpStr a b))) H) : Sp Try.prog 32 [.v (.string a), .v (.string b)] Q H := by
  refine Sp.body [] ⟨[], [], []⟩ [] mo Try.func32 rfl (Nat.le_of_ble_eq_true rfl) (by kernel_rfl) ?_
  unfold cmpStr txl at h
  simp [ev_seq, ev_region2, evOps_nil, evOps_cons, opG_none, opA_move, opA_assign, opA_call, putO_some, putH_lt, opS, opV, Go.Mx.look, fr0, argSlots, seqK, mapO, callA, ok38]
  refine nan_sp a H _ ?_
  simp [ev_seq, ev_region2, evOps_nil, evOps_cons, opG_none, opA_move, opA_assign, opA_call, putO_some, putH_lt, putC_lt, opS, opV, Go.Mx.look, seqK, mapO, callA, ok38]
  refine nan_sp b H _ ?_
  simp [ev_skip, ev_seq, ev_cond2, ev_ret, ev_region2, evOps_nil, evOps_cons, opG_none, opA_move, opA_assign, opA_bin, putO_some, putH_lt, putC_lt, condB_false, binT_some, binA, avO_some, strOp, opS, opV, Go.Mx.look, seqK, Fr.known, retK, retA, resA, mapO, orO_some, eqT_some, tk9, Go.Proofs.bytesLess_eq]
  refine ⟨fun e => by simpa [e] using h, fun e => ⟨fun e2 e3 => ?_, fun e2 => ?_⟩⟩
  · have h1 : ¬ a.toList < b.toList := List.not_lt.2 e
    have h2 : b.toList < a.toList := (lt_tri (fun e4 : a = b => e3 (by rw [e4]))).resolve_left h1
    simpa [h1, h2] using h
  · have e4 : a = b := txl_inj.1 (e2 e)
    subst e4
    simpa [List.lt_irrefl] using h
theorem or_sp (a b : Int) (H : Hp) (Q : AV → Hp → Prop) (h : Q (.v (.int .i64 (if a ≠ 0 then a else b))) H) : Sp Try.prog 31 [.row true 2 [.v (.int .i64 a), .v (.int .i64 b)]] Q H := by
  refine Sp.body [(3, ⟨[3, 6, 7, 8], [], []⟩)] ⟨[], [], []⟩ [] mo Try.func31 rfl (Nat.le_of_ble_eq_true rfl) (by kernel_rfl) ?_
  simp [ev_seq, ev_block, ev_region2, ev_loop, loopK, evOps_nil, evOps_cons, opG_none, opA_move, opA_assign, opA_len, putO_some, putH_lt, lenT_row, opS, opV, Go.Mx.look, fr0, argSlots, seqK, mapO, headK, getV, getB, chkP, firstReg, Try.underlying62]
  refine LoopC.intro (fun n xs _ H2 => ∃ i : Nat, i ≤ 2 ∧ n = 2 - i ∧ (0 < i → a = 0) ∧ (1 < i → b = 0) ∧ xs = [.v (.int .i64 0), .row true 2 [.v (.int .i64 a), .v (.int .i64 b)], .v (.int .i64 2), .v (.int .i64 i)] ∧ H2 = H) 2
    ⟨0, by omega, by omega, by omega, by omega, by simp, rfl⟩ ?_
  rintro n xs bs H2 ⟨i, hi, rfl, ha, hb, rfl, rfl⟩
  have hcase : i = 0 ∨ i = 1 ∨ i = 2 := by omega
  have w1 : IntKind.i64.wrap 1 = 1 := wr_i64 (by omega)
  have w2 : IntKind.i64.wrap 2 = 2 := wr_i64 (by omega)
  have step : ∀ i : Nat, i < 2 → (0 < i + 1 → a = 0) → (1 < i + 1 → b = 0) → ∃ m, m < 2 - i ∧ ∃ j : Nat, j ≤ 2 ∧ m = 2 - j ∧ (0 < j → a = 0) ∧ (1 < j → b = 0) ∧
      [AV.v (.int .i64 0), .row true 2 [.v (.int .i64 a), .v (.int .i64 b)], .v (.int .i64 2), .v (.int .i64 ((i + 1 : Nat) : Int))] = [.v (.int .i64 0), .row true 2 [.v (.int .i64 a), .v (.int .i64 b)], .v (.int .i64 2), .v (.int .i64 j)] ∧ H2 = H2 :=
    fun i hi h1 h2 => ⟨2 - (i + 1), by omega, i + 1, by omega, rfl, h1, h2, rfl, rfl⟩
  rcases hcase with rfl | rfl | rfl
  · simp [ev_skip, ev_seq, ev_cond2, ev_block, ev_ret, ev_region2, evOps_nil, evOps_cons, opG_none, opA_move, opA_assign, opA_bin, opA_load, opA_indexAddr, putO_some, putH_lt, condB_true, binT_some, binA, avO_some, loadT, indexAddrT, io_add, io_neq, io_lss, opS, opV, Go.Mx.look, seqK, blockK, Fr.known, retK, retA, resA, mapO, partA, loadA, loadS, indexAddrA, headK, getV, getB, chkP, mkFr, slotsOf, ptrsOf, boxesOf, orO_some, eqT_some, sz3, ag3, tk3, Try.underlying62, w1]
    refine ⟨fun e => by simpa [e] using h, fun e => ?_⟩
    simpa using step 0 (by omega) (fun _ => e) (by omega)
  · have e0 := ha (by omega)
    subst e0
    simp [ev_skip, ev_seq, ev_cond2, ev_block, ev_ret, ev_region2, evOps_nil, evOps_cons, opG_none, opA_move, opA_assign, opA_bin, opA_load, opA_indexAddr, putO_some, putH_lt, condB_true, binT_some, binA, avO_some, loadT, indexAddrT, io_add, io_neq, io_lss, opS, opV, Go.Mx.look, seqK, blockK, Fr.known, retK, retA, resA, mapO, partA, loadA, loadS, indexAddrA, headK, getV, getB, chkP, mkFr, slotsOf, ptrsOf, boxesOf, orO_some, eqT_some, sz3, ag3, tk3, Try.underlying62, w2]
    refine ⟨fun e => by simpa [e] using h, fun e => ?_⟩
    simpa using step 1 (by omega) (fun _ => rfl) (fun _ => e)
  · have e0 := ha (by omega)
    have e1 := hb (by omega)
    subst e0 e1
    simp [ev_seq, ev_cond2, ev_exit, ev_ret, ev_region2, evOps_nil, evOps_cons, opG_none, opA_move, opA_assign, opA_bin, putO_some, putH_lt, condB_false, binT_some, binA, avO_some, io_lss, opS, opV, Go.Mx.look, seqK, blockK, Fr.known, retK, retA, resA, mapO, mkFr, slotsOf, ptrsOf, boxesOf, orO_some, eqT_some, tk3]
    simpa using h
theorem sortcmp_sp (x y : En) (H : Hp) (Q : AV → Hp → Prop) (h : Q (.v (.int .i64 (cmpE x y))) H) : Sp Try.prog 30 [.agg (enC x), .agg (enC y)] Q H := by
  refine Sp.body [] ⟨[2, 3], [], pl30⟩ tb30 mo Try.func30 rfl (Nat.le_of_ble_eq_true rfl) (by kernel_rfl) ?_
  simp [ev_seq, ev_region2, evOps_nil, evOps_cons, opG_none, opA_assign, opA_load, opA_fieldAddr, opA_call, opA_box, putO_some, putH_lt, loadT, fieldAddrT, boxT, opS, opV, Go.Mx.look, fr0, argSlots, seqK, Fr.newBox, dropBp, mapO, callA, cellsA_agg, okPart_agg, partA, loadS, plusS, newK, ev_draw, drawK, evP_q, evP_s, opAt_some, sz9, ag9, Try.underlying32, ok32, pl30, enC]
  refine cmp_sp _ _ _ _ ?_
  simp [opG_none, opA_call, putC_lt, loadT, fieldAddrT, opS, opV, Go.Mx.look, mapO, callA, partA, loadS, plusS, evP_s, opAt_some, chkK_eq, sameV_some, sameO_some, allQ_nil, allQ_cons, valQ_none, valS_load, valS_fieldAddr, sz9, ag9, Try.underlying32, ok32]
  refine cmp_sp _ _ _ _ ?_
  simp [opG_none, opA_call, opA_buildSlice, putH_lt, putC_lt, buildSliceT, opS, opV, Go.Mx.look, mapO, callA, cellsA_v, okPart_v, Value.oneCell', fillA, bindO, evP_q, evP_s, opAt_some, chkK_eq, allQ_nil, sz3, ze3, Try.underlying62, ok31]
  refine or_sp _ _ _ _ ?_
  unfold cmpE at h
  simp [ev_ret, opG_none, opA_assign, putO_some, putH_lt, putC_lt, opS, opV, Go.Mx.look, seqK, retK, retA, resA, mapO, evP_nil, evP_s, opAt_some, chkK_eq, allQ_nil]
  simpa using h
theorem cmpStr_lt {a b : ByteArray} : cmpStr a b < 0 ↔ txl a < txl b := by
  unfold cmpStr; split
  · simp [*]
  · split <;> simp [*]
theorem cmpStr_eq {a b : ByteArray} : cmpStr a b = 0 ↔ a = b := by
  unfold cmpStr; split
  · rename_i h; simp; rintro rfl; exact List.lt_irrefl _ h
  · rename_i h; split
    · rename_i h2; simp; rintro rfl; exact h h2
    · rename_i h2
      simp
      exact Classical.byContradiction (fun hne => by rcases lt_tri hne with h3 | h3; exact h h3; exact h2 h3)
theorem nahead {x y : En} : aheadE x y = false ↔ keyE x = keyE y ∨ aheadE y x = true := by
  constructor
  · intro h
    by_cases hl : likeE x y = true
    · exact .inl (like_iff.1 hl)
    · exact .inr ((ahead_total (by simpa using hl)).resolve_left (by rw [h]; simp))
  · rintro (h | h)
    · have h2 := like_iff.2 h
      cases ha : aheadE x y with
      | false => rfl
      | true => rw [ahead_like ha] at h2; simp at h2
    · exact ahead_asym h
theorem ahead_key {x y z : En} (h : keyE x = keyE y) : aheadE x z = aheadE y z ∧ aheadE z x = aheadE z y := by
  obtain ⟨h1, h2⟩ := Prod.ext_iff.1 h
  simp only [keyE] at h1 h2
  unfold aheadE
  rw [h1, h2]; exact ⟨rfl, rfl⟩
theorem Srt.nodup {L : List En} (h : Srt L) : L.Nodup := List.nodup_iff_pairwise_ne.2 (h.imp (fun {a b} hab e => by subst e; rw [ahead_irrefl] at hab; simp at hab))
/-! ### Boards -/
theorem laid : laidOutB Try.prog = true := by kernel_rfl
theorem agg47 : AggKey Try.prog 47 := AggKey.of laid (Nat.le_of_ble_eq_true (by kernel_rfl)) (Nat.le_of_ble_eq_true (by kernel_rfl)) (by kernel_rfl) (by kernel_rfl) (by kernel_rfl)
theorem good47 (k : Ky) (h1 : k.1.size ≤ 140737488351232) (h2 : k.2.size ≤ 140737488351232) : KGood Try.prog 47 (keyV k) := by
  have h := KGood.struct agg47 Try.underlying47 (by kernel_rfl) (by kernel_rfl) (by kernel_rfl) (us := [.string k.1, .string k.2]) (by kernel_rfl) (fun i f hf => by
    match i, hf with
    | 0, hf => simp at hf; subst hf; exact ⟨rfl, by kernel_rfl, _, rfl, PlainAt.str Try.underlying9 (by simp only [maxLen]; omega)⟩
    | 1, hf => simp at hf; subst hf; exact ⟨rfl, by kernel_rfl, _, rfl, PlainAt.str Try.underlying9 (by simp only [maxLen]; omega)⟩
    | i + 2, hf => simp at hf)
  exact h
theorem goodE (e : En) (h : FewE e) : KGood Try.prog 47 (keyV (keyE e)) := good47 _ (by show e.ty.size ≤ _; unfold FewE at h; omega) (by show e.ky.size ≤ _; unfold FewE at h; omega)
def idV (e : En) : AV := .v (.string e.id)
def fA (L : List En) : AV → Option AV
  | .agg [.v (.string t), .v (.string k)] => (fK L (t, k)).map idV
  | _ => none
theorem fA_key (L : List En) (k : Ky) : fA L (keyV k) = (fK L k).map idV := rfl
theorem keyV_inj {k l : Ky} (h : keyV k = keyV l) : k = l := by
  simp [keyV] at h
  exact Prod.ext h.1 h.2
theorem fA_some {L : List En} (h : Srt L) {k v : AV} (hf : fA L k = some v) : ∃ s ∈ L, k = keyV (keyE s) ∧ v = idV s := by
  unfold fA at hf
  split at hf
  · rename_i u t
    rw [Option.map_eq_some_iff] at hf
    obtain ⟨s, h1, h2⟩ := hf
    obtain ⟨h3, h4⟩ := (fK_iff h).1 h1
    exact ⟨s, h3, by rw [h4]; rfl, h2.symm⟩
  · simp at hf
open Classical in
theorem fA_ext {L M : List En} {k : Ky} {o : Option En} (h : ∀ k', fK M k' = if k' = k then o else fK L k') : (fun x => if x = keyV k then o.map idV else fA L x) = fA M := by
  funext x
  by_cases hx : x = keyV k
  · subst hx
    rw [if_pos rfl, fA_key, h, if_pos rfl]
  · rw [if_neg hx]
    unfold fA
    split
    · rename_i u t
      have : ¬ ((u, t) = k) := fun e => hx (by rw [← e]; rfl)
      rw [h, if_neg this]
    · rfl
/-- A board in memory. -/
def BdAt (H : Hp) (m : Nat) (L : List En) : Prop := Nice L ∧ (∀ e ∈ L, FewE e) ∧ MapAt Try.prog 47 H m (fA L)
theorem BdAt.same {H H' : Hp} {m : Nat} {L : List En} {fp : List Nat} (h : BdAt H m L) (hs : Same fp H H') (hd : m ∉ fp) : BdAt H' m L := ⟨h.1, h.2.1, h.2.2.same hs hd⟩
theorem BdAt.lt {H : Hp} {m : Nat} {L : List En} (h : BdAt H m L) : m < H.length := h.2.2.lt
theorem BdAt.new (H : Hp) : BdAt (H ++ [.map [] 0]) H.length [] := ⟨Nice.nil, by simp, by
  have e : fA [] = fun _ => none := by
    funext x
    unfold fA
    split <;> rfl
  rw [e]
  exact MapAt.new _ _ _⟩
theorem few_put {L : List En} (h : ∀ e ∈ L, FewE e) {x : En} (hx : FewE x) : ∀ e ∈ putE L x, FewE e := by
  intro e he
  unfold putE at he
  split at he
  · exact h e (List.mem_filter.1 he).1
  · rcases (mem_ins x e L).1 he with rfl | ⟨h1, _⟩
    · exact hx
    · exact h e h1
def PuInv (H : Hp) (m : Nat) (L l : List En) (n : Nat) (xs : List AV) (H2 : Hp) : Prop :=
  ∃ i : Nat, i ≤ l.length ∧ n = l.length - i ∧ xs = [.mp m, rowE l, .v (.int .i64 l.length), .v (.int .i64 i)] ∧ BdAt H2 m ((l.take i).foldl putE L) ∧ Same [m] H H2
set_option maxRecDepth 20000 in
theorem put_sp (m : Nat) (L l : List En) (x0 : Bool) (H : Hp) (Q : AV → Hp → Prop) (hd : BdAt H m L) (hl : Few1 l) (h : ∀ H', BdAt H' m (l.foldl putE L) → Same [m] H H' → Q (.tup []) H') : Sp Try.prog 26 [.mp m, .row x0 l.length (l.flatMap enC)] Q H := by
  refine Sp.argW (args' := [.mp m, .row false l.length (l.flatMap enC)]) ⟨Wk.refl _, Wk.row, trivial⟩ ?_
  refine Sp.body [(1, ⟨[0, 6, 7, 8], [], []⟩)] ⟨[5], [], pl26⟩ tb26 mo Try.func26 rfl (Nat.le_of_ble_eq_true rfl) (by kernel_rfl) ?_
  have hl60 := hl.1
  simp [ev_seq, ev_block, ev_region2, ev_loop, loopK, evOps_nil, evOps_cons, opG_none, opA_move, opA_len, putO_some, putH_lt, lenT_row, opS, opV, Go.Mx.look, fr0, argSlots, seqK, mapO, headK, getV, getB, chkP, firstReg, Try.underlying22, pl26]
  refine LoopC.intro (fun n xs _ H2 => PuInv H m L l n xs H2) l.length ⟨0, by omega, by omega, by simp [rowE], by simpa using hd, Same.refl _ _⟩ ?_
  rintro n xs bs H2 ⟨i, hi, rfl, rfl, hd2, hs⟩
  simp [ev_skip, ev_seq, ev_cond2, ev_block, ev_exit, ev_region2, evOps_nil, evOps_cons, opG_none, opA_bin, opA_indexAddr, putO_some, putH_lt, binT_some, binA, avO_some, indexAddrT, io_lss, opS, opV, Go.Mx.look, seqK, blockK, Fr.known, retK, retA, mapO, indexAddrA, mkFr, slotsOf, ptrsOf, boxesOf, orO_some, eqT_some, tk3, Try.underlying22, sz32, rowE]
  refine ⟨fun hlt => ?_, fun hge => ?_⟩
  · have hx := List.getElem?_eq_getElem hlt
    generalize l[i] = e at hx
    have hsl := flat_sub enC_len l i hx
    have hle : i * 3 + 3 ≤ (List.map (fun a : En => 3) l).sum := flat_le2 enC_len hx
    have w1 : IntKind.i64.wrap ((i : Int) + 1) = (i : Int) + 1 := wr_i64 (by omega)
    have htk : l.take (i + 1) = l.take i ++ [e] := by rw [List.take_add_one, hx]; rfl
    have hfe := hl.2 e (List.mem_of_getElem? hx)
    have tl0 : ∀ s : ByteArray, (s.toList = []) = (s = noId) := fun s => by show _ = (s = tx []); rw [← tl_inj, tx_list]
    obtain ⟨g1, g2, g3⟩ := id hd2
    have hput := fun k' => fK_put g1 e k'
    have step : ∀ H3, BdAt H3 m ((l.take (i + 1)).foldl putE L) → Same [m] H2 H3 → ∃ m', m' < l.length - i ∧ PuInv H m L l m' [.mp m, rowE l, .v (.int .i64 l.length), .v (.int .i64 (i + 1))] H3 := fun H3 h1 h2 =>
      ⟨l.length - (i + 1), by omega, i + 1, by omega, rfl, by simp, h1, hs.trans h2 (fun j hj => .inl hj)⟩
    simp only [rowE] at step
    have hfold : (l.take (i + 1)).foldl putE L = putE ((l.take i).foldl putE L) e := by rw [htk, List.foldl_append]; rfl
    rw [hfold] at step
    simp [ev_skip, ev_seq, ev_cond2, ev_region2, evOps_nil, evOps_cons, opG_none, opA_move, opA_bin, opA_load, opA_fieldAddr, opA_call, opA_alloc, opA_store, putO_some, putH_lt, putU_none, binT_some, binA, avO_some, loadT, fieldAddrT, allocT, storeT, strOp, opS, opV, Go.Mx.look, seqK, Fr.known, Fr.newBox, dropBp, mapO, callA, cellsA_agg, okPart_agg, partA, loadA, loadS, plusS, newK, storeS, orO_some, eqT_some, ev_draw, drawK, evP_q, evP_s, opAt_some, sz9, ag9, tk9, sz32, ag32, ze32, Try.underlying32, ok28, hlt, hsl, hle, enC, splice, tl0]
    refine ⟨fun hid => ?_, fun hid => ?_⟩
    · refine at_sp e H2 _ ?_
      simp [evOps_cons, opG_none, putC_lt, opS, opV, Go.Mx.look, delT_some, opA_delete, keyV]
      refine g3.del Try.underlying41 (goodE e hfe) (fun H3 g5 hs3 hl3 => ?_)
      have e6 := fA_ext (L := (l.take i).foldl putE L) (M := putE ((l.take i).foldl putE L) e) (k := keyE e) (o := none) (fun k' => by rw [hput, if_pos hid])
      simp only [Option.map_none] at e6
      rw [e6] at g5
      simp [ev_exit, ev_region2, evOps_nil, evOps_cons, opG_none, opA_move, opA_bin, putO_some, putH_lt, putC_none, binT_some, binA, avO_some, io_add, opS, opV, Go.Mx.look, seqK, blockK, mapO, headK, getV, getB, chkP, orO_some, eqT_some, tk3, w1]
      simpa using step H3 ⟨g1.put e, few_put g2 hfe, g5⟩ hs3
    · refine at_sp e H2 _ ?_
      simp [opG_none, putC_lt, loadT, fieldAddrT, opS, opV, Go.Mx.look, partA, loadS, plusS, updT_some, opA_upd, evP_s, opAt_some, chkK_eq, sameV_some, sameO_some, allQ_nil, allQ_cons, valQ_none, valS_move, valS_load, valS_fieldAddr, sz9, ag9, Try.underlying32, keyV]
      refine g3.upd Try.underlying41 (goodE e hfe) (fun H3 g5 hs3 hl3 => ?_)
      have e6 := fA_ext (L := (l.take i).foldl putE L) (M := putE ((l.take i).foldl putE L) e) (k := keyE e) (o := some e) (fun k' => by rw [hput, if_neg hid])
      simp only [Option.map_some, idV] at e6
      rw [e6] at g5
      simp [ev_region2, evOps_nil, evOps_cons, opG_none, opA_move, opA_bin, putO_some, putH_lt, putU_none, binT_some, binA, avO_some, io_add, opS, opV, Go.Mx.look, seqK, blockK, mapO, headK, getV, getB, chkP, orO_some, eqT_some, evP_nil, chkK_eq, allQ_nil, tk3, w1]
      simpa using step H3 ⟨g1.put e, few_put g2 hfe, g5⟩ hs3
  · have : i = l.length := by omega
    subst this
    rw [List.take_length] at hd2
    exact h H2 hd2 hs
def DrInv (H : Hp) (m : Nat) (L l : List En) (n : Nat) (xs : List AV) (H2 : Hp) : Prop :=
  ∃ i : Nat, i ≤ l.length ∧ n = l.length - i ∧ xs = [.mp m, rowE l, .v (.int .i64 l.length), .v (.int .i64 i)] ∧ BdAt H2 m ((l.take i).foldl dropE L) ∧ Same [m] H H2
set_option maxRecDepth 20000 in
theorem drop_sp (m : Nat) (L l : List En) (H : Hp) (Q : AV → Hp → Prop) (hd : BdAt H m L) (hl : Few1 l) (h : ∀ H', BdAt H' m (l.foldl dropE L) → Same [m] H H' → Q (.tup []) H') : Sp Try.prog 25 [.mp m, rowE l] Q H := by
  refine Sp.body [(1, ⟨[0, 6, 7, 8], [], []⟩)] ⟨[5], [], []⟩ [] mo Try.func25 rfl (Nat.le_of_ble_eq_true rfl) (by kernel_rfl) ?_
  have hl60 := hl.1
  simp [ev_seq, ev_block, ev_region2, ev_loop, loopK, evOps_nil, evOps_cons, opG_none, opA_move, opA_len, putO_some, putH_lt, lenT_row, opS, opV, Go.Mx.look, fr0, argSlots, seqK, mapO, headK, getV, getB, chkP, firstReg, Try.underlying22, rowE]
  refine LoopC.intro (fun n xs _ H2 => DrInv H m L l n xs H2) l.length ⟨0, by omega, by omega, by simp [rowE], by simpa using hd, Same.refl _ _⟩ ?_
  rintro n xs bs H2 ⟨i, hi, rfl, rfl, hd2, hs⟩
  simp [ev_skip, ev_seq, ev_cond2, ev_block, ev_exit, ev_region2, evOps_nil, evOps_cons, opG_none, opA_bin, opA_indexAddr, putO_some, putH_lt, binT_some, binA, avO_some, indexAddrT, io_lss, opS, opV, Go.Mx.look, seqK, blockK, Fr.known, retK, retA, mapO, indexAddrA, mkFr, slotsOf, ptrsOf, boxesOf, orO_some, eqT_some, tk3, Try.underlying22, sz32, rowE]
  refine ⟨fun hlt => ?_, fun hge => ?_⟩
  · have hx := List.getElem?_eq_getElem hlt
    generalize l[i] = e at hx
    have hsl := flat_sub enC_len l i hx
    have hle : i * 3 + 3 ≤ (List.map (fun a : En => 3) l).sum := flat_le2 enC_len hx
    have w1 : IntKind.i64.wrap ((i : Int) + 1) = (i : Int) + 1 := wr_i64 (by omega)
    have htk : l.take (i + 1) = l.take i ++ [e] := by rw [List.take_add_one, hx]; rfl
    have hfe := hl.2 e (List.mem_of_getElem? hx)
    obtain ⟨g1, g2, g3⟩ := id hd2
    have hput := fun k' => fK_drop g1 e k'
    have hfold : (l.take (i + 1)).foldl dropE L = dropE ((l.take i).foldl dropE L) e := by rw [htk, List.foldl_append]; rfl
    simp [ev_region2, evOps_nil, evOps_cons, opG_none, opA_move, opA_load, opA_call, opA_alloc, opA_store, putO_some, putH_lt, putU_none, loadT, allocT, storeT, opS, opV, Go.Mx.look, seqK, Fr.newBox, dropBp, mapO, callA, cellsA_agg, okPart_agg, partA, loadA, loadS, newK, storeS, sz32, ag32, ze32, ok28, hlt, hsl, hle, enC, splice]
    refine at_sp e H2 _ ?_
    simp [evOps_cons, opG_none, putC_lt, opS, opV, Go.Mx.look, delT_some, opA_delete, keyV]
    refine g3.del Try.underlying41 (goodE e hfe) (fun H3 g5 hs3 hl3 => ?_)
    have e6 := fA_ext (L := (l.take i).foldl dropE L) (M := dropE ((l.take i).foldl dropE L) e) (k := keyE e) (o := none) (fun k' => by rw [hput])
    simp only [Option.map_none] at e6
    rw [e6] at g5
    simp [ev_region2, evOps_nil, evOps_cons, opG_none, opA_move, opA_bin, putO_some, putH_lt, putC_none, binT_some, binA, avO_some, io_add, opS, opV, Go.Mx.look, seqK, blockK, mapO, headK, getV, getB, chkP, orO_some, eqT_some, tk3, w1]
    refine ⟨l.length - (i + 1), by omega, i + 1, by omega, rfl, by simp [rowE], ?_, hs.trans hs3 (fun j hj => .inl hj)⟩
    rw [hfold]
    exact ⟨g1.drop e, fun x hx => g2 x (List.mem_filter.1 hx).1, g5⟩
  · have : i = l.length := by omega
    subst this
    rw [List.take_length] at hd2
    exact h H2 hd2 hs
theorem of_sp (l : List En) (H : Hp) (Q : AV → Hp → Prop) (hl : Few1 l) (h : ∀ H' m, BdAt H' m (sortE l) → Same [] H H' → H.length ≤ m → Q (.mp m) H') : Sp Try.prog 18 [rowE l] Q H := by
  refine Sp.body [] ⟨[], [], []⟩ [] mo Try.func18 rfl (Nat.le_of_ble_eq_true rfl) (by kernel_rfl) ?_
  simp [ev_seq, ev_region2, evOps_nil, evOps_cons, opG_none, opA_move, opA_assign, opA_call, opA_makeMap, putO_some, putH_lt, makeMapT, opS, opV, Go.Mx.look, fr0, argSlots, seqK, mapO, callA, Try.underlying41, ok26, rowE]
  refine put_sp _ [] l false _ _ (BdAt.new H) hl (fun H2 hd hs => ?_)
  simp [ev_seq, ev_ret, ev_region2, evOps_nil, evOps_cons, opG_none, opA_move, opA_assign, putO_some, putH_lt, putC_lt, opS, opV, Go.Mx.look, seqK, retK, retA, resA, mapO]
  exact h H2 _ hd ((Same.app [] H _).new hs (by simp)) (Nat.le_refl _)
end Go.Proofs.Ytbdfhenelbakaaa
