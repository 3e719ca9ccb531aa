import Derived.Test.YtoakdmkjlpjahaaDoorPD
import Derived.Shelf.SlSortCmp.NoneTotal
import Derived.Handy
import Derived.StillTailTactics
namespace Go.Proofs.YtoakdmkjlpjahaaDoor
open Go.Mx
set_option linter.unusedVariables false
set_option linter.unusedSimpArgs false
set_option linter.unnecessarySimpa false
set_option maxRecDepth 100000

theorem addN_sp (v : AV) (t : Tx3) (H : Hp) (Q : AV → Hp → Prop) (hv : NoIx H v) (h : Q (.v (.int .i64 1)) H) : Sp Tryd.prog 15 [v, .v (.string (tx t.id)), .v (.int .i64 t.ts), .v (.string (tx t.s))] Q H := by
  refine Sp.body [(9, ⟨[0, 1, 43, 44, 45], [], []⟩)] ⟨[9], [78], []⟩ [] mo Tryd.func15 rfl (Nat.le_of_ble_eq_true rfl) (by kernel_rfl) ?_
  simp [ev_seq, ev_region2, evOps_nil, evOps_cons, opG_none, opA_move, opA_assign, opA_call, putO_some, putH_lt, opS, opV, Go.Mx.look, fr0, argSlots, seqK, mapO, callA, ok28, mk_tx]
  refine madeN_sp v H _ hv ?_
  simp [ev_seq, ev_cond2, ev_ret, ev_region2, evOps_nil, evOps_cons, opG_none, opG_some, opJ, opU_ff, isU_bool, opA_move, opA_assign, opA_pick, opA_un, putO_some, putH_lt, putC_lt, putV_lt, condB_true, pickT, unT, opS, opV, Go.Mx.look, seqK, Fr.known, retK, retA, resA, mapO, unA]
  exact h
def remS (S : List LB) (id : LB) : List LB := S.filter (fun s => decide (s ≠ id))
theorem mem_remS (S : List LB) (id s : LB) : s ∈ remS S id ↔ s ∈ S ∧ s ≠ id := by simp [remS]
theorem stA_rem (S : List LB) (id : LB) (p : LB × AV) : p ∈ stA (remS S id) ↔ p ∈ stA S ∧ p.1 ≠ id := by
  unfold stA
  simp only [List.mem_map, mem_remS]
  constructor
  · rintro ⟨s, ⟨h1, h2⟩, rfl⟩; exact ⟨⟨s, h1, rfl⟩, h2⟩
  · rintro ⟨⟨s, h1, rfl⟩, h2⟩; exact ⟨s, ⟨h1, h2⟩, rfl⟩
def remPr (R : LB → LB → Prop) (w id : LB) : LB → LB → Prop := fun w' s => R w' s ∧ ¬ (w' = w ∧ s = id)
theorem WOk.uniq {A B : List Ent} {e x : Ent} {R : LB → LB → Prop} (h : WOk (A ++ e :: B) R) (hx : x ∈ A ∨ x ∈ B) : x.w ≠ e.w := by
  have hp := h.lt
  rw [List.map_append, List.map_cons, List.pairwise_append, List.pairwise_cons] at hp
  rcases hx with hx | hx
  · intro q
    have := hp.2.2 x.w (List.mem_map.2 ⟨x, hx, rfl⟩) e.w (by simp)
    rw [q] at this; exact List.lt_irrefl _ this
  · intro q
    have := hp.2.1.1 x.w (List.mem_map.2 ⟨x, hx, rfl⟩)
    rw [q] at this; exact List.lt_irrefl _ this
theorem WOk.rem {A B : List Ent} {e : Ent} {R : LB → LB → Prop} (h : WOk (A ++ e :: B) R) (id : LB) (hS : remS e.S id ≠ []) : WOk (A ++ ⟨e.w, e.m, remS e.S id⟩ :: B) (remPr R e.w id) := by
  refine ⟨?_, fun x hx => ?_, fun w' s => ?_⟩
  · have := h.lt
    simp only [List.map_append, List.map_cons] at this ⊢; exact this
  · simp only [List.mem_append, List.mem_cons] at hx
    rcases hx with hx | rfl | hx
    · exact h.ne x (by simp [hx])
    · exact ⟨hS, (h.ne e (by simp)).2.sublist List.filter_sublist⟩
    · exact h.ne x (by simp [hx])
  · unfold remPr
    rw [← h.pr]
    constructor
    · rintro ⟨x, hx, rfl, hs⟩
      simp only [List.mem_append, List.mem_cons] at hx
      rcases hx with hx | rfl | hx
      · exact ⟨⟨x, by simp [hx], rfl, hs⟩, fun q => h.uniq (.inl hx) q.1⟩
      · have := (mem_remS _ _ _).1 hs
        exact ⟨⟨e, by simp, rfl, this.1⟩, fun q => this.2 q.2⟩
      · exact ⟨⟨x, by simp [hx], rfl, hs⟩, fun q => h.uniq (.inr hx) q.1⟩
    · rintro ⟨⟨x, hx, rfl, hs⟩, hn⟩
      simp only [List.mem_append, List.mem_cons] at hx
      rcases hx with hx | rfl | hx
      · exact ⟨x, by simp [hx], rfl, hs⟩
      · exact ⟨⟨x.w, x.m, remS x.S id⟩, by simp, rfl, (mem_remS _ _ _).2 ⟨hs, fun q => hn ⟨rfl, q⟩⟩⟩
      · exact ⟨x, by simp [hx], rfl, hs⟩
theorem WOk.drop {A B : List Ent} {e : Ent} {R : LB → LB → Prop} (h : WOk (A ++ e :: B) R) (id : LB) (hS : remS e.S id = []) : WOk (A ++ B) (remPr R e.w id) := by
  have hsub : (A ++ B).Sublist (A ++ e :: B) := (List.sublist_cons_self e B).append_left A
  refine ⟨h.lt.sublist (hsub.map _), fun x hx => h.ne x (hsub.subset hx), fun w' s => ?_⟩
  unfold remPr
  rw [← h.pr]
  constructor
  · rintro ⟨x, hx, rfl, hs⟩
    exact ⟨⟨x, hsub.subset hx, rfl, hs⟩, fun q => h.uniq (by simpa using hx) q.1⟩
  · rintro ⟨⟨x, hx, rfl, hs⟩, hn⟩
    simp only [List.mem_append, List.mem_cons] at hx
    rcases hx with hx | rfl | hx
    · exact ⟨x, by simp [hx], rfl, hs⟩
    · by_cases hsi : s = id
      · exact absurd ⟨rfl, hsi⟩ hn
      · have := (mem_remS x.S id s).2 ⟨hs, hsi⟩
        rw [hS] at this; simp at this
    · exact ⟨x, by simp [hx], rfl, hs⟩
theorem WOk.none {W : List Ent} {R : LB → LB → Prop} (h : WOk W R) (w id : LB) (hw : w ∉ W.map (·.w)) : WOk W (remPr R w id) := h.cong (fun w' s => by
  unfold remPr
  constructor
  · intro hr
    refine ⟨hr, fun q => hw ?_⟩
    obtain ⟨e, he, hew, _⟩ := (h.pr w' s).2 hr
    exact List.mem_map.2 ⟨e, he, hew.trans q.1⟩
  · exact fun q => q.1)
/-- A word is gone. -/
theorem IxR.dropW {H H' : Hp} {a mt mw : Nat} {v v' : AV} {L : List Tx3} {A B : List Ent} {e : Ent} (h : IxR H a mt mw v L (A ++ e :: B)) (hs : Same (a :: mw :: e.m :: slId v) H H')
    (hc : H'[a]? = some (.cells 0 [.mp mt, .mp mw, v'])) (hm : AsAt H' mw (wdA (A ++ B))) (ho : OwnT 1 H' ((A ++ B).map (·.w)).length (((A ++ B).map (·.w)).flatMap txC) v') (hv : slId v' = slId v) : IxR H' a mt mw v' L (A ++ B) := by
  have d := apart_iff.1 h.d
  have hsub : (A ++ B).Sublist (A ++ e :: B) := (List.sublist_cons_self e B).append_left A
  have he : e ∈ A ++ e :: B := by simp
  have hww := d.ww
  rw [List.map_append, List.map_cons, List.nodup_append, List.nodup_cons] at hww
  have hne : ∀ x ∈ A ++ B, x.m ≠ e.m := fun x hx q => by
    rcases List.mem_append.1 hx with hx | hx
    · exact hww.2.2 x.m (List.mem_map.2 ⟨x, hx, rfl⟩) e.m (by simp) q
    · exact hww.2.1.1 (List.mem_map.2 ⟨x, hx, q⟩)
  refine ⟨hc, h.t.same hs (by simp; exact ⟨fun q => d.amt q.symm, d.tm, fun q => d.tw e he q.symm, d.tv⟩), hm, ho, fun x hx => (h.s x (hsub.subset hx)).same hs (by simp; exact ⟨d.aw x (hsub.subset hx), d.mw' x (hsub.subset hx), hne x hx, d.vw x (hsub.subset hx)⟩), apart_iff.2 ?_⟩
  exact ⟨d.amt, d.amw, by rw [hv]; exact d.av, fun x hx => d.aw x (hsub.subset hx), d.tm, by rw [hv]; exact d.tv, fun x hx => d.tw x (hsub.subset hx), by rw [hv]; exact d.mv, fun x hx => d.mw' x (hsub.subset hx), by rw [hv]; exact d.vn, fun x hx => by rw [hv]; exact d.vw x (hsub.subset hx), d.ww.sublist (hsub.map _)⟩
theorem posL_split (A B : List LB) (w : LB) (h : (A ++ w :: B).Pairwise (· < ·)) : posL (A ++ w :: B) w = A.length := by
  have hp := List.pairwise_append.1 h
  unfold posL
  rw [List.takeWhile_append_of_pos (fun x hx => by simpa using hp.2.2 x hx w (by simp))]
  rw [List.takeWhile_cons, if_neg (by simpa using List.lt_irrefl w)]
  simp
theorem wdA_del {A B : List Ent} {e : Ent} {R : LB → LB → Prop} (h : WOk (A ++ e :: B) R) (p : LB × AV) : p ∈ wdA (A ++ B) ↔ p ∈ wdA (A ++ e :: B) ∧ p.1 ≠ e.w := by
  unfold wdA
  simp only [List.mem_map, List.mem_append, List.mem_cons]
  constructor
  · rintro ⟨x, hx, rfl⟩
    exact ⟨⟨x, hx.imp (fun h => h) .inr, rfl⟩, h.uniq hx⟩
  · rintro ⟨⟨x, hx | rfl | hx, rfl⟩, hne⟩
    · exact ⟨x, .inl hx, rfl⟩
    · exact absurd rfl hne
    · exact ⟨x, .inr hx, rfl⟩
def remL (L : List Tx3) (id : LB) : List Tx3 := L.filter (fun t => decide (t.id ≠ id))
theorem txA_rem (L : List Tx3) (id : LB) (p : LB × AV) : p ∈ txA (remL L id) ↔ p ∈ txA L ∧ p.1 ≠ id := by
  unfold txA remL
  simp only [List.mem_map, List.mem_filter, decide_eq_true_eq]
  constructor
  · rintro ⟨t, ⟨h1, h2⟩, rfl⟩; exact ⟨⟨t, h1, rfl⟩, h2⟩
  · rintro ⟨⟨t, h1, rfl⟩, h2⟩; exact ⟨t, ⟨h1, h2⟩, rfl⟩
theorem LOk.rem {N : Nat} {L : List Tx3} (h : LOk N L) (id : LB) : LOk N (remL L id) :=
  ⟨h.ids.sublist (List.filter_sublist.map _), fun t ht => h.ne t (List.mem_filter.1 ht).1, Nat.le_trans (List.length_filter_le _ _) h.few, fun t ht => h.sm t (List.mem_filter.1 ht).1⟩

def RmInv (H : Hp) (a mt mw : Nat) (fp : List Nat) (L : List Tx3) (R : LB → LB → Prop) (id : LB) (ok : Bool) (ws : List LB) (cs : List AV) (n : Nat) (xs : List AV) (H2 : Hp) : Prop :=
  ∃ (i : Nat) (v : AV) (W : List Ent), i ≤ ws.length ∧ n = ws.length - i ∧ xs = [.ptr a 0 0, .v (.string (tx id)), .v (.bool ok), .row false ws.length cs, .v (.int .i64 ws.length), .v (.int .i64 i)] ∧
    IxR H2 a mt mw v L W ∧ WOk W (fun w s => R w s ∧ ¬ (s = id ∧ w ∈ ws.take i)) ∧ Same fp H H2 ∧ (∀ j ∈ fpX a mt mw v W, j ∈ fp)
set_option maxHeartbeats 2000000 in
theorem remove_sp {N a : Nat} {L : List Tx3} {fp : List Nat} (id : LB) (H : Hp) (Q : AV → Hp → Prop) (hp : IxAt N H a L fp) (hN : N ≤ 100)
    (h : ∀ H' fp', IxAt N H' a (remL L id) fp' → Same fp H H' → (∀ j ∈ fp', j ∈ fp) → Q (.v (.bool (decide (id ∈ L.map (·.id))))) H') :
    Sp Tryd.prog 22 [.ptr a 0 0, .v (.string (tx id))] Q H := by
  have hp0 := hp
  obtain ⟨mt, mw, v, W, h1, h2, h3, rfl⟩ := hp
  refine Sp.body [(5, ⟨[0, 1, 6, 24, 25, 26], [], []⟩)] ⟨[5], [], []⟩ [] mo Tryd.func22 rfl (Nat.le_of_ble_eq_true rfl) (by kernel_rfl) ?_
  have hc := h1.c
  have hWl : ∀ (W2 : List Ent) (R : LB → LB → Prop), WOk W2 R → (∀ w s, R w s → prL L w s) → W2.length ≤ 100000 := fun W2 R hW2 hR => by
    have := words_few (N := 0) (M := 0) hW2 (L.flatMap fun x => wordsL x.s) (fun w s hws => by
      obtain ⟨x, hx, _, hw⟩ := hR w s hws
      exact List.mem_flatMap.2 ⟨x, hx, hw⟩)
    have h5 := all_words N L h3.sm
    have h6 := h3.few
    have : L.length * 901 ≤ 100 * 901 := Nat.mul_le_mul_right _ (by omega)
    omega
  have d := apart_iff.1 h1.d
  have hend : ∀ (v2 : AV) (W2 : List Ent) (H2 : Hp), IxR H2 a mt mw v2 L W2 → WOk W2 (prL (remL L id)) → Same (fpX a mt mw v W) H H2 → (∀ j ∈ fpX a mt mw v2 W2, j ∈ fpX a mt mw v W) → ∀ H3, AsAt H3 mt (txA (remL L id)) → Same [mt] H2 H3 → Q (.v (.bool (decide (id ∈ L.map (·.id))))) H3 := by
    intro v2 W2 H2 g1 g2 g3 g4 H3 ht3 hs3
    have d2 := apart_iff.1 g1.d
    refine h H3 _ ⟨mt, mw, v2, W2, ⟨hs3.2 _ _ g1.c (by simp; exact d2.amt), ht3, g1.m.same hs3 (by simp; exact fun q => d2.tm q.symm), g1.o.same hs3 (fun j hj => by simp; exact fun q => d2.tv (q ▸ hj)), fun e he => (g1.s e he).same hs3 (by simp; exact d2.tw e he), g1.d⟩, g2, h3.rem id, rfl⟩ (g3.trans hs3 (fun j hj => .inl (by simp at hj; subst hj; exact fpX_mem.2 (.inr (.inl rfl))))) g4
  simp [ev_seq, ev_region2, evOps_nil, evOps_cons, opG_none, opA_move, opA_assign, opA_call, putO_some, putH_lt, opS, opV, Go.Mx.look, fr0, argSlots, seqK, mapO, callA, ok28]
  refine made_sp H _ hc ?_
  by_cases hin : id ∈ L.map (·.id)
  · obtain ⟨t, ht, rfl⟩ := List.mem_map.1 hin
    rw [decide_eq_true hin] at hend
    have hlk := h1.t.look (t := 48) Tryd.underlying48 (x := t.id) (v := txV t) (List.mem_map.2 ⟨t, ht, rfl⟩) true
    have hwl := wordsL_len t.s
    have hts := h3.sm t ht
    obtain ⟨cs, hcs⟩ : ∃ cs, cs = (wordsL t.s).flatMap txC := ⟨_, rfl⟩
    have htxV : txV t = .agg [.v (.int .i64 t.ts), .row false (wordsL t.s).length cs] := by rw [hcs]; rfl
    have lc : cs.length = (wordsL t.s).length := by rw [hcs, flat_len txC_len, Nat.mul_one]
    have hg : ∀ {i : Nat} {w : LB}, (wordsL t.s)[i]? = some w → cs[i]? = some (.v (.string (tx w))) := fun {i w} hw => by
      rw [hcs, flat_st, List.getElem?_map]; simp [stC, hw]
    rw [htxV] at hlk
    have huniq : ∀ x ∈ L, x.id = t.id → x = t := fun x hx hxt => by
      have hn := h3.ids
      obtain ⟨i, hi⟩ := List.getElem?_of_mem hx
      obtain ⟨j, hj⟩ := List.getElem?_of_mem ht
      have e1 : (L.map (·.id))[i]? = some t.id := by rw [List.getElem?_map, hi]; simp [hxt]
      have e2 : (L.map (·.id))[j]? = some t.id := by rw [List.getElem?_map, hj]; rfl
      have hxy : i = j := (List.getElem?_inj (List.getElem?_eq_some_iff.1 e1).1 hn).1 (by rw [e1, e2])
      subst hxy
      rw [hi] at hj; simpa using hj
    have hpair2 : ∀ w s, (prL L w s ∧ ¬ (s = t.id ∧ w ∈ (wordsL t.s).take (wordsL t.s).length)) ↔ prL (remL L t.id) w s := fun w s => by
      rw [List.take_length]
      unfold prL remL
      constructor
      · rintro ⟨⟨x, hx, rfl, hw⟩, hn⟩
        refine ⟨x, by simp; exact ⟨hx, fun q => hn ⟨q, by rw [← huniq x hx q]; exact hw⟩⟩, rfl, hw⟩
      · rintro ⟨x, hx, rfl, hw⟩
        simp at hx
        exact ⟨⟨x, hx.1, rfl, hw⟩, fun q => hx.2 q.1⟩
    simp [ev_skip, ev_seq, ev_cond2, ev_block, ev_region2, ev_loop, loopK, evOps_nil, evOps_cons, opG_none, opA_move, opA_assign, opA_un, opA_extract, opA_load, opA_fieldAddr, opA_nilCheck, opA_len, opA_alloc, opA_store, putO_some, putH_lt, putC_lt, putU_none, condB_false, avO_some, unT, extractT, loadT, nilCheckT, lenT_row, fieldAddrT, allocT, storeT, opS, opV, Go.Mx.look, seqK, Fr.known, Fr.newBox, dropBp, mapO, unA, extractA, cellsA_agg, okPart_agg, partA, loadA, loadS, plusS, nilCheckS, newK, storeS, headK, getV, getB, chkP, firstReg, lookT_some, opA_lookup, sz23, ag23, Tryd.underlying23, sz48, ag48, Tryd.underlying51, sz62, ze62, Tryd.underlying62, hc, hlk, Go.Mx.valOf, splice]
    refine LoopC.intro (fun n xs _ H2 => RmInv H a mt mw (fpX a mt mw v W) L (prL L) t.id true (wordsL t.s) cs n xs H2) (wordsL t.s).length ⟨0, v, W, by omega, by omega, by simp, h1, h2.cong (by simp), Same.refl _ _, fun j hj => hj⟩ ?_
    generalize hwsg : wordsL t.s = ws at *
    generalize hfp : fpX a mt mw v W = fp at *
    rintro n xs bs H2 ⟨i, v2, W2, hi, rfl, rfl, g1, g2, g3, g4⟩
    have gc := g1.c
    have hW2 := hWl W2 _ g2 (fun w s h => h.1)
    by_cases hlt : i < ws.length
    · obtain ⟨w, hw⟩ : ∃ w, ws[i]? = some w := ⟨_, List.getElem?_eq_getElem hlt⟩
      have hcs1 := hg hw
      have hcl : i < cs.length := by omega
      have hcs2 : cs[i] = .v (.string (tx w)) := (List.getElem?_eq_some_iff.1 hcs1).2
      have hlt' : (i : Int) < (ws.length : Int) := by omega
      have w1 : IntKind.i64.wrap ((i : Int) + 1) = (i : Int) + 1 := wr_i64 (by omega)
      have htk : ws.take (i + 1) = ws.take i ++ [w] := by
        rw [List.take_add_one]; simp [hw]
      have hRi : ∀ w' s, remPr (fun w s => prL L w s ∧ ¬ (s = t.id ∧ w ∈ ws.take i)) w t.id w' s ↔ (prL L w' s ∧ ¬ (s = t.id ∧ w' ∈ ws.take (i + 1))) := fun w' s => by
        unfold remPr
        rw [htk, List.mem_append, List.mem_singleton]
        constructor
        · rintro ⟨⟨h1, h2⟩, h3⟩
          exact ⟨h1, fun q => q.2.elim (fun q2 => h2 ⟨q.1, q2⟩) (fun q2 => h3 ⟨q2, q.1⟩)⟩
        · rintro ⟨h1, h2⟩
          exact ⟨⟨h1, fun q => h2 ⟨q.1, .inl q.2⟩⟩, fun q => h2 ⟨q.2, .inr q.1⟩⟩
      have d2 := apart_iff.1 g1.d
      have hle : posL (W2.map (·.w)) w ≤ (W2.map (·.w)).length := posL_le _ _
      by_cases hww : w ∈ W2.map (·.w)
      · obtain ⟨A, e, B, rfl, rfl⟩ := WOk.split hww
        have he : e ∈ A ++ e :: B := by simp
        have hlk := g1.m.look (t := 49) Tryd.underlying49 (x := e.w) (v := .mp e.m) (List.mem_map.2 ⟨e, he, rfl⟩) false
        simp [ev_skip, ev_seq, ev_cond2, ev_block, ev_region2, evOps_nil, evOps_cons, opG_none, opA_move, opA_assign, opA_bin, opA_load, opA_indexAddr, opA_fieldAddr, opA_nilCheck, putO_some, putH_lt, condB_true, binT_some, binA, avO_some, loadT, nilCheckT, fieldAddrT, indexAddrT, io_lss, opS, opV, Go.Mx.look, seqK, Fr.known, partA, loadA, loadS, plusS, indexAddrA, nilCheckS, mkFr, slotsOf, ptrsOf, boxesOf, orO_some, eqT_some, lookT_some, delT_some, opA_lookup, opA_delete, tk3, sz9, ag9, Tryd.underlying23, sz49, ag49, Tryd.underlying51, hlt', hcl, hcs2, gc, hlk, Go.Mx.valOf]
        refine (g1.s e he).del (l' := stA (remS e.S t.id)) Tryd.underlying65 (stA_rem e.S t.id) (fun H3 hS3 hs3 hl3 => ?_)
        have g1' := g1.putS hS3 hs3
        have gc3 := g1'.c
        have n2 : (A ++ (⟨e.w, e.m, remS e.S t.id⟩ : Ent) :: B).map (·.w) = (A ++ e :: B).map (·.w) := by simp
        have ho3 := g1'.o
        rw [n2] at ho3
        have hem : e.m ∈ fp := g4 _ (fpX_mem.2 (.inr (.inr (.inr (.inr ⟨e, he, rfl⟩)))))
        simp [ev_seq, ev_region2, evOps_nil, evOps_cons, opG_none, opA_move, opA_load, opA_fieldAddr, opA_nilCheck, opA_call, putO_some, putH_lt, putC_none, loadT, nilCheckT, fieldAddrT, opS, opV, Go.Mx.look, seqK, mapO, callA, partA, loadA, loadS, plusS, nilCheckS, sz23, ag23, Tryd.underlying51, ok29, gc3]
        have hsrt : ((A ++ e :: B).map (·.w)).Pairwise (· < ·) := g2.lt
        have hpos : posL ((A ++ e :: B).map (·.w)) e.w = A.length := by
          have := posL_split (A.map (·.w)) (B.map (·.w)) e.w (by simpa using hsrt)
          simpa using this
        have hdw : decide (e.w ∈ (A ++ e :: B).map (·.w)) = true := decide_eq_true hww
        have hlen : ((A ++ e :: B).map (·.w)).length = A.length + B.length + 1 := by simp; omega
        refine search_sp v2 ((A ++ e :: B).map (·.w)) e.w _ H3 _ ho3 (by simpa using hW2) hle (posL_lo _ _) (posL_hi _ _ hsrt) ?_
        rw [posL_at _ _ hsrt, hdw, hpos]
        have hlk3 := g1'.m.look (t := 49) Tryd.underlying49 (x := e.w) (v := .mp e.m) (List.mem_map.2 ⟨⟨e.w, e.m, remS e.S t.id⟩, by simp, rfl⟩) false
        have hSn : (remS e.S t.id).Nodup := (g2.ne e he).2.sublist List.filter_sublist
        have hl3' := hS3.len (by rw [ids_stA]; exact hSn) 9 4
        have hll : (stA (remS e.S t.id)).length = (remS e.S t.id).length := by simp [stA]
        rw [hll] at hl3'
        by_cases hS : remS e.S t.id = []
        · have hS0 : (remS e.S t.id).length = 0 := by rw [hS]; rfl
          rw [hS0] at hl3'
          simp [ev_seq, ev_cond2, ev_region2, evOps_nil, evOps_cons, opG_none, opG_some, opJ, opU_ft, isU_bool, opK_eq, opA_move, opA_assign, opA_pick, opA_bin, opA_extract, opA_load, opA_fieldAddr, opA_nilCheck, opA_len, putO_some, putH_lt, putC_lt, condB_true, binT_some, binA, avO_some, pickT, extractT, loadT, nilCheckT, fieldAddrT, io_eql, opS, opV, Go.Mx.look, seqK, Fr.known, extractA, partA, loadA, loadS, plusS, nilCheckS, orO_some, eqT_some, lookT_some, delT_some, opA_lookup, opA_delete, tk3, sz49, ag49, Tryd.underlying51, Tryd.underlying65, gc3, hlk3, Go.Mx.valOf, hl3']
          refine g1'.m.del (l' := wdA (A ++ B)) Tryd.underlying49 (fun p => by
            have := wdA_del g2 p
            have e3 : wdA (A ++ (⟨e.w, e.m, remS e.S t.id⟩ : Ent) :: B) = wdA (A ++ e :: B) := by simp [wdA]
            rw [e3]; exact this) (fun H4 hm4 hs4 hl4 => ?_)
          have d3 := apart_iff.1 g1'.d
          have gc4 : H4[a]? = some (.cells 0 [.mp mt, .mp mw, v2]) := hs4.2 _ _ gc3 (by simp; exact d2.amw)
          have ho4 := ho3.same hs4 (fun j hj => by simp; exact fun q => d2.mv (q ▸ hj))
          rcases ho4 with ⟨q1, _, _⟩ | ⟨_, q2, vid, ver, tl, rfl, q4⟩
          · rw [hlen] at q1; omega
          have hAl : A.length + 1 ≤ 100000 := by have := hW2; simp at this; omega
          have w2 : IntKind.i64.wrap ((A.length : Int) + 1) = ((A.length + 1 : Nat) : Int) := by rw [wr_i64 (by omega)]; rfl
          simp [ev_region2, evOps_nil, evOps_cons, opG_none, opA_move, opA_bin, opA_load, opA_fieldAddr, opA_nilCheck, opA_call, putO_some, putH_lt, putC_none, binT_some, binA, avO_some, loadT, nilCheckT, fieldAddrT, io_add, opS, opV, Go.Mx.look, seqK, mapO, callA, partA, loadA, loadS, plusS, nilCheckS, orO_some, eqT_some, tk3, sz23, ag23, Tryd.underlying51, ok39, gc4, w2]
          have hva : a ≠ vid := fun q => d2.av (by simp [slId, q])
          have hvm : mw ≠ vid := fun q => d2.mv (by simp [slId, q])
          refine Sp.argW (args' := [.sl vid ver 1 0 ((A ++ e :: B).map (·.w)).length, .v (.int .i64 (A.length : Int)), .v (.int .i64 ((A.length + 1 : Nat) : Int))]) ⟨by rw [hlen, show A.length + B.length + 1 = A.length + (B.length + 1) from by omega]; exact Wk.refl _, Wk.refl _, Wk.refl _, trivial⟩ ?_
          refine delete_sp vid ver tl ((A ++ e :: B).map (·.w)) A.length H4 _ q4 (by rw [hlen]; omega) (by simpa using hW2) (fun v' H5 hv5 h5 hs5 => ?_)
          have hdr : ((A ++ e :: B).map (·.w)).take A.length ++ ((A ++ e :: B).map (·.w)).drop (A.length + 1) = (A ++ B).map (·.w) := by
            have q1 : (A ++ e :: B).map (·.w) = (A.map (·.w) ++ [e.w]) ++ B.map (·.w) := by simp
            rw [q1, List.drop_left' (by simp), List.append_assoc, List.take_left' (by simp), List.map_append]
          rw [hdr] at h5
          have gc5 : H5[a]? = some (.cells 0 [.mp mt, .mp mw, .sl vid ver 1 0 ((A ++ e :: B).map (·.w)).length]) := hs5.2 _ _ gc4 (by simp; exact hva)
          have hal5 : a < H5.length := Hp.lt gc5
          have hcv : cellsA v' = [v'] ∧ okPart v' = true := by rw [hv5]; exact ⟨rfl, rfl⟩
          have hvid : slId v' = [vid] := by rw [hv5]; rfl
          have ho5 : OwnT 1 H5 ((A ++ B).map (·.w)).length (((A ++ B).map (·.w)).flatMap txC) v' := by
            refine .inr ⟨Nat.zero_le _, by rw [flat_len txC_len], vid, ver, .v (.string (tx [])) :: tl, ?_, h5⟩
            rw [hv5, hlen]
            simp
          simp [ev_region2, evOps_nil, evOps_cons, opG_none, opA_move, opA_bin, opA_fieldAddr, opA_nilCheck, opA_store, putO_some, putH_lt, putC_lt, putU_none, binT_some, binA, avO_some, nilCheckT, fieldAddrT, storeT, io_add, opS, opV, Go.Mx.look, seqK, blockK, mapO, plusS, nilCheckS, storeS, headK, getV, getB, chkP, orO_some, eqT_some, tk3, sz23, Tryd.underlying51, gc5, hcv.1, hcv.2, splice, w1]
          generalize hH6 : H5.set a (.cells 0 [.mp mt, .mp mw, v']) = H6
          have hs6 : Same [a] H5 H6 := by rw [← hH6]; exact Same.set (by simp)
          have gc6 : H6[a]? = some (.cells 0 [.mp mt, .mp mw, v']) := by rw [← hH6]; exact List.getElem?_set_self hal5
          have hsA : Same (a :: mw :: e.m :: slId (.sl vid ver 1 0 ((A ++ e :: B).map (·.w)).length)) H2 H6 := by
            refine (((hs3.wide (by simp)).trans hs4 (fun j hj => .inl (by simp at hj; simp [hj]))).trans hs5 (fun j hj => .inl (by simp at hj; simp [hj, slId]))).trans hs6 (fun j hj => .inl (by simp at hj; simp [hj]))
          have hIx := g1.dropW (v' := v') hsA gc6 ((hm4.same hs5 (by simp; exact hvm)).same hs6 (by simp; exact fun q => d2.amw q.symm)) (ho5.same hs6 (fun j hj => by rw [hvid] at hj; simp at hj ⊢; rw [hj]; exact fun q => hva q.symm)) (by rw [hvid]; rfl)
          refine ⟨ws.length - (i + 1), by omega, i + 1, v', _, by omega, rfl, by simp, hIx, (g2.drop t.id hS).cong hRi, g3.trans hsA (fun j hj => .inl (g4 j (fpX_mem.2 (by
            simp only [List.mem_cons] at hj
            rcases hj with hj | hj | hj | hj
            · exact .inl hj
            · exact .inr (.inr (.inl hj))
            · exact .inr (.inr (.inr (.inr ⟨e, he, hj.symm⟩)))
            · exact .inr (.inr (.inr (.inl hj))))))), fun j hj => ?_⟩
          rcases fpX_mem.1 hj with hj | hj | hj | hj | ⟨x, hx, rfl⟩
          · exact g4 j (fpX_mem.2 (.inl hj))
          · exact g4 j (fpX_mem.2 (.inr (.inl hj)))
          · exact g4 j (fpX_mem.2 (.inr (.inr (.inl hj))))
          · rw [hvid] at hj
            exact g4 j (fpX_mem.2 (.inr (.inr (.inr (.inl hj)))))
          · exact g4 _ (fpX_mem.2 (.inr (.inr (.inr (.inr ⟨x, by simp at hx ⊢; exact hx.imp (fun h => h) .inr, rfl⟩)))))
        · have hS0 : ¬ ((remS e.S t.id).length = 0) := fun q => hS (List.length_eq_zero_iff.1 q)
          have hS1 : ¬ (((remS e.S t.id).length : Int) = 0) := by omega
          simp [ev_skip, ev_seq, ev_cond2, ev_region2, evOps_nil, evOps_cons, opG_none, opG_some, opJ, opU_ft, isU_bool, opK_eq, opA_move, opA_assign, opA_pick, opA_bin, opA_extract, opA_load, opA_fieldAddr, opA_nilCheck, opA_len, putO_some, putH_lt, putC_lt, condB_true, CondP_false, binT_some, binA, avO_some, pickT, extractT, loadT, nilCheckT, fieldAddrT, io_add, io_eql, opS, opV, Go.Mx.look, seqK, blockK, Fr.known, mapO, extractA, partA, loadA, loadS, plusS, nilCheckS, headK, getV, getB, chkP, orO_some, eqT_some, lookT_some, opA_lookup, tk3, sz49, ag49, Tryd.underlying51, Tryd.underlying65, gc3, hlk3, Go.Mx.valOf, hl3', hS, w1]
          refine ⟨ws.length - (i + 1), by omega, i + 1, v2, _, by omega, rfl, by simp, g1', (g2.rem t.id hS).cong hRi, g3.trans hs3 (by simpa using .inl hem), fun j hj => ?_⟩
          exact g4 j (by simpa [fpX] using hj)
      · have hlk := g1.m.no (t := 49) Tryd.underlying49 (x := w) (fun p hp e => hww (by rw [← ids_wdA]; exact List.mem_map.2 ⟨p, hp, e⟩)) false
        have hkg := kv_good t.id
        unfold kv at hkg
        simp [ev_skip, ev_seq, ev_cond2, ev_block, ev_region2, evOps_nil, evOps_cons, opG_none, opA_move, opA_assign, opA_bin, opA_load, opA_indexAddr, opA_fieldAddr, opA_nilCheck, putO_some, putH_lt, condB_true, binT_some, binA, avO_some, loadT, nilCheckT, fieldAddrT, indexAddrT, io_lss, opS, opV, Go.Mx.look, seqK, Fr.known, partA, loadA, loadS, plusS, indexAddrA, nilCheckS, mkFr, slotsOf, ptrsOf, boxesOf, orO_some, eqT_some, lookT_some, delT_some, opA_lookup, opA_delete, tk3, sz9, ag9, Tryd.underlying23, sz49, ag49, Tryd.underlying51, hlt', hcl, hcs2, gc, hlk, Go.Mx.valOf, zA65]
        have hdel : ∀ k : Hp → Prop, k H2 → delA Tryd.prog H2 65 (.v (.map none)) (.v (.string (tx t.id))) k := fun k hk => by
          unfold delA
          rw [Tryd.underlying65]
          exact ⟨kv_good _, hk⟩
        refine hdel _ ?_
        simp [ev_seq, ev_region2, evOps_nil, evOps_cons, opG_none, opA_move, opA_load, opA_fieldAddr, opA_nilCheck, opA_call, putO_some, putH_lt, putC_none, loadT, nilCheckT, fieldAddrT, opS, opV, Go.Mx.look, seqK, mapO, callA, partA, loadA, loadS, plusS, nilCheckS, sz23, ag23, Tryd.underlying51, ok29, gc]
        refine search_sp v2 (W2.map (·.w)) w _ H2 _ g1.o (by simpa using hW2) hle (posL_lo _ _) (posL_hi _ _ g2.lt) ?_
        have hdw : decide (w ∈ W2.map (·.w)) = false := decide_eq_false hww
        rw [posL_at _ _ g2.lt, hdw]
        simp [ev_skip, ev_seq, ev_cond2, ev_region2, evOps_nil, evOps_cons, opG_none, opG_some, opJ, opU_ft, isU_bool, opA_move, opA_assign, opA_pick, opA_bin, opA_extract, putO_some, putH_lt, putC_lt, putV_lt, condB_false, binT_some, binA, avO_some, pickT, extractT, io_add, opS, opV, Go.Mx.look, seqK, blockK, Fr.known, mapO, extractA, headK, getV, getB, chkP, orO_some, eqT_some, tk3, w1]
        exact ⟨ws.length - (i + 1), by omega, i + 1, v2, W2, by omega, rfl, by simp, g1, (g2.none w t.id hww).cong hRi, g3, g4⟩
    · have : i = ws.length := by omega
      subst this
      have hlt' : ¬ ((ws.length : Int) < (ws.length : Int)) := by omega
      simp [ev_seq, ev_cond2, ev_exit, ev_region2, evOps_nil, evOps_cons, opG_none, opA_move, opA_bin, opA_load, opA_fieldAddr, opA_nilCheck, putO_some, putH_lt, condB_false, binT_some, binA, avO_some, loadT, nilCheckT, fieldAddrT, io_lss, opS, opV, Go.Mx.look, seqK, blockK, Fr.known, partA, loadA, loadS, plusS, nilCheckS, mkFr, slotsOf, ptrsOf, boxesOf, orO_some, eqT_some, delT_some, opA_delete, tk3, sz48, ag48, Tryd.underlying51, gc]
      refine g1.t.del (l' := txA (remL L t.id)) Tryd.underlying48 (txA_rem L t.id) (fun H3 ht3 hs3 hl3 => ?_)
      simp [ev_seq, ev_ret, ev_region2, evOps_nil, evOps_cons, opG_none, opA_move, opA_assign, putO_some, putH_lt, putC_none, opS, opV, Go.Mx.look, seqK, retK, retA, resA, mapO]
      exact hend v2 W2 H2 g1 (g2.cong hpair2) g3 g4 H3 ht3 hs3
  · rw [decide_eq_false hin] at hend
    have hno : ∀ p ∈ txA L, p.1 ≠ id := fun p hp e => hin (by rw [← ids_txA]; exact List.mem_map.2 ⟨p, hp, e⟩)
    have hlk := h1.t.no (t := 48) Tryd.underlying48 (x := id) hno true
    have hpr : ∀ w s, prL L w s ↔ prL (remL L id) w s := fun w s => by
      unfold prL remL
      constructor
      · rintro ⟨x, hx, rfl, hw⟩
        exact ⟨x, by simp; exact ⟨hx, fun q => hin (q ▸ List.mem_map.2 ⟨x, hx, rfl⟩)⟩, rfl, hw⟩
      · rintro ⟨x, hx, rfl, hw⟩
        simp at hx
        exact ⟨x, hx.1, rfl, hw⟩
    simp [ev_skip, ev_seq, ev_cond2, ev_block, ev_region2, ev_loop, loopK, evOps_nil, evOps_cons, opG_none, opA_move, opA_assign, opA_un, opA_extract, opA_load, opA_fieldAddr, opA_nilCheck, opA_len, opA_alloc, opA_store, putO_some, putH_lt, putC_lt, putU_none, condB_false, avO_some, unT, extractT, loadT, nilCheckT, lenT_nil, fieldAddrT, allocT, storeT, opS, opV, Go.Mx.look, seqK, Fr.known, Fr.newBox, dropBp, mapO, unA, extractA, cellsA_agg, okPart_agg, partA, loadA, loadS, plusS, nilCheckS, newK, storeS, headK, getV, getB, chkP, firstReg, lookT_some, opA_lookup, sz23, ag23, Tryd.underlying23, sz48, ag48, Tryd.underlying51, sz62, ze62, Tryd.underlying62, hc, hlk, Go.Mx.valOf, zA62, splice]
    refine LoopC.intro (fun n xs _ H2 => xs = [.ptr a 0 0, .v (.string (tx id)), .v (.bool false), .v (.slice none 0 0), .v (.int .i64 0), .v (.int .i64 0)] ∧ H2 = H) 0 ⟨by simp, rfl⟩ ?_
    rintro n xs bs H2 ⟨rfl, rfl⟩
    simp [ev_seq, ev_cond2, ev_exit, ev_region2, evOps_nil, evOps_cons, opG_none, opA_move, opA_bin, opA_load, opA_fieldAddr, opA_nilCheck, putO_some, putH_lt, condB_false, binT_some, binA, avO_some, loadT, nilCheckT, fieldAddrT, io_lss, opS, opV, Go.Mx.look, seqK, blockK, Fr.known, partA, loadA, loadS, plusS, nilCheckS, mkFr, slotsOf, ptrsOf, boxesOf, orO_some, eqT_some, delT_some, opA_delete, tk3, sz48, ag48, Tryd.underlying51, hc]
    refine h1.t.del (l' := txA (remL L id)) Tryd.underlying48 (txA_rem L id) (fun H3 ht3 hs3 hl3 => ?_)
    simp [ev_seq, ev_ret, ev_region2, evOps_nil, evOps_cons, opG_none, opA_move, opA_assign, putO_some, putH_lt, putC_none, opS, opV, Go.Mx.look, seqK, retK, retA, resA, mapO]
    exact hend v W H2 h1 (h2.cong hpr) (Same.refl _ _) (fun j hj => hj) H3 ht3 hs3
theorem removeN_sp (v : AV) (id : LB) (H : Hp) (Q : AV → Hp → Prop) (hv : NoIx H v) (h : Q (.v (.bool false)) H) : Sp Tryd.prog 22 [v, .v (.string (tx id))] Q H := by
  refine Sp.body [(5, ⟨[0, 1, 6, 24, 25, 26], [], []⟩)] ⟨[5], [], []⟩ [] mo Tryd.func22 rfl (Nat.le_of_ble_eq_true rfl) (by kernel_rfl) ?_
  simp [ev_seq, ev_region2, evOps_nil, evOps_cons, opG_none, opA_move, opA_assign, opA_call, putO_some, putH_lt, opS, opV, Go.Mx.look, fr0, argSlots, seqK, mapO, callA, ok28]
  refine madeN_sp v H _ hv ?_
  simp [ev_seq, ev_cond2, ev_ret, ev_region2, evOps_nil, evOps_cons, opG_none, opA_assign, opA_un, putO_some, putH_lt, putC_lt, condB_true, unT, opS, opV, Go.Mx.look, seqK, Fr.known, retK, retA, resA, mapO, unA]
  exact h
end Go.Proofs.YtoakdmkjlpjahaaDoor

namespace Go.Proofs.YtoakdmkjlpjahaaDoor
set_option linter.unusedVariables false
set_option linter.unusedSimpArgs false
set_option linter.unnecessarySimpa false
set_option maxRecDepth 100000

def laySortF_ren : Go.Shelf.Ren := ⟨fun | 6 => 33 | 15 => 56 | 14 => 55 | 28 => 74 | 29 => 75 | 20 => 66 | 21 => 67 | 22 => 68 | 23 => 69 | 24 => 70 | 25 => 71 | 26 => 72 | 27 => 73 | 46 => 80 | 47 => 81 | 48 => 82 | 49 => 83 | 50 => 84 | 57 => 85 | n => n, fun | 22 => 23 | 24 => 9 | 25 => 74 | 3 => 3 | 39 => 92 | 0 => 0 | 53 => 112 | 55 => 114 | 4 => 4 | 46 => 106 | 45 => 105 | 50 => 66 | 5 => 5 | 9 => 9 | 66 => 123 | 70 => 127 | 76 => 129 | 77 => 102 | n => n, fun n => n⟩
theorem laySortF : Go.Proofs.SlLaysF.n6 Tryd.prog laySortF_ren := { mixed := by kernel_rfl, f6 := ⟨ "slices.SortFunc[[]string,string]", of_decide_eq_true (by kernel_rfl), Tryd.func33.trans (congrArg some (by kernel_rfl))⟩, f14 := ⟨ "slices.pdqsortCmpFunc[string]", of_decide_eq_true (by kernel_rfl), Tryd.func55.trans (congrArg some (by kernel_rfl))⟩, f15 := Tryd.func56.trans (congrArg some (by kernel_rfl)), f20 := ⟨ "slices.insertionSortCmpFunc[string]", of_decide_eq_true (by kernel_rfl), Tryd.func66.trans (congrArg some (by kernel_rfl))⟩, f21 := ⟨ "slices.heapSortCmpFunc[string]", of_decide_eq_true (by kernel_rfl), Tryd.func67.trans (congrArg some (by kernel_rfl))⟩, f22 := ⟨ "slices.breakPatternsCmpFunc[string]", of_decide_eq_true (by kernel_rfl), Tryd.func68.trans (congrArg some (by kernel_rfl))⟩, f23 := ⟨ "slices.choosePivotCmpFunc[string]", of_decide_eq_true (by kernel_rfl), Tryd.func69.trans (congrArg some (by kernel_rfl))⟩, f24 := ⟨ "slices.reverseRangeCmpFunc[string]", of_decide_eq_true (by kernel_rfl), Tryd.func70.trans (congrArg some (by kernel_rfl))⟩, f25 := ⟨ "slices.partialInsertionSortCmpFunc[string]", of_decide_eq_true (by kernel_rfl), Tryd.func71.trans (congrArg some (by kernel_rfl))⟩, f26 := ⟨ "slices.partitionEqualCmpFunc[string]", of_decide_eq_true (by kernel_rfl), Tryd.func72.trans (congrArg some (by kernel_rfl))⟩, f27 := ⟨ "slices.partitionCmpFunc[string]", of_decide_eq_true (by kernel_rfl), Tryd.func73.trans (congrArg some (by kernel_rfl))⟩, f28 := Tryd.func74.trans (congrArg some (by kernel_rfl)), f29 := Tryd.func75.trans (congrArg some (by kernel_rfl)), f46 := ⟨ "slices.siftDownCmpFunc[string]", of_decide_eq_true (by kernel_rfl), Tryd.func80.trans (congrArg some (by kernel_rfl))⟩, f47 := Tryd.func81.trans (congrArg some (by kernel_rfl)), f48 := Tryd.func82.trans (congrArg some (by kernel_rfl)), f49 := ⟨ "slices.medianAdjacentCmpFunc[string]", of_decide_eq_true (by kernel_rfl), Tryd.func83.trans (congrArg some (by kernel_rfl))⟩, f50 := ⟨ "slices.medianCmpFunc[string]", of_decide_eq_true (by kernel_rfl), Tryd.func84.trans (congrArg some (by kernel_rfl))⟩, f57 := ⟨ "slices.order2CmpFunc[string]", of_decide_eq_true (by kernel_rfl), Tryd.func85.trans (congrArg some (by kernel_rfl))⟩, t0 := Tryd.underlying0, a0 := Tryd.isAgg0, z0 := Tryd.sizeOf0, v0 := Tryd.zeroValue0, t3 := Tryd.underlying3, a3 := Tryd.isAgg3, z3 := Tryd.sizeOf3, v3 := Tryd.zeroValue3, t4 := Tryd.underlying4, a4 := Tryd.isAgg4, z4 := Tryd.sizeOf4, v4 := Tryd.zeroValue4, t5 := Tryd.underlying5, a5 := Tryd.isAgg5, z5 := Tryd.sizeOf5, v5 := Tryd.zeroValue5, t9 := Tryd.underlying9, a9 := Tryd.isAgg9, z9 := Tryd.sizeOf9, v9 := Tryd.zeroValue9, t22 := Tryd.underlying23, a22 := Tryd.isAgg23, z22 := Tryd.sizeOf23, v22 := Tryd.zeroValue23, a24 := Tryd.isAgg9, z24 := Tryd.sizeOf9, t25 := Tryd.underlying74, a25 := Tryd.isAgg74, z25 := Tryd.sizeOf74, v25 := Tryd.zeroValue74, t39 := Tryd.underlying92, a39 := Tryd.isAgg92, z39 := Tryd.sizeOf92, v39 := Tryd.zeroValue92, t45 := Tryd.underlying105, a45 := Tryd.isAgg105, z45 := Tryd.sizeOf105, v45 := Tryd.zeroValue105, t46 := Tryd.underlying106, a46 := Tryd.isAgg106, z46 := Tryd.sizeOf106, v46 := Tryd.zeroValue106, t50 := Tryd.underlying66, a50 := Tryd.isAgg66, z50 := Tryd.sizeOf66, v50 := Tryd.zeroValue66, t53 := Tryd.underlying112, a53 := Tryd.isAgg112, z53 := Tryd.sizeOf112, v53 := Tryd.zeroValue112, t55 := Tryd.underlying114, a55 := Tryd.isAgg114, z55 := Tryd.sizeOf114, v55 := Tryd.zeroValue114, t66 := Tryd.underlying123, a66 := Tryd.isAgg123, z66 := Tryd.sizeOf123, v66 := Tryd.zeroValue123, t70 := Tryd.underlying127, a70 := Tryd.isAgg127, z70 := Tryd.sizeOf127, v70 := Tryd.zeroValue127, t76 := Tryd.underlying129, a76 := Tryd.isAgg129, z76 := Tryd.sizeOf129, v76 := Tryd.zeroValue129, t77 := Tryd.underlying102, a77 := Tryd.isAgg102, z77 := Tryd.sizeOf102, v77 := Tryd.zeroValue102 }

open Go.Shelf Go.RowKit Go.Sort
/-! ### The comparing function, walked -/
def cmpZ (a b : Int) : Int := if a < b then -1 else if b < a then 1 else 0
def cmpL (a b : List UInt8) : Int := if a < b then -1 else if b < a then 1 else 0
theorem nanI_calls (a : Int) (W : World) : Calls Tryd.prog 57 #[.int .i64 a] W fun e w' => e = .returned (.bool false) ∧ w' = W := by
  go_enter Tryd.func57, Tryd.ntmps57
  go_wp2
  go_ret
  exact ⟨rfl, rfl⟩
theorem nanS_calls (a : List UInt8) (W : World) : Calls Tryd.prog 58 #[.string (Go.Mx.tx a)] W fun e w' => e = .returned (.bool false) ∧ w' = W := by
  go_enter Tryd.func58, Tryd.ntmps58
  go_wp2
  go_ret
  exact ⟨rfl, rfl⟩
theorem cmpI_calls (a b : Int) (W : World) : Calls Tryd.prog 36 #[.int .i64 a, .int .i64 b] W fun e w' => e = .returned (.int .i64 (cmpZ a b)) ∧ w' = W := by
  unfold cmpZ
  by_cases h1 : a < b
  · rw [if_pos h1]
    go_enter Tryd.func36, Tryd.ntmps36
    go_wp2_with (go_at_call 57; refine (nanI_calls _ _).mono ?_; rintro e w' ⟨rfl, rfl⟩)
    all_goals (go_ret; exact ⟨rfl, rfl⟩)
  · rw [if_neg h1]
    by_cases h2 : b < a
    · rw [if_pos h2]
      go_enter Tryd.func36, Tryd.ntmps36
      go_wp2_with (go_at_call 57; refine (nanI_calls _ _).mono ?_; rintro e w' ⟨rfl, rfl⟩)
      all_goals (go_ret; exact ⟨rfl, rfl⟩)
    · rw [if_neg h2]
      go_enter Tryd.func36, Tryd.ntmps36
      go_wp2_with (go_at_call 57; refine (nanI_calls _ _).mono ?_; rintro e w' ⟨rfl, rfl⟩)
      all_goals (go_ret; exact ⟨rfl, rfl⟩)
theorem run_gtr (a b : List UInt8) (W : World) : (binOp .gtr 9 (.string (Go.Mx.tx a)) (.string (Go.Mx.tx b))).run Tryd.prog W = .ok (.bool (decide (b < a))) W := by
  have : (!(Op.bytesLess (Go.Mx.tx a).toList (Go.Mx.tx b).toList || (Go.Mx.tx a).toList == (Go.Mx.tx b).toList)) = decide (b < a) := by
    rw [Go.Proofs.bytesLess_eq, Go.Mx.tx_list, Go.Mx.tx_list]
    by_cases h1 : a < b
    · have h2 : ¬ b < a := fun h => List.lt_irrefl _ (List.lt_trans h1 h)
      simp [h1, h2]
    · by_cases h2 : b < a
      · have h3 : a ≠ b := fun e => by subst e; exact List.lt_irrefl _ h2
        simp [h1, h2, h3]
      · have h3 : a = b := List.le_antisymm (List.not_lt.1 h2) (List.not_lt.1 h1)
        subst h3
        simp [h1]
  rw [← this]
  rfl
theorem run_lss (a b : List UInt8) (W : World) : (binOp .lss 9 (.string (Go.Mx.tx a)) (.string (Go.Mx.tx b))).run Tryd.prog W = .ok (.bool (decide (a < b))) W := by
  have : Op.bytesLess (Go.Mx.tx a).toList (Go.Mx.tx b).toList = decide (a < b) := by
    rw [Go.Proofs.bytesLess_eq, Go.Mx.tx_list, Go.Mx.tx_list]
  rw [← this]
  rfl
theorem cmpS_calls (a b : List UInt8) (W : World) : Calls Tryd.prog 37 #[.string (Go.Mx.tx a), .string (Go.Mx.tx b)] W fun e w' => e = .returned (.int .i64 (cmpL a b)) ∧ w' = W := by
  unfold cmpL
  have e1 : Op.bytesLess (Go.Mx.tx a).toList (Go.Mx.tx b).toList = decide (a < b) := by rw [Go.Proofs.bytesLess_eq, Go.Mx.tx_list, Go.Mx.tx_list]
  by_cases h1 : a < b
  · rw [if_pos h1]
    have e3 : Op.bytesLess (Go.Mx.tx a).toList (Go.Mx.tx b).toList = true := by rw [e1]; simp [h1]
    clear e1
    go_enter Tryd.func37, Tryd.ntmps37
    go_wp2_with (go_at_call 58; refine (nanS_calls _ _).mono ?_; rintro e w' ⟨rfl, rfl⟩)
    all_goals (go_ret; exact ⟨rfl, rfl⟩)
  · rw [if_neg h1]
    have e3 : Op.bytesLess (Go.Mx.tx a).toList (Go.Mx.tx b).toList = false := by rw [e1]; simp [h1]
    clear e1
    by_cases h2 : b < a
    · rw [if_pos h2]
      go_enter Tryd.func37, Tryd.ntmps37
      go_wp2_with (go_at_call 58; refine (nanS_calls _ _).mono ?_; rintro e w' ⟨rfl, rfl⟩)
      rw [run_gtr, decide_eq_true h2]
      simp only [Result.andThen]
      rw [Oper.upon_value]
      go_wp2
      all_goals (go_ret; exact ⟨rfl, rfl⟩)
    · rw [if_neg h2]
      go_enter Tryd.func37, Tryd.ntmps37
      go_wp2_with (go_at_call 58; refine (nanS_calls _ _).mono ?_; rintro e w' ⟨rfl, rfl⟩)
      rw [run_gtr, decide_eq_false h2]
      simp only [Result.andThen]
      rw [Oper.upon_value]
      go_wp2
      all_goals (go_ret; exact ⟨rfl, rfl⟩)
/-- cmp.Or of two. -/
theorem or_calls (a b : Int) (blk off cap : Nat) (W : World) (h0 : W.cell? ⟨blk, off, none⟩ = some (.int .i64 a)) (h1 : W.cell? ⟨blk, off + 1, none⟩ = some (.int .i64 b)) :
    Calls Tryd.prog 35 #[.slice (some ⟨blk, off, none⟩) 2 cap] W fun e w' => e = .returned (.int .i64 (if a ≠ 0 then a else b)) ∧ w' = W := by
  have h0' : W.cell? ⟨blk, off + 0, none⟩ = some (.int .i64 a) := h0
  by_cases ha : a = 0
  · subst ha
    rw [if_neg (by simp)]
    by_cases hb : b = 0
    · subst hb
      go_enter Tryd.func35, Tryd.ntmps35
      go_wp2
      go_rounds 3
      all_goals (go_ret; exact ⟨rfl, rfl⟩)
    · go_enter Tryd.func35, Tryd.ntmps35
      go_wp2
      go_rounds 3
      all_goals (go_ret; exact ⟨rfl, rfl⟩)
  · rw [if_pos ha]
    go_enter Tryd.func35, Tryd.ntmps35
    go_wp2
    go_rounds 2
    all_goals (go_ret; exact ⟨rfl, rfl⟩)

/-! ### The closure that Find sorts by -/
theorem run_field62 (ti : Int) (r : Value) (W : World) : (Instr.field 62 (.agg #[.int .i64 ti, r]) 0).run Tryd.prog W = .ok (.int .i64 ti) W := by
  have := run_underlying (w := W) Tryd.underlying62
  have a2 := Tryd.isAgg2 W
  simp [Instr.field, this, part]
  rfl

theorem two0 (a b : Value) (W : World) : (W.alloc (.cells #[a, b] 3)).drew.cell? ⟨W.heap.size, 0, none⟩ = some a := by
  have : (W.alloc (.cells #[a, b] 3)).drew.heap[W.heap.size]? = some (.cells #[a, b] 3 (0, 0)) := heap_alloc_new W _
  simp only [World.cell?, this]; rfl
theorem two1 (a b : Value) (W : World) : (W.alloc (.cells #[a, b] 3)).drew.cell? ⟨W.heap.size, 0 + 1, none⟩ = some b := by
  have : (W.alloc (.cells #[a, b] 3)).drew.heap[W.heap.size]? = some (.cells #[a, b] 3 (0, 0)) := heap_alloc_new W _
  simp only [World.cell?, this]; rfl
def cmp2 (tx_ ty : Int) (x y : List UInt8) : Int := if cmpZ ty tx_ ≠ 0 then cmpZ ty tx_ else cmpL y x
set_option maxHeartbeats 2000000 in
theorem cmp_calls (bx bo xb xo mb : Nat) (x y : List UInt8) (tx_ ty : Int) (rx ry : Value) (W : World)
    (hb : bx < W.heap.size) (hxb : xb < W.heap.size)
    (h0 : W.cell? ⟨bx, bo, none⟩ = some (.pointer (some ⟨xb, xo, none⟩))) (h1 : W.cell? ⟨xb, xo, none⟩ = some (.map (some mb)))
    (hx1 : (Instr.lookup 48 (.map (some mb)) (.string (Go.Mx.tx x)) false).run Tryd.prog W.drew = .ok (.agg #[.int .i64 tx_, rx]) W.drew)
    (hy1 : (Instr.lookup 48 (.map (some mb)) (.string (Go.Mx.tx y)) false).run Tryd.prog W.drew = .ok (.agg #[.int .i64 ty, ry]) W.drew) :
    Calls Tryd.prog 34 #[.string (Go.Mx.tx x), .string (Go.Mx.tx y), .pointer (some ⟨bx, bo, none⟩)] W fun e w' => e = .returned (.int .i64 (cmp2 tx_ ty x y)) ∧ ∃ q os, w' = Go.Sort.grow (W.drewN q) os := by
  have hor : ∀ blk off cap W, _ → _ → Calls Tryd.prog 35 _ W fun e w' => e = .returned (.int .i64 (cmp2 tx_ ty x y)) ∧ w' = W := fun blk off cap W h0 h1 => or_calls (cmpZ ty tx_) (cmpL y x) blk off cap W h0 h1
  generalize cmp2 tx_ ty x y = r at hor ⊢
  go_enter Tryd.func34, Tryd.ntmps34
  go_wp2
  have hmx : Tryd.prog.follows .mixedOrders = true := Go.Proofs.YtoakdmkjlpjahaaDoor.mo
  have hf := fun ti r W => run_field62 ti r W
  go_still_tail 18, hmx
  still_call (cmpI_calls ty tx_ _)
  still_step
  still_step
  still_call (cmpS_calls y x _)
  refine wpStill_nil ?_
  go_wp2_with (go_at_call 35; refine (hor _ _ _ _ ?_ ?_).mono ?_)
  · exact two0 _ _ W
  · exact two1 _ _ W
  · rintro e w' ⟨rfl, rfl⟩
    go_wp2
    go_ret
    refine ⟨rfl, 1, #[.cells #[.int .i64 (cmpZ ty tx_), .int .i64 (cmpL y x)] 3 (0, 0)], ?_⟩
    rw [alloc_eq_grow]; rfl
end Go.Proofs.YtoakdmkjlpjahaaDoor

namespace Go.Proofs.YtoakdmkjlpjahaaDoor
open Go.Mx
set_option linter.unusedVariables false
set_option linter.unusedSimpArgs false
set_option linter.unnecessarySimpa false
set_option maxRecDepth 100000

/-! ### The order of what is found -/
def tsOf (L : List Tx3) (x : LB) : Int := match L.find? (fun t => decide (t.id = x)) with
  | some t => t.ts
  | none => 0
def cmpT (L : List Tx3) (x y : LB) : Int := cmp2 (tsOf L x) (tsOf L y) x y
def befT (L : List Tx3) (x y : LB) : Prop := tsOf L y < tsOf L x ∨ (tsOf L y = tsOf L x ∧ y < x)
theorem cmpT_lt (L : List Tx3) (x y : LB) : cmpT L x y < 0 ↔ befT L x y := by
  unfold cmpT cmp2 cmpZ cmpL befT
  by_cases h1 : tsOf L y < tsOf L x
  · simp [h1]
  · by_cases h2 : tsOf L x < tsOf L y
    · have h3 : tsOf L y ≠ tsOf L x := by omega
      simp [h1, h2, h3]
    · have h3 : tsOf L y = tsOf L x := by omega
      by_cases h4 : y < x
      · simp [h3, h4]
      · by_cases h5 : x < y
        · simp [h3, h4, h5]
        · simp [h3, h4, h5]
theorem ltOf_befT (L : List Tx3) (x y : LB) : (ltOf (cmpT L) x y = true) ↔ befT L x y := by
  unfold ltOf; rw [decide_eq_true_eq, cmpT_lt]
theorem ltOf_not (L : List Tx3) (x y : LB) : (ltOf (cmpT L) x y = false) ↔ ¬ befT L x y := by
  rw [← ltOf_befT]; simp
theorem tri (a b : LB) : a < b ∨ a = b ∨ b < a := by
  rcases Classical.em (a < b) with h | h
  · exact .inl h
  · rcases Classical.em (b < a) with h2 | h2
    · exact .inr (.inr h2)
    · exact .inr (.inl (List.le_antisymm (List.not_lt.1 h2) (List.not_lt.1 h)))
theorem befT_irr (L : List Tx3) (x : LB) : ¬ befT L x x := by
  rintro (h | ⟨_, h⟩)
  · omega
  · exact List.lt_irrefl _ h
theorem befT_trans (L : List Tx3) {x y z : LB} (h : befT L x y) (k : befT L y z) : befT L x z := by
  unfold befT at *
  rcases h with h | ⟨h, h'⟩ <;> rcases k with k | ⟨k, k'⟩
  · left; omega
  · left; omega
  · left; omega
  · right; exact ⟨by omega, List.lt_trans k' h'⟩
theorem befT_tri (L : List Tx3) (x y : LB) : befT L x y ∨ x = y ∨ befT L y x := by
  unfold befT
  rcases Int.lt_trichotomy (tsOf L y) (tsOf L x) with h | h | h
  · exact .inl (.inl h)
  · rcases tri y x with h2 | h2 | h2
    · exact .inl (.inr ⟨h, h2⟩)
    · exact .inr (.inl h2.symm)
    · exact .inr (.inr (.inr ⟨h.symm, h2⟩))
  · exact .inr (.inr (.inl h))
theorem swoT (L : List Tx3) : Go.Sort.SWO (ltOf (cmpT L)) where
  irrefl x := (ltOf_not L x x).2 (befT_irr L x)
  trans x y z h k := (ltOf_befT L x z).2 (befT_trans L ((ltOf_befT L x y).1 h) ((ltOf_befT L y z).1 k))
  ntrans x y z h k := by
    rw [ltOf_not] at *
    intro hxz
    rcases befT_tri L x y with h1 | rfl | h1
    · exact h h1
    · exact k hxz
    · exact k (befT_trans L h1 hxz)
theorem totT (L : List Tx3) (x y : LB) (h1 : ltOf (cmpT L) x y = false) (h2 : ltOf (cmpT L) y x = false) : x = y := by
  rw [ltOf_not] at *
  rcases befT_tri L x y with h | h | h
  · exact absurd h h1
  · exact h
  · exact absurd h h2
def sortT (L : List Tx3) (l : List LB) : List LB := l.mergeSort (fun x y => !(ltOf (cmpT L)) y x)
theorem sortT_perm (L : List Tx3) (l : List LB) : (sortT L l).Perm l := List.mergeSort_perm _ _
theorem sortT_len (L : List Tx3) (l : List LB) : (sortT L l).length = l.length := (sortT_perm L l).length_eq
theorem look_ts {H : Hp} {mt : Nat} {L : List Tx3} (ht : AsAt H mt (txA L)) (x : LB) : ∃ r, lookV Tryd.prog H 48 (.mp mt) (.v (.string (tx x))) false = some (.agg [.v (.int .i64 (tsOf L x)), r]) := by
  unfold tsOf
  cases hf : L.find? (fun t => decide (t.id = x)) with
  | none =>
    have hno : ∀ p ∈ txA L, p.1 ≠ x := fun p hp e => by
      obtain ⟨t, ht, rfl⟩ := List.mem_map.1 hp
      have := List.find?_eq_none.1 hf t ht
      simp at this; exact this e
    rw [ht.no (t := 48) Tryd.underlying48 hno false]
    exact ⟨.v (.slice none 0 0), by simp [Go.Mx.valOf, zA62]⟩
  | some t =>
    have h1 := List.mem_of_find?_eq_some hf
    have h2 : t.id = x := by simpa using List.find?_some hf
    rw [ht.look (t := 48) Tryd.underlying48 (x := x) (v := txV t) (List.mem_map.2 ⟨t, h1, by rw [h2]⟩) false]
    exact ⟨rowT (wordsL t.s), by simp [Go.Mx.valOf, txV]⟩
theorem agg_ts {ρ : Rho} {I : Imm} {t : Int} {r : AV} {u : Value} (h : VR ρ I (.agg [.v (.int .i64 t), r]) u) : ∃ ru, u = .agg #[.int .i64 t, ru] := by
  cases h with
  | agg _ us h1 h2 h3 =>
    match us, h1, h2 with
    | [a, b], _, h2 =>
      have e0 : VR ρ I (.v (.int .i64 t)) a := by simpa using h2 0 _ rfl
      have := e0.v_is; subst this
      exact ⟨b, rfl⟩
section
variable {ρ : Rho} {I : Imm} {H : Hp} {w : World}
/-- A row of texts that is turned in place. -/
theorem turn_mv (hs : StH ρ I H w) {id ver : Nat} {tl : List AV} {l : List LB} {lo : Go.Mx.Loc} (hid : H[id]? = some (.cells ver (l.flatMap txC ++ tl))) (hlo : ρ id ver = some lo) (dk : List LB) (hl : dk.length = l.length) (m : Nat) (os : Array Obj) :
    Mv ρ I H w ρ I (H.set id (.cells ver (dk.flatMap txC ++ tl))) (Go.Sort.grow (Go.Sort.putRow encStr (Go.Sort.ahead w m) lo.blk (lo.base + 0) dk.toArray) os) := by
  obtain ⟨hver, l', hl2, hcell⟩ := hs.obj _ _ hid
  rw [hlo] at hl2; simp at hl2; subst hl2
  have hcell' := hcell.inRow (enc := encStr) (off := 0) (fun _ => rfl) dk.toArray (by simp [flat_len txC_len]; omega) m os
  have e4 : splice (l.flatMap txC ++ tl) 0 (dk.map (fun x => AV.v (encStr x))) = dk.flatMap txC ++ tl := by
    unfold splice
    rw [List.length_map, hl, List.take_zero, List.nil_append, Nat.zero_add]
    have e6 : (l.flatMap txC ++ tl).drop l.length = tl := by
      rw [List.drop_append_of_le_length (by rw [flat_len txC_len]; omega), List.drop_of_length_le (by rw [flat_len txC_len]; omega)]; rfl
    rw [e6, flat_st]
    simp [stC]
    exact fun _ _ => rfl
  have e5 : dk.toArray.toList = dk := by simp
  rw [e5, e4] at hcell'
  exact Mv.write (ob := .cells ver (dk.flatMap txC ++ tl)) hs hid (b0 := lo.blk) (by simp [blkOf, hlo]) (Gw.inRow w lo.blk (lo.base + 0) (enc := encStr) dk.toArray m os) (Ext.refl _ _) (fun _ _ _ => rfl) (b1 := lo.blk) (.inl rfl) ⟨hver, lo, hlo, hcell'⟩ (by simp [blkOf, hlo])
end
set_option maxHeartbeats 1000000 in
/-- slices.SortFunc of what was found. -/
theorem sort_sp {id ver bx a mt mw : Nat} {v : AV} {L : List Tx3} {W : List Ent} {tl : List AV} (l : List LB) (H : Hp) (Q : AV → Hp → Prop) (hid : H[id]? = some (.cells ver (l.flatMap txC ++ tl))) (hb : l.length ≤ 100000)
    (hbx : H[bx]? = some (.cells 0 [.ptr a 0 0])) (hp : IxR H a mt mw v L W) (hn1 : id ∉ fpX a mt mw v W) (hn2 : id ≠ bx)
    (h : Q (.tup []) (H.set id (.cells ver ((sortT L l).flatMap txC ++ tl)))) : Sp Tryd.prog 33 [.sl id ver 1 0 l.length, .fn (.func 34) [] [.ptr bx 0 0]] Q H := by
  intro ρ I w us hs hv
  have hln := hv.1
  match us, hln, hv with
  | [u, u1], _, hv =>
    have h0 : VR ρ I (.sl id ver 1 0 l.length) u := by simpa using hv.2 0 _ rfl
    have hf : VR ρ I (.fn (.func 34) [] [.ptr bx 0 0]) u1 := by simpa using hv.2 1 _ rfl
    obtain ⟨lb, hlb, rfl⟩ : ∃ lb, ρ bx 0 = some lb ∧ u1 = .func (.func 34) #[] #[.pointer (some ⟨lb.blk, lb.base + 0, none⟩)] := by
      cases hf with
      | fn _ _ _ us vs q1 q2 q3 q4 =>
        have : us = [] := List.eq_nil_of_length_eq_zero q1
        subst this
        match vs, q3, q4 with
        | [p], _, q4 =>
          have e0 : VR ρ I (.ptr bx 0 0) p := by simpa using q4 0 _ rfl
          cases e0 with
          | ptr _ _ _ lb hlb => exact ⟨lb, hlb, rfl⟩
    cases h0 with
    | sl _ _ _ _ _ lo cap hlo hn hcap hmx =>
      have hob := hs.obj _ _ hid
      obtain ⟨hver, l', hl2, hcell⟩ := hob
      rw [hlo] at hl2; simp at hl2; subst hl2
      have hlt : lo.blk < w.heap.size := by obtain ⟨arr, T, k1, _⟩ := hcell; exact (Array.getElem?_eq_some_iff.1 k1).1
      have hH : Go.Sort.Holds encStr w lo.blk (lo.base + 0) l.toArray := by
        obtain ⟨arr, T, k1, k2, k3, k4⟩ := hcell
        intro j hj
        simp only [List.size_toArray] at hj
        have hc : (l.flatMap txC ++ tl)[j]? = some (.v (.string (tx l[j]))) := by
          rw [List.getElem?_append_left (by rw [flat_len txC_len]; omega), flat_st, List.getElem?_map]
          simp [stC, hj]
        obtain ⟨u, hu, hvr, _⟩ := k4 j _ hc
        have e := hvr.v_is
        subst e
        refine ⟨?_, ?_⟩
        · simp only [World.cell?, k1, Nat.add_zero, hu]
          rw [getElem!_pos l.toArray j (by simpa using hj)]
          simp; rfl
        · simp [World.frozen?, k1]
      have hcmp : CmpLays1 Tryd.prog 34 #[.pointer (some ⟨lb.blk, lb.base + 0, none⟩)] encStr (cmpT L) lo.blk (lo.base + 0) l.toArray.size w := by
        intro m os dk hdk x y
        have hm := turn_mv hs hid hlo dk.toList (by simpa using hdk) m os
        have hst := hm.st
        have hda : dk.toList.toArray = dk := by simp
        rw [hda] at hst
        have hW : Go.Sort.grow (Go.Sort.putRow encStr (Go.Sort.ahead w m) lo.blk (lo.base + 0) dk) os = sortWorld encStr w lo.blk (lo.base + 0) m dk os := rfl
        rw [hW] at hst
        generalize sortWorld encStr w lo.blk (lo.base + 0) m dk os = W' at hst ⊢
        have hsame : Same [id] H (H.set id (.cells ver (dk.toList.flatMap txC ++ tl))) := Same.set (by simp)
        generalize H.set id (.cells ver (dk.toList.flatMap txC ++ tl)) = H' at hst hsame
        have hp' := hp.same hsame (fun j hj => by simp; exact fun q => hn1 (q ▸ hj))
        have hbx' := hsame.2 _ _ hbx (by simp; exact fun q => hn2 q.symm)
        obtain ⟨_, lb', hlb', arrb, Tb, b1, b2, b3, b4⟩ := hst.obj _ _ hbx'
        rw [hlb] at hlb'; simp at hlb'; subst hlb'
        obtain ⟨ub, hub, hvb, _⟩ := b4 0 _ rfl
        obtain ⟨_, la, hla, arra, Ta, a1, a2, a3, a4⟩ := hst.obj _ _ hp'.c
        obtain ⟨ua, hua, hva, _⟩ := a4 0 _ rfl
        have hub2 : ub = .pointer (some ⟨la.blk, la.base + 0, none⟩) := by
          cases hvb with
          | ptr _ _ _ l2 hl2 => rw [hla] at hl2; simp at hl2; subst hl2; rfl
        obtain ⟨lm, hlm, hua2⟩ : ∃ lm, ρ mt 0 = some lm ∧ ua = .map (some lm.blk) := by
          cases hva with
          | mp _ lm hlm => exact ⟨lm, hlm, rfl⟩
        subst hub2; subst hua2
        obtain ⟨rx, hrx⟩ := look_ts hp'.t x
        obtain ⟨ry, hry⟩ := look_ts hp'.t y
        have hvm : VR ρ I (.mp mt) (.map (some lm.blk)) := .mp mt lm hlm
        have hq : StH ρ I H' W'.drew := (Mv.junk hst (Gw.drew W')).st
        have key : ∀ (z : LB) (tz : Int) (rz : AV), lookV Tryd.prog H' 48 (.mp mt) (.v (.string (tx z))) false = some (.agg [.v (.int .i64 tz), rz]) → ∃ rv, (Instr.lookup 48 (.map (some lm.blk)) (.string (tx z)) false).run Tryd.prog W'.drew = .ok (.agg #[.int .i64 tz, rv]) W'.drew := fun z tz rz hz => by
          obtain ⟨u0, hu0, hv0⟩ := lookV_sound hq hvm (.v (.string (tx z))) hz
          obtain ⟨ru, rfl⟩ := agg_ts hv0
          exact ⟨ru, hu0⟩
        obtain ⟨rvx, hx2⟩ := key x _ _ hrx
        obtain ⟨rvy, hy2⟩ := key y _ _ hry
        have hargs : (#[encStr x, encStr y] ++ #[Value.pointer (some ⟨lb.blk, lb.base + 0, none⟩)] : Array Value) = #[.string (tx x), .string (tx y), .pointer (some ⟨lb.blk, lb.base + 0, none⟩)] := rfl
        rw [hargs]
        have hcb : W'.cell? ⟨lb.blk, lb.base + 0, none⟩ = some (.pointer (some ⟨la.blk, la.base + 0, none⟩)) := by simpa [World.cell?, b1] using hub
        have hca : W'.cell? ⟨la.blk, la.base + 0, none⟩ = some (.map (some lm.blk)) := by simpa [World.cell?, a1] using hua
        have := cmp_calls lb.blk (lb.base + 0) la.blk (la.base + 0) lm.blk x y (tsOf L x) (tsOf L y) rvx rvy W' (Array.getElem?_eq_some_iff.1 b1).1 (Array.getElem?_eq_some_iff.1 a1).1 hcb hca hx2 hy2
        exact this
      have hsz : l.toArray.size = l.length := by simp
      have eg : ∀ args w, (callFunc 34 args).run Tryd.prog w = .ok (.enter 34 args) w := enters_of Tryd.func34 (by kernel_rfl) rfl
      have hc := Any.slices_SortFunc_total laySortF encStr (fun _ => rfl) (cmpT L) (swoT L) 34 #[.pointer (some ⟨lb.blk, lb.base + 0, none⟩)] lo.blk (lo.base + 0) cap l.toArray w eg hcmp hH hlt (by rw [hsz]; omega) (totT L)
      rw [hsz] at hc
      refine hc.mono ?_
      rintro e w' ⟨rfl, m, os, rfl⟩
      have e5 : l.toArray.toList = l := by simp
      rw [e5]
      exact ⟨.tup [], _, ρ, I, _, rfl, turn_mv hs hid hlo (sortT L l) (sortT_len L l) m os, .tup [] [] rfl (fun i c hc => by simp at hc), h⟩
/-- .. of nothing. -/
theorem sort0_sp (x : AV) (H : Hp) (Q : AV → Hp → Prop) (h : Q (.tup []) H) : Sp Tryd.prog 33 [.v (.slice none 0 0), x] Q H := by
  intro ρ I w us hs hv
  have hln := hv.1
  match us, hln, hv with
  | [u, u1], _, hv =>
    have h0 : VR ρ I (.v (.slice none 0 0)) u := by simpa using hv.2 0 _ rfl
    rw [h0.v_is]
    refine (AnyF.slices_SortFunc_none (P := Tryd.prog) (ρ := laySortF_ren) { laySortF with } none 0 u1 w).mono ?_
    rintro e w' ⟨rfl, rfl⟩
    exact ⟨.tup [], _, ρ, I, H, rfl, Mv.refl hs, .tup [] [] rfl (fun i c hc => by simp at hc), h⟩
end Go.Proofs.YtoakdmkjlpjahaaDoor
