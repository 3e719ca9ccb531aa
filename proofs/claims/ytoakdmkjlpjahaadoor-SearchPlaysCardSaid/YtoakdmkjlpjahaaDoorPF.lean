import Derived.Test.YtoakdmkjlpjahaaDoorPE
namespace Go.Proofs.YtoakdmkjlpjahaaDoor
open Go.Mx
set_option linter.unusedVariables false
set_option linter.unusedSimpArgs false
set_option linter.unnecessarySimpa false
set_option maxRecDepth 100000

/-! ### Prefixes -/
theorem pre_len {p s : LB} (h : p.isPrefixOf s = true) : p.length ≤ s.length := (List.isPrefixOf_iff_prefix.1 h).length_le
theorem prefix_sp (s p : LB) (H : Hp) (Q : AV → Hp → Prop) (hl : s.length ≤ 100000 ∧ p.length ≤ 100000) (h : Q (.v (.bool (p.isPrefixOf s))) H) : Sp Tryd.prog 54 [.v (.string (tx s)), .v (.string (tx p))] Q H := by
  have h65 : ∀ Q : AV → Hp → Prop, Q (.v (.bool (p.isPrefixOf s))) H → Sp Tryd.prog 65 [.v (.string (tx s)), .v (.string (tx p))] Q H := by
    intro Q h
    refine Sp.body [] ⟨[], [], []⟩ [] mo Tryd.func65 rfl (Nat.le_of_ble_eq_true rfl) (by kernel_rfl) ?_
    by_cases hle : p.length ≤ s.length
    · have hle' : (p.length : Int) ≤ (s.length : Int) := by omega
      have hp : p.isPrefixOf s = decide (s.take p.length = p) := by
        rw [Bool.eq_iff_iff, List.isPrefixOf_iff_prefix, decide_eq_true_eq, List.prefix_iff_eq_take]
        exact ⟨fun h => h.symm, fun h => h.symm⟩
      have hpe : decide (s.take p.length = p) = (s.take p.length == p) := by rw [Bool.eq_iff_iff]; simp
      rw [hp, hpe] at h
      have hsl : sliceStr (tx s) 0 (p.length : Int) = some (.v (.string (tx (s.take p.length)))) := by
        rw [sliceStr_tx s 0 p.length (by omega)]; simp
      simp [ev_seq, ev_ret, ev_region2, evOps_nil, evOps_cons, opG_none, opG_some, opJ, opU_ft, isU_bool, opK_eq, opA_move, opA_assign, opA_pick, opA_bin, opA_len, opA_slice, putO_some, putH_lt, condB_true, binT_some, binA, avO_some, pickT, lenT_str, bndT, sliceT, io_geq, strOp, opS, opV, Go.Mx.look, fr0, argSlots, seqK, Fr.known, retK, retA, resA, mapO, sliceA, orO_some, eqT_some, tk3, tk9, Tryd.underlying9, tx_size, tx_list, hle', hsl]
      exact h
    · have hle' : ¬ ((p.length : Int) ≤ (s.length : Int)) := by omega
      have hp : p.isPrefixOf s = false := by
        cases hc : p.isPrefixOf s with
        | false => rfl
        | true => exact absurd (pre_len hc) hle
      rw [hp] at h
      simp [ev_seq, ev_ret, ev_region2, evOps_nil, evOps_cons, opG_none, opG_some, opJ, opU_ft, isU_bool, opA_move, opA_assign, opA_pick, opA_bin, opA_len, putO_some, putH_lt, putV_lt, condB_false, binT_some, binA, avO_some, pickT, lenT_str, io_geq, opS, opV, Go.Mx.look, fr0, argSlots, seqK, Fr.known, retK, retA, resA, mapO, orO_some, eqT_some, tk3, Tryd.underlying9, tx_size, hle']
      exact h
  refine Sp.body [] ⟨[], [], []⟩ [] mo Tryd.func54 rfl (Nat.le_of_ble_eq_true rfl) (by kernel_rfl) ?_
  simp [ev_seq, ev_region2, evOps_nil, evOps_cons, opG_none, opA_move, opA_assign, opA_call, putO_some, putH_lt, opS, opV, Go.Mx.look, fr0, argSlots, seqK, mapO, callA, ok65]
  refine h65 _ ?_
  simp [ev_ret, evOps_nil, evOps_cons, opG_none, opA_assign, putO_some, putH_lt, putC_lt, opS, opV, Go.Mx.look, seqK, retK, retA, resA, mapO]
  exact h
/-- What a word of a query asks for. -/
def fitsW (q : W2) (o : LB) : Bool := decide (o = q.1) || (q.2 && q.1.isPrefixOf o)
theorem pre_le : ∀ (p t : LB), ¬ (p ++ t) < p
  | [], t => by intro h; cases h
  | a :: p, t => by
    intro h
    rw [List.cons_append, List.cons_lt_cons_iff] at h
    rcases h with h | ⟨_, h⟩
    · exact UInt8.lt_irrefl _ h
    · exact pre_le p t h
theorem pre_mid : ∀ (p t o : LB), ¬ o < p → ¬ (p ++ t) < o → p.isPrefixOf o = true
  | [], t, o, _, _ => by simp
  | a :: p, t, [], h1, _ => absurd (List.nil_lt_cons a p) h1
  | a :: p, t, b :: o, h1, h2 => by
    rw [List.cons_lt_cons_iff] at h1
    rw [List.cons_append, List.cons_lt_cons_iff] at h2
    have hab : a = b := by
      have h := fun e => UInt8.lt_or_lt_of_ne (a := a) (b := b) e
      by_cases e : a = b
      · exact e
      · rcases h e with h | h
        · exact absurd (.inl h) h2
        · exact absurd (.inl h) h1
    subst hab
    have := pre_mid p t o (fun h => h1 (.inr ⟨rfl, h⟩)) (fun h => h2 (.inr ⟨rfl, h⟩))
    simp [List.isPrefixOf, this]
theorem fits_ge {q : W2} {o : LB} (h : fitsW q o = true) : ¬ o < q.1 := by
  unfold fitsW at h
  simp only [Bool.or_eq_true, decide_eq_true_eq, Bool.and_eq_true] at h
  rcases h with rfl | ⟨_, h⟩
  · exact List.lt_irrefl _
  · obtain ⟨t, rfl⟩ := List.isPrefixOf_iff_prefix.1 h
    exact pre_le _ _
theorem fits_mid {q : W2} {o o2 : LB} (h : fitsW q o2 = true) (h1 : ¬ o < q.1) (h2 : ¬ o2 < o) : fitsW q o = true := by
  unfold fitsW at h ⊢
  simp only [Bool.or_eq_true, decide_eq_true_eq, Bool.and_eq_true] at h ⊢
  rcases h with rfl | ⟨hq, h⟩
  · exact .inl (List.le_antisymm (List.not_lt.1 h2) (List.not_lt.1 h1))
  · obtain ⟨t, rfl⟩ := List.isPrefixOf_iff_prefix.1 h
    exact .inr ⟨hq, pre_mid _ _ _ h1 h2⟩
end Go.Proofs.YtoakdmkjlpjahaaDoor

namespace Go.Proofs.YtoakdmkjlpjahaaDoor
open Go.Mx
set_option linter.unusedVariables false
set_option linter.unusedSimpArgs false
set_option linter.unnecessarySimpa false
set_option maxRecDepth 100000

/-! ### Sets -/
theorem stA_key {S : List LB} {f : AV → Option AV} (hf : ∀ k v, f k = some v ↔ ∃ p ∈ stA S, k = kv p.1 ∧ v = p.2) {key val : AV} (h : f key = some val) : ∃ s ∈ S, key = kv s ∧ val = .v (.bool true) := by
  obtain ⟨p, hp, rfl, rfl⟩ := (hf _ _).1 h
  obtain ⟨s, hs, rfl⟩ := List.mem_map.1 hp
  exact ⟨s, hs, rfl, rfl⟩
theorem stA_has {S : List LB} {f : AV → Option AV} (hf : ∀ k v, f k = some v ↔ ∃ p ∈ stA S, k = kv p.1 ∧ v = p.2) {s : LB} (h : s ∈ S) : f (kv s) = some (.v (.bool true)) :=
  (hf _ _).2 ⟨(s, .v (.bool true)), List.mem_map.2 ⟨s, h, rfl⟩, rfl, rfl⟩
theorem iter_obj {P : Go.Program} {kt : TypeId} {H : Hp} {i m n : Nat} {f : AV → Option AV} {done : List AV} (h : IterAt P kt H i m f n done) : ∃ a b c d, H[i]? = some (.mapIter a b c d) := by
  obtain ⟨es, c, ds, h1, _⟩ := h
  exact ⟨_, _, _, _, h1⟩
theorem iter_ne {P : Go.Program} {kt : TypeId} {H : Hp} {i m n : Nat} {f : AV → Option AV} {done : List AV} (h : IterAt P kt H i m f n done) {j : Nat} {l : AL} (hj : AsAt H j l) : i ≠ j := fun e => by
  obtain ⟨a, b, c, d, h1⟩ := iter_obj h
  obtain ⟨es, c2, h2⟩ := hj.obj
  subst e
  rw [h1] at h2; simp at h2
theorem addS_nodup {S : List LB} (h : S.Nodup) (id : LB) : (addS S id).Nodup := by
  unfold addS
  split
  · exact h
  · rename_i hn
    rw [List.nodup_append]
    exact ⟨h, by simp, fun a ha b hb => by simp at hb; subst hb; exact fun e => hn (e ▸ ha)⟩
def MeInv (H : Hp) (m1 m2 mo it N : Nat) (S1 S2 : List LB) (n : Nat) (xs : List AV) (H5 : Hp) : Prop :=
  ∃ (f : AV → Option AV) (done : List AV) (S : List LB), xs = [.mp m2, .mp mo, .it it] ∧ IterAt Tryd.prog 9 H5 it m1 f N done ∧ (∀ k v, f k = some v ↔ ∃ p ∈ stA S1, k = kv p.1 ∧ v = p.2) ∧ AsAt H5 mo (stA S) ∧ S.Nodup ∧ (∀ s, s ∈ S ↔ kv s ∈ done ∧ s ∈ S2) ∧ Same [] H H5 ∧ n = N - done.length
theorem meet_sp {m1 m2 : Nat} {S1 S2 : List LB} (H : Hp) (Q : AV → Hp → Prop) (h1 : AsAt H m1 (stA S1)) (h2 : AsAt H m2 (stA S2))
    (h : ∀ m H' S, AsAt H' m (stA S) → S.Nodup → (∀ s, s ∈ S ↔ s ∈ S1 ∧ s ∈ S2) → Same [] H H' → H.length ≤ m → Q (.mp m) H') : Sp Tryd.prog 32 [.mp m1, .mp m2] Q H := by
  refine Sp.body [(3, ⟨[1, 5, 9], [], []⟩)] ⟨[], [], []⟩ [] mo Tryd.func32 rfl (Nat.le_of_ble_eq_true rfl) (by kernel_rfl) ?_
  simp [ev_seq, ev_region2, evOps_nil, evOps_cons, opG_none, opA_move, opA_assign, opA_makeMap, putO_some, putH_lt, makeMapT, opS, opV, Go.Mx.look, fr0, argSlots, seqK, rangeT_some, opA_range, Tryd.underlying65]
  have hlt1 := h1.lt
  have hlt2 := h2.lt
  obtain ⟨f, hm, hf⟩ := h1.same (fp := []) (Same.app [] H [.map [] 0]) (by simp)
  have hmo0 : AsAt (H ++ [.map [] 0]) H.length (stA []) := AsAt.new H
  refine hm.range Tryd.underlying65 (fun H4 N hit hs4 hl4 => ?_)
  generalize hitn : (H ++ [Ob.map [] 0]).length = it at hit
  have hitl : it = H.length + 1 := by rw [← hitn]; simp
  simp [ev_block, ev_loop, loopK, evOps_nil, putC_lt, opS, opV, Go.Mx.look, seqK, mapO, headK, getV, getB, chkP, firstReg]
  have hs04 : Same [] H H4 := (Same.app [] H _).trans hs4 (by simp)
  refine LoopC.intro (fun n xs _ H5 => MeInv H m1 m2 H.length it N S1 S2 n xs H5) N ⟨f, [], [], by simp [hitl], hit, hf, hmo0.same hs4 (by simp), by simp, by simp, hs04, by simp⟩ ?_
  clear hit hs4 hl4 hs04 hm hf
  rintro n xs bx H5 ⟨f, done, S, rfl, hit, hf, hmo, hSn, hS, hs5, rfl⟩
  have h25 := h2.same hs5 (by simp)
  simp [ev_seq, ev_region2, evOps_cons, opG_none, opS, opV, Go.Mx.look, mkFr, slotsOf, ptrsOf, boxesOf, nextT_some, opA_next]
  refine hit.next (fun H6 key val hfk hkg hnd hlt hit6 hent hs6 hl6 => ?_) (fun hall => ?_)
  · obtain ⟨s, hs1, rfl, rfl⟩ := stA_key hf hfk
    have hit5 : it ∉ ([m2, H.length] : List Nat) := by simp; exact ⟨iter_ne hit h25, iter_ne hit hmo⟩
    have h26 := h25.same hs6 (by simp at hit5 ⊢; exact fun q => hit5.1 q.symm)
    have hmo6 := hmo.same hs6 (by simp at hit5 ⊢; exact fun q => hit5.2 q.symm)
    have hs56 : Same [] H H6 := hs5.trans hs6 (by simp [hitl])
    simp only [kv] at hent
    by_cases hs2 : s ∈ S2
    · have hlk := h26.look (t := 65) Tryd.underlying65 (x := s) (v := .v (.bool true)) (List.mem_map.2 ⟨s, hs2, rfl⟩) false
      simp [ev_skip, ev_seq, ev_cond2, ev_block, ev_region2, evOps_nil, evOps_cons, opG_none, opA_move, opA_assign, opA_extract, putO_some, putH_lt, putC_lt, condB_true, avO_some, extractT, opS, opV, Go.Mx.look, seqK, Fr.known, extractA, opA_entry, entryT_some, lookT_some, updT_some, opA_lookup, opA_upd, hent, hlk, Go.Mx.valOf]
      refine hmo6.upd (l' := stA (addS S s)) Tryd.underlying65 (stA_add S s) (fun H7 hmo7 hs7 hl7 => ?_)
      have hit7 := hit6.same hs7 (by simp; exact iter_ne hit6 hmo6) (by simp; omega)
      simp [evOps_nil, putU_none, opS, opV, Go.Mx.look, seqK, blockK, mapO, headK, getV, getB, chkP]
      refine ⟨N - (done.length + 1), by omega, f, done ++ [kv s], addS S s, rfl, hit7, hf, hmo7, addS_nodup hSn s, fun s' => ?_, hs56.trans hs7 (by simp), by simp⟩
      rw [mem_addS, hS]
      simp only [List.mem_append, List.mem_singleton]
      constructor
      · rintro (⟨a, b⟩ | rfl)
        · exact ⟨.inl a, b⟩
        · exact ⟨.inr rfl, hs2⟩
      · rintro ⟨a | a, b⟩
        · exact .inl ⟨a, b⟩
        · exact .inr (kv_inj a)
    · have hlk := h26.no (t := 65) Tryd.underlying65 (x := s) (fun p hp e => hs2 (by
        obtain ⟨s', hs', rfl⟩ := List.mem_map.1 hp
        simp at e; rw [← e]; exact hs')) false
      simp [ev_skip, ev_seq, ev_cond2, ev_block, ev_region2, evOps_nil, evOps_cons, opG_none, opA_move, opA_assign, opA_extract, putO_some, putH_lt, putC_lt, condB_true, condB_false, avO_some, extractT, opS, opV, Go.Mx.look, seqK, blockK, Fr.known, mapO, extractA, headK, getV, getB, chkP, opA_entry, entryT_some, lookT_some, opA_lookup, hent, hlk, Go.Mx.valOf, zA4]
      refine ⟨N - (done.length + 1), by omega, f, done ++ [kv s], S, rfl, hit6, hf, hmo6, hSn, fun s' => ?_, hs56, by simp⟩
      rw [hS]
      simp only [List.mem_append, List.mem_singleton]
      constructor
      · rintro ⟨a, b⟩; exact ⟨.inl a, b⟩
      · rintro ⟨a | a, b⟩
        · exact ⟨a, b⟩
        · exact absurd (kv_inj a ▸ b) hs2
  · simp [ev_seq, ev_cond2, ev_exit, ev_ret, ev_region2, evOps_nil, evOps_cons, opG_none, opA_move, opA_assign, opA_extract, putO_some, putH_lt, putC_lt, condB_false, extractT, opS, opV, Go.Mx.look, seqK, blockK, Fr.known, retK, retA, resA, mapO, extractA]
    refine h _ H5 S hmo hSn (fun s => ?_) hs5 (Nat.le_refl _)
    rw [hS]
    constructor
    · rintro ⟨a, b⟩
      obtain ⟨v, hv⟩ := hit.mem a
      obtain ⟨s', hs', e, _⟩ := stA_key hf hv
      exact ⟨kv_inj e ▸ hs', b⟩
    · rintro ⟨a, b⟩
      exact ⟨hall _ _ (stA_has hf a), b⟩
end Go.Proofs.YtoakdmkjlpjahaaDoor

namespace Go.Proofs.YtoakdmkjlpjahaaDoor
open Go.Mx
set_option linter.unusedVariables false
set_option linter.unusedSimpArgs false
set_option linter.unnecessarySimpa false
set_option maxRecDepth 100000

/-! ### The texts that have what a word asks for -/
def HvInv (H : Hp) (a : Nat) (q : W2) (y : AV) (ln i mo it m N : Nat) (S1 S : List LB) (n : Nat) (xs : List AV) (H5 : Hp) : Prop :=
  ∃ (f : AV → Option AV) (done : List AV) (S' : List LB), xs = [.ptr a 0 0, .mp mo, y, .v (.int .i64 ln), .v (.int .i64 i), .it it] ∧ IterAt Tryd.prog 9 H5 it m f N done ∧ (∀ k v, f k = some v ↔ ∃ p ∈ stA S1, k = kv p.1 ∧ v = p.2) ∧ AsAt H5 mo (stA S') ∧ S'.Nodup ∧ (∀ s, s ∈ S' ↔ s ∈ S ∨ kv s ∈ done) ∧ Same [] H H5 ∧ n = N - done.length
def HvO (H : Hp) (a : Nat) (q : W2) (y : AV) (k : Nat) (W : List Ent) (n : Nat) (xs : List AV) (H2 : Hp) : Prop :=
  ∃ (i : Nat) (S : List LB), i ≤ W.length - k ∧ n = W.length - k - i ∧ xs = [.ptr a 0 0, .mp H.length, y, .v (.int .i64 ((W.length - k : Nat) : Int)), .v (.int .i64 (i : Int))] ∧ AsAt H2 H.length (stA S) ∧ S.Nodup ∧ (∀ s, s ∈ S ↔ ∃ j e, j < i ∧ W[k + j]? = some e ∧ s ∈ e.S) ∧ (∀ j e, j < i → W[k + j]? = some e → fitsW q e.w = true) ∧ Same [] H H2
/-- Which entries fit: those from k on till the first that does not. -/
theorem fits_run {W : List Ent} {R : LB → LB → Prop} (hW : WOk W R) (q : W2) (i : Nat) (hF : ∀ j e, j < i → W[posL (W.map (·.w)) q.1 + j]? = some e → fitsW q e.w = true)
    (hn : ∀ e, W[posL (W.map (·.w)) q.1 + i]? = some e → fitsW q e.w = false) (s : LB) : (∃ j e, j < i ∧ W[posL (W.map (·.w)) q.1 + j]? = some e ∧ s ∈ e.S) ↔ ∃ w, fitsW q w = true ∧ R w s := by
  constructor
  · rintro ⟨j, e, hj, he, hs⟩
    exact ⟨e.w, hF j e hj he, (hW.pr _ _).1 ⟨e, List.mem_of_getElem? he, rfl, hs⟩⟩
  · rintro ⟨w, hw, hR⟩
    obtain ⟨e, he, rfl, hs⟩ := (hW.pr _ _).2 hR
    obtain ⟨t, ht⟩ := List.getElem?_of_mem he
    have htw : (W.map (·.w))[t]? = some e.w := by rw [List.getElem?_map, ht]; rfl
    have hk : posL (W.map (·.w)) q.1 ≤ t := by
      rcases Nat.lt_or_ge t (posL (W.map (·.w)) q.1) with h | h
      · exact absurd (posL_lo _ _ t _ h htw) (fits_ge hw)
      · exact h
    rcases Nat.lt_or_ge (t - posL (W.map (·.w)) q.1) i with h | h
    · exact ⟨t - posL (W.map (·.w)) q.1, e, h, by rw [show posL (W.map (·.w)) q.1 + (t - posL (W.map (·.w)) q.1) = t from by omega]; exact ht, hs⟩
    · exfalso
      have htl := (List.getElem?_eq_some_iff.1 ht).1
      have hil : posL (W.map (·.w)) q.1 + i < W.length := by omega
      have h2 := List.getElem?_eq_getElem hil
      have h3 := hn _ h2
      generalize hg : W[posL (W.map (·.w)) q.1 + i] = e2 at h2 h3
      have hew : (W.map (·.w))[posL (W.map (·.w)) q.1 + i]? = some e2.w := by rw [List.getElem?_map, h2]; rfl
      have h4 : ¬ e2.w < q.1 := posL_hi _ _ hW.lt _ _ (by omega) hew
      have h5 : ¬ e.w < e2.w := by
        rcases Nat.lt_or_ge (posL (W.map (·.w)) q.1 + i) t with h6 | h6
        · have := List.pairwise_iff_getElem.1 hW.lt _ t (by simpa using hil) (by simpa using htl) h6
          rw [(List.getElem?_eq_some_iff.1 hew).2, (List.getElem?_eq_some_iff.1 htw).2] at this
          exact lt_asym this
        · have h7 : posL (W.map (·.w)) q.1 + i = t := by omega
          rw [h7, htw] at hew
          simp at hew
          rw [hew]; exact List.lt_irrefl _
      have := fits_mid hw h4 h5
      rw [h3] at this; simp at this
set_option maxHeartbeats 2000000 in
theorem having_sp {a mt mw : Nat} {v : AV} {L : List Tx3} {W : List Ent} {R : LB → LB → Prop} (q : W2) (H : Hp) (Q : AV → Hp → Prop) (hp : IxR H a mt mw v L W) (hW : WOk W R) (hWl : W.length ≤ 100000) (hql : q.1.length ≤ 100000) (hwl : ∀ e ∈ W, e.w.length ≤ 100000)
    (h : ∀ m H' S, AsAt H' m (stA S) → S.Nodup → (∀ s, s ∈ S ↔ ∃ w, fitsW q w = true ∧ R w s) → Same [] H H' → H.length ≤ m → Q (.mp m) H') : Sp Tryd.prog 31 [.ptr a 0 0, .agg (wdC q)] Q H := by
  obtain ⟨qt, qa⟩ := q
  refine Sp.body [(4, ⟨[0, 5, 27, 28, 29], [(3, 3, 0)], [3]⟩), (8, ⟨[0, 5, 27, 28, 29, 54], [(3, 3, 0)], [3]⟩)] ⟨[3], [], pl31⟩ tb31 mo Tryd.func31 rfl (Nat.le_of_ble_eq_true rfl) (by kernel_rfl) ?_
  have hs1 : Same [] H (H ++ [.map [] 0]) := Same.app _ _ _
  have hp1 := hp.same hs1 (by simp)
  have hc := hp1.c
  have hmo0 : AsAt (H ++ [.map [] 0]) H.length (stA []) := AsAt.new H
  have hlt := hW.lt
  have hWm : (W.map (·.w)).length = W.length := by simp
  have hle : posL (W.map (·.w)) qt ≤ (W.map (·.w)).length := posL_le _ _
  have hrun := fits_run hW (qt, qa)
  simp [ev_seq, ev_region2, evOps_nil, evOps_cons, opG_none, opA_move, opA_assign, opA_load, opA_fieldAddr, opA_nilCheck, opA_call, opA_box, opA_makeMap, putO_some, putH_lt, loadT, nilCheckT, fieldAddrT, boxT, makeMapT, opS, opV, Go.Mx.look, fr0, argSlots, seqK, Fr.newBox, dropBp, mapO, callA, cellsA_agg, okPart_agg, partA, loadA, loadS, plusS, nilCheckS, newK, ev_draw, drawK, evP_q, evP_s, opAt_some, sz9, ag9, sz23, ag23, Tryd.underlying51, Tryd.underlying56, Tryd.underlying65, ok29, pl31, wdC, hc]
  refine search_sp v (W.map (·.w)) qt _ (H ++ [.map [] 0]) _ hp1.o (by simpa using hWl) hle (posL_lo _ _) (posL_hi _ _ hlt) ?_
  have ho := hp1.o
  generalize hk : posL (W.map (·.w)) qt = k at *
  simp [ev_seq, ev_region2, evOps_cons, opG_none, opA_move, opA_assign, opA_extract, opA_load, opA_fieldAddr, opA_nilCheck, opA_slice, putO_some, putH_lt, putC_lt, extractT, loadT, nilCheckT, fieldAddrT, bndT, sliceT, opS, opV, Go.Mx.look, seqK, extractA, partA, loadA, loadS, plusS, nilCheckS, sliceA, evP_nil, evP_q, evP_s, opAt_some, chkK_eq, sameV_some, sameO_some, allQ_nil, allQ_cons, valQ_none, valS_extract, sz9, sz23, ag23, Tryd.underlying23, Tryd.underlying51, hc]
  have hend0 : W.length ≤ k → Q (.mp H.length) (H ++ [.map [] 0]) := fun hWk => by
    have hr := hrun 0 (fun j e hj => by omega) (fun e he => by rw [List.getElem?_eq_none (by omega)] at he; simp at he)
    exact h _ _ [] hmo0 (by simp) (fun s => by
      rw [← hr s]
      simp) hs1 (Nat.le_refl _)
  rcases ho with ⟨q1, q2, rfl⟩ | ⟨_, q2, vid, ver, tl, rfl, hid⟩
  · have hk0 : k = 0 := by omega
    subst hk0
    simp [ev_block, ev_loop, loopK, evOps_nil, evOps_cons, opG_none, opA_move, opA_len, putO_some, putH_lt, lenT_nil, opS, opV, Go.Mx.look, seqK, mapO, headK, getV, getB, chkP, firstReg, Tryd.underlying23]
    refine LoopC.intro (fun n xs bs H2 => xs = [.ptr a 0 0, .mp H.length, .v (.slice none 0 0), .v (.int .i64 0), .v (.int .i64 0)] ∧ bs = [[.v (.string (tx qt)), .v (.bool qa)]] ∧ H2 = H ++ [.map [] 0]) 0 ⟨by simp, rfl, rfl⟩ ?_
    rintro n xs bs H2 ⟨rfl, rfl, rfl⟩
    simp [ev_seq, ev_cond2, ev_exit, ev_ret, ev_region2, evOps_nil, evOps_cons, opG_none, opA_move, opA_assign, opA_bin, putO_some, putH_lt, condB_false, binT_some, binA, avO_some, io_lss, opS, opV, Go.Mx.look, seqK, blockK, Fr.known, retK, retA, resA, mapO, mkFr, slotsOf, ptrsOf, boxesOf, orO_some, eqT_some, tk3]
    exact hend0 (by omega)
  · rcases Nat.lt_or_ge k W.length with hkn | hkn
    · have hkn' : (k : Int) < (W.length : Int) := by omega
      have hkn2 : (k : Int) ≤ (W.length : Int) := by omega
      have hsub : ((W.length : Int) - (k : Int)).toNat = W.length - k := by omega
      have hcast : ((W.length - k : Nat) : Int) = (W.length : Int) - (k : Int) := by omega
      simp [ev_block, ev_loop, loopK, evOps_nil, evOps_cons, opG_none, opA_move, opA_len, putO_some, putH_lt, lenT_sl, opS, opV, Go.Mx.look, seqK, mapO, headK, getV, getB, chkP, firstReg, Tryd.underlying23, sliceSl, hkn, hkn', hkn2, hsub]
      refine LoopC.intro (fun n xs bs H2 => bs = [[.v (.string (tx qt)), .v (.bool qa)]] ∧ HvO H a (qt, qa) (.sl vid ver 1 k (W.length - k)) k W n xs H2) (W.length - k) ⟨by simp, 0, [], by omega, by omega, by simp, hmo0, by simp, by simp, by simp, hs1⟩ ?_
      rintro n xs bs H2 ⟨rfl, i, S, hi, rfl, rfl, hmo, hSn, hS, hF, hs2⟩
      have g1 := hp.same hs2 (by simp)
      have gc := g1.c
      by_cases hlti : i < W.length - k
      · obtain ⟨e, heW'⟩ : ∃ e, W[k + i]? = some e := ⟨_, List.getElem?_eq_getElem (by omega)⟩
        have heW := List.mem_of_getElem? heW'
        have hlt' : (i : Int) < ((W.length - k : Nat) : Int) := by omega
        have w1 : IntKind.i64.wrap ((i : Int) + 1) = (i : Int) + 1 := wr_i64 (by omega)
        have hidv : ∃ tl', H2[vid]? = some (.cells ver ((W.map (·.w)).flatMap txC ++ tl')) := by
          have := g1.o
          rcases this with ⟨_, _, hv⟩ | ⟨_, _, id2, ver2, tl2, hv, h3⟩
          · simp at hv
          · simp at hv
            obtain ⟨rfl, rfl⟩ := hv
            exact ⟨tl2, h3⟩
        obtain ⟨tl', hid2⟩ := hidv
        have hcs1 : ((W.map (·.w)).flatMap txC ++ tl')[k + i]? = some (.v (.string (tx e.w))) := by
          rw [List.getElem?_append_left (by rw [flat_len txC_len]; simp; omega), flat_st, List.getElem?_map]
          simp [stC, heW']
        generalize hcsg : (W.map (·.w)).flatMap txC ++ tl' = cs at hid2 hcs1
        have hcl : k + i < cs.length := (List.getElem?_eq_some_iff.1 hcs1).1
        have hcs2 : cs[k + i] = .v (.string (tx e.w)) := (List.getElem?_eq_some_iff.1 hcs1).2
        have hemo : ¬ e.m = H.length := fun q0 => by have := (hp.s e heW).lt; omega
        have hno : fitsW (qt, qa) e.w = false → Q (.mp H.length) H2 := fun hf => h _ _ S hmo hSn (fun s => by
          rw [hS, hrun i hF (fun e' he' => by rw [heW'] at he'; simp at he'; subst he'; exact hf)]) hs2 (Nat.le_refl _)
        have hlk := g1.m.look (t := 49) Tryd.underlying49 (x := e.w) (v := .mp e.m) (List.mem_map.2 ⟨e, heW, rfl⟩) false
        by_cases heq : e.w = qt
        · have hfit : fitsW (qt, qa) e.w = true := by simp [fitsW, heq]
          rw [heq] at hlk
          simp [ev_skip, ev_seq, ev_cond2, ev_block, ev_region2, evOps_nil, evOps_cons, opG_none, opG_some, opJ, opU_true, opU_ft, isU_undef, isU_bool, opA_move, opA_assign, opA_pick, opA_bin, opA_load, opA_indexAddr, opA_fieldAddr, opA_nilCheck, putO_some, putH_lt, putV_lt, condB_true, condB_false, binT_some, binA, avO_some, pickT, loadT, nilCheckT, fieldAddrT, indexAddrT, io_lss, strOp, opS, opV, Go.Mx.look, seqK, Fr.known, partA, loadA, loadS, plusS, indexAddrA, nilCheckS, mkFr, slotsOf, ptrsOf, boxesOf, orO_some, eqT_some, lookT_some, rangeT_some, opA_lookup, opA_range, tk3, sz9, ag9, tk9, Tryd.underlying23, sz49, ag49, Tryd.underlying51, Tryd.underlying56, tx_list, hlt', hid2, hcl, hcs2, heq, gc, hlk, Go.Mx.valOf]
          obtain ⟨f, hm, hf⟩ := g1.s e heW
          refine hm.range Tryd.underlying65 (fun H4 N hit hs4 hl4 => ?_)
          generalize hitn : H2.length = it at hit
          simp [ev_block, ev_loop, loopK, evOps_nil, putC_lt, opS, opV, Go.Mx.look, seqK, mapO, headK, getV, getB, chkP, firstReg]
          refine LoopC.intro (fun n xs bs H5 => bs = [[.v (.string (tx qt)), .v (.bool qa)]] ∧ HvInv H a (qt, qa) ((.sl vid ver 1 k (W.length - k))) (W.length - k) i H.length it e.m N e.S S n xs H5) N ⟨by simp, f, [], S, by simp, hit, hf, hmo.same hs4 (by simp), hSn, by simp, hs2.trans hs4 (by simp), by simp⟩ ?_
          have hmoH := hmo.lt
          have hH2 := hs2.1
          clear hit hs4 hl4 hm hf
          rintro n xs bx H5 ⟨rfl, f, done, S', rfl, hit, hf, hmo5, hSn5, hS5, hs5, rfl⟩
          simp [ev_seq, ev_region2, evOps_cons, opG_none, opS, opV, Go.Mx.look, mkFr, slotsOf, ptrsOf, boxesOf, nextT_some, opA_next]
          refine hit.next (fun H6 key val hfk hkg hnd hlt6 hit6 hent hs6 hl6 => ?_) (fun hall => ?_)
          · obtain ⟨s, hs1, rfl, rfl⟩ := stA_key hf hfk
            have hmo6 := hmo5.same hs6 (by simp; exact fun q => iter_ne hit hmo5 q.symm)
            have hs56 : Same [] H H6 := hs5.trans hs6 (by simp; omega)
            simp only [kv] at hent
            simp [ev_skip, ev_seq, ev_cond2, ev_block, ev_region2, evOps_nil, evOps_cons, opG_none, opA_move, opA_assign, opA_extract, putO_some, putH_lt, putC_lt, condB_true, avO_some, extractT, opS, opV, Go.Mx.look, seqK, Fr.known, extractA, opA_entry, entryT_some, updT_some, opA_upd, hent]
            refine hmo6.upd (l' := stA (addS S' s)) Tryd.underlying65 (stA_add S' s) (fun H7 hmo7 hs7 hl7 => ?_)
            have hit7 := hit6.same hs7 (by simp; exact iter_ne hit6 hmo6) (by
              simp
              exact hemo)
            simp [evOps_nil, putU_none, opS, opV, Go.Mx.look, seqK, blockK, mapO, headK, getV, getB, chkP]
            refine ⟨N - (done.length + 1), by omega, f, done ++ [kv s], addS S' s, rfl, hit7, hf, hmo7, addS_nodup hSn5 s, fun s' => ?_, hs56.trans hs7 (by simp), by simp⟩
            rw [mem_addS, hS5]
            simp only [List.mem_append, List.mem_singleton]
            constructor
            · rintro ((a | b) | rfl)
              · exact .inl a
              · exact .inr (.inl b)
              · exact .inr (.inr rfl)
            · rintro (a | a | a)
              · exact .inl (.inl a)
              · exact .inl (.inr a)
              · exact .inr (kv_inj a)
          · simp [ev_seq, ev_cond2, ev_exit, ev_region2, evOps_nil, evOps_cons, opG_none, opA_move, opA_bin, opA_extract, putO_some, putH_lt, putC_lt, condB_false, binT_some, binA, avO_some, extractT, io_add, opS, opV, Go.Mx.look, seqK, blockK, Fr.known, mapO, extractA, headK, getV, getB, chkP, orO_some, eqT_some, tk3, w1]
            refine ⟨W.length - k - (i + 1), by omega, i + 1, S', by omega, rfl, rfl, hmo5, hSn5, fun s => ?_, fun j e' hj he' => ?_, hs5⟩
            · rw [hS5, hS]
              constructor
              · rintro (⟨j, e', hj, he', hs'⟩ | hd)
                · exact ⟨j, e', by omega, he', hs'⟩
                · obtain ⟨v', hv'⟩ := hit.mem hd
                  obtain ⟨s', hs', e1, _⟩ := stA_key hf hv'
                  exact ⟨i, e, by omega, heW', kv_inj e1 ▸ hs'⟩
              · rintro ⟨j, e', hj, he', hs'⟩
                by_cases hji : j = i
                · subst hji
                  rw [heW'] at he'
                  simp at he'
                  subst he'
                  exact .inr (hall _ _ (stA_has hf hs'))
                · exact .inl ⟨j, e', by omega, he', hs'⟩
            · by_cases hji : j = i
              · subst hji
                rw [heW'] at he'
                simp at he'
                subst he'
                exact hfit
              · exact hF j e' (by omega) he'
        · cases qa with
          | false =>
            have hf : fitsW (qt, false) e.w = false := by simp [fitsW, heq]
            simp [ev_skip, ev_seq, ev_cond2, ev_block, ev_exit, ev_ret, ev_region2, evOps_nil, evOps_cons, opG_none, opG_some, opJ, opU_ft, isU_bool, opK_eq, opA_move, opA_assign, opA_pick, opA_bin, opA_un, opA_load, opA_indexAddr, opA_fieldAddr, putO_some, putH_lt, putV_lt, condB_true, condB_false, CondP_true, binT_some, binA, avO_some, pickT, unT, loadT, fieldAddrT, indexAddrT, io_lss, strOp, opS, opV, Go.Mx.look, seqK, blockK, Fr.known, retK, retA, resA, mapO, unA, partA, loadA, loadS, plusS, indexAddrA, mkFr, slotsOf, ptrsOf, boxesOf, orO_some, eqT_some, tk3, sz4, ag4, sz9, ag9, tk9, Tryd.underlying23, Tryd.underlying56, tx_list, hlt', hid2, hcl, hcs2, heq]
            exact hno hf
          | true =>
            simp [ev_skip, ev_seq, ev_cond2, ev_block, ev_region2, evOps_nil, evOps_cons, opG_none, opG_some, opJ, opU_ft, isU_bool, opK_eq, opA_move, opA_assign, opA_bin, opA_load, opA_indexAddr, opA_fieldAddr, opA_call, putO_some, putH_lt, condB_true, CondP_true, binT_some, binA, avO_some, loadT, fieldAddrT, indexAddrT, io_lss, strOp, opS, opV, Go.Mx.look, seqK, Fr.known, mapO, callA, partA, loadA, loadS, plusS, indexAddrA, mkFr, slotsOf, ptrsOf, boxesOf, orO_some, eqT_some, tk3, sz4, ag4, sz9, ag9, tk9, Tryd.underlying23, Tryd.underlying56, ok54, tx_list, hlt', hid2, hcl, hcs2, heq]
            refine prefix_sp e.w qt _ _ ⟨hwl e heW, hql⟩ ?_
            cases hpre : qt.isPrefixOf e.w with
            | false =>
              have hf : fitsW (qt, true) e.w = false := by simp [fitsW, heq, hpre]
              simp [ev_seq, ev_cond2, ev_exit, ev_ret, ev_region2, evOps_nil, evOps_cons, opG_none, opG_some, opJ, opU_ft, isU_bool, opK_eq, opA_move, opA_assign, opA_pick, opA_un, putO_some, putH_lt, putC_lt, condB_true, pickT, unT, opS, opV, Go.Mx.look, seqK, blockK, Fr.known, retK, retA, resA, mapO, unA]
              exact hno hf
            | true =>
              have hfit : fitsW (qt, true) e.w = true := by simp [fitsW, heq, hpre]
              simp [ev_skip, ev_seq, ev_cond2, ev_region2, evOps_nil, evOps_cons, opG_none, opG_some, opJ, opU_ft, isU_bool, opK_eq, opA_move, opA_pick, opA_un, opA_load, opA_fieldAddr, opA_nilCheck, putO_some, putH_lt, putC_lt, condB_true, condB_false, avO_some, pickT, unT, loadT, nilCheckT, fieldAddrT, opS, opV, Go.Mx.look, seqK, Fr.known, unA, partA, loadA, loadS, plusS, nilCheckS, lookT_some, rangeT_some, opA_lookup, opA_range, sz49, ag49, Tryd.underlying51, gc, hlk, Go.Mx.valOf]
              obtain ⟨f, hm, hf⟩ := g1.s e heW
              refine hm.range Tryd.underlying65 (fun H4 N hit hs4 hl4 => ?_)
              generalize hitn : H2.length = it at hit
              simp [ev_block, ev_loop, loopK, evOps_nil, putC_lt, opS, opV, Go.Mx.look, seqK, mapO, headK, getV, getB, chkP, firstReg]
              refine LoopC.intro (fun n xs bs H5 => bs = [[.v (.string (tx qt)), .v (.bool true)]] ∧ HvInv H a (qt, true) ((.sl vid ver 1 k (W.length - k))) (W.length - k) i H.length it e.m N e.S S n xs H5) N ⟨by simp, f, [], S, by simp, hit, hf, hmo.same hs4 (by simp), hSn, by simp, hs2.trans hs4 (by simp), by simp⟩ ?_
              have hmoH := hmo.lt
              have hH2 := hs2.1
              clear hit hs4 hl4 hm hf
              rintro n xs bx H5 ⟨rfl, f, done, S', rfl, hit, hf, hmo5, hSn5, hS5, hs5, rfl⟩
              simp [ev_seq, ev_region2, evOps_cons, opG_none, opS, opV, Go.Mx.look, mkFr, slotsOf, ptrsOf, boxesOf, nextT_some, opA_next]
              refine hit.next (fun H6 key val hfk hkg hnd hlt6 hit6 hent hs6 hl6 => ?_) (fun hall => ?_)
              · obtain ⟨s, hs1, rfl, rfl⟩ := stA_key hf hfk
                have hmo6 := hmo5.same hs6 (by simp; exact fun q => iter_ne hit hmo5 q.symm)
                have hs56 : Same [] H H6 := hs5.trans hs6 (by simp; omega)
                simp only [kv] at hent
                simp [ev_skip, ev_seq, ev_cond2, ev_block, ev_region2, evOps_nil, evOps_cons, opG_none, opA_move, opA_assign, opA_extract, putO_some, putH_lt, putC_lt, condB_true, avO_some, extractT, opS, opV, Go.Mx.look, seqK, Fr.known, extractA, opA_entry, entryT_some, updT_some, opA_upd, hent]
                refine hmo6.upd (l' := stA (addS S' s)) Tryd.underlying65 (stA_add S' s) (fun H7 hmo7 hs7 hl7 => ?_)
                have hit7 := hit6.same hs7 (by simp; exact iter_ne hit6 hmo6) (by
                  simp
                  exact hemo)
                simp [evOps_nil, putU_none, opS, opV, Go.Mx.look, seqK, blockK, mapO, headK, getV, getB, chkP]
                refine ⟨N - (done.length + 1), by omega, f, done ++ [kv s], addS S' s, rfl, hit7, hf, hmo7, addS_nodup hSn5 s, fun s' => ?_, hs56.trans hs7 (by simp), by simp⟩
                rw [mem_addS, hS5]
                simp only [List.mem_append, List.mem_singleton]
                constructor
                · rintro ((a | b) | rfl)
                  · exact .inl a
                  · exact .inr (.inl b)
                  · exact .inr (.inr rfl)
                · rintro (a | a | a)
                  · exact .inl (.inl a)
                  · exact .inl (.inr a)
                  · exact .inr (kv_inj a)
              · simp [ev_seq, ev_cond2, ev_exit, ev_region2, evOps_nil, evOps_cons, opG_none, opA_move, opA_bin, opA_extract, putO_some, putH_lt, putC_lt, condB_false, binT_some, binA, avO_some, extractT, io_add, opS, opV, Go.Mx.look, seqK, blockK, Fr.known, mapO, extractA, headK, getV, getB, chkP, orO_some, eqT_some, tk3, w1]
                refine ⟨W.length - k - (i + 1), by omega, i + 1, S', by omega, rfl, rfl, hmo5, hSn5, fun s => ?_, fun j e' hj he' => ?_, hs5⟩
                · rw [hS5, hS]
                  constructor
                  · rintro (⟨j, e', hj, he', hs'⟩ | hd)
                    · exact ⟨j, e', by omega, he', hs'⟩
                    · obtain ⟨v', hv'⟩ := hit.mem hd
                      obtain ⟨s', hs', e1, _⟩ := stA_key hf hv'
                      exact ⟨i, e, by omega, heW', kv_inj e1 ▸ hs'⟩
                  · rintro ⟨j, e', hj, he', hs'⟩
                    by_cases hji : j = i
                    · subst hji
                      rw [heW'] at he'
                      simp at he'
                      subst he'
                      exact .inr (hall _ _ (stA_has hf hs'))
                    · exact .inl ⟨j, e', by omega, he', hs'⟩
                · by_cases hji : j = i
                  · subst hji
                    rw [heW'] at he'
                    simp at he'
                    subst he'
                    exact hfit
                  · exact hF j e' (by omega) he'
      · have hii : i = W.length - k := by omega
        subst hii
        have hlt' : ¬ (((W.length - k : Nat) : Int) < ((W.length - k : Nat) : Int)) := by omega
        simp [ev_seq, ev_cond2, ev_exit, ev_ret, ev_region2, evOps_nil, evOps_cons, opG_none, opA_move, opA_assign, opA_bin, putO_some, putH_lt, condB_false, binT_some, binA, avO_some, io_lss, opS, opV, Go.Mx.look, seqK, blockK, Fr.known, retK, retA, resA, mapO, mkFr, slotsOf, ptrsOf, boxesOf, orO_some, eqT_some, tk3]
        exact h _ _ S hmo hSn (fun s => by
          rw [hS, hrun (W.length - k) hF (fun e' he' => by rw [List.getElem?_eq_none (by omega)] at he'; simp at he')]) hs2 (Nat.le_refl _)
    · have hkl : k = W.length := by omega
      have hkn' : ¬ ((k : Int) < (W.length : Int)) := by omega
      have hkn2 : (k : Int) ≤ (W.length : Int) := by omega
      have hkn3 : ¬ (k < W.length) := by omega
      simp [ev_block, ev_loop, loopK, evOps_nil, evOps_cons, opG_none, opA_move, opA_len, putO_some, putH_lt, lenT_row, opS, opV, Go.Mx.look, seqK, mapO, headK, getV, getB, chkP, firstReg, Tryd.underlying23, sliceSl, hkn', hkn2, hkn3]
      refine LoopC.intro (fun n xs bs H2 => xs = [.ptr a 0 0, .mp H.length, .row false 0 [], .v (.int .i64 0), .v (.int .i64 0)] ∧ bs = [[.v (.string (tx qt)), .v (.bool qa)]] ∧ H2 = H ++ [.map [] 0]) 0 ⟨by simp, rfl, rfl⟩ ?_
      rintro n xs bs H2 ⟨rfl, rfl, rfl⟩
      simp [ev_seq, ev_cond2, ev_exit, ev_ret, ev_region2, evOps_nil, evOps_cons, opG_none, opA_move, opA_assign, opA_bin, putO_some, putH_lt, condB_false, binT_some, binA, avO_some, io_lss, opS, opV, Go.Mx.look, seqK, blockK, Fr.known, retK, retA, resA, mapO, mkFr, slotsOf, ptrsOf, boxesOf, orO_some, eqT_some, tk3]
      exact hend0 (by omega)
end Go.Proofs.YtoakdmkjlpjahaaDoor

namespace Go.Proofs.YtoakdmkjlpjahaaDoor
open Go.Mx
set_option linter.unusedVariables false
set_option linter.unusedSimpArgs false
set_option linter.unnecessarySimpa false

/-! ### What is found, as a function -/
theorem enc_le4 (c : Int) : (Lib.encodeRune c).length ≤ 4 := by
  unfold Lib.encodeRune
  rw [List.length_map]
  exact (Lib.encodeRuneZ_length c).2
theorem splF_small (l : LB) (B : Nat) : ∀ (f pos : Nat) (cur : LB) (acc : List W2), (∀ x ∈ acc, x.1.length ≤ B) → cur.length + 4 * f ≤ B → ∀ x ∈ splF l f pos cur acc, x.1.length ≤ B
  | 0, _, _, acc, h, _ => by simpa [splF] using h
  | f + 1, pos, cur, acc, h, hc => by
    unfold splF
    have he := enc_le4 (lowC (dec (l.drop pos)).1)
    split
    · split
      · exact splF_small l B f _ _ acc h (by rw [List.length_append]; omega)
      · split
        · exact splF_small l B f _ _ acc h (by omega)
        · refine splF_small l B f _ _ _ (fun x hx => ?_) (by simp; omega)
          rcases List.mem_append.1 hx with hx | hx
          · exact h x hx
          · simp at hx; subst hx; show cur.length ≤ B; omega
    · first
      | exact h
      | (split <;> first | exact h | (intro x hx; exact h x hx))
theorem splL_small (l : LB) : ∀ x ∈ splL l, x.1.length ≤ 4 * (l.length + 1) := splF_small l _ (l.length + 1) 0 [] [] (by simp) (by simp)
theorem wordsL_small (l : LB) : ∀ w ∈ wordsL l, w.length ≤ 4 * (l.length + 1) := fun w hw => by
  obtain ⟨x, hx, rfl⟩ := List.mem_map.1 hw
  exact splL_small l x hx
def hasW (s : LB) (q : W2) : Bool := (wordsL s).any (fitsW q)
def foundL (L : List Tx3) (q : LB) : List LB := (L.filter (fun t => (splL q).all (hasW t.s))).map (·.id)
def findF (L : List Tx3) (q : LB) (limit : Int) : List LB := if splL q = [] ∨ limit < 1 then [] else (sortT L (foundL L q)).take limit.toNat
theorem sortT_sorted (L : List Tx3) (l : List LB) : (sortT L l).Pairwise (fun x y => ¬ befT L y x) := by
  have h := List.pairwise_mergeSort (le := fun x y => !(ltOf (cmpT L)) y x) (fun a b c h1 h2 => by
    simp only [Bool.not_eq_true'] at h1 h2 ⊢
    exact (swoT L).ntrans _ _ _ h2 h1) (fun a b => by
    cases h1 : ltOf (cmpT L) b a with
    | false => simp
    | true =>
      have : ltOf (cmpT L) a b = false := by
        rw [ltOf_not]; intro h2
        exact befT_irr L a (befT_trans L h2 ((ltOf_befT L b a).1 h1))
      simp [this]) l
  exact h.imp (fun {x y} h => by
    simp only [Bool.not_eq_true'] at h
    exact (ltOf_not L y x).1 h)
theorem sortT_uniq (L : List Tx3) {l m : List LB} (hp : m.Perm l) (hs : m.Pairwise (fun x y => ¬ befT L y x)) : m = sortT L l := by
  refine List.Perm.eq_of_pairwise (le := fun x y => ¬ befT L y x) (fun a b _ _ h1 h2 => ?_) hs (sortT_sorted L l) (hp.trans (sortT_perm L l).symm)
  rcases befT_tri L a b with h | h | h
  · exact absurd h h2
  · exact h
  · exact absurd h h1
theorem sortT_congr (L : List Tx3) {l m : List LB} (hp : m.Perm l) : sortT L m = sortT L l := sortT_uniq L ((sortT_perm L m).trans hp) (sortT_sorted L m)
theorem found_mem {L : List Tx3} (hids : (L.map (·.id)).Nodup) (q : LB) (s : LB) : s ∈ foundL L q ↔ s ∈ L.map (·.id) ∧ ∀ x ∈ splL q, ∃ w, fitsW x w = true ∧ prL L w s := by
  unfold foundL prL hasW
  simp only [List.mem_map, List.mem_filter, List.all_eq_true, List.any_eq_true]
  constructor
  · rintro ⟨t, ⟨ht, hall⟩, rfl⟩
    refine ⟨⟨t, ht, rfl⟩, fun x hx => ?_⟩
    obtain ⟨w, hw, hf⟩ := hall x hx
    exact ⟨w, hf, t, ht, rfl, hw⟩
  · rintro ⟨⟨t, ht, rfl⟩, hall⟩
    refine ⟨t, ⟨ht, fun x hx => ?_⟩, rfl⟩
    obtain ⟨w, hf, t2, ht2, hid, hw⟩ := hall x hx
    have : t2 = t := by
      obtain ⟨i, hi⟩ := List.getElem?_of_mem ht2
      obtain ⟨j, hj⟩ := List.getElem?_of_mem ht
      have e1 : (L.map (·.id))[i]? = some t.id := by rw [List.getElem?_map, hi]; simp [hid]
      have e2 : (L.map (·.id))[j]? = some t.id := by rw [List.getElem?_map, hj]; rfl
      have hxy : i = j := (List.getElem?_inj (List.getElem?_eq_some_iff.1 e1).1 hids).1 (by rw [e1, e2])
      subst hxy
      rw [hi] at hj; simpa using hj
    subst this
    exact ⟨w, hw, hf⟩
theorem found_nodup {L : List Tx3} (hids : (L.map (·.id)).Nodup) (q : LB) : (foundL L q).Nodup := hids.sublist (List.filter_sublist.map _)
theorem found_len (L : List Tx3) (q : LB) : (foundL L q).length ≤ L.length := by
  unfold foundL; rw [List.length_map]; exact List.length_filter_le _ _
end Go.Proofs.YtoakdmkjlpjahaaDoor
