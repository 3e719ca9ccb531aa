import Derived.Test.YtgefinddmggpnaaDoorPR
import Derived.Test.YtgefinddmggpnaaDoorCi
import Derived.Test.YtgefinddmggpnaaDoorMxSe
namespace Go.Proofs.YtgefinddmggpnaaDoor
open Go.Mx
set_option linter.unusedVariables false
set_option linter.unusedSimpArgs false
set_option linter.unnecessarySimpa false
set_option maxRecDepth 100000

def slId : AV → List Nat
  | .sl id _ _ _ _ => [id]
  | _ => []
/-- A slice of one's own, or nil. -/
def OwnT (k : Nat) (H : Hp) (n : Nat) (cs : List AV) (v : AV) : Prop := (n = 0 ∧ cs = [] ∧ v = .v (.slice none 0 0)) ∨ (0 < n ∧ cs.length = n * k ∧ ∃ id ver tl, v = .sl id ver k 0 n ∧ H[id]? = some (.cells ver (cs ++ tl)))
section
variable {k n : Nat} {H H' : Hp} {cs c : List AV} {v : AV}
theorem OwnT.nil (k : Nat) (H : Hp) : OwnT k H 0 [] (.v (.slice none 0 0)) := .inl ⟨rfl, rfl, rfl⟩
theorem OwnT.same {fp : List Nat} (h : OwnT k H n cs v) (hs : Same fp H H') (hf : ∀ j ∈ slId v, j ∉ fp) : OwnT k H' n cs v := by
  rcases h with h | ⟨h0, h1, id, ver, tl, rfl, h3⟩
  · exact .inl h
  · exact .inr ⟨h0, h1, id, ver, tl, rfl, hs.2 _ _ h3 (hf id (by simp [slId]))⟩
theorem OwnT.lt (h : OwnT k H n cs v) : ∀ j ∈ slId v, j < H.length := by
  rcases h with ⟨_, _, rfl⟩ | ⟨h0, h1, id, ver, tl, rfl, h3⟩
  · simp [slId]
  · simpa [slId] using Hp.lt h3
theorem OwnT.lenT (h : OwnT k H n cs v) (H' : Hp) (e : TypeId) : lenT H' (some (.slice e)) (some v) = some (.av (.v (.int .i64 n))) := by
  rcases h with ⟨rfl, _, rfl⟩ | ⟨h0, h1, id, ver, tl, rfl, h3⟩ <;> rfl
theorem OwnT.app {x : Bool} {bytes : Nat} {K : AV → Hp → Prop} (h : OwnT k H n cs v) (hc : c.length = k) (hb : (n + 1) * bytes ≤ 140737488355328 ∧ n + 1 ≤ 4611686018427387904)
    (hq : ∀ v' H', OwnT k H' (n + 1) (cs ++ c) v' → Same (slId v) H H' → (slId v' = slId v ∨ slId v' = [H.length]) → K v' H') : appA H k bytes v (.row x 1 c) K := by
  rcases h with ⟨rfl, rfl, rfl⟩ | ⟨h0, h1, id, ver, tl, rfl, h3⟩
  · have h1 := hq (.sl H.length 0 k 0 1) (H ++ [.cells 0 c]) (.inr ⟨by simp, by simp [hc], H.length, 0, [], by simp, by simp⟩) (Same.app _ _ _) (.inr rfl)
    simp at hb
    simp [appA, srcA, hb, hc]
    exact h1
  · have h5 := hq (.sl id (ver + 1) k 0 (n + 1)) (H.set id (.cells (ver + 1) (cs ++ c))) (.inr ⟨by omega, by rw [List.length_append, h1, hc, Nat.succ_mul], id, ver + 1, [], by simp, by rw [List.getElem?_set_self (Hp.lt h3)]; simp⟩) (Same.set (by simp [slId])) (.inl rfl)
    simp [appA, srcA, h3, hc]
    refine ⟨⟨by omega, hb.1, by omega⟩, ?_⟩
    have e : (cs ++ tl).take (n * k) = cs := by rw [← h1]; simp
    rw [e]; exact h5
theorem OwnT.of {H0 : Hp} (h : NewK k H0 H n cs v) : OwnT k H n cs v ∧ ∀ j ∈ slId v, H0.length ≤ j := by
  rcases h with h | ⟨h0, h1, id, ver, tl, rfl, h3, h4⟩
  · obtain ⟨rfl, rfl, rfl⟩ := h
    exact ⟨.inl ⟨rfl, rfl, rfl⟩, by simp [slId]⟩
  · exact ⟨.inr ⟨h0, h1, id, ver, tl, rfl, h3⟩, by simpa [slId] using h4⟩
theorem OwnT.new {H0 : Hp} (h : OwnT k H n cs v) (hj : ∀ j ∈ slId v, H0.length ≤ j) : NewK k H0 H n cs v := by
  rcases h with h | ⟨h0, h1, id, ver, tl, rfl, h3⟩
  · exact .inl h
  · exact .inr ⟨h0, h1, id, ver, tl, rfl, h3, hj id (by simp [slId])⟩
end
theorem flat_sub2 {α : Type} {f : α → List AV} {n : Nat} (hn : ∀ x, (f x).length = n) {x : α} {l : List α} {i : Nat} (h : l[i]? = some x) (tl : List AV) : ((l.flatMap f ++ tl).drop (i * n)).take n = f x := by
  have hle := flat_le hn h
  rw [List.drop_append_of_le_length (by omega), List.take_append_of_le_length (by rw [List.length_drop]; omega)]
  exact flat_sub hn l i h
/-- A tuple that begins with a fresh slice: it is written no more. -/
theorem rowOutK {P : Go.Program} {H : Hp} {f k : Nat} {args : List AV} {Q : AV → Hp → Prop} (h : Sp P f args (fun v H' => ∃ v0 vs n cs, v = .tup (v0 :: vs) ∧ (∀ c ∈ vs, ∃ x, c = .v x) ∧ Same [] H H' ∧ NewK k H H' n cs v0 ∧ ∀ H'', Same [] H H'' → Q (.tup (.row false n cs :: vs)) H'') H) : Sp P f args Q H := by
  intro ρ I w us hs hv
  refine (h ρ I w us hs hv).mono ?_
  rintro e w' ⟨v, u, ρ', I', H', rfl, hm, hvr, v0, vs, n, cs, rfl, hvs, hsame, hown, hq⟩
  cases hvr with
  | tup _ us2 hl hus =>
    have h0 := hus 0 _ rfl
    rcases hown with ⟨rfl, rfl, rfl⟩ | ⟨hn, h1, id, ver, tl, rfl, hid, hge⟩
    · refine ⟨_, _, ρ', I', H', rfl, hm, .tup _ us2 (by simpa using hl) (fun i c hc => ?_), hq H' hsame⟩
      cases i with
      | zero =>
        simp at hc; subst hc
        exact Wk.nil false _ _ _ h0
      | succ i => exact hus (i + 1) c (by simpa using hc)
    · obtain ⟨I'', hm', hk⟩ := frz_sound hm.st hid
      refine ⟨_, _, ρ', I'', _, rfl, hm.trans hm', .tup _ us2 (by simpa using hl) (fun i c hc => ?_), hq _ (hsame.new (Same.set (fp := [id]) (by simp)) (by simpa using hge))⟩
      cases i with
      | zero =>
        simp at hc; subst hc
        have := hk _ _ h0
        have e : Go.Mx.frz id ver (cs ++ tl) (.sl id ver k 0 n) = .row false n cs := by
          simp only [Go.Mx.frz, Go.Mx.frz2, Go.Mx.frz1]
          rw [if_pos ⟨trivial, trivial, by simp; omega⟩]
          rw [List.drop_zero, ← h1]; simp
        rw [e] at this; exact this
      | succ i =>
        simp only [List.getElem?_cons_succ] at hc
        obtain ⟨x, rfl⟩ := hvs c (List.mem_of_getElem? hc)
        exact hk _ _ (hus (i + 1) _ (by simpa using hc))
theorem fP_some {g : ByteArray → Option Pl} {k v : AV} (h : fP g k = some v) : ∃ s p, k = strV s ∧ g s = some p ∧ v = .agg (plC p) := by
  cases k with
  | v y =>
    cases y with
    | string s =>
      simp only [fP, Option.map_eq_some_iff] at h
      obtain ⟨p, h1, h2⟩ := h
      exact ⟨s, p, rfl, h1, h2.symm⟩
    | _ => simp [fP] at h
  | _ => simp [fP] at h
theorem strV_nodup {l : List ByteArray} (h : (l.map strV).Nodup) : l.Nodup := List.nodup_iff_pairwise_ne.2 ((List.pairwise_map.1 (List.nodup_iff_pairwise_ne.1 h)).imp (fun {a b} hab e => hab (by rw [e])))
theorem plC_len (p : Pl) : (plC p).length = 4 := rfl
/-- Places under their rooms, few. -/
def WfG (g : ByteArray → Option Pl) : Prop := (∀ k p, g k = some p → p.rm = k) ∧ ∃ K : List ByteArray, K.length ≤ 900 ∧ ∀ s, g s ≠ none → s ∈ K
def PgInv (H : Hp) (g : ByteArray → Option Pl) (it m N n : Nat) (xs : List AV) (H5 : Hp) : Prop :=
  ∃ (O : List Pl) (v : AV), xs = [.v (.string ⟨#[]⟩), .v (.int .i64 0), .v (.int .i64 1000), v, .it it] ∧ IterAt Tryd.prog 9 H5 it m (fP g) N (O.map (fun p => strV p.rm)) ∧ (∀ p ∈ O, g p.rm = some p) ∧ NewK 4 H H5 O.length (O.flatMap plC) v ∧ Same [] H H5 ∧ n = N - O.length ∧ O.length ≤ N
def P2Inv (H : Hp) (O : List Pl) (v10 : AV) (n : Nat) (xs : List AV) (H5 : Hp) : Prop :=
  ∃ (k : Nat) (v15 : AV), k ≤ O.length ∧ n = O.length - k ∧ xs = [v10, .v (.int .i64 O.length), v15, .row false O.length (intC O.length), .v (.int .i64 O.length), .v (.int .i64 k)] ∧ OwnT 4 H5 O.length (O.flatMap plC) v10 ∧ OwnT 4 H5 k ((O.take k).flatMap plC) v15 ∧ Same [] H H5 ∧ (∀ j ∈ slId v10, j ∉ slId v15) ∧ ∀ j ∈ slId v15, H.length ≤ j
def rowPl (l : List Pl) : AV := .row false l.length (l.flatMap plC)
theorem low_pls (l : List Pl) : ∀ c ∈ l.flatMap plC, Low 0 c := by
  intro c hc
  obtain ⟨p, _, hc⟩ := List.mem_flatMap.1 hc
  simp [plC] at hc
  rcases hc with rfl | rfl | rfl | rfl <;> simp
set_option maxHeartbeats 2000000 in
theorem places_sp (a : Nat) (D : Dir) (fp : List Nat) (H : Hp) (Q : AV → Hp → Prop) (hd : DirAt H a D fp) (hw : WfG D.g)
    (h : ∀ O H', (∀ p, p ∈ O ↔ D.g p.rm = some p) → (O.map (·.rm)).Nodup → O.length ≤ 900 → Same [] H H' → Q (.tup [rowPl O, .v (.int .i64 O.length)]) H') : Sp Tryd.prog 8 [.ptr a 0 0, .v (.string ⟨#[]⟩), .v (.int .i64 0), .v (.int .i64 1000)] Q H := by
  refine rowOutK (k := 4) ?_
  refine Sp.body [(5, ⟨[1, 2, 3, 10, 25], [], []⟩), (13, ⟨[10, 14, 15, 49, 50, 51], [], []⟩)] ⟨[12], [], []⟩ [] mo Tryd.func8 rfl (Nat.le_of_ble_eq_true rfl) (by kernel_rfl) ?_
  simp [ev_seq, ev_region2, evOps_nil, evOps_cons, opG_none, opA_move, opA_assign, opA_call, putO_some, putH_lt, opS, opV, Go.Mx.look, fr0, argSlots, seqK, mapO, callA, ok18]
  refine made_sp a D fp H _ hd ?_
  obtain ⟨m1, m2, g1, g2, g3, g4, rfl⟩ := hd
  obtain ⟨hrm, K0, hK0, hK1⟩ := hw
  simp [ev_skip, ev_seq, ev_cond2, ev_region2, evOps_nil, evOps_cons, opG_none, opA_move, opA_assign, opA_un, opA_load, opA_fieldAddr, opA_nilCheck, putO_some, putH_lt, putC_lt, condB_false, unT, loadT, nilCheckT, fieldAddrT, opS, opV, Go.Mx.look, seqK, Fr.known, unA, partA, loadA, loadS, plusS, nilCheckS, rangeT_some, opA_range, sz43, ag43, Tryd.underlying45, g1]
  refine g3.range Tryd.underlying43 (fun H4 N hit hs4 hl4 => ?_)
  generalize hitn : H.length = it at hit
  simp [ev_block, ev_loop, loopK, evOps_nil, putC_lt, opS, opV, Go.Mx.look, seqK, mapO, headK, getV, getB, chkP, firstReg]
  refine LoopC.intro (fun n xs _ H5 => PgInv H D.g it m2 N n xs H5) N ⟨[], _, rfl, hit, by simp, NewK.nil _ _ _, hs4, by simp, by simp⟩ ?_
  clear hit hs4 hl4 H4
  rintro n xs bx H5 ⟨O, v2, rfl, hit, hOg, hO, hs5, rfl, hON⟩
  have hOr : (O.map (·.rm)).Nodup := by
    have := hit.nodup
    rw [show O.map (fun p => strV p.rm) = (O.map (·.rm)).map strV by rw [List.map_map]; rfl] at this
    exact strV_nodup this
  have hOl : O.length ≤ 900 := by
    have : (O.map (·.rm)).length ≤ K0.length := hOr.length_le_of_subset (fun s hs => by
      obtain ⟨p, hp, rfl⟩ := List.mem_map.1 hs
      exact hK1 _ (by rw [hOg p hp]; simp))
    rw [List.length_map] at this; omega
  simp [ev_seq, ev_region2, evOps_cons, opG_none, opS, opV, Go.Mx.look, mkFr, slotsOf, ptrsOf, boxesOf, nextT_some, opA_next]
  refine hit.next (fun H6 key val hf hkg hnd hlt hit6 hent hs6 hl6 => ?_) (fun hall => ?_)
  · obtain ⟨s, p, rfl, hgs, rfl⟩ := fP_some hf
    obtain rfl := hrm _ _ hgs
    have hs7 : Same [] H H6 := hs5.trans hs6 (by simp; omega)
    have hO6 : NewK 4 H H6 O.length (O.flatMap plC) v2 := hO.same hs6 (fun id ver hv => by
      rcases hO with ⟨_, _, h2⟩ | ⟨_, _, id2, ver2, tl, h2, h3, _⟩
      · rw [h2] at hv; simp at hv
      · rw [h2] at hv; simp at hv
        obtain ⟨es, c, ds, h4, _⟩ := hit
        simp only [List.mem_singleton]
        rintro rfl
        rw [← hv.1, h3] at h4; simp at h4)
    have hKN : O.length < N := by simpa using hlt
    simp only [strV, plC] at hent
    simp [ev_skip, ev_seq, ev_cond2, ev_block, ev_region2, evOps_nil, evOps_cons, opG_none, opA_move, opA_extract, opA_load, opA_call, opA_alloc, opA_store, putO_some, putH_lt, putC_lt, putU_none, condB_true, avO_some, extractT, loadT, allocT, storeT, opS, opV, Go.Mx.look, seqK, Fr.known, Fr.newBox, dropBp, mapO, callA, extractA, cellsA_agg, okPart_agg, partA, loadS, newK, storeS, opA_entry, entryT_some, sz30, ag30, ze30, ok19, hent, splice]
    refine fits_sp p H6 _ ?_
    simp [ev_cond2, ev_region2, evOps_nil, evOps_cons, opG_none, opA_move, opA_load, opA_buildSlice, opA_append, putO_some, putH_lt, putC_lt, condB_true, loadT, buildSliceT, appendT, repeatL_1, opS, opV, Go.Mx.look, seqK, Fr.known, mapO, cellsA_agg, okPart_agg, partA, loadS, fillA, bindO, srcTy, st26, Tryd.underlying26, sz30, ag30, by30, ze30]
    refine hO6.app (by simp) hs7.1 (by omega) (fun v3 H7 fp hO7 hs8 hfp => ?_)
    have hnot : ∀ j o, H6[j]? = some o → (∀ ver cs, o ≠ .cells ver cs) → j ∉ fp := fun j o hj hno hm => by
      obtain ⟨_, ver, ds, h1⟩ := hfp j hm
      rw [h1] at hj; simp at hj
      exact hno ver ds hj.symm
    have hit7 : IterAt Tryd.prog 9 H7 it m2 (fP D.g) N (O.map (fun p => strV p.rm) ++ [strV p.rm]) := by
      refine hit6.same hs8 ?_ ?_
      · obtain ⟨es, c, ds, h4, _⟩ := hit6; exact hnot _ _ h4 (by simp)
      · obtain ⟨es, c, ds, _, h4, _⟩ := hit6; exact hnot _ _ h4 (by simp)
    simp [evOps_nil, evOps_cons, opG_none, opA_assign, putO_some, putH_lt, putC_lt, opS, opV, Go.Mx.look, seqK, blockK, mapO, headK, getV, getB, chkP]
    exact ⟨N - (O.length + 1), by omega, O ++ [p], v3, rfl, by simpa using hit7, fun q hq => by
      rcases List.mem_append.1 hq with hq | hq
      · exact hOg q hq
      · simp at hq; subst hq; exact hgs, by simpa [plC] using hO7, hs7.new hs8 (fun j hj => (hfp j hj).1), by simp, by simp; omega⟩
  · have hmem : ∀ p, p ∈ O ↔ D.g p.rm = some p := fun p => ⟨hOg p, fun hp => by
      have := hall (strV p.rm) (.agg (plC p)) (by simp [fP, strV, hp])
      obtain ⟨q, hq, e⟩ := List.mem_map.1 this
      have e2 : q.rm = p.rm := by simpa [strV] using e
      have e3 := hOg q hq
      rw [e2, hp] at e3
      simp at e3; subst e3; exact hq⟩
    simp [ev_seq, ev_cond2, ev_exit, ev_region2, evOps_nil, evOps_cons, opG_none, opA_move, opA_extract, opA_call, putO_some, putH_lt, putC_lt, condB_false, extractT, opS, opV, Go.Mx.look, seqK, blockK, Fr.known, mapO, callA, extractA]
    rcases hO with ⟨h1, h2, rfl⟩ | ⟨h0, h1, id, ver, tl, rfl, h3, h4⟩
    · have hO0 : O = [] := by simpa using h1
      subst hO0
      refine Sp.sortFuncNil laySortF ?_
      have hO : NewK 4 H H5 ([] : List Pl).length (([] : List Pl).flatMap plC) (.v (.slice none 0 0)) := NewK.nil _ _ _
      generalize AV.v (.slice none 0 0) = v10 at hO ⊢
      generalize ([] : List Pl) = l' at *
      have hl10 := hO.lenT
      simp [ev_seq, ev_region2, evOps_nil, evOps_cons, opG_none, opA_move, opA_len, opA_call, opA_buildSlice, putO_some, putH_lt, putC_lt, buildSliceT, opS, opV, Go.Mx.look, seqK, mapO, callA, cellsA_v, okPart_v, Value.oneCell', fillA, bindO, sz4, ze4, Tryd.underlying26, Tryd.underlying64, ok26, hl10]
      refine repeat_sp l'.length H5 _ (by omega) (fun H6 hs6 => ?_)
      simp [evOps_cons, opG_none, opA_move, opA_call, putO_some, putH_lt, putC_lt, opS, opV, Go.Mx.look, mapO, callA, ok25]
      refine forward_sp l'.length 1000 H6 _ (by omega) (by omega) (fun H7 hs7 => ?_)
      simp [ev_seq, ev_block, ev_region2, ev_loop, loopK, evOps_nil, evOps_cons, opG_none, opA_move, opA_assign, opA_extract, opA_len, putO_some, putH_lt, putC_lt, extractT, lenT_row, opS, opV, Go.Mx.look, seqK, mapO, extractA, headK, getV, getB, chkP, firstReg, Tryd.underlying61]
      obtain ⟨oT, oJ⟩ := OwnT.of hO
      have hs57 : Same [] H5 H7 := hs6.trans hs7 (by simp)
      have il : (intC l'.length).length = l'.length := by simp [intC, intsTo_len]
      refine LoopC.intro (fun q xs _ H8 => P2Inv H l' v10 q xs H8) l'.length ⟨0, .v (.slice none 0 0), by omega, by omega, by simp, oT.same hs57 (by simp), by simpa using OwnT.nil 4 H7, hs5.trans hs57 (by simp), by simp [slId], by simp [slId]⟩ ?_
      rintro q xs bs H8 ⟨k, v15, hk, rfl, rfl, o10, o15, hs8, hd8, hj8⟩
      simp [ev_skip, ev_seq, ev_cond2, ev_block, ev_exit, ev_ret, ev_region2, evOps_nil, evOps_cons, opG_none, opA_move, opA_assign, opA_bin, opA_indexAddr, putO_some, putH_lt, binT_some, binA, avO_some, indexAddrT, io_lss, opS, opV, Go.Mx.look, seqK, blockK, Fr.known, retK, retA, resA, mapO, indexAddrA, mkFr, slotsOf, ptrsOf, boxesOf, orO_some, eqT_some, sz3, tk3, Tryd.underlying61]
      refine ⟨fun hlt => ?_, fun hge => ?_⟩
      · have hlt : k < l'.length := by omega
        obtain ⟨p, hx⟩ : ∃ p, l'[k]? = some p := ⟨_, List.getElem?_eq_getElem hlt⟩
        have hik : (intC l'.length)[k]? = some (.v (.int .i64 (k : Int))) := by simp [intC, intsTo, hlt]
        have hlt3 : (k : Int) < (l'.length : Int) := by omega
        have wk : IntKind.i64.wrap ((k : Int) + 1) = (k : Int) + 1 := wr_i64 (by omega)
        rcases o10 with ⟨q1, _⟩ | ⟨q1, q2, id, ver, tl, rfl, hid⟩
        · omega
        have hsub := flat_sub2 plC_len hx tl
        have hle := flat_le plC_len hx
        have hle2 : k * 4 + 4 ≤ (l'.flatMap plC ++ tl).length := by rw [List.length_append]; omega
        have htk : l'.take (k + 1) = l'.take k ++ [p] := by rw [List.take_add_one, hx]; rfl
        have o10' : OwnT 4 H8 l'.length (l'.flatMap plC) (.sl id ver 4 0 l'.length) := .inr ⟨q1, q2, id, ver, tl, rfl, hid⟩
        generalize hcs : l'.flatMap plC ++ tl = cs at *
        simp [ev_region2, evOps_nil, evOps_cons, opG_none, opA_move, opA_assign, opA_load, opA_indexAddr, opA_buildSlice, opA_append, putO_some, putH_lt, loadT, indexAddrT, buildSliceT, appendT, repeatL_1, opS, opV, Go.Mx.look, seqK, mapO, cellsA_agg, okPart_agg, partA, loadA, loadS, indexAddrA, fillA, bindO, srcTy, sz3, ag3, st26, Tryd.underlying26, sz30, ag30, by30, ze30, hlt, hik, hlt3, hid, hsub, hle2, plC]
        refine o15.app (by simp) (by omega) (fun v16 H9 o16 hs9 hid9 => ?_)
        have hj16 : ∀ j ∈ slId v16, j ∈ slId v15 ∨ j = H8.length := fun j hj => by
          rcases hid9 with e | e
          · rw [e] at hj; exact .inl hj
          · rw [e] at hj; simp at hj; exact .inr hj
        simp [ev_region2, evOps_nil, evOps_cons, opG_none, opA_move, opA_assign, opA_bin, putO_some, putH_lt, putC_lt, binT_some, binA, avO_some, io_add, opS, opV, Go.Mx.look, seqK, blockK, mapO, headK, getV, getB, chkP, orO_some, eqT_some, tk3, wk]
        refine ⟨l'.length - (k + 1), by omega, k + 1, v16, by omega, rfl, by simp, o10'.same hs9 hd8, by rw [htk]; simpa [plC] using o16, hs8.new hs9 hj8, fun j hj hm => ?_, fun j hj => ?_⟩
        · rcases hj16 j hm with h8 | h8
          · exact hd8 j hj h8
          · have := o10'.lt j hj; omega
        · rcases hj16 j hj with h8 | h8
          · exact hj8 j h8
          · have := hs8.1; omega
      · obtain rfl : k = l'.length := by omega
        rw [List.take_length] at o15
        exact ⟨_, _, ⟨rfl, rfl⟩, by simp, hs8, _, _, o15.new hj8, fun H9 hs9 => h l' H9 hmem hOr hOl hs9⟩
    · refine Sp.sortFunc (k := 4) (enc := encP) (cf := cmpP) (l := O) laySortF Tryd.isAgg30 Tryd.sizeOf30 (fun _ => rfl) (fun x v hv => by simp [encP] at hv; rcases hv with rfl | rfl | rfl | rfl <;> rfl) swoP enters21 cmpIs21 h3 (by simp [h1]) ?_ (by omega) (fun l' hp hpw => ?_)
      · rw [List.drop_zero, ← h1]
        simp
        rfl
      · have hlen : l'.length = O.length := hp.length_eq
        have hcl : (l'.flatMap (cellsOfK encP)).length = O.length * 4 := by
          show (l'.flatMap plC).length = _
          rw [flat_len plC_len, hlen]
        have hs : splice (O.flatMap plC ++ tl) 0 (l'.flatMap (cellsOfK encP)) = l'.flatMap plC ++ tl := by
          unfold splice
          rw [hcl, List.take_zero, List.nil_append, Nat.zero_add]
          have : (O.flatMap plC ++ tl).drop (O.length * 4) = tl := by rw [← h1]; simp
          rw [this]; rfl
        rw [hs]
        have hO : NewK 4 H (H5.set id (.cells ver (l'.flatMap plC ++ tl))) l'.length (l'.flatMap plC) (.sl id ver 4 0 O.length) := by
          rw [hlen]
          refine .inr ⟨h0, by rw [flat_len plC_len, hlen], id, ver, tl, rfl, ?_, h4⟩
          rw [List.getElem?_set_self (Hp.lt h3)]
        replace hs5 : Same [] H (H5.set id (.cells ver (l'.flatMap plC ++ tl))) := hs5.new (Same.set (fp := [id]) (by simp)) (by simpa using h4)
        generalize H5.set id (.cells ver (l'.flatMap plC ++ tl)) = H5 at *
        replace hmem : ∀ p, p ∈ l' ↔ D.g p.rm = some p := fun p => hp.mem_iff.trans (hmem p)
        replace hOr : (l'.map (·.rm)).Nodup := (hp.map _).nodup_iff.2 hOr
        replace hOl : l'.length ≤ 900 := by omega
        generalize AV.sl id ver 4 0 O.length = v10 at *
        have hl10 := hO.lenT
        simp [ev_seq, ev_region2, evOps_nil, evOps_cons, opG_none, opA_move, opA_len, opA_call, opA_buildSlice, putO_some, putH_lt, putC_lt, buildSliceT, opS, opV, Go.Mx.look, seqK, mapO, callA, cellsA_v, okPart_v, Value.oneCell', fillA, bindO, sz4, ze4, Tryd.underlying26, Tryd.underlying64, ok26, hl10]
        refine repeat_sp l'.length H5 _ (by omega) (fun H6 hs6 => ?_)
        simp [evOps_cons, opG_none, opA_move, opA_call, putO_some, putH_lt, putC_lt, opS, opV, Go.Mx.look, mapO, callA, ok25]
        refine forward_sp l'.length 1000 H6 _ (by omega) (by omega) (fun H7 hs7 => ?_)
        simp [ev_seq, ev_block, ev_region2, ev_loop, loopK, evOps_nil, evOps_cons, opG_none, opA_move, opA_assign, opA_extract, opA_len, putO_some, putH_lt, putC_lt, extractT, lenT_row, opS, opV, Go.Mx.look, seqK, mapO, extractA, headK, getV, getB, chkP, firstReg, Tryd.underlying61]
        obtain ⟨oT, oJ⟩ := OwnT.of hO
        have hs57 : Same [] H5 H7 := hs6.trans hs7 (by simp)
        have il : (intC l'.length).length = l'.length := by simp [intC, intsTo_len]
        refine LoopC.intro (fun q xs _ H8 => P2Inv H l' v10 q xs H8) l'.length ⟨0, .v (.slice none 0 0), by omega, by omega, by simp, oT.same hs57 (by simp), by simpa using OwnT.nil 4 H7, hs5.trans hs57 (by simp), by simp [slId], by simp [slId]⟩ ?_
        rintro q xs bs H8 ⟨k, v15, hk, rfl, rfl, o10, o15, hs8, hd8, hj8⟩
        simp [ev_skip, ev_seq, ev_cond2, ev_block, ev_exit, ev_ret, ev_region2, evOps_nil, evOps_cons, opG_none, opA_move, opA_assign, opA_bin, opA_indexAddr, putO_some, putH_lt, binT_some, binA, avO_some, indexAddrT, io_lss, opS, opV, Go.Mx.look, seqK, blockK, Fr.known, retK, retA, resA, mapO, indexAddrA, mkFr, slotsOf, ptrsOf, boxesOf, orO_some, eqT_some, sz3, tk3, Tryd.underlying61]
        refine ⟨fun hlt => ?_, fun hge => ?_⟩
        · have hlt : k < l'.length := by omega
          obtain ⟨p, hx⟩ : ∃ p, l'[k]? = some p := ⟨_, List.getElem?_eq_getElem hlt⟩
          have hik : (intC l'.length)[k]? = some (.v (.int .i64 (k : Int))) := by simp [intC, intsTo, hlt]
          have hlt3 : (k : Int) < (l'.length : Int) := by omega
          have wk : IntKind.i64.wrap ((k : Int) + 1) = (k : Int) + 1 := wr_i64 (by omega)
          rcases o10 with ⟨q1, _⟩ | ⟨q1, q2, id, ver, tl, rfl, hid⟩
          · omega
          have hsub := flat_sub2 plC_len hx tl
          have hle := flat_le plC_len hx
          have hle2 : k * 4 + 4 ≤ (l'.flatMap plC ++ tl).length := by rw [List.length_append]; omega
          have htk : l'.take (k + 1) = l'.take k ++ [p] := by rw [List.take_add_one, hx]; rfl
          have o10' : OwnT 4 H8 l'.length (l'.flatMap plC) (.sl id ver 4 0 l'.length) := .inr ⟨q1, q2, id, ver, tl, rfl, hid⟩
          generalize hcs : l'.flatMap plC ++ tl = cs at *
          simp [ev_region2, evOps_nil, evOps_cons, opG_none, opA_move, opA_assign, opA_load, opA_indexAddr, opA_buildSlice, opA_append, putO_some, putH_lt, loadT, indexAddrT, buildSliceT, appendT, repeatL_1, opS, opV, Go.Mx.look, seqK, mapO, cellsA_agg, okPart_agg, partA, loadA, loadS, indexAddrA, fillA, bindO, srcTy, sz3, ag3, st26, Tryd.underlying26, sz30, ag30, by30, ze30, hlt, hik, hlt3, hid, hsub, hle2, plC]
          refine o15.app (by simp) (by omega) (fun v16 H9 o16 hs9 hid9 => ?_)
          have hj16 : ∀ j ∈ slId v16, j ∈ slId v15 ∨ j = H8.length := fun j hj => by
            rcases hid9 with e | e
            · rw [e] at hj; exact .inl hj
            · rw [e] at hj; simp at hj; exact .inr hj
          simp [ev_region2, evOps_nil, evOps_cons, opG_none, opA_move, opA_assign, opA_bin, putO_some, putH_lt, putC_lt, binT_some, binA, avO_some, io_add, opS, opV, Go.Mx.look, seqK, blockK, mapO, headK, getV, getB, chkP, orO_some, eqT_some, tk3, wk]
          refine ⟨l'.length - (k + 1), by omega, k + 1, v16, by omega, rfl, by simp, o10'.same hs9 hd8, by rw [htk]; simpa [plC] using o16, hs8.new hs9 hj8, fun j hj hm => ?_, fun j hj => ?_⟩
          · rcases hj16 j hm with h8 | h8
            · exact hd8 j hj h8
            · have := o10'.lt j hj; omega
          · rcases hj16 j hj with h8 | h8
            · exact hj8 j h8
            · have := hs8.1; omega
        · obtain rfl : k = l'.length := by omega
          rw [List.take_length] at o15
          exact ⟨_, _, ⟨rfl, rfl⟩, by simp, hs8, _, _, o15.new hj8, fun H9 hs9 => h l' H9 hmem hOr hOl hs9⟩
end Go.Proofs.YtgefinddmggpnaaDoor

namespace Go.Proofs.YtgefinddmggpnaaDoor
open Go.Mx
set_option linter.unusedVariables false
set_option linter.unusedSimpArgs false
set_option linter.unnecessarySimpa false
set_option maxRecDepth 100000

theorem laid : laidOutB Tryd.prog = true := by kernel_rfl
theorem agg30 : AggKey Tryd.prog 30 := AggKey.of laid (Nat.le_of_ble_eq_true (by kernel_rfl)) (Nat.le_of_ble_eq_true (by kernel_rfl)) (by kernel_rfl) (by kernel_rfl) (by kernel_rfl)
def WfP (p : Pl) : Prop := (Lit.int .i64 p.n).wf = true
theorem good30 {p : Pl} (h : WfP p) (z1 : p.al.size ≤ 80) (z2 : p.rm.size ≤ 100) (z3 : p.nm.size ≤ 60) : KGood Tryd.prog 30 (.agg (plC p)) := by
  have h := KGood.struct agg30 Tryd.underlying30 (by kernel_rfl) (by kernel_rfl) (by kernel_rfl) (us := [.string p.al, .string p.rm, .string p.nm, .int .i64 p.n]) (by kernel_rfl) (fun i f hf => by
    match i, hf with
    | 0, hf => simp at hf; subst hf; exact ⟨rfl, by kernel_rfl, _, rfl, PlainAt.str Tryd.underlying9 (by simp only [maxLen]; omega)⟩
    | 1, hf => simp at hf; subst hf; exact ⟨rfl, by kernel_rfl, _, rfl, PlainAt.str Tryd.underlying9 (by simp only [maxLen]; omega)⟩
    | 2, hf => simp at hf; subst hf; exact ⟨rfl, by kernel_rfl, _, rfl, PlainAt.str Tryd.underlying9 (by simp only [maxLen]; omega)⟩
    | 3, hf => simp at hf; subst hf; exact ⟨rfl, by kernel_rfl, _, rfl, PlainAt.int Tryd.underlying3 h⟩
    | i + 4, hf => simp at hf)
  exact h
theorem pl_read {xs : List AV} (h : Shp Tryd.prog 30 xs) : ∃ p : {p : Pl // WfP p}, xs = plC p.1 := by
  obtain ⟨qs, rfl, hq⟩ := shp_struct Tryd.underlying30 h
  obtain ⟨t0, f0, _⟩ := shp_str Tryd.underlying9 (hq 0 _ rfl)
  obtain ⟨t1, f1, _⟩ := shp_str Tryd.underlying9 (hq 1 _ rfl)
  obtain ⟨t2, f2, _⟩ := shp_str Tryd.underlying9 (hq 2 _ rfl)
  obtain ⟨t3, f3, w3⟩ := shp_int Tryd.underlying3 (hq 3 _ rfl)
  exact ⟨⟨⟨t0, t1, t2, t3⟩, w3⟩, by simp [List.range_succ, f0, f1, f2, f3, plC]⟩
/-- How many of a room. -/
def cntR (rm : ByteArray) (l : List Pl) : Nat := (l.filter (fun q => decide (q.rm = rm))).length
theorem cntR_add (rm : ByteArray) (l : List Pl) (q : Pl) : cntR rm (l ++ [q]) = cntR rm l + (if q.rm = rm then 1 else 0) := by
  unfold cntR
  rw [List.filter_append, List.length_append]
  by_cases h : q.rm = rm
  · rw [List.filter_cons, decide_eq_true h, if_pos h]; rfl
  · rw [List.filter_cons, decide_eq_false h, if_neg h]; rfl
theorem cntR_le (rm : ByteArray) (l : List Pl) : cntR rm l ≤ l.length := List.length_filter_le _ _
theorem cntR_one {rm : ByteArray} {l : List Pl} (hn : (l.map (·.rm)).Nodup) {p : Pl} (hp : p ∈ l) (hr : p.rm = rm) : cntR rm l = 1 := by
  obtain ⟨A, B, rfl⟩ := List.append_of_mem hp
  rw [List.map_append, List.map_cons, List.nodup_append, List.nodup_cons] at hn
  obtain ⟨h1, ⟨h2, h3⟩, h4⟩ := hn
  have hA : A.filter (fun q => decide (q.rm = rm)) = [] := by
    rw [List.filter_eq_nil_iff]
    intro q hq e
    have e1 : q.rm = rm := of_decide_eq_true e
    exact h4 q.rm (List.mem_map.2 ⟨q, hq, rfl⟩) p.rm (by simp) (by rw [e1, hr])
  have hB : B.filter (fun q => decide (q.rm = rm)) = [] := by
    rw [List.filter_eq_nil_iff]
    intro q hq e
    have e1 : q.rm = rm := of_decide_eq_true e
    exact h2 (List.mem_map.2 ⟨q, hq, by rw [e1, hr]⟩)
  unfold cntR
  rw [List.filter_append, hA, List.filter_cons, decide_eq_true hr, if_pos rfl, hB]
  rfl
theorem nodup_of {l : List Pl} (h : (l.map (·.rm)).Nodup) : l.Nodup := List.Pairwise.of_map (f := (·.rm)) (fun a b hne e => hne (by rw [e])) h
theorem filter_two {α : Type} (f : α → Bool) : ∀ l : List α, (l.filter (fun q => !f q)).length + (l.filter f).length = l.length
  | [] => rfl
  | x :: l => by
    have ih := filter_two f l
    rw [List.filter_cons, List.filter_cons]
    cases f x <;> simp <;> omega
/-- What is left when a room is taken off. -/
theorem less_one {g : ByteArray → Option Pl} {rm : ByteArray} {O O2 : List Pl} (h1 : ∀ p, p ∈ O ↔ g p.rm = some p) (h2 : ∀ p, p ∈ O2 ↔ updF g rm none p.rm = some p) (n1 : (O.map (·.rm)).Nodup) (n2 : (O2.map (·.rm)).Nodup) : O2.length + cntR rm O = O.length := by
  have hp : O2.Perm (O.filter (fun q => !decide (q.rm = rm))) := by
    refine (List.perm_ext_iff_of_nodup (nodup_of n2) ((nodup_of n1).filter _)).2 (fun p => ?_)
    rw [h2, List.mem_filter, h1]
    by_cases e : p.rm = rm
    · rw [decide_eq_true e]; simp [updF, e]
    · rw [decide_eq_false e]; simp [updF, e]
  rw [hp.length_eq]
  unfold cntR
  exact filter_two _ O
def LiInv (a : Nat) (p : Pl) (O : List Pl) (H : Hp) (n : Nat) (xs : List AV) (bs : List (List AV)) (H2 : Hp) : Prop :=
  ∃ i : Nat, i ≤ O.length ∧ n = O.length - i ∧ xs = [.ptr a 0 0, rowPl O, .v (.int .i64 (cntR p.rm (O.take i))), .v (.int .i64 i)] ∧ bs = [plC p] ∧ H2 = H
set_option maxHeartbeats 4000000 in
theorem lists_law (l : {l : List Dd // ∀ x ∈ l, SzD x}) (p : {p : Pl // WfP p}) : Sp Tryd.prog 4 [ddsV l.1, .agg (plC p.1)] (fun v _ => v = .v (.bool true)) [] := by
  obtain ⟨l, hz⟩ := l
  obtain ⟨p, hwf⟩ := p
  simp only
  refine Sp.body [(12, ⟨[5, 7, 9, 10], [(3, 3, 0)], [3]⟩)] ⟨[3], [], pl4⟩ tb4 mo Tryd.func4 rfl (Nat.le_of_ble_eq_true rfl) (by kernel_rfl) ?_
  simp [ev_seq, ev_region2, evOps_nil, evOps_cons, opG_none, opA_move, opA_assign, opA_call, opA_box, putO_some, putH_lt, boxT, opS, opV, Go.Mx.look, fr0, argSlots, seqK, Fr.newBox, dropBp, mapO, callA, cellsA_agg, okPart_agg, newK, ok6, pl4, ddsV, plC]
  refine few_sp l false [] _ hz (fun hfl => ?_) (fun _ => by simp [ev_seq, ev_cond2, ev_ret, ev_region2, evOps_nil, evOps_cons, opG_none, opG_some, opJ, opU_ff, isU_bool, opA_move, opA_assign, opA_pick, opA_un, putO_some, putH_lt, putC_lt, putV_lt, condB_true, pickT, unT, opS, opV, Go.Mx.look, seqK, Fr.known, retK, retA, resA, mapO, unA])
  simp [evOps_cons, opG_none, opG_some, opJ, opU_ff, isU_bool, opK_eq, opA_move, opA_un, opA_load, opA_call, opA_buildSlice, opA_build, putO_some, putH_lt, putC_lt, condB_false, unT, loadT, buildSliceT, repeatL_1, buildZ, partsZ, fillO, aggO, opS, opV, Go.Mx.look, Fr.known, mapO, unA, callA, cellsA_agg, okPart_agg, partA, loadS, fillA, bindO, Tryd.underlying22, sz30, ag30, sz35, ze35, of35, ok6]
  have hfew := fun Q h1 h0 => few_sp [⟨0, ⟨#[]⟩, ⟨#[]⟩, ⟨#[]⟩, p⟩] true [] Q (by intro x hx; simp at hx; subst hx; exact ⟨Nat.zero_le _, Nat.zero_le _, Nat.zero_le _⟩) h1 h0
  simp only [List.length_singleton, List.flatMap_cons, List.flatMap_nil, List.append_nil] at hfew
  refine hfew _ (fun hf => ?_) (fun _ => by simp [ev_seq, ev_cond2, ev_ret, ev_region2, evOps_nil, evOps_cons, opG_none, opG_some, opJ, opU_ff, isU_bool, opK_eq, opA_assign, opA_pick, opA_un, putO_some, putH_lt, putC_lt, condB_true, condB_false, pickT, unT, opS, opV, Go.Mx.look, seqK, Fr.known, retK, retA, resA, mapO, unA])
  obtain ⟨_, f2, f3, f4⟩ := hf.2 ⟨0, ⟨#[]⟩, ⟨#[]⟩, ⟨#[]⟩, p⟩ (by simp)
  replace f2 : p.al.size ≤ 80 := f2
  replace f3 : p.nm.size ≤ 60 := f3
  replace f4 : p.rm.size ≤ 100 := f4
  have hl50 := hfl.1
  simp [ev_skip, ev_seq, ev_cond2, ev_region2, evOps_nil, evOps_cons, opG_none, opG_some, opJ, opU_ff, isU_bool, opK_eq, opA_move, opA_pick, opA_un, opA_call, putO_some, putH_lt, putC_lt, condB_false, pickT, unT, opS, opV, Go.Mx.look, seqK, Fr.known, mapO, unA, callA, ok7]
  refine built_sp _ l [] _ (.inl ⟨false, rfl⟩) hfl (fun a H1 D fp hd1 hok hs1 hfp => ?_)
  obtain ⟨hok, hgk⟩ := hok
  simp [ev_skip, ev_seq, ev_cond2, ev_region2, evOps_nil, evOps_cons, opG_none, opA_move, opA_assign, opA_bin, opA_load, opA_call, putO_some, putH_lt, putC_lt, condB_false, binT_some, binA, eqRef, avO_some, loadT, opS, opV, Go.Mx.look, seqK, Fr.known, mapO, callA, partA, loadS, orO_some, eqT_some, tk24, sz30, ag30, ok11]
  refine list_sp a D fp p H1 _ hd1 (by omega) (by omega) (fun _ => ?_) (fun _ H2 hd2 hs2 => ?_)
  · simp [ev_seq, ev_cond2, ev_region2, evOps_nil, evOps_cons, opG_none, opG_some, opJ, opU_ft, isU_bool, opK_eq, opA_move, opA_assign, opA_bin, opA_call, putO_some, putH_lt, putC_lt, condB_true, binT_some, binA, avO_some, io_eql, io_neq, opS, opV, Go.Mx.look, seqK, Fr.known, mapO, callA, orO_some, eqT_some, tk36, ok10]
    refine awake_sp H1 _ (fun H3 _ => ?_)
    simp [ev_ret, evOps_nil, evOps_cons, opG_none, opA_assign, opA_pick, putO_some, putH_lt, putC_lt, pickT, opS, opV, Go.Mx.look, seqK, retK, retA, resA, mapO]
  simp [ev_skip, ev_seq, ev_cond2, ev_region2, evOps_nil, evOps_cons, opG_none, opA_move, opA_assign, opA_bin, opA_call, putO_some, putH_lt, putC_lt, condB_false, binT_some, binA, avO_some, io_neq, opS, opV, Go.Mx.look, seqK, Fr.known, mapO, callA, orO_some, eqT_some, tk36, ok8]
  have hg2 := hgk.put p
  have wf : ∀ {g : ByteArray → Option Pl} {n : Nat}, GOk g n → n ≤ 900 → WfG g := fun ⟨h1, K, h2, h3⟩ hn => ⟨h1, K, by omega, h3⟩
  refine places_sp a _ fp H2 _ hd2 (wf hg2 (by omega)) (fun O H3 hO hOn hOl hs3 => ?_)
  simp [ev_seq, ev_block, ev_region2, ev_loop, loopK, evOps_nil, evOps_cons, opG_none, opA_move, opA_assign, opA_extract, putO_some, putH_lt, putC_lt, extractT, opS, opV, Go.Mx.look, seqK, mapO, extractA, headK, getV, getB, chkP, firstReg]
  have hpO : p ∈ O := (hO p).2 (by simp [updF])
  have hc1 := cntR_one hOn hpO rfl
  have hd3 := hd2.same hs3 (by simp)
  refine LoopC.intro (fun n xs bs H4 => LiInv a p O H3 n xs bs H4) O.length ⟨0, by omega, by omega, by simp [rowPl, cntR], by first | (simp [plC]; done) | rfl, rfl⟩ ?_
  rintro n xs bs H4 ⟨i, hi, rfl, rfl, rfl, rfl⟩
  simp [ev_skip, ev_seq, ev_cond2, ev_block, ev_exit, ev_region2, evOps_nil, evOps_cons, opG_none, opA_move, opA_bin, opA_load, opA_indexAddr, opA_fieldAddr, opA_len, opA_call, putO_some, putH_lt, binT_some, binA, avO_some, loadT, lenT_row, fieldAddrT, indexAddrT, io_lss, opS, opV, Go.Mx.look, seqK, blockK, Fr.known, mapO, callA, partA, loadS, plusS, indexAddrA, mkFr, slotsOf, ptrsOf, boxesOf, orO_some, eqT_some, ev_draw, drawK, evP_q, opAt_some, tk3, sz9, ag9, Tryd.underlying26, sz30, Tryd.underlying30, ok12, rowPl, plC]
  refine ⟨fun hlt => ?_, fun hge => ?_⟩
  · have hlt : i < O.length := by omega
    obtain ⟨q, hx⟩ : ∃ q, O[i]? = some q := ⟨_, List.getElem?_eq_getElem hlt⟩
    have g1 := flat_get plC_len hx 1 (by omega)
    have hsub := flat_sub plC_len O i hx
    have hle := flat_le2 plC_len hx
    have htk : O.take (i + 1) = O.take i ++ [q] := by rw [List.take_add_one, hx]; rfl
    have hcl := cntR_le p.rm (O.take i)
    have htl : (O.take i).length ≤ O.length := by rw [List.length_take]; omega
    have w1 : IntKind.i64.wrap ((i : Int) + 1) = (i : Int) + 1 := wr_i64 (by omega)
    have w2 : IntKind.i64.wrap ((cntR p.rm (O.take i) : Int) + 1) = (cntR p.rm (O.take i) : Int) + 1 := wr_i64 (by omega)
    have hlt3 : (i : Int) < (O.length : Int) := by omega
    have step : ∀ c : Int, c = (cntR p.rm (O.take (i + 1)) : Int) → ∃ m, m < O.length - i ∧ LiInv a p O H4 m [.ptr a 0 0, rowPl O, .v (.int .i64 c), .v (.int .i64 ((i : Int) + 1))] [plC p] H4 := fun c hc =>
      ⟨O.length - (i + 1), by omega, i + 1, by omega, rfl, by rw [hc]; simp, rfl, rfl⟩
    rw [htk, cntR_add] at step
    simp only [plC, List.getElem?_cons_succ, List.getElem?_cons_zero] at g1
    by_cases hr : q.rm = p.rm
    · have hqp : q = p := by
        have e := (hO q).1 (List.mem_of_getElem? hx)
        rw [hr] at e
        simpa [updF] using e.symm
      rw [if_pos hr] at step
      have tu : (q.rm.toList = p.rm.toList) = True := by rw [tl_inj]; exact eq_true hr
      have hk := good30 hwf f2 f4 f3
      have he : eqAgg Tryd.prog 30 .neq (.agg (plC p)) (.agg (plC p)) = some (.v (.bool false)) := by simp [eqAgg, hk]
      rw [hqp] at hsub
      simp only [plC] at he hsub
      simp [ev_skip, ev_seq, ev_cond2, ev_region2, evOps_nil, evOps_cons, opG_none, opA_move, opA_assign, opA_bin, opA_load, opA_indexAddr, opA_fieldAddr, putO_some, putH_lt, condB_false, CondP_true, binT_some, binA, eqRef, avO_some, avO_none, loadT, fieldAddrT, indexAddrT, io_add, strOp, opS, opV, Go.Mx.look, seqK, blockK, Fr.known, mapO, partA, loadA, loadS, plusS, indexAddrA, headK, getV, getB, chkP, orO_some, orO_none, eqT_some, ev_draw, drawK, evP_nil, evP_q, opAt_some, tk3, sz9, ag9, tk9, Tryd.underlying26, sz30, ag30, tk30, Tryd.underlying30, hlt, hlt3, g1, tu, w1, w2, hsub, hle, he]
      exact step _ rfl
    · rw [if_neg hr] at step
      have tu : (q.rm.toList = p.rm.toList) = False := by rw [tl_inj]; exact eq_false hr
      simp [ev_skip, ev_cond2, ev_region2, evOps_nil, evOps_cons, opG_none, opA_move, opA_assign, opA_bin, opA_load, opA_fieldAddr, putO_some, putH_lt, CondP_false, binT_some, binA, avO_some, loadT, fieldAddrT, io_add, strOp, opS, opV, Go.Mx.look, seqK, blockK, Fr.known, mapO, partA, loadA, loadS, plusS, headK, getV, getB, chkP, orO_some, eqT_some, evP_nil, evP_q, opAt_some, tk3, sz9, ag9, tk9, Tryd.underlying30, hlt, g1, tu, w1]
      exact step _ rfl
  · have hie : O.take i = O := List.take_of_length_le (by omega)
    rw [hie, hc1]
    simp
    refine unlist_sp a _ fp p.rm H4 _ hd3 (fun H5 hd5 hs5 => ?_)
    simp [ev_seq, ev_region2, evOps_nil, evOps_cons, opG_none, opA_move, opA_assign, opA_call, putO_some, putH_lt, putC_lt, opS, opV, Go.Mx.look, seqK, mapO, callA, ok8]
    have hg5 := hg2.del p.rm
    refine places_sp a _ fp H5 _ hd5 (wf hg5 (by omega)) (fun O2 H6 hO2 hOn2 hOl2 hs6 => ?_)
    have hd6 := hd5.same hs6 (by simp)
    have hless := less_one hO hO2 hOn hOn2
    rw [hc1] at hless
    have w3 : IntKind.i64.wrap ((O.length : Int) - 1) = (O.length : Int) - 1 := wr_i64 (by omega)
    have e3 : (O2.length : Int) = (O.length : Int) - 1 := by omega
    simp [ev_seq, ev_region2, evOps_nil, evOps_cons, opG_none, opG_some, opJ, opU_ft, isU_bool, opK_eq, opA_move, opA_assign, opA_pick, opA_bin, opA_extract, opA_load, opA_fieldAddr, opA_call, putO_some, putH_lt, putC_lt, condB_true, binT_some, binA, avO_some, pickT, extractT, loadT, fieldAddrT, io_eql, opS, opV, Go.Mx.look, seqK, Fr.known, mapO, callA, extractA, partA, loadS, plusS, orO_some, eqT_some, tk3, sz9, ag9, Tryd.underlying30, ok12, updF]
    refine unlist_sp a _ fp p.rm H6 _ hd6 (fun H7 hd7 hs7 => ?_)
    simp [evOps_cons, opG_none, opG_some, opJ, opU_ft, isU_bool, opK_eq, opA_move, opA_pick, opA_bin, opA_un, opA_len, opA_call, putO_some, putH_lt, putC_lt, condB_true, binT_some, binA, avO_some, pickT, unT, lenT_row, io_sub, io_eql, opS, opV, Go.Mx.look, Fr.known, mapO, unA, callA, orO_some, eqT_some, tk3, Tryd.underlying26, ok10, updF, rowPl, w3, e3]
    refine awake_sp H7 _ (fun H8 _ => ?_)
    simp [ev_ret, evOps_nil, evOps_cons, opG_none, opA_assign, opA_pick, putO_some, putH_lt, putC_lt, pickT, opS, opV, Go.Mx.look, seqK, retK, retA, resA, mapO]
end Go.Proofs.YtgefinddmggpnaaDoor
