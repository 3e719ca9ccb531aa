import Derived.Test.YtgefinddmggpnaaDoorPV
import Derived.Test.YtgefinddmggpnaaDoorPP
namespace Go.Proofs.YtgefinddmggpnaaDoor
open Go.RowKit Go.Mx
set_option linter.unusedVariables false
set_option linter.unusedSimpArgs false
set_option maxRecDepth 100000

def intC (m : Nat) : List AV := (intsTo m).map (fun x => .v (.int .i64 x))
theorem encI_len (m : Nat) : (encI (intsTo m)).length = m := by simp [encI, intsTo_len]
theorem encI_get {m i : Nat} (h : i < m) : (encI (intsTo m))[i]? = some (.int .i64 (i : Int)) := by
  simp [encI, intsTo, h]
theorem box_w {ρ : Rho} {I : Imm} {H : Hp} {w : World} (hs : StH ρ I H w) {b ver : Nat} {c : AV} (hb : H[b]? = some (.cells ver [c])) {l : Go.Mx.Loc} (hl : ρ b ver = some l) : l.blk < w.heap.size ∧ ∃ u, w.cell? ⟨l.blk, l.base + 0, none⟩ = some u ∧ VR ρ I c u := by
  obtain ⟨_, l', e, hc⟩ := hs.obj _ _ hb
  rw [hl] at e; simp at e; subst e
  obtain ⟨arr, T, k1, k2, k3, k4⟩ := hc
  obtain ⟨u, hu, hv, _⟩ := k4 0 _ rfl
  exact ⟨(Array.getElem?_eq_some_iff.1 k1).1, u, by simpa [World.cell?, k1] using hu, hv⟩
theorem shown_w {ρ : Rho} {I : Imm} {H : Hp} {w : World} (hs : StH ρ I H w) {x : Bool} {m : Nat} {u : Value} (h : VR ρ I (.row x m (List.replicate m (.v (.bool true)))) u) : ShownW w.heap.size w u m := by
  cases h with
  | row _ _ _ us a cap h1 h2 h3 h4 h5 h6 =>
    refine ⟨a, cap, rfl, ?_⟩
    rcases Nat.eq_zero_or_pos m with hm | hm
    · exact .inl hm
    rcases h3 with ⟨h0, _⟩ | ⟨ad, rfl, h7, h8, arr, h9, h10⟩
    · omega
    obtain ⟨T, fz, hh⟩ := hs.imm _ _ h9
    obtain ⟨blk, off, spot⟩ := ad
    simp only at h7 h9 h10 hh
    subst h7
    refine .inr ⟨blk, off, rfl, (Array.getElem?_eq_some_iff.1 hh).1, fun j hj => ?_⟩
    have hlen : us.length = m := by simpa using h1
    have hv := h2 j (.v (.bool true)) (by simp [hj])
    have hu := h10 j (by omega)
    rw [hv.v_is] at hu
    simpa [World.cell?, hh] using hu
theorem some_sp (b1 b2 m : Nat) (x : Bool) (lim : Int) (H : Hp) (Q : AV → Hp → Prop) (h1 : H[b1]? = some (.cells 0 [.v (.int .i64 0)])) (h2 : H[b2]? = some (.cells 0 [.row x m (List.replicate m (.v (.bool true)))])) (hm : m ≤ 100000) (hlim : (m : Int) < lim)
    (h : Q (.tup [.row false m (intC m), .v (.bool false)]) H) : Sp Tryd.prog 39 [.fn (.func 64) [] [.ptr b1 0 0, .ptr b2 0 0], .v (.int .i64 lim)] Q H := by
  intro ρ I w us hs hv
  have hl := hv.1
  match us, hl, hv with
  | [u0, u1], _, hv =>
    have e0 : VR ρ I (.fn (.func 64) [] [.ptr b1 0 0, .ptr b2 0 0]) u0 := by simpa using hv.2 0 _ rfl
    have e1 : VR ρ I (.v (.int .i64 lim)) u1 := by simpa using hv.2 1 _ rfl
    have := e1.v_is; subst this
    cases e0 with
    | fn _ _ _ us vs k1 k2 k3 k4 =>
      obtain rfl : us = [] := List.eq_nil_of_length_eq_zero k1
      match vs, k3, k4 with
      | [v0, v1], _, k4 =>
        have f0 : VR ρ I (.ptr b1 0 0) v0 := by simpa using k4 0 _ rfl
        have f1 : VR ρ I (.ptr b2 0 0) v1 := by simpa using k4 1 _ rfl
        cases f0 with
        | ptr _ _ _ l1 hl1 =>
        cases f1 with
        | ptr _ _ _ l2 hl2 =>
          obtain ⟨g1, u, g2, g3⟩ := box_w hs h1 hl1
          obtain ⟨g4, u2, g5, g6⟩ := box_w hs h2 hl2
          rw [g3.v_is] at g2
          refine (calls_of_every_depth (L := [39, 64]) (n := 3) (fun D => some_in (Fence.list [39, 64] (some D)) 3 (show 39 ∈ _ by decide) (show 64 ∈ _ by decide) rfl (Nat.le_refl _) l1.blk l2.blk (l1.base + 0) (l2.base + 0) u2 m hm lim hlim w g1 g4 g2 g5 (shown_w hs g6))).mono ?_
          rintro e w' ⟨v, rfl, hrow, hnil, hb⟩
          have hg : Gw none w w' := ⟨hb.os, hb.tape, hb.output, hb.size, fun b hlt _ => hb.block b hlt⟩
          rcases hrow.2 with ⟨rfl, rfl⟩ | ⟨g, cap, cur, rfl, hg1, hg2, hg3, hg4, hg5, hg6⟩
          · refine ⟨_, _, ρ, I, H, rfl, Mv.junk hs hg, .tup _ [_, _] rfl (fun i c hc => ?_), h⟩
            match i, hc with
            | 0, hc => simp at hc; subst hc; exact .row false 0 [] [] none 0 rfl (fun i c hc => by simp at hc) (.inl ⟨rfl, rfl⟩) (by simp) (Nat.le_refl _) (by simp)
            | 1, hc => simp at hc; subst hc; exact .v _
            | i + 2, hc => simp at hc
          · refine ⟨_, _, ρ, I.set g cur, H, rfl, Mv.newImm hs hg (by omega) hg2, .tup _ [_, _] rfl (fun i c hc => ?_), h⟩
            match i, hc with
            | 0, hc =>
              simp at hc; subst hc
              refine .row false m (intC m) (encI (intsTo m)) (some ⟨g, 0, none⟩) cap (by simp [intC, encI]) (fun i c hc => ?_) (.inr ⟨_, rfl, rfl, ?_, cur, by simp [Imm.set], fun i hi => ?_⟩) (fun ad e => .inl (by cases e; rfl)) hg3 (by simp)
              · have hi : i < m := by
                  have := (List.getElem?_eq_some_iff.1 hc).1
                  simpa [intC, intsTo_len] using this
                rw [List.getD_eq_getElem?_getD, encI_get hi]
                simp [intC, intsTo, hi] at hc
                subst hc
                exact .v _
              · intro u hu
                simp only [encI, List.mem_map] at hu
                obtain ⟨z, _, rfl⟩ := hu
                rfl
              · have hi2 : i < m := by rw [encI_len] at hi; exact hi
                have e3 : (encI (intsTo m))[i]? = cur.toList[i]? := by rw [← hg6, Nat.mul_one, List.getElem?_take, if_pos hi2]
                rw [List.getD_eq_getElem?_getD, e3]
                have : i < cur.size := by rw [hg5]; omega
                simp [this]
            | 1, hc => simp at hc; subst hc; exact .v _
            | i + 2, hc => simp at hc
end Go.Proofs.YtgefinddmggpnaaDoor

namespace Go.Proofs.YtgefinddmggpnaaDoor
open Go.Mx
set_option linter.unusedVariables false
set_option linter.unusedSimpArgs false
set_option maxRecDepth 100000

def truesR (m : Nat) : AV := .row false m (List.replicate m (.v (.bool true)))
theorem clip_sp (m : Nat) (H : Hp) (Q : AV → Hp → Prop) (h : Q (.v (.int .i64 0)) H) : Sp Tryd.prog 38 [truesR m, .v (.int .i64 0)] Q H := by
  refine Sp.body [] ⟨[], [], []⟩ [] mo Tryd.func38 rfl (Nat.le_of_ble_eq_true rfl) (by kernel_rfl) ?_
  have h0 : ¬ ((m : Int) < 0) := by omega
  simp [ev_seq, ev_ret, ev_region2, evOps_nil, evOps_cons, opG_none, opA_move, opA_assign, opA_len, opA_max, opA_min, putO_some, putH_lt, lenT_row, maxT, minT, maxA, minA, opS, opV, Go.Mx.look, fr0, argSlots, seqK, retK, retA, resA, mapO, Tryd.underlying64, truesR, h0]
  exact h
theorem up_sp (m : Nat) (H : Hp) (Q : AV → Hp → Prop) (h : Q (.fn (.func 64) [] [.ptr (H.length + 1) 0 0, .ptr H.length 0 0]) (H ++ [.cells 0 [truesR m], .cells 0 [.v (.int .i64 0)]])) : Sp Tryd.prog 40 [truesR m, .v (.int .i64 0)] Q H := by
  refine Sp.body [] ⟨[], [], []⟩ [] mo Tryd.func40 rfl (Nat.le_of_ble_eq_true rfl) (by kernel_rfl) ?_
  simp [ev_seq, ev_ret, ev_region2, evOps_nil, evOps_cons, opG_none, opA_assign, opA_box, opA_makeFunc, putO_some, putH_lt, boxT, fnT, opS, opV, Go.Mx.look, fr0, argSlots, seqK, retK, retA, resA, mapO, cellsA_v, cellsA_row, okPart_v, okPart_row, Value.oneCell', newK, truesR]
  simpa [truesR] using h
theorem forward_sp (m : Nat) (lim : Int) (H : Hp) (Q : AV → Hp → Prop) (hm : m ≤ 100000) (hlim : (m : Int) < lim) (h : ∀ H', Same [] H H' → Q (.tup [.row false m (intC m), .v (.int .i64 m)]) H') : Sp Tryd.prog 25 [truesR m, .v (.int .i64 0), .v (.int .i64 lim)] Q H := by
  refine Sp.body [] ⟨[], [], pl25⟩ tb25 mo Tryd.func25 rfl (Nat.le_of_ble_eq_true rfl) (by kernel_rfl) ?_
  have h0 : ¬ (lim < 1) := by omega
  simp [ev_seq, ev_region2, evOps_nil, evOps_cons, opG_none, opA_move, opA_assign, opA_call, putO_some, putH_lt, opS, opV, Go.Mx.look, fr0, argSlots, seqK, mapO, callA, ok38, pl25, truesR]
  refine clip_sp m H _ ?_
  simp [ev_skip, ev_seq, ev_cond2, ev_region2, evOps_nil, evOps_cons, opG_none, opA_move, opA_assign, opA_bin, opA_call, putO_some, putH_lt, putC_lt, condB_false, binT_some, binA, avO_some, io_lss, opS, opV, Go.Mx.look, seqK, Fr.known, mapO, callA, orO_some, eqT_some, tk3, ok40, h0]
  refine up_sp m H _ ?_
  simp [evOps_cons, opG_none, opA_move, opA_call, putO_some, putH_lt, putC_lt, opS, opV, Go.Mx.look, mapO, callA, ok39]
  refine some_sp (H.length + 1) H.length m false lim _ _ ?_ ?_ hm hlim ?_
  · rw [List.getElem?_append_right (by omega)]; simp
  · rw [List.getElem?_append_right (by omega)]; simp [truesR]
  simp [ev_skip, ev_seq, ev_cond2, ev_ret, ev_region2, evOps_nil, evOps_cons, opG_none, opA_move, opA_assign, opA_extract, opA_len, putO_some, putH_lt, putC_lt, condB_false, extractT, lenT_row, opS, opV, Go.Mx.look, seqK, Fr.known, retK, retA, resA, mapO, extractA, Tryd.underlying64]
  exact h _ (Same.app _ _ _)
end Go.Proofs.YtgefinddmggpnaaDoor

namespace Go.Proofs.YtgefinddmggpnaaDoor
open Go.RowKit Go.Mx
set_option linter.unusedVariables false
set_option linter.unusedSimpArgs false
set_option maxRecDepth 100000

def intCF (a k : Nat) : List AV := (intsFrom a k).map (fun x => .v (.int .i64 x))
theorem intCF_len (a k : Nat) : (intCF a k).length = k := by simp [intCF, intsFrom_len]
theorem intCF_get {a k i : Nat} (h : i < k) : (intCF a k)[i]? = some (.v (.int .i64 ((a : Int) + (i : Int)))) := by simp [intCF, intsFrom, h]
theorem encI_lenF (a k : Nat) : (encI (intsFrom a k)).length = k := by simp [encI, intsFrom_len]
theorem encI_getF {a k i : Nat} (h : i < k) : (encI (intsFrom a k))[i]? = some (.int .i64 ((a : Int) + (i : Int))) := by
  simp [encI, intsFrom, h]
theorem some2_sp (b1 b2 a m : Nat) (x : Bool) (lim : Int) (H : Hp) (Q : AV → Hp → Prop) (h1 : H[b1]? = some (.cells 0 [.v (.int .i64 (a : Int))])) (h2 : H[b2]? = some (.cells 0 [.row x m (List.replicate m (.v (.bool true)))])) (ham : a ≤ m) (hm : m ≤ 100000) (hlim : 1 ≤ lim)
    (h : ∀ (k : Nat) (b : Bool), ((b = false ∧ k = m - a ∧ (k : Int) < lim) ∨ (b = true ∧ (k : Int) = lim ∧ k ≤ m - a)) → Q (.tup [.row false k (intCF a k), .v (.bool b)]) H) : Sp Tryd.prog 39 [.fn (.func 64) [] [.ptr b1 0 0, .ptr b2 0 0], .v (.int .i64 lim)] Q H := by
  intro ρ I w us hs hv
  have hl := hv.1
  match us, hl, hv with
  | [u0, u1], _, hv =>
    have e0 : VR ρ I (.fn (.func 64) [] [.ptr b1 0 0, .ptr b2 0 0]) u0 := by simpa using hv.2 0 _ rfl
    have e1 : VR ρ I (.v (.int .i64 lim)) u1 := by simpa using hv.2 1 _ rfl
    have := e1.v_is; subst this
    cases e0 with
    | fn _ _ _ us vs k1 k2 k3 k4 =>
      obtain rfl : us = [] := List.eq_nil_of_length_eq_zero k1
      match vs, k3, k4 with
      | [v0, v1], _, k4 =>
        have f0 : VR ρ I (.ptr b1 0 0) v0 := by simpa using k4 0 _ rfl
        have f1 : VR ρ I (.ptr b2 0 0) v1 := by simpa using k4 1 _ rfl
        cases f0 with
        | ptr _ _ _ l1 hl1 =>
        cases f1 with
        | ptr _ _ _ l2 hl2 =>
          obtain ⟨g1, u, g2, g3⟩ := box_w hs h1 hl1
          obtain ⟨g4, u2, g5, g6⟩ := box_w hs h2 hl2
          rw [g3.v_is] at g2
          refine (calls_of_every_depth (L := [39, 64]) (n := 3) (fun D => some2_in (Fence.list [39, 64] (some D)) 3 (show 39 ∈ _ by decide) (show 64 ∈ _ by decide) rfl (Nat.le_refl _) l1.blk l2.blk (l1.base + 0) (l2.base + 0) u2 a m ham hm lim hlim w g1 g4 g2 g5 (shown_w hs g6))).mono ?_
          rintro e w' ⟨v, k, bb, rfl, hrow, hnil, hkb, hb⟩
          have hkm : k ≤ m := by rcases hkb with h | h <;> omega
          replace h := h k bb hkb
          have hg : Gw none w w' := ⟨hb.os, hb.tape, hb.output, hb.size, fun b hlt _ => hb.block b hlt⟩
          rcases hrow.2 with ⟨rfl, rfl⟩ | ⟨g, cap, cur, rfl, hg1, hg2, hg3, hg4, hg5, hg6⟩
          · refine ⟨_, _, ρ, I, H, rfl, Mv.junk hs hg, .tup _ [_, _] rfl (fun i c hc => ?_), h⟩
            match i, hc with
            | 0, hc => simp at hc; subst hc; exact .row false 0 [] [] none 0 rfl (fun i c hc => by simp at hc) (.inl ⟨rfl, rfl⟩) (by simp) (Nat.le_refl _) (by simp)
            | 1, hc => simp at hc; subst hc; exact .v _
            | i + 2, hc => simp at hc
          · refine ⟨_, _, ρ, I.set g cur, H, rfl, Mv.newImm hs hg (by omega) hg2, .tup _ [_, _] rfl (fun i c hc => ?_), h⟩
            match i, hc with
            | 0, hc =>
              simp at hc; subst hc
              refine .row false k (intCF a k) (encI (intsFrom a k)) (some ⟨g, 0, none⟩) cap (by simp [intCF, encI]) (fun i c hc => ?_) (.inr ⟨_, rfl, rfl, ?_, cur, by simp [Imm.set], fun i hi => ?_⟩) (fun ad e => .inl (by cases e; rfl)) hg3 (by simp)
              · have hi : i < k := by
                  have := (List.getElem?_eq_some_iff.1 hc).1
                  simpa [intCF, intsFrom_len] using this
                rw [List.getD_eq_getElem?_getD, encI_getF hi]
                simp [intCF, intsFrom, hi] at hc
                subst hc
                exact .v _
              · intro u hu
                simp only [encI, List.mem_map] at hu
                obtain ⟨z, _, rfl⟩ := hu
                rfl
              · have hi2 : i < k := by rw [encI_lenF] at hi; exact hi
                have e3 : (encI (intsFrom a k))[i]? = cur.toList[i]? := by rw [← hg6, Nat.mul_one, List.getElem?_take, if_pos hi2]
                rw [List.getD_eq_getElem?_getD, e3]
                have : i < cur.size := by rw [hg5]; omega
                simp [this]
            | 1, hc => simp at hc; subst hc; exact .v _
            | i + 2, hc => simp at hc
end Go.Proofs.YtgefinddmggpnaaDoor

namespace Go.Proofs.YtgefinddmggpnaaDoor
open Go.Mx
set_option linter.unusedVariables false
set_option linter.unusedSimpArgs false
set_option maxRecDepth 100000

theorem clip2_sp (m a : Nat) (ham : a ≤ m) (H : Hp) (Q : AV → Hp → Prop) (h : Q (.v (.int .i64 (a : Int))) H) : Sp Tryd.prog 38 [truesR m, .v (.int .i64 (a : Int))] Q H := by
  refine Sp.body [] ⟨[], [], []⟩ [] mo Tryd.func38 rfl (Nat.le_of_ble_eq_true rfl) (by kernel_rfl) ?_
  have h0 : ¬ ((a : Int) < 0) := by omega
  have h1 : ¬ ((m : Int) < (a : Int)) := by omega
  simp [ev_seq, ev_ret, ev_region2, evOps_nil, evOps_cons, opG_none, opA_move, opA_assign, opA_len, opA_max, opA_min, putO_some, putH_lt, lenT_row, maxT, minT, maxA, minA, opS, opV, Go.Mx.look, fr0, argSlots, seqK, retK, retA, resA, mapO, Tryd.underlying64, truesR]
  have e1 : (if 0 < a then (a : Int) else 0) = (a : Int) := by split <;> omega
  rw [e1, if_neg h1]
  exact h
theorem up2_sp (m a : Nat) (H : Hp) (Q : AV → Hp → Prop) (h : Q (.fn (.func 64) [] [.ptr (H.length + 1) 0 0, .ptr H.length 0 0]) (H ++ [.cells 0 [truesR m], .cells 0 [.v (.int .i64 (a : Int))]])) : Sp Tryd.prog 40 [truesR m, .v (.int .i64 (a : Int))] Q H := by
  refine Sp.body [] ⟨[], [], []⟩ [] mo Tryd.func40 rfl (Nat.le_of_ble_eq_true rfl) (by kernel_rfl) ?_
  simp [ev_seq, ev_ret, ev_region2, evOps_nil, evOps_cons, opG_none, opA_assign, opA_box, opA_makeFunc, putO_some, putH_lt, boxT, fnT, opS, opV, Go.Mx.look, fr0, argSlots, seqK, retK, retA, resA, mapO, cellsA_v, cellsA_row, okPart_v, okPart_row, Value.oneCell', newK, truesR]
  simpa [truesR] using h
theorem forward2_sp (m a : Nat) (lim : Int) (H : Hp) (Q : AV → Hp → Prop) (ham : a ≤ m) (hm : m ≤ 100000) (hlim : 1 ≤ lim ∧ lim ≤ 9223372036854775807)
    (h : ∀ H' (k : Nat), Same [] H H' → k ≤ m - a → (k : Int) ≤ lim → (k = m - a ∨ (k : Int) = lim) → Q (.tup [.row false k (intCF a k), .v (.int .i64 ((a : Int) + (k : Int)))]) H') : Sp Tryd.prog 25 [truesR m, .v (.int .i64 (a : Int)), .v (.int .i64 lim)] Q H := by
  refine Sp.body [] ⟨[], [], pl25⟩ tb25 mo Tryd.func25 rfl (Nat.le_of_ble_eq_true rfl) (by kernel_rfl) ?_
  have h0 : ¬ (lim < 1) := by omega
  simp [ev_seq, ev_region2, evOps_nil, evOps_cons, opG_none, opA_move, opA_assign, opA_call, putO_some, putH_lt, opS, opV, Go.Mx.look, fr0, argSlots, seqK, mapO, callA, ok38, pl25, truesR]
  refine clip2_sp m a ham H _ ?_
  simp [ev_skip, ev_seq, ev_cond2, ev_region2, evOps_nil, evOps_cons, opG_none, opA_move, opA_assign, opA_bin, opA_call, putO_some, putH_lt, putC_lt, condB_false, binT_some, binA, avO_some, io_lss, opS, opV, Go.Mx.look, seqK, Fr.known, mapO, callA, orO_some, eqT_some, tk3, ok40, h0]
  refine up2_sp m a H _ ?_
  simp [evOps_cons, opG_none, opA_move, opA_call, putO_some, putH_lt, putC_lt, opS, opV, Go.Mx.look, mapO, callA, ok39]
  refine some2_sp (H.length + 1) H.length a m false lim _ _ ?_ ?_ ham hm hlim.1 ?_
  · rw [List.getElem?_append_right (by omega)]; simp
  · rw [List.getElem?_append_right (by omega)]; simp [truesR]
  rintro k b (⟨rfl, hk, hkl⟩ | ⟨rfl, hkl, hkm⟩)
  · simp [ev_skip, ev_seq, ev_cond2, ev_ret, ev_region2, evOps_nil, evOps_cons, opG_none, opA_move, opA_assign, opA_extract, opA_len, putO_some, putH_lt, putC_lt, condB_false, extractT, lenT_row, opS, opV, Go.Mx.look, seqK, Fr.known, retK, retA, resA, mapO, extractA, Tryd.underlying64]
    have e : ((a : Int) + (k : Int)) = (m : Int) := by omega
    have := h _ k (Same.app [] H [.cells 0 [truesR m], .cells 0 [.v (.int .i64 (a : Int))]]) (by omega) (by omega) (.inl hk)
    rw [e] at this
    exact this
  · have w1 : IntKind.i64.wrap (lim - 1) = ((k - 1 : Nat) : Int) := by rw [wr_i64 (by omega)]; omega
    have hg := intCF_get (a := a) (k := k) (i := k - 1) (by omega)
    have w2 : IntKind.i64.wrap ((a : Int) + ((k - 1 : Nat) : Int) + 1) = (a : Int) + (k : Int) := by rw [wr_i64 (by omega)]; omega
    have hlt : k - 1 < k := by omega
    simp [ev_seq, ev_cond2, ev_ret, ev_region2, evOps_nil, evOps_cons, opG_none, opA_move, opA_assign, opA_bin, opA_extract, opA_load, opA_indexAddr, putO_some, putH_lt, putC_lt, condB_true, binT_some, binA, avO_some, extractT, loadT, indexAddrT, io_add, io_sub, opS, opV, Go.Mx.look, seqK, Fr.known, retK, retA, resA, mapO, extractA, partA, loadA, loadS, indexAddrA, orO_some, eqT_some, ev_draw, drawK, evP_nil, evP_q, evP_s, opAt_some, chkK_eq, sameV_some, sameO_some, allQ_nil, allQ_cons, valQ_none, valS_move, valS_bin, valS_load, valS_indexAddr, tk2, sz3, ag3, tk3, Tryd.underlying61, w1, hlt, hg, w2]
    exact h _ k (Same.app [] H [.cells 0 [truesR m], .cells 0 [.v (.int .i64 (a : Int))]]) hkm (by omega) (.inr hkl)
end Go.Proofs.YtgefinddmggpnaaDoor
