import Derived.Test.YtoakdmkjlpjahaaDoorPB
import Derived.Test.YtoakdmkjlpjahaaDoorMxSi
import Derived.Test.YtoakdmkjlpjahaaDoorMxSe
import Derived.Shelf.Spec.SlicesInsert
import Derived.Shelf.Spec.SlicesInsertGrow
import Derived.Test.YtoakdmkjlpjahaaDoorMxSc
import Derived.Test.YtoakdmkjlpjahaaDoorMxSj
import Derived.Shelf.Slices.Delete
namespace Go.Proofs.YtoakdmkjlpjahaaDoor
open Go.RowKit Go.Mx
set_option linter.unusedVariables false
set_option linter.unusedSimpArgs false
set_option linter.unnecessarySimpa false
set_option maxRecDepth 100000

theorem tabs_st {ρ : Rho} {I : Imm} {H : Hp} {w : World} (hs : StH ρ I H w) (hT : Tb H) : Tabs (immOf w) tabsH := by
  have key : ∀ g us, H[g]? = some (.tab g us) → Rd (immOf w) ⟨g, 0, none⟩ us := fun g us hg => by
    obtain ⟨h1, h2, arr, h3, h4⟩ := hs.obj _ _ hg
    obtain ⟨T, fz, hh⟩ := hs.imm _ _ h3
    exact ⟨h1, h2, arr, by simp only [immOf, hh], h4⟩
  intro id o ho
  match id, ho with
  | 0, ho => simp [tabsH] at ho; subst ho; exact .inr ⟨_, rfl, key 0 _ hT.1⟩
  | 1, ho => simp [tabsH] at ho; subst ho; exact .inr ⟨_, rfl, key 1 _ hT.2⟩
  | n + 2, ho => simp [tabsH] at ho
def wdC (x : W2) : List AV := [.v (.string (tx x.1)), .v (.bool x.2)]
theorem wdC_len (x : W2) : (wdC x).length = 2 := rfl
def rowW (ws : List W2) : AV := .row false ws.length (ws.flatMap wdC)
theorem enc_flat (ws : List W2) : ws.flatMap wdC = (encW ws).map .v := by
  unfold encW
  rw [List.map_flatMap]; rfl
/-- split: the words of a text, by value. -/
theorem split_sp (l : List UInt8) (hl : l.length ≤ 100000) (H : Hp) (hT : Tb H) (Q : AV → Hp → Prop) (h : Q (rowW (splL l)) H) : Sp Tryd.prog 26 [.v (.string (tx l))] Q H := by
  intro ρ I w us hs hv
  have hln := hv.1
  match us, hln, hv with
  | [u0], _, hv =>
    have e0 : VR ρ I (.v (.string (tx l))) u0 := by simpa using hv.2 0 _ rfl
    have := e0.v_is; subst this
    refine (split_calls l hl w (tabs_st hs hT)).mono ?_
    rintro e w' ⟨v, rfl, hrow, hnil, hb⟩
    have hg : Gw none w w' := ⟨hb.os, hb.tape, hb.output, hb.size, fun b hlt _ => hb.block b hlt⟩
    rcases hrow.2 with ⟨rfl, h0⟩ | ⟨g, cap, cur, rfl, hg1, hg2, hg3, hg4, hg5, hg6⟩
    · have hn : splL l = [] := List.length_eq_zero_iff.1 h0
      rw [hn] at h
      exact ⟨_, _, ρ, I, H, rfl, Mv.junk hs hg, .row false 0 [] [] none 0 rfl (fun i c hc => by simp at hc) (.inl ⟨rfl, rfl⟩) (by simp) (Nat.le_refl _) (by simp), h⟩
    · refine ⟨_, _, ρ, I.set g cur, H, rfl, Mv.newImm hs hg (by omega) hg2, ?_, h⟩
      refine .row false (splL l).length _ (encW (splL l)) (some ⟨g, 0, none⟩) cap (by rw [enc_flat]; simp) (fun i c hc => ?_) (.inr ⟨_, rfl, rfl, ?_, cur, by simp [Imm.set], fun i hi => ?_⟩) (fun ad e => .inl (by cases e; rfl)) hg3 (by simp)
      · rw [enc_flat, List.getElem?_map] at hc
        cases hx : (encW (splL l))[i]? with
        | none => rw [hx] at hc; simp at hc
        | some x =>
          rw [hx] at hc; simp at hc; subst hc
          rw [List.getD_eq_getElem?_getD, hx]
          exact .v _
      · intro u hu
        unfold encW at hu
        obtain ⟨x, _, hx⟩ := List.mem_flatMap.1 hu
        simp at hx
        rcases hx with rfl | rfl <;> rfl
      · have hi2 : i < (splL l).length * 2 := by rw [encW_len] at hi; exact hi
        have e3 : (encW (splL l))[i]? = cur.toList[i]? := by rw [← hg6, List.getElem?_take, if_pos hi2]
        rw [List.getD_eq_getElem?_getD, e3]
        have : i < cur.size := by
          have := congrArg List.length hg6
          rw [List.length_take, encW_len] at this
          simp at this; omega
        simp [this]

/-! ### Words -/
def wordsL (l : List UInt8) : List (List UInt8) := (splL l).map (·.1)
def txC (x : List UInt8) : List AV := [.v (.string (tx x))]
theorem txC_len (x : List UInt8) : (txC x).length = 1 := rfl
def rowT (ws : List (List UInt8)) : AV := .row false ws.length (ws.flatMap txC)
theorem words_sp (l : List UInt8) (hl : l.length ≤ 100000) (H : Hp) (hT : Tb H) (Q : AV → Hp → Prop) (hn : (splL l).length ≤ 100000) (h : Q (rowT (wordsL l)) H) : Sp Tryd.prog 10 [.v (.string (tx l))] Q H := by
  refine Sp.newK ?_
  obtain ⟨cs, hcs⟩ : ∃ cs, cs = (splL l).flatMap wdC := ⟨_, rfl⟩
  have hr : rowW (splL l) = .row false (splL l).length cs := by rw [hcs]; rfl
  have lc : cs.length = (splL l).length * 2 := by rw [hcs, flat_len wdC_len]
  have at_ : ∀ {i : Nat} {x : W2}, (splL l)[i]? = some x → (cs.drop (i * 2)).take 2 = wdC x := fun h => by rw [hcs]; exact flat_sub wdC_len _ _ h
  clear hcs
  refine Sp.body [(3, ⟨[3, 7, 8, 9], [], []⟩)] ⟨[5], [], []⟩ [] mo Tryd.func10 rfl (Nat.le_of_ble_eq_true rfl) (by kernel_rfl) ?_
  simp [ev_seq, ev_region2, evOps_nil, evOps_cons, opG_none, opA_move, opA_assign, opA_call, putO_some, putH_lt, opS, opV, Go.Mx.look, fr0, argSlots, seqK, mapO, callA, ok26]
  refine split_sp l hl H hT _ ?_
  rw [hr]
  simp [ev_block, ev_loop, loopK, evOps_nil, evOps_cons, opG_none, opA_move, opA_len, putO_some, putH_lt, putC_lt, lenT_row, opS, opV, Go.Mx.look, seqK, mapO, headK, getV, getB, chkP, firstReg, Tryd.underlying53]
  refine LoopC.intro (fun n xs _ H2 => ∃ (i : Nat) (v : AV), i ≤ (splL l).length ∧ n = (splL l).length - i ∧ xs = [v, .row false (splL l).length cs, .v (.int .i64 (splL l).length), .v (.int .i64 i)] ∧ NewK 1 H H2 i (((wordsL l).take i).flatMap txC) v ∧ Same [] H H2) (splL l).length ⟨0, .v (.slice none 0 0), by omega, by omega, by simp, NewK.nil _ _ _, Same.refl _ _⟩ ?_
  rintro n xs bs H2 ⟨i, v, hi, rfl, rfl, hk, hs⟩
  by_cases hlt : i < (splL l).length
  · have hx := List.getElem?_eq_getElem hlt
    generalize (splL l)[i] = x at hx
    have gs := at_ hx
    have hle : i * 2 + 2 ≤ cs.length := by omega
    have w1 : IntKind.i64.wrap ((i : Int) + 1) = (i : Int) + 1 := wr_i64 (by omega)
    have hlt' : (i : Int) < ((splL l).length : Int) := by omega
    have htk : (wordsL l).take (i + 1) = (wordsL l).take i ++ [x.1] := by
      rw [List.take_add_one]
      simp [wordsL, hx]
    simp [ev_skip, ev_seq, ev_cond2, ev_block, ev_region2, evOps_nil, evOps_cons, opG_none, opA_move, opA_bin, opA_load, opA_indexAddr, opA_fieldAddr, opA_alloc, opA_store, opA_buildSlice, opA_append, putO_some, putH_lt, putU_none, condB_true, binT_some, binA, avO_some, loadT, fieldAddrT, indexAddrT, allocT, storeT, buildSliceT, appendT, io_lss, opS, opV, Go.Mx.look, seqK, Fr.known, Fr.newBox, dropBp, mapO, cellsA_v, cellsA_agg, okPart_v, okPart_agg, Value.oneCell', partA, loadA, loadS, plusS, indexAddrA, fillA, newK, storeS, mkFr, slotsOf, ptrsOf, boxesOf, bindO, srcTy, orO_some, eqT_some, tk3, sz9, ag9, by9, ze9, st23, Tryd.underlying23, Tryd.underlying53, sz56, ag56, ze56, Tryd.underlying56, hlt', gs, hle, wdC, splice]
    refine hk.app (c := txC x.1) rfl hs.1 ⟨by omega, by omega⟩ ?_
    intro v' H3 fp hk3 hs3 hfp
    simp [ev_region2, evOps_nil, evOps_cons, opG_none, opA_move, opA_assign, opA_bin, putO_some, putH_lt, putC_lt, binT_some, binA, avO_some, io_add, opS, opV, Go.Mx.look, seqK, blockK, mapO, headK, getV, getB, chkP, orO_some, eqT_some, tk3, w1]
    exact ⟨(splL l).length - (i + 1), by omega, i + 1, by omega, rfl, v', ⟨rfl, by omega⟩, by rw [htk]; simpa using hk3, hs.new hs3 (fun j hj => (hfp j hj).1)⟩
  · have : i = (splL l).length := by omega
    subst this
    have hlt' : ¬ (((splL l).length : Int) < ((splL l).length : Int)) := by omega
    simp [ev_seq, ev_cond2, ev_exit, ev_ret, ev_region2, evOps_nil, evOps_cons, opG_none, opA_move, opA_assign, opA_bin, putO_some, putH_lt, condB_false, binT_some, binA, avO_some, io_lss, opS, opV, Go.Mx.look, seqK, blockK, Fr.known, retK, retA, resA, mapO, mkFr, slotsOf, ptrsOf, boxesOf, orO_some, eqT_some, tk3]
    have e : (wordsL l).take (splL l).length = wordsL l := List.take_of_length_le (by simp [wordsL])
    rw [e] at hk
    refine ⟨hs, 1, _, _, hk, ?_, ?_⟩
    · intro c hc
      obtain ⟨x, _, hx⟩ := List.mem_flatMap.1 hc
      simp [txC] at hx; subst hx; simp
    · have : (wordsL l).length = (splL l).length := by simp [wordsL]
      unfold rowT at h
      rw [this] at h
      exact h
end Go.Proofs.YtoakdmkjlpjahaaDoor

namespace Go.Proofs.YtoakdmkjlpjahaaDoor
open Go.Mx
set_option linter.unusedVariables false
set_option linter.unusedSimpArgs false
set_option linter.unnecessarySimpa false
set_option maxRecDepth 100000

def slId : AV → List Nat
  | .sl id _ _ _ _ => [id]
  | _ => []
/-- A slice of one's own, or nil. -/
def OwnT (k : Nat) (H : Hp) (n : Nat) (cs : List AV) (v : AV) : Prop := (n = 0 ∧ cs = [] ∧ v = .v (.slice none 0 0)) ∨ (0 ≤ n ∧ cs.length = n * k ∧ ∃ id ver tl, v = .sl id ver k 0 n ∧ H[id]? = some (.cells ver (cs ++ tl)))
section
variable {k n : Nat} {H H' : Hp} {cs c : List AV} {v : AV}
theorem OwnT.nil (k : Nat) (H : Hp) : OwnT k H 0 [] (.v (.slice none 0 0)) := .inl ⟨rfl, rfl, rfl⟩
theorem OwnT.same {fp : List Nat} (h : OwnT k H n cs v) (hs : Same fp H H') (hf : ∀ j ∈ slId v, j ∉ fp) : OwnT k H' n cs v := by
  rcases h with h | ⟨h0, h1, id, ver, tl, rfl, h3⟩
  · exact .inl h
  · exact .inr ⟨h0, h1, id, ver, tl, rfl, hs.2 _ _ h3 (hf id (by simp [slId]))⟩
theorem OwnT.lt (h : OwnT k H n cs v) : ∀ j ∈ slId v, j < H.length := by
  rcases h with ⟨_, _, rfl⟩ | ⟨h0, h1, id, ver, tl, rfl, h3⟩
  · simp [slId]
  · simpa [slId] using Hp.lt h3
theorem OwnT.lenT (h : OwnT k H n cs v) (H' : Hp) (e : TypeId) : lenT H' (some (.slice e)) (some v) = some (.av (.v (.int .i64 n))) := by
  rcases h with ⟨rfl, _, rfl⟩ | ⟨h0, h1, id, ver, tl, rfl, h3⟩ <;> rfl
theorem OwnT.app {x : Bool} {bytes : Nat} {K : AV → Hp → Prop} (h : OwnT k H n cs v) (hc : c.length = k) (hb : (n + 1) * bytes ≤ 140737488355328 ∧ n + 1 ≤ 4611686018427387904)
    (hq : ∀ v' H', OwnT k H' (n + 1) (cs ++ c) v' → Same (slId v) H H' → (slId v' = slId v ∨ slId v' = [H.length]) → K v' H') : appA H k bytes v (.row x 1 c) K := by
  rcases h with ⟨rfl, rfl, rfl⟩ | ⟨h0, h1, id, ver, tl, rfl, h3⟩
  · have h1 := hq (.sl H.length 0 k 0 1) (H ++ [.cells 0 c]) (.inr ⟨by simp, by simp [hc], H.length, 0, [], by simp, by simp⟩) (Same.app _ _ _) (.inr rfl)
    simp at hb
    simp [appA, srcA, hb, hc]
    exact h1
  · have h5 := hq (.sl id (ver + 1) k 0 (n + 1)) (H.set id (.cells (ver + 1) (cs ++ c))) (.inr ⟨by omega, by rw [List.length_append, h1, hc, Nat.succ_mul], id, ver + 1, [], by simp, by rw [List.getElem?_set_self (Hp.lt h3)]; simp⟩) (Same.set (by simp [slId])) (.inl rfl)
    simp [appA, srcA, h3, hc]
    refine ⟨⟨by omega, hb.1, by omega⟩, ?_⟩
    have e : (cs ++ tl).take (n * k) = cs := by rw [← h1]; simp
    rw [e]; exact h5
theorem OwnT.of {H0 : Hp} (h : NewK k H0 H n cs v) : OwnT k H n cs v ∧ ∀ j ∈ slId v, H0.length ≤ j := by
  rcases h with h | ⟨h0, h1, id, ver, tl, rfl, h3, h4⟩
  · obtain ⟨rfl, rfl, rfl⟩ := h
    exact ⟨.inl ⟨rfl, rfl, rfl⟩, by simp [slId]⟩
  · exact ⟨.inr ⟨Nat.zero_le _, h1, id, ver, tl, rfl, h3⟩, by simpa [slId] using h4⟩
end
theorem flat_sub2 {α : Type} {f : α → List AV} {n : Nat} (hn : ∀ x, (f x).length = n) {x : α} {l : List α} {i : Nat} (h : l[i]? = some x) (tl : List AV) : ((l.flatMap f ++ tl).drop (i * n)).take n = f x := by
  have hle := flat_le hn h
  rw [List.drop_append_of_le_length (by omega), List.take_append_of_le_length (by rw [List.length_drop]; omega)]
  exact flat_sub hn l i h
theorem OwnT.appM {k n m : Nat} {H : Hp} {cs c : List AV} {v : AV} {x : Bool} {bytes : Nat} {K : AV → Hp → Prop} (h : OwnT k H n cs v) (hc : c.length = m * k) (hb : (n + m) * bytes ≤ 140737488355328 ∧ n + m ≤ 4611686018427387904)
    (hq : ∀ v' H', OwnT k H' (n + m) (cs ++ c) v' → Same (slId v) H H' → (slId v' = slId v ∨ slId v' = [H.length]) → K v' H') : appA H k bytes v (.row x m c) K := by
  by_cases hm : m = 0
  · subst hm
    have hc0 : c = [] := by simpa using hc
    subst hc0
    rcases h with ⟨rfl, rfl, rfl⟩ | ⟨h0, h1, id, ver, tl, rfl, h3⟩
    · have := hq _ H (.inl ⟨rfl, rfl, rfl⟩) (Same.refl _ _) (.inl rfl)
      simp [appA, srcA]; exact this
    · have h5 := hq (.sl id (ver + 1) k 0 n) (H.set id (.cells (ver + 1) cs)) (.inr ⟨h0, by simpa using h1, id, ver + 1, [], by simp, by rw [List.getElem?_set_self (Hp.lt h3)]; simp⟩) (Same.set (by simp [slId])) (.inl rfl)
      simp [appA, srcA, h3]
      refine ⟨⟨by omega, hb.1, hb.2⟩, ?_⟩
      have e : (cs ++ tl).take (n * k) = cs := by rw [← h1]; simp
      rw [e]; exact h5
  · rcases h with ⟨rfl, rfl, rfl⟩ | ⟨h0, h1, id, ver, tl, rfl, h3⟩
    · have h1 := hq (.sl H.length 0 k 0 m) (H ++ [.cells 0 c]) (.inr ⟨by omega, by simp [hc], H.length, 0, [], by simp, by simp⟩) (Same.app _ _ _) (.inr rfl)
      simp at hb
      simp [appA, srcA, hb, hc, hm]
      exact h1
    · have h5 := hq (.sl id (ver + 1) k 0 (n + m)) (H.set id (.cells (ver + 1) (cs ++ c))) (.inr ⟨by omega, by rw [List.length_append, h1, hc, Nat.add_mul], id, ver + 1, [], by simp, by rw [List.getElem?_set_self (Hp.lt h3)]; simp⟩) (Same.set (by simp [slId])) (.inl rfl)
      simp [appA, srcA, h3, hc]
      refine ⟨⟨by omega, hb.1, by omega⟩, ?_⟩
      have e : (cs ++ tl).take (n * k) = cs := by rw [← h1]; simp
      rw [e]; exact h5
theorem OwnT.frzR {P : Go.Program} {f k n : Nat} {H : Hp} {cs : List AV} {v : AV} {Q : AV → Hp → Prop} {x : Bool} {m : Nat} {c : List AV} (h : OwnT k H n cs v) (q : ∀ H', Same (slId v) H H' → Sp P f [.row x m c, .row false n cs] Q H') : Sp P f [.row x m c, v] Q H := by
  rcases h with ⟨rfl, rfl, rfl⟩ | ⟨h0, h1, id, ver, tl, rfl, h3⟩
  · exact Sp.argW (args' := [.row x m c, .row false 0 []]) ⟨Wk.refl _, Wk.nil _, trivial⟩ (q _ (Same.refl _ _))
  · refine Sp.frzArgs h3 ?_
    have e : [AV.row x m c, AV.sl id ver k 0 n].map (frz id ver (cs ++ tl)) = [.row x m c, .row false n cs] := by
      have e1 : frz id ver (cs ++ tl) (.sl id ver k 0 n) = .row false n cs := by
        have : (cs ++ tl).take (n * k) = cs := by rw [← h1]; simp
        simp [frz, frz2, frz1, this, h1]
      show [_, _] = _
      rw [e1]; rfl
    rw [e]
    exact q _ (Same.set (by simp [slId]))


/-! ### The search in a sorted row -/
theorem nan_sp (a : List UInt8) (H : Hp) (Q : AV → Hp → Prop) (h : Q (.v (.bool false)) H) : Sp Tryd.prog 51 [.v (.string (tx a))] Q H := by
  refine Sp.body [] ⟨[], [], []⟩ [] mo Tryd.func51 rfl (Nat.le_of_ble_eq_true rfl) (by kernel_rfl) ?_
  simp [ev_seq, ev_ret, ev_region2, evOps_nil, evOps_cons, opG_none, opA_move, opA_assign, opA_bin, putO_some, putH_lt, binT_some, binA, avO_some, strOp, opS, opV, Go.Mx.look, fr0, argSlots, seqK, retK, retA, resA, mapO, orO_some, eqT_some, tk9, tx_list]
  exact h
theorem nan2_sp (a : List UInt8) (H : Hp) (Q : AV → Hp → Prop) (h : Q (.v (.bool false)) H) : Sp Tryd.prog 58 [.v (.string (tx a))] Q H := by
  refine Sp.body [] ⟨[], [], []⟩ [] mo Tryd.func58 rfl (Nat.le_of_ble_eq_true rfl) (by kernel_rfl) ?_
  simp [ev_seq, ev_ret, ev_region2, evOps_nil, evOps_cons, opG_none, opA_move, opA_assign, opA_bin, putO_some, putH_lt, binT_some, binA, avO_some, strOp, opS, opV, Go.Mx.look, fr0, argSlots, seqK, retK, retA, resA, mapO, orO_some, eqT_some, tk9, tx_list]
  exact h
theorem less_sp (a b : List UInt8) (H : Hp) (Q : AV → Hp → Prop) (h : Q (.v (.bool (decide (a < b)))) H) : Sp Tryd.prog 50 [.v (.string (tx a)), .v (.string (tx b))] Q H := by
  refine Sp.body [] ⟨[], [], []⟩ [] mo Tryd.func50 rfl (Nat.le_of_ble_eq_true rfl) (by kernel_rfl) ?_
  simp [ev_seq, ev_region2, evOps_nil, evOps_cons, opG_none, opA_move, opA_assign, opA_call, putO_some, putH_lt, opS, opV, Go.Mx.look, fr0, argSlots, seqK, mapO, callA, ok58]
  refine nan2_sp a H _ ?_
  simp [ev_ret, evOps_nil, evOps_cons, opG_none, opG_some, opJ, opU_ft, opU_ff, isU_bool, opK_eq, opA_move, opA_assign, opA_pick, opA_bin, putO_some, putH_lt, putC_lt, putV_lt, condB_false, binT_some, binA, avO_some, pickT, strOp, opS, opV, Go.Mx.look, seqK, Fr.known, retK, retA, resA, mapO, orO_some, eqT_some, tk9, tx_list, Go.Proofs.bytesLess_eq]
  exact h
theorem sh1 {i j : Nat} (h : i + j ≤ 1000000) : IntKind.i64.wrap (shrI .u64 (IntKind.u64.wrap (IntKind.i64.wrap ((i : Int) + (j : Int)))) 1) = (((i + j) / 2 : Nat) : Int) := by
  rw [wr_i64 (x := (i : Int) + j) (by omega), wr_u64 (by omega), show (1 : Int) = ((1 : Nat) : Int) from rfl, shrI_eq _ _ _ (by decide)]
  rw [wr_i64 (by omega)]
  omega
theorem search_sp (v : AV) (ws : List (List UInt8)) (x : List UInt8) (k : Nat) (H : Hp) (Q : AV → Hp → Prop) (ho : OwnT 1 H ws.length (ws.flatMap txC) v) (hl : ws.length ≤ 100000) (hk : k ≤ ws.length)
    (h1 : ∀ t y, t < k → ws[t]? = some y → y < x) (h2 : ∀ t y, k ≤ t → ws[t]? = some y → ¬ y < x)
    (h : Q (.tup [.v (.int .i64 (k : Int)), .v (.bool (decide (ws[k]? = some x)))]) H) : Sp Tryd.prog 29 [v, .v (.string (tx x))] Q H := by
  have hlen := ho.lenT
  refine Sp.body [(3, ⟨[0, 1, 6, 7, 8], [], []⟩)] ⟨[], [], []⟩ [] mo Tryd.func29 rfl (Nat.le_of_ble_eq_true rfl) (by kernel_rfl) ?_
  simp [ev_seq, ev_block, ev_region2, ev_loop, loopK, evOps_nil, evOps_cons, opG_none, opA_move, opA_assign, opA_len, putO_some, putH_lt, opS, opV, Go.Mx.look, fr0, argSlots, seqK, mapO, headK, getV, getB, chkP, firstReg, Tryd.underlying23, hlen]
  refine LoopC.intro (fun n xs _ H2 => ∃ i j : Nat, i ≤ k ∧ k ≤ j ∧ j ≤ ws.length ∧ n = j - i ∧ xs = [v, .v (.string (tx x)), .v (.int .i64 (ws.length : Int)), .v (.int .i64 (i : Int)), .v (.int .i64 (j : Int))] ∧ H2 = H) ws.length ⟨0, ws.length, by omega, hk, by omega, by omega, by simp, rfl⟩ ?_
  rintro n xs bs H2 ⟨i, j, hi, hj, hjl, rfl, rfl, rfl⟩
  have geto : ∀ (t : Nat) (y : List UInt8), ws[t]? = some y → ∃ id ver cs, v = .sl id ver 1 0 ws.length ∧ H2[id]? = some (.cells ver cs) ∧ t < cs.length ∧ cs[t]? = some (.v (.string (tx y))) := by
    intro t y ht
    have htl := (List.getElem?_eq_some_iff.1 ht).1
    rcases ho with ⟨q1, _⟩ | ⟨q1, q2, id, ver, tl, rfl, hid⟩
    · omega
    · have g := flat_get txC_len ht 0 (by omega)
      refine ⟨id, ver, _, rfl, hid, by rw [List.length_append]; omega, ?_⟩
      rw [List.getElem?_append_left (by omega)]
      simpa [txC] using g
  by_cases hlt : i < j
  · have hlt' : (i : Int) < (j : Int) := by omega
    have hs := sh1 (i := i) (j := j) (by omega)
    generalize hm : (i + j) / 2 = m at hs
    have hm1 : i ≤ m ∧ m < j := by omega
    have hml : m < ws.length := by omega
    obtain ⟨y, hy⟩ : ∃ y, ws[m]? = some y := ⟨_, List.getElem?_eq_getElem hml⟩
    obtain ⟨id, ver, cs, rfl, hid, hmc, hcs⟩ := geto m y hy
    have wm : IntKind.i64.wrap ((m : Int) + 1) = (m : Int) + 1 := wr_i64 (by omega)
    have hml' : (m : Int) < (ws.length : Int) := by omega
    have hcs' : cs[m] = .v (.string (tx y)) := (List.getElem?_eq_some_iff.1 hcs).2
    simp [ev_skip, ev_seq, ev_cond2, ev_block, ev_region2, evOps_nil, evOps_cons, opG_none, opA_move, opA_assign, opA_bin, opA_load, opA_indexAddr, opA_call, opA_convert, putO_some, putH_lt, condB_true, binT_some, binA, avO_some, loadT, indexAddrT, convV, convT, io_add, io_shr, io_lss, opS, opV, Go.Mx.look, seqK, Fr.known, mapO, convInt, callA, partA, loadA, loadS, indexAddrA, mkFr, slotsOf, ptrsOf, boxesOf, orO_some, eqT_some, tk3, Tryd.underlying3, sz9, ag9, Tryd.underlying23, tk92, Tryd.underlying92, ok50, hlt', hs, hml', hid, hcs', hmc]
    refine less_sp y x _ _ ?_
    by_cases hyx : y < x
    · have hmk : m < k := by
        rcases Nat.lt_or_ge m k with h3 | h3
        · exact h3
        · exact absurd hyx (h2 m y h3 hy)
      simp [ev_cond2, ev_region2, evOps_nil, evOps_cons, opG_none, opA_move, opA_assign, opA_bin, putO_some, putH_lt, putC_lt, condB_true, binT_some, binA, avO_some, io_add, opS, opV, Go.Mx.look, seqK, blockK, Fr.known, mapO, headK, getV, getB, chkP, orO_some, eqT_some, tk3, hyx, wm]
      exact ⟨j - (m + 1), by omega, m + 1, by omega, j, by omega, by omega, rfl, by omega, rfl⟩
    · have hmk : k ≤ m := by
        rcases Nat.lt_or_ge m k with h3 | h3
        · exact absurd (h1 m y h3 hy) hyx
        · exact h3
      simp [ev_cond2, ev_region2, evOps_nil, evOps_cons, opG_none, opA_move, opA_assign, putO_some, putH_lt, putC_lt, condB_false, opS, opV, Go.Mx.look, seqK, blockK, Fr.known, mapO, headK, getV, getB, chkP, hyx]
      exact ⟨m - i, by omega, i, by omega, m, by omega, by omega, rfl, rfl, rfl⟩
  · have hik : i = k := by omega
    have hjk : j = k := by omega
    subst hik; subst hjk
    have hlt' : ¬ ((j : Int) < (j : Int)) := by omega
    by_cases hkl : j < ws.length
    · obtain ⟨y, hy⟩ : ∃ y, ws[j]? = some y := ⟨_, List.getElem?_eq_getElem hkl⟩
      obtain ⟨id, ver, cs, rfl, hid, hmc, hcs⟩ := geto j y hy
      have hkl' : (j : Int) < (ws.length : Int) := by omega
      have hcs' : cs[j] = .v (.string (tx y)) := (List.getElem?_eq_some_iff.1 hcs).2
      rw [hy] at h
      by_cases hyx : y = x
      · simp [hyx] at h
        simp [ev_seq, ev_cond2, ev_exit, ev_ret, ev_region2, evOps_nil, evOps_cons, opG_none, opG_some, opJ, opU_true, opU_ft, opU_ff, isU_undef, isU_bool, opK_eq, opA_move, opA_assign, opA_pick, opA_bin, opA_load, opA_indexAddr, putO_some, putH_lt, putV_lt, condB_true, condB_false, binT_some, binA, avO_some, pickT, loadT, indexAddrT, io_lss, strOp, opS, opV, Go.Mx.look, seqK, blockK, Fr.known, retK, retA, resA, mapO, partA, loadA, loadS, indexAddrA, mkFr, slotsOf, ptrsOf, boxesOf, orO_some, eqT_some, tk3, sz9, ag9, tk9, Tryd.underlying23, tx_list, hkl', hid, hcs', hmc, hyx]
        exact h
      · have hd : decide (some y = some x) = false := by simp [hyx]
        rw [hd] at h
        simp [ev_seq, ev_cond2, ev_exit, ev_region2, evOps_nil, evOps_cons, opG_none, opG_some, opJ, opU_ft, opU_ff, isU_bool, opK_eq, opA_move, opA_bin, opA_load, opA_indexAddr, opA_call, putO_some, putH_lt, condB_true, condB_false, CondP_false, binT_some, binA, avO_some, loadT, indexAddrT, io_lss, strOp, opS, opV, Go.Mx.look, seqK, blockK, Fr.known, mapO, callA, partA, loadA, loadS, indexAddrA, mkFr, slotsOf, ptrsOf, boxesOf, orO_some, eqT_some, tk3, sz9, ag9, tk9, Tryd.underlying23, ok51, tx_list, hkl', hid, hcs', hmc, hyx]
        refine nan_sp y _ _ ?_
        simp [ev_ret, evOps_nil, evOps_cons, opG_none, opG_some, opJ, opU_ft, opU_ff, isU_bool, opK_eq, opA_move, opA_assign, opA_pick, putO_some, putH_lt, putC_lt, putV_lt, condB_true, condB_false, pickT, opS, opV, Go.Mx.look, seqK, Fr.known, retK, retA, resA, mapO]
        exact h
    · have hy : ws[j]? = none := List.getElem?_eq_none (by omega)
      have hkl' : ¬ ((j : Int) < (ws.length : Int)) := by omega
      rw [hy] at h
      simp at h
      simp [ev_seq, ev_cond2, ev_exit, ev_ret, ev_region2, evOps_nil, evOps_cons, opG_none, opG_some, opJ, opU_true, opU_ft, isU_undef, isU_bool, opA_move, opA_assign, opA_pick, opA_bin, putO_some, putH_lt, putV_lt, condB_false, binT_some, binA, avO_some, pickT, io_lss, opS, opV, Go.Mx.look, seqK, blockK, Fr.known, retK, retA, resA, mapO, mkFr, slotsOf, ptrsOf, boxesOf, orO_some, eqT_some, tk3, hkl']
      exact h
end Go.Proofs.YtoakdmkjlpjahaaDoor

namespace Go.Proofs.YtoakdmkjlpjahaaDoor
open Go.Mx
set_option linter.unusedVariables false
set_option linter.unusedSimpArgs false
set_option linter.unnecessarySimpa false
set_option maxRecDepth 100000

def layIns_ren : Go.Shelf.Ren := ⟨fun | 22 => 30 | 29 => 52 | 30 => 53 | 36 => 64 | 17 => 79 | n => n, fun | 24 => 23 | 9 => 9 | 3 => 3 | 4 => 4 | 0 => 0 | n => n, fun n => n⟩
theorem layIns : Go.Proofs.Lays2.n22 Tryd.prog layIns_ren := { mixed := by kernel_rfl, f17 := Tryd.func79.trans (congrArg some (by kernel_rfl)), f22 := Tryd.func30.trans (congrArg some (by kernel_rfl)), f29 := Tryd.func52.trans (congrArg some (by kernel_rfl)), f30 := Tryd.func53.trans (congrArg some (by kernel_rfl)), f36 := Tryd.func64.trans (congrArg some (by kernel_rfl)), t0 := Tryd.underlying0, a0 := Tryd.isAgg0, z0 := Tryd.sizeOf0, v0 := Tryd.zeroValue0, t3 := Tryd.underlying3, a3 := Tryd.isAgg3, z3 := Tryd.sizeOf3, v3 := Tryd.zeroValue3, t4 := Tryd.underlying4, a4 := Tryd.isAgg4, z4 := Tryd.sizeOf4, v4 := Tryd.zeroValue4, t9 := Tryd.underlying9, a9 := Tryd.isAgg9, z9 := Tryd.sizeOf9, v9 := Tryd.zeroValue9, t24 := Tryd.underlying23, a24 := Tryd.isAgg23, z24 := Tryd.sizeOf23, v24 := Tryd.zeroValue23, i9 := by kernel_rfl }
/-! ### Cells that are written in a row -/
theorem sc_heap (b : Nat) : ∀ (vs : List Value) (o : Nat) (w : World) (arr : Array Value) (T : TypeId) (fz : Nat × Nat), w.heap[b]? = some (.cells arr T fz) →
    ∃ arr', (w.setCells b o vs).heap[b]? = some (.cells arr' T fz) ∧ arr'.size = arr.size ∧ ∀ k, k < arr.size → arr'[k]? = if o ≤ k ∧ k < o + vs.length then vs[k - o]? else arr[k]?
  | [], o, w, arr, T, fz, h => ⟨arr, h, rfl, fun k hk => by rw [if_neg (by simp only [List.length_nil]; omega)]⟩
  | v :: r, o, w, arr, T, fz, h => by
    have h1 : (w.setCell ⟨b, o, none⟩ v).heap[b]? = some (.cells (arr.setIfInBounds o v) T fz) := by
      simp only [World.setCell, Array.getElem?_modify, if_pos, h]
      simp
    obtain ⟨arr', h2, h3, h4⟩ := sc_heap b r (o + 1) _ _ T fz h1
    refine ⟨arr', h2, by rw [h3]; simp, fun k hk => ?_⟩
    rw [h4 k (by simpa using hk)]
    by_cases hko : k = o
    · subst hko
      rw [if_neg (by omega), if_pos (by simp), Nat.sub_self]
      simp [hk]
    · by_cases hin : o + 1 ≤ k ∧ k < o + 1 + r.length
      · rw [if_pos hin, if_pos (by simp; omega)]
        have : k - o = (k - (o + 1)) + 1 := by omega
        rw [this]; rfl
      · rw [if_neg hin, if_neg (by simp; omega)]
        rw [Array.getElem?_setIfInBounds, if_neg (fun e => hko e.symm)]
theorem sc_gw (b : Nat) : ∀ (vs : List Value) (o : Nat) (w : World), Gw (some b) w (w.setCells b o vs)
  | [], o, w => (Gw.refl w).weaken
  | v :: r, o, w => by
    have h1 : Gw (some b) w (w.setCell ⟨b, o, none⟩ v) := ⟨rfl, rfl, rfl, by simp, fun x hx hn => by
      simp only [World.setCell]
      rw [Array.getElem?_modify, if_neg (fun e => hn (by rw [e]))]⟩
    exact h1.trans (sc_gw b r (o + 1) _)

/-! ### Rows of texts in the world -/
def stC (ws : List (List UInt8)) : List Value := ws.map fun x => .string (tx x)
theorem flat_st (ws : List (List UInt8)) : ws.flatMap txC = (stC ws).map .v := by
  induction ws with
  | nil => rfl
  | cons x ws ih => simp [stC, txC] at ih ⊢; exact ih
theorem stC_one (ws : List (List UInt8)) : ∀ v ∈ stC ws, v.oneCell' = true := by
  intro v hv
  obtain ⟨x, _, rfl⟩ := List.mem_map.1 hv
  rfl
/-- A row of texts laid new. -/
theorem new_row {ρ : Rho} {I : Imm} {H : Hp} {w w' : World} (hs : StH ρ I H w) (g : Gw none w w') {nb cap : Nat} (hnb : w.heap.size ≤ nb) {arr : Array Value} {T : TypeId} (hh : w'.heap[nb]? = some (.cells arr T (0, 0))) (hsz : arr.size = cap) (ws : List (List UInt8)) (hc : ws.length ≤ cap) (hmx : cap ≤ maxLen) (ha : ∀ (j : Nat) (v : Value), (stC ws)[j]? = some v → arr[j]? = some v) :
    ∃ ρ' I' , Mv ρ I H w ρ' I' (H ++ [.cells 0 (ws.flatMap txC)]) w' ∧ VR ρ' I' (.sl H.length 0 1 0 ws.length) (.slice (some ⟨nb, 0, none⟩) ws.length cap) := by
  have hob : ObR (ρ.set H.length 0 ⟨nb, 0, cap⟩) I w' H.length (.cells 0 (ws.flatMap txC)) := by
    refine ⟨fun v' hv' => ?_, ⟨nb, 0, cap⟩, Rho.set_self _ _ _ _, arr, T, hh, hsz, ?_, fun i c hc => ?_⟩
    · unfold Rho.set
      rw [if_neg (fun e => by have := e.2; omega)]
      exact hs.rho_none (Nat.le_refl _) _
    · rw [flat_st]; simp [stC]; omega
    · rw [flat_st, List.getElem?_map] at hc
      cases hx : (stC ws)[i]? with
      | none => rw [hx] at hc; simp at hc
      | some x =>
        rw [hx] at hc; simp at hc; subst hc
        exact ⟨x, by rw [Nat.zero_add]; exact ha i x hx, .v _, stC_one ws x (List.mem_of_getElem? hx)⟩
  refine ⟨_, _, Mv.newObj hs g (l := ⟨nb, 0, cap⟩) (ob := .cells 0 (ws.flatMap txC)) hnb hob (by simp [blkOf, Rho.set_self]), ?_⟩
  exact .sl H.length 0 1 0 ws.length ⟨nb, 0, cap⟩ cap (Rho.set_self _ _ _ _) hc (by simp) hmx
/-- A row that is written in place. -/
theorem in_row {ρ : Rho} {I : Imm} {H : Hp} {w w' : World} (hs : StH ρ I H w) {id ver : Nat} {cs new : List AV} {lo : Go.Mx.Loc} (hid : H[id]? = some (.cells ver cs)) (hl : ρ id ver = some lo) (g : Gw (some lo.blk) w w') {arr : Array Value} {T : TypeId} (hh : w'.heap[lo.blk]? = some (.cells arr T (0, 0))) (hsz : arr.size = lo.size) (hle : lo.base + new.length ≤ lo.size)
    (ha : ∀ (j : Nat) (c : AV), new[j]? = some c → ∃ u, arr[lo.base + j]? = some u ∧ VR ρ I c u ∧ u.oneCell' = true) : Mv ρ I H w ρ I (H.set id (.cells ver new)) w' := by
  obtain ⟨hver, l', hl2, _⟩ := hs.obj _ _ hid
  exact Mv.write (ob := .cells ver new) hs hid (b0 := lo.blk) (by simp [blkOf, hl]) g (Ext.refl _ _) (fun _ _ _ => rfl) (b1 := lo.blk) (.inl rfl) ⟨hver, lo, hl, arr, T, hh, hsz, hle, ha⟩ (by simp [blkOf, hl])
def insL (ws : List (List UInt8)) (i : Nat) (x : List UInt8) : List (List UInt8) := ws.take i ++ x :: ws.drop i
theorem insL_len (ws : List (List UInt8)) (i : Nat) (x : List UInt8) (h : i ≤ ws.length) : (insL ws i x).length = ws.length + 1 := by simp [insL]; omega
theorem insL_get (ws : List (List UInt8)) (i : Nat) (x : List UInt8) (h : i ≤ ws.length) (j : Nat) : (stC (insL ws i x))[j]? = if j < i then (stC ws)[j]? else if j = i then some (.string (tx x)) else (stC ws)[j - 1]? := by
  unfold stC insL
  rw [List.map_append, List.map_cons, List.map_take, List.map_drop]
  by_cases h1 : j < i
  · rw [if_pos h1, List.getElem?_append_left (by simp; omega), List.getElem?_take, if_pos h1]
  · rw [if_neg h1, List.getElem?_append_right (by simp; omega)]
    have hl : (List.take i (List.map (fun x => Value.string (tx x)) ws)).length = i := by simp; omega
    rw [hl]
    by_cases h2 : j = i
    · subst h2; rw [if_pos rfl, Nat.sub_self]; rfl
    · rw [if_neg h2]
      have : j - i = (j - 1 - i) + 1 := by omega
      rw [this, List.getElem?_cons_succ, List.getElem?_drop]
      congr 1; omega
set_option maxHeartbeats 1000000 in
/-- slices.Insert of one text. -/
theorem insert_sp (v : AV) (ws : List (List UInt8)) (i : Nat) (x : List UInt8) (id2 : Nat) (H : Hp) (Q : AV → Hp → Prop) (ho : OwnT 1 H ws.length (ws.flatMap txC) v) (hx : H[id2]? = some (.cells 0 [.v (.string (tx x))])) (hne : id2 ∉ slId v) (hi : i ≤ ws.length) (hln : ws.length ≤ 100000)
    (h : ∀ v' H', OwnT 1 H' (ws.length + 1) ((insL ws i x).flatMap txC) v' → Same (slId v) H H' → (slId v' = slId v ∨ slId v' = [H.length]) → Q v' H') : Sp Tryd.prog 30 [v, .v (.int .i64 (i : Int)), .sl id2 0 1 0 1] Q H := by
  intro ρ I w us hs hv
  have hlu := hv.1
  match us, hlu, hv with
  | [u0, u1, u2], _, hv =>
    have e0 : VR ρ I v u0 := by simpa using hv.2 0 _ rfl
    have e1 : VR ρ I (.v (.int .i64 (i : Int))) u1 := by simpa using hv.2 1 _ rfl
    have e2 : VR ρ I (.sl id2 0 1 0 1) u2 := by simpa using hv.2 2 _ rfl
    have := e1.v_is; subst this
    cases e2 with
    | sl _ _ _ _ _ l2 cap2 hl2 hn2 hcap2 hmx2 =>
    obtain ⟨_, l2', hl2', arr2, T2, k1, k2, k3, k4⟩ := hs.obj _ _ hx
    rw [hl2] at hl2'; simp at hl2'; subst hl2'
    obtain ⟨ux, hux, hvx, _⟩ := k4 0 _ rfl
    rw [hvx.v_is] at hux
    have hvs : ∀ j v, ([Value.string (tx x)] : List Value)[j]? = some v → w.cell? ⟨l2.blk, l2.base + 0 + j, none⟩ = some v := by
      intro j v hj
      match j, hj with
      | 0, hj => simp at hj; subst hj; simpa [World.cell?, k1] using hux
      | j + 1, hj => simp at hj
    have h1v : ∀ v ∈ ([Value.string (tx x)] : List Value), v.oneCell' = true := by intro v hv; simp at hv; subst hv; rfl
    have hfin : ∀ (w' : World) (nb cap : Nat) (arr : Array Value) (T : TypeId), Gw none w w' → w.heap.size ≤ nb → w'.heap[nb]? = some (.cells arr T (0, 0)) → arr.size = cap → ws.length + 1 ≤ cap → cap ≤ maxLen → (∀ (j : Nat) (v : Value), (stC (insL ws i x))[j]? = some v → arr[j]? = some v) → Same (slId v) H (H ++ [.cells 0 ((insL ws i x).flatMap txC)]) →
        ∃ v' u ρ' I' H', Ending.returned (.slice (some ⟨nb, 0, none⟩) (ws.length + 1) cap) = .returned u ∧ Mv ρ I H w ρ' I' H' w' ∧ VR ρ' I' v' u ∧ Q v' H' := by
      intro w' nb cap arr T g hnb hh hsz hc hmx ha hsm
      obtain ⟨ρ', I', hm, hvr⟩ := new_row hs g hnb hh hsz (insL ws i x) (by rw [insL_len ws i x hi]; exact hc) hmx ha
      rw [insL_len ws i x hi] at hvr
      refine ⟨_, _, ρ', I', _, rfl, hm, hvr, h _ _ (.inr ⟨by omega, by rw [flat_len txC_len, insL_len ws i x hi], H.length, 0, [], rfl, by simp⟩) hsm (.inr rfl)⟩
    have grown : ∀ (n c : Nat) (cs : List Value), n + 1 = ws.length + 1 → i = ws.length → cs = stC ws → n ≤ c → c < n + 1 → Same (slId v) H (H ++ [.cells 0 ((insL ws i x).flatMap txC)]) →
        ∃ v' u ρ' I' H', Ending.returned (.slice (some ⟨w.heap.size, 0, none⟩) (n + 1) (grownCap w (n + 1) c 9)) = .returned u ∧ Mv ρ I H w ρ' I' H' (w.drew.alloc (.cells ((cs ++ [Value.string (tx x)]).toArray ++ Builtin.zeroCells (Value.string ⟨#[]⟩).cells (grownCap w (n + 1) c 9 - (n + 1))) 9)) ∧ VR ρ' I' v' u ∧ Q v' H' := by
      intro n c cs hn hin hcs hnc hcn hsm
      have hn' : n = ws.length := by omega
      subst hn'
      have hcl : cs.length = ws.length := by rw [hcs]; simp [stC]
      have hge := grownCap_ge w (ws.length + 1) c 9
      refine hfin _ w.heap.size _ _ 9 ((Gw.drew w).trans (Gw.alloc w.drew _)) (Nat.le_refl _) (heap_alloc_new w.drew _) ?_ (by omega) (grownCap_le_maxLen _ _ _ _ (by show _ ≤ 9223372036854775807; omega)) ?_ hsm
      · have hz1 : (Value.string ⟨#[]⟩).cells.size = 1 := rfl
        simp only [Array.size_append, List.size_toArray, size_zeroCells, hz1, List.length_append, List.length_singleton, hcl]
        omega
      · intro j v hj
        rw [insL_get ws i x hi] at hj
        have hjl : j < ws.length + 1 := by
          by_cases h1 : j < i
          · omega
          · rw [if_neg h1] at hj
            by_cases h2 : j = i
            · omega
            · rw [if_neg h2] at hj
              have := (List.getElem?_eq_some_iff.1 hj).1
              simp [stC] at this; omega
        rw [Array.getElem?_append_left (by simp [hcl]; omega)]
        rw [List.getElem?_toArray]
        by_cases h1 : j < i
        · rw [if_pos h1] at hj
          rw [List.getElem?_append_left (by omega), hcs]; exact hj
        · have h2 : j = i := by omega
          rw [if_neg h1, if_pos h2] at hj
          rw [List.getElem?_append_right (by omega), hcl, h2, hin, Nat.sub_self]; exact hj
    rcases ho with ⟨q1, q2, rfl⟩ | ⟨q1, q2, id, ver, tl, rfl, hid⟩
    · have hws : ws = [] := List.length_eq_zero_iff.1 q1
      obtain rfl : i = 0 := by rw [hws] at hi; simpa using hi
      have := e0.v_is; subst this
      refine (Any2.slices_Insert_string_end_grow layIns none 0 0 l2.blk (l2.base + 0) 1 cap2 [] [.string (tx x)] w (by omega) (by omega) (by omega) (by omega) rfl rfl (fun _ => rfl) (fun a ha => by simp at ha) hvs h1v).mono ?_
      rintro e w' ⟨rfl, rfl⟩
      exact grown 0 0 [] (by rw [q1]) (by rw [q1]) (by rw [hws]; rfl) (by omega) (by omega) (Same.app _ _ _)
    · cases e0 with
      | sl _ _ _ _ _ lo cap hlo hnc hcap hmx =>
      have hob := hs.obj _ _ hid
      obtain ⟨hver, lo', hlo', arr, T, m1, m2, m3, m4⟩ := hob
      rw [hlo] at hlo'; simp at hlo'; subst hlo'
      have hblk : l2.blk ≠ lo.blk := fun e => by
        have := hs.inj _ _ _ _ lo.blk hx hid (by simp [blkOf, hl2, e]) (by simp [blkOf, hlo])
        exact hne (by simp [slId, this])
      have hcs : ∀ j v, (stC ws)[j]? = some v → arr[lo.base + j]? = some v := by
        intro j v hj
        have hc : (ws.flatMap txC ++ tl)[j]? = some (.v v) := by
          have hjl := (List.getElem?_eq_some_iff.1 hj).1
          rw [List.getElem?_append_left (by rw [flat_st, List.length_map]; exact hjl), flat_st, List.getElem?_map, hj]; rfl
        obtain ⟨u, hu, hvu, _⟩ := m4 _ _ hc
        rw [hvu.v_is] at hu; exact hu
      have hcs' : ∀ j v, (stC ws)[j]? = some v → w.cell? ⟨lo.blk, lo.base + 0 + j, none⟩ = some v := fun j v hj => by
        simpa [World.cell?, m1] using hcs j v hj
      have hclen : (stC ws).length = ws.length := by simp [stC]
      by_cases hroom : ws.length + 1 ≤ cap
      · have hszA : lo.size = arr.size := m2.symm
        have hlo2 : lo.base + ws.length + 1 ≤ arr.size := by omega
        have hcellA : ∀ k, k < arr.size → ∃ v, w.cell? ⟨lo.blk, k, none⟩ = some v := by
          intro k hk; exact ⟨arr[k], by simp [World.cell?, m1, hk]⟩
        have hfz : ∀ k, w.frozen? ⟨lo.blk, k, none⟩ = false := by
          intro k; simp [World.frozen?, m1]
        have hdone : ∀ (w' : World) (arr' : Array Value), Gw (some lo.blk) w w' → w'.heap[lo.blk]? = some (.cells arr' T (0, 0)) → arr'.size = arr.size → (∀ (j : Nat) (v : Value), (stC (insL ws i x))[j]? = some v → arr'[lo.base + j]? = some v) → (∀ k, lo.base + ws.length + 1 ≤ k → k < arr.size → arr'[k]? = arr[k]?) →
            ∃ v' u ρ' I' H', Ending.returned (.slice (some ⟨lo.blk, lo.base + 0, none⟩) (ws.length + 1) cap) = .returned u ∧ Mv ρ I H w ρ' I' H' w' ∧ VR ρ' I' v' u ∧ Q v' H' := by
          intro w' arr' g hh hsz ha hb
          have hm := in_row (new := (insL ws i x).flatMap txC ++ tl.drop 1) hs hid hlo g hh (by omega) (by
            simp only [List.length_append, List.length_drop, flat_len txC_len, insL_len ws i x hi]
            have := m3
            rw [List.length_append, q2] at this
            omega) (fun j c hc => by
            rcases Nat.lt_or_ge j (ws.length + 1) with hj | hj
            · rw [List.getElem?_append_left (by rw [flat_len txC_len, insL_len ws i x hi]; omega), flat_st, List.getElem?_map, Option.map_eq_some_iff] at hc
              obtain ⟨y, hy, rfl⟩ := hc
              exact ⟨y, ha j y hy, .v _, stC_one _ _ (List.mem_of_getElem? hy)⟩
            · rw [List.getElem?_append_right (by rw [flat_len txC_len, insL_len ws i x hi]; omega), flat_len txC_len, insL_len ws i x hi, List.getElem?_drop] at hc
              have hc2 : (ws.flatMap txC ++ tl)[j]? = some c := by
                rw [List.getElem?_append_right (by omega), q2, ← hc]; congr 1; omega
              obtain ⟨u, hu, hvu, ho⟩ := m4 _ _ hc2
              exact ⟨u, by rw [hb _ (by omega) (Array.getElem?_eq_some_iff.1 hu).1]; exact hu, hvu, ho⟩)
          refine ⟨_, _, ρ, I, _, rfl, hm, .sl id ver 1 0 (ws.length + 1) lo cap hlo hroom hcap hmx, h _ _ (.inr ⟨by omega, by rw [flat_len txC_len, insL_len ws i x hi], id, ver, tl.drop 1, rfl, by rw [List.getElem?_set_self (Hp.lt hid)]⟩) (Same.set (by simp [slId])) (.inl rfl)⟩
        by_cases hin : i = ws.length
        · subst hin
          refine (Any2.slices_Insert_string_end_room layIns lo.blk (lo.base + 0) ws.length cap l2.blk (l2.base + 0) 1 cap2 [.string (tx x)] w (by omega) hroom hmx rfl (fun j hj => by
            obtain ⟨v, hv⟩ := hcellA (lo.base + 0 + ws.length + j) (by omega)
            rw [hv]; rfl) (fun j hj => hfz _) hvs h1v).mono ?_
          rintro e w' ⟨rfl, rfl⟩
          obtain ⟨arr', n1, n2, n3⟩ := sc_heap lo.blk [.string (tx x)] (lo.base + 0 + ws.length) w arr T (0, 0) m1
          refine hdone _ arr' (sc_gw _ _ _ _) n1 n2 (fun j v hj => ?_) (fun k hk hk2 => by rw [n3 k hk2, if_neg (by simp; omega)])
          have hjl : j < ws.length + 1 := by
            have := (List.getElem?_eq_some_iff.1 hj).1
            simp only [stC, List.length_map, insL_len ws _ x hi] at this; exact this
          rw [insL_get ws _ x hi] at hj
          rw [n3 _ (by omega)]
          by_cases h1 : j < ws.length
          · rw [if_pos h1] at hj
            rw [if_neg (by simp; omega)]; exact hcs _ _ hj
          · have h2 : j = ws.length := by omega
            rw [if_neg h1, if_pos h2] at hj
            rw [if_pos (by simp; omega), ← hj]
            have : lo.base + j - (lo.base + 0 + ws.length) = 0 := by omega
            rw [this]; rfl
        · refine (Any2.slices_Insert_string_shift layIns lo.blk (lo.base + 0) ws.length cap i l2.blk (l2.base + 0) 1 cap2 (stC ws) [.string (tx x)] w (by omega) (by omega) hroom hmx hblk hclen rfl hcs' (fun j hj => by
            obtain ⟨v, hv⟩ := hcellA (lo.base + 0 + j) (by omega)
            rw [hv]; rfl) (fun j hj => hfz _) hvs (stC_one ws) h1v T2 T arr2.size arr.size (by simp [World.shape?, k1]) (by simp [World.shape?, m1]) (by omega) (by simp [World.frozen?, k1]) (by simp [World.frozen?, k1])).mono ?_
          rintro e w' ⟨rfl, rfl⟩
          obtain ⟨arr1, n1, n2, n3⟩ := sc_heap lo.blk ((stC ws).drop i) (lo.base + 0 + (i + 1)) w.drew arr T (0, 0) m1
          obtain ⟨arr', p1, p2, p3⟩ := sc_heap lo.blk [.string (tx x)] (lo.base + 0 + i) _ arr1 T (0, 0) n1
          have hdl : ((stC ws).drop i).length = ws.length - i := by rw [List.length_drop, hclen]
          refine hdone _ arr' (((Gw.drew w).weaken.trans (sc_gw _ _ _ _)).trans (sc_gw _ _ _ _)) p1 (by omega) (fun j v hj => ?_) (fun k hk hk2 => by rw [p3 k (by omega), if_neg (by simp; omega), n3 k hk2, if_neg (by omega)])
          have hjl : j < ws.length + 1 := by
            have := (List.getElem?_eq_some_iff.1 hj).1
            simp only [stC, List.length_map, insL_len ws _ x hi] at this; exact this
          rw [insL_get ws _ x hi] at hj
          rw [p3 _ (by omega)]
          by_cases h1 : j < i
          · rw [if_pos h1] at hj
            rw [if_neg (by simp; omega), n3 _ (by omega), if_neg (by omega)]; exact hcs _ _ hj
          · rw [if_neg h1] at hj
            by_cases h2 : j = i
            · rw [if_pos h2] at hj
              rw [if_pos (by simp; omega), ← hj]
              have : lo.base + j - (lo.base + 0 + i) = 0 := by omega
              rw [this]; rfl
            · rw [if_neg h2] at hj
              rw [if_neg (by simp; omega), n3 _ (by omega), if_pos (by omega), List.getElem?_drop, ← hj]
              congr 1; omega
      · by_cases hin : i = ws.length
        · subst hin
          refine (Any2.slices_Insert_string_end_grow layIns (some ⟨lo.blk, lo.base + 0, none⟩) ws.length cap l2.blk (l2.base + 0) 1 cap2 (stC ws) [.string (tx x)] w (by omega) hnc (by omega) (by omega) hclen rfl (fun h => by simp at h) (fun a ha j v hj => by
            simp at ha; subst ha
            rw [Addr.add_lit]; exact hcs' j v hj) hvs h1v).mono ?_
          rintro e w' ⟨rfl, rfl⟩
          exact grown ws.length cap (stC ws) rfl rfl rfl hnc (by omega) (Same.app _ _ _)
        · refine (Any2.slices_Insert_string_grow layIns lo.blk (lo.base + 0) ws.length cap i l2.blk (l2.base + 0) 1 cap2 (stC ws) [.string (tx x)] w (by omega) (by omega) hnc (by omega) (by omega) hclen rfl hcs' hvs (stC_one ws) h1v).mono ?_
          rintro e w' ⟨rfl, rfl⟩
          have hge := grownCap_ge w (ws.length + 1) cap 9
          generalize hg : grownCap w (ws.length + 1) cap 9 = c' at hge
          have hmx' : c' ≤ maxLen := by rw [← hg]; exact grownCap_le_maxLen _ _ _ _ (by show _ ≤ 9223372036854775807; omega)
          have hz1 : (Value.string ⟨#[]⟩).cells.size = 1 := rfl
          obtain ⟨arr0, hA⟩ : ∃ arr0, arr0 = (((stC ws).take i).toArray ++ Builtin.zeroCells (Value.string ⟨#[]⟩).cells (ws.length + 1 - i) ++ Builtin.zeroCells (Value.string ⟨#[]⟩).cells (c' - (ws.length + 1))) := ⟨_, rfl⟩
          have hAs : arr0.size = c' := by
            rw [hA]; simp only [Array.size_append, List.size_toArray, size_zeroCells, hz1, List.length_take, hclen]; omega
          have hg' : grownCap w (ws.length + 1) cap (layIns_ren.t 9) = c' := hg
          rw [hg', ← hA]
          have b1 := heap_alloc_new w (.cells arr0 (layIns_ren.t 9))
          obtain ⟨arr1, n1, n2, n3⟩ := sc_heap w.heap.size [.string (tx x)] i (w.alloc (.cells arr0 (layIns_ren.t 9))).drew arr0 _ (0, 0) b1
          obtain ⟨arr', p1, p2, p3⟩ := sc_heap w.heap.size ((stC ws).drop i) (i + 1) ((w.alloc (.cells arr0 (layIns_ren.t 9))).drew.setCells w.heap.size i [.string (tx x)]).drew arr1 (layIns_ren.t 9) (0, 0) n1
          have hdl : ((stC ws).drop i).length = ws.length - i := by rw [List.length_drop, hclen]
          have gA : Gw (some w.heap.size) w ((((w.alloc (.cells arr0 (layIns_ren.t 9))).drew.setCells w.heap.size i [.string (tx x)]).drew).setCells w.heap.size (i + 1) ((stC ws).drop i)) := by
            refine (((((Gw.alloc w _).weaken).trans ((Gw.drew _).weaken)).trans (sc_gw _ _ _ _)).trans ((Gw.drew _).weaken)).trans (sc_gw _ _ _ _)
          have gN : Gw none w ((((w.alloc (.cells arr0 (layIns_ren.t 9))).drew.setCells w.heap.size i [.string (tx x)]).drew).setCells w.heap.size (i + 1) ((stC ws).drop i)) := by
            exact ⟨gA.os, gA.tape, gA.output, gA.size, fun b hb _ => gA.keep b hb (fun e => by have := Option.some.inj e; omega)⟩
          refine hfin _ w.heap.size c' arr' _ gN (Nat.le_refl _) p1 (by omega) (by omega) hmx' (fun j v hj => ?_) (Same.app _ _ _)
          have hjl : j < ws.length + 1 := by
            have := (List.getElem?_eq_some_iff.1 hj).1
            simp only [stC, List.length_map, insL_len ws _ x hi] at this; exact this
          rw [insL_get ws _ x hi] at hj
          rw [p3 _ (by omega)]
          by_cases h1 : j < i
          · rw [if_pos h1] at hj
            rw [if_neg (by omega), n3 _ (by omega), if_neg (by simp; omega), hA, Array.getElem?_append_left (by simp [hclen]; omega), Array.getElem?_append_left (by simp [hclen]; omega), List.getElem?_toArray, List.getElem?_take, if_pos h1]; exact hj
          · rw [if_neg h1] at hj
            by_cases h2 : j = i
            · rw [if_pos h2] at hj
              rw [if_neg (by omega), n3 _ (by omega), if_pos (by simp; omega), ← hj]
              have : j - i = 0 := by omega
              rw [this]; rfl
            · rw [if_neg h2] at hj
              rw [if_pos (by omega), List.getElem?_drop, ← hj]
              congr 1; omega
end Go.Proofs.YtoakdmkjlpjahaaDoor

namespace Go.Proofs.YtoakdmkjlpjahaaDoor
open Go.Mx
set_option linter.unusedVariables false
set_option linter.unusedSimpArgs false
set_option linter.unnecessarySimpa false
set_option maxRecDepth 100000

def layDel_ren : Go.Shelf.Ren := ⟨fun | 24 => 39 | n => n, fun | 24 => 23 | 9 => 9 | 3 => 3 | 4 => 4 | 0 => 0 | n => n, fun n => n⟩
theorem layDel : Go.Proofs.Lays2.n24 Tryd.prog layDel_ren := { mixed := by kernel_rfl, f24 := Tryd.func39.trans (congrArg some (by kernel_rfl)), t0 := Tryd.underlying0, a0 := Tryd.isAgg0, z0 := Tryd.sizeOf0, v0 := Tryd.zeroValue0, t3 := Tryd.underlying3, a3 := Tryd.isAgg3, z3 := Tryd.sizeOf3, v3 := Tryd.zeroValue3, t4 := Tryd.underlying4, a4 := Tryd.isAgg4, z4 := Tryd.sizeOf4, v4 := Tryd.zeroValue4, t9 := Tryd.underlying9, a9 := Tryd.isAgg9, z9 := Tryd.sizeOf9, v9 := Tryd.zeroValue9, t24 := Tryd.underlying23, a24 := Tryd.isAgg23, z24 := Tryd.sizeOf23, v24 := Tryd.zeroValue23, i9 := by kernel_rfl }

/-! ### Delete of one text -/
theorem delete_sp (id ver : Nat) (tl : List AV) (ws : List (List UInt8)) (i : Nat) (H : Hp) (Q : AV → Hp → Prop) (hid : H[id]? = some (.cells ver (ws.flatMap txC ++ tl))) (hi : i < ws.length) (hln : ws.length ≤ 100000)
    (h : ∀ v' H', v' = .sl id ver 1 0 (ws.length - 1) → H'[id]? = some (.cells ver ((ws.take i ++ ws.drop (i + 1)).flatMap txC ++ .v (.string (tx [])) :: tl)) → Same [id] H H' → Q v' H') : Sp Tryd.prog 39 [.sl id ver 1 0 ws.length, .v (.int .i64 (i : Int)), .v (.int .i64 ((i + 1 : Nat) : Int))] Q H := by
  intro ρ I w us hs hv
  have hlu := hv.1
  match us, hlu, hv with
  | [u0, u1, u2], _, hv =>
    have e0 : VR ρ I (.sl id ver 1 0 ws.length) u0 := by simpa using hv.2 0 _ rfl
    have e1 : VR ρ I (.v (.int .i64 (i : Int))) u1 := by simpa using hv.2 1 _ rfl
    have e2 : VR ρ I (.v (.int .i64 ((i + 1 : Nat) : Int))) u2 := by simpa using hv.2 2 _ rfl
    have := e1.v_is; subst this
    have := e2.v_is; subst this
    cases e0 with
    | sl _ _ _ _ _ l cap hl' hn hcap hmx =>
      obtain ⟨hver, l', hl2, hcell⟩ := hs.obj _ _ hid
      rw [hl'] at hl2; simp at hl2; subst hl2
      have hH : Sort.Holds encStr w l.blk (l.base + 0) ws.toArray := by
        obtain ⟨arr, T, k1, k2, k3, k4⟩ := hcell
        intro j hj
        simp only [List.size_toArray] at hj
        have hc : (ws.flatMap txC ++ tl)[j]? = some (.v (.string (tx ws[j]))) := by
          rw [List.getElem?_append_left (by rw [flat_len txC_len]; omega), flat_st, List.getElem?_map]
          simp [stC, hj]
        obtain ⟨u, hu, hvr, _⟩ := k4 j _ hc
        have e := hvr.v_is
        subst e
        refine ⟨?_, ?_⟩
        · simp only [World.cell?, k1, Nat.add_zero, hu]
          rw [getElem!_pos ws.toArray j (by simpa using hj)]
          simp; rfl
        · simp [World.frozen?, k1]
      refine (Any.slices_Delete_string layDel l.blk (l.base + 0) cap i (i + 1) ws w hH hn hmx (by omega) (by omega)).mono ?_
      rintro e w' ⟨rfl, q, rfl⟩
      have hnl : (ws.take i ++ ws.drop (i + 1) ++ List.replicate (i + 1 - i) ([] : List UInt8)).length = ws.length := by simp; omega
      have hcell' := hcell.inRow (enc := encStr) (off := 0) (fun _ => rfl) (ws.take i ++ ws.drop (i + 1) ++ List.replicate (i + 1 - i) ([] : List UInt8)).toArray (by simp [flat_len txC_len]; omega) q #[]
      have hgr : ∀ b o (d : Array (List UInt8)), Sort.grow (Sort.putRow encStr (Sort.ahead w q) b o d) #[] = Sort.putRow encStr (Sort.ahead w q) b o d := fun b o d => by unfold Sort.grow; rw [Array.append_empty]
      rw [hgr] at hcell'
      have hmv := Mv.write (ob := .cells ver (splice (ws.flatMap txC ++ tl) 0 ((ws.take i ++ ws.drop (i + 1) ++ List.replicate (i + 1 - i) ([] : List UInt8)).map (fun x => .v (encStr x))))) hs hid (b0 := l.blk) (by simp [blkOf, hl']) (by have := Gw.inRow w l.blk (l.base + 0) (enc := encStr) (ws.take i ++ ws.drop (i + 1) ++ List.replicate (i + 1 - i) ([] : List UInt8)).toArray q #[]; rw [hgr] at this; exact this) (Ext.refl _ _) (fun _ _ _ => rfl) (b1 := l.blk) (.inl rfl)
        ⟨hver, l, hl', by simpa using hcell'⟩ (by simp [blkOf, hl'])
      have e3 : ws.length - (i + 1 - i) = ws.length - 1 := by omega
      have e4 : splice (ws.flatMap txC ++ tl) 0 ((ws.take i ++ ws.drop (i + 1) ++ List.replicate (i + 1 - i) ([] : List UInt8)).map (fun x => AV.v (encStr x))) = (ws.take i ++ ws.drop (i + 1)).flatMap txC ++ .v (.string (tx [])) :: tl := by
        unfold splice
        have e5 : i + 1 - i = 1 := by omega
        rw [List.length_map, hnl, e5, List.take_zero, List.nil_append, Nat.zero_add]
        have e6 : (ws.flatMap txC ++ tl).drop ws.length = tl := by
          rw [List.drop_append_of_le_length (by rw [flat_len txC_len]; omega), List.drop_of_length_le (by rw [flat_len txC_len]; omega)]; rfl
        rw [e6, flat_st, List.map_append]
        simp [stC]
        rfl
      rw [e4] at hmv
      rw [e3]
      refine ⟨_, _, ρ, I, _, rfl, hmv, .sl id ver 1 0 (ws.length - 1) l cap hl' (by omega) hcap hmx, h _ _ rfl (by rw [List.getElem?_set_self (Hp.lt hid)]) (Same.set (by simp))⟩

/-! ### Maps of texts, by their pairs -/
def kv (s : List UInt8) : AV := .v (.string (tx s))
theorem kv_inj {a b : List UInt8} (h : kv a = kv b) : a = b := by
  unfold kv at h; simp at h; exact by rwa [tx_inj] at h
theorem kv_good (s : List UInt8) : KGood Tryd.prog 9 (kv s) := KGood.str Tryd.underlying9 _
abbrev AL := List (List UInt8 × AV)
/-- A map of texts that holds these pairs. -/
def AsAt (H : Hp) (id : Nat) (l : AL) : Prop := ∃ f, MapAt Tryd.prog 9 H id f ∧ ∀ k v, f k = some v ↔ ∃ p ∈ l, k = kv p.1 ∧ v = p.2
section
variable {H H' : Hp} {id : Nat} {l l' : AL} {t et : TypeId}
theorem AsAt.same {fp : List Nat} (h : AsAt H id l) (hs : Same fp H H') (hn : id ∉ fp) : AsAt H' id l := by
  obtain ⟨f, h1, h2⟩ := h
  exact ⟨f, h1.same hs hn, h2⟩
theorem AsAt.lt (h : AsAt H id l) : id < H.length := by obtain ⟨f, h1, _⟩ := h; exact h1.lt
theorem AsAt.perm (h : AsAt H id l) (hp : ∀ p, p ∈ l' ↔ p ∈ l) : AsAt H id l' := by
  obtain ⟨f, h1, h2⟩ := h
  exact ⟨f, h1, fun k v => by rw [h2]; exact ⟨fun ⟨p, a, b⟩ => ⟨p, (hp p).2 a, b⟩, fun ⟨p, a, b⟩ => ⟨p, (hp p).1 a, b⟩⟩⟩
theorem AsAt.new (H : Hp) : AsAt (H ++ [.map [] 0]) H.length [] := ⟨_, MapAt.new _ _ _, by simp⟩
theorem AsAt.put (h0 : H[id]? = some (.map [] 0)) : AsAt H id [] := ⟨fun _ => none, ⟨[], 0, h0, MapOk.nil _ _ _, fun k => rfl⟩, by simp⟩
theorem AsAt.fn (h : AsAt H id l) {x : List UInt8} {v v' : AV} (h1 : (x, v) ∈ l) (h2 : (x, v') ∈ l) : v = v' := by
  obtain ⟨f, _, hf⟩ := h
  have a := (hf (kv x) v).2 ⟨_, h1, rfl, rfl⟩
  have b := (hf (kv x) v').2 ⟨_, h2, rfl, rfl⟩
  rw [a] at b; simpa using b
theorem AsAt.look (h : AsAt H id l) (ht : Tryd.prog.underlying t = some (.map 9 et)) {x : List UInt8} {v : AV} (hx : (x, v) ∈ l) (ok : Bool) : lookV Tryd.prog H t (.mp id) (.v (.string (tx x))) ok = Go.Mx.valOf Tryd.prog et ok (some v) := by
  obtain ⟨f, h1, hf⟩ := h
  show lookV Tryd.prog H t (.mp id) (kv x) ok = _
  rw [h1.look ht (kv_good x)]
  have := (hf (kv x) v).2 ⟨_, hx, rfl, rfl⟩
  rw [this]
theorem AsAt.no (h : AsAt H id l) (ht : Tryd.prog.underlying t = some (.map 9 et)) {x : List UInt8} (hx : ∀ p ∈ l, p.1 ≠ x) (ok : Bool) : lookV Tryd.prog H t (.mp id) (.v (.string (tx x))) ok = Go.Mx.valOf Tryd.prog et ok none := by
  obtain ⟨f, h1, hf⟩ := h
  show lookV Tryd.prog H t (.mp id) (kv x) ok = _
  rw [h1.look ht (kv_good x)]
  have : f (kv x) = none := by
    cases hc : f (kv x) with
    | none => rfl
    | some v =>
      obtain ⟨p, hp, hk, _⟩ := (hf _ _).1 hc
      exact absurd (kv_inj hk).symm (hx p hp)
  rw [this]
theorem AsAt.upd (h : AsAt H id l) (ht : Tryd.prog.underlying t = some (.map 9 et)) {x : List UInt8} {v : AV} (hl : ∀ p, p ∈ l' ↔ p = (x, v) ∨ (p ∈ l ∧ p.1 ≠ x)) {k : Hp → Prop}
    (hq : ∀ H', AsAt H' id l' → Same [id] H H' → H'.length = H.length → k H') : updA Tryd.prog H t (.mp id) (.v (.string (tx x))) v k := by
  classical
  obtain ⟨f, h1, hf⟩ := h
  refine h1.upd ht (kv_good x) (fun H' hm hs hlen => hq H' ⟨_, hm, fun k' v' => ?_⟩ hs hlen)
  have e : (if k' = AV.v (.string (tx x)) then some v else f k') = (if k' = kv x then some v else f k') := by unfold kv; rfl
  by_cases hk : k' = kv x
  · subst hk
    simp only [kv, if_pos]
    constructor
    · intro hv
      simp at hv; subst hv
      exact ⟨(x, v), (hl _).2 (.inl rfl), rfl, rfl⟩
    · rintro ⟨p, hp, hk, rfl⟩
      have hpx : x = p.1 := kv_inj hk
      rcases (hl p).1 hp with rfl | ⟨_, hne⟩
      · rfl
      · exact absurd hpx.symm hne
  · rw [if_neg hk, hf]
    constructor
    · rintro ⟨p, hp, rfl, rfl⟩
      exact ⟨p, (hl p).2 (.inr ⟨hp, fun e => hk (by rw [e])⟩), rfl, rfl⟩
    · rintro ⟨p, hp, rfl, rfl⟩
      rcases (hl p).1 hp with rfl | ⟨hp', _⟩
      · exact absurd rfl hk
      · exact ⟨p, hp', rfl, rfl⟩
theorem AsAt.del (h : AsAt H id l) (ht : Tryd.prog.underlying t = some (.map 9 et)) {x : List UInt8} (hl : ∀ p, p ∈ l' ↔ p ∈ l ∧ p.1 ≠ x) {k : Hp → Prop}
    (hq : ∀ H', AsAt H' id l' → Same [id] H H' → H'.length = H.length → k H') : delA Tryd.prog H t (.mp id) (.v (.string (tx x))) k := by
  classical
  obtain ⟨f, h1, hf⟩ := h
  refine h1.del ht (kv_good x) (fun H' hm hs hlen => hq H' ⟨_, hm, fun k' v' => ?_⟩ hs hlen)
  by_cases hk : k' = kv x
  · subst hk
    simp only [kv, if_pos]
    constructor
    · intro hv; simp at hv
    · rintro ⟨p, hp, hk, rfl⟩
      exact absurd (kv_inj hk).symm ((hl p).1 hp).2
  · rw [if_neg hk, hf]
    constructor
    · rintro ⟨p, hp, rfl, rfl⟩
      exact ⟨p, (hl p).2 ⟨hp, fun e => hk (by rw [e])⟩, rfl, rfl⟩
    · rintro ⟨p, hp, rfl, rfl⟩
      exact ⟨p, ((hl p).1 hp).1, rfl, rfl⟩
theorem AsAt.len (h : AsAt H id l) (hn : (l.map (·.1)).Nodup) (a b : TypeId) : lenT H (some (.map a b)) (some (.mp id)) = some (.av (.v (.int .i64 (l.length : Nat)))) := by
  obtain ⟨f, ⟨es, c, h1, h2, h3⟩, hf⟩ := h
  have e1 : ∀ p ∈ l, kv p.1 ∈ es.map (·.2.1) := fun p hp => by
    have := (hf (kv p.1) p.2).2 ⟨p, hp, rfl, rfl⟩
    rw [← h3] at this
    obtain ⟨e, he, hk, _⟩ := lookE_mem this
    exact List.mem_map.2 ⟨e, he, hk⟩
  have e2 : ∀ e ∈ es, e.2.1 ∈ l.map (fun p => kv p.1) := fun e he => by
    obtain ⟨j, hj⟩ := List.getElem?_of_mem he
    have := lookE_at h2.keys hj rfl
    rw [h3] at this
    obtain ⟨p, hp, hk, _⟩ := (hf _ _).1 this
    exact List.mem_map.2 ⟨p, hp, hk.symm⟩
  have hn2 : (l.map (fun p => kv p.1)).Nodup := by
    rw [show l.map (fun p => kv p.1) = (l.map (·.1)).map kv by rw [List.map_map]; rfl]
    rw [List.nodup_iff_pairwise_ne, List.pairwise_map]
    exact (List.nodup_iff_pairwise_ne.1 hn).imp (fun hab e => hab (kv_inj e))
  have l1 : (l.map (fun p => kv p.1)).length ≤ (es.map (·.2.1)).length := hn2.length_le_of_subset (fun k hk => by
    obtain ⟨p, hp, rfl⟩ := List.mem_map.1 hk; exact e1 p hp)
  have l2 : (es.map (·.2.1)).length ≤ (l.map (fun p => kv p.1)).length := h2.keys.length_le_of_subset (fun k hk => by
    obtain ⟨e, he, rfl⟩ := List.mem_map.1 hk; exact e2 e he)
  simp only [List.length_map] at l1 l2
  have : es.length = l.length := by omega
  simp [lenT, lenM, h1, this]
end
end Go.Proofs.YtoakdmkjlpjahaaDoor
