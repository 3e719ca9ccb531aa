import Derived.Test.YtamhmecfjkahdaaPI
import Derived.Test.YtamhmecfjkahdaaMxSj
import Derived.Test.YtamhmecfjkahdaaMxSg
import Derived.Test.YtamhmecfjkahdaaMxSc
import Derived.Test.YtamhmecfjkahdaaMxSe
import Derived.Lib.Small
import Derived.Lib.Walk
import Derived.Lib.SliceRun
import Derived.OwnWalk
namespace Go.Proofs.Ytamhmecfjkahdaa
open Go.Mx
set_option linter.unusedVariables false
set_option linter.unusedSimpArgs false
set_option linter.unnecessarySimpa false

theorem tx_back (s : ByteArray) : tx s.data.toList = s := by unfold tx; cases s; rfl
theorem sz_list (s : ByteArray) : s.data.toList.length = s.size := rfl
theorem tl_data (s : ByteArray) : s.toList = s.data.toList := by rw [ByteArray.toList_eq]
theorem txl_inj {s t : ByteArray} : s.toList = t.toList ↔ s = t := by
  rw [ByteArray.toList_eq, ByteArray.toList_eq]
  exact ⟨fun h => ByteArray.ext (Array.toList_inj.1 h), fun h => by rw [h]⟩
theorem tl_inj (s t : ByteArray) : (s.toList = t.toList) = (s = t) := propext txl_inj
def userOk (s : ByteArray) : Bool := (partsP 64 s.data.toList).2.2
theorem userS_sp (s : ByteArray) (H : Hp) (Q : AV → Hp → Prop) (hl : s.size ≤ 90000) (h : ∀ x y : ByteArray, Q (.tup [.v (.string x), .v (.string y), .v (.bool (userOk s))]) H) : Sp Try.prog 39 [.v (.string s)] Q H := by
  have := user_sp s.data.toList H Q (by rw [sz_list]; omega) (h _ _)
  rwa [tx_back] at this
theorem user30_sp (s : ByteArray) (H : Hp) (Q : AV → Hp → Prop) (hl : s.size ≤ 90000) (h : Q (.v (.bool (userOk s))) H) : Sp Try.prog 30 [.v (.string s)] Q H := by
  refine Sp.body [] ⟨[], [], []⟩ [] mo Try.func30 rfl (Nat.le_of_ble_eq_true rfl) (by kernel_rfl) ?_
  simp [ev_seq, ev_region2, evOps_nil, evOps_cons, opG_none, opA_move, opA_assign, opA_call, putO_some, putH_lt, opS, opV, Go.Mx.look, fr0, argSlots, seqK, mapO, callA, ok39]
  refine userS_sp s H _ hl (fun x y => ?_)
  simp [ev_seq, ev_ret, ev_region2, evOps_nil, evOps_cons, opG_none, opA_move, opA_assign, opA_extract, putO_some, putH_lt, putC_lt, extractT, opS, opV, Go.Mx.look, seqK, retK, retA, resA, mapO, extractA]
  exact h
theorem isUser_sp (s : ByteArray) (H : Hp) (Q : AV → Hp → Prop) (hl : s.size ≤ 90000) (h : Q (.v (.bool (userOk s))) H) : Sp Try.prog 34 [.v (.string s)] Q H := by
  refine Sp.body [] ⟨[], [], []⟩ [] mo Try.func34 rfl (Nat.le_of_ble_eq_true rfl) (by kernel_rfl) ?_
  simp [ev_seq, ev_region2, evOps_nil, evOps_cons, opG_none, opA_move, opA_assign, opA_call, putO_some, putH_lt, opS, opV, Go.Mx.look, fr0, argSlots, seqK, mapO, callA, ok42]
  have h42 : ∀ Q2, Q2 (tupP (partsP 64 s.data.toList)) H → Sp Try.prog 42 [.v (.string s)] Q2 H := fun Q2 h2 => by
    have : Sp Try.prog 42 [.v (.string (tx s.data.toList))] Q2 H := by
      refine Sp.body [] ⟨[], [], []⟩ [] mo Try.func42 rfl (Nat.le_of_ble_eq_true rfl) (by kernel_rfl) ?_
      simp [ev_seq, ev_region2, evOps_nil, evOps_cons, opG_none, opA_move, opA_assign, opA_call, putO_some, putH_lt, opS, opV, Go.Mx.look, fr0, argSlots, seqK, mapO, callA, ok47]
      refine parts_sp 64 s.data.toList H _ (by rw [sz_list]; omega) ?_
      simp [ev_ret, evOps_nil, evOps_cons, opG_none, opA_assign, opA_extract, putO_some, putH_lt, putC_lt, extractT, opS, opV, Go.Mx.look, seqK, retK, retA, resA, mapO, extractA, tupP]
      exact h2
    rwa [tx_back] at this
  refine h42 _ ?_
  simp [ev_seq, ev_ret, ev_region2, evOps_nil, evOps_cons, opG_none, opA_move, opA_assign, opA_extract, putO_some, putH_lt, putC_lt, extractT, opS, opV, Go.Mx.look, seqK, retK, retA, resA, mapO, extractA, tupP]
  exact h

/-! ### Names of devices -/
def okB (c : UInt8) : Bool := decide ((97 ≤ c.toNat ∧ c.toNat ≤ 122) ∨ (65 ≤ c.toNat ∧ c.toNat ≤ 90) ∨ (48 ≤ c.toNat ∧ c.toNat ≤ 57) ∨ c.toNat = 95)
def allOk (l : List UInt8) : Bool := l.all okB
theorem allOk_def (l : List UInt8) : allOk l = l.all okB := rfl
def namedB (s : ByteArray) : Bool := decide (1 ≤ s.size ∧ s.size ≤ 32) && allOk s.data.toList
theorem strange_sp (c : UInt8) (H : Hp) (Q : AV → Hp → Prop) (h : Q (.v (.bool (!okB c))) H) : Sp Try.prog 40 [u8A c] Q H := by
  refine Sp.body [] ⟨[], [], []⟩ [] mo Try.func40 rfl (Nat.le_of_ble_eq_true rfl) (by kernel_rfl) ?_
  have key : ∀ x : Bool, (x = true ↔ okB c = false) → Q (.v (.bool x)) H := fun x hx => by
    have : x = !okB c := by rw [Bool.eq_iff_iff, hx]; simp
    rw [this]; exact h
  unfold okB at key
  simp [ev_seq, ev_ret, ev_region2, evOps_nil, evOps_cons, opG_none, opG_some, opJ, opU_true, opU_ft, opU_ff, isU_undef, isU_bool, opK_eq, opA_move, opA_assign, opA_pick, opA_bin, opA_un, putO_some, putH_lt, putV_lt, condB_true, condB_false, binT_some, binA, avO_some, pickT, unT, io_eql, io_leq, opS, opV, Go.Mx.look, fr0, argSlots, seqK, Fr.known, retK, retA, resA, mapO, unA, orO_some, eqT_some, tk5, u8A]
  (repeat' (first | apply And.intro | intro _)) <;> apply key <;> simp <;> omega
def IxInv (bs : List UInt8) (H : Hp) (n : Nat) (xs : List AV) (H2 : Hp) : Prop :=
  ∃ i : Nat, i ≤ bs.length ∧ n = bs.length - i ∧ (bs.take i).all okB = true ∧ xs = [.row false bs.length (bs.map u8A), .fn (.func 40) [] [], .v (.int .i64 bs.length), .v (.int .i64 i)] ∧ H2 = H
theorem index_sp (bs : List UInt8) (H : Hp) (Q : AV → Hp → Prop) (hl : bs.length ≤ 1000) (h0 : bs.all okB = true → Q (.v (.int .i64 (-1))) H) (h1 : bs.all okB = false → ∀ i : Nat, Q (.v (.int .i64 i)) H) : Sp Try.prog 46 [.row false bs.length (bs.map u8A), .fn (.func 40) [] []] Q H := by
  refine Sp.body [(2, ⟨[0, 1, 7, 8], [], []⟩)] ⟨[], [], []⟩ [] mo Try.func46 rfl (Nat.le_of_ble_eq_true rfl) (by kernel_rfl) ?_
  simp [ev_seq, ev_block, ev_region2, ev_loop, loopK, evOps_nil, evOps_cons, opG_none, opA_move, opA_assign, opA_len, putO_some, putH_lt, lenT_row, opS, opV, Go.Mx.look, fr0, argSlots, seqK, mapO, headK, getV, getB, chkP, firstReg, Try.underlying74]
  refine LoopC.intro (fun n xs _ H2 => IxInv bs H n xs H2) bs.length ⟨0, by omega, by omega, by simp, by simp, rfl⟩ ?_
  rintro n xs bx H2 ⟨i, hi, rfl, hall, rfl, rfl⟩
  simp [ev_skip, ev_seq, ev_cond2, ev_block, ev_exit, ev_ret, ev_region2, evOps_nil, evOps_cons, opG_none, opA_move, opA_assign, opA_bin, opA_indexAddr, putO_some, putH_lt, binT_some, binA, avO_some, indexAddrT, io_lss, opS, opV, Go.Mx.look, seqK, blockK, Fr.known, retK, retA, resA, mapO, indexAddrA, mkFr, slotsOf, ptrsOf, boxesOf, orO_some, eqT_some, tk3, sz5, Try.underlying74]
  refine ⟨fun hlt => ?_, fun hge => ?_⟩
  · have hx := List.getElem?_eq_getElem hlt
    generalize hbi : bs[i] = c at hx
    have w1 : IntKind.i64.wrap ((i : Int) + 1) = (i : Int) + 1 := wr_i64 (by omega)
    have htk : bs.take (i + 1) = bs.take i ++ [c] := by rw [List.take_add_one, hx]; rfl
    simp [evOps_cons, opG_none, opA_load, opA_call, putO_some, putH_lt, loadT, opS, opV, Go.Mx.look, mapO, callA, partA, loadA, loadS, sz5, ag5, ok40, hlt, hbi]
    refine strange_sp c H2 _ ?_
    cases hc : okB c with
    | true =>
      simp [ev_skip, ev_cond2, ev_region2, evOps_nil, evOps_cons, opG_none, opA_move, opA_bin, putO_some, putH_lt, putC_lt, condB_false, binT_some, binA, avO_some, io_add, opS, opV, Go.Mx.look, seqK, blockK, Fr.known, mapO, headK, getV, getB, chkP, orO_some, eqT_some, tk3, w1]
      exact ⟨bs.length - (i + 1), by omega, i + 1, by omega, rfl, by rw [htk, List.all_append, hall]; simp [hc], by simp, rfl⟩
    | false =>
      simp [ev_seq, ev_cond2, ev_ret, ev_region2, evOps_nil, evOps_cons, opG_none, opA_move, opA_assign, putO_some, putH_lt, putC_lt, condB_true, opS, opV, Go.Mx.look, seqK, blockK, Fr.known, retK, retA, resA, mapO]
      exact h1 (by rw [← Bool.not_eq_true, List.all_eq_true]; intro hh; have := hh c (List.mem_of_getElem? hx); rw [hc] at this; simp at this) i
  · have : i = bs.length := by omega
    subst this
    rw [List.take_length] at hall
    exact h0 hall
theorem contains_sp (bs : List UInt8) (H : Hp) (Q : AV → Hp → Prop) (hl : bs.length ≤ 1000) (h : Q (.v (.bool (!allOk bs))) H) : Sp Try.prog 41 [.row false bs.length (bs.map u8A), .fn (.func 40) [] []] Q H := by
  refine Sp.body [] ⟨[], [], []⟩ [] mo Try.func41 rfl (Nat.le_of_ble_eq_true rfl) (by kernel_rfl) ?_
  simp [ev_seq, ev_region2, evOps_nil, evOps_cons, opG_none, opA_move, opA_assign, opA_call, putO_some, putH_lt, opS, opV, Go.Mx.look, fr0, argSlots, seqK, mapO, callA, ok46]
  rw [allOk_def] at h
  refine index_sp bs H _ hl (fun e => ?_) (fun e i => ?_)
  · rw [e] at h
    simp [ev_ret, evOps_nil, evOps_cons, opG_none, opA_assign, opA_bin, putO_some, putH_lt, putC_lt, binT_some, binA, avO_some, io_geq, opS, opV, Go.Mx.look, seqK, retK, retA, resA, mapO, orO_some, eqT_some, tk3]; exact h
  · rw [e] at h
    simp [ev_ret, evOps_nil, evOps_cons, opG_none, opA_assign, opA_bin, putO_some, putH_lt, putC_lt, binT_some, binA, avO_some, io_geq, opS, opV, Go.Mx.look, seqK, retK, retA, resA, mapO, orO_some, eqT_some, tk3]; exact h
theorem tl_nil (s : ByteArray) : (s.toList = []) = (s.size < 1) := by
  rw [tl_data, ← List.length_eq_zero_iff, sz_list]; exact propext ⟨fun h => by omega, fun h => by omega⟩
theorem named_sp (s : ByteArray) (H : Hp) (Q : AV → Hp → Prop) (hl : s.size ≤ 90000) (h : Q (.v (.bool (namedB s))) H) : Sp Try.prog 31 [.v (.string s)] Q H := by
  refine Sp.body [] ⟨[], [], []⟩ [] mo Try.func31 rfl (Nat.le_of_ble_eq_true rfl) (by kernel_rfl) ?_
  have key : ∀ x : Bool, (x = true ↔ namedB s = true) → Q (.v (.bool x)) H := fun x hx => by
    have : x = namedB s := by rw [Bool.eq_iff_iff, hx]
    rw [this]; exact h
  unfold namedB at key
  have en := tl_nil s
  simp [ev_seq, ev_ret, ev_region2, evOps_nil, evOps_cons, opG_none, opG_some, opJ, opU_ft, isU_bool, opK_eq, opA_move, opA_assign, opA_pick, opA_bin, opA_len, opA_call, opA_convert, putO_some, putH_lt, putV_lt, condB_true, condB_false, binT_some, binA, avO_some, pickT, lenT_str, convT, io_leq, strOp, opS, opV, Go.Mx.look, fr0, argSlots, seqK, Fr.known, retK, retA, resA, mapO, callA, orO_some, eqT_some, tk3, Try.underlying5, tk9, Try.underlying9, Try.underlying74, ok41]
  refine ⟨fun h0 => ⟨fun h1 => ?_, fun h1 => key _ (by simp; omega)⟩, fun h0 => key _ (by rw [en] at h0; simp; omega)⟩
  rw [en] at h0
  have := contains_sp s.data.toList H (fun v H' => v = .v (.bool (!allOk s.data.toList)) ∧ H' = H) (by rw [sz_list]; omega) ⟨rfl, rfl⟩
  rw [sz_list] at this
  refine this.mono (fun v H' hv => ?_)
  obtain ⟨rfl, rfl⟩ := hv
  simp [ev_ret, evOps_nil, evOps_cons, opG_none, opG_some, opJ, opU_ft, isU_bool, opK_eq, opA_assign, opA_pick, opA_un, putO_some, putH_lt, putC_lt, condB_true, pickT, unT, opS, opV, Go.Mx.look, seqK, Fr.known, retK, retA, resA, mapO, unA]
  apply key
  have h2 : 1 ≤ s.size := by omega
  have h3 : s.size ≤ 32 := by omega
  cases allOk s.data.toList <;> simp [h2, h3]
def NaInv (s : ByteArray) (H : Hp) (n : Nat) (xs : List AV) (H2 : Hp) : Prop :=
  ∃ i : Nat, i ≤ s.data.toList.length ∧ n = s.data.toList.length - i ∧ (s.data.toList.take i).all okB = true ∧ xs = [.v (.string s), .v (.int .i64 i)] ∧ H2 = H
set_option maxRecDepth 20000 in
theorem rnamed_sp (s : ByteArray) (H : Hp) (Q : AV → Hp → Prop) (hl : s.size ≤ 90000) (h : Q (.v (.bool (namedB s))) H) : Sp Try.prog 35 [.v (.string s)] Q H := by
  refine Sp.body [(4, ⟨[0, 3], [], []⟩)] ⟨[], [], []⟩ [] mo Try.func35 rfl (Nat.le_of_ble_eq_true rfl) (by kernel_rfl) ?_
  have key : ∀ x : Bool, (x = true ↔ namedB s = true) → Q (.v (.bool x)) H := fun x hx => by
    have : x = namedB s := by rw [Bool.eq_iff_iff, hx]
    rw [this]; exact h
  simp [ev_skip, ev_seq, ev_cond2, ev_block, ev_ret, ev_region2, ev_loop, loopK, evOps_nil, evOps_cons, opG_none, opG_some, opJ, opU_ff, isU_bool, opK_eq, opA_move, opA_assign, opA_pick, opA_bin, opA_len, putO_some, putH_lt, putV_lt, condB_true, condB_false, binT_some, binA, avO_some, pickT, lenT_str, io_lss, io_gtr, opS, opV, Go.Mx.look, fr0, argSlots, seqK, Fr.known, retK, retA, resA, mapO, headK, getV, getB, chkP, firstReg, orO_some, eqT_some, tk3, Try.underlying9]
  refine ⟨fun h0 => key _ (by simp [namedB]; omega), fun h0 => ⟨fun h1 => key _ (by simp [namedB]; omega), fun h1 => ?_⟩⟩
  refine LoopC.intro (fun n xs _ H2 => NaInv s H n xs H2) s.data.toList.length ⟨0, by omega, by omega, by simp, by simp, rfl⟩ ?_
  rintro n xs bx H2 ⟨i, hi, rfl, hall, rfl, rfl⟩
  rw [sz_list] at hi
  simp [ev_skip, ev_seq, ev_cond2, ev_block, ev_exit, ev_ret, ev_region2, evOps_nil, evOps_cons, opG_none, opA_move, opA_assign, opA_bin, opA_index, opA_len, putO_some, putH_lt, binT_some, binA, avO_some, lenT_str, indexT, io_lss, opS, opV, Go.Mx.look, seqK, blockK, Fr.known, retK, retA, resA, mapO, mkFr, slotsOf, ptrsOf, boxesOf, orO_some, eqT_some, tk3, Try.underlying9]
  refine ⟨fun hlt => ?_, fun hge => ?_⟩
  · have hlt' : i < s.data.toList.length := by rw [sz_list]; exact hlt
    have hx := List.getElem?_eq_getElem hlt'
    generalize hbi : s.data.toList[i] = c at hx
    have w1 : IntKind.i64.wrap ((i : Int) + 1) = (i : Int) + 1 := wr_i64 (by omega)
    have htk : s.data.toList.take (i + 1) = s.data.toList.take i ++ [c] := by rw [List.take_add_one, hx]; rfl
    have hix := indexStr_tx s.data.toList .i64 i hlt'
    rw [tx_back, List.getD_eq_getElem?_getD, hx] at hix
    simp only [Option.getD_some] at hix
    have step : okB c = true → ∃ m, m < s.data.toList.length - i ∧ NaInv s H2 m [.v (.string s), .v (.int .i64 (i + 1))] H2 := fun hc =>
      ⟨s.data.toList.length - (i + 1), by omega, i + 1, by omega, rfl, by rw [htk, List.all_append, hall]; simp [hc], by simp, rfl⟩
    rw [sz_list] at step
    have no : okB c = false → namedB s = false := fun hc => by
      have : allOk s.data.toList = false := by
        rw [allOk_def]
        rw [← Bool.not_eq_true, List.all_eq_true]; intro hh; have := hh c (List.mem_of_getElem? hx); rw [hc] at this; simp at this
      simp only [namedB, this, Bool.and_false]
    have hok : okB c = true ↔ ((97 ≤ c.toNat ∧ c.toNat ≤ 122) ∨ (65 ≤ c.toNat ∧ c.toNat ≤ 90) ∨ (48 ≤ c.toNat ∧ c.toNat ≤ 57) ∨ c.toNat = 95) := by simp [okB]
    have hok2 : okB c = false ↔ ¬ ((97 ≤ c.toNat ∧ c.toNat ≤ 122) ∨ (65 ≤ c.toNat ∧ c.toNat ≤ 90) ∨ (48 ≤ c.toNat ∧ c.toNat ≤ 57) ∨ c.toNat = 95) := by rw [← hok]; simp
    simp [ev_skip, ev_seq, ev_cond2, ev_ret, ev_region2, evOps_nil, evOps_cons, opG_none, opG_some, opJ, opU_true, opU_ft, opU_ff, isU_undef, isU_bool, opK_eq, opA_move, opA_assign, opA_pick, opA_bin, opA_un, putO_some, putH_lt, putV_lt, condB_true, condB_false, binT_some, binA, avO_some, pickT, unT, io_add, io_eql, io_leq, io_geq, opS, opV, Go.Mx.look, seqK, blockK, Fr.known, retK, retA, resA, mapO, unA, headK, getV, getB, chkP, orO_some, eqT_some, tk3, tk5, hix, u8A, w1]
    (repeat' (first | apply And.intro | intro _)) <;> first | (apply key; rw [no (hok2.2 (by omega))]; done) | simpa using step (hok.2 (by omega))
  · have : i = s.size := by omega
    rw [List.take_of_length_le (by rw [sz_list]; omega), ← allOk_def] at hall
    apply key
    simp [namedB, hall]; omega
end Go.Proofs.Ytamhmecfjkahdaa

namespace Go.Proofs.Ytamhmecfjkahdaa
open Go.Mx Go.RowKit Go.Lib
set_option linter.unusedVariables false
set_option linter.unusedSimpArgs false
set_option linter.unnecessarySimpa false
set_option maxHeartbeats 1000000 in
theorem cloneNil (n c : Nat) (w : World) : Calls Try.prog 33 #[.slice none n c] w fun e w' => e = .returned (.slice none 0 0) ∧ w' = w := by
  have q22 : ∀ (w : World) (a : Option Addr) (n c n' c' : Nat), (binOp .eql 28 (.slice a n c) (.slice none n' c')).run Try.prog w = .ok (.bool a.isNone) w := fun w a n c n' c' => Lib.run_eql_slice_nil w _ _ a n c n' c' Try.underlying28
  go_enter Try.func33, Try.ntmps33
  go_wp2
  go_ret
  exact ⟨rfl, rfl⟩
theorem info28 : (Try.prog.info? 30).map (fun i => (i.zero, i.size, i.bytes)) = some (some (.agg #[.string ⟨#[]⟩, .string ⟨#[]⟩, .string ⟨#[]⟩, .string ⟨#[]⟩, .string ⟨#[]⟩]), 5, 80) := by kernel_rfl
theorem appZero (a : Addr) (c : Nat) (b : Nat) (ty : TypeId) (w : World) : (Builtin.append_ #[28, 28] ty #[.slice (some ⟨b, 0, none⟩) 0 0, .slice (some a) 0 c]).run Try.prog w = .ok (.slice (some ⟨b, 0, none⟩) 0 0) w := by
  obtain ⟨i, hi, hz0, hz1, hz2⟩ := info_parts info28
  have hS : Src Try.prog i.size 28 (.slice (some a) 0 c) 0 [] w := Src.ofSlice w (e' := 30) Try.underlying28 a 0 c [] (by simp) (fun j u hj => by simp at hj) (fun _ h => by cases h)
  have hc := hS.cells
  simp [Builtin.append_, run_underlying Try.underlying28, sizeOf, typeInfo, hi, hS.len, hc, storeCells]
theorem wpList_append_zero {P : Program} {w : World} {ops : Array Oper} {rest : List Oper} {o : Oper} {a : Act} {Q : Exit → Act → World → Prop} (hgd : o.guard = none) (s x : Operand) (t : TypeId)
    (ho : o.op = .call { callee := .builtin .append, args := #[s, x], argTypes := #[t, t] }) (v vx : Value) (hs : a.eval s = v) (hx : a.eval x = vx) (hr : (Builtin.append_ #[t, t] o.type #[v, vx]).run P w = .ok v w)
    (h : wpList P ops Q rest (a.put o.dst v) w) : wpList P ops Q (o :: rest) a w := by
  refine wpList_plain hgd fun K hK => ?_
  unfold Oper.wp execOp
  simp only [ho, resolve, invoke, builtin, Sem.run_bind, Sem.run_pure, Result.andThen_ok, List.map_toArray, List.map_cons, List.map_nil, hs, hx, hr]
  exact hK _ _ h
set_option maxHeartbeats 1000000 in
theorem cloneZero (a : Addr) (c : Nat) (w : World) : Calls Try.prog 33 #[.slice (some a) 0 c] w fun e w' => ∃ b, e = .returned (.slice (some ⟨b, 0, none⟩) 0 0) ∧ Gw none w w' := by
  have q22 : ∀ (w : World) (a : Option Addr) (n c n' c' : Nat), (binOp .eql 28 (.slice a n c) (.slice none n' c')).run Try.prog w = .ok (.bool a.isNone) w := fun w a n c n' c' => Lib.run_eql_slice_nil w _ _ a n c n' c' Try.underlying28
  go_enter Try.func33, Try.ntmps33
  go_wp2_with (at_builtin; refine wpList_append_zero rfl _ _ 28 rfl _ _ rfl rfl (appZero a c _ _ _) ?_)
  go_ret
  exact ⟨_, rfl, Gw.alloc _ _⟩
theorem Sp.clone0 {x : Bool} {H : Hp} {Q : AV → Hp → Prop} (hq : Q (.row true 0 []) H) : Sp Try.prog 33 [.row x 0 []] Q H := by
  intro ρ I w us hs hv
  match us, hv with
  | [], hv => exact absurd hv.1 (by simp)
  | _ :: _ :: _, hv => exact absurd hv.1 (by simp)
  | [u], hv =>
    have h0 : VR ρ I (.row x 0 []) u := by simpa using hv.2 0 _ rfl
    cases h0 with
    | row _ _ _ us' a cap h1 h2 h3 h4 h5 h6 =>
      cases a with
      | none =>
        refine (cloneNil 0 cap w).mono ?_
        rintro e w' ⟨rfl, rfl⟩
        exact ⟨.row true 0 [], _, ρ, I, H, rfl, Mv.refl hs, .row true 0 [] [] none 0 rfl (fun i c hc => by simp at hc) (.inl ⟨rfl, rfl⟩) (fun ad h => by simp at h) (Nat.le_refl _) (fun h => rfl), hq⟩
      | some ad =>
        refine (cloneZero ad cap w).mono ?_
        rintro e w' ⟨b, rfl, hg⟩
        exact ⟨.row true 0 [], _, ρ, I, H, rfl, Mv.junk hs hg, .row true 0 [] [] _ 0 rfl (fun i c hc => by simp at hc) (.inl ⟨rfl, rfl⟩) (fun ad h => .inr rfl) (Nat.le_refl _) (fun h => rfl), hq⟩
end Go.Proofs.Ytamhmecfjkahdaa

namespace Go.Proofs.Ytamhmecfjkahdaa
open Go.Mx
set_option linter.unusedVariables false
set_option linter.unusedSimpArgs false
set_option linter.unnecessarySimpa false

/-! ### What is spoken of -/
/-- A parcel. -/
structure Pa where
  fr : ByteArray
  to : ByteArray
  dv : ByteArray
  tx_ : ByteArray
  bo : ByteArray
deriving DecidableEq
def paC (p : Pa) : List AV := [.v (.string p.fr), .v (.string p.to), .v (.string p.dv), .v (.string p.tx_), .v (.string p.bo)]
theorem paC_len (p : Pa) : (paC p).length = 5 := rfl
def FewX (p : Pa) : Prop := p.fr.size + p.to.size + p.dv.size + p.tx_.size + p.bo.size ≤ 500
def FewP (p : Pa) : Prop := p.fr.size + p.to.size + p.dv.size + p.tx_.size + p.bo.size ≤ 1000
theorem FewX.to {p : Pa} (h : FewX p) : FewP p := by unfold FewX at h; unfold FewP; omega
abbrev Ky := ByteArray × ByteArray
/-- A device: all that came to it, and how many were seen. -/
structure Dv where
  u : ByteArray
  n : ByteArray
  al : List Pa
  sn : Nat
def keyD (d : Dv) : Ky := (d.u, d.n)
def keyP (p : Pa) : Ky := (p.fr, p.tx_)
structure St where
  ds : List Dv
  sent : List Pa
structure DvOk (d : Dv) (N : Nat) : Prop where
  zu : d.u.size ≤ 1000
  zn : d.n.size ≤ 1000
  s : d.sn ≤ d.al.length
  l : d.al.length ≤ N
  f : ∀ p ∈ d.al, FewP p
structure StOk (S : St) (N : Nat) : Prop where
  k : (S.ds.map keyD).Nodup
  d : ∀ d ∈ S.ds, DvOk d N
  l : S.ds.length ≤ N
  s : S.sent.length ≤ N
  f : ∀ p ∈ S.sent, FewP p
theorem DvOk.mono {d : Dv} {n m : Nat} (h : DvOk d n) (hm : n ≤ m) : DvOk d m := ⟨h.zu, h.zn, h.s, Nat.le_trans h.l hm, h.f⟩
theorem StOk.mono {S : St} {n m : Nat} (h : StOk S n) (hm : n ≤ m) : StOk S m := ⟨h.k, fun d hd => (h.d d hd).mono hm, Nat.le_trans h.l hm, Nat.le_trans h.s hm, h.f⟩

/-! ### Slices of one's own -/
def slId : AV → List Nat
  | .sl id _ _ _ _ => [id]
  | _ => []
def OwnS (k : Nat) (H : Hp) (n : Nat) (cs : List AV) (v : AV) : Prop := (n = 0 ∧ cs = [] ∧ (v = .v (.slice none 0 0) ∨ v = .row true 0 [])) ∨ (0 < n ∧ cs.length = n * k ∧ ∃ id ver tl, v = .sl id ver k 0 n ∧ H[id]? = some (.cells ver (cs ++ tl)))
section
variable {k n : Nat} {H H' : Hp} {cs c : List AV} {v : AV}
theorem OwnS.nil (k : Nat) (H : Hp) : OwnS k H 0 [] (.v (.slice none 0 0)) := .inl ⟨rfl, rfl, .inl rfl⟩
theorem OwnS.len (h : OwnS k H n cs v) : cs.length = n * k := by
  rcases h with ⟨rfl, rfl, _⟩ | ⟨_, h, _⟩
  · simp
  · exact h
theorem OwnS.same {fp : List Nat} (h : OwnS k H n cs v) (hs : Same fp H H') (hf : ∀ j ∈ slId v, j ∉ fp) : OwnS k H' n cs v := by
  rcases h with h | ⟨h0, h1, id, ver, tl, rfl, h3⟩
  · exact .inl h
  · exact .inr ⟨h0, h1, id, ver, tl, rfl, hs.2 _ _ h3 (hf id (by simp [slId]))⟩
theorem OwnS.lt (h : OwnS k H n cs v) : ∀ j ∈ slId v, j < H.length := by
  rcases h with ⟨_, _, rfl | rfl⟩ | ⟨h0, h1, id, ver, tl, rfl, h3⟩
  · simp [slId]
  · simp [slId]
  · simpa [slId] using Hp.lt h3
theorem OwnS.nodup (h : OwnS k H n cs v) : (slId v).Nodup := by
  rcases h with ⟨_, _, rfl | rfl⟩ | ⟨h0, h1, id, ver, tl, rfl, h3⟩ <;> simp [slId]
theorem OwnS.lenT (h : OwnS k H n cs v) (H' : Hp) (e : TypeId) : lenT H' (some (.slice e)) (some v) = some (.av (.v (.int .i64 n))) := by
  rcases h with ⟨rfl, _, rfl | rfl⟩ | ⟨h0, h1, id, ver, tl, rfl, h3⟩ <;> rfl
theorem OwnS.cells' (h : OwnS k H n cs v) : cellsA v = [v] ∧ okPart v = true := by
  rcases h with ⟨_, _, rfl | rfl⟩ | ⟨_, _, id, ver, tl, rfl, _⟩ <;> exact ⟨rfl, rfl⟩
/-- One is appended. -/
theorem OwnS.app {x : Bool} {bytes : Nat} {K : AV → Hp → Prop} (h : OwnS k H n cs v) (hc : c.length = k) (hb : (n + 1) * bytes ≤ 140737488355328 ∧ n + 1 ≤ 4611686018427387904)
    (hq : ∀ v' H', OwnS k H' (n + 1) (cs ++ c) v' → Same (slId v) H H' → (slId v' = slId v ∨ slId v' = [H.length]) → (slId v').length = 1 → K v' H') : appA H k bytes v (.row x 1 c) K := by
  rcases h with ⟨rfl, rfl, rfl | rfl⟩ | ⟨h0, h1, id, ver, tl, rfl, h3⟩
  · have h1 := hq (.sl H.length 0 k 0 1) (H ++ [.cells 0 c]) (.inr ⟨by simp, by simp [hc], H.length, 0, [], by simp, by simp⟩) (Same.app _ _ _) (.inr rfl) rfl
    simp at hb
    simp [appA, srcA, hb, hc]
    exact h1
  · have h1 := hq (.sl H.length 0 k 0 1) (H ++ [.cells 0 c]) (.inr ⟨by simp, by simp [hc], H.length, 0, [], by simp, by simp⟩) (Same.app _ _ _) (.inr rfl) rfl
    simp at hb
    simp [appA, srcA, hb, hc]
    exact h1
  · have h5 := hq (.sl id (ver + 1) k 0 (n + 1)) (H.set id (.cells (ver + 1) (cs ++ c))) (.inr ⟨by omega, by rw [List.length_append, h1, hc, Nat.succ_mul], id, ver + 1, [], by simp, by rw [List.getElem?_set_self (Hp.lt h3)]; simp⟩) (Same.set (by simp [slId])) (.inl rfl) rfl
    simp [appA, srcA, h3, hc]
    refine ⟨⟨by omega, hb.1, by omega⟩, ?_⟩
    have e : (cs ++ tl).take (n * k) = cs := by rw [← h1]; simp
    rw [e]; exact h5
end

/-! ### Devices in memory -/
structure Rw where
  d : Dv
  b : Nat
  v : AV
def fpR (r : Rw) : List Nat := r.b :: slId r.v
def fpL (R : List Rw) : List Nat := R.flatMap fpR
def DevAt (cell : Dv → AV → List AV) (wl : Dv → List Pa) (H : Hp) (r : Rw) : Prop := H[r.b]? = some (.cells 0 (cell r.d r.v)) ∧ OwnS 5 H (wl r.d).length ((wl r.d).flatMap paC) r.v
structure Devs (cell : Dv → AV → List AV) (wl : Dv → List Pa) (H : Hp) (R : List Rw) : Prop where
  at_ : ∀ r ∈ R, DevAt cell wl H r
  nd : (fpL R).Nodup
section
variable {cell : Dv → AV → List AV} {wl : Dv → List Pa} {H H' : Hp} {R A B : List Rw} {r r' : Rw}
theorem DevAt.same {fp : List Nat} (h : DevAt cell wl H r) (hs : Same fp H H') (hf : ∀ j ∈ fpR r, j ∉ fp) : DevAt cell wl H' r :=
  ⟨hs.2 _ _ h.1 (hf _ (by simp [fpR])), h.2.same hs (fun j hj => hf j (by simp [fpR, hj]))⟩
theorem DevAt.lt (h : DevAt cell wl H r) : ∀ j ∈ fpR r, j < H.length := by
  intro j hj
  rcases List.mem_cons.1 hj with rfl | hj
  · exact Hp.lt h.1
  · exact h.2.lt j hj
theorem Devs.same {fp : List Nat} (h : Devs cell wl H R) (hs : Same fp H H') (hf : ∀ j ∈ fpL R, j ∉ fp) : Devs cell wl H' R :=
  ⟨fun r hr => (h.at_ r hr).same hs (fun j hj => hf j (List.mem_flatMap.2 ⟨r, hr, hj⟩)), h.nd⟩
theorem Devs.lt (h : Devs cell wl H R) : ∀ j ∈ fpL R, j < H.length := by
  intro j hj
  obtain ⟨r, hr, hj⟩ := List.mem_flatMap.1 hj
  exact (h.at_ r hr).lt j hj
theorem fpL_app (A B : List Rw) : fpL (A ++ B) = fpL A ++ fpL B := by simp [fpL]
theorem fpL_cons (r : Rw) (B : List Rw) : fpL (r :: B) = fpR r ++ fpL B := by simp [fpL]
theorem Devs.upd (h : Devs cell wl H (A ++ r :: B)) (hs : Same (fpR r) H H') (hr : DevAt cell wl H' r') (hf : ∀ j ∈ fpR r', j ∈ fpR r ∨ H.length ≤ j) (hn : (fpR r').Nodup) : Devs cell wl H' (A ++ r' :: B) := by
  have hnd := h.nd
  have hlt := h.lt
  rw [fpL_app, fpL_cons, List.nodup_append, List.nodup_append] at hnd
  obtain ⟨nA, ⟨nr, nB, d1⟩, d2⟩ := hnd
  have dA : ∀ j ∈ fpL A, j ∉ fpR r := fun j hj hm => d2 j hj j (List.mem_append.2 (.inl hm)) rfl
  have dB : ∀ j ∈ fpL B, j ∉ fpR r := fun j hj hm => d1 j hm j hj rfl
  have lA : ∀ j ∈ fpL A, j < H.length := fun j hj => hlt j (by rw [fpL_app]; exact List.mem_append.2 (.inl hj))
  have lB : ∀ j ∈ fpL B, j < H.length := fun j hj => hlt j (by rw [fpL_app, fpL_cons]; simp [hj])
  refine ⟨fun x hx => ?_, ?_⟩
  · rcases List.mem_append.1 hx with hx | hx
    · exact (h.at_ x (List.mem_append.2 (.inl hx))).same hs (fun j hj => dA j (List.mem_flatMap.2 ⟨x, hx, hj⟩))
    · rcases List.mem_cons.1 hx with rfl | hx
      · exact hr
      · exact (h.at_ x (by simp [hx])).same hs (fun j hj => dB j (List.mem_flatMap.2 ⟨x, hx, hj⟩))
  · rw [fpL_app, fpL_cons, List.nodup_append, List.nodup_append]
    refine ⟨nA, ⟨hn, nB, fun a ha b hb e => ?_⟩, fun a ha b hb e => ?_⟩
    · subst e
      rcases hf a ha with h1 | h1
      · exact dB a hb h1
      · have := lB a hb; omega
    · subst e
      rcases List.mem_append.1 hb with hb | hb
      · rcases hf a hb with h1 | h1
        · exact dA a ha h1
        · have := lA a ha; omega
      · exact d2 a ha a (List.mem_append.2 (.inr hb)) rfl
theorem Devs.add (h : Devs cell wl H R) (hs : Same [] H H') (hr : DevAt cell wl H' r) (hf : ∀ j ∈ fpR r, H.length ≤ j) (hn : (fpR r).Nodup) : Devs cell wl H' (R ++ [r]) := by
  have hlt := h.lt
  refine ⟨fun x hx => ?_, ?_⟩
  · rcases List.mem_append.1 hx with hx | hx
    · exact (h.at_ x hx).same hs (by simp)
    · simp at hx; subst hx; exact hr
  · rw [fpL_app, List.nodup_append]
    have e : fpL [r] = fpR r := by simp [fpL]
    refine ⟨h.nd, by rw [e]; exact hn, fun a ha b hb e2 => ?_⟩
    subst e2
    rw [e] at hb
    have := hf a hb
    have := hlt a ha
    omega
theorem Devs.del (h : Devs cell wl H (A ++ r :: B)) : Devs cell wl H (A ++ B) := by
  refine ⟨fun x hx => h.at_ x ?_, ?_⟩
  · rcases List.mem_append.1 hx with hx | hx
    · exact List.mem_append.2 (.inl hx)
    · exact List.mem_append.2 (.inr (List.mem_cons_of_mem _ hx))
  · have := h.nd
    refine this.sublist ?_
    rw [fpL_app, fpL_app, fpL_cons]
    exact List.Sublist.append (List.Sublist.refl _) (List.sublist_append_right _ _)
end

/-! ### Keys, maps -/
def keyV (k : Ky) : AV := .agg [.v (.string k.1), .v (.string k.2)]
theorem keyV_inj {k l : Ky} (h : keyV k = keyV l) : k = l := by
  simp [keyV] at h
  exact Prod.ext h.1 h.2
theorem laid : laidOutB Try.prog = true := by kernel_rfl
theorem agg63 : AggKey Try.prog 63 := AggKey.of laid (Nat.le_of_ble_eq_true (by kernel_rfl)) (Nat.le_of_ble_eq_true (by kernel_rfl)) (by kernel_rfl) (by kernel_rfl) (by kernel_rfl)
theorem good63 (k : Ky) (h1 : k.1.size ≤ 140737488351232) (h2 : k.2.size ≤ 140737488351232) : KGood Try.prog 63 (keyV k) := by
  have h := KGood.array agg63 Try.underlying63 (by kernel_rfl) (by kernel_rfl) (by kernel_rfl) (by kernel_rfl) (us := [.string k.1, .string k.2]) rfl (fun x hx => by
    simp at hx
    rcases hx with rfl | rfl
    · exact PlainAt.str Try.underlying9 (by simp only [maxLen]; omega)
    · exact PlainAt.str Try.underlying9 (by simp only [maxLen]; omega))
  exact h
theorem zero59 : zeroA Try.prog 59 = some (.v (.pointer none)) := by kernel_rfl
theorem zero4 : zeroA Try.prog 4 = some (.v (.bool false)) := by kernel_rfl
def fD (K : List (Ky × Nat)) : AV → Option AV
  | .agg [.v (.string u), .v (.string n)] => (K.find? (fun p => decide (p.1 = (u, n)))).map (fun p => .ptr p.2 0 0)
  | _ => none
theorem fD_key (K : List (Ky × Nat)) (k : Ky) : fD K (keyV k) = (K.find? (fun p => decide (p.1 = k))).map (fun p => .ptr p.2 0 0) := rfl
theorem fD_some {K : List (Ky × Nat)} {k v : AV} (hf : fD K k = some v) : ∃ p ∈ K, k = keyV p.1 ∧ v = .ptr p.2 0 0 := by
  unfold fD at hf
  split at hf
  · rename_i u t
    rw [Option.map_eq_some_iff] at hf
    obtain ⟨p, h1, h2⟩ := hf
    have h3 := List.find?_some h1
    simp at h3
    exact ⟨p, List.mem_of_find?_eq_some h1, by rw [h3]; rfl, h2.symm⟩
  · simp at hf
open Classical in
theorem fD_ext {K L : List (Ky × Nat)} {k : Ky} {o : Option Nat} (h : ∀ k', (L.find? (fun p => decide (p.1 = k'))).map (·.2) = if k' = k then o else (K.find? (fun p => decide (p.1 = k'))).map (·.2)) : (fun x => if x = keyV k then o.map (fun b => AV.ptr b 0 0) else fD K x) = fD L := by
  have e : ∀ (M : List (Ky × Nat)) k', (M.find? (fun p => decide (p.1 = k'))).map (fun p => AV.ptr p.2 0 0) = ((M.find? (fun p => decide (p.1 = k'))).map (·.2)).map (fun b => AV.ptr b 0 0) := fun M k' => by rw [Option.map_map]; rfl
  funext x
  by_cases hx : x = keyV k
  · subst hx
    rw [if_pos rfl, fD_key, e, h, if_pos rfl]
  · rw [if_neg hx]
    unfold fD
    split
    · rename_i u t
      have : ¬ ((u, t) = k) := fun e => hx (by rw [← e]; rfl)
      rw [e L, e K, h, if_neg this]
    · rfl
def inS (l : List Ky) (k : Ky) : Bool := l.any (fun x => decide (x = k))
def fS (l : List Ky) : AV → Option AV
  | .agg [.v (.string u), .v (.string n)] => if inS l (u, n) then some (.v (.bool true)) else none
  | _ => none
open Classical in
theorem fS_add (l : List Ky) (k : Ky) : (fun x => if x = keyV k then some (AV.v (.bool true)) else fS l x) = fS (l ++ [k]) := by
  funext x
  by_cases hx : x = keyV k
  · subst hx
    rw [if_pos rfl]
    have : inS (l ++ [k]) (k.1, k.2) = true := List.any_eq_true.2 ⟨k, by simp, decide_eq_true rfl⟩
    simp [keyV, fS, this]
  · rw [if_neg hx]
    unfold fS
    split
    · rename_i t n
      have : ¬ (k = (t, n)) := fun e2 => hx (by rw [e2]; rfl)
      have e : inS (l ++ [k]) (t, n) = inS l (t, n) := by simp only [inS, List.any_append, List.any_cons, List.any_nil, decide_eq_false this, Bool.or_false]
      rw [e]
    · rfl
/-- Finding by key. -/
theorem find_split {R : List Rw} {k : Ky} (hn : (R.map (fun r => keyD r.d)).Nodup) : (∀ r ∈ R, keyD r.d ≠ k) ∨ ∃ A r B, R = A ++ r :: B ∧ keyD r.d = k ∧ (∀ x ∈ A, keyD x.d ≠ k) ∧ (∀ x ∈ B, keyD x.d ≠ k) := by
  induction R with
  | nil => exact .inl (by simp)
  | cons r R ih =>
    obtain ⟨h1, h2⟩ := List.nodup_cons.1 hn
    by_cases h : keyD r.d = k
    · refine .inr ⟨[], r, R, rfl, h, by simp, fun x hx e => h1 ?_⟩
      exact List.mem_map.2 ⟨x, hx, e.trans h.symm⟩
    · rcases ih h2 with h3 | ⟨A, x, B, rfl, h4, h5, h6⟩
      · exact .inl (by simpa using ⟨h, h3⟩)
      · exact .inr ⟨r :: A, x, B, rfl, h4, by simpa using ⟨h, h5⟩, h6⟩
def kb (r : Rw) : Ky × Nat := (keyD r.d, r.b)
theorem find_no {R : List Rw} {k : Ky} (h : ∀ r ∈ R, keyD r.d ≠ k) : (R.map kb).find? (fun p => decide (p.1 = k)) = none := by
  rw [List.find?_eq_none]
  intro p hp
  obtain ⟨r, hr, rfl⟩ := List.mem_map.1 hp
  show ¬ (decide (keyD r.d = k) = true)
  rw [decide_eq_false (h r hr)]; simp
theorem find_yes {A B : List Rw} {r : Rw} {k : Ky} (hk : keyD r.d = k) (h : ∀ x ∈ A, keyD x.d ≠ k) : ((A ++ r :: B).map kb).find? (fun p => decide (p.1 = k)) = some (kb r) := by
  rw [List.map_append, List.find?_append, find_no h]
  simp only [Option.none_or, List.map_cons, List.find?_cons]
  show (match decide (keyD r.d = k) with | true => some (kb r) | false => _) = _
  rw [decide_eq_true hk]
end Go.Proofs.Ytamhmecfjkahdaa

namespace Go.Proofs.Ytamhmecfjkahdaa
open Go.Mx
set_option linter.unusedVariables false
set_option linter.unusedSimpArgs false
set_option linter.unnecessarySimpa false

/-! ### The program's post -/
def cellP (d : Dv) (v : AV) : List AV := [v, .v (.int .i64 d.sn)]
def wlP (d : Dv) : List Pa := d.al.drop d.sn
structure PoR (H : Hp) (a m1 m2 : Nat) (R : List Rw) (S : St) : Prop where
  rd : R.map (·.d) = S.ds
  c : H[a]? = some (.cells 0 [.mp m1, .mp m2])
  m : MapAt Try.prog 63 H m1 (fD (R.map kb))
  s : MapAt Try.prog 63 H m2 (fS (S.sent.map keyP))
  d : Devs cellP wlP H R
  nd : ([a, m1, m2] ++ fpL R).Nodup
def PoAt (H : Hp) (a : Nat) (S : St) (fp : List Nat) : Prop := ∃ m1 m2 R, PoR H a m1 m2 R S ∧ fp = [a, m1, m2] ++ fpL R
/-- Only these objects change, and what is owned was, or is new. -/
def Stp (fp : List Nat) (H H' : Hp) (fp' : List Nat) : Prop := Same fp H H' ∧ ∀ j ∈ fp', j ∈ fp ∨ H.length ≤ j
theorem Stp.refl (fp : List Nat) (H : Hp) : Stp fp H H fp := ⟨Same.refl _ _, fun j hj => .inl hj⟩
theorem Stp.trans {fp fp' fp'' : List Nat} {H H' H'' : Hp} (h : Stp fp H H' fp') (k : Stp fp' H' H'' fp'') : Stp fp H H'' fp'' :=
  ⟨h.1.trans k.1 h.2, fun j hj => by
    rcases k.2 j hj with h1 | h1
    · exact h.2 j h1
    · exact .inr (Nat.le_trans h.1.1 h1)⟩
section
variable {H H' : Hp} {a m1 m2 : Nat} {R A B : List Rw} {S : St} {r : Rw} {fp fp' : List Nat} {N : Nat}
theorem PoR.lt (h : PoR H a m1 m2 R S) : ∀ j ∈ [a, m1, m2] ++ fpL R, j < H.length := by
  intro j hj
  simp only [List.cons_append, List.nil_append, List.mem_cons] at hj
  rcases hj with rfl | rfl | rfl | hj
  · exact Hp.lt h.c
  · exact h.m.lt
  · exact h.s.lt
  · exact h.d.lt j hj
theorem PoR.same (h : PoR H a m1 m2 R S) (hs : Same fp' H H') (hf : ∀ j ∈ [a, m1, m2] ++ fpL R, j ∉ fp') : PoR H' a m1 m2 R S :=
  ⟨h.rd, hs.2 _ _ h.c (hf _ (by simp)), h.m.same hs (hf _ (by simp)), h.s.same hs (hf _ (by simp)), h.d.same hs (fun j hj => hf j (by simp [hj])), h.nd⟩
theorem PoAt.lt (h : PoAt H a S fp) : ∀ j ∈ fp, j < H.length := by
  obtain ⟨m1, m2, R, h, rfl⟩ := h; exact h.lt
theorem PoAt.same (h : PoAt H a S fp) (hs : Same fp' H H') (hf : ∀ j ∈ fp, j ∉ fp') : PoAt H' a S fp := by
  obtain ⟨m1, m2, R, h, rfl⟩ := h; exact ⟨m1, m2, R, h.same hs hf, rfl⟩
theorem PoR.keys (h : PoR H a m1 m2 R S) (hk : (S.ds.map keyD).Nodup) : (R.map (fun r => keyD r.d)).Nodup := by
  have : R.map (fun r => keyD r.d) = S.ds.map keyD := by rw [← h.rd, List.map_map]; rfl
  rw [this]; exact hk
theorem PoR.apart (h : PoR H a m1 m2 R S) : a ≠ m1 ∧ a ≠ m2 ∧ m1 ≠ m2 ∧ (∀ j ∈ fpL R, j ≠ a ∧ j ≠ m1 ∧ j ≠ m2) := by
  have := h.nd
  simp only [List.cons_append, List.nil_append, List.nodup_cons, List.mem_cons, not_or] at this
  obtain ⟨⟨h1, h2, h3⟩, ⟨h4, h5⟩, h6, _⟩ := this
  exact ⟨h1, h2, h4, fun j hj => ⟨fun e => h3 (e ▸ hj), fun e => h5 (e ▸ hj), fun e => h6 (e ▸ hj)⟩⟩
end
/-- A device is looked for. -/
def hasD (S : St) (k : Ky) : Bool := S.ds.any (fun d => decide (keyD d = k))
theorem hasD_no {H : Hp} {a m1 m2 : Nat} {R : List Rw} {S : St} (h : PoR H a m1 m2 R S) {k : Ky} (hn : ∀ r ∈ R, keyD r.d ≠ k) : hasD S k = false := by
  unfold hasD
  rw [← h.rd, List.any_map, ← Bool.not_eq_true, List.any_eq_true]
  rintro ⟨r, hr, h2⟩
  exact hn r hr (of_decide_eq_true h2)
theorem hasD_yes {H : Hp} {a m1 m2 : Nat} {A B : List Rw} {r : Rw} {S : St} (h : PoR H a m1 m2 (A ++ r :: B) S) {k : Ky} (hk : keyD r.d = k) : hasD S k = true := by
  unfold hasD
  rw [← h.rd, List.any_map, List.any_eq_true]
  exact ⟨r, by simp, decide_eq_true hk⟩
theorem made_sp (a m1 m2 : Nat) (H : Hp) (Q : AV → Hp → Prop) (hc : H[a]? = some (.cells 0 [.mp m1, .mp m2])) (h : Q (.v (.bool true)) H) : Sp Try.prog 29 [.ptr a 0 0] Q H := by
  refine Sp.body [] ⟨[], [], []⟩ [] mo Try.func29 rfl (Nat.le_of_ble_eq_true rfl) (by kernel_rfl) ?_
  simp [ev_seq, ev_ret, ev_region2, evOps_nil, evOps_cons, opG_none, opG_some, opJ, opU_ft, isU_bool, opK_eq, opA_move, opA_assign, opA_pick, opA_bin, opA_load, opA_fieldAddr, opA_nilCheck, putO_some, putH_lt, condB_true, binT_some, binA, eqRef, avO_some, pickT, loadT, nilCheckT, fieldAddrT, opS, opV, Go.Mx.look, fr0, argSlots, seqK, Fr.known, retK, retA, resA, mapO, partA, loadA, loadS, plusS, nilCheckS, orO_some, eqT_some, tk24, sz52, ag52, tk52, Try.underlying55, hc]
  exact h
/-- No post, or one of nothing. -/
def NoPo (H : Hp) (v : AV) : Prop := v = .v (.pointer none) ∨ ∃ b, v = .ptr b 0 0 ∧ H[b]? = some (.cells 0 [.v (.map none), .v (.map none)])
theorem madeN_sp (v : AV) (H : Hp) (Q : AV → Hp → Prop) (hv : NoPo H v) (h : Q (.v (.bool false)) H) : Sp Try.prog 29 [v] Q H := by
  refine Sp.body [] ⟨[], [], []⟩ [] mo Try.func29 rfl (Nat.le_of_ble_eq_true rfl) (by kernel_rfl) ?_
  rcases hv with rfl | ⟨b, rfl, hb⟩
  · simp [ev_seq, ev_ret, ev_region2, evOps_nil, evOps_cons, opG_none, opG_some, opJ, opU_ft, isU_bool, opA_move, opA_assign, opA_pick, opA_bin, putO_some, putH_lt, putV_lt, condB_false, binT_some, binA, eqRef, avO_some, pickT, opS, opV, Go.Mx.look, fr0, argSlots, seqK, Fr.known, retK, retA, resA, mapO, orO_some, eqT_some, tk24]; exact h
  · simp [ev_seq, ev_ret, ev_region2, evOps_nil, evOps_cons, opG_none, opG_some, opJ, opU_ft, isU_bool, opK_eq, opA_move, opA_assign, opA_pick, opA_bin, opA_load, opA_fieldAddr, opA_nilCheck, putO_some, putH_lt, condB_true, binT_some, binA, eqRef, avO_some, pickT, loadT, nilCheckT, fieldAddrT, opS, opV, Go.Mx.look, fr0, argSlots, seqK, Fr.known, retK, retA, resA, mapO, partA, loadA, loadS, plusS, nilCheckS, orO_some, eqT_some, tk24, sz52, ag52, tk52, Try.underlying55, hb]; exact h
set_option maxRecDepth 20000 in
theorem at_sp (a m1 m2 : Nat) (R : List Rw) (S : St) (u n : ByteArray) (H : Hp) (Q : AV → Hp → Prop) (hp : PoR H a m1 m2 R S) (hk : (S.ds.map keyD).Nodup) (hu : u.size ≤ 90000) (hn : n.size ≤ 90000)
    (h0 : (∀ r ∈ R, keyD r.d ≠ (u, n)) → Q (.v (.pointer none)) H) (h1 : ∀ A r B, R = A ++ r :: B → keyD r.d = (u, n) → (∀ x ∈ A, keyD x.d ≠ (u, n)) → (∀ x ∈ B, keyD x.d ≠ (u, n)) → Q (.ptr r.b 0 0) H) : Sp Try.prog 32 [.ptr a 0 0, .v (.string u), .v (.string n)] Q H := by
  refine Sp.body [] ⟨[], [], []⟩ [] mo Try.func32 rfl (Nat.le_of_ble_eq_true rfl) (by kernel_rfl) ?_
  have hc := hp.c
  simp [ev_seq, ev_region2, evOps_nil, evOps_cons, opG_none, opA_move, opA_assign, opA_call, putO_some, putH_lt, opS, opV, Go.Mx.look, fr0, argSlots, seqK, mapO, callA, ok29]
  refine made_sp a m1 m2 H _ hc ?_
  have hl := hp.m.look Try.underlying52 (good63 (u, n) (by simp only; omega) (by simp only; omega)) false
  rw [fD_key] at hl
  simp only [keyV] at hl
  rcases find_split (k := (u, n)) (hp.keys hk) with h | ⟨A, r, B, rfl, h2, h3, h4⟩
  · rw [find_no h] at hl
    simp only [Option.map_none, Go.Mx.valOf, zero59] at hl
    simp [ev_skip, ev_seq, ev_cond2, ev_ret, ev_region2, evOps_nil, evOps_cons, opG_none, opA_move, opA_assign, opA_un, opA_load, opA_fieldAddr, opA_nilCheck, opA_build, putO_some, putH_lt, putC_lt, condB_false, avO_some, unT, loadT, nilCheckT, fieldAddrT, buildZ, partsZ, fillO, aggO, opS, opV, Go.Mx.look, seqK, Fr.known, retK, retA, resA, mapO, unA, cellsA_v, okPart_v, Value.oneCell', partA, loadA, loadS, plusS, nilCheckS, fillA, lookT_some, opA_lookup, sz52, ag52, Try.underlying55, ze63, of63, hc, hl]
    exact h0 h
  · rw [find_yes h2 h3] at hl
    simp only [Option.map_some, Go.Mx.valOf, kb] at hl
    simp [ev_skip, ev_seq, ev_cond2, ev_ret, ev_region2, evOps_nil, evOps_cons, opG_none, opA_move, opA_assign, opA_un, opA_load, opA_fieldAddr, opA_nilCheck, opA_build, putO_some, putH_lt, putC_lt, condB_false, avO_some, unT, loadT, nilCheckT, fieldAddrT, buildZ, partsZ, fillO, aggO, opS, opV, Go.Mx.look, seqK, Fr.known, retK, retA, resA, mapO, unA, cellsA_v, okPart_v, Value.oneCell', partA, loadA, loadS, plusS, nilCheckS, fillA, lookT_some, opA_lookup, sz52, ag52, Try.underlying55, ze63, of63, hc, hl]
    exact h1 A r B rfl h2 h3 h4
theorem atN_sp (v : AV) (u n : ByteArray) (H : Hp) (Q : AV → Hp → Prop) (hv : NoPo H v) (h : Q (.v (.pointer none)) H) : Sp Try.prog 32 [v, .v (.string u), .v (.string n)] Q H := by
  refine Sp.body [] ⟨[], [], []⟩ [] mo Try.func32 rfl (Nat.le_of_ble_eq_true rfl) (by kernel_rfl) ?_
  simp [ev_seq, ev_region2, evOps_nil, evOps_cons, opG_none, opA_move, opA_assign, opA_call, putO_some, putH_lt, opS, opV, Go.Mx.look, fr0, argSlots, seqK, mapO, callA, ok29]
  refine madeN_sp v H _ hv ?_
  simp [ev_seq, ev_cond2, ev_ret, ev_region2, evOps_nil, evOps_cons, opG_none, opA_assign, opA_un, putO_some, putH_lt, putC_lt, condB_true, unT, opS, opV, Go.Mx.look, seqK, Fr.known, retK, retA, resA, mapO, unA]
  exact h
theorem new_sp (H : Hp) (Q : AV → Hp → Prop) (h : ∀ a H' fp, PoAt H' a ⟨[], []⟩ fp → Same [] H H' → (∀ j ∈ fp, H.length ≤ j) → Q (.ptr a 0 0) H') : Sp Try.prog 10 [] Q H := by
  refine Sp.body [] ⟨[], [], []⟩ [] mo Try.func10 rfl (Nat.le_of_ble_eq_true rfl) (by kernel_rfl) ?_
  simp [ev_seq, ev_ret, ev_region2, evOps_nil, evOps_cons, opG_none, opA_assign, opA_box, opA_makeMap, opA_build, putO_some, putH_lt, boxT, makeMapT, buildZ, partsZ, fillO, aggO, opS, opV, Go.Mx.look, fr0, argSlots, seqK, retK, retA, resA, mapO, cellsA_agg, cellsA_mp, okPart_agg, okPart_mp, fillA, newK, Try.underlying52, Try.underlying53, ze55, of55]
  refine h _ _ _ ⟨H.length, H.length + 1, [], ⟨rfl, ?_, ?_, ?_, ⟨by simp, by simp [fpL]⟩, by simp [fpL]⟩, rfl⟩ (Same.app _ _ _) (by simp [fpL])
  · rw [List.getElem?_append_right (by omega)]; simp
  · have e : fD ([].map kb) = fun _ => none := by funext x; unfold fD; split <;> rfl
    rw [e]; exact ⟨[], 0, by rw [List.getElem?_append_right (by omega)]; simp, MapOk.nil _ _ _, fun k => rfl⟩
  · have e : fS ([].map keyP) = fun _ => none := by funext x; unfold fS; split <;> rfl
    rw [e]; exact ⟨[], 0, by rw [List.getElem?_append_right (by omega)]; simp, MapOk.nil _ _ _, fun k => rfl⟩
def enterE (S : St) (u n : ByteArray) : Int := if userOk u && namedB n then (if hasD S (u, n) then 4 else 0) else 1
def enterS (S : St) (u n : ByteArray) : St := if enterE S u n = 0 then ⟨S.ds ++ [⟨u, n, [], 0⟩], S.sent⟩ else S
theorem enterE_cases {S : St} {u n : ByteArray} : enterE S u n = 0 ↔ userOk u = true ∧ namedB n = true ∧ hasD S (u, n) = false := by
  unfold enterE
  cases userOk u <;> cases namedB n <;> cases hasD S (u, n) <;> simp
theorem named_sz {n : ByteArray} (h : namedB n = true) : n.size ≤ 32 := by
  unfold namedB at h
  rw [Bool.and_eq_true] at h
  exact (of_decide_eq_true h.1).2
def newR (u n : ByteArray) (b : Nat) : Rw := ⟨⟨u, n, [], 0⟩, b, .v (.slice none 0 0)⟩
theorem fpR_new (u n : ByteArray) (b : Nat) : fpR (newR u n b) = [b] := rfl
set_option maxRecDepth 20000 in
theorem enter_sp (a : Nat) (S : St) (fp : List Nat) (N : Nat) (u n : ByteArray) (H : Hp) (Q : AV → Hp → Prop) (hp : PoAt H a S fp) (hk : StOk S N) (hu : u.size ≤ 90000) (hn : n.size ≤ 90000)
    (h : ∀ H' fp', PoAt H' a (enterS S u n) fp' → Stp fp H H' fp' → Q (.v (.int .i64 (enterE S u n))) H') : Sp Try.prog 11 [.ptr a 0 0, .v (.string u), .v (.string n)] Q H := by
  refine Sp.body [] ⟨[], [], []⟩ [] mo Try.func11 rfl (Nat.le_of_ble_eq_true rfl) (by kernel_rfl) ?_
  obtain ⟨m1, m2, R, hp, rfl⟩ := hp
  have hc := hp.c
  have no : ∀ e : Int, enterE S u n = e → e ≠ 0 → Q (.v (.int .i64 e)) H := fun e he hne => by
    have := h H _ (by unfold enterS; rw [he, if_neg hne]; exact ⟨m1, m2, R, hp, rfl⟩) (Stp.refl _ _)
    rwa [he] at this
  simp [ev_seq, ev_block, ev_region2, evOps_nil, evOps_cons, opG_none, opA_move, opA_assign, opA_call, putO_some, putH_lt, opS, opV, Go.Mx.look, fr0, argSlots, seqK, mapO, callA, ok29]
  refine made_sp a m1 m2 H _ hc ?_
  simp [evOps_cons, opG_none, opG_some, opJ, opU_ff, isU_bool, opK_eq, opA_move, opA_un, opA_call, putO_some, putH_lt, putC_lt, condB_false, unT, opS, opV, Go.Mx.look, Fr.known, mapO, unA, callA, ok30]
  refine user30_sp u H _ hu ?_
  cases huo : userOk u with
  | false => simp [ev_seq, ev_cond2, ev_ret, ev_region2, evOps_nil, evOps_cons, opG_none, opG_some, opJ, opU_ff, isU_bool, opK_eq, opA_move, opA_assign, opA_pick, opA_un, putO_some, putH_lt, putC_lt, putV_lt, condB_true, condB_false, pickT, unT, opS, opV, Go.Mx.look, seqK, blockK, Fr.known, retK, retA, resA, mapO, unA]; exact no 1 (by simp [enterE, huo]) (by simp)
  | true =>
  simp [evOps_cons, opG_none, opG_some, opJ, opU_ff, isU_bool, opK_eq, opA_move, opA_pick, opA_un, opA_call, putO_some, putH_lt, putC_lt, condB_false, pickT, unT, opS, opV, Go.Mx.look, Fr.known, mapO, unA, callA, ok31]
  refine named_sp n H _ hn ?_
  cases hno : namedB n with
  | false => simp [ev_seq, ev_cond2, ev_ret, ev_region2, evOps_nil, evOps_cons, opG_none, opG_some, opJ, opU_ff, isU_bool, opK_eq, opA_assign, opA_pick, opA_un, putO_some, putH_lt, putC_lt, condB_true, condB_false, pickT, unT, opS, opV, Go.Mx.look, seqK, blockK, Fr.known, retK, retA, resA, mapO, unA]; exact no 1 (by simp [enterE, huo, hno]) (by simp)
  | true =>
  simp [ev_seq, ev_cond2, ev_region2, evOps_nil, evOps_cons, opG_none, opG_some, opJ, opU_ff, isU_bool, opK_eq, opA_move, opA_assign, opA_pick, opA_un, opA_call, putO_some, putH_lt, putC_lt, condB_false, pickT, unT, opS, opV, Go.Mx.look, seqK, Fr.known, mapO, unA, callA, ok32]
  refine at_sp a m1 m2 R S u n H _ hp hk.k hu hn (fun hno2 => ?_) (fun A r B hR h2 h3 h4 => ?_)
  · have hhas := hasD_no hp hno2
    have he : enterE S u n = 0 := enterE_cases.2 ⟨huo, hno, hhas⟩
    simp [ev_skip, ev_seq, ev_cond2, ev_region2, evOps_nil, evOps_cons, opG_none, opA_move, opA_assign, opA_bin, opA_load, opA_fieldAddr, opA_nilCheck, opA_box, opA_build, putO_some, putH_lt, putC_lt, condB_false, binT_some, binA, eqRef, avO_some, loadT, nilCheckT, fieldAddrT, boxT, buildZ, partsZ, fillO, aggO, opS, opV, Go.Mx.look, seqK, blockK, Fr.known, cellsA_v, cellsA_agg, okPart_v, okPart_agg, Value.oneCell', partA, loadA, loadS, plusS, nilCheckS, fillA, newK, orO_some, eqT_some, updT_some, opA_upd, sz52, ag52, Try.underlying55, tk59, ze62, of62, ze63, of63, hc]
    obtain ⟨q1, q2, q3, q4⟩ := hp.apart
    have hlt := hp.lt
    have hs0 : Same [] H (H ++ [.cells 0 [.v (.slice none 0 0), .v (.int .i64 0)]]) := Same.app _ _ _
    have hm := hp.m.same hs0 (by simp)
    refine hm.upd Try.underlying52 (good63 (u, n) (by simp only; omega) (by simp only; omega)) (fun H2 g hs2 hl2 => ?_)
    have e6 := fD_ext (K := R.map kb) (L := (R ++ [newR u n H.length]).map kb) (k := (u, n)) (o := some H.length) (fun k' => by
      rw [List.map_append, List.find?_append]
      by_cases hk' : k' = (u, n)
      · subst hk'
        rw [find_no hno2, if_pos rfl]
        simp only [Option.none_or, List.map_cons, List.find?_cons]
        show Option.map _ (match decide ((u, n) = (u, n)) with | true => some _ | false => _) = _
        rw [decide_eq_true rfl]; rfl
      · rw [if_neg hk']
        have : List.find? (fun p => decide (p.1 = k')) (List.map kb [newR u n H.length]) = none := by
          refine find_no (fun r hr => ?_)
          simp at hr; subst hr
          exact fun e => hk' e.symm
        rw [this, Option.or_none])
    simp only [Option.map_some] at e6
    rw [e6] at g
    have ma : a < H.length := Hp.lt hc
    have mm1 := hp.m.lt
    have mm2 := hp.s.lt
    simp [ev_seq, ev_ret, ev_region2, evOps_nil, evOps_cons, opG_none, opA_assign, putO_some, putH_lt, putU_none, opS, opV, Go.Mx.look, seqK, retK, retA, resA, mapO]
    have e : fpL [newR u n H.length] = [H.length] := by simp [fpL, fpR_new]
    have hst : Stp ([a, m1, m2] ++ fpL R) H H2 ([a, m1, m2] ++ fpL (R ++ [newR u n H.length])) := by
      refine ⟨(hs0.wide (by simp)).trans (hs2.wide (fp' := [a, m1, m2] ++ fpL R) (by simp)) (fun j hj => .inl hj), fun j hj => ?_⟩
      rw [fpL_app, e, ← List.append_assoc] at hj
      rcases List.mem_append.1 hj with hj | hj
      · exact .inl hj
      · simp at hj; subst hj; exact .inr (Nat.le_refl _)
    have hpo : PoAt H2 a (enterS S u n) ([a, m1, m2] ++ fpL (R ++ [newR u n H.length])) := by
      refine ⟨m1, m2, R ++ [newR u n H.length], ⟨?_, ?_, g, ?_, ?_, ?_⟩, rfl⟩
      · unfold enterS; rw [if_pos he, List.map_append, hp.rd]; rfl
      · exact hs2.2 _ _ (hs0.2 _ _ hc (by simp)) (by simpa using q1)
      · unfold enterS; rw [if_pos he]
        exact (hp.s.same hs0 (by simp)).same hs2 (by simpa using Ne.symm q3)
      · refine (Devs.add (r := newR u n H.length) hp.d hs0 ⟨by simp [cellP, newR], OwnS.nil _ _⟩ (by simp [fpR_new]) (by simp [fpR_new])).same hs2 (fun j hj => ?_)
        rw [fpL_app, e] at hj
        rcases List.mem_append.1 hj with hj | hj
        · simpa using (q4 j hj).2.1
        · simp at hj; subst hj; simp; omega
      · have hnd := hp.nd
        rw [fpL_app, e, ← List.append_assoc, List.nodup_append]
        refine ⟨hnd, by simp, fun x hx y hy e2 => ?_⟩
        simp at hy; subst hy; subst e2
        have := hlt _ hx; omega
    have := h H2 _ hpo hst
    rw [he] at this
    exact this
  · have hhas := hasD_yes (hR ▸ hp) h2
    simp [ev_seq, ev_cond2, ev_ret, ev_region2, evOps_nil, evOps_cons, opG_none, opA_assign, opA_bin, putO_some, putH_lt, putC_lt, condB_true, binT_some, binA, eqRef, avO_some, opS, opV, Go.Mx.look, seqK, blockK, Fr.known, retK, retA, resA, mapO, orO_some, eqT_some, tk59]
    exact no 4 (by simp [enterE, huo, hno, hhas]) (by simp)
end Go.Proofs.Ytamhmecfjkahdaa
