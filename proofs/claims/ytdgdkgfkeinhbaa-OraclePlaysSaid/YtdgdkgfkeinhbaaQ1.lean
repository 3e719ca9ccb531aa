import Derived.Test.YtdgdkgfkeinhbaaFa
import Derived.Test.YtdgdkgfkeinhbaaLy
import Derived.Test.YtdgdkgfkeinhbaaVV
import Derived.Test.YtdgdkgfkeinhbaaPP
import Derived.Test.YtdgdkgfkeinhbaaMxSe
namespace Go.Proofs.Ytdgdkgfkeinhbaa
open Go.Mx
set_option linter.unusedVariables false
set_option linter.unusedSimpArgs false

theorem collect_sp {H : Hp} {id : Nat} {sv : AV} {l : List ByteArray} (Q : AV → Hp → Prop) (hid : H[id]? = some (.cells 0 [sv])) (hsv : RowS sv l) (hl : l.length * 16 ≤ 140737488351232)
    (h : ∀ v H', NewR H H' (l.map strV) v → Same [] H H' → Q v H') : Sp Try.prog 32 [.fn (.func 34) [] [.ptr id 0 0]] Q H := by
  refine Sp.body [] ⟨[], [], []⟩ [] mo Try.func32 rfl (Nat.le_of_ble_eq_true rfl) (by kernel_rfl) ?_
  simp [ev_seq, ev_region2, evOps_nil, evOps_cons, opG_none, opA_move, opA_assign, opA_call, putO_some, putH_lt, opS, opV, Go.Mx.look, fr0, argSlots, seqK, mapO, callA, ok38]
  refine appendSeq_sp _ hid hsv hl (fun v H' hn hs => ?_)
  simp [ev_ret, evOps_nil, evOps_cons, opG_none, opA_assign, putO_some, putH_lt, putC_lt, opS, opV, Go.Mx.look, seqK, retK, retA, resA, mapO]
  exact h v H' hn hs
theorem sorted_sp {H : Hp} {id : Nat} {sv : AV} {l : List ByteArray} (Q : AV → Hp → Prop) (hid : H[id]? = some (.cells 0 [sv])) (hsv : RowS sv l) (hl : l.length * 16 ≤ 140737488351232)
    (h : ∀ v H', NewR H H' ((sortS l).map strV) v → Same [] H H' → Q v H') : Sp Try.prog 22 [.fn (.func 34) [] [.ptr id 0 0]] Q H := by
  refine Sp.body [] ⟨[], [], []⟩ [] mo Try.func22 rfl (Nat.le_of_ble_eq_true rfl) (by kernel_rfl) ?_
  simp [ev_seq, ev_region2, evOps_nil, evOps_cons, opG_none, opA_move, opA_assign, opA_call, putO_some, putH_lt, opS, opV, Go.Mx.look, fr0, argSlots, seqK, mapO, callA, ok32]
  refine collect_sp _ hid hsv hl (fun v H' hn hs => ?_)
  rcases hn with ⟨he, rfl⟩ | ⟨hne, id, ver, tl, rfl, hid, hge⟩
  · have : l = [] := by simpa using he
    subst this
    simp [ev_seq, ev_region2, evOps_nil, evOps_cons, opG_none, opA_move, opA_assign, opA_call, putO_some, putH_lt, putC_lt, opS, opV, Go.Mx.look, seqK, mapO, callA, ok33]
    refine Sp.sortNilS lays190 ?_
    simp [ev_seq, ev_ret, ev_region2, evOps_nil, evOps_cons, opG_none, opA_move, opA_assign, putO_some, putH_lt, putC_lt, opS, opV, Go.Mx.look, seqK, retK, retA, resA, mapO]
    exact h _ _ (.inl ⟨by simp [sortS, textsL, bytesL], rfl⟩) hs
  · simp [ev_seq, ev_region2, evOps_nil, evOps_cons, opG_none, opA_move, opA_assign, opA_call, putO_some, putH_lt, putC_lt, opS, opV, Go.Mx.look, seqK, mapO, callA, ok33]
    refine Sp.sortStrs lays190 hid (by simp) (fun i x hx => ?_) (by omega) ?_
    · rw [Nat.zero_add, List.getElem?_append_left (by simpa using (List.getElem?_eq_some_iff.1 hx).1), List.getElem?_map, hx]; rfl
    · simp [ev_seq, ev_ret, ev_region2, evOps_nil, evOps_cons, opG_none, opA_move, opA_assign, putO_some, putH_lt, putC_lt, opS, opV, Go.Mx.look, seqK, retK, retA, resA, mapO]
      have hsl : (sortS l).length = l.length := sortS_len l
      have e : splice (l.map strV ++ tl) 0 ((sortS l).map strV) = (sortS l).map strV ++ tl := by
        simp [splice, hsl]
      rw [e]
      refine h _ _ (.inr ⟨by intro h0; apply hne; have := congrArg List.length h0; simp [hsl] at this; simp [this], id, ver, tl, by simp [hsl], List.getElem?_set_self (Hp.lt hid), hge⟩) (hs.new (Same.set (fp := [id]) (by simp)) (by simpa using hge))

/-- A clone stands by value. -/
theorem clone_sp (sv : AV) (l : List ByteArray) (H : Hp) (Q : AV → Hp → Prop) (hsv : RowS sv l) (hb : l.length ≤ 1000000) (h : ∀ v, RowS v l → Q v H) : Sp Try.prog 25 [sv] Q H := by
  rcases hsv with ⟨x, rfl⟩ | ⟨rfl, rfl⟩
  · cases l with
    | nil => exact Sp.cloneEmptyS lays16 (h _ (.inl ⟨false, rfl⟩))
    | cons s l =>
      refine Sp.newRow (cs := (s :: l).map strV) (by simp [strV]) ?_
      refine Sp.body [] ⟨[], [], []⟩ [] mo Try.func25 rfl (Nat.le_of_ble_eq_true rfl) (by kernel_rfl) ?_
      simp [ev_skip, ev_seq, ev_cond2, ev_ret, ev_region2, evOps_nil, evOps_cons, opG_none, opA_move, opA_assign, opA_bin, opA_buildSlice, opA_append, putO_some, putH_lt, putC_lt, condB_false, binT_some, binA, eqRef, avO_some, buildSliceT, appendT, opS, opV, Go.Mx.look, fr0, argSlots, seqK, Fr.known, retK, retA, resA, mapO, fillA, bindO, appA, srcA, srcTy, orO_some, eqT_some, sz9, by9, ze9, tk22, st22, Try.underlying22]
      simp at hb
      refine ⟨by omega, Same.app _ _ _, .inr ⟨by simp, H.length, 0, [], by simp, by simp, Nat.le_refl _⟩, ?_⟩
      simpa using h _ (.inl ⟨false, rfl⟩)
  · refine Sp.body [] ⟨[], [], []⟩ [] mo Try.func25 rfl (Nat.le_of_ble_eq_true rfl) (by kernel_rfl) ?_
    simp [ev_seq, ev_cond2, ev_ret, ev_region2, evOps_nil, evOps_cons, opG_none, opA_move, opA_assign, opA_bin, putO_some, putH_lt, condB_true, binT_some, binA, eqRef, avO_some, opS, opV, Go.Mx.look, fr0, argSlots, seqK, Fr.known, retK, retA, resA, mapO, orO_some, eqT_some, tk22]
    exact h _ (.inr ⟨rfl, rfl⟩)
end Go.Proofs.Ytdgdkgfkeinhbaa

namespace Go.Proofs.Ytdgdkgfkeinhbaa
open Go.Mx
set_option linter.unusedVariables false
set_option linter.unusedSimpArgs false

def byteN (n i : Nat) : UInt8 := UInt8.ofNat (n / 2 ^ (56 - 8 * i) % 256)
def bytes8 (n : Nat) : List UInt8 := (List.range 8).map (byteN n)
/-- The letters of a number. -/
def letN (n : Nat) : ByteArray := tx (P.encB (bytes8 n))
theorem letN_inj {n m : Nat} (hn : n < 256) (hm : m < 256) (h : letN n = letN m) : n = m := by
  have h1 := P.encB_inj ((tx_inj _ _).mp h)
  have h2 := congrArg (fun l => l[7]?) h1
  simp [bytes8, byteN, List.range_succ] at h2
  have h3 := congrArg UInt8.toNat h2
  simp at h3
  omega

theorem set_last {α : Type} (H : List α) (x y : α) : (H ++ [x]).set H.length y = H ++ [y] := by rw [List.set_append_right _ _ (Nat.le_refl _)]; simp
theorem letters_sp (n : Nat) (H : Hp) (Q : AV → Hp → Prop) (hn : n < 9223372036854775808) (h : Q (.v (.string (letN n))) H) : Sp Try.prog 27 [.v (.int .i64 n)] Q H := by
  refine Sp.clean (Sp.body [(3, ⟨[0, 3, 5], [], []⟩)] ⟨[], [], []⟩ [] mo Try.func27 rfl (Nat.le_of_ble_eq_true rfl) (by kernel_rfl) ?_)
  simp [ev_seq, ev_block, ev_region2, ev_loop, loopK, evOps_nil, evOps_cons, opG_none, opA_move, opA_assign, opA_alloc, putO_some, putH_lt, allocT, opS, opV, Go.Mx.look, fr0, argSlots, seqK, mapO, newK, headK, getV, getB, chkP, firstReg, ze70]
  refine LoopC.intro (fun k xs _ H2 => ∃ i : Nat, i ≤ 8 ∧ k = 8 - i ∧ xs = [.v (.int .i64 n), .ptr H.length 0 0, .v (.int .i64 i)] ∧ H2 = H ++ [.cells 0 ((List.range 8).map (fun j => if j < i then u8A (byteN n j) else .v (.int .u8 0)))]) 8
    ⟨0, by omega, rfl, rfl, by simp [List.range_succ]⟩ ?_
  rintro k xs bs H2 ⟨i, hi, rfl, rfl, rfl⟩
  simp [ev_skip, ev_seq, ev_cond2, ev_block, ev_exit, ev_region2, evOps_nil, evOps_cons, opG_none, opA_move, opA_assign, opA_bin, opA_call, opA_slice, putO_some, putH_lt, binT_some, binA, avO_some, bndT, sliceT, io_sub, io_mul, io_lss, opS, opV, Go.Mx.look, seqK, blockK, Fr.known, mapO, callA, sliceArr, mkFr, slotsOf, ptrsOf, boxesOf, orO_some, eqT_some, tk3, sz5, Try.underlying70, ok35]
  refine ⟨fun hlt => ?_, fun hge => ?_⟩
  · have w1 : IntKind.i64.wrap (8 * (i : Int)) = 8 * (i : Int) := wr_i64 (by omega)
    have w2 : IntKind.i64.wrap (56 - 8 * (i : Int)) = 56 - 8 * (i : Int) := wr_i64 (by omega)
    have w3 : IntKind.i64.wrap ((i : Int) + 1) = (i : Int) + 1 := wr_i64 (by omega)
    have w4 : intOp .shr .i64 (n : Int) .i64 (56 - 8 * (i : Int)) = some (.v (.int .i64 ((n / 2 ^ (56 - 8 * i) : Nat) : Int))) := by
      rw [io_shr _ _ _ _ (by omega), show (56 - 8 * (i : Int)) = ((56 - 8 * i : Nat) : Int) by omega, shrI_eq _ _ _ (by simp [IntKind.bits]; omega)]
      simp
    have w5 : IntKind.u8.wrap ((n / 2 ^ (56 - 8 * i) : Nat) : Int) = ((byteN n i).toNat : Int) := by
      rw [byteN]
      generalize n / 2 ^ (56 - 8 * i) = q
      simp [IntKind.wrap, IntKind.bits, IntKind.signed]
    simp only [w1, w2, w4]
    generalize n / 2 ^ (56 - 8 * i) = q at w5
    have hlt2 : i < 8 := by omega
    simp [ev_region2, evOps_nil, evOps_cons, opG_none, opA_move, opA_bin, opA_indexAddr, opA_store, opA_convert, putO_some, putH_lt, putU_none, binT_some, binA, avO_some, indexAddrT, storeT, convV, convT, io_add, opS, opV, Go.Mx.look, seqK, blockK, mapO, convInt, cellsA_v, okPart_v, Value.oneCell', plusS, indexArrA, storeS, headK, getV, getB, chkP, orO_some, eqT_some, tk3, Try.underlying3, sz5, Try.underlying5, Try.underlying70, w3, w5, hlt2, hlt]
    refine ⟨by omega, 8 - (i + 1), by omega, i + 1, by omega, rfl, ?_, ?_⟩
    · omega
    · apply List.ext_getElem (by simp)
      intro j h1 h2
      have h3 : j < 8 := by simpa using h2
      rw [List.getElem_set]
      simp only [List.getElem_map, List.getElem_range]
      by_cases e : i = j
      · subst e; simp [u8A]
      · rw [if_neg e]
        by_cases e2 : j < i
        · rw [if_pos e2, if_pos (by omega)]
        · rw [if_neg e2, if_neg (by omega)]
  · obtain rfl : i = 8 := by omega
    have hcs : ∀ x : Nat → AV, (List.range 8).map (fun j => if j < 8 then u8A (byteN n j) else x j) = (bytes8 n).map u8A := fun x => by simp [bytes8, List.range_succ]
    refine Sp.frzArgs (id := H.length) (ver := 0) (by rw [List.getElem?_append_right (Nat.le_refl _), Nat.sub_self]; rfl) ?_
    rw [hcs]
    have hb8 : (bytes8 n).length = 8 := by simp [bytes8]
    have hf : [AV.sl H.length 0 1 0 8].map (frz H.length 0 ((bytes8 n).map u8A)) = [.row false 8 ((bytes8 n).map u8A)] := by
      simp [frz, frz2, frz1, hb8]
      exact List.take_of_length_le (by simp [hb8])
    rw [hf]
    refine P.enc_sp (bytes8 n) false 8 _ _ hb8.symm (by omega) ?_
    rw [set_last]
    simp [ev_ret, evOps_nil, evOps_cons, opG_none, opA_assign, putO_some, putH_lt, putC_lt, opS, opV, Go.Mx.look, seqK, retK, retA, resA, mapO]
    exact h
end Go.Proofs.Ytdgdkgfkeinhbaa

namespace Go.Proofs.Ytdgdkgfkeinhbaa
open Go.Mx
set_option linter.unusedVariables false
set_option linter.unusedSimpArgs false

/-- The key of what was signed by whom. -/
def sgV (p : ByteArray × ByteArray) : AV := .agg [.v (.string p.1), .v (.string p.2)]
/-- Which one it is, counted from one; one more than there are, if it is not there. -/
def numT {α : Type} [DecidableEq α] (l : List α) (s : α) : Nat := l.findIdx (fun x => decide (x = s)) + 1
def addT {α : Type} [DecidableEq α] (l : List α) (s : α) : List α := if numT l s ≤ l.length then l else l ++ [s]
section
variable {α : Type} [DecidableEq α]
theorem numT_le (l : List α) (s : α) : numT l s ≤ l.length + 1 := by have := List.findIdx_le_length (p := fun x => decide (x = s)) (xs := l); unfold numT; omega
theorem numT_mem {l : List α} {s : α} : numT l s ≤ l.length ↔ s ∈ l := by
  unfold numT
  rw [Nat.succ_le_iff, List.findIdx_lt_length]
  simp
theorem numT_app (l : List α) (s t : α) : numT (l ++ [s]) t = if numT l t ≤ l.length then numT l t else if s = t then l.length + 1 else l.length + 2 := by
  have := numT_le l t
  unfold numT at *
  rw [List.findIdx_append]
  by_cases h : l.findIdx (fun x => decide (x = t)) < l.length
  · rw [if_pos h, if_pos (by omega)]
  · rw [if_neg h, if_neg (by omega)]
    by_cases e : s = t
    · rw [if_pos e]; simp [List.findIdx_cons, e]
    · rw [if_neg e]; simp [List.findIdx_cons, e]; omega
theorem numT_inj {l : List α} {s t : α} (h : numT l s ≤ l.length) (e : numT l s = numT l t) : s = t := by
  have h1 : l.findIdx (fun x => decide (x = s)) < l.length := by unfold numT at h; omega
  have h2 : l.findIdx (fun x => decide (x = t)) < l.length := by unfold numT at h e; omega
  have a := List.findIdx_getElem (p := fun x => decide (x = s)) (xs := l) (w := h1)
  have b := List.findIdx_getElem (p := fun x => decide (x = t)) (xs := l) (w := h2)
  have e2 : l.findIdx (fun x => decide (x = s)) = l.findIdx (fun x => decide (x = t)) := by unfold numT at e; omega
  simp only [e2, decide_eq_true_eq] at a b
  exact a.symm.trans b
theorem numT_add (l : List α) (s : α) : numT (addT l s) s = numT l s := by
  unfold addT
  split
  · rfl
  · rename_i h
    have := numT_le l s
    rw [numT_app, if_neg h, if_pos rfl]; omega
theorem numT_in (l : List α) (s : α) : numT (addT l s) s ≤ (addT l s).length := by
  rw [numT_add]
  unfold addT
  have := numT_le l s
  split
  · assumption
  · simp; omega
theorem numT_old {l : List α} {t : α} (s : α) (h : numT l t ≤ l.length) : numT (addT l s) t = numT l t := by
  unfold addT
  split
  · rfl
  · rw [numT_app, if_pos h]
theorem addT_len (l : List α) (s : α) : l.length ≤ (addT l s).length ∧ (addT l s).length ≤ l.length + 1 := by
  unfold addT; split <;> simp
theorem addT_mem {l : List α} {s t : α} : t ∈ addT l s ↔ t ∈ l ∨ t = s := by
  unfold addT
  split
  · rename_i h
    have := numT_mem.1 h
    constructor
    · exact .inl
    · rintro (h | rfl)
      · exact h
      · exact this
  · simp
end
def MapOfT (H : Hp) (m : Nat) (l : List ByteArray) : Prop := ∃ f, MapN Try.prog 9 H m f l.length ∧ ∀ s : ByteArray, f (strV s) = if numT l s ≤ l.length then some (.v (.int .i64 (numT l s))) else none
def MapOfS (H : Hp) (m : Nat) (l : List (ByteArray × ByteArray)) : Prop := ∃ f, MapN Try.prog 64 H m f l.length ∧ ∀ s : ByteArray × ByteArray, f (sgV s) = if numT l s ≤ l.length then some (.v (.int .i64 (numT l s))) else none
/-- A table: its servers, texts, what was signed. -/
def TableAt (H : Hp) (a : Nat) (sl : List ByteArray) (tl : List ByteArray) (gl : List (ByteArray × ByteArray)) (fp : List Nat) : Prop :=
  ∃ sv m1 m2, H[a]? = some (.cells 0 [sv, .mp m1, .mp m2]) ∧ RowS sv sl ∧ MapOfT H m1 tl ∧ MapOfS H m2 gl ∧ m1 ≠ m2 ∧ fp = [a, m1, m2]
theorem TableAt.same {H H' : Hp} {a : Nat} {sl tl : List ByteArray} {gl : List (ByteArray × ByteArray)} {fp fp' : List Nat} (h : TableAt H a sl tl gl fp) (hs : Same fp' H H') (hd : ∀ j ∈ fp, j ∉ fp') : TableAt H' a sl tl gl fp := by
  obtain ⟨sv, m1, m2, h1, h2, ⟨f, h3, h4⟩, ⟨g, h5, h6⟩, h7, rfl⟩ := h
  exact ⟨sv, m1, m2, hs.2 _ _ h1 (hd _ (by simp)), h2, ⟨f, h3.same hs (hd _ (by simp)), h4⟩, ⟨g, h5.same hs (hd _ (by simp)), h6⟩, h7, rfl⟩
theorem TableAt.lt {H : Hp} {a : Nat} {sl tl : List ByteArray} {gl : List (ByteArray × ByteArray)} {fp : List Nat} (h : TableAt H a sl tl gl fp) : ∀ j ∈ fp, j < H.length := by
  obtain ⟨sv, m1, m2, h1, h2, ⟨f, h3, h4⟩, ⟨g, h5, h6⟩, h7, rfl⟩ := h
  simpa using ⟨Hp.lt h1, h3.at.lt, h5.at.lt⟩

theorem RowS.one {sv : AV} {l : List ByteArray} (h : RowS sv l) : cellsA sv = [sv] ∧ okPart sv = true ∧ oneA sv = true := by
  rcases h with ⟨x, rfl⟩ | ⟨rfl, rfl⟩
  · exact ⟨rfl, rfl, rfl⟩
  · exact ⟨rfl, rfl, rfl⟩
theorem table_new {H2 : Hp} {sv : AV} {l : List ByteArray} (h : RowS sv l) : TableAt (H2 ++ [.map [] 0, .map [] 0, .cells 0 [sv, .mp H2.length, .mp (H2.length + 1)]]) (H2.length + 2) l [] [] [H2.length + 2, H2.length, H2.length + 1] := by
  refine ⟨sv, H2.length, H2.length + 1, ?_, h, ⟨_, MapN.put Try.prog 9 ?_, fun s => rfl⟩, ⟨_, MapN.put Try.prog 64 ?_, fun s => rfl⟩, by omega, rfl⟩
  · rw [List.getElem?_append_right (by omega)]; simp
  · rw [List.getElem?_append_right (by omega)]; simp
  · rw [List.getElem?_append_right (by omega)]; simp
theorem values_sp (sv : AV) (l : List ByteArray) (H : Hp) (Q : AV → Hp → Prop) (hsv : RowS sv l) (h : Q (.fn (.func 34) [] [.ptr H.length 0 0]) (H ++ [.cells 0 [sv]])) : Sp Try.prog 23 [sv] Q H := by
  refine Sp.body [] ⟨[], [], []⟩ [] mo Try.func23 rfl (Nat.le_of_ble_eq_true rfl) (by kernel_rfl) ?_
  obtain ⟨o1, o2, o3⟩ := hsv.one
  simp [ev_seq, ev_ret, ev_region2, evOps_nil, evOps_cons, opG_none, opA_assign, opA_box, opA_makeFunc, putO_some, putH_lt, boxT, fnT, opS, opV, Go.Mx.look, fr0, argSlots, seqK, retK, retA, resA, mapO, newK, o1, o2]
  exact h

/-- Few names, no two the same. -/
def OkN (l : List ByteArray) : Prop := l.length ≤ 64 ∧ l.Nodup
theorem new_sp (sv : AV) (l : List ByteArray) (H : Hp) (Q : AV → Hp → Prop) (hsv : RowS sv l) (hl : l.length ≤ 100000)
    (h0 : ¬ OkN l → ∀ H', Same [] H H' → Q (.tup [.v (.pointer none), .v (.int .i64 1)]) H')
    (h1 : OkN l → ∀ a H' fp, TableAt H' a l [] [] fp → Same [] H H' → (∀ j ∈ fp, H.length ≤ j) → Q (.tup [.ptr a 0 0, .v (.int .i64 0)]) H') : Sp Try.prog 8 [sv] Q H := by
  refine Sp.body [] ⟨[], [], []⟩ [] mo Try.func8 rfl (Nat.le_of_ble_eq_true rfl) (by kernel_rfl) ?_
  simp [ev_seq, ev_region2, evOps_nil, evOps_cons, opG_none, opA_move, opA_assign, opA_call, putO_some, putH_lt, opS, opV, Go.Mx.look, fr0, argSlots, seqK, mapO, callA, ok23]
  refine values_sp sv l H _ hsv ?_
  simp [evOps_cons, opG_none, opA_call, putC_lt, opS, opV, Go.Mx.look, mapO, callA, ok22]
  have hid : (H ++ [Ob.cells 0 [sv]])[H.length]? = some (.cells 0 [sv]) := by simp
  refine sorted_sp _ hid hsv (by omega) (fun v H1 hn hs1 => ?_)
  have hs : Same [] H H1 := (Same.app [] H _).trans hs1 (by simp)
  have hlen : ∀ t, lenT t (some (.slice 9)) (some sv) = some (.av (.v (.int .i64 l.length))) := fun t => by
    rcases hsv with ⟨x, rfl⟩ | ⟨rfl, rfl⟩ <;> rfl
  simp [ev_seq, ev_cond2, ev_ret, ev_region2, evOps_nil, evOps_cons, opG_none, opG_some, opJ, opU_ff, isU_bool, opK_eq, opA_move, opA_assign, opA_pick, opA_bin, opA_len, opA_call, putO_some, putH_lt, putC_lt, putV_lt, condB_true, condB_false, binT_some, binA, avO_some, pickT, io_gtr, opS, opV, Go.Mx.look, seqK, Fr.known, retK, retA, resA, mapO, callA, orO_some, eqT_some, tk3, Try.underlying22, ok24, hlen]
  refine ⟨fun h64 => h0 (fun ⟨h, _⟩ => by omega) H1 hs, fun h64 => ?_⟩
  have hsl : (sortS l).length = l.length := sortS_len l
  rcases hn with ⟨he, rfl⟩ | ⟨hne, id, ver, tl, rfl, hid2, hge⟩
  · have : l = [] := by have := congrArg List.length he; simp [hsl] at this; simpa using this
    subst this
    refine Sp.compactNilS lays194 ?_
    simp [ev_skip, ev_seq, ev_cond2, ev_region2, evOps_nil, evOps_cons, opG_none, opG_some, opJ, opU_ff, isU_bool, opK_eq, opA_move, opA_pick, opA_bin, opA_len, opA_call, putO_some, putH_lt, putC_lt, condB_false, binT_some, binA, avO_some, pickT, lenT_nil, io_neq, opS, opV, Go.Mx.look, seqK, Fr.known, mapO, callA, orO_some, eqT_some, tk3, Try.underlying22, ok25, hlen]
    refine clone_sp sv [] _ _ hsv (by simp) (fun sv2 hsv2 => ?_)
    simp [evOps_cons, opG_none, opA_makeMap, opA_build, putH_lt, putC_lt, makeMapT, buildZ, partsZ, fillO, aggO, opS, opV, Go.Mx.look, cellsA_mp, okPart_mp, fillA, Try.underlying49, Try.underlying50, ze52, of52]
    obtain ⟨o1, o2, o3⟩ := hsv2.one
    simp [ev_ret, evOps_nil, evOps_cons, opG_none, opA_assign, opA_box, putO_some, putH_lt, boxT, opS, opV, Go.Mx.look, seqK, retK, retA, resA, mapO, cellsA_agg, okPart_agg, newK, o1, o2]
    refine h1 ⟨by simp, by simp⟩ _ _ _ (table_new hsv2) (hs.trans (Same.app [] _ _) (by simp)) (by simp; have := hs.1; omega)
  · simp only [List.length_map]
    refine Sp.compactStrs lays194 hid2 (by simp) (fun i x hx => ?_) (by omega) ?_
    · rw [Nat.zero_add, List.getElem?_append_left (by simpa using (List.getElem?_eq_some_iff.1 hx).1), List.getElem?_map, hx]; rfl
    simp [ev_skip, ev_seq, ev_cond2, ev_ret, ev_region2, evOps_nil, evOps_cons, opG_none, opG_some, opJ, opU_ff, isU_bool, opK_eq, opA_move, opA_assign, opA_pick, opA_bin, opA_len, opA_call, putO_some, putH_lt, putC_lt, condB_false, binT_some, binA, avO_some, pickT, lenT_sl, io_neq, opS, opV, Go.Mx.look, seqK, Fr.known, retK, retA, resA, mapO, callA, orO_some, eqT_some, tk3, Try.underlying22, ok25, hlen]
    have hlt := Hp.lt hid2
    have hs2 : ∀ o, Same [] H (H1.set id o) := fun o => hs.new (Same.set (fp := [id]) (by simp)) (by simp at hge ⊢; omega)
    have hfull := sortS_full l
    refine ⟨fun hne2 => h0 (fun ⟨_, hd⟩ => hne2 (by rw [hfull.2 hd])) _ (hs2 _), fun heq => ?_⟩
    have hd : l.Nodup := hfull.1 (by omega)
    generalize hH2 : H1.set id _ = H2
    have hs3 : Same [] H H2 := by rw [← hH2]; exact hs2 _
    clear hH2
    refine clone_sp sv l _ _ hsv (by omega) (fun sv2 hsv2 => ?_)
    obtain ⟨o1, o2, o3⟩ := hsv2.one
    simp [ev_ret, evOps_nil, evOps_cons, opG_none, opA_assign, opA_box, opA_makeMap, opA_build, putO_some, putH_lt, putC_lt, boxT, makeMapT, buildZ, partsZ, fillO, aggO, opS, opV, Go.Mx.look, seqK, retK, retA, resA, mapO, cellsA_agg, cellsA_mp, okPart_agg, okPart_mp, fillA, newK, Try.underlying49, Try.underlying50, ze52, of52, o1, o2]
    refine h1 ⟨by omega, hd⟩ _ _ _ (table_new hsv2) (hs3.trans (Same.app [] _ _) (by simp)) (by simp; have := hs3.1; omega)
end Go.Proofs.Ytdgdkgfkeinhbaa

namespace Go.Proofs.Ytdgdkgfkeinhbaa
open Go.Mx
set_option linter.unusedVariables false
set_option linter.unusedSimpArgs false

theorem laid : laidOutB Try.prog = true := by kernel_rfl
theorem agg64 : AggKey Try.prog 64 := AggKey.of laid (Nat.le_of_ble_eq_true (by kernel_rfl)) (Nat.le_of_ble_eq_true (by kernel_rfl)) (by kernel_rfl) (by kernel_rfl) (by kernel_rfl)
theorem good9 (s : ByteArray) : KGood Try.prog 9 (strV s) := KGood.str Try.underlying9 _
theorem good64 (s t : ByteArray) (hs : s.size ≤ maxLen) (ht : t.size ≤ maxLen) : KGood Try.prog 64 (sgV (s, t)) := by
  have h := KGood.struct agg64 Try.underlying64 (by kernel_rfl) (by kernel_rfl) (by kernel_rfl) (us := [.string s, .string t]) (by kernel_rfl) (fun i f hf => by
    match i, hf with
    | 0, hf => simp at hf; subst hf; exact ⟨rfl, by kernel_rfl, _, rfl, PlainAt.str Try.underlying9 hs⟩
    | 1, hf => simp at hf; subst hf; exact ⟨rfl, by kernel_rfl, _, rfl, PlainAt.str Try.underlying9 ht⟩
    | i + 2, hf => simp at hf)
  exact h
theorem zero3 : zeroA Try.prog 3 = some (.v (.int .i64 0)) := by kernel_rfl

theorem made_sp {H : Hp} {a : Nat} {sl tl : List ByteArray} {gl : List (ByteArray × ByteArray)} {fp : List Nat} (Q : AV → Hp → Prop) (ht : TableAt H a sl tl gl fp) (h : Q (.v (.bool true)) H) : Sp Try.prog 26 [.ptr a 0 0] Q H := by
  refine Sp.body [] ⟨[], [], []⟩ [] mo Try.func26 rfl (Nat.le_of_ble_eq_true rfl) (by kernel_rfl) ?_
  obtain ⟨sv, m1, m2, h1, _⟩ := ht
  simp [ev_seq, ev_ret, ev_region2, evOps_nil, evOps_cons, opG_none, opG_some, opJ, opU_ft, isU_bool, opK_eq, opA_move, opA_assign, opA_pick, opA_bin, opA_load, opA_fieldAddr, opA_nilCheck, putO_some, putH_lt, condB_true, binT_some, binA, eqRef, avO_some, pickT, loadT, nilCheckT, fieldAddrT, opS, opV, Go.Mx.look, fr0, argSlots, seqK, Fr.known, retK, retA, resA, mapO, partA, loadA, loadS, plusS, nilCheckS, orO_some, eqT_some, tk23, sz49, ag49, tk49, Try.underlying52, h1]
  exact h
theorem texts_sp {H : Hp} {a : Nat} {sl tl : List ByteArray} {gl : List (ByteArray × ByteArray)} {fp : List Nat} (Q : AV → Hp → Prop) (ht : TableAt H a sl tl gl fp) (h : Q (.v (.int .i64 tl.length)) H) : Sp Try.prog 21 [.ptr a 0 0] Q H := by
  refine Sp.body [] ⟨[], [], []⟩ [] mo Try.func21 rfl (Nat.le_of_ble_eq_true rfl) (by kernel_rfl) ?_
  simp [ev_seq, ev_region2, evOps_nil, evOps_cons, opG_none, opA_move, opA_assign, opA_call, putO_some, putH_lt, opS, opV, Go.Mx.look, fr0, argSlots, seqK, mapO, callA, ok26]
  refine made_sp _ ht ?_
  obtain ⟨sv, m1, m2, h1, h2, ⟨f, h3, h4⟩, _⟩ := ht
  simp [ev_skip, ev_seq, ev_cond2, ev_ret, ev_region2, evOps_nil, evOps_cons, opG_none, opA_move, opA_assign, opA_un, opA_load, opA_fieldAddr, opA_nilCheck, opA_len, putO_some, putH_lt, putC_lt, condB_false, unT, loadT, nilCheckT, fieldAddrT, opS, opV, Go.Mx.look, seqK, Fr.known, retK, retA, resA, mapO, unA, partA, loadA, loadS, plusS, nilCheckS, sz49, ag49, Try.underlying49, Try.underlying52, h1, h3.len]
  exact h
theorem tokens_sp {H : Hp} {a : Nat} {sl tl : List ByteArray} {gl : List (ByteArray × ByteArray)} {fp : List Nat} (Q : AV → Hp → Prop) (ht : TableAt H a sl tl gl fp) (h : Q (.v (.int .i64 gl.length)) H) : Sp Try.prog 15 [.ptr a 0 0] Q H := by
  refine Sp.body [] ⟨[], [], []⟩ [] mo Try.func15 rfl (Nat.le_of_ble_eq_true rfl) (by kernel_rfl) ?_
  simp [ev_seq, ev_region2, evOps_nil, evOps_cons, opG_none, opA_move, opA_assign, opA_call, putO_some, putH_lt, opS, opV, Go.Mx.look, fr0, argSlots, seqK, mapO, callA, ok26]
  refine made_sp _ ht ?_
  obtain ⟨sv, m1, m2, h1, h2, _, ⟨f, h3, h4⟩, _⟩ := ht
  simp [ev_skip, ev_seq, ev_cond2, ev_ret, ev_region2, evOps_nil, evOps_cons, opG_none, opA_move, opA_assign, opA_un, opA_load, opA_fieldAddr, opA_nilCheck, opA_len, putO_some, putH_lt, putC_lt, condB_false, unT, loadT, nilCheckT, fieldAddrT, opS, opV, Go.Mx.look, seqK, Fr.known, retK, retA, resA, mapO, unA, partA, loadA, loadS, plusS, nilCheckS, sz50, ag50, Try.underlying50, Try.underlying52, h1, h3.len]
  exact h

theorem same_wider {H H' : Hp} {fp fp' : List Nat} (h : Same fp H H') (hsub : ∀ j ∈ fp, j ∈ fp') : Same fp' H H' := ⟨h.1, fun j o ho hn => h.2 j o ho (fun hm => hn (hsub j hm))⟩
theorem bl_inj (a b : ByteArray) : (a.toList = b.toList) = (a = b) := by
  have e : ∀ b : ByteArray, b.toList = b.data.toList := fun b => ByteArray.toList_eq b
  rw [e, e, eq_iff_iff]
  exact ⟨fun h => ByteArray.ext (Array.toList_inj.1 h), fun h => by rw [h]⟩
theorem addF {α : Type} [DecidableEq α] {V : α → AV} (hV : ∀ x y, V x = V y → x = y) {f : AV → Option AV} {l : List α} {s : α} (h4 : ∀ t, f (V t) = if numT l t ≤ l.length then some (.v (.int .i64 (numT l t))) else none) (hin : ¬ numT l s ≤ l.length) :
    ∀ t, (open Classical in (fun x => if x = V s then some (.v (.int .i64 ((l.length : Int) + 1))) else f x)) (V t) = if numT (addT l s) t ≤ (addT l s).length then some (.v (.int .i64 (numT (addT l s) t))) else none := by
  intro t
  have hn := numT_le l s
  have hadd : addT l s = l ++ [s] := by unfold addT; rw [if_neg hin]
  by_cases e : t = s
  · subst e
    simp only [if_true]
    rw [if_pos (numT_in l t), numT_add]
    congr 3; omega
  · have e2 : V t ≠ V s := fun h => e (hV _ _ h)
    simp only [if_neg e2]
    rw [h4, hadd, numT_app, List.length_append]
    by_cases h : numT l t ≤ l.length
    · rw [if_pos h, if_pos h, if_pos (by simp; omega)]
    · rw [if_neg h, if_neg h, if_neg (fun e3 : s = t => e e3.symm), if_neg (by simp)]
theorem digest_sp {H : Hp} {a : Nat} {sl tl : List ByteArray} {gl : List (ByteArray × ByteArray)} {fp : List Nat} (d : AV) (bs : List UInt8) (Q : AV → Hp → Prop) (ht : TableAt H a sl tl gl fp) (hd : BytesV d bs) (hl : tl.length ≤ 1000000)
    (h : ∀ H', TableAt H' a sl (addT tl (tx bs)) gl fp → Same fp H H' → Q (.v (.string (letN (numT tl (tx bs))))) H') : Sp Try.prog 9 [.ptr a 0 0, d] Q H := by
  refine Sp.argW (args' := [.ptr a 0 0, .row false bs.length (bs.map u8A)]) ⟨Wk.refl _, hd.wk, trivial⟩ ?_
  refine Sp.body [] ⟨[], [], pl9⟩ tb9 mo Try.func9 rfl (Nat.le_of_ble_eq_true rfl) (by kernel_rfl) ?_
  simp [ev_seq, ev_region2, evOps_nil, evOps_cons, opG_none, opA_move, opA_assign, opA_call, putO_some, putH_lt, opS, opV, Go.Mx.look, fr0, argSlots, seqK, mapO, callA, ok26, pl9, mk_tx]
  refine made_sp _ ht ?_
  obtain ⟨sv, m1, m2, h1, h2, ⟨f, h3, h4⟩, ⟨g, h5, h6⟩, h7, rfl⟩ := ht
  have hlook := h3.at.look Try.underlying49 (good9 (tx bs)) true
  rw [h4] at hlook
  by_cases hin : numT tl (tx bs) ≤ tl.length
  · rw [if_pos hin] at hlook
    simp [Go.Mx.valOf, strV] at hlook
    simp [ev_skip, ev_seq, ev_cond2, ev_region2, evOps_nil, evOps_cons, opG_none, opA_move, opA_assign, opA_un, opA_extract, opA_load, opA_fieldAddr, opA_nilCheck, opA_call, opA_convert, putO_some, putH_lt, putC_lt, condB_false, avO_some, unT, extractT, loadT, nilCheckT, fieldAddrT, convV, convT, opS, opV, Go.Mx.look, seqK, Fr.known, mapO, unA, strOf, callA, extractA, partA, loadA, loadS, plusS, nilCheckS, lookT_some, opA_lookup, ev_draw, drawK, evP_nil, evP_q, evP_s, opAt_some, chkK_eq, sameV_some, sameO_some, allQ_nil, allQ_cons, valQ_none, valS_extract, Try.underlying5, Try.underlying9, Try.underlying28, sz49, ag49, Try.underlying52, ok27, mk_tx, h1, hlook]
    have hle := numT_le tl (tx bs)
    refine letters_sp _ _ _ (by omega) ?_
    simp [ev_ret, evOps_nil, evOps_cons, opG_none, opA_assign, putO_some, putH_lt, putC_lt, opS, opV, Go.Mx.look, seqK, retK, retA, resA, mapO]
    have := h H ⟨sv, m1, m2, h1, h2, ⟨f, by rw [addT, if_pos hin]; exact h3, by rw [addT, if_pos hin]; exact h4⟩, ⟨g, h5, h6⟩, h7, rfl⟩ (Same.refl _ _)
    exact this
  · rw [if_neg hin] at hlook
    simp [Go.Mx.valOf, strV, zero3] at hlook
    have hle := numT_le tl (tx bs)
    have w1 : IntKind.i64.wrap ((tl.length : Int) + 1) = (tl.length : Int) + 1 := wr_i64 (by omega)
    simp [ev_skip, ev_seq, ev_cond2, ev_region2, evOps_nil, evOps_cons, opG_none, opA_move, opA_assign, opA_bin, opA_un, opA_extract, opA_load, opA_fieldAddr, opA_nilCheck, opA_len, opA_convert, putO_some, putH_lt, putC_lt, condB_true, condB_false, binT_some, binA, avO_some, unT, extractT, loadT, nilCheckT, fieldAddrT, convV, convT, io_add, opS, opV, Go.Mx.look, seqK, Fr.known, unA, strOf, extractA, partA, loadA, loadS, plusS, nilCheckS, orO_some, eqT_some, lookT_some, updT_some, opA_lookup, opA_upd, ev_draw, drawK, evP_nil, evP_q, evP_s, opAt_some, chkK_eq, sameV_some, sameO_some, allQ_nil, allQ_cons, valQ_none, valS_extract, tk3, Try.underlying5, Try.underlying9, Try.underlying28, sz49, ag49, Try.underlying49, Try.underlying52, mk_tx, h1, hlook, h3.len, w1]
    refine h3.upd Try.underlying49 (good9 (tx bs)) (by rw [h4, if_neg hin]) (fun H' hm hs _ => ?_)
    have hn : numT tl (tx bs) = tl.length + 1 := by omega
    have ha : a ≠ m1 := fun e => by
      obtain ⟨es, c, k1, _⟩ := h3
      rw [← e, h1] at k1; simp at k1
    have hadd : addT tl (tx bs) = tl ++ [tx bs] := by unfold addT; rw [if_neg hin]
    have ht' : TableAt H' a sl (addT tl (tx bs)) gl [a, m1, m2] := ⟨sv, m1, m2, hs.2 _ _ h1 (by simpa using ha), h2, ⟨_, by rw [hadd, List.length_append]; exact hm, addF (V := strV) (fun x y e => by simpa [strV] using e) h4 hin⟩,
      ⟨g, h5.same hs (by simpa using h7.symm), h6⟩, h7, rfl⟩
    simp [ev_seq, ev_region2, evOps_cons, opG_none, opA_move, opA_call, putO_some, putH_lt, putU_none, opS, opV, Go.Mx.look, seqK, mapO, callA, evP_nil, chkK_eq, allQ_nil, ok27]
    have e1 : (tl.length : Int) + 1 = ((tl.length + 1 : Nat) : Int) := by omega
    rw [e1]
    refine letters_sp _ _ _ (by omega) ?_
    simp [ev_ret, evOps_nil, evOps_cons, opG_none, opA_assign, putO_some, putH_lt, putC_lt, opS, opV, Go.Mx.look, seqK, retK, retA, resA, mapO]
    have := h H' ht' (same_wider hs (by simp))
    rw [hn] at this
    exact this

theorem index_sp (sv : AV) (l : List ByteArray) (s : ByteArray) (H : Hp) (Q : AV → Hp → Prop) (hsv : RowS sv l) (hb : l.length ≤ 1000000) (h0 : s ∉ l → Q (.v (.int .i64 (-1))) H) (h1 : s ∈ l → ∀ i : Nat, Q (.v (.int .i64 i)) H) : Sp Try.prog 36 [sv, .v (.string s)] Q H := by
  rcases hsv with ⟨x, rfl⟩ | ⟨rfl, rfl⟩
  · refine Sp.body [(2, ⟨[0, 1, 7, 8], [], []⟩)] ⟨[], [], []⟩ [] mo Try.func36 rfl (Nat.le_of_ble_eq_true rfl) (by kernel_rfl) ?_
    simp [ev_seq, ev_block, ev_region2, ev_loop, loopK, evOps_nil, evOps_cons, opG_none, opA_move, opA_assign, opA_len, putO_some, putH_lt, lenT_row, opS, opV, Go.Mx.look, fr0, argSlots, seqK, mapO, headK, getV, getB, chkP, firstReg, Try.underlying22]
    refine LoopC.intro (fun n xs _ H2 => ∃ i : Nat, i ≤ l.length ∧ n = l.length - i ∧ (∀ j, j < i → l[j]? ≠ some s) ∧ xs = [.row x l.length (l.map strV), .v (.string s), .v (.int .i64 l.length), .v (.int .i64 i)] ∧ H2 = H) l.length
      ⟨0, by omega, rfl, fun j hj => by omega, rfl, rfl⟩ ?_
    rintro n xs bs H2 ⟨i, hi, rfl, hj, rfl, rfl⟩
    simp [ev_skip, ev_seq, ev_cond2, ev_block, ev_exit, ev_ret, ev_region2, evOps_nil, evOps_cons, opG_none, opA_move, opA_assign, opA_bin, opA_indexAddr, putO_some, putH_lt, binT_some, binA, avO_some, indexAddrT, io_lss, opS, opV, Go.Mx.look, seqK, blockK, Fr.known, retK, retA, resA, mapO, indexAddrA, mkFr, slotsOf, ptrsOf, boxesOf, orO_some, eqT_some, tk3, sz9, Try.underlying22]
    refine ⟨fun hlt => ?_, fun hge => ?_⟩
    · have hx := List.getElem?_eq_getElem hlt
      have w1 : IntKind.i64.wrap ((i : Int) + 1) = (i : Int) + 1 := wr_i64 (by omega)
      simp [ev_skip, ev_seq, ev_cond2, ev_ret, ev_region2, evOps_nil, evOps_cons, opG_none, opA_move, opA_assign, opA_bin, opA_load, putO_some, putH_lt, binT_some, binA, avO_some, loadT, io_add, strOp, opS, opV, Go.Mx.look, seqK, blockK, Fr.known, retK, retA, resA, mapO, partA, loadA, loadS, headK, getV, getB, chkP, orO_some, eqT_some, tk3, sz9, ag9, tk9, hlt, strV, w1, bl_inj]
      refine ⟨fun e => h1 (by rw [e]; exact List.getElem_mem _) i, fun e => ?_⟩
      refine ⟨l.length - (i + 1), by omega, i + 1, by omega, rfl, fun j hj2 => ?_, by simp⟩
      rcases Nat.lt_or_ge j i with h3 | h3
      · exact hj j h3
      · obtain rfl : j = i := by omega
        rw [hx]; simp; exact fun e2 => e e2.symm
    · refine h0 (fun hm => ?_)
      obtain ⟨j, hj2⟩ := List.getElem?_of_mem hm
      exact hj j (by have := (List.getElem?_eq_some_iff.1 hj2).1; omega) hj2
  · refine Sp.body [(2, ⟨[0, 1, 7, 8], [], []⟩)] ⟨[], [], []⟩ [] mo Try.func36 rfl (Nat.le_of_ble_eq_true rfl) (by kernel_rfl) ?_
    simp [ev_seq, ev_block, ev_region2, ev_loop, loopK, evOps_nil, evOps_cons, opG_none, opA_move, opA_assign, opA_len, putO_some, putH_lt, lenT_nil, opS, opV, Go.Mx.look, fr0, argSlots, seqK, mapO, headK, getV, getB, chkP, firstReg, Try.underlying22]
    refine LoopC.intro (fun n xs _ H2 => n = 0 ∧ xs = [.v (.slice none 0 0), .v (.string s), .v (.int .i64 0), .v (.int .i64 0)] ∧ H2 = H) 0 ⟨rfl, rfl, rfl⟩ ?_
    rintro n xs bs H2 ⟨rfl, rfl, rfl⟩
    simp [ev_seq, ev_cond2, ev_exit, ev_ret, ev_region2, evOps_nil, evOps_cons, opG_none, opA_assign, opA_bin, putO_some, putH_lt, condB_false, binT_some, binA, avO_some, io_lss, opS, opV, Go.Mx.look, seqK, blockK, Fr.known, retK, retA, resA, mapO, mkFr, slotsOf, ptrsOf, boxesOf, orO_some, eqT_some, tk3]
    exact h0 (by simp)
theorem contains_sp (sv : AV) (l : List ByteArray) (s : ByteArray) (H : Hp) (Q : AV → Hp → Prop) (hsv : RowS sv l) (hb : l.length ≤ 1000000) (h0 : s ∉ l → Q (.v (.bool false)) H) (h1 : s ∈ l → Q (.v (.bool true)) H) : Sp Try.prog 28 [sv, .v (.string s)] Q H := by
  refine Sp.body [] ⟨[], [], []⟩ [] mo Try.func28 rfl (Nat.le_of_ble_eq_true rfl) (by kernel_rfl) ?_
  simp [ev_seq, ev_region2, evOps_nil, evOps_cons, opG_none, opA_move, opA_assign, opA_call, putO_some, putH_lt, opS, opV, Go.Mx.look, fr0, argSlots, seqK, mapO, callA, ok36]
  refine index_sp sv l s H _ hsv hb (fun hm => ?_) (fun hm i => ?_)
  · simp [ev_ret, evOps_nil, evOps_cons, opG_none, opA_assign, opA_bin, putO_some, putH_lt, putC_lt, binT_some, binA, avO_some, io_geq, opS, opV, Go.Mx.look, seqK, retK, retA, resA, mapO, orO_some, eqT_some, tk3]
    exact h0 hm
  · have : (0 : Int) ≤ i := by omega
    simp [ev_ret, evOps_nil, evOps_cons, opG_none, opA_assign, opA_bin, putO_some, putH_lt, putC_lt, binT_some, binA, avO_some, io_geq, opS, opV, Go.Mx.look, seqK, retK, retA, resA, mapO, orO_some, eqT_some, tk3, this]
    exact h1 hm

theorem sign_sp {H : Hp} {a : Nat} {sl tl : List ByteArray} {gl : List (ByteArray × ByteArray)} {fp : List Nat} (s : ByteArray) (d : AV) (bs : List UInt8) (Q : AV → Hp → Prop) (ht : TableAt H a sl tl gl fp) (hd : BytesV d bs) (hl : gl.length ≤ 1000000) (hsl : sl.length ≤ 1000000) (hs : s.size ≤ maxLen) (hb : (tx bs).size ≤ maxLen)
    (h0 : s ∉ sl → Q (.tup [.v (.string ⟨#[]⟩), .v (.int .i64 2)]) H)
    (h1 : s ∈ sl → ∀ H', TableAt H' a sl tl (addT gl (s, tx bs)) fp → Same fp H H' → Q (.tup [.v (.string (letN (numT gl (s, tx bs)))), .v (.int .i64 0)]) H') : Sp Try.prog 12 [.ptr a 0 0, .v (.string s), d] Q H := by
  refine Sp.argW (args' := [.ptr a 0 0, .v (.string s), .row false bs.length (bs.map u8A)]) ⟨Wk.refl _, Wk.refl _, hd.wk, trivial⟩ ?_
  refine Sp.body [] ⟨[8], [], pl12⟩ tb12 mo Try.func12 rfl (Nat.le_of_ble_eq_true rfl) (by kernel_rfl) ?_
  simp [ev_seq, ev_region2, evOps_nil, evOps_cons, opG_none, opA_move, opA_assign, opA_call, putO_some, putH_lt, opS, opV, Go.Mx.look, fr0, argSlots, seqK, mapO, callA, ok26, pl12, mk_tx]
  refine made_sp _ ht ?_
  obtain ⟨sv, m1, m2, g1, h2, ⟨f, h3, h4⟩, ⟨g, h5, h6⟩, h7, rfl⟩ := ht
  simp [evOps_cons, opG_none, opG_some, opJ, opU_ff, isU_bool, opK_eq, opA_move, opA_un, opA_load, opA_fieldAddr, opA_nilCheck, opA_call, putO_some, putH_lt, putC_lt, condB_false, unT, loadT, nilCheckT, fieldAddrT, opS, opV, Go.Mx.look, Fr.known, mapO, unA, callA, partA, loadA, loadS, plusS, nilCheckS, sz22, ag22, Try.underlying52, ok28, g1]
  refine contains_sp sv sl s _ _ h2 hsl (fun hm => ?_) (fun hm => ?_)
  · simp [ev_seq, ev_cond2, ev_ret, ev_region2, evOps_nil, evOps_cons, opG_none, opG_some, opJ, opU_ff, isU_bool, opK_eq, opA_assign, opA_pick, opA_un, putO_some, putH_lt, putC_lt, condB_true, condB_false, pickT, unT, opS, opV, Go.Mx.look, seqK, Fr.known, retK, retA, resA, mapO, unA]
    exact h0 hm
  · have hlook := h5.at.look Try.underlying50 (good64 s (tx bs) hs hb) true
    rw [h6] at hlook
    by_cases hin : numT gl (s, tx bs) ≤ gl.length
    · rw [if_pos hin] at hlook
      simp [Go.Mx.valOf, sgV] at hlook
      simp [ev_skip, ev_seq, ev_cond2, ev_region2, evOps_nil, evOps_cons, opG_none, opG_some, opJ, opU_ff, isU_bool, opK_eq, opA_move, opA_assign, opA_pick, opA_un, opA_extract, opA_load, opA_fieldAddr, opA_nilCheck, opA_call, opA_alloc, opA_store, opA_convert, opA_build, putO_some, putH_lt, putC_lt, putU_none, condB_false, avO_some, pickT, unT, extractT, loadT, nilCheckT, fieldAddrT, allocT, storeT, convV, convT, buildZ, partsZ, fillO, aggO, opS, opV, Go.Mx.look, seqK, Fr.known, Fr.newBox, dropBp, mapO, unA, strOf, callA, extractA, cellsA_v, cellsA_agg, okPart_v, okPart_agg, Value.oneCell', partA, loadA, loadS, plusS, nilCheckS, fillA, newK, storeS, lookT_some, opA_lookup, ev_draw, drawK, evP_nil, evP_q, evP_s, opAt_some, chkK_eq, sameV_some, sameO_some, allQ_nil, allQ_cons, valQ_none, valS_extract, Try.underlying5, Try.underlying9, Try.underlying28, sz50, ag50, Try.underlying52, sz64, ag64, ze64, of64, ok27, mk_tx, g1, splice, hlook]
      refine letters_sp (numT gl (s, tx bs)) _ _ (by omega) ?_
      simp [ev_ret, evOps_nil, evOps_cons, opG_none, opA_assign, putO_some, putH_lt, putC_lt, opS, opV, Go.Mx.look, seqK, retK, retA, resA, mapO]
      have := h1 hm H ⟨sv, m1, m2, g1, h2, ⟨f, h3, h4⟩, ⟨g, by rw [addT, if_pos hin]; exact h5, by rw [addT, if_pos hin]; exact h6⟩, h7, rfl⟩ (Same.refl _ _)
      exact this
    · rw [if_neg hin] at hlook
      simp [Go.Mx.valOf, sgV, zero3] at hlook
      have hle := numT_le gl (s, tx bs)
      have w1 : IntKind.i64.wrap ((gl.length : Int) + 1) = (gl.length : Int) + 1 := wr_i64 (by omega)
      simp [ev_skip, ev_seq, ev_cond2, ev_region2, evOps_nil, evOps_cons, opG_none, opG_some, opJ, opU_ff, isU_bool, opK_eq, opA_move, opA_assign, opA_pick, opA_bin, opA_un, opA_extract, opA_load, opA_fieldAddr, opA_nilCheck, opA_len, opA_alloc, opA_store, opA_convert, opA_build, putO_some, putH_lt, putC_lt, putU_none, condB_true, condB_false, binT_some, binA, avO_some, pickT, unT, extractT, loadT, nilCheckT, fieldAddrT, allocT, storeT, convV, convT, buildZ, partsZ, fillO, aggO, io_add, opS, opV, Go.Mx.look, seqK, Fr.known, Fr.newBox, dropBp, unA, strOf, extractA, cellsA_v, cellsA_agg, okPart_v, okPart_agg, Value.oneCell', partA, loadA, loadS, plusS, nilCheckS, fillA, newK, storeS, orO_some, eqT_some, lookT_some, updT_some, opA_lookup, opA_upd, ev_draw, drawK, evP_nil, evP_q, evP_s, opAt_some, chkK_eq, sameV_some, sameO_some, allQ_nil, allQ_cons, valQ_none, valS_extract, tk3, Try.underlying5, Try.underlying9, Try.underlying28, sz50, ag50, Try.underlying50, Try.underlying52, sz64, ag64, ze64, of64, mk_tx, g1, splice, hlook, h5.len, w1]
      refine h5.upd Try.underlying50 (good64 s (tx bs) hs hb) (by rw [h6, if_neg hin]) (fun H' hm2 hs _ => ?_)
      have hn : numT gl (s, tx bs) = gl.length + 1 := by omega
      have ha : a ≠ m2 := fun e => by
        obtain ⟨es, c, k1, _⟩ := h5
        rw [← e, g1] at k1; simp at k1
      have hadd : addT gl (s, tx bs) = gl ++ [(s, tx bs)] := by unfold addT; rw [if_neg hin]
      have ht' : TableAt H' a sl tl (addT gl (s, tx bs)) [a, m1, m2] := ⟨sv, m1, m2, hs.2 _ _ g1 (by simpa using ha), h2, ⟨f, h3.same hs (by simpa using h7), h4⟩,
        ⟨_, by rw [hadd, List.length_append]; exact hm2, addF (V := sgV) (fun x y e => by cases x; cases y; simpa [sgV] using e) h6 hin⟩, h7, rfl⟩
      simp [ev_seq, ev_region2, evOps_cons, opG_none, opA_move, opA_call, putO_some, putH_lt, putU_none, opS, opV, Go.Mx.look, seqK, mapO, callA, evP_nil, chkK_eq, allQ_nil, ok27]
      have e1 : (gl.length : Int) + 1 = ((gl.length + 1 : Nat) : Int) := by omega
      rw [e1]
      refine letters_sp _ _ _ (by omega) ?_
      simp [ev_ret, evOps_nil, evOps_cons, opG_none, opA_assign, putO_some, putH_lt, putC_lt, opS, opV, Go.Mx.look, seqK, retK, retA, resA, mapO]
      have := h1 hm H' ht' (same_wider hs (by simp))
      rw [hn] at this
      exact this
theorem verify_sp {H : Hp} {a : Nat} {sl tl : List ByteArray} {gl : List (ByteArray × ByteArray)} {fp : List Nat} (s : ByteArray) (d : AV) (bs : List UInt8) (tok : ByteArray) (Q : AV → Hp → Prop) (ht : TableAt H a sl tl gl fp) (hd : BytesV d bs) (hl : gl.length ≤ 1000000) (hs : s.size ≤ maxLen) (hb : (tx bs).size ≤ maxLen)
    (h : Q (.v (.bool (decide (numT gl (s, tx bs) ≤ gl.length ∧ letN (numT gl (s, tx bs)) = tok)))) H) : Sp Try.prog 13 [.ptr a 0 0, .v (.string s), d, .v (.string tok)] Q H := by
  refine Sp.argW (args' := [.ptr a 0 0, .v (.string s), .row false bs.length (bs.map u8A), .v (.string tok)]) ⟨Wk.refl _, Wk.refl _, hd.wk, Wk.refl _, trivial⟩ ?_
  refine Sp.body [] ⟨[], [], pl13⟩ tb13 mo Try.func13 rfl (Nat.le_of_ble_eq_true rfl) (by kernel_rfl) ?_
  simp [ev_seq, ev_region2, evOps_nil, evOps_cons, opG_none, opA_move, opA_assign, opA_call, putO_some, putH_lt, opS, opV, Go.Mx.look, fr0, argSlots, seqK, mapO, callA, ok26, pl13]
  refine made_sp _ ht ?_
  obtain ⟨sv, m1, m2, g1, h2, ⟨f, h3, h4⟩, ⟨g, h5, h6⟩, h7, rfl⟩ := ht
  have hlook := h5.at.look Try.underlying50 (good64 s (tx bs) hs hb) true
  rw [h6] at hlook
  by_cases hin : numT gl (s, tx bs) ≤ gl.length
  · rw [if_pos hin] at hlook
    simp [Go.Mx.valOf, sgV] at hlook
    simp [ev_skip, ev_seq, ev_cond2, ev_region2, evOps_nil, evOps_cons, opG_none, opG_some, opJ, opU_ft, isU_bool, opK_eq, opA_move, opA_assign, opA_un, opA_extract, opA_load, opA_fieldAddr, opA_nilCheck, opA_call, opA_convert, opA_build, putO_some, putH_lt, putC_lt, condB_true, condB_false, avO_some, unT, extractT, loadT, nilCheckT, fieldAddrT, convV, convT, buildZ, partsZ, fillO, aggO, opS, opV, Go.Mx.look, seqK, Fr.known, mapO, unA, strOf, callA, extractA, cellsA_v, okPart_v, Value.oneCell', partA, loadA, loadS, plusS, nilCheckS, fillA, lookT_some, opA_lookup, ev_draw, drawK, evP_nil, evP_q, evP_s, opAt_some, chkK_eq, sameV_some, sameO_some, allQ_nil, allQ_cons, valQ_none, valS_extract, Try.underlying5, Try.underlying9, Try.underlying28, sz50, ag50, Try.underlying52, ze64, of64, ok27, mk_tx, g1, hlook]
    refine letters_sp _ _ _ (by omega) ?_
    simp [ev_ret, evOps_nil, evOps_cons, opG_none, opG_some, opJ, opU_ft, isU_bool, opK_eq, opA_move, opA_assign, opA_pick, opA_bin, putO_some, putH_lt, putC_lt, condB_true, binT_some, binA, avO_some, pickT, strOp, opS, opV, Go.Mx.look, seqK, Fr.known, retK, retA, resA, mapO, orO_some, eqT_some, tk9]
    by_cases e : letN (numT gl (s, tx bs)) = tok
    · simp [e, hin] at h ⊢; exact h
    · have e2 : ((letN (numT gl (s, tx bs))).toList == tok.toList) = false := by
        rw [beq_eq_false_iff_ne]
        exact fun h => e ((bl_inj _ _).mp h)
      rw [e2]
      simpa [e] using h
  · rw [if_neg hin] at hlook
    simp [Go.Mx.valOf, sgV, zero3] at hlook
    simp [ev_skip, ev_seq, ev_cond2, ev_ret, ev_region2, evOps_nil, evOps_cons, opG_none, opG_some, opJ, opU_ft, isU_bool, opA_move, opA_assign, opA_pick, opA_un, opA_extract, opA_load, opA_fieldAddr, opA_nilCheck, opA_convert, opA_build, putO_some, putH_lt, putC_lt, putV_lt, condB_false, avO_some, pickT, unT, extractT, loadT, nilCheckT, fieldAddrT, convV, convT, buildZ, partsZ, fillO, aggO, opS, opV, Go.Mx.look, seqK, Fr.known, retK, retA, resA, mapO, unA, strOf, extractA, cellsA_v, okPart_v, Value.oneCell', partA, loadA, loadS, plusS, nilCheckS, fillA, lookT_some, opA_lookup, ev_draw, drawK, evP_nil, evP_q, evP_s, opAt_some, chkK_eq, sameV_some, sameO_some, allQ_nil, allQ_cons, valQ_none, valS_extract, Try.underlying5, Try.underlying9, Try.underlying28, sz50, ag50, Try.underlying52, ze64, of64, mk_tx, g1, hlook]
    simpa [hin] using h
end Go.Proofs.Ytdgdkgfkeinhbaa
