import Derived.Test.YtpmhhbdfompbhaaFa
import Derived.Test.YtpmhhbdfompbhaaPl
import Derived.Test.YtpmhhbdfompbhaaMxSf
import Derived.Test.YtpmhhbdfompbhaaMxSb
import Derived.Test.YtpmhhbdfompbhaaMxSc
import Derived.Test.YtpmhhbdfompbhaaMxSd
import Derived.Test.YtpmhhbdfompbhaaLy
namespace Go.Proofs.Ytpmhhbdfompbhaa
open Go.Mx Go.Dag
set_option linter.unusedVariables false
set_option linter.unusedSimpArgs false

/-- Rows of whole numbers, of texts, by value. -/
def rowZ (l : List Int) : AV := .row false l.length (l.map intV)
def strV (s : ByteArray) : AV := .v (.string s)
def rowS (l : List ByteArray) : AV := .row false l.length (l.map strV)
/-- Places: nil if there are none. -/
def rowI (l : List Nat) : AV := if l = [] then .v (.slice none 0 0) else rowZ (ofN l)
theorem rowI_wk (l : List Nat) : Wk (rowI l) (rowZ (ofN l)) := by
  unfold rowI
  split
  · rename_i h; subst h; exact Wk.nil false
  · exact Wk.refl _
theorem ofN_len (l : List Nat) : (ofN l).length = l.length := by simp [ofN]
theorem ofN_inj {a b : List Nat} (h : ofN a = ofN b) : a = b := by
  unfold ofN at h
  exact (List.map_inj_right (fun x y hxy => Int.ofNat.inj hxy)).1 h

theorem bl_inj (a b : ByteArray) : (a.toList = b.toList) = (a = b) := by
  have e : ∀ b : ByteArray, b.toList = b.data.toList := fun b => ByteArray.toList_eq b
  rw [e, e, eq_iff_iff]
  exact ⟨fun h => ByteArray.ext (Array.toList_inj.1 h), fun h => by rw [h]⟩

theorem short_sp (l : List ByteArray) (H : Hp) (Q : AV → Hp → Prop) (h1 : (l.length ≤ 10 ∧ ∀ x ∈ l, x.size ≤ 100) → Q (.v (.bool true)) H) (h0 : ¬ (l.length ≤ 10 ∧ ∀ x ∈ l, x.size ≤ 100) → Q (.v (.bool false)) H) :
    Sp Try.prog 25 [rowS l] Q H := by
  refine Sp.body [(4, ⟨[0, 3], [], []⟩)] ⟨[], [], []⟩ [] mo Try.func25 rfl (Nat.le_of_ble_eq_true rfl) (by kernel_rfl) ?_
  simp [ev_skip, ev_seq, ev_cond2, ev_block, ev_ret, ev_region2, ev_loop, loopK, evOps_nil, evOps_cons, opG_none, opA_move, opA_assign, opA_bin, opA_len, putO_some, putH_lt, binT_some, binA, avO_some, lenT_row, io_gtr, opS, opV, Go.Mx.look, fr0, argSlots, seqK, Fr.known, retK, retA, resA, mapO, headK, getV, getB, chkP, firstReg, orO_some, eqT_some, tk3, Try.underlying44, rowS]
  refine ⟨fun h => h0 (fun hf => by have := hf.1; omega), fun h => ?_⟩
  refine LoopC.intro (fun n xs _ H2 => ∃ i : Nat, i ≤ l.length ∧ n = l.length - i ∧ (∀ j x, j < i → l[j]? = some x → x.size ≤ 100) ∧ xs = [rowS l, .v (.int .i64 i)] ∧ H2 = H) l.length
    ⟨0, by omega, by omega, fun j x hj => by omega, rfl, rfl⟩ ?_
  rintro n xs bs H2 ⟨i, hi, rfl, hj, rfl, rfl⟩
  simp [ev_skip, ev_seq, ev_cond2, ev_block, ev_exit, ev_ret, ev_region2, evOps_nil, evOps_cons, opG_none, opA_move, opA_assign, opA_bin, opA_indexAddr, opA_len, putO_some, putH_lt, binT_some, binA, avO_some, lenT_row, indexAddrT, io_lss, opS, opV, Go.Mx.look, seqK, blockK, Fr.known, retK, retA, resA, mapO, indexAddrA, mkFr, slotsOf, ptrsOf, boxesOf, orO_some, eqT_some, tk3, sz9, Try.underlying44, rowS]
  refine ⟨fun hlt => ?_, fun hge => ?_⟩
  · have hx := List.getElem?_eq_getElem hlt
    generalize hx2 : l[i] = x at hx
    have w1 : IntKind.i64.wrap ((i : Int) + 1) = (i : Int) + 1 := wr_i64 (by omega)
    simp [ev_skip, ev_seq, ev_cond2, ev_ret, ev_region2, evOps_nil, evOps_cons, opG_none, opA_move, opA_assign, opA_bin, opA_load, opA_len, putO_some, putH_lt, binT_some, binA, avO_some, loadT, lenT_str, io_add, io_gtr, opS, opV, Go.Mx.look, seqK, blockK, Fr.known, retK, retA, resA, mapO, partA, loadA, loadS, headK, getV, getB, chkP, orO_some, eqT_some, tk3, sz9, ag9, Try.underlying9, hx2, strV, hlt, w1]
    refine ⟨fun hb => h0 (fun hf => ?_), fun hb => ?_⟩
    · have := hf.2 x (List.mem_of_getElem? hx); omega
    · refine ⟨l.length - (i + 1), by omega, i + 1, by omega, rfl, fun j y hj2 hy => ?_, by simp⟩
      rcases Nat.lt_or_ge j i with h3 | h3
      · exact hj j y h3 hy
      · obtain rfl : j = i := by omega
        rw [hx] at hy; simp at hy; subst hy; omega
  · refine h1 ⟨by omega, fun x hx => ?_⟩
    obtain ⟨j, hj2⟩ := List.getElem?_of_mem hx
    exact hj j x (by have := (List.getElem?_eq_some_iff.1 hj2).1; omega) hj2

/-- Are two rows of whole numbers the same? -/
theorem ints_sp (a b : List Int) (H : Hp) (Q : AV → Hp → Prop) (hb : a.length ≤ 9223372036854775806) (h1 : a = b → Q (.v (.bool true)) H) (h0 : a ≠ b → Q (.v (.bool false)) H) :
    Sp Try.prog 12 [rowZ a, rowZ b] Q H := by
  refine Sp.body [(4, ⟨[0, 1, 5], [], []⟩)] ⟨[], [], pl12⟩ tb12 mo Try.func12 rfl (Nat.le_of_ble_eq_true rfl) (by kernel_rfl) ?_
  simp [ev_skip, ev_seq, ev_cond2, ev_block, ev_ret, ev_region2, ev_loop, loopK, evOps_nil, evOps_cons, opG_none, opA_move, opA_assign, opA_bin, opA_len, putO_some, putH_lt, binT_some, binA, avO_some, lenT_row, io_neq, opS, opV, Go.Mx.look, fr0, argSlots, seqK, Fr.known, retK, retA, resA, mapO, headK, getV, getB, chkP, firstReg, orO_some, eqT_some, tk3, Try.underlying30, pl12, rowZ]
  refine ⟨fun h => h0 (fun e => h (by rw [e])), fun h => ?_⟩
  refine LoopC.intro (fun n xs _ H2 => ∃ i : Nat, i ≤ a.length ∧ n = a.length - i ∧ (∀ j, j < i → a[j]? = b[j]?) ∧ xs = [rowZ a, rowZ b, .v (.int .i64 i)] ∧ H2 = H) a.length
    ⟨0, by omega, by omega, fun j hj => by omega, by simp [rowZ], rfl⟩ ?_
  rintro n xs bs H2 ⟨i, hi, rfl, hj, rfl, rfl⟩
  simp [ev_skip, ev_seq, ev_cond2, ev_block, ev_exit, ev_ret, ev_region2, evOps_nil, evOps_cons, opG_none, opA_move, opA_assign, opA_bin, opA_indexAddr, opA_len, putO_some, putH_lt, binT_some, binA, avO_some, lenT_row, indexAddrT, io_lss, opS, opV, Go.Mx.look, seqK, blockK, Fr.known, retK, retA, resA, mapO, indexAddrA, mkFr, slotsOf, ptrsOf, boxesOf, orO_some, eqT_some, ev_draw, drawK, evP_q, opAt_some, sz3, tk3, Try.underlying30, rowZ]
  refine ⟨fun hlt => ?_, fun hge => ?_⟩
  · have hlb : i < b.length := by omega
    have hx := List.getElem?_eq_getElem hlt
    have hy := List.getElem?_eq_getElem hlb
    generalize hx2 : a[i] = x at hx
    generalize hy2 : b[i] = y at hy
    have w1 : IntKind.i64.wrap ((i : Int) + 1) = (i : Int) + 1 := wr_i64 (by omega)
    simp [ev_skip, ev_seq, ev_cond2, ev_ret, ev_region2, evOps_nil, evOps_cons, opG_none, opA_move, opA_assign, opA_bin, opA_load, opA_indexAddr, putO_some, putH_lt, binT_some, binA, avO_some, loadT, indexAddrT, io_add, io_neq, opS, opV, Go.Mx.look, seqK, blockK, Fr.known, retK, retA, resA, mapO, partA, loadA, loadS, indexAddrA, headK, getV, getB, chkP, orO_some, eqT_some, evP_nil, evP_q, opAt_some, sz3, ag3, tk3, Try.underlying30, hx2, hy2, intV, hlt, hlb, w1]
    refine ⟨fun he => h0 (fun e => ?_), fun he => ?_⟩
    · subst e; rw [hx] at hy; simp at hy; exact he hy
    · refine ⟨a.length - (i + 1), by omega, i + 1, by omega, rfl, fun j hj2 => ?_, by simp⟩
      rcases Nat.lt_or_ge j i with h3 | h3
      · exact hj j h3
      · obtain rfl : j = i := by omega
        rw [hx, hy, he]
  · refine h1 (List.ext_getElem? fun j => ?_)
    rcases Nat.lt_or_ge j i with h3 | h3
    · exact hj j h3
    · rw [List.getElem?_eq_none (by omega), List.getElem?_eq_none (by omega)]

/-- Is a number one of a row? -/
theorem in_sp (x : Int) (l : List Int) (H : Hp) (Q : AV → Hp → Prop) (hb : l.length ≤ 9223372036854775806) (h1 : x ∈ l → Q (.v (.bool true)) H) (h0 : x ∉ l → Q (.v (.bool false)) H) :
    Sp Try.prog 18 [.v (.int .i64 x), rowZ l] Q H := by
  refine Sp.body [(2, ⟨[0, 1, 5], [], []⟩)] ⟨[], [], []⟩ [] mo Try.func18 rfl (Nat.le_of_ble_eq_true rfl) (by kernel_rfl) ?_
  simp [ev_seq, ev_block, ev_region2, ev_loop, loopK, evOps_nil, evOps_cons, opG_none, opA_assign, putO_some, putH_lt, opS, opV, Go.Mx.look, fr0, argSlots, seqK, mapO, headK, getV, getB, chkP, firstReg, rowZ]
  refine LoopC.intro (fun n xs _ H2 => ∃ i : Nat, i ≤ l.length ∧ n = l.length - i ∧ (∀ j y, j < i → l[j]? = some y → y ≠ x) ∧ xs = [.v (.int .i64 x), rowZ l, .v (.int .i64 i)] ∧ H2 = H) l.length
    ⟨0, by omega, by omega, fun j y hj => by omega, rfl, rfl⟩ ?_
  rintro n xs bs H2 ⟨i, hi, rfl, hj, rfl, rfl⟩
  simp [ev_skip, ev_seq, ev_cond2, ev_block, ev_exit, ev_ret, ev_region2, evOps_nil, evOps_cons, opG_none, opA_move, opA_assign, opA_bin, opA_indexAddr, opA_len, putO_some, putH_lt, binT_some, binA, avO_some, lenT_row, indexAddrT, io_lss, opS, opV, Go.Mx.look, seqK, blockK, Fr.known, retK, retA, resA, mapO, indexAddrA, mkFr, slotsOf, ptrsOf, boxesOf, orO_some, eqT_some, sz3, tk3, Try.underlying30, rowZ]
  refine ⟨fun hlt => ?_, fun hge => ?_⟩
  · have hx := List.getElem?_eq_getElem hlt
    generalize hx2 : l[i] = y at hx
    have w1 : IntKind.i64.wrap ((i : Int) + 1) = (i : Int) + 1 := wr_i64 (by omega)
    simp [ev_skip, ev_seq, ev_cond2, ev_ret, ev_region2, evOps_nil, evOps_cons, opG_none, opA_move, opA_assign, opA_bin, opA_load, putO_some, putH_lt, binT_some, binA, avO_some, loadT, io_add, io_eql, opS, opV, Go.Mx.look, seqK, blockK, Fr.known, retK, retA, resA, mapO, partA, loadA, loadS, headK, getV, getB, chkP, orO_some, eqT_some, sz3, ag3, tk3, hx2, intV, hlt, w1]
    refine ⟨fun he => h1 (by subst he; exact List.mem_of_getElem? hx), fun he => ?_⟩
    refine ⟨l.length - (i + 1), by omega, i + 1, by omega, rfl, fun j z hj2 hz => ?_, by simp⟩
    rcases Nat.lt_or_ge j i with h3 | h3
    · exact hj j z h3 hz
    · obtain rfl : j = i := by omega
      rw [hx] at hz; simp at hz; subst hz; exact he
  · refine h0 (fun hx => ?_)
    obtain ⟨j, hj2⟩ := List.getElem?_of_mem hx
    exact hj j x (by have := (List.getElem?_eq_some_iff.1 hj2).1; omega) hj2 rfl

/-- Are two rows of texts the same? -/
theorem strings_sp (a b : List ByteArray) (H : Hp) (Q : AV → Hp → Prop) (hb : a.length ≤ 9223372036854775806) (h1 : a = b → Q (.v (.bool true)) H) (h0 : a ≠ b → Q (.v (.bool false)) H) :
    Sp Try.prog 26 [rowS a, rowS b] Q H := by
  refine Sp.body [(4, ⟨[0, 1, 5], [], []⟩)] ⟨[], [], pl26⟩ tb26 mo Try.func26 rfl (Nat.le_of_ble_eq_true rfl) (by kernel_rfl) ?_
  simp [ev_skip, ev_seq, ev_cond2, ev_block, ev_ret, ev_region2, ev_loop, loopK, evOps_nil, evOps_cons, opG_none, opA_move, opA_assign, opA_bin, opA_len, putO_some, putH_lt, binT_some, binA, avO_some, lenT_row, io_neq, opS, opV, Go.Mx.look, fr0, argSlots, seqK, Fr.known, retK, retA, resA, mapO, headK, getV, getB, chkP, firstReg, orO_some, eqT_some, tk3, Try.underlying44, pl26, rowS]
  refine ⟨fun h => h0 (fun e => h (by rw [e])), fun h => ?_⟩
  refine LoopC.intro (fun n xs _ H2 => ∃ i : Nat, i ≤ a.length ∧ n = a.length - i ∧ (∀ j, j < i → a[j]? = b[j]?) ∧ xs = [rowS a, rowS b, .v (.int .i64 i)] ∧ H2 = H) a.length
    ⟨0, by omega, by omega, fun j hj => by omega, by simp [rowS], rfl⟩ ?_
  rintro n xs bs H2 ⟨i, hi, rfl, hj, rfl, rfl⟩
  simp [ev_skip, ev_seq, ev_cond2, ev_block, ev_exit, ev_ret, ev_region2, evOps_nil, evOps_cons, opG_none, opA_move, opA_assign, opA_bin, opA_indexAddr, opA_len, putO_some, putH_lt, binT_some, binA, avO_some, lenT_row, indexAddrT, io_lss, opS, opV, Go.Mx.look, seqK, blockK, Fr.known, retK, retA, resA, mapO, indexAddrA, mkFr, slotsOf, ptrsOf, boxesOf, orO_some, eqT_some, ev_draw, drawK, evP_q, opAt_some, tk3, sz9, Try.underlying44, rowS]
  refine ⟨fun hlt => ?_, fun hge => ?_⟩
  · have hlb : i < b.length := by omega
    have hx := List.getElem?_eq_getElem hlt
    have hy := List.getElem?_eq_getElem hlb
    generalize hx2 : a[i] = x at hx
    generalize hy2 : b[i] = y at hy
    have w1 : IntKind.i64.wrap ((i : Int) + 1) = (i : Int) + 1 := wr_i64 (by omega)
    simp [ev_skip, ev_seq, ev_cond2, ev_ret, ev_region2, evOps_nil, evOps_cons, opG_none, opA_move, opA_assign, opA_bin, opA_load, opA_indexAddr, putO_some, putH_lt, binT_some, binA, avO_some, loadT, indexAddrT, io_add, strOp, opS, opV, Go.Mx.look, seqK, blockK, Fr.known, retK, retA, resA, mapO, partA, loadA, loadS, indexAddrA, headK, getV, getB, chkP, orO_some, eqT_some, evP_nil, evP_q, opAt_some, tk3, sz9, ag9, tk9, Try.underlying44, hx2, hy2, strV, hlt, hlb, w1, bl_inj]
    refine ⟨fun he => h0 (fun e => ?_), fun he => ?_⟩
    · subst e; rw [hx] at hy; simp at hy; exact he hy
    · refine ⟨a.length - (i + 1), by omega, i + 1, by omega, rfl, fun j hj2 => ?_, by simp⟩
      rcases Nat.lt_or_ge j i with h3 | h3
      · exact hj j h3
      · obtain rfl : j = i := by omega
        rw [hx, hy, he]
  · refine h1 (List.ext_getElem? fun j => ?_)
    rcases Nat.lt_or_ge j i with h3 | h3
    · exact hj j h3
    · rw [List.getElem?_eq_none (by omega), List.getElem?_eq_none (by omega)]
end Go.Proofs.Ytpmhhbdfompbhaa

namespace Go.Proofs.Ytpmhhbdfompbhaa
open Go.Mx Go.Dag
set_option linter.unusedVariables false
set_option linter.unusedSimpArgs false

def boolV (b : Bool) : AV := .v (.bool b)
def rowB (l : List Bool) : AV := .row false l.length (l.map boolV)
/-- A slice of places, new: nil, or an object of its own. -/
def Ns (H H' : Hp) (l : List Nat) (v : AV) : Prop := NewR H H' ((ofN l).map intV) v ∧ Same [] H H'
theorem Ns.of {H H' : Hp} {l : List Nat} {v : AV} (h : OutG H ((ofN l).map intV) v H') : Ns H H' l v := by
  rcases h with ⟨h1, h2, rfl⟩ | ⟨h1, ver, h2, rfl⟩
  · exact ⟨.inl ⟨h1, h2⟩, Same.refl _ _⟩
  · exact ⟨.inr ⟨h1, H.length, ver, [], h2, by simp, Nat.le_refl _⟩, Same.app _ _ _⟩
theorem low_ints (l : List Int) : ∀ c ∈ l.map intV, Low 0 c := by
  intro c hc
  obtain ⟨x, _, rfl⟩ := List.mem_map.1 hc
  exact .v _
/-- The result is new places: by value. -/
theorem Sp.places {f : Nat} {args : List AV} {Q : AV → Hp → Prop} {H : Hp} {l : List Nat} (h : Sp Try.prog f args (fun v H' => Ns H H' l v ∧ Q (rowI l) H) H) : Sp Try.prog f args Q H := by
  refine Sp.newRow (cs := (ofN l).map intV) (low_ints _) (h.mono fun v H' ⟨⟨h1, h2⟩, h3⟩ => ⟨h2, h1, ?_⟩)
  unfold rowI at h3
  by_cases hl : l = []
  · subst hl; simpa [ofN] using h3
  · rw [if_neg hl] at h3
    rw [if_neg (by simpa [ofN] using hl)]
    simpa [rowZ] using h3

theorem whereN_succ (n : Nat) (p : Nat → Bool) : whereN (n + 1) p = whereN n p ++ (if p n = true then [n] else []) := by
  unfold whereN
  rw [List.range_succ, List.filter_append]
  by_cases h : p n = true <;> simp [h]
theorem whereN_congr {n : Nat} {p q : Nat → Bool} (h : ∀ i, i < n → p i = q i) : whereN n p = whereN n q := by
  unfold whereN
  exact List.filter_congr (fun i hi => h i (List.mem_range.1 hi))

theorem where_sp (id ver : Nat) (bl : List Bool) (H : Hp) (Q : AV → Hp → Prop) (hid : H[id]? = some (.cells ver (bl.map boolV))) (hb : bl.length ≤ 1000000)
    (h : ∀ v H', OutG H ((ofN (whereN bl.length (fun i => bl.getD i false))).map intV) v H' → Q v H') : Sp Try.prog 36 [.sl id ver 1 0 bl.length] Q H := by
  refine Sp.body [(3, ⟨[0, 3, 4], [], []⟩)] ⟨[], [], []⟩ [] mo Try.func36 rfl (Nat.le_of_ble_eq_true rfl) (by kernel_rfl) ?_
  simp [ev_seq, ev_block, ev_region2, ev_loop, loopK, evOps_nil, evOps_cons, opG_none, opA_assign, putO_some, putH_lt, opS, opV, Go.Mx.look, fr0, argSlots, seqK, mapO, headK, getV, getB, chkP, firstReg]
  refine LoopC.intro (fun n xs _ H2 => ∃ (i : Nat) (v : AV), i ≤ bl.length ∧ n = bl.length - i ∧ xs = [.sl id ver 1 0 bl.length, v, .v (.int .i64 i)] ∧ OutG H ((ofN (whereN i (fun i => bl.getD i false))).map intV) v H2) bl.length
    ⟨0, _, by omega, rfl, rfl, .inl ⟨rfl, rfl, rfl⟩⟩ ?_
  rintro n xs bx H2 ⟨i, v, hi, rfl, rfl, hO⟩
  obtain ⟨G, hG⟩ := hO.grown
  have hid2 : H2[id]? = some (.cells ver (bl.map boolV)) := by rw [hG, List.getElem?_append_left (Hp.lt hid)]; exact hid
  simp [ev_skip, ev_seq, ev_cond2, ev_block, ev_exit, ev_ret, ev_region2, evOps_nil, evOps_cons, opG_none, opA_move, opA_assign, opA_bin, opA_indexAddr, opA_len, putO_some, putH_lt, binT_some, binA, avO_some, lenT_sl, indexAddrT, io_lss, opS, opV, Go.Mx.look, seqK, blockK, Fr.known, retK, retA, resA, mapO, indexAddrA, mkFr, slotsOf, ptrsOf, boxesOf, orO_some, eqT_some, tk3, sz4, Try.underlying23]
  refine ⟨fun hlt => ?_, fun hge => ?_⟩
  · have hx := List.getElem?_eq_getElem hlt
    generalize hx2 : bl[i] = b at hx
    have w1 : IntKind.i64.wrap ((i : Int) + 1) = (i : Int) + 1 := wr_i64 (by omega)
    have hg : bl.getD i false = b := by rw [List.getD_eq_getElem?_getD, hx]; rfl
    have hwl := whereN_len i (fun i => bl.getD i false)
    have hwl2 := whereN_len i (fun i => bl[i]?.getD false)
    cases b with
    | true =>
      simp [ev_cond2, ev_region2, evOps_nil, evOps_cons, opG_none, opA_move, opA_load, opA_buildSlice, opA_append, putO_some, putH_lt, condB_true, loadT, buildSliceT, appendT, opS, opV, Go.Mx.look, seqK, Fr.known, mapO, cellsA_v, okPart_v, Value.oneCell', partA, loadA, loadS, fillA, bindO, srcTy, sz3, by3, ze3, sz4, ag4, st30, Try.underlying30, hid2, hx2, boolV, hlt]
      refine appA_out hO (by simp [ofN]; omega) (fun v' H3 hO' => ?_)
      simp [ev_region2, evOps_nil, evOps_cons, opG_none, opA_move, opA_assign, opA_bin, putO_some, putH_lt, putC_lt, binT_some, binA, avO_some, io_add, opS, opV, Go.Mx.look, seqK, blockK, mapO, headK, getV, getB, chkP, orO_some, eqT_some, tk3, w1]
      refine ⟨bl.length - (i + 1), by omega, i + 1, by omega, rfl, v', ⟨rfl, rfl⟩, ?_⟩
      rw [whereN_succ]
      have hg2 : bl[i]?.getD false = true := by rw [hx]; rfl
      simpa [hg2, ofN, intV] using hO'
    | false =>
      simp [ev_skip, ev_cond2, ev_region2, evOps_nil, evOps_cons, opG_none, opA_move, opA_assign, opA_bin, opA_load, putO_some, putH_lt, condB_false, binT_some, binA, avO_some, loadT, io_add, opS, opV, Go.Mx.look, seqK, blockK, Fr.known, mapO, partA, loadA, loadS, headK, getV, getB, chkP, orO_some, eqT_some, tk3, sz4, ag4, hid2, hx2, boolV, hlt, w1]
      refine ⟨bl.length - (i + 1), by omega, i + 1, by omega, rfl, v, ⟨rfl, rfl⟩, ?_⟩
      rw [whereN_succ]
      have hg2 : bl[i]?.getD false = false := by rw [hx]; rfl
      simpa [hg2] using hO
  · have : i = bl.length := by omega
    subst this
    exact h _ _ hO

/-! ### The program's graph -/
def thC (t : Th) : List AV := [strV t.name, rowI t.prev, rowI t.auth]
theorem thC_len (t : Th) : (thC t).length = 3 := rfl
/-- A slice of things. -/
def TsAt (H : Hp) (tv : AV) (L : List Th) : Prop := (L = [] ∧ tv = .v (.slice none 0 0)) ∨ ∃ t ver, tv = .sl t ver 3 0 L.length ∧ H[t]? = some (.cells ver (L.flatMap thC)) ∧ L ≠ []
/-- What a graph's map tells. -/
def fK (L : List Th) : AV → Option AV
  | .v (.string s) => (placeN L s).map (fun i => intV i)
  | _ => none
def MpAt (H : Hp) (mv : AV) (L : List Th) : Prop := (L = [] ∧ mv = .v (.map none)) ∨ ∃ m, mv = .mp m ∧ MapAt Try.prog 9 H m (fK L)
/-- A graph: nil, or a pointer to things and a map. -/
def GrV (H : Hp) (gv : AV) (L : List Th) : Prop := (gv = .v (.pointer none) ∧ L = []) ∨ ∃ g tv mv, gv = .ptr g 0 0 ∧ H[g]? = some (.cells 0 [tv, mv]) ∧ TsAt H tv L ∧ MpAt H mv L
theorem TsAt.same {H H' : Hp} {tv : AV} {L : List Th} {fp : List Nat} (h : TsAt H tv L) (hs : Same fp H H') (hf : ∀ t ver, tv = .sl t ver 3 0 L.length → t ∉ fp) : TsAt H' tv L := by
  rcases h with h | ⟨t, ver, h1, h2, h3⟩
  · exact .inl h
  · exact .inr ⟨t, ver, h1, hs.2 _ _ h2 (hf t ver h1), h3⟩
theorem MpAt.same {H H' : Hp} {mv : AV} {L : List Th} {fp : List Nat} (h : MpAt H mv L) (hs : Same fp H H') (hf : ∀ m, mv = .mp m → m ∉ fp) : MpAt H' mv L := by
  rcases h with h | ⟨m, h1, h2⟩
  · exact .inl h
  · exact .inr ⟨m, h1, h2.same hs (hf m h1)⟩
theorem GrV.same {H H' : Hp} {gv : AV} {L : List Th} (h : GrV H gv L) (hs : Same [] H H') : GrV H' gv L := by
  rcases h with h | ⟨g, tv, mv, h1, h2, h3, h4⟩
  · exact .inl h
  · exact .inr ⟨g, tv, mv, h1, hs.2 _ _ h2 (by simp), h3.same hs (by simp), h4.same hs (by simp)⟩

@[simp] theorem okPart_rowI (l : List Nat) : okPart (rowI l) = true := by unfold rowI; split <;> rfl
@[simp] theorem cellsA_rowI (l : List Nat) : cellsA (rowI l) = [rowI l] := by unfold rowI; split <;> rfl

theorem len_sp (gv : AV) (L : List Th) (H : Hp) (Q : AV → Hp → Prop) (hg : GrV H gv L) (h : Q (.v (.int .i64 L.length)) H) : Sp Try.prog 17 [gv] Q H := by
  refine Sp.body [] ⟨[], [], []⟩ [] mo Try.func17 rfl (Nat.le_of_ble_eq_true rfl) (by kernel_rfl) ?_
  rcases hg with ⟨rfl, rfl⟩ | ⟨g, tv, mv, rfl, h2, h3, h4⟩
  · simp [ev_seq, ev_cond2, ev_ret, ev_region2, evOps_nil, evOps_cons, opG_none, opA_move, opA_assign, opA_bin, putO_some, putH_lt, condB_true, binT_some, binA, eqRef, avO_some, opS, opV, Go.Mx.look, fr0, argSlots, seqK, Fr.known, retK, retA, resA, mapO, orO_some, eqT_some, tk25]
    exact h
  · rcases h3 with ⟨rfl, rfl⟩ | ⟨t, ver, rfl, h5, h6⟩
    · simp [ev_skip, ev_seq, ev_cond2, ev_ret, ev_region2, evOps_nil, evOps_cons, opG_none, opA_move, opA_assign, opA_bin, opA_load, opA_fieldAddr, opA_nilCheck, opA_len, putO_some, putH_lt, condB_false, binT_some, binA, eqRef, avO_some, loadT, nilCheckT, lenT_nil, fieldAddrT, opS, opV, Go.Mx.look, fr0, argSlots, seqK, Fr.known, retK, retA, resA, mapO, partA, loadA, loadS, plusS, nilCheckS, orO_some, eqT_some, tk25, sz59, ag59, Try.underlying59, Try.underlying62, h2]
      exact h
    · simp [ev_skip, ev_seq, ev_cond2, ev_ret, ev_region2, evOps_nil, evOps_cons, opG_none, opA_move, opA_assign, opA_bin, opA_load, opA_fieldAddr, opA_nilCheck, opA_len, putO_some, putH_lt, condB_false, binT_some, binA, eqRef, avO_some, loadT, nilCheckT, lenT_sl, fieldAddrT, opS, opV, Go.Mx.look, fr0, argSlots, seqK, Fr.known, retK, retA, resA, mapO, partA, loadA, loadS, plusS, nilCheckS, orO_some, eqT_some, tk25, sz59, ag59, Try.underlying59, Try.underlying62, h2]
      exact h

/-- A thing's cells; the zero thing's, if there is none. -/
def atC (L : List Th) (i : Int) : List AV := match (if 0 ≤ i then L[i.toNat]? else none) with
  | some t => thC t
  | none => [strV ⟨#[]⟩, .v (.slice none 0 0), .v (.slice none 0 0)]
theorem at_sp (gv : AV) (L : List Th) (i : Int) (H : Hp) (Q : AV → Hp → Prop) (hg : GrV H gv L) (h : Q (.agg (atC L i)) H) : Sp Try.prog 40 [gv, .v (.int .i64 i)] Q H := by
  refine Sp.body [] ⟨[4], [], []⟩ [] mo Try.func40 rfl (Nat.le_of_ble_eq_true rfl) (by kernel_rfl) ?_
  simp [ev_seq, ev_cond2, ev_ret, ev_region2, evOps_nil, evOps_cons, opG_none, opG_some, opJ, opU_ff, isU_bool, opK_eq, opA_move, opA_pick, opA_bin, opA_call, opA_alloc, opA_store, opA_build, putO_some, putH_lt, putU_none, putV_lt, condB_true, condB_false, binT_some, binA, avO_some, pickT, allocT, storeT, buildZ, partsZ, fillO, aggO, io_lss, opS, opV, Go.Mx.look, fr0, argSlots, seqK, Fr.known, Fr.newBox, dropBp, retK, retA, resA, mapO, callA, cellsA_agg, okPart_agg, partA, loadS, fillA, newK, storeS, orO_some, eqT_some, tk3, sz69, ag69, ze69, of69, ok17]
  refine ⟨fun hneg => ?_, fun hpos => ?_⟩
  · have e : atC L i = [strV ⟨#[]⟩, .v (.slice none 0 0), .v (.slice none 0 0)] := by unfold atC; rw [if_neg (by omega)]
    rw [e] at h
    simpa [ev_skip, ev_seq, ev_cond2, ev_block, ev_exit, ev_ret, ev_region2, ev_loop, loopK, evOps_nil, evOps_cons, opG_none, opG_some, opJ, opU_true, opU_ft, opU_ff, isU_undef, isU_bool, valU_true, valU_false, opK_eq, opA_move, opA_assign, opA_pick, opA_bin, opA_un, opA_extract, opA_field, opA_load, opA_index, opA_indexAddr, opA_fieldAddr, opA_nilCheck, opA_len, opA_call, opA_max, opA_min, opA_alloc, opA_box, opA_store, opA_buildSlice, opA_makeSlice, opA_append, opA_copy, opA_convert, opA_makeMap, opA_slice, opA_makeFunc, opA_build, putO_some, putH_lt, putH_none, putC_lt, putC_none, putU_lt, putU_none, putV_lt, putV_none, condB_true, condB_false, CondP_true, CondP_false, binT_some, binA_int, binA_str, binA_eqb, binA_neb, binA, eqRef, avO_some, avO_none, avOf, pickT_true, pickT_false, pickT, unT, extractT, loadT, nilCheckT, lenT_str, lenT_row, lenT_sl, lenT_nil, lenT_arr, lenT_mp, lenT_nomp, maxT, minT, maxA, minA, fieldT, fieldAddrT, indexT, indexAddrT, allocT, boxT, storeT, buildSliceT, makeSliceT, appendT, copyT, convV, convT, makeMapT, bndT, sliceT, fnT, bytesOf_nil, bytesOf_one, repeatL_0, repeatL_1, repeatL_2, repeatL_3, repeatL_4, buildZ, partsZ, fillO, aggO, io_add, io_sub, io_mul, io_quo, io_rem, io_shl, io_shr, io_and, io_or, io_xor, io_eql, io_neq, io_lss, io_leq, io_gtr, io_geq, strOp, opS_tmp, opS_const, opV_tmp, opV_const, opS, opV, look_eq, look_ne, Go.Mx.look, fr0, argSlots, seqK_n, seqK_r, seqK_e, seqK, blockK_n, blockK_r, blockK, Fr.known, Fr.newBox, dropBp, retK, retA, resA, mapO, unA, convInt, convStr, strOf, callA, extractA, lenM, cellsA_v, cellsA_agg, cellsA_row, cellsA_sl, cellsA_ptr, cellsA_rp, cellsA_mp, cellsA_fn, okPart_v, okPart_agg, okPart_row, okPart_sl, okPart_ptr, okPart_rp, okPart_mp, okPart_fn, Value.oneCell', fieldA, partA, loadA, loadS, plusS, indexAddrA, indexArrA, nilCheckS, sliceA, sliceArr, fillA, newK, storeS, headK, getV, getB, chkP, mkFr, slotsOf, ptrsOf, boxesOf, firstReg, bindO, makeA, appA, copyA, srcA, srcTy, okPart_u8, cellsA_u8, Cond_iff, orO_some, orO_none, eqT_some, opA_entry, entryT_some, lookT_some, updT_some, delT_some, clearT_some, rangeT_some, nextT_some, makeMapH, opA_lookup, opA_makeMap2, opA_upd, opA_delete, opA_clear, opA_range, opA_next, valS_lookup, ev_draw, drawK, evP_nil, evP_q, evP_s, opAt_some, chkK_eq, sameV_some, sameO_some, allQ_nil, allQ_cons, valG_some, valJ, valQ_none, valQ_some, valS_move, valS_pick, valS_bin, valS_un, valS_extract, valS_field, valS_load, valS_index, valS_indexAddr, valS_fieldAddr, valS_nilCheck, valS_len, valS_max, valS_min, valS_slice, valS_convert, valS_makeFunc, valS_build, sz3, ag3, tk3, by3, ze3, Try.underlying3, sz4, ag4, tk4, by4, ze4, Try.underlying4, sz5, ag5, tk5, by5, ze5, Try.underlying5, sz9, ag9, tk9, st9, by9, ze9, Try.underlying9, sz22, ag22, tk22, st22, by22, ze22, Try.underlying22, sz23, ag23, tk23, st23, by23, ze23, Try.underlying23, sz25, ag25, tk25, by25, ze25, Try.underlying25, sz26, ag26, tk26, by26, ze26, Try.underlying26, sz30, ag30, tk30, st30, by30, ze30, Try.underlying30, sz38, ag38, tk38, by38, ze38, Try.underlying38, sz42, ag42, tk42, by42, ze42, Try.underlying42, sz44, ag44, tk44, st44, by44, ze44, Try.underlying44, sz46, ag46, tk46, by46, ze46, of46, Try.underlying46, sz50, ag50, tk50, st50, by50, ze50, Try.underlying50, sz52, ag52, tk52, by52, ze52, of52, Try.underlying52, sz54, ag54, tk54, by54, ze54, of54, Try.underlying54, sz59, ag59, tk59, st59, by59, ze59, Try.underlying59, sz60, ag60, tk60, by60, ze60, Try.underlying60, sz62, ag62, tk62, by62, ze62, of62, Try.underlying62, sz69, ag69, tk69, by69, ze69, of69, Try.underlying69, sz72, ag72, tk72, by72, ze72, Try.underlying72, mo, ok3, ok4, ok5, ok6, ok7, ok8, ok9, ok10, ok11, ok12, ok13, ok14, ok15, ok16, ok17, ok18, ok19, ok20, ok21, ok22, ok23, ok24, ok25, ok26, ok27, ok28, ok29, ok30, ok31, ok32, ok33, ok34, ok35, ok36, ok37, ok38, ok39, ok40, ok41, ok42, ok43, ok44, pl5, pl7, pl8, pl11, pl12, pl23, pl26, pl28, pl43, splice, strV] using h
  · refine len_sp gv L H _ hg ?_
    simp [ev_skip, ev_seq, ev_cond2, ev_ret, ev_region2, evOps_nil, evOps_cons, opG_none, opG_some, opJ, opU_ff, isU_bool, opK_eq, opA_move, opA_pick, opA_bin, opA_nilCheck, opA_store, opA_build, putO_some, putH_lt, putC_lt, putU_none, condB_false, binT_some, binA, avO_some, pickT, nilCheckT, storeT, buildZ, partsZ, fillO, aggO, io_geq, opS, opV, Go.Mx.look, seqK, Fr.known, retK, retA, resA, mapO, cellsA_agg, okPart_agg, partA, loadS, nilCheckS, fillA, storeS, orO_some, eqT_some, tk3, sz69, ag69, ze69, of69]
    refine ⟨fun hge => ?_, fun hlt => ?_⟩
    · have e : atC L i = [strV ⟨#[]⟩, .v (.slice none 0 0), .v (.slice none 0 0)] := by
        unfold atC; rw [if_pos (by omega), List.getElem?_eq_none (by omega)]
      rw [e] at h
      simpa [ev_skip, ev_seq, ev_cond2, ev_block, ev_exit, ev_ret, ev_region2, ev_loop, loopK, evOps_nil, evOps_cons, opG_none, opG_some, opJ, opU_true, opU_ft, opU_ff, isU_undef, isU_bool, valU_true, valU_false, opK_eq, opA_move, opA_assign, opA_pick, opA_bin, opA_un, opA_extract, opA_field, opA_load, opA_index, opA_indexAddr, opA_fieldAddr, opA_nilCheck, opA_len, opA_call, opA_max, opA_min, opA_alloc, opA_box, opA_store, opA_buildSlice, opA_makeSlice, opA_append, opA_copy, opA_convert, opA_makeMap, opA_slice, opA_makeFunc, opA_build, putO_some, putH_lt, putH_none, putC_lt, putC_none, putU_lt, putU_none, putV_lt, putV_none, condB_true, condB_false, CondP_true, CondP_false, binT_some, binA_int, binA_str, binA_eqb, binA_neb, binA, eqRef, avO_some, avO_none, avOf, pickT_true, pickT_false, pickT, unT, extractT, loadT, nilCheckT, lenT_str, lenT_row, lenT_sl, lenT_nil, lenT_arr, lenT_mp, lenT_nomp, maxT, minT, maxA, minA, fieldT, fieldAddrT, indexT, indexAddrT, allocT, boxT, storeT, buildSliceT, makeSliceT, appendT, copyT, convV, convT, makeMapT, bndT, sliceT, fnT, bytesOf_nil, bytesOf_one, repeatL_0, repeatL_1, repeatL_2, repeatL_3, repeatL_4, buildZ, partsZ, fillO, aggO, io_add, io_sub, io_mul, io_quo, io_rem, io_shl, io_shr, io_and, io_or, io_xor, io_eql, io_neq, io_lss, io_leq, io_gtr, io_geq, strOp, opS_tmp, opS_const, opV_tmp, opV_const, opS, opV, look_eq, look_ne, Go.Mx.look, fr0, argSlots, seqK_n, seqK_r, seqK_e, seqK, blockK_n, blockK_r, blockK, Fr.known, Fr.newBox, dropBp, retK, retA, resA, mapO, unA, convInt, convStr, strOf, callA, extractA, lenM, cellsA_v, cellsA_agg, cellsA_row, cellsA_sl, cellsA_ptr, cellsA_rp, cellsA_mp, cellsA_fn, okPart_v, okPart_agg, okPart_row, okPart_sl, okPart_ptr, okPart_rp, okPart_mp, okPart_fn, Value.oneCell', fieldA, partA, loadA, loadS, plusS, indexAddrA, indexArrA, nilCheckS, sliceA, sliceArr, fillA, newK, storeS, headK, getV, getB, chkP, mkFr, slotsOf, ptrsOf, boxesOf, firstReg, bindO, makeA, appA, copyA, srcA, srcTy, okPart_u8, cellsA_u8, Cond_iff, orO_some, orO_none, eqT_some, opA_entry, entryT_some, lookT_some, updT_some, delT_some, clearT_some, rangeT_some, nextT_some, makeMapH, opA_lookup, opA_makeMap2, opA_upd, opA_delete, opA_clear, opA_range, opA_next, valS_lookup, ev_draw, drawK, evP_nil, evP_q, evP_s, opAt_some, chkK_eq, sameV_some, sameO_some, allQ_nil, allQ_cons, valG_some, valJ, valQ_none, valQ_some, valS_move, valS_pick, valS_bin, valS_un, valS_extract, valS_field, valS_load, valS_index, valS_indexAddr, valS_fieldAddr, valS_nilCheck, valS_len, valS_max, valS_min, valS_slice, valS_convert, valS_makeFunc, valS_build, sz3, ag3, tk3, by3, ze3, Try.underlying3, sz4, ag4, tk4, by4, ze4, Try.underlying4, sz5, ag5, tk5, by5, ze5, Try.underlying5, sz9, ag9, tk9, st9, by9, ze9, Try.underlying9, sz22, ag22, tk22, st22, by22, ze22, Try.underlying22, sz23, ag23, tk23, st23, by23, ze23, Try.underlying23, sz25, ag25, tk25, by25, ze25, Try.underlying25, sz26, ag26, tk26, by26, ze26, Try.underlying26, sz30, ag30, tk30, st30, by30, ze30, Try.underlying30, sz38, ag38, tk38, by38, ze38, Try.underlying38, sz42, ag42, tk42, by42, ze42, Try.underlying42, sz44, ag44, tk44, st44, by44, ze44, Try.underlying44, sz46, ag46, tk46, by46, ze46, of46, Try.underlying46, sz50, ag50, tk50, st50, by50, ze50, Try.underlying50, sz52, ag52, tk52, by52, ze52, of52, Try.underlying52, sz54, ag54, tk54, by54, ze54, of54, Try.underlying54, sz59, ag59, tk59, st59, by59, ze59, Try.underlying59, sz60, ag60, tk60, by60, ze60, Try.underlying60, sz62, ag62, tk62, by62, ze62, of62, Try.underlying62, sz69, ag69, tk69, by69, ze69, of69, Try.underlying69, sz72, ag72, tk72, by72, ze72, Try.underlying72, mo, ok3, ok4, ok5, ok6, ok7, ok8, ok9, ok10, ok11, ok12, ok13, ok14, ok15, ok16, ok17, ok18, ok19, ok20, ok21, ok22, ok23, ok24, ok25, ok26, ok27, ok28, ok29, ok30, ok31, ok32, ok33, ok34, ok35, ok36, ok37, ok38, ok39, ok40, ok41, ok42, ok43, ok44, pl5, pl7, pl8, pl11, pl12, pl23, pl26, pl28, pl43, splice, strV] using h
    · obtain ⟨i, rfl⟩ := Int.eq_ofNat_of_zero_le (show 0 ≤ i by omega)
      have hi : i < L.length := by omega
      obtain ⟨t, ht⟩ : ∃ t, L[i]? = some t := ⟨_, List.getElem?_eq_getElem hi⟩
      have e : atC L (i : Int) = thC t := by unfold atC; rw [if_pos (by omega), Int.toNat_natCast, ht]
      rw [e] at h
      rcases hg with ⟨rfl, rfl⟩ | ⟨g, tv, mv, rfl, h2, h3, h4⟩
      · simp at hi
      · rcases h3 with ⟨rfl, rfl⟩ | ⟨t', ver, rfl, h5, h6⟩
        · simp at hi
        · have hs := flat_sub thC_len L i ht
          have hle := flat_le2 thC_len ht
          simp [evOps_cons, opG_none, opA_move, opA_load, opA_indexAddr, opA_fieldAddr, putO_some, putH_lt, loadT, fieldAddrT, indexAddrT, opS, opV, Go.Mx.look, partA, loadA, loadS, plusS, indexAddrA, sz59, ag59, Try.underlying59, Try.underlying62, sz69, ag69, h2, h5, hi, hs]
          rw [if_pos hle]
          simpa [ev_skip, ev_seq, ev_cond2, ev_block, ev_exit, ev_ret, ev_region2, ev_loop, loopK, evOps_nil, evOps_cons, opG_none, opG_some, opJ, opU_true, opU_ft, opU_ff, isU_undef, isU_bool, valU_true, valU_false, opK_eq, opA_move, opA_assign, opA_pick, opA_bin, opA_un, opA_extract, opA_field, opA_load, opA_index, opA_indexAddr, opA_fieldAddr, opA_nilCheck, opA_len, opA_call, opA_max, opA_min, opA_alloc, opA_box, opA_store, opA_buildSlice, opA_makeSlice, opA_append, opA_copy, opA_convert, opA_makeMap, opA_slice, opA_makeFunc, opA_build, putO_some, putH_lt, putH_none, putC_lt, putC_none, putU_lt, putU_none, putV_lt, putV_none, condB_true, condB_false, CondP_true, CondP_false, binT_some, binA_int, binA_str, binA_eqb, binA_neb, binA, eqRef, avO_some, avO_none, avOf, pickT_true, pickT_false, pickT, unT, extractT, loadT, nilCheckT, lenT_str, lenT_row, lenT_sl, lenT_nil, lenT_arr, lenT_mp, lenT_nomp, maxT, minT, maxA, minA, fieldT, fieldAddrT, indexT, indexAddrT, allocT, boxT, storeT, buildSliceT, makeSliceT, appendT, copyT, convV, convT, makeMapT, bndT, sliceT, fnT, bytesOf_nil, bytesOf_one, repeatL_0, repeatL_1, repeatL_2, repeatL_3, repeatL_4, buildZ, partsZ, fillO, aggO, io_add, io_sub, io_mul, io_quo, io_rem, io_shl, io_shr, io_and, io_or, io_xor, io_eql, io_neq, io_lss, io_leq, io_gtr, io_geq, strOp, opS_tmp, opS_const, opV_tmp, opV_const, opS, opV, look_eq, look_ne, Go.Mx.look, fr0, argSlots, seqK_n, seqK_r, seqK_e, seqK, blockK_n, blockK_r, blockK, Fr.known, Fr.newBox, dropBp, retK, retA, resA, mapO, unA, convInt, convStr, strOf, callA, extractA, lenM, cellsA_v, cellsA_agg, cellsA_row, cellsA_sl, cellsA_ptr, cellsA_rp, cellsA_mp, cellsA_fn, okPart_v, okPart_agg, okPart_row, okPart_sl, okPart_ptr, okPart_rp, okPart_mp, okPart_fn, Value.oneCell', fieldA, partA, loadA, loadS, plusS, indexAddrA, indexArrA, nilCheckS, sliceA, sliceArr, fillA, newK, storeS, headK, getV, getB, chkP, mkFr, slotsOf, ptrsOf, boxesOf, firstReg, bindO, makeA, appA, copyA, srcA, srcTy, okPart_u8, cellsA_u8, Cond_iff, orO_some, orO_none, eqT_some, opA_entry, entryT_some, lookT_some, updT_some, delT_some, clearT_some, rangeT_some, nextT_some, makeMapH, opA_lookup, opA_makeMap2, opA_upd, opA_delete, opA_clear, opA_range, opA_next, valS_lookup, ev_draw, drawK, evP_nil, evP_q, evP_s, opAt_some, chkK_eq, sameV_some, sameO_some, allQ_nil, allQ_cons, valG_some, valJ, valQ_none, valQ_some, valS_move, valS_pick, valS_bin, valS_un, valS_extract, valS_field, valS_load, valS_index, valS_indexAddr, valS_fieldAddr, valS_nilCheck, valS_len, valS_max, valS_min, valS_slice, valS_convert, valS_makeFunc, valS_build, sz3, ag3, tk3, by3, ze3, Try.underlying3, sz4, ag4, tk4, by4, ze4, Try.underlying4, sz5, ag5, tk5, by5, ze5, Try.underlying5, sz9, ag9, tk9, st9, by9, ze9, Try.underlying9, sz22, ag22, tk22, st22, by22, ze22, Try.underlying22, sz23, ag23, tk23, st23, by23, ze23, Try.underlying23, sz25, ag25, tk25, by25, ze25, Try.underlying25, sz26, ag26, tk26, by26, ze26, Try.underlying26, sz30, ag30, tk30, st30, by30, ze30, Try.underlying30, sz38, ag38, tk38, by38, ze38, Try.underlying38, sz42, ag42, tk42, by42, ze42, Try.underlying42, sz44, ag44, tk44, st44, by44, ze44, Try.underlying44, sz46, ag46, tk46, by46, ze46, of46, Try.underlying46, sz50, ag50, tk50, st50, by50, ze50, Try.underlying50, sz52, ag52, tk52, by52, ze52, of52, Try.underlying52, sz54, ag54, tk54, by54, ze54, of54, Try.underlying54, sz59, ag59, tk59, st59, by59, ze59, Try.underlying59, sz60, ag60, tk60, by60, ze60, Try.underlying60, sz62, ag62, tk62, by62, ze62, of62, Try.underlying62, sz69, ag69, tk69, by69, ze69, of69, Try.underlying69, sz72, ag72, tk72, by72, ze72, Try.underlying72, mo, ok3, ok4, ok5, ok6, ok7, ok8, ok9, ok10, ok11, ok12, ok13, ok14, ok15, ok16, ok17, ok18, ok19, ok20, ok21, ok22, ok23, ok24, ok25, ok26, ok27, ok28, ok29, ok30, ok31, ok32, ok33, ok34, ok35, ok36, ok37, ok38, ok39, ok40, ok41, ok42, ok43, ok44, pl5, pl7, pl8, pl11, pl12, pl23, pl26, pl28, pl43, splice, thC] using h

theorem atC_prev (L : List Th) (i : Int) : (atC L i)[1]? = some (rowI (edgeZ L false i)) := by
  unfold atC edgeZ edge
  split
  · rename_i t h
    split at h
    · rw [if_pos (by assumption), h]; rfl
    · simp at h
  · rename_i h
    split at h
    · rw [if_pos (by assumption), h]; rfl
    · rw [if_neg (by assumption)]; rfl
theorem atC_auth (L : List Th) (i : Int) : (atC L i)[2]? = some (rowI (edgeZ L true i)) := by
  unfold atC edgeZ edge
  split
  · rename_i t h
    split at h
    · rw [if_pos (by assumption), h]; rfl
    · simp at h
  · rename_i h
    split at h
    · rw [if_pos (by assumption), h]; rfl
    · rw [if_neg (by assumption)]; rfl
def nameZ (L : List Th) (i : Int) : ByteArray := match (if 0 ≤ i then L[i.toNat]? else none) with
  | some t => t.name
  | none => ⟨#[]⟩
theorem atC_name (L : List Th) (i : Int) : (atC L i)[0]? = some (strV (nameZ L i)) := by
  unfold atC nameZ
  split <;> rfl
theorem atC_0 (L : List Th) (i : Int) (h : 0 < (atC L i).length) : (atC L i)[0] = strV (nameZ L i) := by
  have e := atC_name L i
  rw [List.getElem?_eq_getElem h] at e
  simpa using e
theorem atC_1 (L : List Th) (i : Int) (h : 1 < (atC L i).length) : (atC L i)[1] = rowI (edgeZ L false i) := by
  have e := atC_prev L i
  rw [List.getElem?_eq_getElem h] at e
  simpa using e
theorem atC_2 (L : List Th) (i : Int) (h : 2 < (atC L i).length) : (atC L i)[2] = rowI (edgeZ L true i) := by
  have e := atC_auth L i
  rw [List.getElem?_eq_getElem h] at e
  simpa using e
theorem atC_len (L : List Th) (i : Int) : (atC L i).length = 3 := by unfold atC; split <;> rfl

theorem name_sp (gv : AV) (L : List Th) (i : Int) (H : Hp) (Q : AV → Hp → Prop) (hg : GrV H gv L) (h : Q (strV (nameZ L i)) H) : Sp Try.prog 29 [gv, .v (.int .i64 i)] Q H := by
  refine Sp.body [] ⟨[], [], []⟩ [] mo Try.func29 rfl (Nat.le_of_ble_eq_true rfl) (by kernel_rfl) ?_
  simp [ev_seq, ev_region2, evOps_nil, evOps_cons, opG_none, opA_move, opA_assign, opA_call, putO_some, putH_lt, opS, opV, Go.Mx.look, fr0, argSlots, seqK, mapO, callA, ok40]
  refine at_sp gv L i H _ hg ?_
  simp [ev_ret, evOps_nil, evOps_cons, opG_none, opA_assign, opA_field, putO_some, putH_lt, putC_lt, fieldT, opS, opV, Go.Mx.look, seqK, retK, retA, resA, mapO, fieldA, partA, sz9, ag9, Try.underlying69, atC_len, atC_0]
  exact h
theorem prev_sp (gv : AV) (L : List Th) (i : Int) (H : Hp) (Q : AV → Hp → Prop) (hg : GrV H gv L) (h : Q (rowI (edgeZ L false i)) H) : Sp Try.prog 33 [gv, .v (.int .i64 i)] Q H := by
  refine Sp.body [] ⟨[], [], []⟩ [] mo Try.func33 rfl (Nat.le_of_ble_eq_true rfl) (by kernel_rfl) ?_
  simp [ev_seq, ev_region2, evOps_nil, evOps_cons, opG_none, opA_move, opA_assign, opA_call, putO_some, putH_lt, opS, opV, Go.Mx.look, fr0, argSlots, seqK, mapO, callA, ok40]
  refine at_sp gv L i H _ hg ?_
  simp [ev_ret, evOps_nil, evOps_cons, opG_none, opA_assign, opA_field, putO_some, putH_lt, putC_lt, fieldT, opS, opV, Go.Mx.look, seqK, retK, retA, resA, mapO, fieldA, partA, sz30, ag30, Try.underlying69, atC_len, atC_1]
  exact h
theorem auth_sp (gv : AV) (L : List Th) (i : Int) (H : Hp) (Q : AV → Hp → Prop) (hg : GrV H gv L) (h : Q (rowI (edgeZ L true i)) H) : Sp Try.prog 37 [gv, .v (.int .i64 i)] Q H := by
  refine Sp.body [] ⟨[], [], []⟩ [] mo Try.func37 rfl (Nat.le_of_ble_eq_true rfl) (by kernel_rfl) ?_
  simp [ev_seq, ev_region2, evOps_nil, evOps_cons, opG_none, opA_move, opA_assign, opA_call, putO_some, putH_lt, opS, opV, Go.Mx.look, fr0, argSlots, seqK, mapO, callA, ok40]
  refine at_sp gv L i H _ hg ?_
  simp [ev_ret, evOps_nil, evOps_cons, opG_none, opA_assign, opA_field, putO_some, putH_lt, putC_lt, fieldT, opS, opV, Go.Mx.look, seqK, retK, retA, resA, mapO, fieldA, partA, sz30, ag30, Try.underlying69, atC_len, atC_2]
  exact h
end Go.Proofs.Ytpmhhbdfompbhaa

namespace Go.Proofs.Ytpmhhbdfompbhaa
open Go.Mx Go.Dag
set_option linter.unusedVariables false
set_option linter.unusedSimpArgs false

theorem low_intN (l : List Nat) : ∀ c ∈ (ofN l).map intV, Low 0 c := low_ints _
theorem rowI_eq (l : List Nat) : (if (ofN l).map intV = [] then AV.v (.slice none 0 0) else .row false ((ofN l).map intV).length ((ofN l).map intV)) = rowI l := by
  unfold rowI
  by_cases h : l = []
  · subst h; simp [ofN]
  · rw [if_neg (by simpa [ofN] using h), if_neg h]; simp [rowZ]
theorem rowI_cons (i : Nat) (l : List Nat) : rowI (i :: l) = .row false (l.length + 1) ((ofN (i :: l)).map intV) := by
  unfold rowI
  rw [if_neg (by simp)]
  simp [rowZ, ofN]

theorem clone_sp (l : List Nat) (H : Hp) (Q : AV → Hp → Prop) (hb : l.length ≤ 1000000) (h : ∀ v H', Ns H H' l v → Q v H') : Sp Try.prog 35 [rowI l] Q H := by
  refine Sp.body [] ⟨[], [], []⟩ [] mo Try.func35 rfl (Nat.le_of_ble_eq_true rfl) (by kernel_rfl) ?_
  cases l with
  | nil =>
    have e : rowI [] = .v (.slice none 0 0) := rfl
    rw [e]
    simp [ev_seq, ev_cond2, ev_ret, ev_region2, evOps_nil, evOps_cons, opG_none, opA_move, opA_assign, opA_bin, putO_some, putH_lt, condB_true, binT_some, binA, eqRef, avO_some, opS, opV, Go.Mx.look, fr0, argSlots, seqK, Fr.known, retK, retA, resA, mapO, orO_some, eqT_some, tk30]
    exact h _ _ ⟨.inl ⟨rfl, rfl⟩, Same.refl _ _⟩
  | cons i l =>
    rw [rowI_cons]
    simp at hb
    have hz : (ofN (i :: l)).length = l.length + 1 := by simp [ofN]
    simp [ev_skip, ev_seq, ev_cond2, ev_ret, ev_region2, evOps_nil, evOps_cons, opG_none, opA_move, opA_assign, opA_bin, opA_buildSlice, opA_append, putO_some, putH_lt, putC_lt, condB_false, binT_some, binA, eqRef, avO_some, buildSliceT, appendT, opS, opV, Go.Mx.look, fr0, argSlots, seqK, Fr.known, retK, retA, resA, mapO, fillA, bindO, appA, srcA, srcTy, orO_some, eqT_some, sz3, by3, ze3, tk30, st30, Try.underlying30, hz]
    refine ⟨by omega, h _ _ ⟨.inr ⟨by simp [ofN], H.length, 0, [], ?_, ?_, Nat.le_refl _⟩, Same.app _ _ _⟩⟩
    · simp [ofN]
    · simp
theorem cloneZ_sp (x : Int) (l : List Int) (H : Hp) (Q : AV → Hp → Prop) (hb : l.length ≤ 1000000) (h : Q (.sl H.length 0 1 0 (l.length + 1)) (H ++ [.cells 0 ((x :: l).map intV)])) : Sp Try.prog 35 [rowZ (x :: l)] Q H := by
  refine Sp.body [] ⟨[], [], []⟩ [] mo Try.func35 rfl (Nat.le_of_ble_eq_true rfl) (by kernel_rfl) ?_
  simp [ev_skip, ev_seq, ev_cond2, ev_ret, ev_region2, evOps_nil, evOps_cons, opG_none, opA_move, opA_assign, opA_bin, opA_buildSlice, opA_append, putO_some, putH_lt, putC_lt, condB_false, binT_some, binA, eqRef, avO_some, buildSliceT, appendT, opS, opV, Go.Mx.look, fr0, argSlots, seqK, Fr.known, retK, retA, resA, mapO, fillA, bindO, appA, srcA, srcTy, orO_some, eqT_some, sz3, by3, ze3, tk30, st30, Try.underlying30, rowZ]
  exact ⟨by omega, by simpa using h⟩

theorem prevs_sp (gv : AV) (L : List Th) (i : Int) (H : Hp) (Q : AV → Hp → Prop) (hg : GrV H gv L) (hb : (edgeZ L false i).length ≤ 1000000) (h : ∀ v H', Ns H H' (edgeZ L false i) v → Q v H') : Sp Try.prog 19 [gv, .v (.int .i64 i)] Q H := by
  refine Sp.body [] ⟨[], [], []⟩ [] mo Try.func19 rfl (Nat.le_of_ble_eq_true rfl) (by kernel_rfl) ?_
  simp [ev_seq, ev_region2, evOps_nil, evOps_cons, opG_none, opA_move, opA_assign, opA_call, putO_some, putH_lt, opS, opV, Go.Mx.look, fr0, argSlots, seqK, mapO, callA, ok33]
  refine prev_sp gv L i H _ hg ?_
  simp [evOps_cons, opG_none, opA_call, putC_lt, opS, opV, Go.Mx.look, mapO, callA, ok35]
  refine clone_sp _ _ _ hb (fun v H' hn => ?_)
  simp [ev_ret, evOps_nil, evOps_cons, opG_none, opA_assign, putO_some, putH_lt, putC_lt, opS, opV, Go.Mx.look, seqK, retK, retA, resA, mapO]
  exact h _ _ hn
theorem auths_sp (gv : AV) (L : List Th) (i : Int) (H : Hp) (Q : AV → Hp → Prop) (hg : GrV H gv L) (hb : (edgeZ L true i).length ≤ 1000000) (h : ∀ v H', Ns H H' (edgeZ L true i) v → Q v H') : Sp Try.prog 24 [gv, .v (.int .i64 i)] Q H := by
  refine Sp.body [] ⟨[], [], []⟩ [] mo Try.func24 rfl (Nat.le_of_ble_eq_true rfl) (by kernel_rfl) ?_
  simp [ev_seq, ev_region2, evOps_nil, evOps_cons, opG_none, opA_move, opA_assign, opA_call, putO_some, putH_lt, opS, opV, Go.Mx.look, fr0, argSlots, seqK, mapO, callA, ok37]
  refine auth_sp gv L i H _ hg ?_
  simp [evOps_cons, opG_none, opA_call, putC_lt, opS, opV, Go.Mx.look, mapO, callA, ok35]
  refine clone_sp _ _ _ hb (fun v H' hn => ?_)
  simp [ev_ret, evOps_nil, evOps_cons, opG_none, opA_assign, putO_some, putH_lt, putC_lt, opS, opV, Go.Mx.look, seqK, retK, retA, resA, mapO]
  exact h _ _ hn

/-- What a look-up of a place tells. -/
def placeV (o : Option Nat) : AV := .tup [.v (.int .i64 (o.getD 0 : Nat)), .v (.bool o.isSome)]
theorem look_str {H : Hp} {mv : AV} {L : List Th} (hm : MpAt H mv L) (s : ByteArray) : lookV Try.prog H 60 mv (strV s) true = some (placeV (placeN L s)) := by
  rcases hm with ⟨rfl, rfl⟩ | ⟨m, rfl, hm⟩
  · show lookV Try.prog H 60 (.v (.map none)) (.v (.string s)) true = _
    rw [nil_look Try.underlying60 (KGood.str Try.underlying9 s)]
    rfl
  · show lookV Try.prog H 60 (.mp m) (.v (.string s)) true = _
    rw [hm.look Try.underlying60 (KGood.str Try.underlying9 s)]
    have e : fK L (.v (.string s)) = (placeN L s).map (fun i => intV i) := rfl
    rw [e]
    cases placeN L s <;> rfl

theorem place_sp (gv : AV) (L : List Th) (s : ByteArray) (H : Hp) (Q : AV → Hp → Prop) (hg : GrV H gv L) (h : Q (placeV (placeN L s)) H) : Sp Try.prog 30 [gv, strV s] Q H := by
  refine Sp.body [] ⟨[], [], []⟩ [] mo Try.func30 rfl (Nat.le_of_ble_eq_true rfl) (by kernel_rfl) ?_
  rcases hg with ⟨rfl, rfl⟩ | ⟨g, tv, mv, rfl, h2, h3, h4⟩
  · simp [ev_seq, ev_cond2, ev_ret, ev_region2, evOps_nil, evOps_cons, opG_none, opA_move, opA_assign, opA_bin, putO_some, putH_lt, condB_true, binT_some, binA, eqRef, avO_some, opS, opV, Go.Mx.look, fr0, argSlots, seqK, Fr.known, retK, retA, resA, mapO, orO_some, eqT_some, tk25]
    exact h
  · have hl := look_str h4 s
    simp [ev_skip, ev_seq, ev_cond2, ev_ret, ev_region2, evOps_nil, evOps_cons, opG_none, opA_move, opA_assign, opA_bin, opA_extract, opA_load, opA_fieldAddr, opA_nilCheck, putO_some, putH_lt, condB_false, binT_some, binA, eqRef, avO_some, extractT, loadT, nilCheckT, fieldAddrT, opS, opV, Go.Mx.look, fr0, argSlots, seqK, Fr.known, retK, retA, resA, mapO, extractA, partA, loadA, loadS, plusS, nilCheckS, orO_some, eqT_some, lookT_some, opA_lookup, tk25, sz60, ag60, Try.underlying62, h2, hl, placeV]
    exact h

theorem places_nil (L : List Th) (s : ByteArray) (names : List ByteArray) (h : placeN L s = none) : found L (names ++ [s]) = false := by
  simp [found, h]
theorem find_sp (g : Nat) (tv : AV) (m : Nat) (L : List Th) (names : List ByteArray) (H : Hp) (Q : AV → Hp → Prop) (hg : H[g]? = some (.cells 0 [tv, .mp m])) (hm : MapAt Try.prog 9 H m (fK L)) (hb : names.length ≤ 1000000)
    (h1 : found L names = true → Q (.tup [rowI (places L names), .v (.bool true)]) H) (h0 : found L names = false → Q (.tup [.v (.slice none 0 0), .v (.bool false)]) H) : Sp Try.prog 38 [.ptr g 0 0, rowS names] Q H := by
  refine Sp.newRowT (Sp.body [(3, ⟨[0, 6, 11, 12, 13], [], []⟩)] ⟨[], [], []⟩ [] mo Try.func38 rfl (Nat.le_of_ble_eq_true rfl) (by kernel_rfl) ?_)
  simp [ev_seq, ev_block, ev_region2, ev_loop, loopK, evOps_nil, evOps_cons, opG_none, opA_move, opA_assign, opA_len, putO_some, putH_lt, lenT_row, opS, opV, Go.Mx.look, fr0, argSlots, seqK, mapO, headK, getV, getB, chkP, firstReg, Try.underlying44, rowS]
  refine LoopC.intro (fun n xs _ H2 => ∃ (i : Nat) (v : AV) (O : List Nat), i ≤ names.length ∧ n = names.length - i ∧ xs = [.ptr g 0 0, v, rowS names, .v (.int .i64 names.length), .v (.int .i64 i)] ∧ OutG H ((ofN O).map intV) v H2 ∧
      (names.take i).map (placeN L) = O.map some) names.length
    ⟨0, _, [], by omega, by omega, rfl, .inl ⟨rfl, rfl, rfl⟩, rfl⟩ ?_
  rintro n xs bx H2 ⟨i, v, O, hi, rfl, rfl, hO, hP⟩
  obtain ⟨G, hG⟩ := hO.grown
  have hs : Same [] H H2 := by rw [hG]; exact Same.app _ _ _
  have hg2 := hs.2 _ _ hg (by simp)
  have hm2 := hm.same hs (by simp)
  have hOl : O.length = i := by have := congrArg List.length hP; simp at this; omega
  simp [ev_skip, ev_seq, ev_cond2, ev_block, ev_exit, ev_region2, evOps_nil, evOps_cons, opG_none, opA_move, opA_bin, opA_indexAddr, opA_call, putO_some, putH_lt, binT_some, binA, avO_some, indexAddrT, io_lss, opS, opV, Go.Mx.look, seqK, blockK, Fr.known, mapO, callA, indexAddrA, mkFr, slotsOf, ptrsOf, boxesOf, orO_some, eqT_some, tk3, sz9, Try.underlying44, ok42, rowS]
  refine ⟨fun hlt => ?_, fun hge => ?_⟩
  · have hx := List.getElem?_eq_getElem hlt
    generalize hx2 : names[i] = x at hx
    have hl := look_str (.inr ⟨m, rfl, hm2⟩) x
    have w1 : IntKind.i64.wrap ((i : Int) + 1) = (i : Int) + 1 := wr_i64 (by omega)
    have ht : names.take (i + 1) = names.take i ++ [x] := by rw [List.take_add_one, hx]; rfl
    simp only [strV] at hl
    cases hp : placeN L x with
    | none =>
      rw [hp] at hl
      simp [ev_seq, ev_cond2, ev_ret, ev_region2, evOps_nil, evOps_cons, opG_none, opA_move, opA_assign, opA_un, opA_extract, opA_load, opA_fieldAddr, opA_nilCheck, putO_some, putH_lt, condB_true, avO_some, unT, extractT, loadT, nilCheckT, fieldAddrT, opS, opV, Go.Mx.look, seqK, blockK, Fr.known, retK, retA, resA, mapO, unA, extractA, partA, loadA, loadS, plusS, nilCheckS, lookT_some, opA_lookup, sz9, ag9, sz60, ag60, Try.underlying62, hx2, strV, hlt, hg2, hl, placeV]
      refine NewT.mk [] hs (.inl ⟨rfl, rfl⟩) (by simp) (by simp) ?_
      simp
      refine h0 ?_
      simp [found]
      exact ⟨x, List.mem_of_getElem? hx, hp⟩
    | some k =>
      rw [hp] at hl
      simp [ev_skip, ev_seq, ev_cond2, ev_region2, evOps_nil, evOps_cons, opG_none, opA_move, opA_assign, opA_un, opA_extract, opA_load, opA_fieldAddr, opA_nilCheck, opA_buildSlice, opA_append, putO_some, putH_lt, condB_false, avO_some, unT, extractT, loadT, nilCheckT, fieldAddrT, buildSliceT, appendT, opS, opV, Go.Mx.look, seqK, Fr.known, mapO, unA, extractA, cellsA_v, okPart_v, Value.oneCell', partA, loadA, loadS, plusS, nilCheckS, fillA, bindO, srcTy, lookT_some, opA_lookup, sz3, by3, ze3, sz9, ag9, st30, Try.underlying30, sz60, ag60, Try.underlying62, hx2, strV, hlt, hg2, hl, placeV]
      refine appA_out hO (by simp [ofN]; omega) (fun v' H3 hO' => ?_)
      simp [ev_region2, evOps_nil, evOps_cons, opG_none, opA_move, opA_assign, opA_bin, putO_some, putH_lt, putC_lt, binT_some, binA, avO_some, io_add, opS, opV, Go.Mx.look, seqK, blockK, mapO, headK, getV, getB, chkP, orO_some, eqT_some, tk3, w1]
      refine ⟨names.length - (i + 1), by omega, i + 1, by omega, rfl, v', ⟨rfl, rfl⟩, O ++ [k], by simpa [ofN, intV] using hO', ?_⟩
      rw [← List.map_take, ht, List.map_append, hP]
      simp [hp]
  · have hi2 : i = names.length := by omega
    subst hi2
    rw [List.take_length] at hP
    have hf : found L names = true := by
      simp only [found, List.all_eq_true]
      intro x hx
      have : placeN L x ∈ names.map (placeN L) := List.mem_map.2 ⟨x, hx, rfl⟩
      rw [hP] at this
      obtain ⟨k, _, hk⟩ := List.mem_map.1 this
      rw [← hk]; rfl
    have hmem : ∀ k, k ∈ O ↔ k < L.length ∧ (fun i => names.any (fun nm => decide (placeN L nm = some i))) k = true := by
      intro k
      have h2 := mem_places (L := L) (names := names) (i := k)
      unfold places at h2
      rw [mem_whereN] at h2
      rw [h2]
      constructor
      · intro hk
        have : some k ∈ O.map some := List.mem_map.2 ⟨k, hk, rfl⟩
        rw [← hP] at this
        obtain ⟨x, hx, hxe⟩ := List.mem_map.1 this
        exact ⟨x, hx, hxe⟩
      · rintro ⟨x, hx, hxe⟩
        have : some k ∈ names.map (placeN L) := List.mem_map.2 ⟨x, hx, hxe⟩
        rw [hP] at this
        obtain ⟨y, hy, hye⟩ := List.mem_map.1 this
        simp at hye; subst hye; exact hy
    have hsc := sort_compact hmem
    have hpl : whereN L.length (fun i => names.any (fun nm => decide (placeN L nm = some i))) = places L names := rfl
    rw [hpl] at hsc
    rcases hO with ⟨h2, rfl, rfl⟩ | ⟨h2, ver, rfl, rfl⟩
    · have hO0 : O = [] := by simpa [ofN] using h2
      subst hO0
      simp
      refine Sp.sortNil lays189 ?_
      simp [ev_seq, ev_region2, evOps_nil, evOps_cons, opG_none, opA_move, opA_call, putO_some, putH_lt, putC_lt, opS, opV, Go.Mx.look, seqK, mapO, callA, ok43]
      refine Sp.compactNil lays20 ?_
      simp [ev_ret, evOps_nil, evOps_cons, opG_none, opA_assign, putO_some, putH_lt, putC_lt, opS, opV, Go.Mx.look, seqK, retK, retA, resA, mapO]
      refine NewT.mk [] (Same.refl _ _) (.inl ⟨rfl, rfl⟩) (by simp) (by simp) ?_
      have e : places L names = [] := by
        have : ofN (places L names) = [] := by
          rw [← hsc]
          exact List.length_eq_zero_iff.1 (Nat.le_zero.1 (Nat.le_trans (compact_len _) (by simp [srt, ofN])))
        simpa [ofN] using this
      have h3 := h1 hf
      rw [e] at h3
      simpa [rowI] using h3
    · have hz : ((ofN O).map intV).length = (ofN O).length := by simp
      simp
      have hid : (H ++ [Ob.cells ver ((ofN O).map intV)])[H.length]? = some (.cells ver ((ofN O).map intV)) := by simp
      have hlen : O.length = (ofN O).length := by simp [ofN]
      refine Sp.sortInts lays189 hid (by simp) (fun j x hj => by simp [hj]) (by rw [← hlen]; omega) ?_
      have hset : (H ++ [Ob.cells ver ((ofN O).map intV)]).set H.length (Ob.cells ver (splice ((ofN O).map intV) 0 ((sortI (ofN O)).map intV))) = H ++ [.cells ver ((sortI (ofN O)).map intV)] := by
        simp [splice, sortI_len]
      rw [hset]
      simp [ev_seq, ev_region2, evOps_nil, evOps_cons, opG_none, opA_move, opA_call, putO_some, putH_lt, putC_lt, opS, opV, Go.Mx.look, seqK, mapO, callA, ok43]
      have hid2 : (H ++ [Ob.cells ver ((sortI (ofN O)).map intV)])[H.length]? = some (.cells ver ((sortI (ofN O)).map intV)) := by simp
      have hlen2 : (ofN O).length = (sortI (ofN O)).length := (sortI_len _).symm
      rw [hlen2]
      refine Sp.compactInts lays20 hid2 (by simp) (fun j x hj => by simp [hj]) (by rw [← hlen2, ← hlen]; omega) ?_
      have e5 : Lib.compact (sortI (ofN O)) = ofN (places L names) := hsc
      rw [e5]
      simp [ev_ret, evOps_nil, evOps_cons, opG_none, opA_assign, putO_some, putH_lt, putC_lt, opS, opV, Go.Mx.look, seqK, retK, retA, resA, mapO]
      have hne : places L names ≠ [] := by
        intro e
        rw [e] at e5
        have hO1 : O ≠ [] := by intro e6; subst e6; simp [ofN] at h2
        obtain ⟨a, ha⟩ := List.exists_mem_of_ne_nil O hO1
        have : (a : Int) ∈ Lib.compact (sortI (ofN O)) := compact_sup (mem_srt.2 (mem_ofN.2 ⟨a, ha, rfl⟩))
        rw [e5] at this; simp [ofN] at this
      have hcl : (Lib.compact (sortI (ofN O))).length ≤ (sortI (ofN O)).length := compact_len _
      rw [e5] at hcl
      refine NewT.mk ((ofN (places L names)).map intV) (Same.app _ _ _) (.inr ⟨by simpa [ofN] using hne, H.length, ver, (List.replicate ((sortI (ofN O)).length - (ofN (places L names)).length) 0).map intV, by simp, ?_, Nat.le_refl _⟩) (low_intN _) (by simp) ?_
      · simp [splice]
        omega
      · rw [rowI_eq]; exact h1 hf
end Go.Proofs.Ytpmhhbdfompbhaa

namespace Go.Proofs.Ytpmhhbdfompbhaa
open Go.Mx Go.Dag
set_option linter.unusedVariables false
set_option linter.unusedSimpArgs false

/-- What is left to do: nothing, or the front of an object of its own. -/
def TdAt (H : Hp) (T : List Int) (v : AV) (lo : Nat) : Prop := (T = [] ∧ v = .row false 0 []) ∨ ∃ id ver tl, v = .sl id ver 1 0 T.length ∧ H[id]? = some (.cells ver (T.map intV ++ tl)) ∧ lo ≤ id
theorem cloneT_sp (l : List Int) (H : Hp) (Q : AV → Hp → Prop) (hb : l.length ≤ 1000000) (h : ∀ v H', TdAt H' l v H.length → Same [] H H' → Q v H') : Sp Try.prog 35 [rowZ l] Q H := by
  cases l with
  | nil => exact Sp.cloneEmpty lays15 (h _ _ (.inl ⟨rfl, rfl⟩) (Same.refl _ _))
  | cons x l => exact cloneZ_sp x l H Q (by simp at hb; omega) (h _ _ (.inr ⟨H.length, 0, [], by simp, by simp, Nat.le_refl _⟩) (Same.app _ _ _))
theorem td_app {H : Hp} {T : List Int} {id ver : Nat} {tl : List AV} {z : Int} {K : AV → Hp → Prop} (hid : H[id]? = some (.cells ver (T.map intV ++ tl))) (hb : T.length + 1 ≤ 1000000)
    (h : K (.sl id (ver + 1) 1 0 (T.length + 1)) (H.set id (.cells (ver + 1) ((T ++ [z]).map intV)))) : appA H 1 8 (.sl id ver 1 0 T.length) (.row true 1 [.v (.int .i64 z)]) K := by
  simp [appA, srcA, hid]
  exact ⟨by omega, by simpa [intV] using h⟩

/-- What the map of what was seen tells. -/
def fS (S : List Nat) : AV → Option AV
  | .v (.int .i64 x) => if x ∈ ofN S then some (boolV true) else none
  | _ => none
theorem fS_some {S : List Nat} {k v : AV} (h : fS S k = some v) : ∃ i ∈ S, k = intV i ∧ v = boolV true := by
  unfold fS at h
  split at h
  · split at h
    · rename_i x hx
      obtain ⟨i, hi, rfl⟩ := mem_ofN.1 hx
      simp at h
      exact ⟨i, hi, rfl, h.symm⟩
    · simp at h
  · simp at h
theorem fS_at (S : List Nat) (i : Nat) : fS S (intV i) = if i ∈ S then some (boolV true) else none := by
  have e : ((i : Int) ∈ ofN S) = (i ∈ S) := by
    rw [eq_iff_iff, mem_ofN]
    exact ⟨fun ⟨j, hj, h⟩ => by have : j = i := by omega
                                subst this; exact hj, fun h => ⟨i, h, rfl⟩⟩
  simp only [fS, intV, e]
open Classical in
theorem fS_add (S : List Nat) (i : Nat) : (fun x => if x = intV i then some (boolV true) else fS S x) = fS (S ++ [i]) := by
  funext x
  by_cases hx : x = intV i
  · rw [if_pos hx, hx, fS_at, if_pos (by simp)]
  · rw [if_neg hx]
    unfold fS
    split
    · rename_i z
      have hz : z ≠ (i : Int) := fun e => hx (by rw [e]; rfl)
      have : (z ∈ ofN (S ++ [i])) = (z ∈ ofN S) := by
        rw [eq_iff_iff]
        simp only [ofN, List.map_append, List.mem_append]
        simp [hz]
      simp only [this]
    · rfl
theorem look_seen {H : Hp} {m : Nat} {S : List Nat} (hm : MapAt Try.prog 3 H m (fS S)) (i : Nat) : lookV Try.prog H 72 (.mp m) (.v (.int .i64 i)) false = some (boolV (decide (i ∈ S))) := by
  rw [hm.look Try.underlying72 (KGood.int Try.underlying3 _)]
  have e := fS_at S i
  unfold intV at e
  rw [e]
  by_cases hi : i ∈ S
  · simp [hi, Go.Mx.valOf]
  · simp [hi]; rfl

theorem prevZ_sp (gv : AV) (L : List Th) (i : Int) (H : Hp) (Q : AV → Hp → Prop) (hg : GrV H gv L) (h : Q (rowZ (ofN (edgeZ L false i))) H) : Sp Try.prog 33 [gv, .v (.int .i64 i)] Q H :=
  Sp.weak (prev_sp gv L i H _ hg ⟨_, rowI_wk _, h⟩)
theorem authZ_sp (gv : AV) (L : List Th) (i : Int) (H : Hp) (Q : AV → Hp → Prop) (hg : GrV H gv L) (h : Q (rowZ (ofN (edgeZ L true i))) H) : Sp Try.prog 37 [gv, .v (.int .i64 i)] Q H :=
  Sp.weak (auth_sp gv L i H _ hg ⟨_, rowI_wk _, h⟩)

theorem pastL_of {L : List Th} {au : Bool} {l : List Int} {S O : List Nat} (hG : Dag.Good L) (hS : Srch L au l S [] (fun _ => False)) (hn : O.Nodup) (hO : ∀ i, i ∈ O ↔ i ∈ S) : sortI (ofN O) = ofN (pastL L au l) := by
  refine sort_nodup hn (fun i => ?_)
  rw [hO, hS.fin hG]
  exact ⟨fun h => ⟨past_lt hG h, h⟩, fun h => h.2⟩

/-- The walk of what was seen. -/
def RgInv (H : Hp) (it : Nat) (S : List Nat) (N n : Nat) (xs : List AV) (H5 : Hp) : Prop :=
  ∃ O v, xs = [v, .it it] ∧ IterAt Try.prog 3 H5 it H.length (fS S) N ((ofN O).map intV) ∧ NewR H H5 ((ofN O).map intV) v ∧ Same [] H H5 ∧ n = N - O.length ∧ O.length ≤ N
/-- The search. -/
def SrInv (fE : Nat) (gv : AV) (L : List Th) (au : Bool) (l : List Int) (H : Hp) (n : Nat) (xs : List AV) (H3 : Hp) : Prop :=
  ∃ S T v, xs = [.fn (.func fE) [gv] [], .mp H.length, v] ∧ TdAt H3 T v H.length ∧ MapAt Try.prog 3 H3 H.length (fS S) ∧ Same [] H H3 ∧ Srch L au l S T (fun _ => False) ∧ n = T.length + (L.length - S.length) ∧ n ≤ l.length + L.length
/-- .. of one place's edges. -/
def EgInv (fE : Nat) (gv : AV) (L : List Th) (au : Bool) (l : List Int) (H : Hp) (id : Nat) (x : Int) (N n : Nat) (xs : List AV) (H4 : Hp) : Prop :=
  ∃ (j : Nat) (S2 : List Nat) (T2 : List Int) (ver2 : Nat) (tl2 : List AV), j ≤ (edgeZ L au x).length ∧ n = (edgeZ L au x).length - j ∧
        xs = [.fn (.func fE) [gv] [], .mp H.length, .sl id ver2 1 0 T2.length, rowZ (ofN (edgeZ L au x)), .v (.int .i64 (edgeZ L au x).length), .v (.int .i64 j)] ∧
        H4[id]? = some (.cells ver2 (T2.map intV ++ tl2)) ∧ MapAt Try.prog 3 H4 H.length (fS S2) ∧ Same [] H H4 ∧ Srch L au l S2 T2 (fun y => y = x) ∧ (x ∈ l ∨ x ∈ ofN S2) ∧ (∀ k ∈ (edgeZ L au x).take j, k ∈ S2) ∧
        T2.length + (L.length - S2.length) ≤ N
set_option maxHeartbeats 4000000 in
theorem reach_sp (fE : Nat) (au : Bool) (gw gv : AV) (L : List Th) (hG : Dag.Good L) (l : List Int) (H : Hp) (Q : AV → Hp → Prop) (hok : bodyOk Try.prog fE = true)
    (hE : ∀ (x : Int) H1 Q1, Same [] H H1 → Q1 (rowZ (ofN (edgeZ L au x))) H1 → Sp Try.prog fE [gv, .v (.int .i64 x)] Q1 H1) (hL : L.length ≤ 100000) (hl : l.length ≤ 100000)
    (h : ∀ v H', Ns H H' (pastL L au l) v → Q v H') : Sp Try.prog 34 [gw, rowZ l, .fn (.func fE) [gv] []] Q H := by
  refine Sp.body [(3, ⟨[2, 7, 8], [], []⟩), (7, ⟨[2, 7, 8, 33, 34, 35], [], []⟩), (15, ⟨[12, 51], [], []⟩)] ⟨[], [], []⟩ [] mo Try.func34 rfl (Nat.le_of_ble_eq_true rfl) (by kernel_rfl) ?_
  simp [ev_seq, ev_region2, evOps_nil, evOps_cons, opG_none, opA_move, opA_assign, opA_call, opA_makeMap, putO_some, putH_lt, makeMapT, opS, opV, Go.Mx.look, fr0, argSlots, seqK, mapO, callA, Try.underlying72, ok35]
  have hm0 := MapAt.new Try.prog 3 H
  have hm1 : MapAt Try.prog 3 (H ++ [.map [] 0]) H.length (fS []) := by
    have e : fS [] = fun _ => none := by funext x; unfold fS; split <;> simp [ofN]
    rw [e]; exact hm0
  have hs1 : Same [] H (H ++ [.map [] 0]) := Same.app _ _ _
  generalize H ++ [Ob.map [] 0] = H1 at hm1 hs1
  refine cloneT_sp l H1 _ (by omega) (fun v H2 ht hs2 => ?_)
  simp [ev_seq, ev_block, ev_loop, loopK, evOps_nil, evOps_cons, opG_none, opA_assign, putO_some, putH_lt, putC_lt, opS, opV, Go.Mx.look, seqK, mapO, headK, getV, getB, chkP, firstReg]
  refine LoopC.intro (fun n xs _ H3 => SrInv fE gv L au l H n xs H3) (l.length + L.length)
    ⟨[], l, v, rfl, ?_, hm1.same hs2 (by simp), hs1.trans hs2 (by simp), Srch.start L au l, by simp, Nat.le_refl _⟩ ?_
  · rcases ht with ht | ⟨id, ver, tl, h1, h2, h3⟩
    · exact .inl ht
    · exact .inr ⟨id, ver, tl, h1, h2, Nat.le_trans hs1.1 h3⟩
  clear ht hs2 hm1 hs1 hm0 v H2 H1
  rintro n xs bx H3 ⟨S, T, v, rfl, ht, hm, hs, hS, rfl, hn⟩
  by_cases hT : T = []
  · subst hT
    have hlen : ∀ H', lenT H' (some (TypeDesc.slice 3)) (some v) = some (.av (.v (.int .i64 0))) := by
      intro H'
      rcases ht with ⟨_, rfl⟩ | ⟨id, ver, tl, rfl, _⟩ <;> simp [lenT_row, lenT_sl]
    simp [ev_seq, ev_cond2, ev_exit, ev_region2, evOps_nil, evOps_cons, opG_none, opA_move, opA_assign, opA_bin, opA_len, putO_some, putH_lt, condB_false, binT_some, binA, avO_some, io_gtr, opS, opV, Go.Mx.look, seqK, blockK, Fr.known, mkFr, slotsOf, ptrsOf, boxesOf, orO_some, eqT_some, rangeT_some, opA_range, tk3, Try.underlying30, hlen]
    refine hm.range Try.underlying72 (fun H4 N hit hs4 hl4 => ?_)
    have hs5 : Same [] H H4 := hs.trans hs4 (by simp)
    have hle : H.length ≤ H3.length := hs.1
    generalize H3.length = it at hit hle
    clear ht hlen hs4 hl4 hm hs
    simp [ev_block, ev_loop, loopK, evOps_nil, putC_lt, opS, opV, Go.Mx.look, seqK, mapO, headK, getV, getB, chkP, firstReg]
    refine LoopC.intro (fun n xs _ H5 => RgInv H it S N n xs H5) N ⟨[], _, rfl, hit, .inl ⟨rfl, rfl⟩, hs5, by simp, by simp⟩ ?_
    clear hit hs5 H4
    rintro n xs bx H5 ⟨O, v2, rfl, hit, hO, hs5, rfl, hON⟩
    have hOn : O.Nodup := by
      have := hit.nodup
      simp only [ofN, List.map_map] at this
      exact (List.nodup_iff_pairwise_ne.2 ((List.pairwise_map.1 (List.nodup_iff_pairwise_ne.1 this)).imp (fun {a b} hab e => hab (by rw [e]))))
    have hOS : ∀ i ∈ O, i ∈ S := by
      intro i hi
      obtain ⟨v, hv⟩ := hit.mem (k := intV i) (by simp only [ofN, List.map_map]; exact List.mem_map.2 ⟨i, hi, rfl⟩)
      obtain ⟨j, hj, e, _⟩ := fS_some hv
      have : i = j := by simp [intV] at e; omega
      subst this; exact hj
    simp [ev_seq, ev_region2, evOps_cons, opG_none, opS, opV, Go.Mx.look, mkFr, slotsOf, ptrsOf, boxesOf, nextT_some, opA_next]
    refine hit.next (fun H6 key val hf hkg hnd hlt hit6 hent hs6 hl6 => ?_) (fun hall => ?_)
    · obtain ⟨k, hkS, rfl, rfl⟩ := fS_some hf
      have hOl : O.length < N := by simpa [ofN] using hlt
      have hNS : O.length ≤ 100000 := by
        have h1 := hS.len hG
        have h2 : O.length ≤ S.length := hOn.length_le_of_subset hOS
        omega
      have hs7 : Same [] H H6 := hs5.trans hs6 (by simpa using hle)
      have hO6 : NewR H H6 ((ofN O).map intV) v2 := hO.same hs6 (fun id ver hv => by
        rcases hO with ⟨_, h2⟩ | ⟨_, id2, ver2, tl, h2, h3, _⟩
        · rw [h2] at hv; simp at hv
        · rw [h2] at hv; simp at hv
          obtain ⟨es, c, ds, h4, _⟩ := hit
          simp only [List.mem_singleton]
          rintro rfl
          rw [← hv.1, h3] at h4; simp at h4)
      simp [ev_skip, ev_seq, ev_cond2, ev_block, ev_region2, evOps_nil, evOps_cons, opG_none, opA_move, opA_assign, opA_extract, opA_buildSlice, opA_append, putO_some, putH_lt, putC_lt, condB_true, avO_some, extractT, buildSliceT, appendT, opS, opV, Go.Mx.look, seqK, Fr.known, mapO, extractA, cellsA_v, okPart_v, Value.oneCell', fillA, bindO, srcTy, opA_entry, entryT_some, sz3, by3, ze3, st30, Try.underlying30, boolV, intV, hent]
      refine hO6.app hs7.1 (by simp [ofN]; omega) (fun v3 H7 fp hO7 hs8 hfp _ => ?_)
      have hnot : ∀ j o, H6[j]? = some o → (∀ ver cs, o ≠ .cells ver cs) → j ∉ fp := fun j o hj hno hm => by
        obtain ⟨_, ver, ds, h1, _⟩ := hfp j hm
        rw [h1] at hj; simp at hj
        exact hno ver ds hj.symm
      have hit7 : IterAt Try.prog 3 H7 it H.length (fS S) N ((ofN O).map intV ++ [intV k]) := by
        refine hit6.same hs8 ?_ ?_
        · obtain ⟨es, c, ds, h4, _⟩ := hit6; exact hnot _ _ h4 (by simp)
        · obtain ⟨es, c, ds, _, h4, _⟩ := hit6; exact hnot _ _ h4 (by simp)
      simp [evOps_nil, evOps_cons, opG_none, opA_assign, putO_some, putH_lt, putC_lt, opS, opV, Go.Mx.look, seqK, blockK, mapO, headK, getV, getB, chkP]
      exact ⟨N - (O.length + 1), by omega, O ++ [k], v3, rfl, by simpa [ofN] using hit7, by simpa [ofN, intV] using hO7, hs7.new hs8 (fun j hj => (hfp j hj).1), by simp, by simp; omega⟩
    · have hiff : ∀ i, i ∈ O ↔ i ∈ S := fun i => ⟨hOS i, fun hi => by
        have := hall (intV i) (boolV true) (by rw [fS_at, if_pos hi])
        simp only [ofN, List.map_map] at this
        obtain ⟨j, hj, e⟩ := List.mem_map.1 this
        have : j = i := by simp [intV] at e; omega
        subst this; exact hj⟩
      have hsort := pastL_of hG hS hOn hiff
      have hNS : O.length ≤ 100000 := by
        have h1 := hS.len hG
        have h2 : O.length ≤ S.length := hOn.length_le_of_subset hOS
        omega
      simp [ev_seq, ev_cond2, ev_exit, ev_region2, evOps_nil, evOps_cons, opG_none, opA_move, opA_extract, opA_call, putO_some, putH_lt, putC_lt, condB_false, extractT, opS, opV, Go.Mx.look, seqK, blockK, Fr.known, mapO, callA, extractA, ok42]
      rcases hO with ⟨h1, rfl⟩ | ⟨h1, id, ver, tl, rfl, h3, h4⟩
      · have hO0 : O = [] := by simpa [ofN] using h1
        subst hO0
        refine Sp.sortNil lays189 ?_
        simp [ev_seq, ev_ret, ev_region2, evOps_nil, evOps_cons, opG_none, opA_move, opA_assign, putO_some, putH_lt, putC_lt, opS, opV, Go.Mx.look, seqK, retK, retA, resA, mapO]
        refine h _ _ ⟨.inl ⟨?_, rfl⟩, hs5⟩
        rw [← hsort]
        exact List.length_eq_zero_iff.1 (by simp [sortI_len, ofN])
      · have hlen : ((ofN O).map intV).length = (ofN O).length := by simp
        rw [hlen]
        refine Sp.sortInts lays189 h3 (by simp) (fun j x hj => by
          rw [Nat.zero_add, List.getElem?_append_left (by simp; exact (List.getElem?_eq_some_iff.1 hj).1)]; simp [hj]) (by simp [ofN]; omega) ?_
        simp [ev_seq, ev_ret, ev_region2, evOps_nil, evOps_cons, opG_none, opA_move, opA_assign, putO_some, putH_lt, putC_lt, opS, opV, Go.Mx.look, seqK, retK, retA, resA, mapO]
        refine h _ _ ⟨.inr ⟨by rw [← hsort]; intro e; apply h1; have := congrArg List.length e; simp [sortI_len] at this; simpa using this, id, ver, tl, ?_, ?_, h4⟩, hs5.new (Same.set (fp := [id]) (by simp)) (by simpa using h4)⟩
        · rw [← hsort]; simp [sortI_len]
        · rw [List.getElem?_set_self (Hp.lt h3), ← hsort]
          simp [splice, sortI_len]
  · obtain ⟨T', x, rfl⟩ : ∃ T' x, T = T' ++ [x] := ⟨T.dropLast, T.getLast hT, (List.dropLast_concat_getLast hT).symm⟩
    rcases ht with ⟨h1, _⟩ | ⟨id, ver, tl, rfl, hid, hlo⟩
    · simp at h1
    have hidm : id ≠ H.length := by
      rintro rfl
      obtain ⟨es, c, h1, _⟩ := hm
      rw [hid] at h1; simp at h1
    have hn2 : T'.length + 1 + (L.length - S.length) ≤ l.length + L.length := by simpa using hn
    have w1 : IntKind.i64.wrap ((T'.length : Int) + 1 - 1) = (T'.length : Int) := by rw [wr_i64 (by omega)]; omega
    have w0 : IntKind.i64.wrap (T'.length : Int) = (T'.length : Int) := wr_i64 (by omega)
    have w3 : (T'.length : Int) < (T'.length : Int) + 1 := by omega
    have e1 : sliceSl 1 id ver 1 0 (T'.length + 1) (0 : Int) (T'.length : Int) = some (.sl id ver 1 0 T'.length) := by
      simp only [sliceSl, if_true]; rw [if_pos (by omega), if_pos (by omega)]; simp
    obtain ⟨hx, hS1⟩ := hS.pop
    simp [ev_skip, ev_seq, ev_cond2, ev_block, ev_region2, evOps_nil, evOps_cons, opG_none, opA_move, opA_assign, opA_bin, opA_load, opA_indexAddr, opA_len, opA_call, opA_slice, putO_some, putH_lt, condB_true, binT_some, binA, avO_some, loadT, lenT_sl, indexAddrT, bndT, sliceT, io_sub, io_gtr, opS, opV, Go.Mx.look, seqK, Fr.known, mapO, callA, partA, loadA, loadS, indexAddrA, sliceA, mkFr, slotsOf, ptrsOf, boxesOf, orO_some, eqT_some, sz3, ag3, tk3, Try.underlying30, hid, w0, w3, e1, intV, hok]
    refine hE x _ _ hs ?_
    have hEl : (edgeZ L au x).length ≤ 100000 := Nat.le_trans (edgeZ_len hG au x) hL
    simp [ev_block, ev_loop, loopK, evOps_nil, evOps_cons, opG_none, opA_move, opA_len, putO_some, putH_lt, putC_lt, lenT_row, opS, opV, Go.Mx.look, seqK, mapO, headK, getV, getB, chkP, firstReg, Try.underlying30, rowZ]
    refine LoopC.intro (fun n xs _ H4 => EgInv fE gv L au l H id x (T'.length + (L.length - S.length)) n xs H4) (edgeZ L au x).length
      ⟨0, S, T', ver, intV x :: tl, by omega, by omega, by simp [rowZ, ofN_len], by simpa using hid, hm, hs, hS1, hx, by simp, Nat.le_refl _⟩ ?_
    clear hid hm hs hS hS1 hx e1 w1 w0 w3
    rintro n xs bx H4 ⟨j, S2, T2, ver2, tl2, hj, rfl, rfl, hid, hm, hs, hS, hx, hdone, hmeas⟩
    have hSl := hS.len hG
    simp [ev_skip, ev_seq, ev_cond2, ev_block, ev_exit, ev_region2, evOps_nil, evOps_cons, opG_none, opA_bin, opA_indexAddr, putO_some, putH_lt, binT_some, binA, avO_some, indexAddrT, io_lss, opS, opV, Go.Mx.look, seqK, blockK, Fr.known, mapO, indexAddrA, headK, getV, getB, chkP, mkFr, slotsOf, ptrsOf, boxesOf, orO_some, eqT_some, sz3, tk3, Try.underlying30, rowZ]
    refine ⟨fun hlt => ?_, fun hge => ?_⟩
    · obtain ⟨k, hk⟩ : ∃ k, (edgeZ L au x)[j]? = some k := ⟨_, List.getElem?_eq_getElem hlt⟩
      have hkE : k ∈ edgeZ L au x := List.mem_of_getElem? hk
      have w2 : IntKind.i64.wrap ((j : Int) + 1) = (j : Int) + 1 := wr_i64 (by omega)
      have htk : (edgeZ L au x).take (j + 1) = (edgeZ L au x).take j ++ [k] := by rw [List.take_add_one, hk]; rfl
      have hls := look_seen hm k
      have hlz : j < (ofN (edgeZ L au x)).length := by simpa [ofN] using hlt
      have hkz : (ofN (edgeZ L au x))[j] = (k : Int) := by
        have : (ofN (edgeZ L au x))[j]? = some (k : Int) := by simp [ofN, hk]
        rw [List.getElem?_eq_getElem hlz] at this; simpa using this
      simp [ev_skip, ev_seq, ev_cond2, ev_region2, evOps_nil, evOps_cons, opG_none, opA_move, opA_assign, opA_bin, opA_un, opA_load, putO_some, putH_lt, binT_some, binA, avO_some, unT, loadT, io_add, opS, opV, Go.Mx.look, seqK, blockK, Fr.known, mapO, unA, partA, loadA, loadS, headK, getV, getB, chkP, orO_some, eqT_some, lookT_some, updT_some, opA_lookup, opA_upd, sz3, ag3, tk3, hkz, hlt, hlz, intV, hls, boolV]
      by_cases hkS : k ∈ S2
      · simp [hkS, w2]
        refine ⟨(edgeZ L au x).length - (j + 1), by omega, j + 1, S2, T2, ver2, tl2, by omega, rfl, by simp [rowZ, ofN_len], hid, hm, hs, hS, hx, ?_, hmeas⟩
        rw [htk]
        intro k2 hk2
        rcases List.mem_append.1 hk2 with h5 | h5
        · exact hdone k2 h5
        · simp at h5; subst h5; exact hkS
      · have hS2 := hS.push hG hx hkE hkS
        have hS2l := hS2.len hG
        simp only [List.length_append, List.length_cons, List.length_nil] at hS2l
        simp [hkS]
        refine hm.upd Try.underlying72 (KGood.int Try.underlying3 _) (fun H5 hm5 hs5 hl5 => ?_)
        have hm6 : MapAt Try.prog 3 H5 H.length (fS (S2 ++ [k])) := by
          rw [← fS_add]; exact hm5
        have hid5 : H5[id]? = some (.cells ver2 (T2.map intV ++ tl2)) := hs5.2 _ _ hid (by simpa using hidm)
        simp [ev_region2, evOps_nil, evOps_cons, opG_none, opA_move, opA_buildSlice, opA_append, putO_some, putH_lt, putU_none, buildSliceT, appendT, opS, opV, Go.Mx.look, seqK, mapO, cellsA_v, okPart_v, Value.oneCell', fillA, bindO, srcTy, sz3, by3, ze3, st30, Try.underlying30]
        refine td_app hid5 (by omega) ?_
        simp [ev_region2, evOps_nil, evOps_cons, opG_none, opA_move, opA_assign, opA_bin, putO_some, putH_lt, putC_lt, binT_some, binA, avO_some, io_add, opS, opV, Go.Mx.look, seqK, blockK, mapO, headK, getV, getB, chkP, orO_some, eqT_some, tk3, w2]
        have hs6 : Same [] H H5 := hs.new hs5 (by simp)
        refine ⟨(edgeZ L au x).length - (j + 1), by omega, j + 1, S2 ++ [k], T2 ++ [(k : Int)], ver2 + 1, [], by omega, rfl, by simp [rowZ, ofN_len], ?_, hm6.same (Same.set (fp := [id]) (by simp)) (by simpa using Ne.symm hidm), hs6.new (Same.set (fp := [id]) (by simp)) (by simpa using hlo), hS2, ?_, ?_, ?_⟩
        · rw [List.getElem?_set_self (Hp.lt hid5)]; simp
        · rcases hx with hx | hx
          · exact .inl hx
          · exact .inr (by simp [ofN] at hx ⊢; exact .inl hx)
        · rw [htk]
          intro k2 hk2
          rcases List.mem_append.1 hk2 with h5 | h5
          · simp [hdone k2 h5]
          · simp at h5; subst h5; simp
        · simp; omega
    · have hj2 : j = (edgeZ L au x).length := by omega
      subst hj2
      rw [List.take_length] at hdone
      refine ⟨T2.length + (L.length - S2.length), by omega, S2, T2, _, rfl, .inr ⟨id, ver2, tl2, rfl, hid, hlo⟩, hm, hs, hS.done hdone, rfl, by omega⟩
end Go.Proofs.Ytpmhhbdfompbhaa

namespace Go.Proofs.Ytpmhhbdfompbhaa
open Go.Mx Go.Dag
set_option linter.unusedVariables false
set_option linter.unusedSimpArgs false

theorem past_sp (gv : AV) (L : List Th) (hG : Dag.Good L) (l : List Int) (H : Hp) (Q : AV → Hp → Prop) (hg : GrV H gv L) (hL : L.length ≤ 100000) (hl : l.length ≤ 100000)
    (h : ∀ v H', Ns H H' (pastL L false l) v → Q v H') : Sp Try.prog 16 [gv, rowZ l] Q H := by
  refine Sp.body [] ⟨[], [], []⟩ [] mo Try.func16 rfl (Nat.le_of_ble_eq_true rfl) (by kernel_rfl) ?_
  simp [ev_seq, ev_region2, evOps_nil, evOps_cons, opG_none, opA_move, opA_assign, opA_call, opA_makeFunc, putO_some, putH_lt, fnT, opS, opV, Go.Mx.look, fr0, argSlots, seqK, mapO, callA, ok34]
  refine reach_sp 33 false gv gv L hG l H _ ok33 (fun x H1 Q1 hs hq => prevZ_sp gv L x H1 Q1 (hg.same hs) hq) hL hl (fun v H' hn => ?_)
  simp [ev_ret, evOps_nil, evOps_cons, opG_none, opA_assign, putO_some, putH_lt, putC_lt, opS, opV, Go.Mx.look, seqK, retK, retA, resA, mapO]
  exact h _ _ hn
theorem chain_sp (gv : AV) (L : List Th) (hG : Dag.Good L) (l : List Int) (H : Hp) (Q : AV → Hp → Prop) (hg : GrV H gv L) (hL : L.length ≤ 100000) (hl : l.length ≤ 100000)
    (h : ∀ v H', Ns H H' (pastL L true l) v → Q v H') : Sp Try.prog 21 [gv, rowZ l] Q H := by
  refine Sp.body [] ⟨[], [], []⟩ [] mo Try.func21 rfl (Nat.le_of_ble_eq_true rfl) (by kernel_rfl) ?_
  simp [ev_seq, ev_region2, evOps_nil, evOps_cons, opG_none, opA_move, opA_assign, opA_call, opA_makeFunc, putO_some, putH_lt, fnT, opS, opV, Go.Mx.look, fr0, argSlots, seqK, mapO, callA, ok34]
  refine reach_sp 37 true gv gv L hG l H _ ok37 (fun x H1 Q1 hs hq => authZ_sp gv L x H1 Q1 (hg.same hs) hq) hL hl (fun v H' hn => ?_)
  simp [ev_ret, evOps_nil, evOps_cons, opG_none, opA_assign, putO_some, putH_lt, putC_lt, opS, opV, Go.Mx.look, seqK, retK, retA, resA, mapO]
  exact h _ _ hn

/-- What kept places of the first so many follow. -/
def flw (L : List Th) (kept : List Bool) (i k : Nat) : Bool := (List.range i).any (fun j => kept.getD j false && decide (k ∈ edge L false j))
theorem flw_succ (L : List Th) (kept : List Bool) (i k : Nat) : flw L kept (i + 1) k = (flw L kept i k || (kept.getD i false && decide (k ∈ edge L false i))) := by
  unfold flw
  rw [List.range_succ, List.any_append]
  simp
def cellsF (n : Nat) (f : Nat → Bool) : List AV := (List.range n).map (fun k => boolV (f k))
theorem cellsF_len (n : Nat) (f : Nat → Bool) : (cellsF n f).length = n := by simp [cellsF]
theorem cellsF_set (n : Nat) (f : Nat → Bool) (k : Nat) : (cellsF n f).set k (boolV true) = cellsF n (fun j => f j || decide (j = k)) := by
  apply List.ext_getElem?
  intro j
  simp only [cellsF, List.getElem?_set, List.getElem?_map, List.length_map, List.length_range]
  by_cases hj : k = j
  · subst hj
    by_cases hk : k < n
    · simp [hk]
    · simp [hk]
  · simp only [hj, if_false]
    by_cases hk : j < n
    · simp [hk, Ne.symm hj]
    · simp [hk]
theorem cellsF_get (n : Nat) (f : Nat → Bool) (k : Nat) (h : k < n) : (cellsF n f)[k]? = some (boolV (f k)) := by simp [cellsF, h]
theorem headsL_eq (L : List Th) (kept : List Bool) : headsL L kept = whereN (min kept.length L.length) (fun i => kept.getD i false && !(flw L kept (min kept.length L.length) i)) := rfl

/-- The walk of the kept places. -/
def HdInv (gv : AV) (L : List Th) (kept : List Bool) (H : Hp) (m n : Nat) (xs : List AV) (H2 : Hp) : Prop :=
  ∃ i, i ≤ m ∧ n = m - i ∧ xs = [gv, rowB kept, .v (.int .i64 m), .sl H.length 0 1 0 m, .v (.int .i64 m), .v (.int .i64 i)] ∧ H2 = H ++ [.cells 0 (cellsF m (flw L kept i))]
def HdInv2 (gv : AV) (L : List Th) (kept : List Bool) (H : Hp) (m i n : Nat) (xs : List AV) (H2 : Hp) : Prop :=
  ∃ j, j ≤ (edge L false i).length ∧ n = (edge L false i).length - j ∧ xs = [gv, rowB kept, .v (.int .i64 m), .sl H.length 0 1 0 m, .v (.int .i64 m), .v (.int .i64 i), rowZ (ofN (edge L false i)), .v (.int .i64 (edge L false i).length), .v (.int .i64 j)] ∧
    H2 = H ++ [.cells 0 (cellsF m (fun k => flw L kept i k || decide (k ∈ (edge L false i).take j)))]
def HdInv3 (L : List Th) (kept : List Bool) (H : Hp) (m n : Nat) (xs : List AV) (H2 : Hp) : Prop :=
  ∃ i v, i ≤ m ∧ n = m - i ∧ xs = [rowB kept, .sl H.length 0 1 0 m, v, .v (.int .i64 m), .v (.int .i64 i)] ∧ NewR H H2 ((ofN (whereN i (fun i => kept.getD i false && !(flw L kept m i)))).map intV) v ∧
    H2[H.length]? = some (.cells 0 (cellsF m (flw L kept m))) ∧ Same [] H H2 ∧ (∀ id ver x y z, v = .sl id ver x y z → id ≠ H.length)

set_option maxHeartbeats 4000000 in
theorem heads_sp (gv : AV) (L : List Th) (hG : Dag.Good L) (kept : List Bool) (H : Hp) (Q : AV → Hp → Prop) (hg : GrV H gv L) (hL : L.length ≤ 100000) (hl : kept.length ≤ 100000)
    (h : ∀ v H', Ns H H' (headsL L kept) v → Q v H') : Sp Try.prog 13 [gv, rowB kept] Q H := by
  refine Sp.body [(4, ⟨[0, 1, 5, 6, 19, 20], [], []⟩), (8, ⟨[0, 1, 5, 6, 19, 20, 29, 30, 31], [], []⟩), (15, ⟨[1, 6, 10, 40, 41], [], []⟩)] ⟨[], [], []⟩ [] mo Try.func13 rfl (Nat.le_of_ble_eq_true rfl) (by kernel_rfl) ?_
  simp [ev_seq, ev_region2, evOps_nil, evOps_cons, opG_none, opA_move, opA_assign, opA_len, opA_call, putO_some, putH_lt, lenT_row, opS, opV, Go.Mx.look, fr0, argSlots, seqK, mapO, callA, Try.underlying23, ok17, rowB]
  refine len_sp gv L H _ hg ?_
  simp [ev_seq, ev_block, ev_region2, ev_loop, loopK, evOps_nil, evOps_cons, opG_none, opA_move, opA_assign, opA_min, opA_makeSlice, putO_some, putH_lt, putC_lt, minT, minA, makeSliceT, opS, opV, Go.Mx.look, seqK, mapO, headK, getV, getB, chkP, firstReg, makeA, sz4, by4, ze4, Try.underlying23]
  rw [headsL_eq] at h
  have hm : (if L.length < kept.length then (L.length : Int) else (kept.length : Int)) = ((min kept.length L.length : Nat) : Int) := by split <;> omega
  simp only [hm]
  have hm1 : min kept.length L.length ≤ kept.length := by omega
  have hm2 : min kept.length L.length ≤ L.length := by omega
  clear hm
  generalize min kept.length L.length = m at h hm1 hm2
  refine ⟨⟨by omega, by omega, by omega⟩, ?_⟩
  refine LoopC.intro (fun n xs _ H2 => HdInv gv L kept H m n xs H2) m ⟨0, by omega, rfl, by simp [rowB], ?_⟩ ?_
  · have e : List.replicate m (AV.v (Value.bool false)) = cellsF m (flw L kept 0) := by
      have e0 : flw L kept 0 = fun _ => false := by funext k; simp [flw]
      rw [e0]
      unfold cellsF boolV
      rw [List.map_const', List.length_range]
    simpa using e
  rintro n xs bx H2 ⟨i, hi, rfl, rfl, rfl⟩
  simp [ev_skip, ev_seq, ev_cond2, ev_block, ev_exit, ev_region2, ev_loop, loopK, evOps_nil, evOps_cons, opG_none, opA_move, opA_assign, opA_bin, opA_indexAddr, putO_some, putH_lt, binT_some, binA, avO_some, indexAddrT, io_lss, opS, opV, Go.Mx.look, seqK, blockK, Fr.known, mapO, indexAddrA, headK, getV, getB, chkP, mkFr, slotsOf, ptrsOf, boxesOf, firstReg, orO_some, eqT_some, tk3, sz4, Try.underlying23, rowB]
  refine ⟨fun hlt => ?_, fun hge => ?_⟩
  · have hik : i < kept.length := by omega
    have hx := List.getElem?_eq_getElem hik
    generalize hx2 : kept[i] = b at hx
    have hg1 : kept.getD i false = b := by rw [List.getD_eq_getElem?_getD, hx]; rfl
    have w1 : IntKind.i64.wrap ((i : Int) + 1) = (i : Int) + 1 := wr_i64 (by omega)
    cases b with
    | false =>
      simp [ev_skip, ev_cond2, ev_region2, evOps_nil, evOps_cons, opG_none, opA_move, opA_bin, opA_load, putO_some, putH_lt, condB_false, binT_some, binA, avO_some, loadT, io_add, opS, opV, Go.Mx.look, seqK, blockK, Fr.known, mapO, partA, loadA, loadS, headK, getV, getB, chkP, orO_some, eqT_some, tk3, sz4, ag4, hx2, boolV, hik, w1]
      refine ⟨m - (i + 1), by omega, i + 1, by omega, rfl, by simp [rowB], ?_⟩
      have e : flw L kept (i + 1) = flw L kept i := by funext k; rw [flw_succ, hg1]; simp
      rw [e]
    | true =>
      simp [ev_seq, ev_cond2, ev_region2, evOps_nil, evOps_cons, opG_none, opA_move, opA_load, opA_call, putO_some, putH_lt, condB_true, loadT, opS, opV, Go.Mx.look, seqK, Fr.known, mapO, callA, partA, loadA, loadS, sz4, ag4, ok33, hx2, boolV, hik]
      refine prevZ_sp gv L i _ _ (hg.same (Same.app _ _ _)) ?_
      rw [edgeZ_nat]
      have hel : (edge L false i).length ≤ 100000 := by have := edgeZ_len hG false (i : Int); rw [edgeZ_nat] at this; omega
      simp [ev_block, ev_loop, loopK, evOps_nil, evOps_cons, opG_none, opA_move, opA_len, putO_some, putH_lt, putC_lt, lenT_row, opS, opV, Go.Mx.look, seqK, mapO, headK, getV, getB, chkP, firstReg, Try.underlying30, rowZ]
      refine LoopC.intro (fun n xs _ H2 => HdInv2 gv L kept H m i n xs H2) (edge L false i).length ⟨0, by omega, by omega, by simp [rowZ, rowB, ofN_len], ?_⟩ ?_
      · simp
      rintro n xs bx H2 ⟨j, hj, rfl, rfl, rfl⟩
      simp [ev_skip, ev_seq, ev_cond2, ev_block, ev_exit, ev_region2, evOps_nil, evOps_cons, opG_none, opA_move, opA_bin, opA_indexAddr, putO_some, putH_lt, binT_some, binA, avO_some, indexAddrT, io_add, io_lss, opS, opV, Go.Mx.look, seqK, blockK, Fr.known, mapO, indexAddrA, headK, getV, getB, chkP, mkFr, slotsOf, ptrsOf, boxesOf, orO_some, eqT_some, sz3, tk3, Try.underlying30, rowZ, rowB]
      refine ⟨fun hlt2 => ?_, fun hge2 => ?_⟩
      · obtain ⟨k, hk⟩ : ∃ k, (edge L false i)[j]? = some k := ⟨_, List.getElem?_eq_getElem hlt2⟩
        have hkE : k ∈ edge L false i := List.mem_of_getElem? hk
        have hkl := edge_lt hG hkE
        have hkm : k < m := by omega
        have hlz : j < (ofN (edge L false i)).length := by simpa [ofN] using hlt2
        have hkz : (ofN (edge L false i))[j] = (k : Int) := by
          have : (ofN (edge L false i))[j]? = some (k : Int) := by simp [ofN, hk]
          rw [List.getElem?_eq_getElem hlz] at this; simpa using this
        have w2 : IntKind.i64.wrap ((j : Int) + 1) = (j : Int) + 1 := wr_i64 (by omega)
        have htk : (edge L false i).take (j + 1) = (edge L false i).take j ++ [k] := by rw [List.take_add_one, hk]; rfl
        simp [ev_region2, evOps_nil, evOps_cons, opG_none, opA_move, opA_assign, opA_bin, opA_load, opA_indexAddr, opA_store, putO_some, putH_lt, putU_none, binT_some, binA, avO_some, loadT, indexAddrT, storeT, io_add, opS, opV, Go.Mx.look, seqK, blockK, mapO, cellsA_v, okPart_v, Value.oneCell', partA, loadA, loadS, indexAddrA, storeS, headK, getV, getB, chkP, orO_some, eqT_some, sz3, ag3, tk3, sz4, Try.underlying23, hkz, hlt2, hlz, intV, w2, hkm, cellsF_len]
        refine ⟨hkm, (edge L false i).length - (j + 1), by omega, j + 1, by omega, rfl, by simp [rowZ, rowB, ofN_len], ?_⟩
        have e := cellsF_set m (fun k => flw L kept i k || decide (k ∈ (edge L false i).take j)) k
        simp only [boolV] at e
        rw [e, htk]
        congr 3
        exact congrArg (cellsF m) (funext fun k2 => by simp [Bool.or_assoc])
      · have hj2 : j = (edge L false i).length := by omega
        subst hj2
        simp [w1]
        refine ⟨m - (i + 1), by omega, i + 1, by omega, rfl, by simp [rowB], ?_⟩
        have e : flw L kept (i + 1) = fun k => flw L kept i k || decide (k ∈ edge L false i) := by funext k; rw [flw_succ, hg1]; simp
        rw [e]
  · have hi2 : i = m := by omega
    subst hi2
    refine LoopC.intro (fun n xs _ H2 => HdInv3 L kept H i n xs H2) i ⟨0, _, by omega, rfl, by simp [rowB], .inl ⟨rfl, rfl⟩, by simp, Same.app _ _ _, by simp⟩ ?_
    rintro n xs bx H2 ⟨k, v, hk, rfl, rfl, hn, hf, hs, hne⟩
    simp [ev_skip, ev_seq, ev_cond2, ev_block, ev_exit, ev_ret, ev_region2, evOps_nil, evOps_cons, opG_none, opA_move, opA_assign, opA_bin, opA_indexAddr, putO_some, putH_lt, binT_some, binA, avO_some, indexAddrT, io_lss, opS, opV, Go.Mx.look, seqK, blockK, Fr.known, retK, retA, resA, mapO, indexAddrA, mkFr, slotsOf, ptrsOf, boxesOf, orO_some, eqT_some, tk3, sz4, Try.underlying23, rowB]
    refine ⟨fun hlt => ?_, fun hge => ?_⟩
    · have hik : k < kept.length := by omega
      have hx := List.getElem?_eq_getElem hik
      generalize hx2 : kept[k] = b at hx
      have hg1 : kept.getD k false = b := by rw [List.getD_eq_getElem?_getD, hx]; rfl
      have w1 : IntKind.i64.wrap ((k : Int) + 1) = (k : Int) + 1 := wr_i64 (by omega)
      have hcl := cellsF_len i (flw L kept i)
      have hc := cellsF_get i (flw L kept i) k hlt
      have hc2 : k < (cellsF i (flw L kept i)).length := by omega
      have hc3 : (cellsF i (flw L kept i))[k] = boolV (flw L kept i k) := by
        rw [List.getElem?_eq_getElem hc2] at hc; simpa using hc
      have hwl := whereN_len k (fun i_1 => kept.getD i_1 false && !(flw L kept i i_1))
      cases b with
      | false =>
        simp [ev_skip, ev_cond2, ev_region2, evOps_nil, evOps_cons, opG_none, opG_some, opJ, opU_ft, isU_bool, opA_move, opA_pick, opA_bin, opA_load, putO_some, putH_lt, putV_lt, condB_false, binT_some, binA, avO_some, pickT, loadT, io_add, opS, opV, Go.Mx.look, seqK, blockK, Fr.known, mapO, partA, loadA, loadS, headK, getV, getB, chkP, orO_some, eqT_some, tk3, sz4, ag4, hx2, boolV, hik, w1]
        refine ⟨i - (k + 1), by omega, k + 1, v, by omega, rfl, by simp [rowB], ?_, hf, hs, hne⟩
        rw [whereN_succ]
        simp only [hg1]
        simpa using hn
      | true =>
        cases hfl : flw L kept i k with
        | true =>
          rw [hfl] at hc3
          simp [ev_skip, ev_cond2, ev_region2, evOps_nil, evOps_cons, opG_none, opG_some, opJ, opU_ft, isU_bool, opK_eq, opA_move, opA_pick, opA_bin, opA_un, opA_load, opA_indexAddr, putO_some, putH_lt, condB_true, condB_false, binT_some, binA, avO_some, pickT, unT, loadT, indexAddrT, io_add, opS, opV, Go.Mx.look, seqK, blockK, Fr.known, mapO, unA, partA, loadA, loadS, indexAddrA, headK, getV, getB, chkP, orO_some, eqT_some, tk3, sz4, ag4, Try.underlying23, hx2, boolV, hik, w1, hf, hc3, hc2, hlt]
          refine ⟨i - (k + 1), by omega, k + 1, v, by omega, rfl, by simp [rowB], ?_, hf, hs, hne⟩
          rw [whereN_succ]
          simp only [hg1, hfl]
          simpa using hn
        | false =>
          rw [hfl] at hc3
          simp [ev_cond2, ev_region2, evOps_nil, evOps_cons, opG_none, opG_some, opJ, opU_ft, isU_bool, opK_eq, opA_move, opA_pick, opA_un, opA_load, opA_indexAddr, opA_buildSlice, opA_append, putO_some, putH_lt, condB_true, pickT, unT, loadT, indexAddrT, buildSliceT, appendT, opS, opV, Go.Mx.look, seqK, Fr.known, mapO, unA, cellsA_v, okPart_v, Value.oneCell', partA, loadA, loadS, indexAddrA, fillA, bindO, srcTy, sz3, by3, ze3, sz4, ag4, Try.underlying23, st30, Try.underlying30, hx2, boolV, hik, hf, hc3, hc2, hlt]
          refine hn.app hs.1 (by simp [ofN] at hwl ⊢; omega) (fun v3 H3 fp hn3 hs3 hfp hid3 => ?_)
          have hnf : H.length ∉ fp := fun hm => by
            obtain ⟨_, ver, ds, _, h5⟩ := hfp _ hm
            exact hne _ _ _ _ _ h5 rfl
          have hs4 := hs.new hs3 (fun j hj => (hfp j hj).1)
          have hf3 := hs3.2 _ _ hf hnf
          simp [ev_region2, evOps_nil, evOps_cons, opG_none, opA_move, opA_assign, opA_bin, putO_some, putH_lt, putC_lt, binT_some, binA, avO_some, io_add, opS, opV, Go.Mx.look, seqK, blockK, mapO, headK, getV, getB, chkP, orO_some, eqT_some, tk3, w1]
          refine ⟨i - (k + 1), by omega, k + 1, v3, by omega, rfl, by simp [rowB], ?_, hf3, hs4, fun id ver x y z h5 => ?_⟩
          · rw [whereN_succ]
            simp only [hg1, hfl]
            simpa [ofN, intV] using hn3
          · rcases hid3 _ _ _ _ _ h5 with h6 | ⟨ver', h6⟩
            · have := Hp.lt hf; omega
            · exact hne _ _ _ _ _ h6
    · have : k = i := by omega
      subst this
      exact h _ _ ⟨hn, hs⟩
end Go.Proofs.Ytpmhhbdfompbhaa

namespace Go.Proofs.Ytpmhhbdfompbhaa
open Go.Mx Go.Dag
set_option linter.unusedVariables false
set_option linter.unusedSimpArgs false

theorem rowI_ne {l : List Nat} (h : l ≠ []) : rowI l = .row false l.length ((ofN l).map intV) := by
  unfold rowI
  rw [if_neg h]
  simp [rowZ, ofN]
theorem lenT_rowI (H : Hp) (e : TypeId) (l : List Nat) : lenT H (some (.slice e)) (some (rowI l)) = some (.av (.v (.int .i64 l.length))) := by
  by_cases h : l = []
  · subst h; rfl
  · rw [rowI_ne h, lenT_row]
/-- The document's graph at an address. -/
def RfAt (H : Hp) (a : Nat) (L : List Th) (fp : List Nat) : Prop :=
  (L = [] ∧ H[a]? = some (.cells 0 [.v (.slice none 0 0)]) ∧ fp = [a]) ∨ ∃ t ver, H[a]? = some (.cells 0 [.sl t ver 3 0 L.length]) ∧ H[t]? = some (.cells ver (L.flatMap thC)) ∧ L ≠ [] ∧ t ≠ a ∧ fp = [a, t]
theorem RfAt.same {H H' : Hp} {a : Nat} {L : List Th} {fp fp' : List Nat} (h : RfAt H a L fp) (hs : Same fp' H H') (hf : ∀ j ∈ fp, j ∉ fp') : RfAt H' a L fp := by
  rcases h with ⟨h1, h2, rfl⟩ | ⟨t, ver, h1, h2, h3, h4, rfl⟩
  · exact .inl ⟨h1, hs.2 _ _ h2 (hf _ (by simp)), rfl⟩
  · exact .inr ⟨t, ver, hs.2 _ _ h1 (hf _ (by simp)), hs.2 _ _ h2 (hf _ (by simp)), h3, h4, rfl⟩
theorem RfAt.lt {H : Hp} {a : Nat} {L : List Th} {fp : List Nat} (h : RfAt H a L fp) : ∀ j ∈ fp, j < H.length := by
  rcases h with ⟨h1, h2, rfl⟩ | ⟨t, ver, h1, h2, h3, h4, rfl⟩
  · intro j hj; simp at hj; subst hj; exact Hp.lt h2
  · intro j hj; simp at hj
    rcases hj with rfl | rfl
    · exact Hp.lt h1
    · exact Hp.lt h2

theorem RfAt.head {H : Hp} {a : Nat} {L : List Th} {fp : List Nat} (h : RfAt H a L fp) : ∃ tv, H[a]? = some (.cells 0 [tv]) ∧ (∀ H' e, lenT H' (some (.slice e)) (some tv) = some (.av (.v (.int .i64 L.length)))) ∧
    (∀ (i : Nat) (x : Th), L[i]? = some x → ∃ t ver, tv = .sl t ver 3 0 L.length ∧ H[t]? = some (.cells ver (L.flatMap thC))) := by
  rcases h with ⟨rfl, h2, rfl⟩ | ⟨t, ver, h1, h2, h3, h4, rfl⟩
  · exact ⟨_, h2, fun _ _ => rfl, fun i x hx => by simp at hx⟩
  · exact ⟨_, h1, fun _ _ => lenT_sl _ _ _ _ _ _, fun i x hx => ⟨t, ver, rfl, h2⟩⟩

theorem placeN_first {L : List Th} {s : ByteArray} {i : Nat} {t : Th} (hi : L[i]? = some t) (ht : t.name = s) (hb : ∀ (j : Nat) (x : Th), j < i → L[j]? = some x → x.name ≠ s) : placeN L s = some i := by
  obtain ⟨hlt, hg⟩ := List.getElem?_eq_some_iff.1 hi
  unfold placeN
  rw [List.findIdx?_eq_some_iff_getElem]
  refine ⟨hlt, by rw [hg]; simp [ht], fun j hj => ?_⟩
  have := hb j _ hj (List.getElem?_eq_getElem (by omega))
  simpa using this
theorem placeN_no {L : List Th} {s : ByteArray} (hb : ∀ (j : Nat) (x : Th), L[j]? = some x → x.name ≠ s) : placeN L s = none := by
  unfold placeN
  rw [List.findIdx?_eq_none_iff]
  intro x hx
  obtain ⟨j, hj⟩ := List.getElem?_of_mem hx
  have := hb j x hj
  simpa using this

theorem rplace_sp (a : Nat) (L : List Th) (fp : List Nat) (s : ByteArray) (H : Hp) (Q : AV → Hp → Prop) (hr : RfAt H a L fp) (hL : L.length ≤ 100000) (h : Q (placeV (placeN L s)) H) : Sp Try.prog 31 [.ptr a 0 0, strV s] Q H := by
  refine Sp.body [(2, ⟨[0, 1, 6], [], []⟩)] ⟨[], [], []⟩ [] mo Try.func31 rfl (Nat.le_of_ble_eq_true rfl) (by kernel_rfl) ?_
  simp [ev_seq, ev_block, ev_region2, ev_loop, loopK, evOps_nil, evOps_cons, opG_none, opA_assign, putO_some, putH_lt, opS, opV, Go.Mx.look, fr0, argSlots, seqK, mapO, headK, getV, getB, chkP, firstReg, strV]
  refine LoopC.intro (fun n xs _ H2 => ∃ i : Nat, i ≤ L.length ∧ n = L.length - i ∧ (∀ j x, j < i → L[j]? = some x → x.name ≠ s) ∧ xs = [.ptr a 0 0, strV s, .v (.int .i64 i)] ∧ H2 = H) L.length
    ⟨0, by omega, by omega, fun j x hj => by omega, rfl, rfl⟩ ?_
  rintro n xs bs H2 ⟨i, hi, rfl, hb, rfl, rfl⟩
  obtain ⟨tv, h1, hlen, hel⟩ := hr.head
  simp [ev_skip, ev_seq, ev_cond2, ev_block, ev_exit, ev_ret, ev_region2, evOps_nil, evOps_cons, opG_none, opA_move, opA_assign, opA_bin, opA_load, opA_indexAddr, opA_fieldAddr, opA_nilCheck, opA_len, putO_some, putH_lt, binT_some, binA, avO_some, loadT, nilCheckT, fieldAddrT, indexAddrT, io_lss, opS, opV, Go.Mx.look, seqK, blockK, Fr.known, retK, retA, resA, mapO, partA, loadA, loadS, plusS, indexAddrA, nilCheckS, mkFr, slotsOf, ptrsOf, boxesOf, orO_some, eqT_some, tk3, sz50, ag50, Try.underlying50, Try.underlying52, sz54, strV, h1, hlen]
  refine ⟨fun hlt => ?_, fun hge => ?_⟩
  · obtain ⟨x, hx⟩ : ∃ x, L[i]? = some x := ⟨_, List.getElem?_eq_getElem hlt⟩
    obtain ⟨t, ver, rfl, h2⟩ := hel i x hx
    have hg0 := flat_get thC_len hx 0 (by omega)
    simp [thC, strV] at hg0
    have w1 : IntKind.i64.wrap ((i : Int) + 1) = (i : Int) + 1 := wr_i64 (by omega)
    simp [ev_skip, ev_seq, ev_cond2, ev_ret, ev_region2, evOps_nil, evOps_cons, opG_none, opA_move, opA_assign, opA_bin, opA_load, opA_fieldAddr, putO_some, putH_lt, binT_some, binA, avO_some, loadT, fieldAddrT, io_add, strOp, opS, opV, Go.Mx.look, seqK, blockK, Fr.known, retK, retA, resA, mapO, partA, loadA, loadS, plusS, headK, getV, getB, chkP, orO_some, eqT_some, tk3, sz9, ag9, tk9, Try.underlying54, h2, hlt, hg0, w1, bl_inj]
    refine ⟨fun he => ?_, fun he => ?_⟩
    · rw [placeN_first hx he hb] at h
      exact h
    · refine ⟨L.length - (i + 1), by omega, i + 1, by omega, rfl, fun j y hj hy => ?_, by simp⟩
      rcases Nat.lt_or_ge j i with h5 | h5
      · exact hb j y h5 hy
      · obtain rfl : j = i := by omega
        rw [hx] at hy; simp at hy; subst hy; exact he
  · rw [placeN_no (fun j x hx => hb j x (by have := (List.getElem?_eq_some_iff.1 hx).1; omega) hx)] at h
    exact h

theorem rowB_eq (n : Nat) (f : Nat → Bool) : cellsF n f = ((List.range n).map f).map boolV := by simp [cellsF]
theorem whereF {n : Nat} (f : Nat → Bool) : whereN ((List.range n).map f).length (fun i => ((List.range n).map f).getD i false) = whereN n f := by
  simp only [List.length_map, List.length_range]
  refine whereN_congr (fun i hi => ?_)
  simp [List.getD_eq_getElem?_getD, hi]
theorem where2_sp (id ver n : Nat) (f : Nat → Bool) (H : Hp) (Q : AV → Hp → Prop) (hid : H[id]? = some (.cells ver (cellsF n f))) (hb : n ≤ 100000)
    (h : ∀ v H', Ns H H' (whereN n f) v → Q v H') : Sp Try.prog 36 [.sl id ver 1 0 n] Q H := by
  have h1 := where_sp id ver ((List.range n).map f) H Q (by rw [← rowB_eq]; exact hid) (by simp; omega) (fun v H' hO => by rw [whereF] at hO; exact h v H' (Ns.of hO))
  simpa using h1

def PlInv (a : Nat) (L : List Th) (names : List ByteArray) (H : Hp) (n : Nat) (xs : List AV) (H2 : Hp) : Prop :=
  ∃ i, i ≤ names.length ∧ n = names.length - i ∧ xs = [.ptr a 0 0, rowS names, .sl H.length 0 1 0 L.length, .v (.int .i64 i)] ∧
    H2 = H ++ [.cells 0 (cellsF L.length (fun k => (names.take i).any (fun nm => decide (placeN L nm = some k))))] ∧ ∀ nm ∈ names.take i, (placeN L nm).isSome = true
theorem falses (n : Nat) : List.replicate n (AV.v (Value.bool false)) = cellsF n (fun _ => false) := by
  unfold cellsF boolV
  rw [List.map_const', List.length_range]

set_option maxHeartbeats 1000000 in
theorem rplaces_sp (a : Nat) (L : List Th) (fp : List Nat) (names : List ByteArray) (H : Hp) (Q : AV → Hp → Prop) (hr : RfAt H a L fp) (hL : L.length ≤ 100000) (hb : names.length ≤ 1000000)
    (h1 : found L names = true → Q (.tup [rowI (places L names), .v (.bool true)]) H) (h0 : found L names = false → Q (.tup [.v (.slice none 0 0), .v (.bool false)]) H) : Sp Try.prog 41 [.ptr a 0 0, rowS names] Q H := by
  refine Sp.newRowT (Sp.body [(3, ⟨[0, 1, 6, 7], [], []⟩)] ⟨[], [], []⟩ [] mo Try.func41 rfl (Nat.le_of_ble_eq_true rfl) (by kernel_rfl) ?_)
  obtain ⟨tv, h2, hlen, hel⟩ := hr.head
  simp [ev_seq, ev_block, ev_region2, ev_loop, loopK, evOps_nil, evOps_cons, opG_none, opA_move, opA_assign, opA_load, opA_fieldAddr, opA_nilCheck, opA_len, opA_makeSlice, putO_some, putH_lt, putC_lt, loadT, nilCheckT, fieldAddrT, makeSliceT, opS, opV, Go.Mx.look, fr0, argSlots, seqK, mapO, partA, loadA, loadS, plusS, nilCheckS, headK, getV, getB, chkP, firstReg, makeA, sz4, by4, ze4, Try.underlying23, sz50, ag50, Try.underlying50, Try.underlying52, h2, hlen, rowS]
  refine ⟨by omega, ?_⟩
  refine LoopC.intro (fun n xs _ H2 => PlInv a L names H n xs H2) names.length ⟨0, by omega, by omega, by simp [rowS], by simp [falses], by simp⟩ ?_
  rintro n xs bs H2 ⟨i, hi, rfl, rfl, rfl, hall⟩
  simp [ev_skip, ev_seq, ev_cond2, ev_block, ev_exit, ev_region2, evOps_nil, evOps_cons, opG_none, opA_move, opA_bin, opA_indexAddr, opA_len, opA_call, putO_some, putH_lt, binT_some, binA, avO_some, lenT_row, indexAddrT, io_lss, opS, opV, Go.Mx.look, seqK, blockK, Fr.known, mapO, callA, indexAddrA, mkFr, slotsOf, ptrsOf, boxesOf, orO_some, eqT_some, tk3, sz9, Try.underlying44, ok36, rowS]
  refine ⟨fun hlt => ?_, fun hge => ?_⟩
  · have hx := List.getElem?_eq_getElem hlt
    generalize hx2 : names[i] = x at hx
    have w1 : IntKind.i64.wrap ((i : Int) + 1) = (i : Int) + 1 := wr_i64 (by omega)
    have htk : names.take (i + 1) = names.take i ++ [x] := by rw [List.take_add_one, hx]; rfl
    simp [evOps_cons, opG_none, opA_load, opA_call, putO_some, putH_lt, loadT, opS, opV, Go.Mx.look, mapO, callA, partA, loadA, loadS, sz9, ag9, ok31, hx2, strV, hlt]
    refine rplace_sp a L fp x _ _ (hr.same (Same.app [] _ _) (by simp)) hL ?_
    cases hp : placeN L x with
    | none =>
      simp [ev_seq, ev_cond2, ev_ret, ev_region2, evOps_nil, evOps_cons, opG_none, opA_move, opA_assign, opA_un, opA_extract, putO_some, putH_lt, putC_lt, condB_true, unT, extractT, opS, opV, Go.Mx.look, seqK, blockK, Fr.known, retK, retA, resA, mapO, unA, extractA, placeV]
      refine NewT.mk [] (Same.app _ _ _) (.inl ⟨rfl, rfl⟩) (by simp) (by simp) ?_
      simp
      exact h0 (by simp [found]; exact ⟨x, List.mem_of_getElem? hx, hp⟩)
    | some k =>
      have hk := placeN_lt hp
      simp [ev_skip, ev_seq, ev_cond2, ev_region2, evOps_nil, evOps_cons, opG_none, opA_move, opA_assign, opA_bin, opA_un, opA_extract, opA_indexAddr, opA_store, putO_some, putH_lt, putC_lt, putU_none, condB_false, binT_some, binA, avO_some, unT, extractT, indexAddrT, storeT, io_add, opS, opV, Go.Mx.look, seqK, blockK, Fr.known, mapO, unA, extractA, cellsA_v, okPart_v, Value.oneCell', indexAddrA, storeS, headK, getV, getB, chkP, orO_some, eqT_some, tk3, sz4, Try.underlying23, placeV, w1, hk, cellsF_len]
      refine ⟨hk, names.length - (i + 1), by omega, i + 1, by omega, rfl, by simp [rowS], ?_, ?_⟩
      · have e := cellsF_set L.length (fun k => (names.take i).any (fun nm => decide (placeN L nm = some k))) k
        simp only [boolV] at e
        rw [e, htk]
        congr 3
        refine congrArg (cellsF L.length) (funext fun k2 => ?_)
        rw [List.any_append]
        simp [hp, eq_comm]
      · rw [htk]
        intro nm hnm
        rcases List.mem_append.1 hnm with h5 | h5
        · exact hall nm h5
        · simp at h5; subst h5; rw [hp]; rfl
  · have hi2 : i = names.length := by omega
    subst hi2
    rw [List.take_length] at hall
    have hf : found L names = true := by simp only [found, List.all_eq_true]; exact hall
    rw [List.take_length]
    simp
    refine where2_sp _ _ L.length (fun k => names.any (fun nm => decide (placeN L nm = some k))) _ _ (by simp) hL (fun v H3 hn => ?_)
    simp [ev_ret, evOps_nil, evOps_cons, opG_none, opA_assign, putO_some, putH_lt, putC_lt, opS, opV, Go.Mx.look, seqK, retK, retA, resA, mapO]
    have e : whereN L.length (fun k => names.any (fun nm => decide (placeN L nm = some k))) = places L names := rfl
    rw [e] at hn
    refine NewT.mk ((ofN (places L names)).map intV) ((Same.app [] H _).trans hn.2 (by simp)) (hn.1.later (by simp)) (low_intN _) (by simp) ?_
    rw [rowI_eq]; exact h1 hf
end Go.Proofs.Ytpmhhbdfompbhaa

namespace Go.Proofs.Ytpmhhbdfompbhaa
open Go.Mx Go.Dag
set_option linter.unusedVariables false
set_option linter.unusedSimpArgs false

theorem inI_sp (x : Int) (l : List Nat) (H : Hp) (Q : AV → Hp → Prop) (hb : l.length ≤ 100000) (h1 : x ∈ ofN l → Q (.v (.bool true)) H) (h0 : x ∉ ofN l → Q (.v (.bool false)) H) :
    Sp Try.prog 18 [.v (.int .i64 x), rowI l] Q H :=
  Sp.argW (args' := [.v (.int .i64 x), rowZ (ofN l)]) ⟨Wk.refl _, rowI_wk l, trivial⟩ (in_sp x (ofN l) H Q (by rw [ofN_len]; omega) h1 h0)

/-- The document's walk, from the last place down. -/
def RcInv (a : Nat) (L : List Th) (au : Bool) (l : List Int) (H : Hp) (n : Nat) (xs : List AV) (H2 : Hp) : Prop :=
  ∃ g : Nat → Bool, n ≤ L.length ∧ xs = [.ptr a 0 0, rowZ l, boolV au, .sl H.length 0 1 0 L.length, .v (.int .i64 ((n : Int) - 1))] ∧ H2 = H ++ [.cells 0 (cellsF L.length g)] ∧ scan (edge L au) l n g = past L au l
def RcInv2 (a : Nat) (L : List Th) (au : Bool) (l : List Int) (H : Hp) (g : Nat → Bool) (i : Nat) (n : Nat) (xs : List AV) (H2 : Hp) : Prop :=
  ∃ j, j ≤ (edge L au i).length ∧ n = (edge L au i).length - j ∧ xs = [.ptr a 0 0, rowZ l, boolV au, .sl H.length 0 1 0 L.length, .v (.int .i64 i), rowI (edge L au i), .v (.int .i64 j)] ∧
    H2 = H ++ [.cells 0 (cellsF L.length (fun k => g k || decide (k ∈ (edge L au i).take j)))]

set_option maxHeartbeats 4000000 in
theorem rreach_false (a : Nat) (L : List Th) (fp : List Nat) (hG : Dag.Good L) (l : List Int) (H : Hp) (Q : AV → Hp → Prop) (hr : RfAt H a L fp) (hL : L.length ≤ 100000) (hl : l.length ≤ 100000)
    (h : Q (rowI (pastL L false l)) H) : Sp Try.prog 20 [.ptr a 0 0, rowZ l, boolV false] Q H := by
  refine Sp.places (l := pastL L false l) (Sp.body [(3, ⟨[0, 1, 2, 7, 8], [], []⟩), (10, ⟨[0, 1, 2, 7, 8, 9, 10], [], []⟩)] ⟨[], [], []⟩ [] mo Try.func20 rfl (Nat.le_of_ble_eq_true rfl) (by kernel_rfl) ?_)
  obtain ⟨tv, h2, hlen, hel⟩ := hr.head
  have hlt0 := Hp.lt h2
  have hG2 : ∀ c, (H ++ [c])[a]? = some (Ob.cells 0 [tv]) := fun c => by rw [List.getElem?_append_left hlt0]; exact h2
  have w0 : IntKind.i64.wrap ((L.length : Int) - 1) = (L.length : Int) - 1 := wr_i64 (by omega)
  simp [ev_seq, ev_block, ev_region2, ev_loop, loopK, evOps_nil, evOps_cons, opG_none, opA_move, opA_assign, opA_bin, opA_load, opA_fieldAddr, opA_nilCheck, opA_len, opA_makeSlice, putO_some, putH_lt, putC_lt, binT_some, binA, avO_some, loadT, nilCheckT, fieldAddrT, makeSliceT, io_sub, opS, opV, Go.Mx.look, fr0, argSlots, seqK, mapO, partA, loadA, loadS, plusS, nilCheckS, headK, getV, getB, chkP, firstReg, makeA, orO_some, eqT_some, tk3, sz4, by4, ze4, Try.underlying23, sz50, ag50, Try.underlying50, Try.underlying52, h2, hlen, rowZ, boolV, hG2, w0]
  refine ⟨by omega, ?_⟩
  refine LoopC.intro (fun n xs _ H2 => RcInv a L false l H n xs H2) L.length ⟨_, Nat.le_refl _, by simp [rowZ, boolV], by rw [falses], rfl⟩ ?_
  rintro n xs bs H2 ⟨g, hn, rfl, rfl, hsc⟩
  simp [ev_skip, ev_seq, ev_cond2, ev_block, ev_exit, ev_region2, evOps_nil, evOps_cons, opG_none, opA_move, opA_bin, opA_call, putO_some, putH_lt, binT_some, binA, avO_some, io_geq, opS, opV, Go.Mx.look, seqK, blockK, Fr.known, mapO, callA, mkFr, slotsOf, ptrsOf, boxesOf, orO_some, eqT_some, tk3, ok18, ok36, rowZ, boolV]
  refine ⟨fun hpos => ?_, fun hneg => ?_⟩
  · obtain ⟨i, rfl⟩ : ∃ i, n = i + 1 := ⟨n - 1, by omega⟩
    have hi1 : ((i + 1 : Nat) : Int) - 1 = (i : Int) := by omega
    have w1 : IntKind.i64.wrap ((i : Int) - 1) = (i : Int) - 1 := wr_i64 (by omega)
    have hil : i < L.length := by omega
    have hcg := cellsF_get L.length g i hil
    have hci : i < (cellsF L.length g).length := by rw [cellsF_len]; exact hil
    have hcv : (cellsF L.length g)[i] = AV.v (.bool (g i)) := by rw [List.getElem?_eq_getElem hci] at hcg; simpa [boolV] using hcg
    rw [hi1]
    refine in_sp i l _ _ (by omega) (fun hin => ?_) (fun hin => ?_)
    · have hc : (decide ((i : Int) ∈ l) || g i) = true := by simp [hin]
      obtain ⟨t, ht⟩ : ∃ t, L[i]? = some t := ⟨_, List.getElem?_eq_getElem hil⟩
      obtain ⟨tt, tver, rfl, h3⟩ := hel i t ht
      have hlt3 := Hp.lt h3
      have hG3 : ∀ c, (H ++ [c])[tt]? = some (Ob.cells tver (L.flatMap thC)) := fun c => by rw [List.getElem?_append_left hlt3]; exact h3
      have g1 := flat_get thC_len ht 1 (by omega)
      have g2 := flat_get thC_len ht 2 (by omega)
      simp [thC] at g1 g2
      have he : t.prev = edge L false i := by unfold edge; rw [ht]; simp
      have hel2 : (edge L false i).length ≤ 100000 := by have := edgeZ_len hG false (i : Int); rw [edgeZ_nat] at this; omega
      have hEb : ∀ k ∈ edge L false i, k < L.length := fun k hk => by have := edge_lt hG hk; omega
      have hsc2 : scan (edge L false) l i (fun k => g k || decide (k ∈ edge L false i)) = past L false l := by
        rw [← hsc]; conv => rhs; unfold scan
        rw [if_pos hc]
      rw [he] at g1
      simp [ev_skip, ev_seq, ev_cond2, ev_block, ev_region2, ev_loop, loopK, evOps_nil, evOps_cons, opG_none, opG_some, opJ, opU_ft, isU_bool, opA_move, opA_assign, opA_pick, opA_un, opA_load, opA_indexAddr, opA_fieldAddr, opA_nilCheck, putO_some, putH_lt, putC_lt, putV_lt, condB_false, pickT, unT, loadT, nilCheckT, fieldAddrT, indexAddrT, opS, opV, Go.Mx.look, seqK, Fr.known, mapO, unA, partA, loadA, loadS, plusS, indexAddrA, nilCheckS, headK, getV, getB, chkP, firstReg, sz30, ag30, sz50, ag50, Try.underlying50, Try.underlying52, sz54, Try.underlying54, hG2, hG3, hil, g1]
      refine LoopC.intro (fun n xs _ H2 => RcInv2 a L false l H g i n xs H2) (edge L false i).length ⟨0, by omega, by omega, by simp [rowZ, boolV], by simp⟩ ?_
      rintro n xs bs H2 ⟨j, hj, rfl, rfl, rfl⟩
      simp [ev_skip, ev_seq, ev_cond2, ev_block, ev_exit, ev_region2, evOps_nil, evOps_cons, opG_none, opA_move, opA_assign, opA_bin, opA_indexAddr, opA_len, putO_some, putH_lt, binT_some, binA, avO_some, indexAddrT, io_sub, io_lss, opS, opV, Go.Mx.look, seqK, blockK, Fr.known, mapO, indexAddrA, headK, getV, getB, chkP, mkFr, slotsOf, ptrsOf, boxesOf, orO_some, eqT_some, sz3, tk3, Try.underlying30, rowZ, boolV, lenT_rowI]
      refine ⟨fun hlt => ?_, fun hge => ?_⟩
      · obtain ⟨k, hk⟩ : ∃ k, (edge L false i)[j]? = some k := ⟨_, List.getElem?_eq_getElem hlt⟩
        have hkE : k ∈ edge L false i := List.mem_of_getElem? hk
        have hkm := hEb k hkE
        have hne : edge L false i ≠ [] := fun e => by rw [e] at hlt; simp at hlt
        have hrow := rowI_ne hne
        have hlz : j < (ofN (edge L false i)).length := by simpa [ofN] using hlt
        have hkz : (ofN (edge L false i))[j] = (k : Int) := by
          have : (ofN (edge L false i))[j]? = some (k : Int) := by simp [ofN, hk]
          rw [List.getElem?_eq_getElem hlz] at this; simpa using this
        have w2 : IntKind.i64.wrap ((j : Int) + 1) = (j : Int) + 1 := wr_i64 (by omega)
        have htk : (edge L false i).take (j + 1) = (edge L false i).take j ++ [k] := by rw [List.take_add_one, hk]; rfl
        simp [ev_region2, evOps_nil, evOps_cons, opG_none, opA_move, opA_assign, opA_bin, opA_load, opA_indexAddr, opA_store, putO_some, putH_lt, putU_none, binT_some, binA, avO_some, loadT, indexAddrT, storeT, io_add, opS, opV, Go.Mx.look, seqK, blockK, mapO, cellsA_v, okPart_v, Value.oneCell', partA, loadA, loadS, indexAddrA, storeS, headK, getV, getB, chkP, orO_some, eqT_some, sz3, ag3, tk3, sz4, Try.underlying23, hrow, hkz, hlt, hlz, intV, w2, hkm, cellsF_len]
        refine ⟨hkm, (edge L false i).length - (j + 1), by omega, j + 1, by omega, rfl, by simp [rowZ, boolV, hrow], ?_⟩
        have e := cellsF_set L.length (fun k => g k || decide (k ∈ (edge L false i).take j)) k
        simp only [boolV] at e
        rw [e, htk]
        congr 3
        exact congrArg (cellsF L.length) (funext fun k2 => by simp [Bool.or_assoc])
      · have hj2 : j = (edge L false i).length := by omega
        subst hj2
        simp [w1]
        exact ⟨i, by omega, _, by omega, by simp [rowZ, boolV], rfl, hsc2⟩
    · cases hg : g i with
      | false =>
        rw [hg] at hcv
        simp [ev_cond2, ev_exit, ev_region2, evOps_nil, evOps_cons, opG_none, opG_some, opJ, opU_ft, isU_bool, opK_eq, opA_move, opA_assign, opA_pick, opA_bin, opA_un, opA_load, opA_indexAddr, putO_some, putH_lt, putC_lt, condB_true, binT_some, binA, avO_some, pickT, unT, loadT, indexAddrT, io_sub, opS, opV, Go.Mx.look, seqK, blockK, Fr.known, mapO, unA, partA, loadA, loadS, indexAddrA, headK, getV, getB, chkP, orO_some, eqT_some, tk3, sz4, ag4, Try.underlying23, hil, cellsF_len, hcv, w1]
        refine ⟨i, by omega, g, by omega, by simp [rowZ, boolV], rfl, ?_⟩
        rw [← hsc]
        conv => rhs; unfold scan
        rw [if_neg (by simp [hin, hg])]
      | true =>
        rw [hg] at hcv
        have hc : (decide ((i : Int) ∈ l) || g i) = true := by simp [hg]
        obtain ⟨t, ht⟩ : ∃ t, L[i]? = some t := ⟨_, List.getElem?_eq_getElem hil⟩
        obtain ⟨tt, tver, rfl, h3⟩ := hel i t ht
        have hlt3 := Hp.lt h3
        have hG3 : ∀ c, (H ++ [c])[tt]? = some (Ob.cells tver (L.flatMap thC)) := fun c => by rw [List.getElem?_append_left hlt3]; exact h3
        have g1 := flat_get thC_len ht 1 (by omega)
        have g2 := flat_get thC_len ht 2 (by omega)
        simp [thC] at g1 g2
        have he : t.prev = edge L false i := by unfold edge; rw [ht]; simp
        have hel2 : (edge L false i).length ≤ 100000 := by have := edgeZ_len hG false (i : Int); rw [edgeZ_nat] at this; omega
        have hEb : ∀ k ∈ edge L false i, k < L.length := fun k hk => by have := edge_lt hG hk; omega
        have hsc2 : scan (edge L false) l i (fun k => g k || decide (k ∈ edge L false i)) = past L false l := by
          rw [← hsc]; conv => rhs; unfold scan
          rw [if_pos hc]
        rw [he] at g1
        simp [ev_skip, ev_seq, ev_cond2, ev_block, ev_region2, ev_loop, loopK, evOps_nil, evOps_cons, opG_none, opG_some, opJ, opU_ft, isU_bool, opK_eq, opA_move, opA_assign, opA_pick, opA_un, opA_load, opA_indexAddr, opA_fieldAddr, opA_nilCheck, putO_some, putH_lt, putC_lt, condB_true, condB_false, pickT, unT, loadT, nilCheckT, fieldAddrT, indexAddrT, opS, opV, Go.Mx.look, seqK, Fr.known, mapO, unA, partA, loadA, loadS, plusS, indexAddrA, nilCheckS, headK, getV, getB, chkP, firstReg, sz4, ag4, Try.underlying23, sz30, ag30, sz50, ag50, Try.underlying50, Try.underlying52, sz54, Try.underlying54, hG2, hG3, hil, g1, cellsF_len, hcv]
        refine LoopC.intro (fun n xs _ H2 => RcInv2 a L false l H g i n xs H2) (edge L false i).length ⟨0, by omega, by omega, by simp [rowZ, boolV], by simp⟩ ?_
        rintro n xs bs H2 ⟨j, hj, rfl, rfl, rfl⟩
        simp [ev_skip, ev_seq, ev_cond2, ev_block, ev_exit, ev_region2, evOps_nil, evOps_cons, opG_none, opA_move, opA_assign, opA_bin, opA_indexAddr, opA_len, putO_some, putH_lt, binT_some, binA, avO_some, indexAddrT, io_sub, io_lss, opS, opV, Go.Mx.look, seqK, blockK, Fr.known, mapO, indexAddrA, headK, getV, getB, chkP, mkFr, slotsOf, ptrsOf, boxesOf, orO_some, eqT_some, sz3, tk3, Try.underlying30, rowZ, boolV, lenT_rowI]
        refine ⟨fun hlt => ?_, fun hge => ?_⟩
        · obtain ⟨k, hk⟩ : ∃ k, (edge L false i)[j]? = some k := ⟨_, List.getElem?_eq_getElem hlt⟩
          have hkE : k ∈ edge L false i := List.mem_of_getElem? hk
          have hkm := hEb k hkE
          have hne : edge L false i ≠ [] := fun e => by rw [e] at hlt; simp at hlt
          have hrow := rowI_ne hne
          have hlz : j < (ofN (edge L false i)).length := by simpa [ofN] using hlt
          have hkz : (ofN (edge L false i))[j] = (k : Int) := by
            have : (ofN (edge L false i))[j]? = some (k : Int) := by simp [ofN, hk]
            rw [List.getElem?_eq_getElem hlz] at this; simpa using this
          have w2 : IntKind.i64.wrap ((j : Int) + 1) = (j : Int) + 1 := wr_i64 (by omega)
          have htk : (edge L false i).take (j + 1) = (edge L false i).take j ++ [k] := by rw [List.take_add_one, hk]; rfl
          simp [ev_region2, evOps_nil, evOps_cons, opG_none, opA_move, opA_assign, opA_bin, opA_load, opA_indexAddr, opA_store, putO_some, putH_lt, putU_none, binT_some, binA, avO_some, loadT, indexAddrT, storeT, io_add, opS, opV, Go.Mx.look, seqK, blockK, mapO, cellsA_v, okPart_v, Value.oneCell', partA, loadA, loadS, indexAddrA, storeS, headK, getV, getB, chkP, orO_some, eqT_some, sz3, ag3, tk3, sz4, Try.underlying23, hrow, hkz, hlt, hlz, intV, w2, hkm, cellsF_len]
          refine ⟨hkm, (edge L false i).length - (j + 1), by omega, j + 1, by omega, rfl, by simp [rowZ, boolV, hrow], ?_⟩
          have e := cellsF_set L.length (fun k => g k || decide (k ∈ (edge L false i).take j)) k
          simp only [boolV] at e
          rw [e, htk]
          congr 3
          exact congrArg (cellsF L.length) (funext fun k2 => by simp [Bool.or_assoc])
        · have hj2 : j = (edge L false i).length := by omega
          subst hj2
          simp [w1]
          exact ⟨i, by omega, _, by omega, by simp [rowZ, boolV], rfl, hsc2⟩
  · have : n = 0 := by omega
    subst this
    simp only [scan] at hsc
    subst hsc
    simp
    refine where2_sp _ _ L.length (past L false l) _ _ (by simp) hL (fun v H3 hn => ?_)
    simp [ev_ret, evOps_nil, evOps_cons, opG_none, opA_assign, putO_some, putH_lt, putC_lt, opS, opV, Go.Mx.look, seqK, retK, retA, resA, mapO]
    exact ⟨⟨hn.1.later (by simp), (Same.app [] H _).trans hn.2 (by simp)⟩, h⟩

set_option maxHeartbeats 4000000 in
theorem rreach_true (a : Nat) (L : List Th) (fp : List Nat) (hG : Dag.Good L) (l : List Int) (H : Hp) (Q : AV → Hp → Prop) (hr : RfAt H a L fp) (hL : L.length ≤ 100000) (hl : l.length ≤ 100000)
    (h : Q (rowI (pastL L true l)) H) : Sp Try.prog 20 [.ptr a 0 0, rowZ l, boolV true] Q H := by
  refine Sp.places (l := pastL L true l) (Sp.body [(3, ⟨[0, 1, 2, 7, 8], [], []⟩), (10, ⟨[0, 1, 2, 7, 8, 9, 10], [], []⟩)] ⟨[], [], []⟩ [] mo Try.func20 rfl (Nat.le_of_ble_eq_true rfl) (by kernel_rfl) ?_)
  obtain ⟨tv, h2, hlen, hel⟩ := hr.head
  have hlt0 := Hp.lt h2
  have hG2 : ∀ c, (H ++ [c])[a]? = some (Ob.cells 0 [tv]) := fun c => by rw [List.getElem?_append_left hlt0]; exact h2
  have w0 : IntKind.i64.wrap ((L.length : Int) - 1) = (L.length : Int) - 1 := wr_i64 (by omega)
  simp [ev_seq, ev_block, ev_region2, ev_loop, loopK, evOps_nil, evOps_cons, opG_none, opA_move, opA_assign, opA_bin, opA_load, opA_fieldAddr, opA_nilCheck, opA_len, opA_makeSlice, putO_some, putH_lt, putC_lt, binT_some, binA, avO_some, loadT, nilCheckT, fieldAddrT, makeSliceT, io_sub, opS, opV, Go.Mx.look, fr0, argSlots, seqK, mapO, partA, loadA, loadS, plusS, nilCheckS, headK, getV, getB, chkP, firstReg, makeA, orO_some, eqT_some, tk3, sz4, by4, ze4, Try.underlying23, sz50, ag50, Try.underlying50, Try.underlying52, h2, hlen, rowZ, boolV, hG2, w0]
  refine ⟨by omega, ?_⟩
  refine LoopC.intro (fun n xs _ H2 => RcInv a L true l H n xs H2) L.length ⟨_, Nat.le_refl _, by simp [rowZ, boolV], by rw [falses], rfl⟩ ?_
  rintro n xs bs H2 ⟨g, hn, rfl, rfl, hsc⟩
  simp [ev_skip, ev_seq, ev_cond2, ev_block, ev_exit, ev_region2, evOps_nil, evOps_cons, opG_none, opA_move, opA_bin, opA_call, putO_some, putH_lt, binT_some, binA, avO_some, io_geq, opS, opV, Go.Mx.look, seqK, blockK, Fr.known, mapO, callA, mkFr, slotsOf, ptrsOf, boxesOf, orO_some, eqT_some, tk3, ok18, ok36, rowZ, boolV]
  refine ⟨fun hpos => ?_, fun hneg => ?_⟩
  · obtain ⟨i, rfl⟩ : ∃ i, n = i + 1 := ⟨n - 1, by omega⟩
    have hi1 : ((i + 1 : Nat) : Int) - 1 = (i : Int) := by omega
    have w1 : IntKind.i64.wrap ((i : Int) - 1) = (i : Int) - 1 := wr_i64 (by omega)
    have hil : i < L.length := by omega
    have hcg := cellsF_get L.length g i hil
    have hci : i < (cellsF L.length g).length := by rw [cellsF_len]; exact hil
    have hcv : (cellsF L.length g)[i] = AV.v (.bool (g i)) := by rw [List.getElem?_eq_getElem hci] at hcg; simpa [boolV] using hcg
    rw [hi1]
    refine in_sp i l _ _ (by omega) (fun hin => ?_) (fun hin => ?_)
    · have hc : (decide ((i : Int) ∈ l) || g i) = true := by simp [hin]
      obtain ⟨t, ht⟩ : ∃ t, L[i]? = some t := ⟨_, List.getElem?_eq_getElem hil⟩
      obtain ⟨tt, tver, rfl, h3⟩ := hel i t ht
      have hlt3 := Hp.lt h3
      have hG3 : ∀ c, (H ++ [c])[tt]? = some (Ob.cells tver (L.flatMap thC)) := fun c => by rw [List.getElem?_append_left hlt3]; exact h3
      have g1 := flat_get thC_len ht 1 (by omega)
      have g2 := flat_get thC_len ht 2 (by omega)
      simp [thC] at g1 g2
      have he : t.auth = edge L true i := by unfold edge; rw [ht]; simp
      have hel2 : (edge L true i).length ≤ 100000 := by have := edgeZ_len hG true (i : Int); rw [edgeZ_nat] at this; omega
      have hEb : ∀ k ∈ edge L true i, k < L.length := fun k hk => by have := edge_lt hG hk; omega
      have hsc2 : scan (edge L true) l i (fun k => g k || decide (k ∈ edge L true i)) = past L true l := by
        rw [← hsc]; conv => rhs; unfold scan
        rw [if_pos hc]
      rw [he] at g2
      simp [ev_skip, ev_seq, ev_cond2, ev_block, ev_region2, ev_loop, loopK, evOps_nil, evOps_cons, opG_none, opG_some, opJ, opU_ft, isU_bool, opA_move, opA_assign, opA_pick, opA_un, opA_load, opA_indexAddr, opA_fieldAddr, opA_nilCheck, putO_some, putH_lt, putC_lt, putV_lt, condB_true, condB_false, pickT, unT, loadT, nilCheckT, fieldAddrT, indexAddrT, opS, opV, Go.Mx.look, seqK, Fr.known, mapO, unA, partA, loadA, loadS, plusS, indexAddrA, nilCheckS, headK, getV, getB, chkP, firstReg, sz30, ag30, sz50, ag50, Try.underlying50, Try.underlying52, sz54, Try.underlying54, hG2, hG3, hil, g1, g2]
      refine LoopC.intro (fun n xs _ H2 => RcInv2 a L true l H g i n xs H2) (edge L true i).length ⟨0, by omega, by omega, by simp [rowZ, boolV], by simp⟩ ?_
      rintro n xs bs H2 ⟨j, hj, rfl, rfl, rfl⟩
      simp [ev_skip, ev_seq, ev_cond2, ev_block, ev_exit, ev_region2, evOps_nil, evOps_cons, opG_none, opA_move, opA_assign, opA_bin, opA_indexAddr, opA_len, putO_some, putH_lt, binT_some, binA, avO_some, indexAddrT, io_sub, io_lss, opS, opV, Go.Mx.look, seqK, blockK, Fr.known, mapO, indexAddrA, headK, getV, getB, chkP, mkFr, slotsOf, ptrsOf, boxesOf, orO_some, eqT_some, sz3, tk3, Try.underlying30, rowZ, boolV, lenT_rowI]
      refine ⟨fun hlt => ?_, fun hge => ?_⟩
      · obtain ⟨k, hk⟩ : ∃ k, (edge L true i)[j]? = some k := ⟨_, List.getElem?_eq_getElem hlt⟩
        have hkE : k ∈ edge L true i := List.mem_of_getElem? hk
        have hkm := hEb k hkE
        have hne : edge L true i ≠ [] := fun e => by rw [e] at hlt; simp at hlt
        have hrow := rowI_ne hne
        have hlz : j < (ofN (edge L true i)).length := by simpa [ofN] using hlt
        have hkz : (ofN (edge L true i))[j] = (k : Int) := by
          have : (ofN (edge L true i))[j]? = some (k : Int) := by simp [ofN, hk]
          rw [List.getElem?_eq_getElem hlz] at this; simpa using this
        have w2 : IntKind.i64.wrap ((j : Int) + 1) = (j : Int) + 1 := wr_i64 (by omega)
        have htk : (edge L true i).take (j + 1) = (edge L true i).take j ++ [k] := by rw [List.take_add_one, hk]; rfl
        simp [ev_region2, evOps_nil, evOps_cons, opG_none, opA_move, opA_assign, opA_bin, opA_load, opA_indexAddr, opA_store, putO_some, putH_lt, putU_none, binT_some, binA, avO_some, loadT, indexAddrT, storeT, io_add, opS, opV, Go.Mx.look, seqK, blockK, mapO, cellsA_v, okPart_v, Value.oneCell', partA, loadA, loadS, indexAddrA, storeS, headK, getV, getB, chkP, orO_some, eqT_some, sz3, ag3, tk3, sz4, Try.underlying23, hrow, hkz, hlt, hlz, intV, w2, hkm, cellsF_len]
        refine ⟨hkm, (edge L true i).length - (j + 1), by omega, j + 1, by omega, rfl, by simp [rowZ, boolV, hrow], ?_⟩
        have e := cellsF_set L.length (fun k => g k || decide (k ∈ (edge L true i).take j)) k
        simp only [boolV] at e
        rw [e, htk]
        congr 3
        exact congrArg (cellsF L.length) (funext fun k2 => by simp [Bool.or_assoc])
      · have hj2 : j = (edge L true i).length := by omega
        subst hj2
        simp [w1]
        exact ⟨i, by omega, _, by omega, by simp [rowZ, boolV], rfl, hsc2⟩
    · cases hg : g i with
      | false =>
        rw [hg] at hcv
        simp [ev_cond2, ev_exit, ev_region2, evOps_nil, evOps_cons, opG_none, opG_some, opJ, opU_ft, isU_bool, opK_eq, opA_move, opA_assign, opA_pick, opA_bin, opA_un, opA_load, opA_indexAddr, putO_some, putH_lt, putC_lt, condB_true, binT_some, binA, avO_some, pickT, unT, loadT, indexAddrT, io_sub, opS, opV, Go.Mx.look, seqK, blockK, Fr.known, mapO, unA, partA, loadA, loadS, indexAddrA, headK, getV, getB, chkP, orO_some, eqT_some, tk3, sz4, ag4, Try.underlying23, hil, cellsF_len, hcv, w1]
        refine ⟨i, by omega, g, by omega, by simp [rowZ, boolV], rfl, ?_⟩
        rw [← hsc]
        conv => rhs; unfold scan
        rw [if_neg (by simp [hin, hg])]
      | true =>
        rw [hg] at hcv
        have hc : (decide ((i : Int) ∈ l) || g i) = true := by simp [hg]
        obtain ⟨t, ht⟩ : ∃ t, L[i]? = some t := ⟨_, List.getElem?_eq_getElem hil⟩
        obtain ⟨tt, tver, rfl, h3⟩ := hel i t ht
        have hlt3 := Hp.lt h3
        have hG3 : ∀ c, (H ++ [c])[tt]? = some (Ob.cells tver (L.flatMap thC)) := fun c => by rw [List.getElem?_append_left hlt3]; exact h3
        have g1 := flat_get thC_len ht 1 (by omega)
        have g2 := flat_get thC_len ht 2 (by omega)
        simp [thC] at g1 g2
        have he : t.auth = edge L true i := by unfold edge; rw [ht]; simp
        have hel2 : (edge L true i).length ≤ 100000 := by have := edgeZ_len hG true (i : Int); rw [edgeZ_nat] at this; omega
        have hEb : ∀ k ∈ edge L true i, k < L.length := fun k hk => by have := edge_lt hG hk; omega
        have hsc2 : scan (edge L true) l i (fun k => g k || decide (k ∈ edge L true i)) = past L true l := by
          rw [← hsc]; conv => rhs; unfold scan
          rw [if_pos hc]
        rw [he] at g2
        simp [ev_skip, ev_seq, ev_cond2, ev_block, ev_region2, ev_loop, loopK, evOps_nil, evOps_cons, opG_none, opG_some, opJ, opU_ft, isU_bool, opK_eq, opA_move, opA_assign, opA_pick, opA_un, opA_load, opA_indexAddr, opA_fieldAddr, opA_nilCheck, putO_some, putH_lt, putC_lt, condB_true, condB_false, pickT, unT, loadT, nilCheckT, fieldAddrT, indexAddrT, opS, opV, Go.Mx.look, seqK, Fr.known, mapO, unA, partA, loadA, loadS, plusS, indexAddrA, nilCheckS, headK, getV, getB, chkP, firstReg, sz4, ag4, Try.underlying23, sz30, ag30, sz50, ag50, Try.underlying50, Try.underlying52, sz54, Try.underlying54, hG2, hG3, hil, g1, g2, cellsF_len, hcv]
        refine LoopC.intro (fun n xs _ H2 => RcInv2 a L true l H g i n xs H2) (edge L true i).length ⟨0, by omega, by omega, by simp [rowZ, boolV], by simp⟩ ?_
        rintro n xs bs H2 ⟨j, hj, rfl, rfl, rfl⟩
        simp [ev_skip, ev_seq, ev_cond2, ev_block, ev_exit, ev_region2, evOps_nil, evOps_cons, opG_none, opA_move, opA_assign, opA_bin, opA_indexAddr, opA_len, putO_some, putH_lt, binT_some, binA, avO_some, indexAddrT, io_sub, io_lss, opS, opV, Go.Mx.look, seqK, blockK, Fr.known, mapO, indexAddrA, headK, getV, getB, chkP, mkFr, slotsOf, ptrsOf, boxesOf, orO_some, eqT_some, sz3, tk3, Try.underlying30, rowZ, boolV, lenT_rowI]
        refine ⟨fun hlt => ?_, fun hge => ?_⟩
        · obtain ⟨k, hk⟩ : ∃ k, (edge L true i)[j]? = some k := ⟨_, List.getElem?_eq_getElem hlt⟩
          have hkE : k ∈ edge L true i := List.mem_of_getElem? hk
          have hkm := hEb k hkE
          have hne : edge L true i ≠ [] := fun e => by rw [e] at hlt; simp at hlt
          have hrow := rowI_ne hne
          have hlz : j < (ofN (edge L true i)).length := by simpa [ofN] using hlt
          have hkz : (ofN (edge L true i))[j] = (k : Int) := by
            have : (ofN (edge L true i))[j]? = some (k : Int) := by simp [ofN, hk]
            rw [List.getElem?_eq_getElem hlz] at this; simpa using this
          have w2 : IntKind.i64.wrap ((j : Int) + 1) = (j : Int) + 1 := wr_i64 (by omega)
          have htk : (edge L true i).take (j + 1) = (edge L true i).take j ++ [k] := by rw [List.take_add_one, hk]; rfl
          simp [ev_region2, evOps_nil, evOps_cons, opG_none, opA_move, opA_assign, opA_bin, opA_load, opA_indexAddr, opA_store, putO_some, putH_lt, putU_none, binT_some, binA, avO_some, loadT, indexAddrT, storeT, io_add, opS, opV, Go.Mx.look, seqK, blockK, mapO, cellsA_v, okPart_v, Value.oneCell', partA, loadA, loadS, indexAddrA, storeS, headK, getV, getB, chkP, orO_some, eqT_some, sz3, ag3, tk3, sz4, Try.underlying23, hrow, hkz, hlt, hlz, intV, w2, hkm, cellsF_len]
          refine ⟨hkm, (edge L true i).length - (j + 1), by omega, j + 1, by omega, rfl, by simp [rowZ, boolV, hrow], ?_⟩
          have e := cellsF_set L.length (fun k => g k || decide (k ∈ (edge L true i).take j)) k
          simp only [boolV] at e
          rw [e, htk]
          congr 3
          exact congrArg (cellsF L.length) (funext fun k2 => by simp [Bool.or_assoc])
        · have hj2 : j = (edge L true i).length := by omega
          subst hj2
          simp [w1]
          exact ⟨i, by omega, _, by omega, by simp [rowZ, boolV], rfl, hsc2⟩
  · have : n = 0 := by omega
    subst this
    simp only [scan] at hsc
    subst hsc
    simp
    refine where2_sp _ _ L.length (past L true l) _ _ (by simp) hL (fun v H3 hn => ?_)
    simp [ev_ret, evOps_nil, evOps_cons, opG_none, opA_assign, putO_some, putH_lt, putC_lt, opS, opV, Go.Mx.look, seqK, retK, retA, resA, mapO]
    exact ⟨⟨hn.1.later (by simp), (Same.app [] H _).trans hn.2 (by simp)⟩, h⟩

end Go.Proofs.Ytpmhhbdfompbhaa

namespace Go.Proofs.Ytpmhhbdfompbhaa
open Go.Mx Go.Dag
set_option linter.unusedVariables false
set_option linter.unusedSimpArgs false

def hdP (L : List Th) (kept : List Bool) (i : Nat) : Bool := kept.getD i false && !(flw L kept (min kept.length L.length) i)
theorem hdP_iff {L : List Th} (hG : Dag.Good L) {kept : List Bool} {i : Nat} {hd : Bool} (h : hd = true ↔ kept.getD i false = true ∧ ∀ j, i < j → j < min kept.length L.length → kept.getD j false = true → i ∉ edge L false j) : hd = hdP L kept i := by
  rw [Bool.eq_iff_iff, h]
  unfold hdP flw
  simp only [Bool.and_eq_true, Bool.not_eq_true', List.any_eq_false, List.mem_range, decide_eq_true_eq, not_and]
  constructor
  · rintro ⟨h1, h2⟩
    exact ⟨h1, fun j hj hk hm => h2 j (edge_lt hG hm).1 hj hk hm⟩
  · rintro ⟨h1, h2⟩
    exact ⟨h1, fun j _ hj hk => h2 j hj hk⟩
def RhInv (a : Nat) (L : List Th) (kept : List Bool) (H : Hp) (n : Nat) (xs : List AV) (H2 : Hp) : Prop :=
  ∃ i v, i ≤ min kept.length L.length ∧ n = min kept.length L.length - i ∧ xs = [.ptr a 0 0, rowB kept, v, .v (.int .i64 i)] ∧ NewR H H2 ((ofN (whereN i (hdP L kept))).map intV) v ∧ Same [] H H2
def RhInv2 (a : Nat) (L : List Th) (kept : List Bool) (v : AV) (i : Nat) (H1 : Hp) (n : Nat) (xs : List AV) (H2 : Hp) : Prop :=
  ∃ k hd, i < k ∧ k ≤ min kept.length L.length ∧ n = min kept.length L.length - k ∧ xs = [.ptr a 0 0, rowB kept, v, .v (.int .i64 i), boolV hd, .v (.int .i64 k)] ∧ H2 = H1 ∧
    (hd = true ↔ kept.getD i false = true ∧ ∀ j, i < j → j < k → kept.getD j false = true → i ∉ edge L false j)

set_option maxHeartbeats 4000000 in
theorem rheads_sp (a : Nat) (L : List Th) (fp : List Nat) (hG : Dag.Good L) (kept : List Bool) (H : Hp) (Q : AV → Hp → Prop) (hr : RfAt H a L fp) (hL : L.length ≤ 100000) (hl : kept.length ≤ 100000)
    (h : Q (rowI (headsL L kept)) H) : Sp Try.prog 14 [.ptr a 0 0, rowB kept] Q H := by
  refine Sp.places (l := headsL L kept) (Sp.body [(3, ⟨[0, 1, 5, 6], [], []⟩), (7, ⟨[0, 1, 5, 6, 7, 8], [], []⟩)] ⟨[], [], []⟩ [] mo Try.func14 rfl (Nat.le_of_ble_eq_true rfl) (by kernel_rfl) ?_)
  have hpl : headsL L kept = whereN (min kept.length L.length) (hdP L kept) := rfl
  simp [ev_seq, ev_block, ev_region2, ev_loop, loopK, evOps_nil, evOps_cons, opG_none, opA_assign, putO_some, putH_lt, opS, opV, Go.Mx.look, fr0, argSlots, seqK, mapO, headK, getV, getB, chkP, firstReg, rowB]
  refine LoopC.intro (fun n xs _ H2 => RhInv a L kept H n xs H2) (min kept.length L.length) ⟨0, _, by omega, rfl, by simp [rowB], .inl ⟨rfl, rfl⟩, Same.refl _ _⟩ ?_
  rintro n xs bs H2 ⟨i, v, hi, rfl, rfl, hn, hs⟩
  obtain ⟨tv, h2, hlen, hel⟩ := (hr.same hs (by simp)).head
  have fin : i = min kept.length L.length → Ns H H2 (headsL L kept) v ∧ Q (rowI (headsL L kept)) H := fun e => ⟨⟨by rw [hpl, ← e]; exact hn, hs⟩, h⟩
  simp [ev_skip, ev_seq, ev_cond2, ev_block, ev_exit, ev_ret, ev_region2, evOps_nil, evOps_cons, opG_none, opG_some, opJ, opU_ft, isU_bool, opK_eq, opA_move, opA_assign, opA_pick, opA_bin, opA_load, opA_indexAddr, opA_fieldAddr, opA_nilCheck, opA_len, putO_some, putH_lt, putV_lt, condB_true, condB_false, binT_some, binA, avO_some, pickT, loadT, nilCheckT, lenT_row, fieldAddrT, indexAddrT, io_lss, opS, opV, Go.Mx.look, seqK, blockK, Fr.known, retK, retA, resA, mapO, partA, loadA, loadS, plusS, indexAddrA, nilCheckS, mkFr, slotsOf, ptrsOf, boxesOf, orO_some, eqT_some, tk3, sz4, Try.underlying23, sz50, ag50, Try.underlying50, Try.underlying52, rowB, h2, hlen]
  refine ⟨fun hlt1 => ⟨fun hlt2 => ?_, fun hge => ?_⟩, fun hge => ?_⟩
  · have hx := List.getElem?_eq_getElem hlt2
    generalize hx2 : kept[i] = b at hx
    have hg1 : kept.getD i false = b := by rw [List.getD_eq_getElem?_getD, hx]; rfl
    have w1 : IntKind.i64.wrap ((i : Int) + 1) = (i : Int) + 1 := wr_i64 (by omega)
    simp [ev_seq, ev_block, ev_region2, ev_loop, loopK, evOps_nil, evOps_cons, opG_none, opA_move, opA_assign, opA_bin, opA_load, putO_some, putH_lt, binT_some, binA, avO_some, loadT, io_add, opS, opV, Go.Mx.look, seqK, mapO, partA, loadA, loadS, headK, getV, getB, chkP, firstReg, orO_some, eqT_some, tk3, sz4, ag4, hx2, boolV, hlt2, w1]
    refine LoopC.intro (fun n xs _ H3 => RhInv2 a L kept v i H2 n xs H3) (min kept.length L.length - (i + 1)) ⟨i + 1, b, by omega, by omega, rfl, by simp [rowB, boolV], rfl, ?_⟩ ?_
    · rw [hg1]
      exact ⟨fun hb => ⟨hb, fun j h1 h2 => by omega⟩, fun hb => hb.1⟩
    rintro n xs bs H3 ⟨k, hd, hik, hk, rfl, rfl, rfl, hiff⟩
    simp [ev_skip, ev_seq, ev_cond2, ev_block, ev_exit, ev_region2, evOps_nil, evOps_cons, opG_none, opG_some, opJ, opU_ft, isU_bool, opK_eq, opA_move, opA_assign, opA_pick, opA_bin, opA_load, opA_indexAddr, opA_fieldAddr, opA_nilCheck, opA_len, opA_buildSlice, opA_append, putO_some, putH_lt, putV_lt, condB_true, condB_false, binT_some, binA, avO_some, pickT, loadT, nilCheckT, lenT_row, fieldAddrT, indexAddrT, buildSliceT, appendT, io_add, io_lss, opS, opV, Go.Mx.look, seqK, blockK, Fr.known, mapO, cellsA_v, okPart_v, Value.oneCell', partA, loadA, loadS, plusS, indexAddrA, nilCheckS, fillA, headK, getV, getB, chkP, mkFr, slotsOf, ptrsOf, boxesOf, bindO, srcTy, orO_some, eqT_some, sz3, tk3, by3, ze3, sz4, Try.underlying23, st30, Try.underlying30, sz50, ag50, Try.underlying50, Try.underlying52, rowB, boolV, h2, hlen]
    refine ⟨fun hlt3 => ⟨fun hlt4 => ?_, fun hge => ?_⟩, fun hge => ?_⟩
    · have hy := List.getElem?_eq_getElem hlt4
      generalize hy2 : kept[k] = b2 at hy
      have hg2 : kept.getD k false = b2 := by rw [List.getD_eq_getElem?_getD, hy]; rfl
      have w2 : IntKind.i64.wrap ((k : Int) + 1) = (k : Int) + 1 := wr_i64 (by omega)
      have next : ∀ hd2, (hd2 = true ↔ hd = true ∧ (kept.getD k false = true → i ∉ edge L false k)) → (hd2 = true ↔ kept.getD i false = true ∧ ∀ j, i < j → j < k + 1 → kept.getD j false = true → i ∉ edge L false j) := by
        intro hd2 e
        rw [e, hiff]
        constructor
        · rintro ⟨⟨e1, e2⟩, e3⟩
          refine ⟨e1, fun j h1 h5 => ?_⟩
          rcases Nat.lt_or_ge j k with h6 | h6
          · exact e2 j h1 h6
          · obtain rfl : j = k := by omega
            exact e3
        · rintro ⟨e1, e2⟩
          exact ⟨⟨e1, fun j h1 h5 => e2 j h1 (by omega)⟩, e2 k hik (by omega)⟩
      cases b2 with
      | false =>
        simp [ev_skip, ev_cond2, ev_region2, evOps_nil, evOps_cons, opG_none, opG_some, opJ, opU_ft, isU_bool, opA_move, opA_assign, opA_pick, opA_bin, opA_load, putO_some, putH_lt, putV_lt, condB_false, binT_some, binA, avO_some, pickT, loadT, io_add, opS, opV, Go.Mx.look, seqK, blockK, Fr.known, mapO, partA, loadA, loadS, headK, getV, getB, chkP, orO_some, eqT_some, tk3, sz4, ag4, hy2, boolV, hlt4, w2]
        exact ⟨min kept.length L.length - (k + 1), by omega, k + 1, hd, by omega, by omega, rfl, by simp [rowB, boolV], rfl, next hd (by rw [hg2]; simp)⟩
      | true =>
        obtain ⟨t, ht⟩ : ∃ t, L[k]? = some t := ⟨_, List.getElem?_eq_getElem hlt3⟩
        obtain ⟨tt, tver, rfl, h3⟩ := hel k t ht
        have g1 := flat_get thC_len ht 1 (by omega)
        simp [thC] at g1
        have he : t.prev = edge L false k := by unfold edge; rw [ht]; simp
        rw [he] at g1
        have hel2 : (edge L false k).length ≤ 100000 := by have := edgeZ_len hG false (k : Int); rw [edgeZ_nat] at this; omega
        simp [evOps_cons, opG_none, opG_some, opJ, opU_ft, isU_bool, opK_eq, opA_move, opA_load, opA_indexAddr, opA_fieldAddr, opA_nilCheck, opA_call, putO_some, putH_lt, condB_true, loadT, nilCheckT, fieldAddrT, indexAddrT, opS, opV, Go.Mx.look, Fr.known, mapO, callA, partA, loadA, loadS, plusS, indexAddrA, nilCheckS, sz4, ag4, sz30, ag30, sz50, ag50, Try.underlying50, Try.underlying52, sz54, Try.underlying54, ok18, hy2, boolV, hlt3, hlt4, h2, h3, g1]
        have hof : ((i : Int) ∈ ofN (edge L false k)) ↔ i ∈ edge L false k := by
          rw [mem_ofN]
          exact ⟨fun ⟨j, hj, e⟩ => by have : j = i := by omega
                                      subst this; exact hj, fun h => ⟨i, h, rfl⟩⟩
        refine inI_sp i (edge L false k) _ _ hel2 (fun hin => ?_) (fun hin => ?_)
        · simp [ev_cond2, ev_region2, evOps_nil, evOps_cons, opG_none, opA_move, opA_assign, opA_pick, opA_bin, putO_some, putH_lt, putC_lt, condB_true, binT_some, binA, avO_some, pickT, io_add, opS, opV, Go.Mx.look, seqK, blockK, Fr.known, mapO, headK, getV, getB, chkP, orO_some, eqT_some, tk3, w2]
          exact ⟨min kept.length L.length - (k + 1), by omega, k + 1, false, by omega, by omega, rfl, by simp [rowB, boolV], rfl, next false (by rw [hg2]; simp [hof.1 hin])⟩
        · simp [ev_skip, ev_cond2, ev_region2, evOps_nil, evOps_cons, opG_none, opA_move, opA_assign, opA_pick, opA_bin, putO_some, putH_lt, putC_lt, condB_false, binT_some, binA, avO_some, pickT, io_add, opS, opV, Go.Mx.look, seqK, blockK, Fr.known, mapO, headK, getV, getB, chkP, orO_some, eqT_some, tk3, w2]
          exact ⟨min kept.length L.length - (k + 1), by omega, k + 1, hd, by omega, by omega, rfl, by simp [rowB, boolV], rfl, next hd (by rw [hof] at hin; rw [hg2]; simp [hin])⟩
    · have hkm : k = min kept.length L.length := by omega
      rw [hkm] at hiff
      have hdp := hdP_iff hG hiff
      have hwl := whereN_len i (hdP L kept)
      have hnx : NewR H H3 ((ofN (whereN i (hdP L kept))).map intV) v := hn
      cases hd with
      | true =>
        simp
        refine hn.app hs.1 (by simp [ofN]; omega) (fun v3 H4 fp3 hn3 hs3 hfp hid3 => ?_)
        have hs4 := hs.new hs3 (fun j hj => (hfp j hj).1)
        simp [ev_region2, evOps_nil, evOps_cons, opG_none, opA_move, opA_assign, opA_bin, putO_some, putH_lt, putC_lt, binT_some, binA, avO_some, io_add, opS, opV, Go.Mx.look, seqK, blockK, mapO, headK, getV, getB, chkP, orO_some, eqT_some, tk3, w1]
        refine ⟨min kept.length L.length - (i + 1), by omega, i + 1, v3, by omega, rfl, by simp [rowB], ?_, hs4⟩
        rw [whereN_succ]
        simp only [← hdp]
        simpa [ofN, intV] using hn3
      | false =>
        simp [ev_region2, evOps_nil, evOps_cons, opG_none, opA_move, opA_assign, opA_bin, putO_some, putH_lt, putC_lt, binT_some, binA, avO_some, io_add, opS, opV, Go.Mx.look, seqK, blockK, mapO, headK, getV, getB, chkP, appA, srcA, orO_some, eqT_some, tk3, w1]
        refine ⟨min kept.length L.length - (i + 1), by omega, i + 1, v, by omega, rfl, by simp [rowB], ?_, hs⟩
        rw [whereN_succ]
        simp only [← hdp]
        simpa using hn
    · have hkm : k = min kept.length L.length := by omega
      rw [hkm] at hiff
      have hdp := hdP_iff hG hiff
      have hwl := whereN_len i (hdP L kept)
      have hnx : NewR H H3 ((ofN (whereN i (hdP L kept))).map intV) v := hn
      cases hd with
      | true =>
        simp
        refine hn.app hs.1 (by simp [ofN]; omega) (fun v3 H4 fp3 hn3 hs3 hfp hid3 => ?_)
        have hs4 := hs.new hs3 (fun j hj => (hfp j hj).1)
        simp [ev_region2, evOps_nil, evOps_cons, opG_none, opA_move, opA_assign, opA_bin, putO_some, putH_lt, putC_lt, binT_some, binA, avO_some, io_add, opS, opV, Go.Mx.look, seqK, blockK, mapO, headK, getV, getB, chkP, orO_some, eqT_some, tk3, w1]
        refine ⟨min kept.length L.length - (i + 1), by omega, i + 1, v3, by omega, rfl, by simp [rowB], ?_, hs4⟩
        rw [whereN_succ]
        simp only [← hdp]
        simpa [ofN, intV] using hn3
      | false =>
        simp [ev_region2, evOps_nil, evOps_cons, opG_none, opA_move, opA_assign, opA_bin, putO_some, putH_lt, putC_lt, binT_some, binA, avO_some, io_add, opS, opV, Go.Mx.look, seqK, blockK, mapO, headK, getV, getB, chkP, appA, srcA, orO_some, eqT_some, tk3, w1]
        refine ⟨min kept.length L.length - (i + 1), by omega, i + 1, v, by omega, rfl, by simp [rowB], ?_, hs⟩
        rw [whereN_succ]
        simp only [← hdp]
        simpa using hn
  · exact fin (by omega)
  · exact fin (by omega)
end Go.Proofs.Ytpmhhbdfompbhaa
