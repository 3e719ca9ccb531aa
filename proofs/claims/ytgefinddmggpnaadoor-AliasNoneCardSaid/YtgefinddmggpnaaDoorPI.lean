import Derived.Test.YtgefinddmggpnaaDoorPS
import Derived.Test.YtgefinddmggpnaaDoorMxSd
import Derived.Lib.Bytealg
import Derived.Lib.IndexLaws
namespace Go.Proofs.YtgefinddmggpnaaDoor
open Go.Mx
set_option linter.unusedVariables false
set_option linter.unusedSimpArgs false
set_option linter.unnecessarySimpa false

def smallB (c : UInt8) : Bool := (decide (97 ≤ c.toNat) && decide (c.toNat ≤ 122)) || (decide (48 ≤ c.toNat) && decide (c.toNat ≤ 57)) || decide (c.toNat = 46)
def kServer (c : UInt8) : Bool := smallB c || decide (c.toNat = 45)
def kLocal (c : UInt8) : Bool := smallB c || decide (c.toNat = 45) || decide (c.toNat = 95)
def kType (c : UInt8) : Bool := smallB c || decide (c.toNat = 95)
def ofB (most : Nat) (k : UInt8 → Bool) (l : List UInt8) : Bool := decide (1 ≤ l.length) && decide (l.length ≤ most) && l.all k
def serverB : List UInt8 → Bool := ofB 32 kServer
def localB : List UInt8 → Bool := ofB 32 kLocal
def typeB : List UInt8 → Bool := ofB 64 kType

theorem small_sp (c : UInt8) (H : Hp) (Q : AV → Hp → Prop) (h : Q (.v (.bool (smallB c))) H) : Sp Tryd.prog 48 [u8A c] Q H := by
  refine Sp.body [] ⟨[], [], []⟩ [] mo Tryd.func48 rfl (Nat.le_of_ble_eq_true rfl) (by kernel_rfl) ?_
  have key : ∀ b : Bool, (b = true ↔ smallB c = true) → Q (.v (.bool b)) H := fun b hb => by rwa [Bool.eq_iff_iff.2 hb]
  unfold smallB at key
  simp [ev_seq, ev_ret, ev_region2, evOps_nil, evOps_cons, opG_none, opG_some, opJ, opU_true, opU_ft, opU_ff, isU_undef, isU_bool, opK_eq, opA_move, opA_assign, opA_pick, opA_bin, putO_some, putH_lt, putV_lt, condB_true, condB_false, binT_some, binA, avO_some, pickT, io_eql, io_leq, opS, opV, Go.Mx.look, fr0, argSlots, seqK, Fr.known, retK, retA, resA, mapO, orO_some, eqT_some, tk5, u8A]
  (repeat' (first | apply And.intro | intro _)) <;> apply key <;> simp <;> omega
theorem kserver_sp (c : UInt8) (H : Hp) (Q : AV → Hp → Prop) (h : Q (.v (.bool (kServer c))) H) : Sp Tryd.prog 47 [u8A c] Q H := by
  refine Sp.body [] ⟨[], [], []⟩ [] mo Tryd.func47 rfl (Nat.le_of_ble_eq_true rfl) (by kernel_rfl) ?_
  have key : ∀ b : Bool, (b = true ↔ kServer c = true) → Q (.v (.bool b)) H := fun b hb => by rwa [Bool.eq_iff_iff.2 hb]
  unfold kServer at key
  simp [ev_seq, ev_region2, evOps_nil, evOps_cons, opG_none, opA_move, opA_assign, opA_call, putO_some, putH_lt, opS, opV, Go.Mx.look, fr0, argSlots, seqK, mapO, callA, ok48]
  refine small_sp c H _ ?_
  simp [ev_ret, evOps_nil, evOps_cons, opG_none, opG_some, opJ, opU_ff, isU_bool, opK_eq, opA_move, opA_assign, opA_pick, opA_bin, putO_some, putH_lt, putC_lt, putV_lt, condB_true, condB_false, binT_some, binA, avO_some, pickT, io_eql, opS, opV, Go.Mx.look, seqK, Fr.known, retK, retA, resA, mapO, orO_some, eqT_some, tk5, u8A]
  (repeat' (first | apply And.intro | intro _)) <;> apply key <;> simp_all <;> omega
theorem klocal_sp (c : UInt8) (H : Hp) (Q : AV → Hp → Prop) (h : Q (.v (.bool (kLocal c))) H) : Sp Tryd.prog 88 [u8A c] Q H := by
  refine Sp.body [] ⟨[], [], []⟩ [] mo Tryd.func88 rfl (Nat.le_of_ble_eq_true rfl) (by kernel_rfl) ?_
  have key : ∀ b : Bool, (b = true ↔ kLocal c = true) → Q (.v (.bool b)) H := fun b hb => by rwa [Bool.eq_iff_iff.2 hb]
  unfold kLocal at key
  simp [ev_seq, ev_region2, evOps_nil, evOps_cons, opG_none, opA_move, opA_assign, opA_call, putO_some, putH_lt, opS, opV, Go.Mx.look, fr0, argSlots, seqK, mapO, callA, ok48]
  refine small_sp c H _ ?_
  simp [ev_ret, evOps_nil, evOps_cons, opG_none, opG_some, opJ, opU_ff, isU_bool, opK_eq, opA_move, opA_assign, opA_pick, opA_bin, putO_some, putH_lt, putC_lt, putV_lt, condB_true, condB_false, binT_some, binA, avO_some, pickT, io_eql, opS, opV, Go.Mx.look, seqK, Fr.known, retK, retA, resA, mapO, orO_some, eqT_some, tk5, u8A]
  (repeat' (first | apply And.intro | intro _)) <;> apply key <;> simp_all <;> omega

/-- A text whose letters are all of a kind. -/
theorem of_sp (l : List UInt8) (most : Nat) (g : Nat) (k : UInt8 → Bool) (hg : bodyOk Tryd.prog g = true) (hk : ∀ c H Q, Q (.v (.bool (k c))) H → Sp Tryd.prog g [u8A c] Q H) (H : Hp) (Q : AV → Hp → Prop) (hl : l.length ≤ 100000) (hm : most ≤ 1000)
    (h : Q (.v (.bool (ofB most k l))) H) : Sp Tryd.prog 46 [.v (.string (tx l)), .v (.int .i64 most), .fn (.func g) [] []] Q H := by
  refine Sp.body [(4, ⟨[0, 2, 17, 18], [], []⟩)] ⟨[], [], []⟩ [] mo Tryd.func46 rfl (Nat.le_of_ble_eq_true rfl) (by kernel_rfl) ?_
  have key : ∀ b : Bool, (b = true ↔ ofB most k l = true) → Q (.v (.bool b)) H := fun b hb => by rwa [Bool.eq_iff_iff.2 hb]
  simp [ev_skip, ev_seq, ev_cond2, ev_block, ev_ret, ev_region2, ev_loop, loopK, evOps_nil, evOps_cons, opG_none, opG_some, opJ, opU_ff, isU_bool, opK_eq, opA_move, opA_assign, opA_pick, opA_bin, opA_len, putO_some, putH_lt, putV_lt, condB_true, condB_false, binT_some, binA, avO_some, pickT, lenT_str, io_gtr, strOp, opS, opV, Go.Mx.look, fr0, argSlots, seqK, Fr.known, retK, retA, resA, mapO, headK, getV, getB, chkP, firstReg, orO_some, eqT_some, tk3, tk9, Tryd.underlying9, mk_tx, tx_size, tx_list]
  refine ⟨fun h0 => key _ (by subst h0; simp [ofB]), fun h0 => ⟨fun h1 => key _ (by simp [ofB]; omega), fun h1 => ?_⟩⟩
  have hp : 1 ≤ l.length := by cases l <;> simp_all
  refine LoopC.intro (fun n xs _ H2 => ∃ i : Nat, i ≤ l.length ∧ n = l.length - i ∧ (∀ j c, j < i → l[j]? = some c → k c = true) ∧ xs = [.v (.string (tx l)), .fn (.func g) [] [], .v (.int .i64 l.length), .v (.int .i64 i)] ∧ H2 = H) l.length
    ⟨0, by omega, rfl, fun j c hj => by omega, rfl, rfl⟩ ?_
  rintro n xs bs H2 ⟨i, hi, rfl, hall, rfl, rfl⟩
  simp [ev_skip, ev_seq, ev_cond2, ev_block, ev_exit, ev_ret, ev_region2, evOps_nil, evOps_cons, opG_none, opA_move, opA_assign, opA_bin, opA_index, putO_some, putH_lt, binT_some, binA, avO_some, indexT, io_lss, opS, opV, Go.Mx.look, seqK, blockK, Fr.known, retK, retA, resA, mapO, mkFr, slotsOf, ptrsOf, boxesOf, orO_some, eqT_some, tk3, Tryd.underlying9]
  refine ⟨fun hlt => ?_, fun hge => key _ ?_⟩
  · have hx := List.getElem?_eq_getElem hlt
    have e := indexStr_tx l .i64 i hlt
    rw [List.getD_eq_getElem?_getD, hx, Option.getD_some] at e
    generalize l[i] = c at hx e
    have w1 : IntKind.i64.wrap ((i : Int) + 1) = (i : Int) + 1 := wr_i64 (by omega)
    simp [evOps_cons, opG_none, opA_call, putO_some, putH_lt, opS, opV, Go.Mx.look, mapO, callA, e, hg]
    refine hk c _ _ ?_
    simp [ev_skip, ev_seq, ev_cond2, ev_ret, ev_region2, evOps_nil, evOps_cons, opG_none, opA_move, opA_assign, opA_bin, opA_un, putO_some, putH_lt, putC_lt, binT_some, binA, avO_some, unT, io_add, opS, opV, Go.Mx.look, seqK, blockK, Fr.known, retK, retA, resA, mapO, unA, headK, getV, getB, chkP, orO_some, eqT_some, tk3, w1]
    refine ⟨fun hc => key _ ?_, fun hc => ⟨l.length - (i + 1), by omega, i + 1, by omega, rfl, fun j d hj hd => ?_, by simp⟩⟩
    · simp [ofB]
      intro _ _
      exact ⟨c, List.mem_of_getElem? hx, hc⟩
    · rcases Nat.lt_or_ge j i with h3 | h3
      · exact hall j d h3 hd
      · obtain rfl : j = i := by omega
        rw [hx] at hd; simp at hd; subst hd; exact hc
  · simp [ofB]
    refine ⟨⟨hp, h1⟩, fun c hc => ?_⟩
    obtain ⟨j, hj⟩ := List.getElem?_of_mem hc
    exact hall j c (by have := (List.getElem?_eq_some_iff.1 hj).1; omega) hj

theorem server_sp (l : List UInt8) (H : Hp) (Q : AV → Hp → Prop) (hl : l.length ≤ 100000) (h : Q (.v (.bool (serverB l))) H) : Sp Tryd.prog 32 [.v (.string (tx l))] Q H := by
  refine Sp.body [] ⟨[], [], []⟩ [] mo Tryd.func32 rfl (Nat.le_of_ble_eq_true rfl) (by kernel_rfl) ?_
  simp [ev_seq, ev_region2, evOps_nil, evOps_cons, opG_none, opA_move, opA_assign, opA_call, putO_some, putH_lt, opS, opV, Go.Mx.look, fr0, argSlots, seqK, mapO, callA, ok46]
  refine of_sp l 32 47 kServer ok47 kserver_sp H _ hl (by omega) ?_
  simp [ev_ret, evOps_nil, evOps_cons, opG_none, opA_assign, putO_some, putH_lt, putC_lt, opS, opV, Go.Mx.look, seqK, retK, retA, resA, mapO]; exact h
theorem local_sp (l : List UInt8) (H : Hp) (Q : AV → Hp → Prop) (hl : l.length ≤ 100000) (h : Q (.v (.bool (localB l))) H) : Sp Tryd.prog 69 [.v (.string (tx l))] Q H := by
  refine Sp.body [] ⟨[], [], []⟩ [] mo Tryd.func69 rfl (Nat.le_of_ble_eq_true rfl) (by kernel_rfl) ?_
  simp [ev_seq, ev_region2, evOps_nil, evOps_cons, opG_none, opA_move, opA_assign, opA_call, putO_some, putH_lt, opS, opV, Go.Mx.look, fr0, argSlots, seqK, mapO, callA, ok46]
  refine of_sp l 32 88 kLocal ok88 klocal_sp H _ hl (by omega) ?_
  simp [ev_ret, evOps_nil, evOps_cons, opG_none, opA_assign, putO_some, putH_lt, putC_lt, opS, opV, Go.Mx.look, seqK, retK, retA, resA, mapO]; exact h
end Go.Proofs.YtgefinddmggpnaaDoor

namespace Go.Proofs.YtgefinddmggpnaaDoor
open Go.Mx
set_option linter.unusedVariables false
set_option linter.unusedSimpArgs false
set_option linter.unnecessarySimpa false

/-- The first place of a byte in a text. -/
theorem bytealg_ex (s : ByteArray) (c : UInt8) (H : Hp) (k : AV → Hp → Prop) (h : k (.v (.int .i64 (Lib.indexByte s.data.toList c))) H) :
    Ex Tryd.prog 100 [.v (.string s), .v (.int .u8 c.toNat)] k H := by
  intro ρ I w us hs hv
  have h0 := hv.2 0 _ rfl
  have h1 := hv.2 1 _ rfl
  have hl := hv.1
  match us, hl with
  | [a, b], _ =>
    have ha : a = .string s := by simpa using h0.v_inv
    have hb : b = .int .u8 c.toNat := by simpa using h1.v_inv
    subst ha hb
    refine ⟨.int .i64 (Lib.indexByte s.data.toList c), _, ?_, .v _, h⟩
    have e := run_callFunc_indexByte (P := Tryd.prog) Tryd.func100 (by decide +kernel) (by kernel_rfl) (by kernel_rfl) (by kernel_rfl) #[.string s, .int .u8 c.toNat] w
    rw [show ([Value.string s, Value.int .u8 c.toNat] : List Value).toArray = #[.string s, .int .u8 c.toNat] from rfl, e, Lib.run_indexByteString]
    simp
theorem no100 : bodyOk Tryd.prog 100 = false := by kernel_rfl

theorem slindex_sp (l : List UInt8) (c : UInt8) (H : Hp) (Q : AV → Hp → Prop) (h : Q (.v (.int .i64 (Lib.indexByte l c))) H) :
    Sp Tryd.prog 96 [.v (.string (tx l)), u8A c] Q H := by
  refine Sp.body [] ⟨[], [], []⟩ [] mo Tryd.func96 rfl (Nat.le_of_ble_eq_true rfl) (by kernel_rfl) ?_
  simp [ev_seq, ev_region2, evOps_nil, evOps_cons, opG_none, opA_move, opA_assign, opA_call, putO_some, putH_lt, opS, opV, Go.Mx.look, fr0, argSlots, seqK, mapO, callA, no100]
  exact bytealg_ex (tx l) c H _ (by simpa [ev_skip, ev_seq, ev_cond2, ev_block, ev_exit, ev_ret, ev_region2, ev_loop, loopK, evOps_nil, evOps_cons, opG_none, opG_some, opJ, opU_true, opU_ft, opU_ff, isU_undef, isU_bool, valU_true, valU_false, opK_eq, opA_move, opA_assign, opA_pick, opA_bin, opA_un, opA_extract, opA_field, opA_load, opA_index, opA_indexAddr, opA_fieldAddr, opA_nilCheck, opA_len, opA_call, opA_max, opA_min, opA_alloc, opA_box, opA_store, opA_buildSlice, opA_makeSlice, opA_append, opA_copy, opA_convert, opA_makeMap, opA_slice, opA_makeFunc, opA_build, putO_some, putH_lt, putH_none, putC_lt, putC_none, putU_lt, putU_none, putV_lt, putV_none, condB_true, condB_false, CondP_true, CondP_false, binT_some, binA_int, binA_str, binA_eqb, binA_neb, binA, eqRef, avO_some, avO_none, avOf, pickT_true, pickT_false, pickT, unT, extractT, loadT, nilCheckT, lenT_str, lenT_row, lenT_sl, lenT_nil, lenT_arr, lenT_mp, lenT_nomp, maxT, minT, maxA, minA, fieldT, fieldAddrT, indexT, indexAddrT, allocT, boxT, storeT, buildSliceT, makeSliceT, appendT, copyT, convV, convC, convT, makeMapT, bndT, sliceT, fnT, bytesOf_nil, bytesOf_one, repeatL_0, repeatL_1, repeatL_2, repeatL_3, repeatL_4, buildZ, partsZ, fillO, aggO, io_add, io_sub, io_mul, io_quo, io_rem, io_shl, io_shr, io_and, io_or, io_xor, io_eql, io_neq, io_lss, io_leq, io_gtr, io_geq, strOp, opS_tmp, opS_const, opV_tmp, opV_const, opS, opV, look_eq, look_ne, Go.Mx.look, fr0, argSlots, seqK_n, seqK_r, seqK_e, seqK, blockK_n, blockK_r, blockK, Fr.known, Fr.newBox, dropBp, retK, retA, resA, mapO, unA, convInt, convStr, strOf, callA, extractA, lenM, cellsA_v, cellsA_agg, cellsA_row, cellsA_sl, cellsA_ptr, cellsA_rp, cellsA_mp, cellsA_fn, okPart_v, okPart_agg, okPart_row, okPart_sl, okPart_ptr, okPart_rp, okPart_mp, okPart_fn, Value.oneCell', fieldA, partA, loadA, loadS, plusS, indexAddrA, indexArrA, nilCheckS, sliceA, sliceArr, fillA, newK, storeS, headK, getV, getB, chkP, mkFr, slotsOf, ptrsOf, boxesOf, firstReg, bindO, makeA, appA, copyA, srcA, srcTy, okPart_u8, cellsA_u8, Cond_iff, orO_some, orO_none, eqT_some, opA_entry, entryT_some, lookT_some, updT_some, delT_some, clearT_some, rangeT_some, nextT_some, makeMapH, opA_lookup, opA_makeMap2, opA_upd, opA_delete, opA_clear, opA_range, opA_next, valS_lookup, ev_draw, drawK, evP_nil, evP_q, evP_s, opAt_some, chkK_eq, sameV_some, sameO_some, allQ_nil, allQ_cons, valG_some, valJ, valQ_none, valQ_some, valS_move, valS_pick, valS_bin, valS_un, valS_extract, valS_field, valS_load, valS_index, valS_indexAddr, valS_fieldAddr, valS_nilCheck, valS_len, valS_max, valS_min, valS_slice, valS_convert, valS_makeFunc, valS_build, valS_buildSlice, rowT, rowF, sz2, ag2, tk2, by2, ze2, Tryd.underlying2, sz3, ag3, tk3, by3, ze3, Tryd.underlying3, sz4, ag4, tk4, by4, ze4, Tryd.underlying4, sz5, ag5, tk5, by5, ze5, Tryd.underlying5, sz9, ag9, tk9, st9, by9, ze9, Tryd.underlying9, sz21, ag21, tk21, by21, ze21, Tryd.underlying21, sz22, ag22, tk22, st22, by22, ze22, Tryd.underlying22, sz24, ag24, tk24, by24, ze24, Tryd.underlying24, sz26, ag26, tk26, st26, by26, ze26, Tryd.underlying26, sz30, ag30, tk30, by30, ze30, of30, Tryd.underlying30, sz35, ag35, tk35, by35, ze35, of35, Tryd.underlying35, sz36, ag36, tk36, by36, ze36, Tryd.underlying36, sz41, ag41, tk41, by41, ze41, of41, Tryd.underlying41, sz42, ag42, tk42, by42, ze42, Tryd.underlying42, sz43, ag43, tk43, by43, ze43, Tryd.underlying43, sz45, ag45, tk45, by45, ze45, of45, Tryd.underlying45, sz46, ag46, tk46, st46, by46, ze46, Tryd.underlying46, sz50, ag50, tk50, st50, by50, ze50, Tryd.underlying50, sz61, ag61, tk61, st61, by61, ze61, Tryd.underlying61, sz64, ag64, tk64, st64, by64, ze64, Tryd.underlying64, sz72, ag72, tk72, by72, ze72, of72, Tryd.underlying72, sz78, ag78, tk78, by78, ze78, Tryd.underlying78, mo, ok4, ok5, ok6, ok7, ok8, ok9, ok10, ok11, ok12, ok13, ok14, ok15, ok16, ok17, ok18, ok19, ok21, ok22, ok23, ok24, ok25, ok26, ok27, ok28, ok29, ok30, ok32, ok38, ok39, ok40, ok41, ok42, ok43, ok44, ok46, ok47, ok48, ok64, ok65, ok66, ok67, ok68, ok69, ok86, ok87, ok88, ok94, ok96, pl4, pl6, pl7, pl9, pl11, pl21, pl25, pl26, pl87, tx_data] using h)
theorem index1_sp (l : List UInt8) (c : UInt8) (H : Hp) (Q : AV → Hp → Prop) (h : Q (.v (.int .i64 (Lib.indexByte l c))) H) :
    Sp Tryd.prog 94 [.v (.string (tx l)), .v (.string (tx [c]))] Q H := by
  refine Sp.body [] ⟨[], [], []⟩ [] mo Tryd.func94 rfl (Nat.le_of_ble_eq_true rfl) (by kernel_rfl) ?_
  have e0 := indexStr_tx0 c [] .i64
  simp [ev_seq, ev_cond2, ev_block, ev_ret, ev_region2, evOps_nil, evOps_cons, opG_none, opG_some, opJ, opU_ff, isU_bool, opK_eq, opA_move, opA_assign, opA_pick, opA_bin, opA_index, opA_len, opA_call, putO_some, putH_lt, condB_true, condB_false, binT_some, binA, avO_some, pickT, lenT_str, indexT, io_eql, strOp, opS, opV, Go.Mx.look, fr0, argSlots, seqK, blockK, Fr.known, retK, retA, resA, mapO, callA, orO_some, eqT_some, tk3, tk9, Tryd.underlying9, ok96, tx_size, tx_list, e0]
  refine ⟨fun he => by subst he; simpa [Lib.indexByte] using h, fun _ => ?_⟩
  refine slindex_sp l c H _ ?_
  simp [ev_ret, evOps_nil, evOps_cons, opG_none, opA_assign, putO_some, putH_lt, putC_lt, opS, opV, Go.Mx.look, seqK, blockK, retK, retA, resA, mapO]; exact h

theorem ixb_le (c : UInt8) : ∀ l : List UInt8, Lib.indexByte l c = -1 ∨ ∃ i : Nat, i < l.length ∧ Lib.indexByte l c = i
  | [] => .inl rfl
  | b :: l => by
    unfold Lib.indexByte
    by_cases hb : (b == c) = true
    · rw [if_pos hb]; exact .inr ⟨0, by simp, rfl⟩
    · rw [if_neg hb]
      rcases ixb_le c l with h | ⟨i, hi, h⟩
      · rw [h]; exact .inl rfl
      · rw [h]
        have : ((i : Int) == -1) = false := by simp
        rw [this]
        exact .inr ⟨i + 1, by simpa using hi, by simp⟩

theorem scut_sp (l : List UInt8) (c : UInt8) (H : Hp) (Q : AV → Hp → Prop) (hl : l.length ≤ 100000) (h0 : Lib.indexByte l c = -1 → Q (.tup [.v (.string (tx l)), .v (.string (tx [])), .v (.bool false)]) H)
    (h1 : ∀ i : Nat, i < l.length → Lib.indexByte l c = i → Q (.tup [.v (.string (tx (l.take i))), .v (.string (tx (l.drop (i + 1)))), .v (.bool true)]) H) :
    Sp Tryd.prog 87 [.v (.string (tx l)), .v (.string (tx [c]))] Q H := by
  refine Sp.body [] ⟨[], [], pl87⟩ tb87 mo Tryd.func87 rfl (Nat.le_of_ble_eq_true rfl) (by kernel_rfl) ?_
  simp [ev_seq, ev_region2, evOps_nil, evOps_cons, opG_none, opA_move, opA_assign, opA_call, putO_some, putH_lt, opS, opV, Go.Mx.look, fr0, argSlots, seqK, mapO, callA, ok94, pl87, mk_tx]
  refine index1_sp l c H _ ?_
  rcases ixb_le c l with h | ⟨i, hi, h⟩
  · rw [h]
    simp [ev_skip, ev_seq, ev_cond2, ev_ret, ev_region2, evOps_nil, evOps_cons, opG_none, opA_move, opA_assign, opA_bin, putO_some, putH_lt, putC_lt, condB_false, binT_some, binA, avO_some, io_geq, opS, opV, Go.Mx.look, seqK, Fr.known, retK, retA, resA, mapO, orO_some, eqT_some, tk3]; exact h0 h
  · rw [h]
    have w1 : IntKind.i64.wrap ((i : Int) + 1) = (i : Int) + 1 := wr_i64 (by omega)
    have e1 := sliceStr_tx l 0 i (by omega)
    have e2 := sliceStr_tx l ((i : Int) + 1) l.length (by omega)
    simp at e1
    have e3 : ((i : Int) + 1).toNat = i + 1 := by omega
    rw [e3, List.take_of_length_le (by simp)] at e2
    simp [ev_seq, ev_cond2, ev_ret, ev_region2, evOps_nil, evOps_cons, opG_none, opA_move, opA_assign, opA_bin, opA_len, opA_slice, putO_some, putH_lt, putC_lt, condB_true, binT_some, binA, avO_some, lenT_str, bndT, sliceT, io_add, io_geq, opS, opV, Go.Mx.look, seqK, Fr.known, retK, retA, resA, mapO, sliceA, orO_some, eqT_some, ev_draw, drawK, evP_nil, evP_q, evP_s, opAt_some, chkK_eq, sameV_some, sameO_some, allQ_nil, allQ_cons, valQ_none, valS_move, valS_bin, valS_len, valS_slice, tk3, Tryd.underlying9, tx_size, e1, e2, w1]
    exact h1 i hi h
theorem cut1_sp (l : List UInt8) (c : UInt8) (H : Hp) (Q : AV → Hp → Prop) (hl : l.length ≤ 100000) (h0 : Lib.indexByte l c = -1 → Q (.tup [.v (.string (tx l)), .v (.string (tx [])), .v (.bool false)]) H)
    (h1 : ∀ i : Nat, i < l.length → Lib.indexByte l c = i → Q (.tup [.v (.string (tx (l.take i))), .v (.string (tx (l.drop (i + 1)))), .v (.bool true)]) H) :
    Sp Tryd.prog 68 [.v (.string (tx l)), .v (.string (tx [c]))] Q H := by
  refine Sp.body [] ⟨[], [], []⟩ [] mo Tryd.func68 rfl (Nat.le_of_ble_eq_true rfl) (by kernel_rfl) ?_
  simp [ev_seq, ev_region2, evOps_nil, evOps_cons, opG_none, opA_move, opA_assign, opA_call, putO_some, putH_lt, opS, opV, Go.Mx.look, fr0, argSlots, seqK, mapO, callA, ok87, mk_tx]
  refine scut_sp l c H _ hl (fun h => ?_) (fun i hi h => ?_)
  · simp [ev_ret, evOps_nil, evOps_cons, opG_none, opA_assign, opA_extract, putO_some, putH_lt, putC_lt, extractT, opS, opV, Go.Mx.look, seqK, retK, retA, resA, mapO, extractA]; exact h0 h
  · simp [ev_ret, evOps_nil, evOps_cons, opG_none, opA_assign, opA_extract, putO_some, putH_lt, putC_lt, extractT, opS, opV, Go.Mx.look, seqK, retK, retA, resA, mapO, extractA]; exact h1 i hi h

theorem prefix_sp (l : List UInt8) (g : UInt8) (H : Hp) (Q : AV → Hp → Prop) (h : Q (.v (.bool (decide (l.head? = some g)))) H) :
    Sp Tryd.prog 86 [.v (.string (tx l)), .v (.string (tx [g]))] Q H := by
  refine Sp.body [] ⟨[], [], []⟩ [] mo Tryd.func86 rfl (Nat.le_of_ble_eq_true rfl) (by kernel_rfl) ?_
  cases l with
  | nil => simp [ev_seq, ev_ret, ev_region2, evOps_nil, evOps_cons, opG_none, opG_some, opJ, opU_ft, isU_bool, opA_move, opA_assign, opA_pick, opA_bin, opA_len, putO_some, putH_lt, putV_lt, condB_false, binT_some, binA, avO_some, pickT, lenT_str, io_geq, opS, opV, Go.Mx.look, fr0, argSlots, seqK, Fr.known, retK, retA, resA, mapO, orO_some, eqT_some, tk3, Tryd.underlying9, tx_size]; simpa using h
  | cons c r =>
    have e1 := sliceStr_tx (c :: r) 0 1 (by simp; omega)
    simp at e1
    simp [ev_seq, ev_ret, ev_region2, evOps_nil, evOps_cons, opG_none, opG_some, opJ, opU_ft, isU_bool, opK_eq, opA_move, opA_assign, opA_pick, opA_bin, opA_len, opA_slice, putO_some, putH_lt, putV_lt, condB_true, condB_false, binT_some, binA, avO_some, pickT, lenT_str, bndT, sliceT, io_geq, strOp, opS, opV, Go.Mx.look, fr0, argSlots, seqK, Fr.known, retK, retA, resA, mapO, sliceA, orO_some, eqT_some, tk3, tk9, Tryd.underlying9, tx_size, tx_list, e1]
    refine ⟨fun _ => ?_, fun h => by omega⟩
    have e2 : (c == g) = decide (c = g) := by rw [Bool.eq_iff_iff]; simp
    rw [e2]; simpa using h
theorem sprefix_sp (l : List UInt8) (g : UInt8) (H : Hp) (Q : AV → Hp → Prop) (h0 : l.head? ≠ some g → Q (.tup [.v (.string (tx l)), .v (.bool false)]) H) (h1 : l.head? = some g → Q (.tup [.v (.string (tx (l.drop 1))), .v (.bool true)]) H) :
    Sp Tryd.prog 67 [.v (.string (tx l)), .v (.string (tx [g]))] Q H := by
  refine Sp.body [] ⟨[], [], []⟩ [] mo Tryd.func67 rfl (Nat.le_of_ble_eq_true rfl) (by kernel_rfl) ?_
  simp [ev_seq, ev_region2, evOps_nil, evOps_cons, opG_none, opA_move, opA_assign, opA_call, putO_some, putH_lt, opS, opV, Go.Mx.look, fr0, argSlots, seqK, mapO, callA, ok86, mk_tx]
  refine prefix_sp l g H _ ?_
  by_cases hg : l.head? = some g
  · have h := h1 hg
    cases l with
    | nil => simp at hg
    | cons c r =>
      have e1 := sliceStr_tx (c :: r) 1 ((r.length : Int) + 1) (by simp; omega)
      simp at e1 h
      simp [ev_skip, ev_seq, ev_cond2, ev_ret, ev_region2, evOps_nil, evOps_cons, opG_none, opA_move, opA_assign, opA_un, opA_len, opA_slice, putO_some, putH_lt, putC_lt, condB_false, unT, lenT_str, bndT, sliceT, opS, opV, Go.Mx.look, seqK, Fr.known, retK, retA, resA, mapO, unA, sliceA, Tryd.underlying9, tx_size, hg, e1]
      exact h
  · simp [ev_seq, ev_cond2, ev_ret, ev_region2, evOps_nil, evOps_cons, opG_none, opA_move, opA_assign, opA_un, putO_some, putH_lt, putC_lt, condB_true, unT, opS, opV, Go.Mx.look, seqK, Fr.known, retK, retA, resA, mapO, unA, hg]; exact h0 hg
theorem cutprefix_sp (l : List UInt8) (g : UInt8) (H : Hp) (Q : AV → Hp → Prop) (h0 : l.head? ≠ some g → Q (.tup [.v (.string (tx l)), .v (.bool false)]) H) (h1 : l.head? = some g → Q (.tup [.v (.string (tx (l.drop 1))), .v (.bool true)]) H) :
    Sp Tryd.prog 43 [.v (.string (tx l)), .v (.string (tx [g]))] Q H := by
  refine Sp.body [] ⟨[], [], []⟩ [] mo Tryd.func43 rfl (Nat.le_of_ble_eq_true rfl) (by kernel_rfl) ?_
  simp [ev_seq, ev_region2, evOps_nil, evOps_cons, opG_none, opA_move, opA_assign, opA_call, putO_some, putH_lt, opS, opV, Go.Mx.look, fr0, argSlots, seqK, mapO, callA, ok67, mk_tx]
  refine sprefix_sp l g H _ (fun h => ?_) (fun h => ?_)
  · simp [ev_ret, evOps_nil, evOps_cons, opG_none, opA_assign, opA_extract, putO_some, putH_lt, putC_lt, extractT, opS, opV, Go.Mx.look, seqK, retK, retA, resA, mapO, extractA]; exact h0 h
  · simp [ev_ret, evOps_nil, evOps_cons, opG_none, opA_assign, opA_extract, putO_some, putH_lt, putC_lt, extractT, opS, opV, Go.Mx.look, seqK, retK, retA, resA, mapO, extractA]; simpa using h1 h
end Go.Proofs.YtgefinddmggpnaaDoor

namespace Go.Proofs.YtgefinddmggpnaaDoor
open Go.Mx
set_option linter.unusedVariables false
set_option linter.unusedSimpArgs false
set_option linter.unnecessarySimpa false

abbrev P3 := List UInt8 × List UInt8 × Bool
def none3 : P3 := ([], [], false)
def tupP (p : P3) : AV := .tup [.v (.string (tx p.1)), .v (.string (tx p.2.1)), .v (.bool p.2.2)]
/-- The parts of a name that begins with a sign. -/
def splitP (r : List UInt8) : P3 :=
  if Lib.indexByte r 58 = -1 then none3
  else if localB (r.take (Lib.indexByte r 58).toNat) = true ∧ serverB (r.drop ((Lib.indexByte r 58).toNat + 1)) = true then (r.take (Lib.indexByte r 58).toNat, r.drop ((Lib.indexByte r 58).toNat + 1), true) else none3
def partsP (g : UInt8) : List UInt8 → P3
  | [] => none3
  | c :: r => if c = g then splitP r else none3
theorem partsP_no {g : UInt8} {l : List UInt8} (h : l.head? ≠ some g) : partsP g l = none3 := by
  cases l with
  | nil => rfl
  | cons c r => simp only [partsP]; rw [if_neg (fun e : c = g => h (by simp [e]))]
theorem partsP_yes (g : UInt8) (r : List UInt8) : partsP g (g :: r) = splitP r := by simp [partsP]

theorem cut_sp (g : UInt8) (l : List UInt8) (H : Hp) (Q : AV → Hp → Prop) (hl : l.length ≤ 100000) (h : Q (tupP (partsP g l)) H) : Sp Tryd.prog 44 [.v (.string (tx [g])), .v (.string (tx l))] Q H := by
  refine Sp.body [] ⟨[], [], []⟩ [] mo Tryd.func44 rfl (Nat.le_of_ble_eq_true rfl) (by kernel_rfl) ?_
  simp [ev_seq, ev_region2, evOps_nil, evOps_cons, opG_none, opA_move, opA_assign, opA_call, putO_some, putH_lt, opS, opV, Go.Mx.look, fr0, argSlots, seqK, mapO, callA, ok43, mk_tx]
  refine cutprefix_sp l g H _ (fun hg => ?_) (fun hg => ?_)
  · rw [partsP_no hg] at h
    simp [ev_seq, ev_region2, evOps_nil, evOps_cons, opG_none, opA_move, opA_assign, opA_extract, opA_call, putO_some, putH_lt, putC_lt, extractT, opS, opV, Go.Mx.look, seqK, mapO, callA, extractA, ok68]
    refine cut1_sp l 58 H _ hl (fun h1 => ?_) (fun i hi h1 => ?_)
    · simp [ev_seq, ev_cond2, ev_ret, ev_region2, evOps_nil, evOps_cons, opG_none, opG_some, opJ, opU_ff, isU_bool, opA_move, opA_assign, opA_pick, opA_un, opA_extract, putO_some, putH_lt, putC_lt, putV_lt, condB_true, pickT, unT, extractT, opS, opV, Go.Mx.look, seqK, Fr.known, retK, retA, resA, mapO, unA, extractA]; exact h
    · simp [ev_seq, ev_cond2, ev_ret, ev_region2, evOps_nil, evOps_cons, opG_none, opG_some, opJ, opU_ff, isU_bool, opA_move, opA_assign, opA_pick, opA_un, opA_extract, putO_some, putH_lt, putC_lt, putV_lt, condB_true, pickT, unT, extractT, opS, opV, Go.Mx.look, seqK, Fr.known, retK, retA, resA, mapO, unA, extractA]; exact h
  · obtain ⟨r, rfl⟩ : ∃ r, l = g :: r := by cases l with
      | nil => simp at hg
      | cons c r => simp at hg; exact ⟨r, by rw [hg]⟩
    rw [partsP_yes] at h
    unfold splitP at h
    simp at hl
    simp [ev_seq, ev_region2, evOps_nil, evOps_cons, opG_none, opA_move, opA_assign, opA_extract, opA_call, putO_some, putH_lt, putC_lt, extractT, opS, opV, Go.Mx.look, seqK, mapO, callA, extractA, ok68]
    refine cut1_sp r 58 H _ (by omega) (fun h1 => ?_) (fun i hi h1 => ?_)
    · rw [h1] at h
      simp [ev_seq, ev_cond2, ev_ret, ev_region2, evOps_nil, evOps_cons, opG_none, opG_some, opJ, opU_ff, isU_bool, opK_eq, opA_move, opA_assign, opA_pick, opA_un, opA_extract, putO_some, putH_lt, putC_lt, putV_lt, condB_true, condB_false, pickT, unT, extractT, opS, opV, Go.Mx.look, seqK, Fr.known, retK, retA, resA, mapO, unA, extractA]; exact h
    · rw [h1] at h
      rw [if_neg (by omega), Int.toNat_natCast] at h
      simp [ev_seq, ev_region2, evOps_nil, evOps_cons, opG_none, opG_some, opJ, opU_ff, isU_bool, opK_eq, opA_move, opA_assign, opA_pick, opA_un, opA_extract, opA_call, putO_some, putH_lt, putC_lt, condB_false, pickT, unT, extractT, opS, opV, Go.Mx.look, seqK, Fr.known, mapO, unA, callA, extractA, ok69]
      refine local_sp _ H _ (by simp; omega) ?_
      by_cases hlo : localB (r.take i) = true
      · simp [evOps_cons, opG_none, opG_some, opJ, opU_ff, isU_bool, opK_eq, opA_move, opA_pick, opA_un, opA_call, putO_some, putH_lt, putC_lt, condB_false, pickT, unT, opS, opV, Go.Mx.look, Fr.known, mapO, unA, callA, ok32, hlo]
        refine server_sp _ H _ (by simp; omega) ?_
        by_cases hse : serverB (r.drop (i + 1)) = true
        · rw [if_pos ⟨hlo, hse⟩] at h
          simp [ev_skip, ev_seq, ev_cond2, ev_ret, ev_region2, evOps_nil, evOps_cons, opG_none, opG_some, opJ, opU_ff, isU_bool, opK_eq, opA_move, opA_assign, opA_pick, opA_un, putO_some, putH_lt, putC_lt, condB_false, pickT, unT, opS, opV, Go.Mx.look, seqK, Fr.known, retK, retA, resA, mapO, unA, hse]; exact h
        · rw [if_neg (fun hc => hse hc.2)] at h
          simp [ev_seq, ev_cond2, ev_ret, ev_region2, evOps_nil, evOps_cons, opG_none, opG_some, opJ, opU_ff, isU_bool, opK_eq, opA_assign, opA_pick, opA_un, putO_some, putH_lt, putC_lt, condB_true, condB_false, pickT, unT, opS, opV, Go.Mx.look, seqK, Fr.known, retK, retA, resA, mapO, unA, hse]; exact h
      · rw [if_neg (fun hc => hlo hc.1)] at h
        simp [ev_seq, ev_cond2, ev_ret, ev_region2, evOps_nil, evOps_cons, opG_none, opG_some, opJ, opU_ff, isU_bool, opK_eq, opA_move, opA_assign, opA_pick, opA_un, putO_some, putH_lt, putC_lt, putV_lt, condB_true, condB_false, pickT, unT, opS, opV, Go.Mx.look, seqK, Fr.known, retK, retA, resA, mapO, unA, hlo]; exact h

theorem user_sp (l : List UInt8) (H : Hp) (Q : AV → Hp → Prop) (hl : l.length ≤ 100000) (h : Q (tupP (partsP 64 l)) H) : Sp Tryd.prog 30 [.v (.string (tx l))] Q H := by
  refine Sp.body [] ⟨[], [], []⟩ [] mo Tryd.func30 rfl (Nat.le_of_ble_eq_true rfl) (by kernel_rfl) ?_
  simp [ev_seq, ev_region2, evOps_nil, evOps_cons, opG_none, opA_move, opA_assign, opA_call, putO_some, putH_lt, opS, opV, Go.Mx.look, fr0, argSlots, seqK, mapO, callA, ok44, mk_tx]
  refine cut_sp 64 l H _ hl ?_
  simp [ev_ret, evOps_nil, evOps_cons, opG_none, opA_assign, opA_extract, putO_some, putH_lt, putC_lt, extractT, opS, opV, Go.Mx.look, seqK, retK, retA, resA, mapO, extractA, tupP]; exact h
theorem room_sp (l : List UInt8) (H : Hp) (Q : AV → Hp → Prop) (hl : l.length ≤ 100000) (h : Q (tupP (partsP 33 l)) H) : Sp Tryd.prog 42 [.v (.string (tx l))] Q H := by
  refine Sp.body [] ⟨[], [], []⟩ [] mo Tryd.func42 rfl (Nat.le_of_ble_eq_true rfl) (by kernel_rfl) ?_
  simp [ev_seq, ev_region2, evOps_nil, evOps_cons, opG_none, opA_move, opA_assign, opA_call, putO_some, putH_lt, opS, opV, Go.Mx.look, fr0, argSlots, seqK, mapO, callA, ok44, mk_tx]
  refine cut_sp 33 l H _ hl ?_
  simp [ev_ret, evOps_nil, evOps_cons, opG_none, opA_assign, opA_extract, putO_some, putH_lt, putC_lt, extractT, opS, opV, Go.Mx.look, seqK, retK, retA, resA, mapO, extractA, tupP]; exact h

theorem ixb_none {r : List UInt8} {c : UInt8} (h : ∀ k : Nat, r[k]? ≠ some c) : Lib.indexByte r c = -1 := by
  rcases ixb_le c r with h1 | ⟨i, _, h1⟩
  · exact h1
  · exact absurd (Lib.indexByte_some h1).1 (h i)
theorem ixb_some {r : List UInt8} {c : UInt8} {i : Nat} (h0 : r[i]? = some c) (h : ∀ k : Nat, k < i → r[k]? ≠ some c) : Lib.indexByte r c = i := by
  rcases ixb_le c r with h1 | ⟨j, _, h1⟩
  · exact absurd h0 (Lib.indexByte_none h1 i)
  · obtain ⟨h2, h3⟩ := Lib.indexByte_some h1
    rw [h1]
    rcases Nat.lt_trichotomy i j with h4 | h4 | h4
    · exact absurd h0 (h3 i h4)
    · rw [h4]
    · exact absurd h2 (h j h4)

end Go.Proofs.YtgefinddmggpnaaDoor
