import Derived.Test.YtamhmecfjkahdaaPS
import Derived.Test.YtamhmecfjkahdaaMxSd
import Derived.Lib.Bytealg
import Derived.Lib.IndexLaws
namespace Go.Proofs.Ytamhmecfjkahdaa
open Go.Mx
set_option linter.unusedVariables false
set_option linter.unusedSimpArgs false
set_option linter.unnecessarySimpa false

def smallB (c : UInt8) : Bool := (decide (97 ≤ c.toNat) && decide (c.toNat ≤ 122)) || (decide (48 ≤ c.toNat) && decide (c.toNat ≤ 57)) || decide (c.toNat = 46)
def kServer (c : UInt8) : Bool := smallB c || decide (c.toNat = 45)
def kLocal (c : UInt8) : Bool := smallB c || decide (c.toNat = 45) || decide (c.toNat = 95)
def kType (c : UInt8) : Bool := smallB c || decide (c.toNat = 95)
def ofB (most : Nat) (k : UInt8 → Bool) (l : List UInt8) : Bool := decide (1 ≤ l.length) && decide (l.length ≤ most) && l.all k
def serverB : List UInt8 → Bool := ofB 32 kServer
def localB : List UInt8 → Bool := ofB 32 kLocal
def typeB : List UInt8 → Bool := ofB 64 kType

theorem small_sp (c : UInt8) (H : Hp) (Q : AV → Hp → Prop) (h : Q (.v (.bool (smallB c))) H) : Sp Try.prog 75 [u8A c] Q H := by
  refine Sp.body [] ⟨[], [], []⟩ [] mo Try.func75 rfl (Nat.le_of_ble_eq_true rfl) (by kernel_rfl) ?_
  have key : ∀ b : Bool, (b = true ↔ smallB c = true) → Q (.v (.bool b)) H := fun b hb => by rwa [Bool.eq_iff_iff.2 hb]
  unfold smallB at key
  simp [ev_seq, ev_ret, ev_region2, evOps_nil, evOps_cons, opG_none, opG_some, opJ, opU_true, opU_ft, opU_ff, isU_undef, isU_bool, opK_eq, opA_move, opA_assign, opA_pick, opA_bin, putO_some, putH_lt, putV_lt, condB_true, condB_false, binT_some, binA, avO_some, pickT, io_eql, io_leq, opS, opV, Go.Mx.look, fr0, argSlots, seqK, Fr.known, retK, retA, resA, mapO, orO_some, eqT_some, tk5, u8A]
  (repeat' (first | apply And.intro | intro _)) <;> apply key <;> simp <;> omega
theorem rsmall_sp (c : UInt8) (H : Hp) (Q : AV → Hp → Prop) (h : Q (.v (.bool (smallB c))) H) : Sp Try.prog 77 [u8A c] Q H := by
  refine Sp.body [] ⟨[], [], []⟩ [] mo Try.func77 rfl (Nat.le_of_ble_eq_true rfl) (by kernel_rfl) ?_
  have key : ∀ b : Bool, (b = true ↔ smallB c = true) → Q (.v (.bool b)) H := fun b hb => by rwa [Bool.eq_iff_iff.2 hb]
  unfold smallB at key
  simp [ev_seq, ev_ret, ev_region2, evOps_nil, evOps_cons, opG_none, opG_some, opJ, opU_true, opU_ft, opU_ff, isU_undef, isU_bool, opK_eq, opA_move, opA_assign, opA_pick, opA_bin, putO_some, putH_lt, putV_lt, condB_true, condB_false, binT_some, binA, avO_some, pickT, io_eql, io_leq, io_geq, opS, opV, Go.Mx.look, fr0, argSlots, seqK, Fr.known, retK, retA, resA, mapO, orO_some, eqT_some, tk5, u8A]
  (repeat' (first | apply And.intro | intro _)) <;> apply key <;> simp <;> omega

theorem kserver_sp (c : UInt8) (H : Hp) (Q : AV → Hp → Prop) (h : Q (.v (.bool (kServer c))) H) : Sp Try.prog 76 [u8A c] Q H := by
  refine Sp.body [] ⟨[], [], []⟩ [] mo Try.func76 rfl (Nat.le_of_ble_eq_true rfl) (by kernel_rfl) ?_
  have key : ∀ b : Bool, (b = true ↔ kServer c = true) → Q (.v (.bool b)) H := fun b hb => by rwa [Bool.eq_iff_iff.2 hb]
  unfold kServer at key
  simp [ev_seq, ev_region2, evOps_nil, evOps_cons, opG_none, opA_move, opA_assign, opA_call, putO_some, putH_lt, opS, opV, Go.Mx.look, fr0, argSlots, seqK, mapO, callA, ok75]
  refine small_sp c H _ ?_
  simp [ev_ret, evOps_nil, evOps_cons, opG_none, opG_some, opJ, opU_ff, isU_bool, opK_eq, opA_move, opA_assign, opA_pick, opA_bin, putO_some, putH_lt, putC_lt, putV_lt, condB_true, condB_false, binT_some, binA, avO_some, pickT, io_eql, opS, opV, Go.Mx.look, seqK, Fr.known, retK, retA, resA, mapO, orO_some, eqT_some, tk5, u8A]
  (repeat' (first | apply And.intro | intro _)) <;> apply key <;> simp_all <;> omega
theorem klocal_sp (c : UInt8) (H : Hp) (Q : AV → Hp → Prop) (h : Q (.v (.bool (kLocal c))) H) : Sp Try.prog 74 [u8A c] Q H := by
  refine Sp.body [] ⟨[], [], []⟩ [] mo Try.func74 rfl (Nat.le_of_ble_eq_true rfl) (by kernel_rfl) ?_
  have key : ∀ b : Bool, (b = true ↔ kLocal c = true) → Q (.v (.bool b)) H := fun b hb => by rwa [Bool.eq_iff_iff.2 hb]
  unfold kLocal at key
  simp [ev_seq, ev_region2, evOps_nil, evOps_cons, opG_none, opA_move, opA_assign, opA_call, putO_some, putH_lt, opS, opV, Go.Mx.look, fr0, argSlots, seqK, mapO, callA, ok75]
  refine small_sp c H _ ?_
  simp [ev_ret, evOps_nil, evOps_cons, opG_none, opG_some, opJ, opU_ff, isU_bool, opK_eq, opA_move, opA_assign, opA_pick, opA_bin, putO_some, putH_lt, putC_lt, putV_lt, condB_true, condB_false, binT_some, binA, avO_some, pickT, io_eql, opS, opV, Go.Mx.look, seqK, Fr.known, retK, retA, resA, mapO, orO_some, eqT_some, tk5, u8A]
  (repeat' (first | apply And.intro | intro _)) <;> apply key <;> simp_all <;> omega

/-- A text whose letters are all of a kind. -/
theorem of_sp (l : List UInt8) (most : Nat) (g : Nat) (k : UInt8 → Bool) (hg : bodyOk Try.prog g = true) (hk : ∀ c H Q, Q (.v (.bool (k c))) H → Sp Try.prog g [u8A c] Q H) (H : Hp) (Q : AV → Hp → Prop) (hl : l.length ≤ 100000) (hm : most ≤ 1000)
    (h : Q (.v (.bool (ofB most k l))) H) : Sp Try.prog 73 [.v (.string (tx l)), .v (.int .i64 most), .fn (.func g) [] []] Q H := by
  refine Sp.body [(4, ⟨[0, 2, 17, 18], [], []⟩)] ⟨[], [], []⟩ [] mo Try.func73 rfl (Nat.le_of_ble_eq_true rfl) (by kernel_rfl) ?_
  have key : ∀ b : Bool, (b = true ↔ ofB most k l = true) → Q (.v (.bool b)) H := fun b hb => by rwa [Bool.eq_iff_iff.2 hb]
  simp [ev_skip, ev_seq, ev_cond2, ev_block, ev_ret, ev_region2, ev_loop, loopK, evOps_nil, evOps_cons, opG_none, opG_some, opJ, opU_ff, isU_bool, opK_eq, opA_move, opA_assign, opA_pick, opA_bin, opA_len, putO_some, putH_lt, putV_lt, condB_true, condB_false, binT_some, binA, avO_some, pickT, lenT_str, io_gtr, strOp, opS, opV, Go.Mx.look, fr0, argSlots, seqK, Fr.known, retK, retA, resA, mapO, headK, getV, getB, chkP, firstReg, orO_some, eqT_some, tk3, tk9, Try.underlying9, mk_tx, tx_size, tx_list]
  refine ⟨fun h0 => key _ (by subst h0; simp [ofB]), fun h0 => ⟨fun h1 => key _ (by simp [ofB]; omega), fun h1 => ?_⟩⟩
  have hp : 1 ≤ l.length := by cases l <;> simp_all
  refine LoopC.intro (fun n xs _ H2 => ∃ i : Nat, i ≤ l.length ∧ n = l.length - i ∧ (∀ j c, j < i → l[j]? = some c → k c = true) ∧ xs = [.v (.string (tx l)), .fn (.func g) [] [], .v (.int .i64 l.length), .v (.int .i64 i)] ∧ H2 = H) l.length
    ⟨0, by omega, rfl, fun j c hj => by omega, rfl, rfl⟩ ?_
  rintro n xs bs H2 ⟨i, hi, rfl, hall, rfl, rfl⟩
  simp [ev_skip, ev_seq, ev_cond2, ev_block, ev_exit, ev_ret, ev_region2, evOps_nil, evOps_cons, opG_none, opA_move, opA_assign, opA_bin, opA_index, putO_some, putH_lt, binT_some, binA, avO_some, indexT, io_lss, opS, opV, Go.Mx.look, seqK, blockK, Fr.known, retK, retA, resA, mapO, mkFr, slotsOf, ptrsOf, boxesOf, orO_some, eqT_some, tk3, Try.underlying9]
  refine ⟨fun hlt => ?_, fun hge => key _ ?_⟩
  · have hx := List.getElem?_eq_getElem hlt
    have e := indexStr_tx l .i64 i hlt
    rw [List.getD_eq_getElem?_getD, hx, Option.getD_some] at e
    generalize l[i] = c at hx e
    have w1 : IntKind.i64.wrap ((i : Int) + 1) = (i : Int) + 1 := wr_i64 (by omega)
    simp [evOps_cons, opG_none, opA_call, putO_some, putH_lt, opS, opV, Go.Mx.look, mapO, callA, e, hg]
    refine hk c _ _ ?_
    simp [ev_skip, ev_seq, ev_cond2, ev_ret, ev_region2, evOps_nil, evOps_cons, opG_none, opA_move, opA_assign, opA_bin, opA_un, putO_some, putH_lt, putC_lt, binT_some, binA, avO_some, unT, io_add, opS, opV, Go.Mx.look, seqK, blockK, Fr.known, retK, retA, resA, mapO, unA, headK, getV, getB, chkP, orO_some, eqT_some, tk3, w1]
    refine ⟨fun hc => key _ ?_, fun hc => ⟨l.length - (i + 1), by omega, i + 1, by omega, rfl, fun j d hj hd => ?_, by simp⟩⟩
    · simp [ofB]
      intro _ _
      exact ⟨c, List.mem_of_getElem? hx, hc⟩
    · rcases Nat.lt_or_ge j i with h3 | h3
      · exact hall j d h3 hd
      · obtain rfl : j = i := by omega
        rw [hx] at hd; simp at hd; subst hd; exact hc
  · simp [ofB]
    refine ⟨⟨hp, h1⟩, fun c hc => ?_⟩
    obtain ⟨j, hj⟩ := List.getElem?_of_mem hc
    exact hall j c (by have := (List.getElem?_eq_some_iff.1 hj).1; omega) hj

theorem server_sp (l : List UInt8) (H : Hp) (Q : AV → Hp → Prop) (hl : l.length ≤ 100000) (h : Q (.v (.bool (serverB l))) H) : Sp Try.prog 62 [.v (.string (tx l))] Q H := by
  refine Sp.body [] ⟨[], [], []⟩ [] mo Try.func62 rfl (Nat.le_of_ble_eq_true rfl) (by kernel_rfl) ?_
  simp [ev_seq, ev_region2, evOps_nil, evOps_cons, opG_none, opA_move, opA_assign, opA_call, putO_some, putH_lt, opS, opV, Go.Mx.look, fr0, argSlots, seqK, mapO, callA, ok73]
  refine of_sp l 32 76 kServer ok76 kserver_sp H _ hl (by omega) ?_
  simp [ev_ret, evOps_nil, evOps_cons, opG_none, opA_assign, putO_some, putH_lt, putC_lt, opS, opV, Go.Mx.look, seqK, retK, retA, resA, mapO]; exact h
theorem local_sp (l : List UInt8) (H : Hp) (Q : AV → Hp → Prop) (hl : l.length ≤ 100000) (h : Q (.v (.bool (localB l))) H) : Sp Try.prog 61 [.v (.string (tx l))] Q H := by
  refine Sp.body [] ⟨[], [], []⟩ [] mo Try.func61 rfl (Nat.le_of_ble_eq_true rfl) (by kernel_rfl) ?_
  simp [ev_seq, ev_region2, evOps_nil, evOps_cons, opG_none, opA_move, opA_assign, opA_call, putO_some, putH_lt, opS, opV, Go.Mx.look, fr0, argSlots, seqK, mapO, callA, ok73]
  refine of_sp l 32 74 kLocal ok74 klocal_sp H _ hl (by omega) ?_
  simp [ev_ret, evOps_nil, evOps_cons, opG_none, opA_assign, putO_some, putH_lt, putC_lt, opS, opV, Go.Mx.look, seqK, retK, retA, resA, mapO]; exact h
end Go.Proofs.Ytamhmecfjkahdaa

namespace Go.Proofs.Ytamhmecfjkahdaa
open Go.Mx
set_option linter.unusedVariables false
set_option linter.unusedSimpArgs false
set_option linter.unnecessarySimpa false

theorem rserver_sp (l : List UInt8) (H : Hp) (Q : AV → Hp → Prop) (hl : l.length ≤ 100000) (h : Q (.v (.bool (serverB l))) H) : Sp Try.prog 64 [.v (.string (tx l))] Q H := by
  refine Sp.body [(4, ⟨[0, 3], [], []⟩)] ⟨[], [], []⟩ [] mo Try.func64 rfl (Nat.le_of_ble_eq_true rfl) (by kernel_rfl) ?_
  have key : ∀ b : Bool, (b = true ↔ serverB l = true) → Q (.v (.bool b)) H := fun b hb => by rwa [Bool.eq_iff_iff.2 hb]
  unfold serverB ofB at key
  simp [ev_skip, ev_seq, ev_cond2, ev_block, ev_ret, ev_region2, ev_loop, loopK, evOps_nil, evOps_cons, opG_none, opG_some, opJ, opU_ff, isU_bool, opK_eq, opA_move, opA_assign, opA_pick, opA_bin, opA_len, putO_some, putH_lt, putV_lt, condB_true, condB_false, binT_some, binA, avO_some, pickT, lenT_str, io_lss, io_gtr, opS, opV, Go.Mx.look, fr0, argSlots, seqK, Fr.known, retK, retA, resA, mapO, headK, getV, getB, chkP, firstReg, orO_some, eqT_some, tk3, Try.underlying9, tx_size]
  refine ⟨fun h0 => key _ (by simp; omega), fun h0 => ⟨fun h1 => key _ (by simp; omega), fun h1 => ?_⟩⟩
  have hp : 1 ≤ l.length := by cases l <;> simp_all
  refine LoopC.intro (fun n xs _ H2 => ∃ i : Nat, i ≤ l.length ∧ n = l.length - i ∧ (∀ j c, j < i → l[j]? = some c → kServer c = true) ∧ xs = [.v (.string (tx l)), .v (.int .i64 i)] ∧ H2 = H) l.length
    ⟨0, by omega, rfl, fun j c hj => by omega, rfl, rfl⟩ ?_
  rintro n xs bs H2 ⟨i, hi, rfl, hall, rfl, rfl⟩
  simp [ev_skip, ev_seq, ev_cond2, ev_block, ev_exit, ev_ret, ev_region2, evOps_nil, evOps_cons, opG_none, opA_move, opA_assign, opA_bin, opA_index, opA_len, putO_some, putH_lt, binT_some, binA, avO_some, lenT_str, indexT, io_lss, opS, opV, Go.Mx.look, seqK, blockK, Fr.known, retK, retA, resA, mapO, mkFr, slotsOf, ptrsOf, boxesOf, orO_some, eqT_some, tk3, Try.underlying9, tx_size]
  refine ⟨fun hlt => ?_, fun hge => key _ ?_⟩
  · have hx := List.getElem?_eq_getElem hlt
    have e := indexStr_tx l .i64 i hlt
    rw [List.getD_eq_getElem?_getD, hx, Option.getD_some] at e
    generalize l[i] = c at hx e
    have w1 : IntKind.i64.wrap ((i : Int) + 1) = (i : Int) + 1 := wr_i64 (by omega)
    have bad : kServer c = false → Q (.v (.bool false)) H2 := fun hc => key _ (by
      simp
      intro _ _
      exact ⟨c, List.mem_of_getElem? hx, hc⟩)
    have good : kServer c = true → ∃ m, m < l.length - i ∧ ∃ i_1, i_1 ≤ l.length ∧ m = l.length - i_1 ∧ (∀ (j : Nat) (x : UInt8), j < i_1 → l[j]? = some x → kServer x = true) ∧ (i : Int) + 1 = (i_1 : Int) := fun hc => ⟨l.length - (i + 1), by omega, i + 1, by omega, rfl, fun j d hj hd => by
      rcases Nat.lt_or_ge j i with h3 | h3
      · exact hall j d h3 hd
      · obtain rfl : j = i := by omega
        rw [hx] at hd; simp at hd; subst hd; exact hc, by simp⟩
    unfold kServer at bad good
    simp [evOps_cons, opG_none, opA_call, putO_some, putH_lt, opS, opV, Go.Mx.look, mapO, callA, ok77, e]
    refine rsmall_sp c _ _ ?_
    simp [ev_skip, ev_seq, ev_cond2, ev_ret, ev_region2, evOps_nil, evOps_cons, opG_none, opG_some, opJ, opU_ft, isU_bool, opK_eq, opA_move, opA_assign, opA_pick, opA_bin, opA_un, opA_index, putO_some, putH_lt, putC_lt, putV_lt, condB_true, condB_false, binT_some, binA, avO_some, pickT, unT, indexT, io_add, io_neq, opS, opV, Go.Mx.look, seqK, blockK, Fr.known, retK, retA, resA, mapO, unA, headK, getV, getB, chkP, orO_some, eqT_some, tk3, tk5, Try.underlying9, w1, e, u8A]
    (repeat' (first | apply And.intro | intro _)) <;> first | (apply bad; simp_all <;> omega) | (apply good; simp_all <;> omega)
  · simp
    refine ⟨⟨hp, by omega⟩, fun c hc => ?_⟩
    obtain ⟨j, hj⟩ := List.getElem?_of_mem hc
    exact hall j c (by have := (List.getElem?_eq_some_iff.1 hj).1; omega) hj

theorem rlocal_sp (l : List UInt8) (H : Hp) (Q : AV → Hp → Prop) (hl : l.length ≤ 100000) (h : Q (.v (.bool (localB l))) H) : Sp Try.prog 63 [.v (.string (tx l))] Q H := by
  refine Sp.body [(4, ⟨[0, 3], [], []⟩)] ⟨[], [], []⟩ [] mo Try.func63 rfl (Nat.le_of_ble_eq_true rfl) (by kernel_rfl) ?_
  have key : ∀ b : Bool, (b = true ↔ localB l = true) → Q (.v (.bool b)) H := fun b hb => by rwa [Bool.eq_iff_iff.2 hb]
  unfold localB ofB at key
  simp [ev_skip, ev_seq, ev_cond2, ev_block, ev_ret, ev_region2, ev_loop, loopK, evOps_nil, evOps_cons, opG_none, opG_some, opJ, opU_ff, isU_bool, opK_eq, opA_move, opA_assign, opA_pick, opA_bin, opA_len, putO_some, putH_lt, putV_lt, condB_true, condB_false, binT_some, binA, avO_some, pickT, lenT_str, io_lss, io_gtr, opS, opV, Go.Mx.look, fr0, argSlots, seqK, Fr.known, retK, retA, resA, mapO, headK, getV, getB, chkP, firstReg, orO_some, eqT_some, tk3, Try.underlying9, tx_size]
  refine ⟨fun h0 => key _ (by simp; omega), fun h0 => ⟨fun h1 => key _ (by simp; omega), fun h1 => ?_⟩⟩
  have hp : 1 ≤ l.length := by cases l <;> simp_all
  refine LoopC.intro (fun n xs _ H2 => ∃ i : Nat, i ≤ l.length ∧ n = l.length - i ∧ (∀ j c, j < i → l[j]? = some c → kLocal c = true) ∧ xs = [.v (.string (tx l)), .v (.int .i64 i)] ∧ H2 = H) l.length
    ⟨0, by omega, rfl, fun j c hj => by omega, rfl, rfl⟩ ?_
  rintro n xs bs H2 ⟨i, hi, rfl, hall, rfl, rfl⟩
  simp [ev_skip, ev_seq, ev_cond2, ev_block, ev_exit, ev_ret, ev_region2, evOps_nil, evOps_cons, opG_none, opA_move, opA_assign, opA_bin, opA_index, opA_len, putO_some, putH_lt, binT_some, binA, avO_some, lenT_str, indexT, io_lss, opS, opV, Go.Mx.look, seqK, blockK, Fr.known, retK, retA, resA, mapO, mkFr, slotsOf, ptrsOf, boxesOf, orO_some, eqT_some, tk3, Try.underlying9, tx_size]
  refine ⟨fun hlt => ?_, fun hge => key _ ?_⟩
  · have hx := List.getElem?_eq_getElem hlt
    have e := indexStr_tx l .i64 i hlt
    rw [List.getD_eq_getElem?_getD, hx, Option.getD_some] at e
    generalize l[i] = c at hx e
    have w1 : IntKind.i64.wrap ((i : Int) + 1) = (i : Int) + 1 := wr_i64 (by omega)
    have bad : kLocal c = false → Q (.v (.bool false)) H2 := fun hc => key _ (by
      simp
      intro _ _
      exact ⟨c, List.mem_of_getElem? hx, hc⟩)
    have good : kLocal c = true → ∃ m, m < l.length - i ∧ ∃ i_1, i_1 ≤ l.length ∧ m = l.length - i_1 ∧ (∀ (j : Nat) (x : UInt8), j < i_1 → l[j]? = some x → kLocal x = true) ∧ (i : Int) + 1 = (i_1 : Int) := fun hc => ⟨l.length - (i + 1), by omega, i + 1, by omega, rfl, fun j d hj hd => by
      rcases Nat.lt_or_ge j i with h3 | h3
      · exact hall j d h3 hd
      · obtain rfl : j = i := by omega
        rw [hx] at hd; simp at hd; subst hd; exact hc, by simp⟩
    unfold kLocal at bad good
    simp [evOps_cons, opG_none, opA_call, putO_some, putH_lt, opS, opV, Go.Mx.look, mapO, callA, ok77, e]
    refine rsmall_sp c _ _ ?_
    simp [ev_skip, ev_seq, ev_cond2, ev_ret, ev_region2, evOps_nil, evOps_cons, opG_none, opG_some, opJ, opU_ft, isU_bool, opK_eq, opA_move, opA_assign, opA_pick, opA_bin, opA_un, opA_index, putO_some, putH_lt, putC_lt, putV_lt, condB_true, condB_false, binT_some, binA, avO_some, pickT, unT, indexT, io_add, io_neq, opS, opV, Go.Mx.look, seqK, blockK, Fr.known, retK, retA, resA, mapO, unA, headK, getV, getB, chkP, orO_some, eqT_some, tk3, tk5, Try.underlying9, w1, e, u8A]
    (repeat' (first | apply And.intro | intro _)) <;> first | (apply bad; simp_all <;> omega) | (apply good; simp_all <;> omega)
  · simp
    refine ⟨⟨hp, by omega⟩, fun c hc => ?_⟩
    obtain ⟨j, hj⟩ := List.getElem?_of_mem hc
    exact hall j c (by have := (List.getElem?_eq_some_iff.1 hj).1; omega) hj

end Go.Proofs.Ytamhmecfjkahdaa

namespace Go.Proofs.Ytamhmecfjkahdaa
open Go.Mx
set_option linter.unusedVariables false
set_option linter.unusedSimpArgs false
set_option linter.unnecessarySimpa false

/-- The first place of a byte in a text. -/
theorem bytealg_ex (s : ByteArray) (c : UInt8) (H : Hp) (k : AV → Hp → Prop) (h : k (.v (.int .i64 (Lib.indexByte s.data.toList c))) H) :
    Ex Try.prog 85 [.v (.string s), .v (.int .u8 c.toNat)] k H := by
  intro ρ I w us hs hv
  have h0 := hv.2 0 _ rfl
  have h1 := hv.2 1 _ rfl
  have hl := hv.1
  match us, hl with
  | [a, b], _ =>
    have ha : a = .string s := by simpa using h0.v_inv
    have hb : b = .int .u8 c.toNat := by simpa using h1.v_inv
    subst ha hb
    refine ⟨.int .i64 (Lib.indexByte s.data.toList c), _, ?_, .v _, h⟩
    have e := run_callFunc_indexByte (P := Try.prog) Try.func85 (by decide +kernel) (by kernel_rfl) (by kernel_rfl) (by kernel_rfl) #[.string s, .int .u8 c.toNat] w
    rw [show ([Value.string s, Value.int .u8 c.toNat] : List Value).toArray = #[.string s, .int .u8 c.toNat] from rfl, e, Lib.run_indexByteString]
    simp
theorem no85 : bodyOk Try.prog 85 = false := by kernel_rfl

theorem slindex_sp (l : List UInt8) (c : UInt8) (H : Hp) (Q : AV → Hp → Prop) (h : Q (.v (.int .i64 (Lib.indexByte l c))) H) :
    Sp Try.prog 81 [.v (.string (tx l)), u8A c] Q H := by
  refine Sp.body [] ⟨[], [], []⟩ [] mo Try.func81 rfl (Nat.le_of_ble_eq_true rfl) (by kernel_rfl) ?_
  simp [ev_seq, ev_region2, evOps_nil, evOps_cons, opG_none, opA_move, opA_assign, opA_call, putO_some, putH_lt, opS, opV, Go.Mx.look, fr0, argSlots, seqK, mapO, callA, no85]
  exact bytealg_ex (tx l) c H _ (by simpa [ev_skip, ev_seq, ev_cond2, ev_block, ev_exit, ev_ret, ev_region2, ev_loop, loopK, evOps_nil, evOps_cons, opG_none, opG_some, opJ, opU_true, opU_ft, opU_ff, isU_undef, isU_bool, valU_true, valU_false, opK_eq, opA_move, opA_assign, opA_pick, opA_bin, opA_un, opA_extract, opA_field, opA_load, opA_index, opA_indexAddr, opA_fieldAddr, opA_nilCheck, opA_len, opA_call, opA_max, opA_min, opA_alloc, opA_box, opA_store, opA_buildSlice, opA_makeSlice, opA_append, opA_copy, opA_convert, opA_makeMap, opA_slice, opA_makeFunc, opA_build, putO_some, putH_lt, putH_none, putC_lt, putC_none, putU_lt, putU_none, putV_lt, putV_none, condB_true, condB_false, CondP_true, CondP_false, binT_some, binA_int, binA_str, binA_eqb, binA_neb, binA, eqRef, avO_some, avO_none, avOf, pickT_true, pickT_false, pickT, unT, extractT, loadT, nilCheckT, lenT_str, lenT_row, lenT_sl, lenT_nil, lenT_arr, lenT_mp, lenT_nomp, maxT, minT, maxA, minA, fieldT, fieldAddrT, indexT, indexAddrT, allocT, boxT, storeT, buildSliceT, makeSliceT, appendT, copyT, convV, convC, convT, makeMapT, bndT, sliceT, fnT, bytesOf_nil, bytesOf_one, repeatL_0, repeatL_1, repeatL_2, repeatL_3, repeatL_4, buildZ, partsZ, fillO, aggO, io_add, io_sub, io_mul, io_quo, io_rem, io_shl, io_shr, io_and, io_or, io_xor, io_eql, io_neq, io_lss, io_leq, io_gtr, io_geq, strOp, opS_tmp, opS_const, opV_tmp, opV_const, opS, opV, look_eq, look_ne, Go.Mx.look, fr0, argSlots, seqK_n, seqK_r, seqK_e, seqK, blockK_n, blockK_r, blockK, Fr.known, Fr.newBox, dropBp, retK, retA, resA, mapO, unA, convInt, convStr, strOf, callA, extractA, lenM, cellsA_v, cellsA_agg, cellsA_row, cellsA_sl, cellsA_ptr, cellsA_rp, cellsA_mp, cellsA_fn, okPart_v, okPart_agg, okPart_row, okPart_sl, okPart_ptr, okPart_rp, okPart_mp, okPart_fn, Value.oneCell', fieldA, partA, loadA, loadS, plusS, indexAddrA, indexArrA, nilCheckS, sliceA, sliceArr, fillA, newK, storeS, headK, getV, getB, chkP, mkFr, slotsOf, ptrsOf, boxesOf, firstReg, bindO, makeA, appA, copyA, srcA, srcTy, okPart_u8, cellsA_u8, Cond_iff, orO_some, orO_none, eqT_some, opA_entry, entryT_some, lookT_some, updT_some, delT_some, clearT_some, rangeT_some, nextT_some, makeMapH, opA_lookup, opA_makeMap2, opA_upd, opA_delete, opA_clear, opA_range, opA_next, valS_lookup, ev_draw, drawK, evP_nil, evP_q, evP_s, opAt_some, chkK_eq, sameV_some, sameO_some, allQ_nil, allQ_cons, valG_some, valJ, valQ_none, valQ_some, valS_move, valS_pick, valS_bin, valS_un, valS_extract, valS_field, valS_load, valS_index, valS_indexAddr, valS_fieldAddr, valS_nilCheck, valS_len, valS_max, valS_min, valS_slice, valS_convert, valS_makeFunc, valS_build, valS_buildSlice, rowT, rowF, sz2, ag2, tk2, by2, ze2, Try.underlying2, sz3, ag3, tk3, by3, ze3, Try.underlying3, sz4, ag4, tk4, by4, ze4, Try.underlying4, sz5, ag5, tk5, by5, ze5, Try.underlying5, sz9, ag9, tk9, st9, by9, ze9, Try.underlying9, sz22, ag22, tk22, st22, by22, ze22, Try.underlying22, sz24, ag24, tk24, by24, ze24, Try.underlying24, sz26, ag26, tk26, by26, ze26, Try.underlying26, sz28, ag28, tk28, st28, by28, ze28, Try.underlying28, sz30, ag30, tk30, by30, ze30, of30, Try.underlying30, sz32, ag32, tk32, by32, ze32, of32, Try.underlying32, sz42, ag42, tk42, by42, ze42, Try.underlying42, sz43, ag43, tk43, st43, by43, ze43, Try.underlying43, sz45, ag45, tk45, by45, ze45, of45, Try.underlying45, sz48, ag48, tk48, st48, by48, ze48, Try.underlying48, sz52, ag52, tk52, by52, ze52, Try.underlying52, sz53, ag53, tk53, by53, ze53, Try.underlying53, sz55, ag55, tk55, by55, ze55, of55, Try.underlying55, sz56, ag56, tk56, st56, by56, ze56, Try.underlying56, sz59, ag59, tk59, by59, ze59, Try.underlying59, sz62, ag62, tk62, by62, ze62, of62, Try.underlying62, sz63, ag63, tk63, by63, ze63, of63, Try.underlying63, sz65, ag65, tk65, by65, ze65, Try.underlying65, sz67, ag67, tk67, by67, ze67, of67, Try.underlying67, sz74, ag74, tk74, st74, by74, ze74, Try.underlying74, mo, ok3, ok4, ok5, ok6, ok7, ok8, ok9, ok10, ok11, ok12, ok13, ok14, ok15, ok16, ok17, ok18, ok19, ok20, ok21, ok22, ok23, ok24, ok25, ok26, ok27, ok28, ok29, ok30, ok31, ok32, ok33, ok34, ok35, ok36, ok37, ok39, ok40, ok41, ok42, ok45, ok46, ok47, ok59, ok60, ok61, ok62, ok63, ok64, ok71, ok72, ok73, ok74, ok75, ok76, ok77, ok79, ok80, ok81, pl4, pl6, pl7, pl9, pl12, pl13, pl14, pl19, pl20, pl25, pl27, pl37, pl47, pl72, tx_data] using h)
theorem index1_sp (l : List UInt8) (c : UInt8) (H : Hp) (Q : AV → Hp → Prop) (h : Q (.v (.int .i64 (Lib.indexByte l c))) H) :
    Sp Try.prog 80 [.v (.string (tx l)), .v (.string (tx [c]))] Q H := by
  refine Sp.body [] ⟨[], [], []⟩ [] mo Try.func80 rfl (Nat.le_of_ble_eq_true rfl) (by kernel_rfl) ?_
  have e0 := indexStr_tx0 c [] .i64
  simp [ev_seq, ev_cond2, ev_block, ev_ret, ev_region2, evOps_nil, evOps_cons, opG_none, opG_some, opJ, opU_ff, isU_bool, opK_eq, opA_move, opA_assign, opA_pick, opA_bin, opA_index, opA_len, opA_call, putO_some, putH_lt, condB_true, condB_false, binT_some, binA, avO_some, pickT, lenT_str, indexT, io_eql, strOp, opS, opV, Go.Mx.look, fr0, argSlots, seqK, blockK, Fr.known, retK, retA, resA, mapO, callA, orO_some, eqT_some, tk3, tk9, Try.underlying9, ok81, tx_size, tx_list, e0]
  refine ⟨fun he => by subst he; simpa [Lib.indexByte] using h, fun _ => ?_⟩
  refine slindex_sp l c H _ ?_
  simp [ev_ret, evOps_nil, evOps_cons, opG_none, opA_assign, putO_some, putH_lt, putC_lt, opS, opV, Go.Mx.look, seqK, blockK, retK, retA, resA, mapO]; exact h

theorem ixb_le (c : UInt8) : ∀ l : List UInt8, Lib.indexByte l c = -1 ∨ ∃ i : Nat, i < l.length ∧ Lib.indexByte l c = i
  | [] => .inl rfl
  | b :: l => by
    unfold Lib.indexByte
    by_cases hb : (b == c) = true
    · rw [if_pos hb]; exact .inr ⟨0, by simp, rfl⟩
    · rw [if_neg hb]
      rcases ixb_le c l with h | ⟨i, hi, h⟩
      · rw [h]; exact .inl rfl
      · rw [h]
        have : ((i : Int) == -1) = false := by simp
        rw [this]
        exact .inr ⟨i + 1, by simpa using hi, by simp⟩

theorem scut_sp (l : List UInt8) (c : UInt8) (H : Hp) (Q : AV → Hp → Prop) (hl : l.length ≤ 100000) (h0 : Lib.indexByte l c = -1 → Q (.tup [.v (.string (tx l)), .v (.string (tx [])), .v (.bool false)]) H)
    (h1 : ∀ i : Nat, i < l.length → Lib.indexByte l c = i → Q (.tup [.v (.string (tx (l.take i))), .v (.string (tx (l.drop (i + 1)))), .v (.bool true)]) H) :
    Sp Try.prog 72 [.v (.string (tx l)), .v (.string (tx [c]))] Q H := by
  refine Sp.body [] ⟨[], [], pl72⟩ tb72 mo Try.func72 rfl (Nat.le_of_ble_eq_true rfl) (by kernel_rfl) ?_
  simp [ev_seq, ev_region2, evOps_nil, evOps_cons, opG_none, opA_move, opA_assign, opA_call, putO_some, putH_lt, opS, opV, Go.Mx.look, fr0, argSlots, seqK, mapO, callA, ok80, pl72, mk_tx]
  refine index1_sp l c H _ ?_
  rcases ixb_le c l with h | ⟨i, hi, h⟩
  · rw [h]
    simp [ev_skip, ev_seq, ev_cond2, ev_ret, ev_region2, evOps_nil, evOps_cons, opG_none, opA_move, opA_assign, opA_bin, putO_some, putH_lt, putC_lt, condB_false, binT_some, binA, avO_some, io_geq, opS, opV, Go.Mx.look, seqK, Fr.known, retK, retA, resA, mapO, orO_some, eqT_some, tk3]; exact h0 h
  · rw [h]
    have w1 : IntKind.i64.wrap ((i : Int) + 1) = (i : Int) + 1 := wr_i64 (by omega)
    have e1 := sliceStr_tx l 0 i (by omega)
    have e2 := sliceStr_tx l ((i : Int) + 1) l.length (by omega)
    simp at e1
    have e3 : ((i : Int) + 1).toNat = i + 1 := by omega
    rw [e3, List.take_of_length_le (by simp)] at e2
    simp [ev_seq, ev_cond2, ev_ret, ev_region2, evOps_nil, evOps_cons, opG_none, opA_move, opA_assign, opA_bin, opA_len, opA_slice, putO_some, putH_lt, putC_lt, condB_true, binT_some, binA, avO_some, lenT_str, bndT, sliceT, io_add, io_geq, opS, opV, Go.Mx.look, seqK, Fr.known, retK, retA, resA, mapO, sliceA, orO_some, eqT_some, ev_draw, drawK, evP_nil, evP_q, evP_s, opAt_some, chkK_eq, sameV_some, sameO_some, allQ_nil, allQ_cons, valQ_none, valS_move, valS_bin, valS_len, valS_slice, tk3, Try.underlying9, tx_size, e1, e2, w1]
    exact h1 i hi h
theorem cut1_sp (l : List UInt8) (c : UInt8) (H : Hp) (Q : AV → Hp → Prop) (hl : l.length ≤ 100000) (h0 : Lib.indexByte l c = -1 → Q (.tup [.v (.string (tx l)), .v (.string (tx [])), .v (.bool false)]) H)
    (h1 : ∀ i : Nat, i < l.length → Lib.indexByte l c = i → Q (.tup [.v (.string (tx (l.take i))), .v (.string (tx (l.drop (i + 1)))), .v (.bool true)]) H) :
    Sp Try.prog 60 [.v (.string (tx l)), .v (.string (tx [c]))] Q H := by
  refine Sp.body [] ⟨[], [], []⟩ [] mo Try.func60 rfl (Nat.le_of_ble_eq_true rfl) (by kernel_rfl) ?_
  simp [ev_seq, ev_region2, evOps_nil, evOps_cons, opG_none, opA_move, opA_assign, opA_call, putO_some, putH_lt, opS, opV, Go.Mx.look, fr0, argSlots, seqK, mapO, callA, ok72, mk_tx]
  refine scut_sp l c H _ hl (fun h => ?_) (fun i hi h => ?_)
  · simp [ev_ret, evOps_nil, evOps_cons, opG_none, opA_assign, opA_extract, putO_some, putH_lt, putC_lt, extractT, opS, opV, Go.Mx.look, seqK, retK, retA, resA, mapO, extractA]; exact h0 h
  · simp [ev_ret, evOps_nil, evOps_cons, opG_none, opA_assign, opA_extract, putO_some, putH_lt, putC_lt, extractT, opS, opV, Go.Mx.look, seqK, retK, retA, resA, mapO, extractA]; exact h1 i hi h

theorem prefix_sp (l : List UInt8) (g : UInt8) (H : Hp) (Q : AV → Hp → Prop) (h : Q (.v (.bool (decide (l.head? = some g)))) H) :
    Sp Try.prog 79 [.v (.string (tx l)), .v (.string (tx [g]))] Q H := by
  refine Sp.body [] ⟨[], [], []⟩ [] mo Try.func79 rfl (Nat.le_of_ble_eq_true rfl) (by kernel_rfl) ?_
  cases l with
  | nil => simp [ev_seq, ev_ret, ev_region2, evOps_nil, evOps_cons, opG_none, opG_some, opJ, opU_ft, isU_bool, opA_move, opA_assign, opA_pick, opA_bin, opA_len, putO_some, putH_lt, putV_lt, condB_false, binT_some, binA, avO_some, pickT, lenT_str, io_geq, opS, opV, Go.Mx.look, fr0, argSlots, seqK, Fr.known, retK, retA, resA, mapO, orO_some, eqT_some, tk3, Try.underlying9, tx_size]; simpa using h
  | cons c r =>
    have e1 := sliceStr_tx (c :: r) 0 1 (by simp; omega)
    simp at e1
    simp [ev_seq, ev_ret, ev_region2, evOps_nil, evOps_cons, opG_none, opG_some, opJ, opU_ft, isU_bool, opK_eq, opA_move, opA_assign, opA_pick, opA_bin, opA_len, opA_slice, putO_some, putH_lt, putV_lt, condB_true, condB_false, binT_some, binA, avO_some, pickT, lenT_str, bndT, sliceT, io_geq, strOp, opS, opV, Go.Mx.look, fr0, argSlots, seqK, Fr.known, retK, retA, resA, mapO, sliceA, orO_some, eqT_some, tk3, tk9, Try.underlying9, tx_size, tx_list, e1]
    refine ⟨fun _ => ?_, fun h => by omega⟩
    have e2 : (c == g) = decide (c = g) := by rw [Bool.eq_iff_iff]; simp
    rw [e2]; simpa using h
theorem sprefix_sp (l : List UInt8) (g : UInt8) (H : Hp) (Q : AV → Hp → Prop) (h0 : l.head? ≠ some g → Q (.tup [.v (.string (tx l)), .v (.bool false)]) H) (h1 : l.head? = some g → Q (.tup [.v (.string (tx (l.drop 1))), .v (.bool true)]) H) :
    Sp Try.prog 71 [.v (.string (tx l)), .v (.string (tx [g]))] Q H := by
  refine Sp.body [] ⟨[], [], []⟩ [] mo Try.func71 rfl (Nat.le_of_ble_eq_true rfl) (by kernel_rfl) ?_
  simp [ev_seq, ev_region2, evOps_nil, evOps_cons, opG_none, opA_move, opA_assign, opA_call, putO_some, putH_lt, opS, opV, Go.Mx.look, fr0, argSlots, seqK, mapO, callA, ok79, mk_tx]
  refine prefix_sp l g H _ ?_
  by_cases hg : l.head? = some g
  · have h := h1 hg
    cases l with
    | nil => simp at hg
    | cons c r =>
      have e1 := sliceStr_tx (c :: r) 1 ((r.length : Int) + 1) (by simp; omega)
      simp at e1 h
      simp [ev_skip, ev_seq, ev_cond2, ev_ret, ev_region2, evOps_nil, evOps_cons, opG_none, opA_move, opA_assign, opA_un, opA_len, opA_slice, putO_some, putH_lt, putC_lt, condB_false, unT, lenT_str, bndT, sliceT, opS, opV, Go.Mx.look, seqK, Fr.known, retK, retA, resA, mapO, unA, sliceA, Try.underlying9, tx_size, hg, e1]
      exact h
  · simp [ev_seq, ev_cond2, ev_ret, ev_region2, evOps_nil, evOps_cons, opG_none, opA_move, opA_assign, opA_un, putO_some, putH_lt, putC_lt, condB_true, unT, opS, opV, Go.Mx.look, seqK, Fr.known, retK, retA, resA, mapO, unA, hg]; exact h0 hg
theorem cutprefix_sp (l : List UInt8) (g : UInt8) (H : Hp) (Q : AV → Hp → Prop) (h0 : l.head? ≠ some g → Q (.tup [.v (.string (tx l)), .v (.bool false)]) H) (h1 : l.head? = some g → Q (.tup [.v (.string (tx (l.drop 1))), .v (.bool true)]) H) :
    Sp Try.prog 59 [.v (.string (tx l)), .v (.string (tx [g]))] Q H := by
  refine Sp.body [] ⟨[], [], []⟩ [] mo Try.func59 rfl (Nat.le_of_ble_eq_true rfl) (by kernel_rfl) ?_
  simp [ev_seq, ev_region2, evOps_nil, evOps_cons, opG_none, opA_move, opA_assign, opA_call, putO_some, putH_lt, opS, opV, Go.Mx.look, fr0, argSlots, seqK, mapO, callA, ok71, mk_tx]
  refine sprefix_sp l g H _ (fun h => ?_) (fun h => ?_)
  · simp [ev_ret, evOps_nil, evOps_cons, opG_none, opA_assign, opA_extract, putO_some, putH_lt, putC_lt, extractT, opS, opV, Go.Mx.look, seqK, retK, retA, resA, mapO, extractA]; exact h0 h
  · simp [ev_ret, evOps_nil, evOps_cons, opG_none, opA_assign, opA_extract, putO_some, putH_lt, putC_lt, extractT, opS, opV, Go.Mx.look, seqK, retK, retA, resA, mapO, extractA]; simpa using h1 h
end Go.Proofs.Ytamhmecfjkahdaa

namespace Go.Proofs.Ytamhmecfjkahdaa
open Go.Mx
set_option linter.unusedVariables false
set_option linter.unusedSimpArgs false
set_option linter.unnecessarySimpa false

abbrev P3 := List UInt8 × List UInt8 × Bool
def none3 : P3 := ([], [], false)
def tupP (p : P3) : AV := .tup [.v (.string (tx p.1)), .v (.string (tx p.2.1)), .v (.bool p.2.2)]
/-- The parts of a name that begins with a sign. -/
def splitP (r : List UInt8) : P3 :=
  if Lib.indexByte r 58 = -1 then none3
  else if localB (r.take (Lib.indexByte r 58).toNat) = true ∧ serverB (r.drop ((Lib.indexByte r 58).toNat + 1)) = true then (r.take (Lib.indexByte r 58).toNat, r.drop ((Lib.indexByte r 58).toNat + 1), true) else none3
def partsP (g : UInt8) : List UInt8 → P3
  | [] => none3
  | c :: r => if c = g then splitP r else none3
theorem partsP_no {g : UInt8} {l : List UInt8} (h : l.head? ≠ some g) : partsP g l = none3 := by
  cases l with
  | nil => rfl
  | cons c r => simp only [partsP]; rw [if_neg (fun e : c = g => h (by simp [e]))]
theorem partsP_yes (g : UInt8) (r : List UInt8) : partsP g (g :: r) = splitP r := by simp [partsP]

theorem cut_sp (g : UInt8) (l : List UInt8) (H : Hp) (Q : AV → Hp → Prop) (hl : l.length ≤ 100000) (h : Q (tupP (partsP g l)) H) : Sp Try.prog 45 [.v (.string (tx [g])), .v (.string (tx l))] Q H := by
  refine Sp.body [] ⟨[], [], []⟩ [] mo Try.func45 rfl (Nat.le_of_ble_eq_true rfl) (by kernel_rfl) ?_
  simp [ev_seq, ev_region2, evOps_nil, evOps_cons, opG_none, opA_move, opA_assign, opA_call, putO_some, putH_lt, opS, opV, Go.Mx.look, fr0, argSlots, seqK, mapO, callA, ok59, mk_tx]
  refine cutprefix_sp l g H _ (fun hg => ?_) (fun hg => ?_)
  · rw [partsP_no hg] at h
    simp [ev_seq, ev_region2, evOps_nil, evOps_cons, opG_none, opA_move, opA_assign, opA_extract, opA_call, putO_some, putH_lt, putC_lt, extractT, opS, opV, Go.Mx.look, seqK, mapO, callA, extractA, ok60]
    refine cut1_sp l 58 H _ hl (fun h1 => ?_) (fun i hi h1 => ?_)
    · simp [ev_seq, ev_cond2, ev_ret, ev_region2, evOps_nil, evOps_cons, opG_none, opG_some, opJ, opU_ff, isU_bool, opA_move, opA_assign, opA_pick, opA_un, opA_extract, putO_some, putH_lt, putC_lt, putV_lt, condB_true, pickT, unT, extractT, opS, opV, Go.Mx.look, seqK, Fr.known, retK, retA, resA, mapO, unA, extractA]; exact h
    · simp [ev_seq, ev_cond2, ev_ret, ev_region2, evOps_nil, evOps_cons, opG_none, opG_some, opJ, opU_ff, isU_bool, opA_move, opA_assign, opA_pick, opA_un, opA_extract, putO_some, putH_lt, putC_lt, putV_lt, condB_true, pickT, unT, extractT, opS, opV, Go.Mx.look, seqK, Fr.known, retK, retA, resA, mapO, unA, extractA]; exact h
  · obtain ⟨r, rfl⟩ : ∃ r, l = g :: r := by cases l with
      | nil => simp at hg
      | cons c r => simp at hg; exact ⟨r, by rw [hg]⟩
    rw [partsP_yes] at h
    unfold splitP at h
    simp at hl
    simp [ev_seq, ev_region2, evOps_nil, evOps_cons, opG_none, opA_move, opA_assign, opA_extract, opA_call, putO_some, putH_lt, putC_lt, extractT, opS, opV, Go.Mx.look, seqK, mapO, callA, extractA, ok60]
    refine cut1_sp r 58 H _ (by omega) (fun h1 => ?_) (fun i hi h1 => ?_)
    · rw [h1] at h
      simp [ev_seq, ev_cond2, ev_ret, ev_region2, evOps_nil, evOps_cons, opG_none, opG_some, opJ, opU_ff, isU_bool, opK_eq, opA_move, opA_assign, opA_pick, opA_un, opA_extract, putO_some, putH_lt, putC_lt, putV_lt, condB_true, condB_false, pickT, unT, extractT, opS, opV, Go.Mx.look, seqK, Fr.known, retK, retA, resA, mapO, unA, extractA]; exact h
    · rw [h1] at h
      rw [if_neg (by omega), Int.toNat_natCast] at h
      simp [ev_seq, ev_region2, evOps_nil, evOps_cons, opG_none, opG_some, opJ, opU_ff, isU_bool, opK_eq, opA_move, opA_assign, opA_pick, opA_un, opA_extract, opA_call, putO_some, putH_lt, putC_lt, condB_false, pickT, unT, extractT, opS, opV, Go.Mx.look, seqK, Fr.known, mapO, unA, callA, extractA, ok61]
      refine local_sp _ H _ (by simp; omega) ?_
      by_cases hlo : localB (r.take i) = true
      · simp [evOps_cons, opG_none, opG_some, opJ, opU_ff, isU_bool, opK_eq, opA_move, opA_pick, opA_un, opA_call, putO_some, putH_lt, putC_lt, condB_false, pickT, unT, opS, opV, Go.Mx.look, Fr.known, mapO, unA, callA, ok62, hlo]
        refine server_sp _ H _ (by simp; omega) ?_
        by_cases hse : serverB (r.drop (i + 1)) = true
        · rw [if_pos ⟨hlo, hse⟩] at h
          simp [ev_skip, ev_seq, ev_cond2, ev_ret, ev_region2, evOps_nil, evOps_cons, opG_none, opG_some, opJ, opU_ff, isU_bool, opK_eq, opA_move, opA_assign, opA_pick, opA_un, putO_some, putH_lt, putC_lt, condB_false, pickT, unT, opS, opV, Go.Mx.look, seqK, Fr.known, retK, retA, resA, mapO, unA, hse]; exact h
        · rw [if_neg (fun hc => hse hc.2)] at h
          simp [ev_seq, ev_cond2, ev_ret, ev_region2, evOps_nil, evOps_cons, opG_none, opG_some, opJ, opU_ff, isU_bool, opK_eq, opA_assign, opA_pick, opA_un, putO_some, putH_lt, putC_lt, condB_true, condB_false, pickT, unT, opS, opV, Go.Mx.look, seqK, Fr.known, retK, retA, resA, mapO, unA, hse]; exact h
      · rw [if_neg (fun hc => hlo hc.1)] at h
        simp [ev_seq, ev_cond2, ev_ret, ev_region2, evOps_nil, evOps_cons, opG_none, opG_some, opJ, opU_ff, isU_bool, opK_eq, opA_move, opA_assign, opA_pick, opA_un, putO_some, putH_lt, putC_lt, putV_lt, condB_true, condB_false, pickT, unT, opS, opV, Go.Mx.look, seqK, Fr.known, retK, retA, resA, mapO, unA, hlo]; exact h

theorem user_sp (l : List UInt8) (H : Hp) (Q : AV → Hp → Prop) (hl : l.length ≤ 100000) (h : Q (tupP (partsP 64 l)) H) : Sp Try.prog 39 [.v (.string (tx l))] Q H := by
  refine Sp.body [] ⟨[], [], []⟩ [] mo Try.func39 rfl (Nat.le_of_ble_eq_true rfl) (by kernel_rfl) ?_
  simp [ev_seq, ev_region2, evOps_nil, evOps_cons, opG_none, opA_move, opA_assign, opA_call, putO_some, putH_lt, opS, opV, Go.Mx.look, fr0, argSlots, seqK, mapO, callA, ok45, mk_tx]
  refine cut_sp 64 l H _ hl ?_
  simp [ev_ret, evOps_nil, evOps_cons, opG_none, opA_assign, opA_extract, putO_some, putH_lt, putC_lt, extractT, opS, opV, Go.Mx.look, seqK, retK, retA, resA, mapO, extractA, tupP]; exact h
theorem ixb_none {r : List UInt8} {c : UInt8} (h : ∀ k : Nat, r[k]? ≠ some c) : Lib.indexByte r c = -1 := by
  rcases ixb_le c r with h1 | ⟨i, _, h1⟩
  · exact h1
  · exact absurd (Lib.indexByte_some h1).1 (h i)
theorem ixb_some {r : List UInt8} {c : UInt8} {i : Nat} (h0 : r[i]? = some c) (h : ∀ k : Nat, k < i → r[k]? ≠ some c) : Lib.indexByte r c = i := by
  rcases ixb_le c r with h1 | ⟨j, _, h1⟩
  · exact absurd h0 (Lib.indexByte_none h1 i)
  · obtain ⟨h2, h3⟩ := Lib.indexByte_some h1
    rw [h1]
    rcases Nat.lt_trichotomy i j with h4 | h4 | h4
    · exact absurd h0 (h3 i h4)
    · rw [h4]
    · exact absurd h2 (h j h4)

theorem parts_sp (g : UInt8) (l : List UInt8) (H : Hp) (Q : AV → Hp → Prop) (hl : l.length ≤ 100000) (h : Q (tupP (partsP g l)) H) : Sp Try.prog 47 [u8A g, .v (.string (tx l))] Q H := by
  refine Sp.body [(2, ⟨[0, 1, 7], [], []⟩)] ⟨[], [], pl47⟩ tb47 mo Try.func47 rfl (Nat.le_of_ble_eq_true rfl) (by kernel_rfl) ?_
  simp [ev_seq, ev_block, ev_region2, ev_loop, loopK, evOps_nil, evOps_cons, opG_none, opA_assign, putO_some, putH_lt, opS, opV, Go.Mx.look, fr0, argSlots, seqK, mapO, headK, getV, getB, chkP, firstReg, pl47, mk_tx]
  refine LoopC.intro (fun n xs _ H2 => ∃ i : Nat, 1 ≤ i ∧ (i ≤ l.length ∨ i = 1) ∧ n = l.length - i ∧ (∀ j, 1 ≤ j → j < i → l[j]? ≠ some 58) ∧ xs = [u8A g, .v (.string (tx l)), .v (.int .i64 i)] ∧ H2 = H) (l.length - 1)
    ⟨1, by omega, by omega, rfl, fun j hj hj2 => by omega, rfl, rfl⟩ ?_
  rintro n xs bs H2 ⟨i, h1, hi, rfl, hall, rfl, rfl⟩
  simp [ev_seq, ev_cond2, ev_exit, ev_ret, ev_region2, evOps_nil, evOps_cons, opG_none, opG_some, opJ, opU_ft, isU_bool, opK_eq, opA_move, opA_assign, opA_pick, opA_bin, opA_index, opA_len, putO_some, putH_lt, putV_lt, condB_true, condB_false, binT_some, binA, avO_some, pickT, lenT_str, indexT, io_lss, opS, opV, Go.Mx.look, seqK, blockK, Fr.known, retK, retA, resA, mapO, mkFr, slotsOf, ptrsOf, boxesOf, orO_some, eqT_some, tk3, Try.underlying9, tx_size]
  refine ⟨fun hlt => ?_, fun hge => ?_⟩
  · obtain ⟨c0, r, rfl⟩ : ∃ c r, l = c :: r := by cases l with
      | nil => simp at hlt
      | cons c r => exact ⟨c, r, rfl⟩
    have e0 : indexStr (.v (.string (tx (c0 :: r)))) (.v (.int .i64 0)) = some (.v (.int .u8 c0.toNat)) := indexStr_tx0 c0 r .i64
    have hx := List.getElem?_eq_getElem hlt
    have e := indexStr_tx (c0 :: r) .i64 i hlt
    rw [List.getD_eq_getElem?_getD, hx, Option.getD_some] at e
    generalize (c0 :: r)[i] = c at hx e
    unfold u8A at e
    by_cases hg : c0 = g
    · subst hg
      rw [partsP_yes] at h
      unfold splitP at h
      have hr : i - 1 < r.length := by simp at hlt; omega
      have hx' : r[i - 1]? = some c := by
        rw [show i = (i - 1) + 1 by omega] at hx
        simpa using hx
      have hlen : (c0 :: r).length = r.length + 1 := rfl
      by_cases hc : c = 58
      · subst hc
        have hix : Lib.indexByte r 58 = ((i - 1 : Nat) : Int) := ixb_some hx' (fun k hk => by
          have := hall (k + 1) (by omega) (by omega)
          simpa using this)
        rw [hix, if_neg (by omega), Int.toNat_natCast, show i - 1 + 1 = i by omega] at h
        have w1 : IntKind.i64.wrap ((i : Int) + 1) = (i : Int) + 1 := wr_i64 (by simp at hl; omega)
        have s1 := sliceStr_tx (c0 :: r) 1 i (by omega)
        have s2 := sliceStr_tx (c0 :: r) ((i : Int) + 1) ((r.length : Int) + 1) (by rw [hlen]; omega)
        have n1 : ((i : Int) + 1).toNat = i + 1 := by omega
        have n2 : ((r.length : Int) + 1).toNat = r.length + 1 := by omega
        have n3 : (1 : Int).toNat = 1 := rfl
        rw [n3, Int.toNat_natCast, List.drop_succ_cons, List.drop_zero] at s1
        rw [n1, n2, List.drop_succ_cons, List.take_of_length_le (by simp)] at s2
        simp [ev_skip, ev_seq, ev_cond2, ev_block, ev_region2, evOps_nil, evOps_cons, opG_none, opG_some, opJ, opU_ft, isU_bool, opK_eq, opA_move, opA_pick, opA_bin, opA_index, opA_call, opA_slice, putO_some, putH_lt, condB_true, binT_some, binA, avO_some, pickT, indexT, bndT, sliceT, io_eql, opS, opV, Go.Mx.look, seqK, Fr.known, mapO, callA, sliceA, orO_some, eqT_some, tk5, Try.underlying9, ok63, u8A, e0, e, s1]
        refine rlocal_sp _ _ _ (by simp at hl ⊢; omega) ?_
        by_cases hlo : localB (r.take (i - 1)) = true
        · simp [evOps_cons, opG_none, opG_some, opJ, opU_ft, isU_bool, opK_eq, opA_move, opA_bin, opA_call, opA_slice, putO_some, putH_lt, putC_lt, condB_true, binT_some, binA, avO_some, bndT, sliceT, io_add, opS, opV, Go.Mx.look, Fr.known, mapO, callA, sliceA, orO_some, eqT_some, tk3, Try.underlying9, ok64, tx_size, hlo, w1, s2]
          refine rserver_sp _ _ _ (by simp at hl ⊢; omega) ?_
          by_cases hse : serverB (r.drop i) = true
          · rw [if_pos ⟨hlo, hse⟩] at h
            simp [ev_seq, ev_cond2, ev_ret, evOps_nil, evOps_cons, opG_none, opA_move, opA_assign, opA_pick, opA_bin, opA_slice, putO_some, putH_lt, putC_lt, condB_true, binT_some, binA, avO_some, pickT, bndT, sliceT, io_add, opS, opV, Go.Mx.look, seqK, blockK, Fr.known, retK, retA, resA, mapO, sliceA, orO_some, eqT_some, ev_draw, drawK, evP_nil, evP_q, evP_s, opAt_some, chkK_eq, sameV_some, sameO_some, allQ_nil, allQ_cons, valQ_none, valS_move, valS_bin, valS_slice, tk3, Try.underlying9, tx_size, hse, s1, s2, w1]; exact h
          · rw [if_neg (fun hc => hse hc.2)] at h
            simp [ev_skip, ev_seq, ev_cond2, ev_ret, ev_region2, evOps_nil, evOps_cons, opG_none, opA_assign, opA_pick, putO_some, putH_lt, putC_lt, condB_false, pickT, opS, opV, Go.Mx.look, seqK, blockK, Fr.known, retK, retA, resA, mapO, hse]; exact h
        · rw [if_neg (fun hc => hlo hc.1)] at h
          simp [ev_skip, ev_seq, ev_cond2, ev_ret, ev_region2, evOps_nil, evOps_cons, opG_none, opG_some, opJ, opU_ft, isU_bool, opA_move, opA_assign, opA_pick, putO_some, putH_lt, putC_lt, putV_lt, condB_false, pickT, opS, opV, Go.Mx.look, seqK, blockK, Fr.known, retK, retA, resA, mapO, hlo]; exact h
      · have hc' : ¬ (c.toNat : Int) = 58 := fun e => hc (UInt8.toNat_inj.1 (by simpa using (by omega : c.toNat = 58)))
        have w1 : IntKind.i64.wrap ((i : Int) + 1) = (i : Int) + 1 := wr_i64 (by simp at hl; omega)
        simp [ev_skip, ev_seq, ev_cond2, ev_block, ev_region2, evOps_nil, evOps_cons, opG_none, opG_some, opJ, opU_ft, isU_bool, opK_eq, opA_move, opA_assign, opA_pick, opA_bin, opA_index, putO_some, putH_lt, condB_true, CondP_false, binT_some, binA, avO_some, pickT, indexT, io_add, io_eql, opS, opV, Go.Mx.look, seqK, blockK, Fr.known, mapO, headK, getV, getB, chkP, orO_some, eqT_some, tk3, tk5, Try.underlying9, u8A, e0, e, hc', w1]
        refine ⟨r.length + 1 - (i + 1), by omega, i + 1, by omega, by omega, rfl, fun j hj hj2 => ?_, by simp⟩
        rcases Nat.lt_or_ge j i with h3 | h3
        · exact hall j hj h3
        · obtain rfl : j = i := by omega
          rw [hx]; intro h4; simp at h4; exact hc h4
    · have hg' : ¬ (c0.toNat : Int) = g.toNat := fun e => hg (UInt8.toNat_inj.1 (by omega))
      rw [partsP_no (by simpa using hg)] at h
      simp [ev_seq, ev_cond2, ev_exit, ev_ret, ev_region2, evOps_nil, evOps_cons, opG_none, opG_some, opJ, opU_ft, isU_bool, opK_eq, opA_move, opA_assign, opA_pick, opA_bin, putO_some, putH_lt, condB_true, CondP_false, binT_some, binA, avO_some, pickT, io_eql, opS, opV, Go.Mx.look, seqK, blockK, Fr.known, retK, retA, resA, mapO, orO_some, eqT_some, tk5, e0, u8A, hg']
      exact h
  · have hno : partsP g l = none3 := by
      cases l with
      | nil => rfl
      | cons c r =>
        by_cases hg : c = g
        · subst hg
          rw [partsP_yes]
          unfold splitP
          rw [if_pos (ixb_none (fun k => by
            by_cases hk : k < r.length
            · have := hall (k + 1) (by omega) (by simp at hge; omega)
              simpa using this
            · rw [List.getElem?_eq_none (by omega)]; simp))]
        · exact partsP_no (by simpa using hg)
    rw [hno] at h
    exact h
end Go.Proofs.Ytamhmecfjkahdaa
