import Derived.Test.YtamhmecfjkahdaaPF
import Derived.Test.YtamhmecfjkahdaaMxSb
namespace Go.Proofs.Ytamhmecfjkahdaa
open Go.Mx
set_option linter.unusedVariables false
set_option linter.unusedSimpArgs false
set_option linter.unnecessarySimpa false

/-! ### A post that is none -/
theorem enterN_sp (v : AV) (u n : ByteArray) (H : Hp) (Q : AV → Hp → Prop) (hv : NoPo H v) (h : Q (.v (.int .i64 1)) H) : Sp Try.prog 11 [v, .v (.string u), .v (.string n)] Q H := by
  refine Sp.body [] ⟨[], [], []⟩ [] mo Try.func11 rfl (Nat.le_of_ble_eq_true rfl) (by kernel_rfl) ?_
  simp [ev_seq, ev_block, ev_region2, evOps_nil, evOps_cons, opG_none, opA_move, opA_assign, opA_call, putO_some, putH_lt, opS, opV, Go.Mx.look, fr0, argSlots, seqK, mapO, callA, ok29]
  refine madeN_sp v H _ hv ?_
  simp [ev_seq, ev_cond2, ev_ret, ev_region2, evOps_nil, evOps_cons, opG_none, opG_some, opJ, opU_ff, isU_bool, opA_move, opA_assign, opA_pick, opA_un, putO_some, putH_lt, putC_lt, putV_lt, condB_true, pickT, unT, opS, opV, Go.Mx.look, seqK, blockK, Fr.known, retK, retA, resA, mapO, unA]
  exact h
theorem leaveN_sp (v : AV) (u n : ByteArray) (H : Hp) (Q : AV → Hp → Prop) (hv : NoPo H v) (h : Q (.v (.bool false)) H) : Sp Try.prog 18 [v, .v (.string u), .v (.string n)] Q H := by
  refine Sp.body [] ⟨[], [], []⟩ [] mo Try.func18 rfl (Nat.le_of_ble_eq_true rfl) (by kernel_rfl) ?_
  simp [ev_seq, ev_region2, evOps_nil, evOps_cons, opG_none, opA_move, opA_assign, opA_call, putO_some, putH_lt, opS, opV, Go.Mx.look, fr0, argSlots, seqK, mapO, callA, ok32]
  refine atN_sp v u n H _ hv ?_
  simp [ev_skip, ev_seq, ev_cond2, ev_ret, ev_region2, evOps_nil, evOps_cons, opG_none, opA_move, opA_assign, opA_bin, putO_some, putH_lt, putC_lt, condB_false, binT_some, binA, eqRef, avO_some, opS, opV, Go.Mx.look, seqK, Fr.known, retK, retA, resA, mapO, orO_some, eqT_some, tk59]
  exact h
theorem sendN_sp (v : AV) (x : Pa) (H : Hp) (Q : AV → Hp → Prop) (hv : NoPo H v) (h : Q (.tup [.v (.int .i64 0), .v (.int .i64 1)]) H) : Sp Try.prog 12 [v, .agg (paC x)] Q H := by
  refine Sp.body [(10, ⟨[0, 7, 8, 9, 62, 63, 64], [(3, 3, 0), (6, 6, 0)], [3, 6]⟩), (24, ⟨[0, 9, 99, 100, 101], [(3, 3, 0), (6, 6, 0)], [3, 6]⟩)] ⟨[3, 6], [], pl12⟩ tb12 mo Try.func12 rfl (Nat.le_of_ble_eq_true rfl) (by kernel_rfl) ?_
  simp [ev_seq, ev_region2, evOps_nil, evOps_cons, opG_none, opA_move, opA_assign, opA_call, opA_box, putO_some, putH_lt, boxT, opS, opV, Go.Mx.look, fr0, argSlots, seqK, Fr.newBox, dropBp, mapO, callA, cellsA_agg, okPart_agg, newK, ok29, pl12, paC]
  refine madeN_sp v H _ hv ?_
  simp [ev_seq, ev_cond2, ev_ret, ev_region2, evOps_nil, evOps_cons, opG_none, opG_some, opJ, opU_true, opU_ff, isU_undef, isU_bool, opA_move, opA_assign, opA_pick, opA_un, putO_some, putH_lt, putC_lt, putV_lt, condB_true, pickT, unT, opS, opV, Go.Mx.look, seqK, Fr.known, retK, retA, resA, mapO, unA]
  exact h
theorem pollN_sp (v : AV) (u n : ByteArray) (since limit : Int) (H : Hp) (Q : AV → Hp → Prop) (hv : NoPo H v) (h : Q (.tup [.v (.slice none 0 0), .v (.int .i64 0), .v (.int .i64 2)]) H) : Sp Try.prog 13 [v, .v (.string u), .v (.string n), .v (.int .i64 since), .v (.int .i64 limit)] Q H := by
  refine Sp.body [] ⟨[], [], pl13⟩ tb13 mo Try.func13 rfl (Nat.le_of_ble_eq_true rfl) (by kernel_rfl) ?_
  simp [ev_seq, ev_region2, evOps_nil, evOps_cons, opG_none, opA_move, opA_assign, opA_call, putO_some, putH_lt, opS, opV, Go.Mx.look, fr0, argSlots, seqK, mapO, callA, ok32, pl13]
  refine atN_sp v u n H _ hv ?_
  simp [ev_seq, ev_cond2, ev_ret, ev_region2, evOps_nil, evOps_cons, opG_none, opA_move, opA_assign, opA_bin, putO_some, putH_lt, putC_lt, condB_true, binT_some, binA, eqRef, avO_some, opS, opV, Go.Mx.look, seqK, Fr.known, retK, retA, resA, mapO, orO_some, eqT_some, tk59]
  exact h

/-! ### Deeds -/
structure De where
  k : Int
  u : ByteArray
  n : ByteArray
  p : Pa
  since : Int
  limit : Int
def deC (d : De) : List AV := [.v (.int .i64 d.k), .v (.string d.u), .v (.string d.n), .v (.string d.p.fr), .v (.string d.p.to), .v (.string d.p.dv), .v (.string d.p.tx_), .v (.string d.p.bo), .v (.int .i64 d.since), .v (.int .i64 d.limit)]
theorem deC_len (d : De) : (deC d).length = 10 := rfl
def SzP (p : Pa) : Prop := p.fr.size ≤ 140737488351232 ∧ p.to.size ≤ 140737488351232 ∧ p.dv.size ≤ 140737488351232 ∧ p.tx_.size ≤ 140737488351232 ∧ p.bo.size ≤ 140737488351232
def SzDe (d : De) : Prop := d.u.size ≤ 140737488351232 ∧ d.n.size ≤ 140737488351232 ∧ SzP d.p
theorem pa_read {xs : List AV} (h : Shp Try.prog 30 xs) : ∃ x : Pa, xs = paC x ∧ SzP x := by
  obtain ⟨ps, rfl, hp⟩ := shp_struct Try.underlying30 h
  obtain ⟨s0, e0, z0⟩ := shp_str Try.underlying9 (hp 0 _ rfl)
  obtain ⟨s1, e1, z1⟩ := shp_str Try.underlying9 (hp 1 _ rfl)
  obtain ⟨s2, e2, z2⟩ := shp_str Try.underlying9 (hp 2 _ rfl)
  obtain ⟨s3, e3, z3⟩ := shp_str Try.underlying9 (hp 3 _ rfl)
  obtain ⟨s4, e4, z4⟩ := shp_str Try.underlying9 (hp 4 _ rfl)
  exact ⟨⟨s0, s1, s2, s3, s4⟩, by simp [List.range_succ, e0, e1, e2, e3, e4, paC], z0, z1, z2, z3, z4⟩
theorem de_read {xs : List AV} (h : Shp Try.prog 32 xs) : ∃ x : De, xs = deC x ∧ SzDe x := by
  obtain ⟨ps, rfl, hp⟩ := shp_struct Try.underlying32 h
  obtain ⟨n0, e0, _⟩ := shp_int Try.underlying3 (hp 0 _ rfl)
  obtain ⟨s1, e1, z1⟩ := shp_str Try.underlying9 (hp 1 _ rfl)
  obtain ⟨s2, e2, z2⟩ := shp_str Try.underlying9 (hp 2 _ rfl)
  obtain ⟨p, e3, z3⟩ := pa_read (hp 3 _ rfl)
  obtain ⟨n4, e4, _⟩ := shp_int Try.underlying2 (hp 4 _ rfl)
  obtain ⟨n5, e5, _⟩ := shp_int Try.underlying3 (hp 5 _ rfl)
  exact ⟨⟨n0, s1, s2, p, n4, n5⟩, by simp [List.range_succ, e0, e1, e2, e3, e4, e5, deC, paC], z1, z2, z3⟩
abbrev Des := {l : List De // ∀ x ∈ l, SzDe x}
def rowD (l : List De) : AV := .row false l.length (l.flatMap deC)
theorem des_read {x : AV} (h : Shp Try.prog 22 [x]) : ∃ l : Des, x = rowD l.1 := by
  obtain ⟨l, h1, _, h2⟩ := shp_rows Try.underlying22 (fun _ ha => de_read ha) h
  simp at h1
  exact ⟨⟨l, h2⟩, h1⟩
theorem de1_read {xs : List AV} (h : Shp Try.prog 32 xs) : ∃ x : {x : De // SzDe x}, xs = deC x.1 := by
  obtain ⟨x, h1, h2⟩ := de_read h
  exact ⟨⟨x, h2⟩, h1⟩
theorem pa1_read {xs : List AV} (h : Shp Try.prog 30 xs) : ∃ x : {x : Pa // SzP x}, xs = paC x.1 := by
  obtain ⟨x, h1, h2⟩ := pa_read h
  exact ⟨⟨x, h2⟩, h1⟩
def FewD (d : De) : Prop := d.u.size + d.n.size ≤ 200 ∧ FewX d.p
def Few (l : List De) : Prop := l.length ≤ 80 ∧ ∀ d ∈ l, FewD d
def FwInv (l : List De) (x0 : Bool) (H : Hp) (n : Nat) (xs : List AV) (H2 : Hp) : Prop :=
  ∃ i : Nat, i ≤ l.length ∧ n = l.length - i ∧ (∀ d ∈ l.take i, FewD d) ∧ xs = [.row x0 l.length (l.flatMap deC), .v (.int .i64 i)] ∧ H2 = H
theorem de_sub (l : List De) (i : Nat) {d : De} (hx : l[i]? = some d) : ((l.flatMap deC).drop (i * 10 + 3)).take 5 = paC d.p := by
  have e := flat_sub deC_len l i hx
  have : ((l.flatMap deC).drop (i * 10 + 3)).take 5 = ((((l.flatMap deC).drop (i * 10)).take 10).drop 3).take 5 := by
    rw [List.drop_take, List.drop_drop, List.take_take]; rfl
  rw [this, e]; rfl
set_option maxRecDepth 20000 in
set_option maxHeartbeats 1000000 in
theorem few_sp (l : List De) (x0 : Bool) (H : Hp) (Q : AV → Hp → Prop) (hz : ∀ d ∈ l, SzDe d) (h1 : Few l → Q (.v (.bool true)) H) (h0 : ¬ Few l → Q (.v (.bool false)) H) : Sp Try.prog 9 [.row x0 l.length (l.flatMap deC)] Q H := by
  refine Sp.body [(4, ⟨[0, 3], [], []⟩)] ⟨[4], [], pl9⟩ tb9 mo Try.func9 rfl (Nat.le_of_ble_eq_true rfl) (by kernel_rfl) ?_
  simp [ev_skip, ev_seq, ev_cond2, ev_block, ev_ret, ev_region2, ev_loop, loopK, evOps_nil, evOps_cons, opG_none, opA_move, opA_assign, opA_bin, opA_len, putO_some, putH_lt, binT_some, binA, avO_some, lenT_row, io_gtr, opS, opV, Go.Mx.look, fr0, argSlots, seqK, Fr.known, retK, retA, resA, mapO, headK, getV, getB, chkP, firstReg, orO_some, eqT_some, tk3, Try.underlying22, pl9]
  refine ⟨fun h => h0 (fun hf => by have := hf.1; omega), fun h => ?_⟩
  refine LoopC.intro (fun n xs _ H2 => FwInv l x0 H n xs H2) l.length ⟨0, by omega, by omega, by simp, by simp, rfl⟩ ?_
  rintro n xs bs H2 ⟨i, hi, rfl, hall, rfl, rfl⟩
  simp [ev_skip, ev_seq, ev_cond2, ev_block, ev_exit, ev_ret, ev_region2, evOps_nil, evOps_cons, opG_none, opA_move, opA_assign, opA_bin, opA_indexAddr, opA_len, putO_some, putH_lt, binT_some, binA, avO_some, lenT_row, indexAddrT, io_lss, opS, opV, Go.Mx.look, seqK, blockK, Fr.known, retK, retA, resA, mapO, indexAddrA, mkFr, slotsOf, ptrsOf, boxesOf, orO_some, eqT_some, tk3, Try.underlying22, sz32]
  refine ⟨fun hlt => ?_, fun hge => ?_⟩
  · have hx := List.getElem?_eq_getElem hlt
    generalize l[i] = d at hx
    have g1 := flat_get deC_len hx 1 (by omega)
    have g2 := flat_get deC_len hx 2 (by omega)
    simp [deC] at g1 g2
    have hsl := de_sub l i hx
    have hle2 := flat_le2 deC_len hx
    have hle : i * 10 + 3 + 5 ≤ (List.map (fun a => (deC a).length) l).sum := by omega
    have hdm := List.mem_of_getElem? hx
    obtain ⟨z1, z2, z3, z4, z5, z6, z7⟩ := hz d hdm
    have w1 : IntKind.i64.wrap ((i : Int) + 1) = (i : Int) + 1 := wr_i64 (by omega)
    have w2 : IntKind.i64.wrap ((d.u.size : Int) + d.n.size) = (d.u.size : Int) + d.n.size := wr_i64 (by omega)
    have w3 : IntKind.i64.wrap ((d.p.fr.size : Int) + d.p.to.size) = (d.p.fr.size : Int) + d.p.to.size := wr_i64 (by omega)
    have w4 : IntKind.i64.wrap ((d.p.fr.size : Int) + d.p.to.size + d.p.dv.size) = (d.p.fr.size : Int) + d.p.to.size + d.p.dv.size := wr_i64 (by omega)
    have w5 : IntKind.i64.wrap ((d.p.fr.size : Int) + d.p.to.size + d.p.dv.size + d.p.tx_.size) = (d.p.fr.size : Int) + d.p.to.size + d.p.dv.size + d.p.tx_.size := wr_i64 (by omega)
    have w6 : IntKind.i64.wrap ((d.p.fr.size : Int) + d.p.to.size + d.p.dv.size + d.p.tx_.size + d.p.bo.size) = (d.p.fr.size : Int) + d.p.to.size + d.p.dv.size + d.p.tx_.size + d.p.bo.size := wr_i64 (by omega)
    have htk : l.take (i + 1) = l.take i ++ [d] := by rw [List.take_add_one, hx]; rfl
    simp [ev_skip, ev_seq, ev_cond2, ev_ret, ev_region2, evOps_nil, evOps_cons, opG_none, opG_some, opJ, opU_ff, isU_bool, opK_eq, opA_move, opA_assign, opA_pick, opA_bin, opA_load, opA_indexAddr, opA_fieldAddr, opA_len, opA_alloc, opA_store, putO_some, putH_lt, putU_none, putV_lt, condB_true, condB_false, binT_some, binA, avO_some, pickT, loadT, lenT_str, fieldAddrT, indexAddrT, allocT, storeT, io_add, io_gtr, opS, opV, Go.Mx.look, seqK, blockK, Fr.known, Fr.newBox, dropBp, retK, retA, resA, mapO, cellsA_agg, okPart_agg, partA, loadA, loadS, plusS, indexAddrA, newK, storeS, headK, getV, getB, chkP, orO_some, eqT_some, ev_draw, drawK, evP_nil, evP_q, opAt_some, tk3, sz9, ag9, Try.underlying9, Try.underlying22, sz30, ag30, ze30, Try.underlying30, sz32, Try.underlying32, hlt, hsl, hle, paC, splice, g1, g2, w1, w2, w3, w4, w5, w6]
    refine ⟨fun hb => h0 (fun hf => ?_), fun hb => ⟨fun hb2 => h0 (fun hf => ?_), fun hb2 => ?_⟩⟩
    · have := (hf.2 d hdm).1; omega
    · have := (hf.2 d hdm).2; unfold FewX at this; omega
    · refine ⟨l.length - (i + 1), by omega, i + 1, by omega, rfl, ?_, by simp, rfl⟩
      rw [htk]; intro y hy2
      rcases List.mem_append.1 hy2 with h3 | h3
      · exact hall y h3
      · simp at h3; subst h3; exact ⟨by omega, by unfold FewX; omega⟩
  · have : i = l.length := by omega
    subst this
    rw [List.take_length] at hall
    exact h1 ⟨by omega, hall⟩

/-! ### Rows of parcels -/
theorem agg30 : AggKey Try.prog 30 := AggKey.of laid (Nat.le_of_ble_eq_true (by kernel_rfl)) (Nat.le_of_ble_eq_true (by kernel_rfl)) (by kernel_rfl) (by kernel_rfl) (by kernel_rfl)
theorem good30 {p : Pa} (h : FewP p) : KGood Try.prog 30 (.agg (paC p)) := by
  unfold FewP at h
  have h := KGood.struct agg30 Try.underlying30 (by kernel_rfl) (by kernel_rfl) (by kernel_rfl) (us := [.string p.fr, .string p.to, .string p.dv, .string p.tx_, .string p.bo]) (by kernel_rfl) (fun i f hf => by
    match i, hf with
    | 0, hf => simp at hf; subst hf; exact ⟨rfl, by kernel_rfl, _, rfl, PlainAt.str Try.underlying9 (by simp only [maxLen]; omega)⟩
    | 1, hf => simp at hf; subst hf; exact ⟨rfl, by kernel_rfl, _, rfl, PlainAt.str Try.underlying9 (by simp only [maxLen]; omega)⟩
    | 2, hf => simp at hf; subst hf; exact ⟨rfl, by kernel_rfl, _, rfl, PlainAt.str Try.underlying9 (by simp only [maxLen]; omega)⟩
    | 3, hf => simp at hf; subst hf; exact ⟨rfl, by kernel_rfl, _, rfl, PlainAt.str Try.underlying9 (by simp only [maxLen]; omega)⟩
    | 4, hf => simp at hf; subst hf; exact ⟨rfl, by kernel_rfl, _, rfl, PlainAt.str Try.underlying9 (by simp only [maxLen]; omega)⟩
    | i + 5, hf => simp at hf)
  exact h
theorem ne30 {p : Pa} (h : FewP p) : eqAgg Try.prog 30 .neq (.agg (paC p)) (.agg (paC p)) = some (.v (.bool false)) := by
  have h1 := good30 h
  simp [eqAgg, h1]
def SmInv (A : List Pa) (H : Hp) (n : Nat) (xs : List AV) (H2 : Hp) : Prop :=
  ∃ i : Nat, i ≤ A.length ∧ n = A.length - i ∧ xs = [rowP A, rowP A, .v (.int .i64 i)] ∧ H2 = H
set_option maxRecDepth 20000 in
theorem same_sp (A : List Pa) (H : Hp) (Q : AV → Hp → Prop) (hA : ∀ p ∈ A, FewP p) (hl : A.length ≤ 100000) (h : Q (.v (.bool true)) H) : Sp Try.prog 14 [rowP A, rowP A] Q H := by
  refine Sp.body [(4, ⟨[0, 1, 5], [], []⟩)] ⟨[], [], pl14⟩ tb14 mo Try.func14 rfl (Nat.le_of_ble_eq_true rfl) (by kernel_rfl) ?_
  simp [ev_skip, ev_seq, ev_cond2, ev_block, ev_region2, ev_loop, loopK, evOps_nil, evOps_cons, opG_none, opA_move, opA_assign, opA_bin, opA_len, putO_some, putH_lt, condB_false, binT_some, binA, avO_some, lenT_row, io_neq, opS, opV, Go.Mx.look, fr0, argSlots, seqK, Fr.known, mapO, headK, getV, getB, chkP, firstReg, orO_some, eqT_some, tk3, Try.underlying28, pl14, rowP]
  refine LoopC.intro (fun n xs _ H2 => SmInv A H n xs H2) A.length ⟨0, by omega, by omega, by simp [rowP], rfl⟩ ?_
  rintro n xs bs H2 ⟨i, hi, rfl, rfl, rfl⟩
  simp [ev_skip, ev_seq, ev_cond2, ev_block, ev_exit, ev_ret, ev_region2, evOps_nil, evOps_cons, opG_none, opA_move, opA_assign, opA_bin, opA_indexAddr, opA_len, putO_some, putH_lt, binT_some, binA, avO_some, lenT_row, indexAddrT, io_lss, opS, opV, Go.Mx.look, seqK, blockK, Fr.known, retK, retA, resA, mapO, indexAddrA, mkFr, slotsOf, ptrsOf, boxesOf, orO_some, eqT_some, ev_draw, drawK, evP_q, opAt_some, tk3, Try.underlying28, sz30, rowP]
  refine ⟨fun hlt => ?_, fun hge => by simpa using h⟩
  have hx := List.getElem?_eq_getElem hlt
  generalize A[i] = p at hx
  have hsl := flat_sub paC_len A i hx
  have hle : i * 5 + 5 ≤ (List.map (fun a : Pa => 5) A).sum := flat_le2 paC_len hx
  have w1 : IntKind.i64.wrap ((i : Int) + 1) = (i : Int) + 1 := wr_i64 (by omega)
  have he := ne30 (hA p (List.mem_of_getElem? hx))
  simp only [paC] at he
  simp [ev_skip, ev_cond2, ev_region2, evOps_nil, evOps_cons, opG_none, opA_move, opA_assign, opA_bin, opA_load, opA_indexAddr, putO_some, putH_lt, condB_false, binT_some, binA, eqRef, avO_some, avO_none, loadT, indexAddrT, io_add, opS, opV, Go.Mx.look, seqK, blockK, Fr.known, mapO, partA, loadA, loadS, indexAddrA, headK, getV, getB, chkP, orO_some, orO_none, eqT_some, evP_nil, evP_q, opAt_some, tk3, Try.underlying28, sz30, ag30, tk30, hlt, hsl, hle, paC, w1, he]
  exact ⟨A.length - (i + 1), by omega, i + 1, by omega, rfl, by simp [rowP], rfl⟩

/-! ### The example -/
def tA : ByteArray := ⟨#[64, 97, 58, 115]⟩
def tB : ByteArray := ⟨#[64, 98, 58, 115]⟩
def tD : ByteArray := ⟨#[100]⟩
def pX : Pa := ⟨tB, tA, tD, ⟨#[49]⟩, ⟨#[120]⟩⟩
def pY : Pa := ⟨tB, tA, star, ⟨#[50]⟩, ⟨#[121]⟩⟩
def S1 : St := ⟨[⟨tA, tD, [], 0⟩], []⟩
def S2 : St := ⟨[⟨tA, tD, [pX], 0⟩], [pX]⟩
def S3 : St := ⟨[⟨tA, tD, [pX, pY], 0⟩], [pX, pY]⟩
def S4 : St := ⟨[⟨tA, tD, [pX, pY], 1⟩], [pX, pY]⟩
theorem a1 : enterE ⟨[], []⟩ tA tD = 0 := by decide +kernel
theorem a1s : enterS ⟨[], []⟩ tA tD = S1 := by unfold enterS; rw [a1]; rfl
theorem a2 : sendE S1 pX = 0 := by decide +kernel
theorem a2s : sendS S1 pX = S2 := by unfold sendS; rw [a2, if_pos rfl]; kernel_rfl
theorem a3 : sendE S2 pY = 0 := by decide +kernel
theorem a3s : sendS S2 pY = S3 := by unfold sendS; rw [a3, if_pos rfl]; kernel_rfl
theorem a3n : sendR S2 pY = 1 := by unfold sendR; rw [a3, if_pos rfl]; decide +kernel
end Go.Proofs.Ytamhmecfjkahdaa

namespace Go.Proofs.Ytamhmecfjkahdaa
open Go.Mx
set_option linter.unusedVariables false
set_option linter.unusedSimpArgs false
set_option linter.unnecessarySimpa false

def d3 : Dv := ⟨tA, tD, [pX, pY], 0⟩
def d4 : Dv := ⟨tA, tD, [pX, pY], 1⟩
theorem f3 : findD S3 (tA, tD) = some d3 := by kernel_rfl
theorem f4 : findD S4 (tA, tD) = some d4 := by kernel_rfl
theorem p1s : pollS S3 (tA, tD) 0 = S3 := by kernel_rfl
theorem p2s : pollS S3 (tA, tD) 1 = S4 := by kernel_rfl
theorem p1o : pollO d3 0 1 = [pX] := by kernel_rfl
theorem p2o : pollO d3 1 5 = [pY] := by kernel_rfl
theorem p3o : pollO d4 2 5 = [] := by kernel_rfl
theorem p1r : pollR d3 0 1 = 1 := by kernel_rfl
theorem p2r : pollR d3 1 5 = 2 := by kernel_rfl
theorem p3r : pollR d4 2 5 = 2 := by kernel_rfl
theorem okN {S : St} (ds : S.ds.length ≤ 1) (d : ∀ d ∈ S.ds, DvOk d 10) (s : S.sent.length ≤ 10) (f : ∀ p ∈ S.sent, FewP p) : StOk S 10 := ⟨by
  match h : S.ds.map keyD with
  | [] => simp
  | [a] => simp
  | a :: b :: r =>
    have := congrArg List.length h
    simp at this; omega, d, by omega, s, f⟩
theorem fewX : FewP pX := by unfold FewP; decide
theorem fewY : FewP pY := by unfold FewP; decide
theorem ok0 : StOk ⟨[], []⟩ 10 := okN (by simp) (by simp) (by simp) (by simp)
theorem okS1 : StOk S1 10 := okN (by simp [S1]) (by simp [S1]; exact ⟨by decide, by decide, by simp, by simp, by simp⟩) (by simp [S1]) (by simp [S1])
theorem okS2 : StOk S2 10 := okN (by simp [S2]) (by simp [S2]; exact ⟨by decide, by decide, by simp, by simp, by simp; exact fewX⟩) (by simp [S2]) (by simp [S2]; exact fewX)
theorem okS3 : StOk S3 10 := okN (by simp [S3]) (by simp [S3]; exact ⟨by decide, by decide, by simp, by simp, by simp; exact ⟨fewX, fewY⟩⟩) (by simp [S3]) (by simp [S3]; exact ⟨fewX, fewY⟩)
theorem okS4 : StOk S4 10 := okN (by simp [S4]) (by simp [S4]; exact ⟨by decide, by decide, by simp, by simp, by simp; exact ⟨fewX, fewY⟩⟩) (by simp [S4]) (by simp [S4]; exact ⟨fewX, fewY⟩)
set_option maxRecDepth 20000 in
set_option maxHeartbeats 1000000 in
theorem awake_sp (H : Hp) (Q : AV → Hp → Prop) (h : ∀ H', Same [] H H' → Q (.v (.bool true)) H') : Sp Try.prog 16 [] Q H := by
  refine Sp.body [] ⟨[], [], []⟩ [] mo Try.func16 rfl (Nat.le_of_ble_eq_true rfl) (by kernel_rfl) ?_
  simp [ev_seq, ev_region2, evOps_nil, evOps_cons, opG_none, opA_assign, opA_call, putO_some, putH_lt, opS, opV, fr0, argSlots, seqK, mapO, callA, ok10]
  refine new_sp H _ (fun a H1 fp1 hp1 hs1 hf1 => ?_)
  simp [ev_seq, ev_region2, evOps_nil, evOps_cons, opG_none, opA_move, opA_assign, opA_call, putO_some, putH_lt, putC_lt, opS, opV, Go.Mx.look, seqK, mapO, callA, ok11]
  refine enter_sp a _ fp1 10 tA tD H1 _ hp1 ok0 (by decide) (by decide) (fun H2 fp2 hp2 st2 => ?_)
  rw [a1s] at hp2
  rw [a1]
  simp [ev_seq, ev_region2, evOps_nil, evOps_cons, opG_none, opA_move, opA_assign, opA_call, opA_build, putO_some, putH_lt, putC_lt, buildZ, partsZ, fillO, aggO, opS, opV, Go.Mx.look, seqK, mapO, callA, cellsA_v, okPart_v, Value.oneCell', fillA, ze30, of30, ok12]
  refine send_sp a _ fp2 10 pX H2 _ hp2 okS1 (by omega) fewX (fun H3 fp3 hp3 st3 => ?_)
  rw [a2s] at hp3
  simp [ev_seq, ev_region2, evOps_nil, evOps_cons, opG_none, opA_move, opA_call, opA_build, putO_some, putH_lt, putC_lt, buildZ, partsZ, fillO, aggO, opS, opV, Go.Mx.look, seqK, mapO, callA, cellsA_v, okPart_v, Value.oneCell', fillA, ze30, of30, ok12]
  refine send_sp a _ fp3 10 pY H3 _ hp3 okS2 (by omega) fewY (fun H4 fp4 hp4 st4 => ?_)
  rw [a3s] at hp4
  rw [a3, a3n]
  simp [ev_seq, ev_region2, evOps_nil, evOps_cons, opG_none, opA_move, opA_assign, opA_extract, opA_call, putO_some, putH_lt, putC_lt, extractT, opS, opV, Go.Mx.look, seqK, mapO, callA, extractA, ok13]
  refine poll_sp a _ fp4 10 tA tD 0 1 H4 _ hp4 okS3 (by omega) (by decide) (by decide) (fun e => by rw [f3] at e; simp at e) (fun d hd H5 fp5 hp5 st5 => ?_)
  rw [f3] at hd
  simp only [Option.some.injEq] at hd
  subst hd
  rw [p1s] at hp5
  rw [p1o, p1r]
  simp [ev_seq, ev_region2, evOps_nil, evOps_cons, opG_none, opA_move, opA_assign, opA_extract, opA_call, putO_some, putH_lt, putC_lt, extractT, opS, opV, Go.Mx.look, seqK, mapO, callA, extractA, ok13]
  refine poll_sp a _ fp5 10 tA tD 1 5 H5 _ hp5 okS3 (by omega) (by decide) (by decide) (fun e => by rw [f3] at e; simp at e) (fun d hd H6 fp6 hp6 st6 => ?_)
  rw [f3] at hd
  simp only [Option.some.injEq] at hd
  subst hd
  rw [p2s] at hp6
  rw [p2o, p2r]
  simp [ev_seq, ev_region2, evOps_nil, evOps_cons, opG_none, opA_move, opA_assign, opA_extract, opA_call, putO_some, putH_lt, putC_lt, extractT, opS, opV, Go.Mx.look, seqK, mapO, callA, extractA, ok13]
  refine poll_sp a _ fp6 10 tA tD 2 5 H6 _ hp6 okS4 (by omega) (by decide) (by decide) (fun e => by rw [f4] at e; simp at e) (fun d hd H7 fp7 hp7 st7 => ?_)
  rw [f4] at hd
  simp only [Option.some.injEq] at hd
  subst hd
  rw [p3o, p3r]
  have fin := h H7 (hs1.new (((((st2.trans st3).trans st4).trans st5).trans st6).trans st7).1 hf1)
  simp [ev_seq, ev_ret, ev_region2, evOps_nil, evOps_cons, opG_none, opG_some, opJ, opU_ft, isU_bool, opK_eq, opA_move, opA_assign, opA_pick, opA_bin, opA_extract, opA_load, opA_indexAddr, opA_fieldAddr, opA_len, putO_some, putH_lt, putC_lt, condB_true, binT_some, binA, avO_some, pickT, extractT, loadT, lenT_row, fieldAddrT, indexAddrT, io_eql, strOp, opS, opV, Go.Mx.look, seqK, Fr.known, retK, retA, resA, mapO, extractA, partA, loadA, loadS, plusS, indexAddrA, orO_some, eqT_some, tk2, tk3, sz9, ag9, tk9, tk26, Try.underlying28, sz30, Try.underlying30, rowP, paC, pX, pY]
  exact fin

def NoInv (x : De) (b : Nat) (n : Nat) (xs : List AV) (bs : List (List AV)) (H2 : Hp) : Prop :=
  ∃ i : Nat, i ≤ 2 ∧ n = 2 - i ∧ xs = [.row true 2 [.v (.pointer none), .ptr b 0 0], .v (.int .i64 i)] ∧ bs = [deC x] ∧ H2[b]? = some (.cells 0 [.v (.map none), .v (.map none)])
set_option maxRecDepth 20000 in
set_option maxHeartbeats 2000000 in
theorem none_law (x : {x : De // SzDe x}) : Sp Try.prog 8 [.agg (deC x.1)] (fun v _ => v = .v (.bool true)) [] := by
  obtain ⟨x, hz⟩ := x
  simp only
  refine Sp.body [(5, ⟨[3, 4], [(1, 1, 0)], [1]⟩)] ⟨[1], [], []⟩ [] mo Try.func8 rfl (Nat.le_of_ble_eq_true rfl) (by kernel_rfl) ?_
  simp [ev_seq, ev_region2, evOps_nil, evOps_cons, opG_none, opA_assign, opA_load, opA_call, opA_box, opA_buildSlice, putO_some, putH_lt, loadT, boxT, buildSliceT, repeatL_1, opS, opV, Go.Mx.look, fr0, argSlots, seqK, Fr.newBox, dropBp, mapO, callA, cellsA_agg, okPart_agg, partA, loadS, fillA, newK, bindO, Try.underlying22, sz32, ag32, ze32, ok9, deC]
  have hfew := few_sp [x] true [] 
  simp only [List.flatMap_cons, List.flatMap_nil, List.append_nil, List.length_cons, List.length_nil, deC] at hfew
  refine hfew _ (by simpa using hz) (fun hf => ?_) (fun _ => by simp [ev_seq, ev_cond2, ev_ret, ev_region2, evOps_nil, evOps_cons, opG_none, opA_assign, opA_un, putO_some, putH_lt, putC_lt, condB_true, unT, opS, opV, Go.Mx.look, seqK, Fr.known, retK, retA, resA, mapO, unA])
  obtain ⟨hf1, hf2⟩ := hf.2 x (by simp)
  have hf3 := hf2
  unfold FewX at hf3
  simp [ev_skip, ev_seq, ev_cond2, ev_block, ev_region2, ev_loop, loopK, evOps_nil, evOps_cons, opG_none, opA_assign, opA_un, opA_box, opA_buildSlice, opA_build, putO_some, putH_lt, putC_lt, condB_false, unT, boxT, buildSliceT, buildZ, partsZ, fillO, aggO, opS, opV, Go.Mx.look, seqK, Fr.known, mapO, unA, cellsA_v, cellsA_agg, cellsA_ptr, okPart_v, okPart_agg, okPart_ptr, Value.oneCell', fillA, newK, headK, getV, getB, chkP, firstReg, bindO, sz24, ze24, ze55, of55, Try.underlying56]
  refine LoopC.intro (fun n xs bs H2 => NoInv x 0 n xs bs H2) 2 ⟨0, by omega, by omega, by simp, by simp [deC], by simp⟩ ?_
  rintro n xs bs H2 ⟨i, hi, rfl, rfl, rfl, hb⟩
  simp [ev_skip, ev_seq, ev_cond2, ev_block, ev_exit, ev_region2, evOps_nil, evOps_cons, opG_none, opA_move, opA_bin, opA_indexAddr, opA_len, opA_call, putO_some, putH_lt, binT_some, binA, avO_some, lenT_row, indexAddrT, io_lss, opS, opV, Go.Mx.look, seqK, blockK, Fr.known, mapO, callA, indexAddrA, mkFr, slotsOf, ptrsOf, boxesOf, orO_some, eqT_some, tk3, sz24, Try.underlying56, ok16, deC]
  refine ⟨fun hlt => ?_, fun hge => ?_⟩
  · have w1 : IntKind.i64.wrap ((i : Int) + 1) = (i : Int) + 1 := wr_i64 (by omega)
    have fin : ∃ m, m < 2 - i ∧ NoInv x 0 m [.row true 2 [.v (.pointer none), .ptr 0 0 0], .v (.int .i64 ((i : Int) + 1))] [deC x] H2 := ⟨2 - (i + 1), by omega, i + 1, by omega, rfl, by simp, rfl, hb⟩
    simp only [deC] at fin
    have hv : ∃ v, NoPo H2 v ∧ [AV.v (.pointer none), .ptr 0 0 0][i]? = some v ∧ cellsA v = [v] := by
      have : i = 0 ∨ i = 1 := by omega
      rcases this with rfl | rfl
      · exact ⟨_, .inl rfl, rfl, rfl⟩
      · exact ⟨_, .inr ⟨0, rfl, hb⟩, rfl, rfl⟩
    obtain ⟨v, hv, hg, hcv⟩ := hv
    simp [ev_seq, ev_region2, evOps_nil, evOps_cons, opG_none, opA_move, opA_assign, opA_load, opA_fieldAddr, opA_call, putO_some, putH_lt, loadT, fieldAddrT, opS, opV, Go.Mx.look, seqK, mapO, callA, partA, loadA, loadS, plusS, sz24, ag24, sz30, ag30, Try.underlying32, ok12, hlt, hg]
    refine sendN_sp v x.p H2 _ hv ?_
    simp [ev_seq, ev_region2, evOps_nil, evOps_cons, opG_none, opA_move, opA_assign, opA_extract, opA_load, opA_fieldAddr, opA_call, putO_some, putH_lt, putC_lt, extractT, loadT, fieldAddrT, opS, opV, Go.Mx.look, seqK, mapO, callA, extractA, partA, loadS, plusS, sz2, ag2, sz3, ag3, sz9, ag9, Try.underlying32, ok13]
    refine pollN_sp v x.u x.n x.since x.limit H2 _ hv ?_
    simp [ev_seq, ev_region2, evOps_nil, evOps_cons, opG_none, opA_move, opA_assign, opA_extract, opA_load, opA_fieldAddr, opA_call, putO_some, putH_lt, putC_lt, extractT, loadT, fieldAddrT, opS, opV, Go.Mx.look, seqK, mapO, callA, extractA, partA, loadS, plusS, sz9, ag9, Try.underlying32, ok11]
    refine enterN_sp v x.u x.n H2 _ hv ?_
    simp [evOps_cons, opG_none, opG_some, opJ, opU_ff, isU_bool, opK_eq, opA_move, opA_bin, opA_load, opA_fieldAddr, opA_call, putO_some, putH_lt, putC_lt, condB_false, binT_some, binA, avO_some, loadT, fieldAddrT, io_neq, opS, opV, Go.Mx.look, Fr.known, mapO, callA, partA, loadS, plusS, orO_some, eqT_some, sz9, ag9, tk26, Try.underlying32, ok18]
    refine leaveN_sp v x.u x.n H2 _ hv ?_
    simp [evOps_cons, opG_none, opG_some, opJ, opU_ff, isU_bool, opK_eq, opA_move, opA_pick, opA_bin, opA_load, opA_fieldAddr, opA_len, opA_call, putO_some, putH_lt, putC_lt, condB_false, binT_some, binA, avO_some, pickT, loadT, lenT_nil, fieldAddrT, io_neq, opS, opV, Go.Mx.look, Fr.known, mapO, callA, partA, loadS, plusS, orO_some, eqT_some, tk2, tk3, sz9, ag9, tk26, Try.underlying28, Try.underlying32, ok26]
    refine devicesN_sp v x.u H2 _ hv ?_
    simp [evOps_cons, opG_none, opG_some, opJ, opU_ff, isU_bool, opK_eq, opA_move, opA_pick, opA_bin, opA_load, opA_fieldAddr, opA_len, opA_call, putO_some, putH_lt, putC_lt, condB_false, binT_some, binA, avO_some, pickT, loadT, lenT_row, fieldAddrT, io_neq, opS, opV, Go.Mx.look, Fr.known, mapO, callA, partA, loadS, plusS, orO_some, eqT_some, tk3, sz9, ag9, Try.underlying32, Try.underlying48, ok15, rowS]
    refine waitingN_sp v x.u x.n H2 _ hv ?_
    simp [evOps_cons, opG_none, opG_some, opJ, opU_ff, isU_bool, opK_eq, opA_move, opA_pick, opA_bin, opA_load, opA_fieldAddr, opA_call, putO_some, putH_lt, putC_lt, condB_false, binT_some, binA, avO_some, pickT, loadT, fieldAddrT, io_neq, opS, opV, Go.Mx.look, Fr.known, mapO, callA, partA, loadS, plusS, orO_some, eqT_some, tk3, sz9, ag9, sz30, Try.underlying30, Try.underlying32, ok23]
    refine seenN_sp v x.p.fr x.p.tx_ H2 _ hv ?_
    simp [ev_skip, ev_cond2, ev_region2, evOps_nil, evOps_cons, opG_none, opA_move, opA_assign, opA_pick, opA_bin, putO_some, putH_lt, putC_lt, condB_false, binT_some, binA, avO_some, pickT, io_add, opS, opV, Go.Mx.look, seqK, blockK, Fr.known, mapO, headK, getV, getB, chkP, orO_some, eqT_some, tk3, w1]
    exact fin
  · refine awake_sp H2 _ (fun H3 _ => ?_)
    simp [ev_ret, evOps_nil, evOps_cons, opG_none, opA_assign, putO_some, putH_lt, putC_lt, opS, opV, Go.Mx.look, seqK, retK, retA, resA, mapO]
end Go.Proofs.Ytamhmecfjkahdaa
