import Derived.Test.YtbdfhenelbakaaaB
namespace Go.Proofs.Ytbdfhenelbakaaa
open Go.Mx
set_option linter.unusedVariables false
set_option linter.unusedSimpArgs false

theorem agg32 : AggKey Try.prog 32 := AggKey.of laid (Nat.le_of_ble_eq_true (by kernel_rfl)) (Nat.le_of_ble_eq_true (by kernel_rfl)) (by kernel_rfl) (by kernel_rfl) (by kernel_rfl)
theorem good32 {e : En} (h : FewE e) : KGood Try.prog 32 (.agg (enC e)) := by
  unfold FewE at h
  have h := KGood.struct agg32 Try.underlying32 (by kernel_rfl) (by kernel_rfl) (by kernel_rfl) (us := [.string e.ty, .string e.ky, .string e.id]) (by kernel_rfl) (fun i f hf => by
    match i, hf with
    | 0, hf => simp at hf; subst hf; exact ⟨rfl, by kernel_rfl, _, rfl, PlainAt.str Try.underlying9 (by simp only [maxLen]; omega)⟩
    | 1, hf => simp at hf; subst hf; exact ⟨rfl, by kernel_rfl, _, rfl, PlainAt.str Try.underlying9 (by simp only [maxLen]; omega)⟩
    | 2, hf => simp at hf; subst hf; exact ⟨rfl, by kernel_rfl, _, rfl, PlainAt.str Try.underlying9 (by simp only [maxLen]; omega)⟩
    | i + 3, hf => simp at hf)
  exact h
theorem enC_inj {a b : En} : enC a = enC b ↔ a = b := by
  constructor
  · intro h
    obtain ⟨a1, a2, a3⟩ := a
    obtain ⟨b1, b2, b3⟩ := b
    simp [enC] at h
    obtain ⟨rfl, rfl, rfl⟩ := h
    rfl
  · rintro rfl; rfl
theorem eq32 {a b : En} (ha : FewE a) (hb : FewE b) : eqAgg Try.prog 32 .eql (.agg (enC a)) (.agg (enC b)) = some (.v (.bool (decide (a = b)))) := by
  have h1 := good32 ha
  have h2 := good32 hb
  by_cases e : a = b
  · subst e; simp [eqAgg, h1]
  · have : enC a ≠ enC b := fun h => e (enC_inj.1 h)
    simp [eqAgg, h1, h2, this, e]
theorem ne32 {a b : En} (ha : FewE a) (hb : FewE b) : eqAgg Try.prog 32 .neq (.agg (enC a)) (.agg (enC b)) = some (.v (.bool (!decide (a = b)))) := by
  have h1 := good32 ha
  have h2 := good32 hb
  by_cases e : a = b
  · subst e; simp [eqAgg, h1]
  · have : enC a ≠ enC b := fun h => e (enC_inj.1 h)
    simp [eqAgg, h1, h2, this, e]
def SaInv (H : Hp) (A B : List En) (n : Nat) (xs : List AV) (H2 : Hp) : Prop :=
  ∃ i : Nat, i ≤ A.length ∧ n = A.length - i ∧ A.take i = B.take i ∧ xs = [rowE A, rowE B, .v (.int .i64 i)] ∧ H2 = H
set_option maxRecDepth 20000 in
theorem same_sp (A B : List En) (H : Hp) (Q : AV → Hp → Prop) (hA : Few1 A) (hB : Few1 B) (h : Q (.v (.bool (decide (A = B)))) H) : Sp Try.prog 9 [rowE A, rowE B] Q H := by
  refine Sp.body [(4, ⟨[0, 1, 5], [], []⟩)] ⟨[], [], pl9⟩ tb9 mo Try.func9 rfl (Nat.le_of_ble_eq_true rfl) (by kernel_rfl) ?_
  have h60 := hA.1
  simp [ev_skip, ev_seq, ev_cond2, ev_block, ev_ret, ev_region2, ev_loop, loopK, evOps_nil, evOps_cons, opG_none, opA_move, opA_assign, opA_bin, opA_len, putO_some, putH_lt, binT_some, binA, avO_some, lenT_row, io_neq, opS, opV, Go.Mx.look, fr0, argSlots, seqK, Fr.known, retK, retA, resA, mapO, headK, getV, getB, chkP, firstReg, orO_some, eqT_some, tk3, Try.underlying22, pl9, rowE]
  refine ⟨fun e => ?_, fun e => ?_⟩
  · have : decide (A = B) = false := by simp; rintro rfl; exact e rfl
    rw [this] at h; exact h
  · refine LoopC.intro (fun n xs _ H2 => SaInv H A B n xs H2) A.length ⟨0, by omega, by omega, by simp, by simp [rowE], rfl⟩ ?_
    rintro n xs bs H2 ⟨i, hi, rfl, htake, rfl, rfl⟩
    simp [ev_skip, ev_seq, ev_cond2, ev_block, ev_exit, ev_ret, ev_region2, evOps_nil, evOps_cons, opG_none, opA_move, opA_assign, opA_bin, opA_indexAddr, opA_len, putO_some, putH_lt, binT_some, binA, avO_some, lenT_row, indexAddrT, io_lss, opS, opV, Go.Mx.look, seqK, blockK, Fr.known, retK, retA, resA, mapO, indexAddrA, mkFr, slotsOf, ptrsOf, boxesOf, orO_some, eqT_some, ev_draw, drawK, evP_q, opAt_some, tk3, Try.underlying22, sz32, rowE]
    refine ⟨fun hlt => ?_, fun hge => ?_⟩
    · have hx := List.getElem?_eq_getElem hlt
      generalize A[i] = s at hx
      have hltB : i < B.length := by omega
      have hy := List.getElem?_eq_getElem hltB
      generalize B[i] = t at hy
      have hsl := flat_sub enC_len A i hx
      have hle : i * 3 + 3 ≤ (List.map (fun a : En => 3) A).sum := flat_le2 enC_len hx
      have hsl2 := flat_sub enC_len B i hy
      have hle2 : i * 3 + 3 ≤ (List.map (fun a : En => 3) B).sum := flat_le2 enC_len hy
      have w1 : IntKind.i64.wrap ((i : Int) + 1) = (i : Int) + 1 := wr_i64 (by omega)
      have htA : A.take (i + 1) = A.take i ++ [s] := by rw [List.take_add_one, hx]; rfl
      have htB : B.take (i + 1) = B.take i ++ [t] := by rw [List.take_add_one, hy]; rfl
      have he := ne32 (hA.2 s (List.mem_of_getElem? hx)) (hB.2 t (List.mem_of_getElem? hy))
      simp only [enC] at he
      simp [ev_skip, ev_seq, ev_cond2, ev_ret, ev_region2, evOps_nil, evOps_cons, opG_none, opA_move, opA_assign, opA_bin, opA_load, opA_indexAddr, putO_some, putH_lt, binT_some, binA, eqRef, avO_some, avO_none, loadT, indexAddrT, io_add, opS, opV, Go.Mx.look, seqK, blockK, Fr.known, retK, retA, resA, mapO, partA, loadA, loadS, indexAddrA, headK, getV, getB, chkP, orO_some, orO_none, eqT_some, evP_nil, evP_q, opAt_some, tk3, Try.underlying22, sz32, ag32, tk32, hlt, hltB, hsl, hle, hsl2, hle2, enC, w1, he]
      by_cases e2 : s = t
      · subst e2
        simp
        exact ⟨A.length - (i + 1), by omega, i + 1, by omega, rfl, by rw [htA, htB, htake], by simp [rowE], rfl⟩
      · have : decide (A = B) = false := by
          simp; rintro rfl
          rw [hx] at hy; simp at hy; exact e2 hy
        rw [this] at h
        simp [e2]
        exact h
    · have h1 : i = A.length := by omega
      subst h1
      have h2 : B.take A.length = B := by rw [show A.length = B.length by omega]; exact List.take_length
      rw [List.take_length, h2] at htake
      simp [htake] at h
      exact h
/-- Are rows few and short? -/
theorem sum_sizes {e : En} (h : SzE e) : 0 ≤ (e.ty.size : Int) := by omega
def FeInv (ls : List (List En)) (H : Hp) (n : Nat) (xs : List AV) (H2 : Hp) : Prop :=
  ∃ i : Nat, i ≤ ls.length ∧ n = ls.length - i ∧ (∀ l ∈ ls.take i, FewL l) ∧ xs = [.row true ls.length (ls.map rowE), .v (.int .i64 i)] ∧ H2 = H
def FiInv (ls : List (List En)) (l : List En) (i : Nat) (H : Hp) (n : Nat) (xs : List AV) (H2 : Hp) : Prop :=
  ∃ k : Nat, k ≤ l.length ∧ n = l.length - k ∧ (∀ e ∈ l.take k, FewE e) ∧ xs = [.row true ls.length (ls.map rowE), .v (.int .i64 i), .v (.int .i64 k)] ∧ H2 = H
set_option maxRecDepth 20000 in
set_option maxHeartbeats 1000000 in
theorem few_sp (ls : List (List En)) (H : Hp) (Q : AV → Hp → Prop) (hls : ls.length ≤ 10) (hz : ∀ l ∈ ls, ∀ e ∈ l, SzE e) (h1 : (∀ l ∈ ls, FewL l) → Q (.v (.bool true)) H) (h0 : ¬ (∀ l ∈ ls, FewL l) → Q (.v (.bool false)) H) :
    Sp Try.prog 8 [.row true ls.length (ls.map rowE)] Q H := by
  refine Sp.body [(2, ⟨[0, 3], [], []⟩), (7, ⟨[0, 3, 4], [], []⟩)] ⟨[], [], pl8⟩ tb8 mo Try.func8 rfl (Nat.le_of_ble_eq_true rfl) (by kernel_rfl) ?_
  simp [ev_seq, ev_block, ev_region2, ev_loop, loopK, evOps_nil, evOps_cons, opG_none, opA_assign, putO_some, putH_lt, opS, opV, Go.Mx.look, fr0, argSlots, seqK, mapO, headK, getV, getB, chkP, firstReg, pl8]
  refine LoopC.intro (fun n xs _ H2 => FeInv ls H n xs H2) ls.length ⟨0, by omega, by omega, by simp, by simp, rfl⟩ ?_
  rintro n xs bs H2 ⟨i, hi, rfl, hall, rfl, rfl⟩
  simp [ev_skip, ev_seq, ev_cond2, ev_block, ev_exit, ev_ret, ev_region2, evOps_nil, evOps_cons, opG_none, opA_move, opA_assign, opA_bin, opA_indexAddr, opA_len, putO_some, putH_lt, binT_some, binA, avO_some, lenT_row, indexAddrT, io_lss, opS, opV, Go.Mx.look, seqK, blockK, Fr.known, retK, retA, resA, mapO, indexAddrA, mkFr, slotsOf, ptrsOf, boxesOf, orO_some, eqT_some, tk3, sz22, Try.underlying39]
  refine ⟨fun hlt => ?_, fun hge => ?_⟩
  · have hx := List.getElem?_eq_getElem hlt
    generalize hgx : ls[i] = l at hx
    have hlm := List.mem_of_getElem? hx
    have w1 : IntKind.i64.wrap ((i : Int) + 1) = (i : Int) + 1 := wr_i64 (by omega)
    have htk : ls.take (i + 1) = ls.take i ++ [l] := by rw [List.take_add_one, hx]; rfl
    simp [ev_skip, ev_seq, ev_cond2, ev_block, ev_ret, ev_region2, ev_loop, loopK, evOps_nil, evOps_cons, opG_none, opA_assign, opA_bin, opA_load, opA_len, putO_some, putH_lt, binT_some, binA, avO_some, loadT, lenT_row, io_gtr, opS, opV, Go.Mx.look, seqK, blockK, Fr.known, retK, retA, resA, mapO, partA, loadA, loadS, headK, getV, getB, chkP, firstReg, orO_some, eqT_some, tk3, sz22, ag22, Try.underlying22, hlt, hgx, rowE]
    refine ⟨fun hb => h0 (fun hf => by have := (hf l hlm).1; omega), fun hb => ?_⟩
    refine LoopC.intro (fun n xs _ H3 => FiInv ls l i H2 n xs H3) l.length ⟨0, by omega, by omega, by simp, by simp, rfl⟩ ?_
    rintro n xs bs H3 ⟨k, hk, rfl, hkall, rfl, rfl⟩
    simp [ev_skip, ev_seq, ev_cond2, ev_block, ev_exit, ev_region2, evOps_nil, evOps_cons, opG_none, opA_move, opA_assign, opA_bin, opA_load, opA_indexAddr, opA_len, putO_some, putH_lt, binT_some, binA, avO_some, loadT, lenT_row, indexAddrT, io_add, io_lss, opS, opV, Go.Mx.look, seqK, blockK, Fr.known, mapO, partA, loadA, loadS, indexAddrA, headK, getV, getB, chkP, mkFr, slotsOf, ptrsOf, boxesOf, orO_some, eqT_some, ev_draw, drawK, evP_q, opAt_some, tk3, sz22, ag22, Try.underlying22, sz32, Try.underlying39, hlt, hgx, rowE]
    refine ⟨fun hlt2 => ?_, fun hge2 => ?_⟩
    · have hy := List.getElem?_eq_getElem hlt2
      generalize l[k] = e at hy
      have g0 := flat_get0 enC_len hy (by omega)
      have g1 := flat_get enC_len hy 1 (by omega)
      have g2 := flat_get enC_len hy 2 (by omega)
      simp [enC] at g0 g1 g2
      have hem := List.mem_of_getElem? hy
      obtain ⟨z1, z2, z3⟩ := hz l hlm e hem
      have htk2 : l.take (k + 1) = l.take k ++ [e] := by rw [List.take_add_one, hy]; rfl
      have w2 : IntKind.i64.wrap ((k : Int) + 1) = (k : Int) + 1 := wr_i64 (by omega)
      have w3 : IntKind.i64.wrap ((e.ty.size : Int) + e.ky.size) = (e.ty.size : Int) + e.ky.size := wr_i64 (by omega)
      have w4 : IntKind.i64.wrap ((e.ty.size : Int) + e.ky.size + e.id.size) = (e.ty.size : Int) + e.ky.size + e.id.size := wr_i64 (by omega)
      simp [ev_skip, ev_seq, ev_cond2, ev_ret, ev_region2, evOps_nil, evOps_cons, opG_none, opA_move, opA_assign, opA_bin, opA_load, opA_indexAddr, opA_fieldAddr, opA_len, putO_some, putH_lt, binT_some, binA, avO_some, loadT, lenT_str, fieldAddrT, indexAddrT, io_add, io_gtr, opS, opV, Go.Mx.look, seqK, blockK, Fr.known, retK, retA, resA, mapO, partA, loadA, loadS, plusS, indexAddrA, headK, getV, getB, chkP, orO_some, eqT_some, evP_nil, evP_q, opAt_some, tk3, sz9, ag9, Try.underlying9, sz22, ag22, Try.underlying22, sz32, Try.underlying32, Try.underlying39, hlt, hgx, rowE, hlt2, g0, g1, g2, w2, w3, w4]
      refine ⟨fun hb2 => h0 (fun hf => by have := (hf l hlm).2 e hem; unfold FewE at this; omega), fun hb2 => ?_⟩
      exact ⟨l.length - (k + 1), by omega, k + 1, by omega, rfl, by
        rw [htk2]; intro y hy2
        rcases List.mem_append.1 hy2 with h3 | h3
        · exact hkall y h3
        · simp at h3; subst h3; unfold FewE; omega, by simp, rfl⟩
    · have : k = l.length := by omega
      subst this
      rw [List.take_length] at hkall
      simp [w1]
      exact ⟨ls.length - (i + 1), by omega, i + 1, by omega, rfl, by
        rw [htk]; intro y hy2
        rcases List.mem_append.1 hy2 with h3 | h3
        · exact hall y h3
        · simp at h3; subst h3; exact ⟨by omega, hkall⟩, by simp, rfl⟩
  · have : i = ls.length := by omega
    subst this
    rw [List.take_length] at hall
    exact h1 hall
def delV (s g : List En) : AV := .agg [rowE s, rowE g]
set_option maxRecDepth 20000 in
theorem deltas_sp (s1 g1 s2 g2 : List En) (H : Hp) (Q : AV → Hp → Prop) (a1 : Few1 s1) (a2 : Few1 g1) (a3 : Few1 s2) (a4 : Few1 g2) (h : Q (.v (.bool (decide (s1 = s2 ∧ g1 = g2)))) H) : Sp Try.prog 12 [delV s1 g1, delV s2 g2] Q H := by
  refine Sp.body [] ⟨[2, 3], [], []⟩ [] mo Try.func12 rfl (Nat.le_of_ble_eq_true rfl) (by kernel_rfl) ?_
  simp [ev_seq, ev_region2, evOps_nil, evOps_cons, opG_none, opA_assign, opA_load, opA_fieldAddr, opA_call, opA_box, putO_some, putH_lt, loadT, fieldAddrT, boxT, opS, opV, Go.Mx.look, fr0, argSlots, seqK, Fr.newBox, dropBp, mapO, callA, cellsA_agg, okPart_agg, partA, loadS, plusS, newK, sz22, ag22, Try.underlying28, ok9, delV]
  refine same_sp s1 s2 H _ a1 a3 ?_
  by_cases e : s1 = s2
  · simp [evOps_cons, opG_none, opG_some, opJ, opU_ft, isU_bool, opK_eq, opA_move, opA_load, opA_fieldAddr, opA_call, putO_some, putH_lt, putC_lt, condB_true, loadT, fieldAddrT, opS, opV, Go.Mx.look, Fr.known, mapO, callA, partA, loadS, plusS, sz22, ag22, Try.underlying28, ok9, e]
    refine same_sp g1 g2 H _ a2 a4 ?_
    simp [ev_ret, evOps_nil, evOps_cons, opG_none, opA_assign, opA_pick, putO_some, putH_lt, putC_lt, pickT, opS, opV, Go.Mx.look, seqK, retK, retA, resA, mapO]
    simpa [e] using h
  · simp [ev_ret, evOps_nil, evOps_cons, opG_none, opG_some, opJ, opU_ft, isU_bool, opA_move, opA_assign, opA_pick, putO_some, putH_lt, putC_lt, putV_lt, condB_false, pickT, opS, opV, Go.Mx.look, seqK, Fr.known, retK, retA, resA, mapO, e]
    simpa [e] using h
def RdInv (H H1 : Hp) (A B : List En) (n : Nat) (xs : List AV) (bs : List (List AV)) (H2 : Hp) : Prop :=
  ∃ (i : Nat) (v : AV), i ≤ B.length ∧ n = B.length - i ∧ xs = [rowE A, rowE B, .v (.int .i64 i)] ∧ bs = [[.v (.slice none 0 0), .v (.slice none 0 0)], [v, .v (.slice none 0 0)]] ∧ NewK 3 H H2 (setD A (B.take i)).length ((setD A (B.take i)).flatMap enC) v ∧ Same [] H H2
def RdInv1 (H2 : Hp) (A B : List En) (x : En) (i : Nat) (v : AV) (n : Nat) (xs : List AV) (bs : List (List AV)) (H3 : Hp) : Prop :=
  ∃ k : Nat, k ≤ A.length ∧ n = A.length - k ∧ xs = [rowE A, rowE B, .v (.int .i64 i), .v (.bool (decide (x ∈ A.take k))), .v (.int .i64 k)] ∧ bs = [[.v (.slice none 0 0), .v (.slice none 0 0)], [v, .v (.slice none 0 0)]] ∧ H3 = H2
def RdInv2 (Hm : Hp) (A B : List En) (v0 : AV) (n : Nat) (xs : List AV) (bs : List (List AV)) (H2 : Hp) : Prop :=
  ∃ (i : Nat) (v : AV), i ≤ A.length ∧ n = A.length - i ∧ xs = [rowE A, rowE B, .v (.int .i64 i)] ∧ bs = [[.v (.slice none 0 0), .v (.slice none 0 0)], [v0, v]] ∧ NewK 3 Hm H2 (goneD (A.take i) B).length ((goneD (A.take i) B).flatMap enC) v ∧ Same [] Hm H2
theorem NewK.cells' {k n : Nat} {H0 H : Hp} {cs : List AV} {v : AV} (h : NewK k H0 H n cs v) : cellsA v = [v] ∧ okPart v = true := by
  rcases h with ⟨_, _, rfl⟩ | ⟨_, _, id, ver, tl, rfl, _⟩ <;> exact ⟨rfl, rfl⟩
theorem setD_add (A L : List En) (e : En) : setD A (L ++ [e]) = setD A L ++ (if e ∈ A then [] else [e]) := by
  unfold setD; rw [List.filter_append]; by_cases h : e ∈ A <;> simp [h]
theorem goneD_add (L B : List En) (e : En) : goneD (L ++ [e]) B = goneD L B ++ (if B.any (fun x => decide (keyE x = keyE e)) then [] else [e]) := by
  unfold goneD; rw [List.filter_append]; by_cases h : B.any (fun x => decide (keyE x = keyE e)) = true <;> simp [h]
set_option maxRecDepth 20000 in
set_option maxHeartbeats 2000000 in
theorem rdiff_sp (a b : List En) (H : Hp) (Q : AV → Hp → Prop) (ha : Few1 a) (hb : Few1 b) (rsort : ∀ (l : List En) (H : Hp) (Q : AV → Hp → Prop), l.length ≤ 300 → Q (rowE (sortE l)) H → Sp Try.prog 11 [rowE l] Q H) (fsort : ∀ {l : List En}, Few1 l → Few1 (sortE l))
    (h : Q (delV (setD (sortE a) (sortE b)) (goneD (sortE a) (sortE b))) H) : Sp Try.prog 14 [rowE a, rowE b] Q H := by
  refine Sp.frzs ?_
  refine Sp.body [(4, ⟨[5, 6, 8], [(4, 4, 0), (7, 7, 0)], [4, 7]⟩), (8, ⟨[5, 6, 8, 9, 10], [(4, 4, 0), (7, 7, 0)], [4, 7]⟩), (14, ⟨[5, 6, 11], [(4, 4, 0), (7, 7, 0)], [4, 7]⟩)] ⟨[4, 7], [], pl14⟩ tb14 mo Try.func14 rfl (Nat.le_of_ble_eq_true rfl) (by kernel_rfl) ?_
  simp [ev_seq, ev_region2, evOps_nil, evOps_cons, opG_none, opA_move, opA_call, opA_alloc, putO_some, putH_lt, allocT, opS, opV, Go.Mx.look, fr0, argSlots, seqK, Fr.newBox, dropBp, mapO, callA, newK, ze28, ok11, pl14]
  refine rsort a H _ ha.1 ?_
  simp [evOps_cons, opG_none, opA_move, opA_call, putO_some, putH_lt, putC_lt, opS, opV, Go.Mx.look, mapO, callA, ok11]
  refine rsort b H _ hb.1 ?_
  have hA := fsort ha
  have hB := fsort hb
  generalize sortE a = A at hA h
  generalize sortE b = B at hB h
  have hA60 := hA.1
  have hB60 := hB.1
  simp [ev_seq, ev_block, ev_region2, ev_loop, loopK, evOps_nil, evOps_cons, opG_none, opA_assign, opA_alloc, putO_some, putH_lt, putC_lt, allocT, opS, opV, Go.Mx.look, seqK, Fr.newBox, dropBp, mapO, newK, headK, getV, getB, chkP, firstReg, ze28]
  refine LoopC.intro (fun n xs bs H2 => RdInv H H A B n xs bs H2) B.length ⟨0, _, by omega, by omega, by simp, by simp, NewK.nil _ _ _, Same.refl _ _⟩ ?_
  rintro n xs bs H2 ⟨i, v, hi, rfl, rfl, rfl, hv, hs⟩
  obtain ⟨c1, c2⟩ := NewK.cells' hv
  simp [ev_skip, ev_seq, ev_cond2, ev_block, ev_exit, ev_region2, ev_loop, loopK, evOps_nil, evOps_cons, opG_none, opA_move, opA_assign, opA_bin, opA_len, putO_some, putH_lt, binT_some, binA, avO_some, lenT_row, io_lss, opS, opV, Go.Mx.look, seqK, blockK, Fr.known, mapO, headK, getV, getB, chkP, mkFr, slotsOf, ptrsOf, boxesOf, firstReg, orO_some, eqT_some, tk3, Try.underlying22, rowE]
  refine ⟨fun hlt => ?_, fun hge => ?_⟩
  · have hx := List.getElem?_eq_getElem hlt
    generalize B[i] = e at hx
    have hsl := flat_sub enC_len B i hx
    have hle : i * 3 + 3 ≤ (List.map (fun a : En => 3) B).sum := flat_le2 enC_len hx
    have w1 : IntKind.i64.wrap ((i : Int) + 1) = (i : Int) + 1 := wr_i64 (by omega)
    have htk : B.take (i + 1) = B.take i ++ [e] := by rw [List.take_add_one, hx]; rfl
    have hef := hB.2 e (List.mem_of_getElem? hx)
    refine LoopC.intro (fun n xs bs H3 => RdInv1 H2 A B e i v n xs bs H3) A.length ⟨0, by omega, by omega, by simp [rowE], by simp, rfl⟩ ?_
    rintro n xs bs H3 ⟨k, hk, rfl, rfl, rfl, rfl⟩
    simp [ev_skip, ev_seq, ev_cond2, ev_block, ev_exit, ev_region2, evOps_nil, evOps_cons, opG_none, opG_some, opJ, opU_ff, isU_bool, opK_eq, opA_move, opA_assign, opA_pick, opA_bin, opA_un, opA_load, opA_indexAddr, opA_fieldAddr, opA_len, putO_some, putH_lt, putV_lt, condB_true, condB_false, binT_some, binA, avO_some, pickT, unT, loadT, lenT_row, fieldAddrT, indexAddrT, io_add, io_lss, opS, opV, Go.Mx.look, seqK, blockK, Fr.known, mapO, unA, partA, loadS, plusS, indexAddrA, headK, getV, getB, chkP, mkFr, slotsOf, ptrsOf, boxesOf, orO_some, eqT_some, ev_draw, drawK, evP_nil, evP_q, evP_s, opAt_some, chkK_eq, allQ_nil, tk3, sz22, ag22, Try.underlying22, Try.underlying28, sz32, rowE]
    refine ⟨fun hlt2 => ?_, fun hge2 => ?_⟩
    · have hy := List.getElem?_eq_getElem hlt2
      generalize A[k] = s at hy
      have hsl2 := flat_sub enC_len A k hy
      have hle2 : k * 3 + 3 ≤ (List.map (fun a : En => 3) A).sum := flat_le2 enC_len hy
      have w2 : IntKind.i64.wrap ((k : Int) + 1) = (k : Int) + 1 := wr_i64 (by omega)
      have htk2 : A.take (k + 1) = A.take k ++ [s] := by rw [List.take_add_one, hy]; rfl
      have he := eq32 (hA.2 s (List.mem_of_getElem? hy)) hef
      simp only [enC] at he
      have step : ∀ bb : Bool, bb = decide (e ∈ A.take (k + 1)) → ∃ m, m < A.length - k ∧ RdInv1 H3 A B e i v m [rowE A, rowE B, .v (.int .i64 i), .v (.bool bb), .v (.int .i64 (k + 1))] [[.v (.slice none 0 0), .v (.slice none 0 0)], [v, .v (.slice none 0 0)]] H3 := fun bb hbb =>
        ⟨A.length - (k + 1), by omega, k + 1, by omega, rfl, by rw [hbb]; simp, rfl, rfl⟩
      simp only [rowE] at step
      by_cases hin : e ∈ A.take k
      · simp [hin, w2]
        simpa using step true (by rw [htk2]; simp [hin])
      · simp [ev_region2, evOps_nil, evOps_cons, opG_none, opG_some, opJ, opU_ff, isU_bool, opK_eq, opA_move, opA_assign, opA_pick, opA_bin, opA_load, opA_indexAddr, putO_some, putH_lt, condB_false, binT_some, binA, eqRef, avO_some, avO_none, pickT, loadT, indexAddrT, io_add, opS, opV, Go.Mx.look, seqK, blockK, Fr.known, mapO, partA, loadA, loadS, indexAddrA, headK, getV, getB, chkP, orO_some, orO_none, eqT_some, evP_nil, evP_q, evP_s, opAt_some, chkK_eq, allQ_nil, tk3, Try.underlying22, sz32, ag32, tk32, hin, w2, hlt, hlt2, hsl, hsl2, hle, hle2, enC, he]
        simpa using step _ (by rw [htk2]; simp [hin, eq_comm])
    · have : k = A.length := by omega
      subst this
      have hfl : (setD A (B.take i)).length ≤ 1000 := by
        refine Nat.le_trans (List.length_filter_le _ _) ?_
        rw [List.length_take]; omega
      have e1 := setD_add A (B.take i) e
      rw [← htk] at e1
      by_cases hin : e ∈ A
      · rw [if_pos hin, List.append_nil] at e1
        simp [hin, w1]
        exact ⟨B.length - (i + 1), by omega, i + 1, v, by omega, rfl, by simp [rowE], rfl, by rw [e1]; exact hv, hs⟩
      · rw [if_neg hin] at e1
        simp [opG_none, opA_load, opA_buildSlice, opA_append, putO_some, putH_lt, loadT, buildSliceT, appendT, repeatL_1, opS, opV, Go.Mx.look, mapO, cellsA_agg, okPart_agg, partA, loadA, loadS, fillA, bindO, srcTy, evP_q, evP_s, opAt_some, st22, Try.underlying22, sz32, ag32, by32, ze32, hin, w1, hlt, hsl, hle, enC]
        refine hv.app (by simp) hs.1 (by omega) (fun v' H4 fp hv' hs' hfp => ?_)
        obtain ⟨d1, d2⟩ := NewK.cells' hv'
        simp [ev_region2, evOps_nil, evOps_cons, opG_none, opA_move, opA_assign, opA_bin, opA_fieldAddr, opA_store, putO_some, putH_lt, putC_lt, putU_none, binT_some, binA, avO_some, fieldAddrT, storeT, io_add, opS, opV, Go.Mx.look, seqK, blockK, mapO, plusS, storeS, headK, getV, getB, chkP, orO_some, eqT_some, evP_nil, evP_q, evP_s, opAt_some, chkK_eq, allQ_nil, tk3, sz22, Try.underlying28, w1, d1, d2, splice]
        refine ⟨B.length - (i + 1), by omega, i + 1, v', by omega, rfl, by simp [rowE], rfl, ?_, hs.new hs' (fun j hj => (hfp j hj).1)⟩
        rw [e1]
        simpa [enC] using hv'
  · have : i = B.length := by omega
    subst this
    rw [List.take_length] at hv
    refine LoopC.intro (fun n xs bs H3 => RdInv2 H2 A B v n xs bs H3) A.length ⟨0, _, by omega, by omega, by simp [rowE], by simp, NewK.nil _ _ _, Same.refl _ _⟩ ?_
    rintro n xs bs H3 ⟨i, v2, hi2, rfl, rfl, rfl, hv2, hs2⟩
    obtain ⟨d1, d2⟩ := NewK.cells' hv2
    simp [ev_skip, ev_seq, ev_cond2, ev_block, ev_exit, ev_ret, ev_region2, evOps_nil, evOps_cons, opG_none, opA_move, opA_bin, opA_load, opA_indexAddr, opA_len, opA_store, putO_some, putH_lt, putU_none, binT_some, binA, avO_some, loadT, lenT_row, indexAddrT, storeT, io_lss, opS, opV, Go.Mx.look, seqK, blockK, Fr.known, retK, retA, resA, mapO, cellsA_agg, okPart_agg, partA, loadS, indexAddrA, storeS, mkFr, slotsOf, ptrsOf, boxesOf, orO_some, eqT_some, tk3, Try.underlying22, sz28, ag28, sz32, rowE]
    refine ⟨fun hlt => ?_, fun hge => ?_⟩
    · have hx := List.getElem?_eq_getElem hlt
      generalize A[i] = e at hx
      have hsl := flat_sub enC_len A i hx
      have hle : i * 3 + 3 ≤ (List.map (fun a : En => 3) A).sum := flat_le2 enC_len hx
      have w1 : IntKind.i64.wrap ((i : Int) + 1) = (i : Int) + 1 := wr_i64 (by omega)
      have htk : A.take (i + 1) = A.take i ++ [e] := by rw [List.take_add_one, hx]; rfl
      have hfl : (goneD (A.take i) B).length ≤ 1000 := by
        refine Nat.le_trans (List.length_filter_le _ _) ?_
        rw [List.length_take]; omega
      have e1 := goneD_add (A.take i) B e
      rw [← htk] at e1
      simp [evOps_cons, opG_none, opA_load, opA_call, putO_some, putH_lt, loadT, opS, opV, Go.Mx.look, mapO, callA, partA, loadA, loadS, sz32, ag32, ok24, hlt, hsl, hle, enC]
      refine has_sp B e H3 _ (by omega) ?_
      have e2 : (fun x => likeE x e) = fun x => decide (keyE x = keyE e) := rfl
      rw [e2]
      cases hany : B.any (fun x => decide (keyE x = keyE e)) with
      | true =>
        rw [hany] at e1
        simp at e1
        simp [ev_skip, ev_cond2, ev_region2, evOps_nil, evOps_cons, opG_none, opA_move, opA_assign, opA_bin, opA_un, putO_some, putH_lt, putC_lt, condB_false, binT_some, binA, avO_some, unT, io_add, opS, opV, Go.Mx.look, seqK, blockK, Fr.known, mapO, unA, headK, getV, getB, chkP, orO_some, eqT_some, tk3, w1]
        exact ⟨A.length - (i + 1), by omega, i + 1, v2, by omega, rfl, by simp [rowE], rfl, by rw [e1]; exact hv2, hs2⟩
      | false =>
        rw [hany] at e1
        simp at e1
        simp [ev_cond2, evOps_nil, evOps_cons, opG_none, opA_move, opA_un, opA_load, opA_indexAddr, opA_fieldAddr, opA_buildSlice, opA_append, putO_some, putH_lt, putC_lt, condB_true, unT, loadT, fieldAddrT, indexAddrT, buildSliceT, appendT, repeatL_1, opS, opV, Go.Mx.look, seqK, Fr.known, mapO, unA, cellsA_agg, okPart_agg, partA, loadA, loadS, plusS, indexAddrA, fillA, bindO, srcTy, ev_draw, drawK, evP_q, evP_s, opAt_some, sz22, ag22, st22, Try.underlying22, Try.underlying28, sz32, ag32, by32, ze32, hlt, hsl, hle, enC]
        refine hv2.app (by simp) hs2.1 (by omega) (fun v' H4 fp hv' hs' hfp => ?_)
        obtain ⟨f1, f2⟩ := NewK.cells' hv'
        simp [ev_region2, evOps_nil, evOps_cons, opG_none, opA_move, opA_assign, opA_bin, opA_fieldAddr, opA_store, putO_some, putH_lt, putC_lt, putU_none, binT_some, binA, avO_some, fieldAddrT, storeT, io_add, opS, opV, Go.Mx.look, seqK, blockK, mapO, plusS, storeS, headK, getV, getB, chkP, orO_some, eqT_some, evP_nil, evP_q, evP_s, opAt_some, chkK_eq, allQ_nil, tk3, sz22, Try.underlying28, w1, f1, f2, splice]
        refine ⟨A.length - (i + 1), by omega, i + 1, v', by omega, rfl, by simp [rowE], rfl, ?_, hs2.new hs' (fun j hj => (hfp j hj).1)⟩
        rw [e1]
        simpa [enC] using hv'
    · have : i = A.length := by omega
      subst this
      rw [List.take_length] at hv2
      simp [splice]
      refine ⟨hs.trans hs2 (by simp), _, NewK.frzAgg (hv.same hs2 (by simp)) (hv2.later hs.1) ?_, by rw [low_agg]; intro c hc; simp only [List.mem_cons, List.not_mem_nil, or_false] at hc; rcases hc with rfl | rfl <;> (rw [low_row]; exact low_ens _), h⟩
      rintro id ver a b c id2 ver2 a2 b2 c2 rfl rfl
      rcases hv with ⟨_, _, h⟩ | ⟨_, _, i1, v1, t1, h, k1, _⟩
      · simp at h
      · rcases hv2 with ⟨_, _, h'⟩ | ⟨_, _, i2, v2, t2, h', _, k2⟩
        · simp at h'
        · simp at h h'
          have := Hp.lt k1
          omega
end Go.Proofs.Ytbdfhenelbakaaa
