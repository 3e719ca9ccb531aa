import Derived.Test.YtoakdmkjlpjahaaDoorPG
import Derived.Test.YtoakdmkjlpjahaaDoorMxSb
namespace Go.Proofs.YtoakdmkjlpjahaaDoor
open Go.Mx
set_option linter.unusedVariables false
set_option linter.unusedSimpArgs false
set_option linter.unnecessarySimpa false
set_option maxRecDepth 100000

/-! ### Deeds -/
structure De where
  kind : Int
  id : LB
  text : LB
  ts : Int
  lim : Int
def deC (d : De) : List AV := [.v (.int .i64 d.kind), .v (.string (tx d.id)), .v (.string (tx d.text)), .v (.int .i64 d.ts), .v (.int .i64 d.lim)]
theorem deC_len (d : De) : (deC d).length = 5 := rfl
def txOf (s : ByteArray) : LB := s.data.toList
theorem tx_of (s : ByteArray) : tx (txOf s) = s := rfl
theorem de_read {xs : List AV} (h : Shp Tryd.prog 34 xs) : ∃ x : De, xs = deC x := by
  obtain ⟨ps, rfl, hp⟩ := shp_struct Tryd.underlying34 h
  obtain ⟨n0, e0, _⟩ := shp_int Tryd.underlying3 (hp 0 _ rfl)
  obtain ⟨s1, e1, z1⟩ := shp_str Tryd.underlying9 (hp 1 _ rfl)
  obtain ⟨s2, e2, z2⟩ := shp_str Tryd.underlying9 (hp 2 _ rfl)
  obtain ⟨n3, e3, _⟩ := shp_int Tryd.underlying2 (hp 3 _ rfl)
  obtain ⟨n4, e4, w4⟩ := shp_int Tryd.underlying3 (hp 4 _ rfl)
  exact ⟨⟨n0, txOf s1, txOf s2, n3, n4⟩, by simp [List.range_succ, e0, e1, e2, e3, e4, deC, tx_of]⟩
def rowD (l : List De) : AV := .row false l.length (l.flatMap deC)
theorem des_read {x : AV} (h : Shp Tryd.prog 27 [x]) : ∃ l : List De, x = rowD l := by
  obtain ⟨l, h1, _, h2⟩ := shp_rows (p := fun _ => True) Tryd.underlying27 (fun _ ha => by obtain ⟨x, hx⟩ := de_read ha; exact ⟨x, hx, trivial⟩) h
  simp at h1
  exact ⟨l, h1⟩
def FewD (d : De) : Prop := d.id.length ≤ 100 ∧ d.text.length ≤ 100
def Few (l : List De) : Prop := l.length ≤ 50 ∧ ∀ d ∈ l, FewD d
def FwInv (l : List De) (x0 : Bool) (cs : List AV) (H : Hp) (n : Nat) (xs : List AV) (H2 : Hp) : Prop :=
  ∃ i : Nat, i ≤ l.length ∧ n = l.length - i ∧ (∀ d ∈ l.take i, FewD d) ∧ xs = [.row x0 l.length cs, .v (.int .i64 (i : Int))] ∧ H2 = H
/-- What a row of deeds holds. -/
theorem de_get {l : List De} {i : Nat} {d : De} (hx : l[i]? = some d) : (l.flatMap deC)[i * 5]? = some (.v (.int .i64 d.kind)) ∧ (l.flatMap deC)[i * 5 + 1]? = some (.v (.string (tx d.id))) ∧ (l.flatMap deC)[i * 5 + 2]? = some (.v (.string (tx d.text))) ∧ (l.flatMap deC)[i * 5 + 3]? = some (.v (.int .i64 d.ts)) ∧ (l.flatMap deC)[i * 5 + 4]? = some (.v (.int .i64 d.lim)) := by
  have g := fun j hj => flat_get deC_len hx j hj
  exact ⟨by simpa [deC] using g 0 (by omega), by simpa [deC] using g 1 (by omega), by simpa [deC] using g 2 (by omega), by simpa [deC] using g 3 (by omega), by simpa [deC] using g 4 (by omega)⟩
theorem few_sp (l : List De) (x0 : Bool) (H : Hp) (Q : AV → Hp → Prop) (h1 : Few l → Q (.v (.bool true)) H) (h0 : ¬ Few l → Q (.v (.bool false)) H) : Sp Tryd.prog 13 [.row x0 l.length (l.flatMap deC)] Q H := by
  refine Sp.body [(4, ⟨[0, 3], [], []⟩)] ⟨[], [], []⟩ [] mo Tryd.func13 rfl (Nat.le_of_ble_eq_true rfl) (by kernel_rfl) ?_
  have lc : (l.flatMap deC).length = l.length * 5 := flat_len deC_len _
  have dg := fun {i : Nat} {d : De} (hx : l[i]? = some d) => de_get hx
  generalize l.flatMap deC = cs at lc dg ⊢
  by_cases h50 : l.length ≤ 50
  · have h50' : ¬ ((50 : Int) < (l.length : Int)) := by omega
    simp [ev_skip, ev_seq, ev_cond2, ev_block, ev_region2, ev_loop, loopK, evOps_nil, evOps_cons, opG_none, opA_move, opA_assign, opA_bin, opA_len, putO_some, putH_lt, condB_false, binT_some, binA, avO_some, lenT_row, io_gtr, opS, opV, Go.Mx.look, fr0, argSlots, seqK, Fr.known, mapO, headK, getV, getB, chkP, firstReg, orO_some, eqT_some, tk3, Tryd.underlying27, h50']
    refine LoopC.intro (fun n xs _ H2 => FwInv l x0 cs H n xs H2) l.length ⟨0, by omega, by omega, by simp, by simp, rfl⟩ ?_
    rintro n xs bs H2 ⟨i, hi, rfl, hall, rfl, rfl⟩
    by_cases hlt : i < l.length
    · obtain ⟨d, hd⟩ : ∃ d, l[i]? = some d := ⟨_, List.getElem?_eq_getElem hlt⟩
      obtain ⟨g0, g1, g2, g3, g4⟩ := dg hd
      have hlt' : (i : Int) < (l.length : Int) := by omega
      have w1 : IntKind.i64.wrap ((i : Int) + 1) = (i : Int) + 1 := wr_i64 (by omega)
      have b1 : i * 5 + 1 < cs.length := by omega
      have b2 : i * 5 + 2 < cs.length := by omega
      have c1 : cs[i * 5 + 1] = .v (.string (tx d.id)) := (List.getElem?_eq_some_iff.1 g1).2
      have c2 : cs[i * 5 + 2] = .v (.string (tx d.text)) := (List.getElem?_eq_some_iff.1 g2).2
      have htk : l.take (i + 1) = l.take i ++ [d] := by rw [List.take_add_one, hd]; rfl
      have hdm := List.mem_of_getElem? hd
      by_cases hi1 : d.id.length ≤ 100
      · have hi1' : ¬ ((100 : Int) < (d.id.length : Int)) := by omega
        by_cases hi2 : d.text.length ≤ 100
        · have hi2' : ¬ ((100 : Int) < (d.text.length : Int)) := by omega
          simp [ev_skip, ev_seq, ev_cond2, ev_block, ev_region2, evOps_nil, evOps_cons, opG_none, opG_some, opJ, opU_ff, isU_bool, opK_eq, opA_move, opA_assign, opA_pick, opA_bin, opA_load, opA_indexAddr, opA_fieldAddr, opA_len, putO_some, putH_lt, condB_true, condB_false, binT_some, binA, avO_some, pickT, loadT, lenT_str, lenT_row, fieldAddrT, indexAddrT, io_add, io_lss, io_gtr, opS, opV, Go.Mx.look, seqK, blockK, Fr.known, mapO, partA, loadA, loadS, plusS, indexAddrA, headK, getV, getB, chkP, mkFr, slotsOf, ptrsOf, boxesOf, orO_some, eqT_some, tk3, sz9, ag9, Tryd.underlying9, Tryd.underlying27, sz34, Tryd.underlying34, tx_size, hlt', b1, b2, c1, c2, hi1', hi2', w1]
          refine ⟨l.length - (i + 1), by omega, i + 1, by omega, rfl, ?_, by simp, rfl⟩
          rw [htk]; intro y hy
          rcases List.mem_append.1 hy with h3 | h3
          · exact hall y h3
          · simp at h3; subst h3; exact ⟨hi1, hi2⟩
        · have hi2' : (100 : Int) < (d.text.length : Int) := by omega
          simp [ev_skip, ev_seq, ev_cond2, ev_block, ev_ret, ev_region2, evOps_nil, evOps_cons, opG_none, opG_some, opJ, opU_ff, isU_bool, opK_eq, opA_move, opA_assign, opA_pick, opA_bin, opA_load, opA_indexAddr, opA_fieldAddr, opA_len, putO_some, putH_lt, condB_true, condB_false, binT_some, binA, avO_some, pickT, loadT, lenT_str, lenT_row, fieldAddrT, indexAddrT, io_lss, io_gtr, opS, opV, Go.Mx.look, seqK, blockK, Fr.known, retK, retA, resA, mapO, partA, loadA, loadS, plusS, indexAddrA, mkFr, slotsOf, ptrsOf, boxesOf, orO_some, eqT_some, tk3, sz9, ag9, Tryd.underlying9, Tryd.underlying27, sz34, Tryd.underlying34, tx_size, hlt', b1, b2, c1, c2, hi1', hi2']
          exact h0 (fun hf => hi2 (hf.2 d hdm).2)
      · have hi1' : (100 : Int) < (d.id.length : Int) := by omega
        simp [ev_skip, ev_seq, ev_cond2, ev_block, ev_ret, ev_region2, evOps_nil, evOps_cons, opG_none, opG_some, opJ, opU_ff, isU_bool, opA_move, opA_assign, opA_pick, opA_bin, opA_load, opA_indexAddr, opA_fieldAddr, opA_len, putO_some, putH_lt, putV_lt, condB_true, binT_some, binA, avO_some, pickT, loadT, lenT_str, lenT_row, fieldAddrT, indexAddrT, io_lss, io_gtr, opS, opV, Go.Mx.look, seqK, blockK, Fr.known, retK, retA, resA, mapO, partA, loadA, loadS, plusS, indexAddrA, mkFr, slotsOf, ptrsOf, boxesOf, orO_some, eqT_some, tk3, sz9, ag9, Tryd.underlying9, Tryd.underlying27, sz34, Tryd.underlying34, tx_size, hlt', b1, c1, hi1']
        exact h0 (fun hf => hi1 (hf.2 d hdm).1)
    · have hii : i = l.length := by omega
      subst hii
      have hlt' : ¬ ((l.length : Int) < (l.length : Int)) := by omega
      rw [List.take_length] at hall
      simp [ev_seq, ev_cond2, ev_exit, ev_ret, ev_region2, evOps_nil, evOps_cons, opG_none, opA_move, opA_assign, opA_bin, opA_len, putO_some, putH_lt, condB_false, binT_some, binA, avO_some, lenT_row, io_lss, opS, opV, Go.Mx.look, seqK, blockK, Fr.known, retK, retA, resA, mapO, mkFr, slotsOf, ptrsOf, boxesOf, orO_some, eqT_some, tk3, Tryd.underlying27]
      exact h1 ⟨h50, hall⟩
  · have h50' : (50 : Int) < (l.length : Int) := by omega
    simp [ev_seq, ev_cond2, ev_ret, ev_region2, evOps_nil, evOps_cons, opG_none, opA_move, opA_assign, opA_bin, opA_len, putO_some, putH_lt, condB_true, binT_some, binA, avO_some, lenT_row, io_gtr, opS, opV, Go.Mx.look, fr0, argSlots, seqK, Fr.known, retK, retA, resA, mapO, orO_some, eqT_some, tk3, Tryd.underlying27, h50']
    exact h0 (fun hf => h50 hf.1)
end Go.Proofs.YtoakdmkjlpjahaaDoor

namespace Go.Proofs.YtoakdmkjlpjahaaDoor
open Go.Mx
set_option linter.unusedVariables false
set_option linter.unusedSimpArgs false
set_option linter.unnecessarySimpa false
set_option maxRecDepth 100000

/-! ### An index behind deeds -/
def txD (d : De) : Tx3 := ⟨d.id, d.ts, d.text⟩
def stepD (L : List Tx3) (d : De) : List Tx3 := if d.kind = 0 then (addL L (txD d)).2 else if d.kind = 1 then remL L d.id else L
def builtL (l : List De) : List Tx3 := l.foldl stepD []
theorem addL_len (L : List Tx3) (t : Tx3) : (addL L t).2.length ≤ L.length + 1 := by
  unfold addL
  split
  · simp
  · split <;> simp
theorem stepD_len (L : List Tx3) (d : De) : (stepD L d).length ≤ L.length + 1 := by
  unfold stepD
  split
  · exact addL_len L _
  · split
    · have := List.length_filter_le (fun t : Tx3 => decide (t.id ≠ d.id)) L
      unfold remL; omega
    · omega
theorem builtL_snoc (l : List De) (d : De) : builtL (l ++ [d]) = stepD (builtL l) d := by simp [builtL]
theorem builtL_len (l : List De) : (builtL l).length ≤ l.length := by
  suffices h : ∀ (l : List De) (L : List Tx3), (l.foldl stepD L).length ≤ L.length + l.length by
    have := h l []
    simpa [builtL] using this
  intro l
  induction l with
  | nil => intro L; simp
  | cons d l ih =>
    intro L
    have h1 := ih (stepD L d)
    have h2 := stepD_len L d
    simp only [List.foldl_cons, List.length_cons]
    omega
/-- What is new lies behind. -/
theorem IxAt.later {fp fp' : List Nat} {H H' H'' : Hp} (h1 : Same [] H H') (hf : ∀ j ∈ fp, H.length ≤ j) (h2 : Same fp H' H'') (hf' : ∀ j ∈ fp', j ∈ fp ∨ H'.length ≤ j) : Same [] H H'' ∧ ∀ j ∈ fp', H.length ≤ j :=
  ⟨h1.new h2 hf, fun j hj => (hf' j hj).elim (hf j) (fun h => Nat.le_trans h1.1 h)⟩
def BuInv (l : List De) (x0 : Bool) (cs : List AV) (a : Nat) (H : Hp) (n : Nat) (xs : List AV) (H2 : Hp) : Prop :=
  ∃ (i : Nat) (fp : List Nat), i ≤ l.length ∧ n = l.length - i ∧ xs = [.row x0 l.length cs, .ptr a 0 0, .v (.int .i64 (i : Int))] ∧ IxAt 60 H2 a (builtL (l.take i)) fp ∧ Same [] H H2 ∧ (∀ j ∈ fp, H.length ≤ j)
set_option maxHeartbeats 1000000 in
theorem built_sp (l : List De) (x0 : Bool) (H : Hp) (Q : AV → Hp → Prop) (hf : Few l) (hT : Tb H) (h : ∀ a H' fp, IxAt 60 H' a (builtL l) fp → Same [] H H' → (∀ j ∈ fp, H.length ≤ j) → Q (.ptr a 0 0) H') : Sp Tryd.prog 18 [.row x0 l.length (l.flatMap deC)] Q H := by
  refine Sp.body [(3, ⟨[0, 3, 4], [], []⟩)] ⟨[], [], pl18⟩ tb18 mo Tryd.func18 rfl (Nat.le_of_ble_eq_true rfl) (by kernel_rfl) ?_
  have lc : (l.flatMap deC).length = l.length * 5 := flat_len deC_len _
  have dg := fun {i : Nat} {d : De} (hx : l[i]? = some d) => de_get hx
  generalize l.flatMap deC = cs at lc dg ⊢
  simp [ev_seq, ev_region2, evOps_nil, evOps_cons, opG_none, opA_assign, opA_call, putO_some, putH_lt, opS, opV, fr0, argSlots, seqK, mapO, callA, ok14, pl18]
  refine new_sp 60 H _ (fun a H1 fp1 hp1 hs1 hf1 => ?_)
  simp [ev_seq, ev_block, ev_region2, ev_loop, loopK, evOps_nil, evOps_cons, opG_none, opA_assign, putO_some, putH_lt, putC_lt, opS, opV, Go.Mx.look, seqK, mapO, headK, getV, getB, chkP, firstReg]
  refine LoopC.intro (fun n xs _ H2 => BuInv l x0 cs a H n xs H2) l.length ⟨0, fp1, by omega, by omega, by simp, by simpa [builtL] using hp1, hs1, hf1⟩ ?_
  clear hp1 hs1 hf1 fp1 H1
  rintro n xs bs H2 ⟨i, fp, hi, rfl, rfl, hp, hs, hfp⟩
  have hT2 := hT.keep hs (by simp) (by simp)
  have h50 := hf.1
  have hbl := builtL_len (l.take i)
  have hbl2 : (l.take i).length ≤ 50 := by simp; omega
  by_cases hlt : i < l.length
  · obtain ⟨d, hd⟩ : ∃ d, l[i]? = some d := ⟨_, List.getElem?_eq_getElem hlt⟩
    obtain ⟨g0, g1, g2, g3, g4⟩ := dg hd
    have hfd := hf.2 d (List.mem_of_getElem? hd)
    have hlt' : (i : Int) < (l.length : Int) := by omega
    have w1 : IntKind.i64.wrap ((i : Int) + 1) = (i : Int) + 1 := wr_i64 (by omega)
    have b0 : i * 5 < cs.length := by omega
    have b1 : i * 5 + 1 < cs.length := by omega
    have b2 : i * 5 + 2 < cs.length := by omega
    have b3 : i * 5 + 3 < cs.length := by omega
    have c0 : cs[i * 5] = .v (.int .i64 d.kind) := (List.getElem?_eq_some_iff.1 g0).2
    have c1 : cs[i * 5 + 1] = .v (.string (tx d.id)) := (List.getElem?_eq_some_iff.1 g1).2
    have c2 : cs[i * 5 + 2] = .v (.string (tx d.text)) := (List.getElem?_eq_some_iff.1 g2).2
    have c3 : cs[i * 5 + 3] = .v (.int .i64 d.ts) := (List.getElem?_eq_some_iff.1 g3).2
    have htk : builtL (l.take (i + 1)) = stepD (builtL (l.take i)) d := by rw [List.take_add_one, hd]; exact builtL_snoc _ _
    have hstep : ∀ (H3 : Hp) (fp3 : List Nat), IxAt 60 H3 a (stepD (builtL (l.take i)) d) fp3 → Same [] H H3 → (∀ j ∈ fp3, H.length ≤ j) → ∃ m, m < l.length - i ∧ BuInv l x0 cs a H m [.row x0 l.length cs, .ptr a 0 0, .v (.int .i64 ((i : Int) + 1))] H3 := fun H3 fp3 h1 h2 h3 =>
      ⟨l.length - (i + 1), by omega, i + 1, fp3, by omega, rfl, by simp, by rw [htk]; exact h1, h2, h3⟩
    by_cases hk0 : d.kind = 0
    · have hsd : stepD (builtL (l.take i)) d = (addL (builtL (l.take i)) (txD d)).2 := by unfold stepD; rw [if_pos hk0]
      simp [ev_skip, ev_seq, ev_cond2, ev_block, ev_region2, evOps_nil, evOps_cons, opG_none, opA_move, opA_assign, opA_bin, opA_load, opA_indexAddr, opA_fieldAddr, opA_len, opA_call, putO_some, putH_lt, condB_true, binT_some, binA, avO_some, loadT, lenT_row, fieldAddrT, indexAddrT, io_eql, io_lss, opS, opV, Go.Mx.look, seqK, Fr.known, mapO, callA, partA, loadA, loadS, plusS, indexAddrA, mkFr, slotsOf, ptrsOf, boxesOf, orO_some, eqT_some, ev_draw, drawK, evP_q, evP_s, opAt_some, sz2, ag2, sz3, ag3, tk3, sz9, ag9, Tryd.underlying27, sz34, Tryd.underlying34, ok15, hlt', b0, c0, b1, c1, b2, c2, b3, c3, hk0]
      refine add_sp (txD d) H2 _ hp hT2 (by omega) (by omega) (by have := hfd.2; simp [txD]; omega) (fun H3 fp3 hp3 hs3 hf3 => ?_)
      obtain ⟨q1, q2⟩ := IxAt.later hs hfp hs3 hf3
      simp [ev_region2, evOps_nil, evOps_cons, opG_none, opA_move, opA_assign, opA_bin, putO_some, putH_lt, putC_lt, binT_some, binA, avO_some, io_add, opS, opV, Go.Mx.look, seqK, blockK, mapO, headK, getV, getB, chkP, orO_some, eqT_some, evP_nil, chkK_eq, allQ_nil, tk3, w1]
      exact hstep H3 fp3 (by rw [hsd]; exact hp3) q1 q2
    · by_cases hk1 : d.kind = 1
      · have hsd : stepD (builtL (l.take i)) d = remL (builtL (l.take i)) d.id := by unfold stepD; rw [if_neg hk0, if_pos hk1]
        simp [ev_skip, ev_seq, ev_cond2, ev_block, ev_region2, evOps_nil, evOps_cons, opG_none, opA_move, opA_assign, opA_bin, opA_load, opA_indexAddr, opA_fieldAddr, opA_len, opA_call, putO_some, putH_lt, condB_true, condB_false, binT_some, binA, avO_some, loadT, lenT_row, fieldAddrT, indexAddrT, io_eql, io_lss, opS, opV, Go.Mx.look, seqK, Fr.known, mapO, callA, partA, loadA, loadS, plusS, indexAddrA, mkFr, slotsOf, ptrsOf, boxesOf, orO_some, eqT_some, sz3, ag3, tk3, sz9, ag9, Tryd.underlying27, sz34, Tryd.underlying34, ok22, hlt', b0, c0, b1, c1, hk1]
        refine remove_sp d.id H2 _ hp (by omega) (fun H3 fp3 hp3 hs3 hf3 => ?_)
        obtain ⟨q1, q2⟩ := IxAt.later hs hfp hs3 (fun j hj => .inl (hf3 j hj))
        simp [ev_region2, evOps_nil, evOps_cons, opG_none, opA_move, opA_assign, opA_bin, putO_some, putH_lt, putC_lt, binT_some, binA, avO_some, io_add, opS, opV, Go.Mx.look, seqK, blockK, mapO, headK, getV, getB, chkP, orO_some, eqT_some, tk3, w1]
        exact hstep H3 fp3 (by rw [hsd]; exact hp3) q1 q2
      · have hsd : stepD (builtL (l.take i)) d = builtL (l.take i) := by unfold stepD; rw [if_neg hk0, if_neg hk1]
        simp [ev_skip, ev_seq, ev_cond2, ev_block, ev_region2, evOps_nil, evOps_cons, opG_none, opA_move, opA_assign, opA_bin, opA_load, opA_indexAddr, opA_fieldAddr, opA_len, putO_some, putH_lt, condB_true, CondP_false, binT_some, binA, avO_some, loadT, lenT_row, fieldAddrT, indexAddrT, io_add, io_eql, io_lss, opS, opV, Go.Mx.look, seqK, blockK, Fr.known, mapO, partA, loadA, loadS, plusS, indexAddrA, headK, getV, getB, chkP, mkFr, slotsOf, ptrsOf, boxesOf, orO_some, eqT_some, sz3, ag3, tk3, Tryd.underlying27, sz34, Tryd.underlying34, hlt', b0, c0, hk0, hk1, w1]
        exact hstep H2 fp (by rw [hsd]; exact hp) hs hfp
  · have hii : i = l.length := by omega
    subst hii
    rw [List.take_length] at hp
    have hlt' : ¬ ((l.length : Int) < (l.length : Int)) := by omega
    simp [ev_seq, ev_cond2, ev_exit, ev_ret, ev_region2, evOps_nil, evOps_cons, opG_none, opA_move, opA_assign, opA_bin, opA_len, putO_some, putH_lt, condB_false, binT_some, binA, avO_some, lenT_row, io_lss, opS, opV, Go.Mx.look, seqK, blockK, Fr.known, retK, retA, resA, mapO, mkFr, slotsOf, ptrsOf, boxesOf, orO_some, eqT_some, tk3, Tryd.underlying27]
    exact h a H2 fp hp hs hfp
end Go.Proofs.YtoakdmkjlpjahaaDoor
