import Derived.Test.YtoakdmkjlpjahaaDoorPH
import Derived.Test.YtoakdmkjlpjahaaDoorPG
namespace Go.Proofs.YtoakdmkjlpjahaaDoor
open Go.Mx
set_option linter.unusedVariables false
set_option linter.unusedSimpArgs false
set_option linter.unnecessarySimpa false

/-! ### The order of texts does not count -/
theorem tsOf_mem {L : List Tx3} (hids : (L.map (·.id)).Nodup) {t : Tx3} (ht : t ∈ L) : tsOf L t.id = t.ts := by
  unfold tsOf
  cases hf : L.find? (fun x => decide (x.id = t.id)) with
  | none => have := List.find?_eq_none.1 hf t ht; simp at this
  | some x =>
    have h1 := List.mem_of_find?_eq_some hf
    have h2 : x.id = t.id := by simpa using List.find?_some hf
    obtain ⟨i, hi⟩ := List.getElem?_of_mem h1
    obtain ⟨j, hj⟩ := List.getElem?_of_mem ht
    have e1 : (L.map (·.id))[i]? = some t.id := by rw [List.getElem?_map, hi]; simp [h2]
    have e2 : (L.map (·.id))[j]? = some t.id := by rw [List.getElem?_map, hj]; rfl
    have hxy : i = j := (List.getElem?_inj (List.getElem?_eq_some_iff.1 e1).1 hids).1 (by rw [e1, e2])
    subst hxy
    rw [hi] at hj; simp at hj; subst hj; rfl
theorem tsOf_no {L : List Tx3} {x : LB} (h : x ∉ L.map (·.id)) : tsOf L x = 0 := by
  unfold tsOf
  cases hf : L.find? (fun t => decide (t.id = x)) with
  | none => rfl
  | some t => exact absurd (List.mem_map.2 ⟨t, List.mem_of_find?_eq_some hf, by simpa using List.find?_some hf⟩) h
theorem tsOf_perm {L M : List Tx3} (hp : L.Perm M) (hids : (L.map (·.id)).Nodup) : tsOf L = tsOf M := by
  funext x
  have hm : (M.map (·.id)).Nodup := (hp.map _).nodup_iff.1 hids
  by_cases hx : x ∈ L.map (·.id)
  · obtain ⟨t, ht, rfl⟩ := List.mem_map.1 hx
    rw [tsOf_mem hids ht, tsOf_mem hm (hp.mem_iff.1 ht)]
  · rw [tsOf_no hx, tsOf_no (fun h => hx ((hp.map _).mem_iff.2 h))]
theorem findF_perm {L M : List Tx3} (hp : L.Perm M) (hids : (L.map (·.id)).Nodup) (q : LB) (lim : Int) : findF L q lim = findF M q lim := by
  have hts := tsOf_perm hp hids
  have hc : cmpT L = cmpT M := by
    funext x y; unfold cmpT; rw [hts]
  have hs : ∀ l, sortT L l = sortT M l := fun l => by unfold sortT; rw [hc]
  have hf : (foundL L q).Perm (foundL M q) := (hp.filter _).map _
  unfold findF
  rw [hs, sortT_congr M hf]
def addsL (l : List De) : List Tx3 := l.foldl (fun L d => (addL L (txD d)).2) []
theorem addsL_snoc (l : List De) (d : De) : addsL (l ++ [d]) = (addL (addsL l) (txD d)).2 := by simp [addsL]
theorem addsL_len (l : List De) : (addsL l).length ≤ l.length := by
  suffices h : ∀ (l : List De) (L : List Tx3), (l.foldl (fun L d => (addL L (txD d)).2) L).length ≤ L.length + l.length by
    have := h l []
    simpa [addsL] using this
  intro l
  induction l with
  | nil => intro L; simp
  | cons d l ih =>
    intro L
    have h1 := ih (addL L (txD d)).2
    have h2 := addL_len L (txD d)
    simp only [List.foldl_cons, List.length_cons]
    omega
theorem snocInd {α : Type} {p : List α → Prop} (h0 : p []) (h1 : ∀ l a, p l → p (l ++ [a])) (l : List α) : p l := by
  have h : ∀ r : List α, p r.reverse := fun r => by
    induction r with
    | nil => exact h0
    | cons a r ih => rw [List.reverse_cons]; exact h1 _ _ ih
  have := h l.reverse
  rwa [List.reverse_reverse] at this
theorem addsL_ids (l : List De) : ∀ s, s ∈ (addsL l).map (·.id) ↔ s ≠ [] ∧ s ∈ l.map (·.id) := by
  refine snocInd (p := fun l => ∀ s, s ∈ (addsL l).map (·.id) ↔ s ≠ [] ∧ s ∈ l.map (·.id)) (by simp [addsL]) (fun l d ih s => ?_) l
  rw [addsL_snoc]
  unfold addL
  by_cases h0 : (txD d).id = []
  · rw [if_pos h0]
    simp only [List.map_append, List.mem_append, List.map_cons, List.map_nil, List.mem_singleton]
    rw [ih]
    have : d.id = [] := h0
    constructor
    · rintro ⟨a, b⟩; exact ⟨a, .inl b⟩
    · rintro ⟨a, b | b⟩
      · exact ⟨a, b⟩
      · exact absurd (b.trans this) a
  · rw [if_neg h0]
    have hd : d.id ≠ [] := h0
    by_cases h1 : (txD d).id ∈ (addsL l).map (·.id)
    · rw [if_pos h1]
      simp only [List.map_append, List.mem_append, List.map_cons, List.map_nil, List.mem_singleton]
      rw [ih]
      have h2 := (ih _).1 h1
      constructor
      · rintro ⟨a, b⟩; exact ⟨a, .inl b⟩
      · rintro ⟨a, b | b⟩
        · exact ⟨a, b⟩
        · exact ⟨a, b ▸ h2.2⟩
    · rw [if_neg h1]
      simp only [List.map_append, List.mem_append, List.map_cons, List.map_nil, List.mem_singleton]
      rw [ih]
      constructor
      · rintro (⟨a, b⟩ | b)
        · exact ⟨a, .inl b⟩
        · have : s = d.id := b
          exact ⟨this ▸ hd, .inr this⟩
      · rintro ⟨a, b | b⟩
        · exact .inl ⟨a, b⟩
        · exact .inr b
theorem addL_nodup {L : List Tx3} (h : (L.map (·.id)).Nodup) (t : Tx3) : ((addL L t).2.map (·.id)).Nodup := by
  unfold addL
  split
  · exact h
  · split
    · exact h
    · rename_i hn
      simp only [List.map_append, List.map_cons, List.map_nil]
      rw [List.nodup_append]
      exact ⟨h, by simp, fun a ha b hb => by simp at hb; subst hb; exact fun e => hn (e ▸ ha)⟩
theorem addsL_nodup (l : List De) : ((addsL l).map (·.id)).Nodup := by
  refine snocInd (p := fun l => ((addsL l).map (·.id)).Nodup) (by simp [addsL]) (fun l d ih => ?_) l
  rw [addsL_snoc]
  exact addL_nodup ih _
/-- One step, backwards. -/
theorem back_step {l : List De} {i : Nat} {d : De} (hd : l[i]? = some d) {R : List Tx3} (hR : addsL l = addsL (l.take (i + 1)) ++ R) :
    ∃ R', addsL l = addsL (l.take i) ++ R' ∧ (if d.id ∈ (l.take i).map (·.id) then R.reverse else (addL R.reverse (txD d)).2) = R'.reverse := by
  have htk : l.take (i + 1) = l.take i ++ [d] := by rw [List.take_add_one, hd]; rfl
  rw [htk, addsL_snoc] at hR
  have hids := addsL_ids (l.take i) d.id
  have hnd := addsL_nodup l
  by_cases h1 : d.id ∈ (l.take i).map (·.id)
  · refine ⟨R, ?_, by rw [if_pos h1]⟩
    rw [hR]
    congr 1
    unfold addL
    split
    · rfl
    · rename_i h0
      have h5 : (txD d).id ∈ (addsL (l.take i)).map (·.id) := hids.2 ⟨h0, h1⟩
      rw [if_pos h5]
  · by_cases h0 : (txD d).id = []
    · refine ⟨R, ?_, ?_⟩
      · rw [hR]; unfold addL; rw [if_pos h0]
      · rw [if_neg h1]; unfold addL; rw [if_pos h0]
    · have h2 : (txD d).id ∉ (addsL (l.take i)).map (·.id) := fun h => h1 (hids.1 h).2
      have e1 : (addL (addsL (l.take i)) (txD d)).2 = addsL (l.take i) ++ [txD d] := by unfold addL; rw [if_neg h0, if_neg h2]
      rw [e1] at hR
      have h3 : (txD d).id ∉ R.reverse.map (·.id) := by
        rw [hR] at hnd
        simp only [List.map_append, List.map_cons, List.map_nil] at hnd
        rw [List.nodup_append] at hnd
        intro h
        simp only [List.map_reverse, List.mem_reverse] at h
        exact hnd.2.2 _ (by simp) _ h rfl
      refine ⟨txD d :: R, by rw [hR]; simp, ?_⟩
      rw [if_neg h1]
      unfold addL
      rw [if_neg h0, if_neg h3]
      simp
end Go.Proofs.YtoakdmkjlpjahaaDoor

namespace Go.Proofs.YtoakdmkjlpjahaaDoor
open Go.Mx
set_option linter.unusedVariables false
set_option linter.unusedSimpArgs false
set_option linter.unnecessarySimpa false
set_option maxRecDepth 100000

/-! ### SearchOrder -/
/-- Two indexes, apart. -/
def Two (H : Hp) (a b : Nat) (L M : List Tx3) (fp fq : List Nat) : Prop := IxAt 60 H a L fp ∧ IxAt 60 H b M fq ∧ (∀ j ∈ fp, j ∉ fq)
theorem Two.left {H H' : Hp} {a b : Nat} {L L' M : List Tx3} {fp fp' fq : List Nat} (h : Two H a b L M fp fq) (h1 : IxAt 60 H' a L' fp') (hs : Same fp H H') (hf : ∀ j ∈ fp', j ∈ fp ∨ H.length ≤ j) : Two H' a b L' M fp' fq :=
  ⟨h1, h.2.1.same hs (fun j hj hm => h.2.2 j hm hj), fun j hj hm => (hf j hj).elim (fun hj => h.2.2 j hj hm) (fun hj => by have := h.2.1.lt j hm; omega)⟩
theorem Two.right {H H' : Hp} {a b : Nat} {L M M' : List Tx3} {fp fq fq' : List Nat} (h : Two H a b L M fp fq) (h1 : IxAt 60 H' b M' fq') (hs : Same fq H H') (hf : ∀ j ∈ fq', j ∈ fq ∨ H.length ≤ j) : Two H' a b L M' fp fq' :=
  ⟨h.1.same hs (fun j hj => h.2.2 j hj), h1, fun j hj hm => (hf j hm).elim (fun hm => h.2.2 j hj hm) (fun hm => by have := h.1.lt j hj; omega)⟩
def Or1 (H : Hp) (l : List De) (cs : List AV) (q : LB) (lim : Int) (a b : Nat) (n : Nat) (xs : List AV) (H2 : Hp) : Prop :=
  ∃ (i : Nat) (fp fq : List Nat), i ≤ l.length ∧ n = l.length - i ∧ xs = [.row false l.length cs, .v (.string (tx q)), .v (.int .i64 lim), .ptr a 0 0, .ptr b 0 0, .v (.int .i64 (i : Int))] ∧ Two H2 a b (addsL (l.take i)) [] fp fq ∧ Tb H2
def Or2 (H : Hp) (l : List De) (cs : List AV) (q : LB) (lim : Int) (a b : Nat) (n : Nat) (xs : List AV) (H2 : Hp) : Prop :=
  ∃ (i : Nat) (R : List Tx3) (fp fq : List Nat), i ≤ l.length ∧ n = i ∧ xs = [.row false l.length cs, .v (.string (tx q)), .v (.int .i64 lim), .ptr a 0 0, .ptr b 0 0, .v (.int .i64 ((i : Int) - 1))] ∧ Two H2 a b (addsL l) R.reverse fp fq ∧ addsL l = addsL (l.take i) ++ R ∧ Tb H2
def Or3 (H2 : Hp) (l : List De) (cs : List AV) (q : LB) (lim : Int) (a b i : Nat) (d : De) (n : Nat) (xs : List AV) (H3 : Hp) : Prop :=
  ∃ k : Nat, k ≤ i ∧ n = i - k ∧ xs = [.row false l.length cs, .v (.string (tx q)), .v (.int .i64 lim), .ptr a 0 0, .ptr b 0 0, .v (.int .i64 (i : Int)), .v (.bool (decide (d.id ∉ (l.take k).map (·.id)))), .v (.int .i64 (k : Int))] ∧ H3 = H2
set_option maxHeartbeats 4000000 in
theorem order_sp (l : List De) (q : LB) (lim : Int) (H : Hp) (hT : Tb H) : Sp Tryd.prog 4 [rowD l, .v (.string (tx q)), .v (.int .i64 lim)] (fun v _ => v = .v (.bool true)) H := by
  refine Sp.body [(5, ⟨[0, 1, 2, 7, 8, 9], [], []⟩), (9, ⟨[0, 1, 2, 7, 8, 10], [], []⟩), (13, ⟨[0, 1, 2, 7, 8, 10, 11, 12], [], []⟩)] ⟨[], [], pl4⟩ tb4 mo Tryd.func4 rfl (Nat.le_of_ble_eq_true rfl) (by kernel_rfl) ?_
  simp [ev_seq, ev_region2, evOps_nil, evOps_cons, opG_none, opA_move, opA_assign, opA_call, putO_some, putH_lt, opS, opV, Go.Mx.look, fr0, argSlots, seqK, mapO, callA, ok13, pl4, rowD]
  refine few_sp l false H _ (fun hf => ?_) (fun _ => by simp [ev_seq, ev_cond2, ev_ret, ev_region2, evOps_nil, evOps_cons, opG_none, opG_some, opJ, opU_ff, isU_bool, opA_move, opA_assign, opA_pick, opA_un, putO_some, putH_lt, putC_lt, putV_lt, condB_true, pickT, unT, opS, opV, Go.Mx.look, seqK, Fr.known, retK, retA, resA, mapO, unA])
  have lc : (l.flatMap deC).length = l.length * 5 := flat_len deC_len _
  have dg := fun {i : Nat} {d : De} (hx : l[i]? = some d) => de_get hx
  generalize l.flatMap deC = cs at lc dg ⊢
  have h50 := hf.1
  by_cases hq : q.length ≤ 100
  · have hq' : ¬ ((100 : Int) < (q.length : Int)) := by omega
    have hsz : (tx q).size = q.length := tx_size q
    simp [ev_skip, ev_seq, ev_cond2, ev_region2, evOps_nil, evOps_cons, opG_none, opG_some, opJ, opU_ff, isU_bool, opK_eq, opA_move, opA_pick, opA_bin, opA_un, opA_len, opA_call, putO_some, putH_lt, putC_lt, condB_false, binT_some, binA, avO_some, pickT, unT, lenT_str, io_gtr, opS, opV, Go.Mx.look, seqK, Fr.known, mapO, unA, callA, orO_some, eqT_some, tk3, Tryd.underlying9, ok14, hsz, hq']
    refine new_sp 60 H _ (fun a H1 fp1 hp1 hs1 hf1 => ?_)
    simp [evOps_cons, opG_none, opA_call, putC_lt, opS, opV, mapO, callA, ok14]
    refine new_sp 60 H1 _ (fun b H2 fq1 hq1 hs2 hf2 => ?_)
    have hT2 := (hT.keep hs1 (by simp) (by simp)).keep hs2 (by simp) (by simp)
    have htwo : Two H2 a b [] [] fp1 fq1 := ⟨hp1.same hs2 (by simp), hq1, fun j hj hm => by have := hp1.lt j hj; have := hf2 j hm; omega⟩
    simp [ev_seq, ev_block, ev_region2, ev_loop, loopK, evOps_nil, evOps_cons, opG_none, opA_assign, putO_some, putH_lt, putC_lt, opS, opV, Go.Mx.look, seqK, mapO, headK, getV, getB, chkP, firstReg]
    refine LoopC.intro (fun n xs _ H2 => Or1 H l cs q lim a b n xs H2) l.length ⟨0, fp1, fq1, by omega, by omega, by simp, by simpa [addsL] using htwo, hT2⟩ ?_
    clear htwo hT2 hq1 hs2 hf2 hp1 hs1 hf1
    rintro n xs bs H3 ⟨i, fp, fq, hi, rfl, rfl, htwo, hT3⟩
    have hal := addsL_len (l.take i)
    have hal2 : (l.take i).length ≤ 50 := by simp; omega
    by_cases hlt : i < l.length
    · obtain ⟨d, hd⟩ : ∃ d, l[i]? = some d := ⟨_, List.getElem?_eq_getElem hlt⟩
      obtain ⟨g0, g1, g2, g3, g4⟩ := dg hd
      have hfd := hf.2 d (List.mem_of_getElem? hd)
      have hlt' : (i : Int) < (l.length : Int) := by omega
      have w1 : IntKind.i64.wrap ((i : Int) + 1) = (i : Int) + 1 := wr_i64 (by omega)
      have b1 : i * 5 + 1 < cs.length := by omega
      have b2 : i * 5 + 2 < cs.length := by omega
      have b3 : i * 5 + 3 < cs.length := by omega
      have c1 : cs[i * 5 + 1] = .v (.string (tx d.id)) := (List.getElem?_eq_some_iff.1 g1).2
      have c2 : cs[i * 5 + 2] = .v (.string (tx d.text)) := (List.getElem?_eq_some_iff.1 g2).2
      have c3 : cs[i * 5 + 3] = .v (.int .i64 d.ts) := (List.getElem?_eq_some_iff.1 g3).2
      have htk : addsL (l.take (i + 1)) = (addL (addsL (l.take i)) (txD d)).2 := by rw [List.take_add_one, hd]; exact addsL_snoc _ _
      simp [ev_skip, ev_seq, ev_cond2, ev_block, ev_region2, evOps_nil, evOps_cons, opG_none, opA_move, opA_bin, opA_load, opA_indexAddr, opA_fieldAddr, opA_len, opA_call, putO_some, putH_lt, condB_true, binT_some, binA, avO_some, loadT, lenT_row, fieldAddrT, indexAddrT, io_lss, opS, opV, Go.Mx.look, seqK, Fr.known, mapO, callA, partA, loadA, loadS, plusS, indexAddrA, mkFr, slotsOf, ptrsOf, boxesOf, orO_some, eqT_some, ev_draw, drawK, evP_q, evP_s, opAt_some, sz2, ag2, tk3, sz9, ag9, Tryd.underlying27, sz34, Tryd.underlying34, ok15, hlt', b1, c1, b2, c2, b3, c3]
      refine add_sp (txD d) H3 _ htwo.1 hT3 (by omega) (by omega) (by have := hfd.2; simp [txD]; omega) (fun H4 fp4 hp4 hs4 hf4 => ?_)
      simp [ev_region2, evOps_nil, evOps_cons, opG_none, opA_move, opA_assign, opA_bin, putO_some, putH_lt, putC_lt, binT_some, binA, avO_some, io_add, opS, opV, Go.Mx.look, seqK, blockK, mapO, headK, getV, getB, chkP, orO_some, eqT_some, evP_nil, chkK_eq, allQ_nil, tk3, w1]
      exact ⟨l.length - (i + 1), by omega, i + 1, fp4, fq, by omega, rfl, by simp, by rw [htk]; exact htwo.left hp4 hs4 hf4, htwo.1.tb hT3 hs4⟩
    · have hii : i = l.length := by omega
      subst hii
      rw [List.take_length] at htwo
      have hlt' : ¬ ((l.length : Int) < (l.length : Int)) := by omega
      have w0 : IntKind.i64.wrap ((l.length : Int) - 1) = (l.length : Int) - 1 := wr_i64 (by omega)
      simp [ev_seq, ev_cond2, ev_block, ev_exit, ev_region2, ev_loop, loopK, evOps_nil, evOps_cons, opG_none, opA_move, opA_assign, opA_bin, opA_len, putO_some, putH_lt, condB_false, binT_some, binA, avO_some, lenT_row, io_sub, io_lss, opS, opV, Go.Mx.look, seqK, blockK, Fr.known, mapO, headK, getV, getB, chkP, mkFr, slotsOf, ptrsOf, boxesOf, firstReg, orO_some, eqT_some, tk3, Tryd.underlying27, w0]
      refine LoopC.intro (fun n xs _ H2 => Or2 H l cs q lim a b n xs H2) l.length ⟨l.length, [], fp, fq, by omega, rfl, by simp, by simpa using htwo, by simp, hT3⟩ ?_
      clear htwo hT3 hal hal2
      rintro n xs bs H3 ⟨i1, R, fp, fq, hi, rfl, rfl, htwo, hR, hT3⟩
      rcases Nat.eq_zero_or_pos n with h0 | h0
      · subst h0
        have hRl : addsL l = R := by simpa [addsL] using hR
        rw [← hRl] at htwo
        have hfp := findF_perm (List.reverse_perm (addsL l)).symm (addsL_nodup l) q lim
        simp [ev_seq, ev_cond2, ev_exit, ev_region2, evOps_nil, evOps_cons, opG_none, opA_move, opA_bin, opA_call, putO_some, putH_lt, condB_false, binT_some, binA, avO_some, io_geq, opS, opV, Go.Mx.look, seqK, blockK, Fr.known, mapO, callA, mkFr, slotsOf, ptrsOf, boxesOf, orO_some, eqT_some, tk3, ok16]
        refine find_sp q lim H3 _ htwo.1 hT3 (by omega) (by omega) ?_
        simp [evOps_cons, opG_none, opA_move, opA_call, putO_some, putH_lt, putC_lt, opS, opV, Go.Mx.look, mapO, callA, rowT, ok16]
        refine find_sp q lim H3 _ htwo.2.1 hT3 (by omega) (by omega) ?_
        rw [← hfp]
        have hfl : (findF (addsL l) q lim).length ≤ 100000 := by
          have h1 := found_len (addsL l) q
          have h2 := addsL_len l
          unfold findF
          split
          · simp
          · rw [List.length_take, sortT_len]; omega
        simp [evOps_cons, opG_none, opA_call, putC_lt, opS, opV, Go.Mx.look, mapO, callA, rowT, ok9, rowT]
        refine strings_sp false false _ _ H3 _ hfl ?_
        simp [evOps_cons, opG_none, opG_some, opJ, opU_ft, isU_bool, opK_eq, opA_move, opA_call, putO_some, putH_lt, putC_lt, condB_true, opS, opV, Go.Mx.look, Fr.known, mapO, callA, ok17]
        refine len_sp H3 _ htwo.1 ?_
        simp [evOps_cons, opG_some, opJ, opU_ft, isU_bool, opK_eq, opA_move, opA_call, putO_some, putH_lt, putC_lt, condB_true, opS, opV, Go.Mx.look, Fr.known, mapO, callA, ok17]
        refine len_sp H3 _ htwo.2.1 ?_
        simp [evOps_cons, opG_none, opG_some, opJ, opU_ft, isU_bool, opK_eq, opA_move, opA_pick, opA_bin, opA_call, putO_some, putH_lt, putC_lt, condB_true, binT_some, binA, avO_some, pickT, io_eql, opS, opV, Go.Mx.look, Fr.known, mapO, callA, orO_some, eqT_some, tk3, ok12]
        refine awake_sp _ _ hT3 ?_
        simp [ev_ret, evOps_nil, evOps_cons, opG_none, opA_assign, opA_pick, putO_some, putH_lt, putC_lt, pickT, opS, opV, Go.Mx.look, seqK, retK, retA, resA, mapO]
      · obtain ⟨i, rfl⟩ : ∃ i, n = i + 1 := ⟨n - 1, by omega⟩
        have e0 : (((i + 1 : Nat) : Int) - 1) = (i : Int) := by omega
        have hlt : i < l.length := by omega
        obtain ⟨d, hd⟩ : ∃ d, l[i]? = some d := ⟨_, List.getElem?_eq_getElem hlt⟩
        obtain ⟨g0, g1, g2, g3, g4⟩ := dg hd
        have hfd := hf.2 d (List.mem_of_getElem? hd)
        have hge : (0 : Int) ≤ (i : Int) := by omega
        have hlt' : (i : Int) < (l.length : Int) := by omega
        have w1 : IntKind.i64.wrap ((i : Int) - 1) = (i : Int) - 1 := wr_i64 (by omega)
        have b1 : i * 5 + 1 < cs.length := by omega
        have b2 : i * 5 + 2 < cs.length := by omega
        have b3 : i * 5 + 3 < cs.length := by omega
        have c1 : cs[i * 5 + 1] = .v (.string (tx d.id)) := (List.getElem?_eq_some_iff.1 g1).2
        have c2 : cs[i * 5 + 2] = .v (.string (tx d.text)) := (List.getElem?_eq_some_iff.1 g2).2
        have c3 : cs[i * 5 + 3] = .v (.int .i64 d.ts) := (List.getElem?_eq_some_iff.1 g3).2
        obtain ⟨R', hR', hstep⟩ := back_step hd hR
        rw [e0]
        simp [ev_skip, ev_seq, ev_cond2, ev_block, ev_region2, ev_loop, loopK, evOps_nil, evOps_cons, opG_none, opA_move, opA_assign, opA_bin, putO_some, putH_lt, condB_true, binT_some, binA, avO_some, io_geq, opS, opV, Go.Mx.look, seqK, Fr.known, mapO, headK, getV, getB, chkP, mkFr, slotsOf, ptrsOf, boxesOf, firstReg, orO_some, eqT_some, tk3, hge]
        refine LoopC.intro (fun n xs _ H4 => Or3 H3 l cs q lim a b i d n xs H4) i ⟨0, by omega, by omega, by simp, rfl⟩ ?_
        rintro n xs bs H4 ⟨k, hk, rfl, rfl, rfl⟩
        by_cases hki : k < i
        · obtain ⟨e, he⟩ : ∃ e, l[k]? = some e := ⟨_, List.getElem?_eq_getElem (by omega)⟩
          obtain ⟨_, k1, _, _, _⟩ := dg he
          have hki' : (k : Int) < (i : Int) := by omega
          have hkl : k < l.length := by omega
          have hkl' : (k : Int) < (l.length : Int) := by omega
          have wk : IntKind.i64.wrap ((k : Int) + 1) = (k : Int) + 1 := wr_i64 (by omega)
          have kb : k * 5 + 1 < cs.length := by omega
          have kc : cs[k * 5 + 1] = .v (.string (tx e.id)) := (List.getElem?_eq_some_iff.1 k1).2
          have htk : (l.take (k + 1)).map (·.id) = (l.take k).map (·.id) ++ [e.id] := by rw [List.take_add_one, he]; simp
          by_cases hcur : d.id ∈ (l.take k).map (·.id)
          · have hd1 : decide (d.id ∉ (l.take k).map (·.id)) = false := by simpa using hcur
            have hd2 : decide (d.id ∉ (l.take (k + 1)).map (·.id)) = false := by
              rw [htk]; simp only [decide_eq_false_iff_not, Classical.not_not]; exact List.mem_append_left _ hcur
            rw [hd1]
            simp [ev_skip, ev_seq, ev_cond2, ev_block, ev_region2, evOps_nil, evOps_cons, opG_none, opG_some, opJ, opU_ft, isU_bool, opA_move, opA_assign, opA_pick, opA_bin, putO_some, putH_lt, putV_lt, condB_true, condB_false, binT_some, binA, avO_some, pickT, io_add, io_lss, opS, opV, Go.Mx.look, seqK, blockK, Fr.known, mapO, headK, getV, getB, chkP, mkFr, slotsOf, ptrsOf, boxesOf, orO_some, eqT_some, ev_draw, drawK, evP_nil, evP_q, evP_s, opAt_some, chkK_eq, allQ_nil, tk3, hki', wk]
            exact ⟨i - (k + 1), by omega, k + 1, by omega, rfl, by rw [hd2]; simp, rfl⟩
          · have hd1 : decide (d.id ∉ (l.take k).map (·.id)) = true := by simpa using hcur
            rw [hd1]
            by_cases hei : e.id = d.id
            · have hd2 : decide (d.id ∉ (l.take (k + 1)).map (·.id)) = false := by
                rw [htk]; simp only [decide_eq_false_iff_not, Classical.not_not]; exact List.mem_append_right _ (by simp [hei])
              simp [ev_skip, ev_seq, ev_cond2, ev_block, ev_region2, evOps_nil, evOps_cons, opG_none, opG_some, opJ, opU_ft, isU_bool, opK_eq, opA_move, opA_assign, opA_pick, opA_bin, opA_load, opA_indexAddr, opA_fieldAddr, putO_some, putH_lt, condB_true, binT_some, binA, avO_some, pickT, loadT, fieldAddrT, indexAddrT, io_add, io_lss, strOp, opS, opV, Go.Mx.look, seqK, blockK, Fr.known, mapO, partA, loadA, loadS, plusS, indexAddrA, headK, getV, getB, chkP, mkFr, slotsOf, ptrsOf, boxesOf, orO_some, eqT_some, ev_draw, drawK, evP_nil, evP_q, evP_s, opAt_some, chkK_eq, allQ_nil, tk3, sz9, ag9, tk9, Tryd.underlying27, sz34, Tryd.underlying34, tx_list, hki', hkl', hlt', kb, kc, b1, c1, wk, hei]
              exact ⟨i - (k + 1), by omega, k + 1, by omega, rfl, by rw [hd2]; simp, rfl⟩
            · have hd2 : decide (d.id ∉ (l.take (k + 1)).map (·.id)) = true := by
                rw [htk]; simp only [decide_eq_true_eq, List.mem_append, List.mem_singleton, not_or]; exact ⟨hcur, fun h => hei h.symm⟩
              simp [ev_skip, ev_seq, ev_cond2, ev_block, ev_region2, evOps_nil, evOps_cons, opG_none, opG_some, opJ, opU_ft, isU_bool, opK_eq, opA_move, opA_assign, opA_pick, opA_bin, opA_load, opA_indexAddr, opA_fieldAddr, putO_some, putH_lt, condB_true, binT_some, binA, avO_some, pickT, loadT, fieldAddrT, indexAddrT, io_add, io_lss, strOp, opS, opV, Go.Mx.look, seqK, blockK, Fr.known, mapO, partA, loadA, loadS, plusS, indexAddrA, headK, getV, getB, chkP, mkFr, slotsOf, ptrsOf, boxesOf, orO_some, eqT_some, ev_draw, drawK, evP_nil, evP_q, evP_s, opAt_some, chkK_eq, allQ_nil, tk3, sz9, ag9, tk9, Tryd.underlying27, sz34, Tryd.underlying34, tx_list, hki', hkl', hlt', kb, kc, b1, c1, wk]
              exact ⟨i - (k + 1), by omega, k + 1, by omega, rfl, by rw [hd2]; simp; exact hei, rfl⟩
        · have hkk : k = i := by omega
          subst hkk
          by_cases hcur : d.id ∈ (l.take k).map (·.id)
          · have hd1 : decide (d.id ∉ (l.take k).map (·.id)) = false := by simpa using hcur
            rw [if_pos hcur] at hstep
            rw [hd1]
            simp [ev_skip, ev_seq, ev_cond2, ev_exit, ev_region2, evOps_nil, evOps_cons, opG_none, opA_move, opA_assign, opA_bin, putO_some, putH_lt, condB_false, binT_some, binA, avO_some, io_sub, io_lss, opS, opV, Go.Mx.look, seqK, blockK, Fr.known, mapO, headK, getV, getB, chkP, mkFr, slotsOf, ptrsOf, boxesOf, orO_some, eqT_some, tk3, w1]
            exact ⟨k, by omega, k, R', fp, fq, by omega, rfl, by simp, by rw [← hstep]; exact htwo, hR', hT3⟩
          · have hd1 : decide (d.id ∉ (l.take k).map (·.id)) = true := by simpa using hcur
            rw [if_neg hcur] at hstep
            rw [hd1]
            have hRl : R.length ≤ 50 := by
              have h1 := addsL_len l
              rw [hR, List.length_append] at h1
              omega
            simp [ev_seq, ev_cond2, ev_exit, ev_region2, evOps_nil, evOps_cons, opG_none, opA_move, opA_bin, opA_load, opA_indexAddr, opA_fieldAddr, opA_call, putO_some, putH_lt, condB_true, condB_false, binT_some, binA, avO_some, loadT, fieldAddrT, indexAddrT, io_lss, opS, opV, Go.Mx.look, seqK, blockK, Fr.known, mapO, callA, partA, loadA, loadS, plusS, indexAddrA, mkFr, slotsOf, ptrsOf, boxesOf, orO_some, eqT_some, ev_draw, drawK, evP_q, evP_s, opAt_some, sz2, ag2, tk3, sz9, ag9, Tryd.underlying27, sz34, Tryd.underlying34, ok15, hlt', b1, c1, b2, c2, b3, c3]
            refine add_sp (txD d) H4 _ htwo.2.1 hT3 (by omega) (by simp; omega) (by have := hfd.2; simp [txD]; omega) (fun H5 fq5 hq5 hs5 hf5 => ?_)
            simp [ev_region2, evOps_nil, evOps_cons, opG_none, opA_move, opA_assign, opA_bin, putO_some, putH_lt, putC_lt, binT_some, binA, avO_some, io_sub, opS, opV, Go.Mx.look, seqK, blockK, mapO, headK, getV, getB, chkP, orO_some, eqT_some, evP_nil, chkK_eq, allQ_nil, tk3, w1]
            exact ⟨k, by omega, k, R', fp, fq5, by omega, rfl, by simp, by rw [← hstep]; exact htwo.right hq5 hs5 hf5, hR', htwo.2.1.tb hT3 hs5⟩
  · have hq' : (100 : Int) < (q.length : Int) := by omega
    have hsz : (tx q).size = q.length := tx_size q
    simp [ev_seq, ev_cond2, ev_ret, ev_region2, evOps_nil, evOps_cons, opG_none, opG_some, opJ, opU_ff, isU_bool, opK_eq, opA_move, opA_assign, opA_pick, opA_bin, opA_un, opA_len, putO_some, putH_lt, putC_lt, condB_true, condB_false, binT_some, binA, avO_some, pickT, unT, lenT_str, io_gtr, opS, opV, Go.Mx.look, seqK, Fr.known, retK, retA, resA, mapO, unA, orO_some, eqT_some, tk3, Tryd.underlying9, hsz, hq']
end Go.Proofs.YtoakdmkjlpjahaaDoor

namespace Go.Proofs.YtoakdmkjlpjahaaDoor
open Go.Mx
theorem order_law (l : List De) (s : ByteArray) (_ : s.size ≤ 140737488351232) (lim : Int) (_ : (Lit.int IntKind.i64 lim).wf = true) : Sp Tryd.prog 4 [rowD l, .v (.string s), .v (.int .i64 lim)] (fun v _ => v = .v (.bool true)) [.tab 0 firstT, .tab 1 acceptT] :=
  order_sp l (txOf s) lim _ tb_tabs
end Go.Proofs.YtoakdmkjlpjahaaDoor
