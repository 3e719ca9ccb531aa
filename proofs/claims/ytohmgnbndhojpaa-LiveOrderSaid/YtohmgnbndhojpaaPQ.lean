import Derived.Test.YtohmgnbndhojpaaPH
namespace Go.Proofs.Ytohmgnbndhojpaa
set_option linter.unusedVariables false

/-! ### LiveOrder: plain -/
theorem counts_irrefl (a : Sg) : countsS a a = false := by simp [countsS]
theorem counts_iff {a b : Sg} : countsS a b = true ↔ b.at_ < a.at_ ∨ (a.at_ = b.at_ ∧ (b.kind < a.kind ∨ (a.kind = b.kind ∧ b.till < a.till))) := by
  unfold countsS
  by_cases e1 : a.at_ = b.at_ <;> by_cases e2 : a.kind = b.kind <;> simp [e1, e2] <;> omega
theorem counts_not {a b : Sg} : countsS a b = false ↔ a.at_ < b.at_ ∨ (a.at_ = b.at_ ∧ (a.kind < b.kind ∨ (a.kind = b.kind ∧ a.till ≤ b.till))) := by
  rw [← Bool.not_eq_true, counts_iff]
  omega
theorem counts_ntrans {a b c : Sg} (h : countsS a b = false) (k : countsS b c = false) : countsS a c = false := by
  rw [counts_not] at *
  omega
theorem counts_eq {a b : Sg} (h : countsS a b = false) (k : countsS b a = false) (hk : keyS a = keyS b) : a = b := by
  rw [counts_not] at *
  have hu : a.user = b.user := congrArg Prod.fst hk
  have h1 : a.at_ = b.at_ := by omega
  have h2 : a.kind = b.kind := by omega
  have h3 : a.till = b.till := by omega
  obtain ⟨au, ak, aa, at'⟩ := a
  obtain ⟨bu, bk, ba, bt⟩ := b
  simp only at hu h1 h2 h3
  rw [hu, h1, h2, h3]
/-- The best of its key. -/
def Best (l : List Sg) (o : Sg) : Prop := o ∈ l ∧ rightS o = true ∧ ∀ x ∈ l, rightS x = true → keyS x = keyS o → countsS x o = false
theorem board_all (l : List Sg) : Srt (boardL l) ∧ (∀ o, o ∈ boardL l ↔ Best l o) ∧ ∀ x ∈ l, rightS x = true → ∃ o ∈ boardL l, keyS o = keyS x ∧ countsS x o = false := by
  have key : ∀ n (l : List Sg), l.length = n → Srt (boardL l) ∧ (∀ o, o ∈ boardL l ↔ Best l o) ∧ ∀ x ∈ l, rightS x = true → ∃ o ∈ boardL l, keyS o = keyS x ∧ countsS x o = false := by
    intro n
    induction n with
    | zero =>
      intro l hl
      obtain rfl : l = [] := List.eq_nil_of_length_eq_zero hl
      exact ⟨List.Pairwise.nil, fun o => by simp [boardL, Best], by simp⟩
    | succ n ih =>
      intro l hl
      have hne : l ≠ [] := fun e => by subst e; simp at hl
      obtain ⟨l', s, rfl⟩ : ∃ l' s, l = l' ++ [s] := ⟨l.dropLast, l.getLast hne, (List.dropLast_concat_getLast hne).symm⟩
      obtain ⟨hS, hB, hE⟩ := ih l' (by simp at hl; exact hl)
      rw [boardL_app]
      unfold putR
      by_cases hr : rightS s = true
      · rw [if_pos hr]
        by_cases ho : oldS (boardL l') s = true
        · have hput : putL (boardL l') s = boardL l' := by unfold putL; rw [if_pos ho]
          rw [hput]
          obtain ⟨o0, hf0, hc0⟩ := (oldS_iff hS).1 ho
          obtain ⟨hm0, hk0⟩ := (fK_iff hS).1 hf0
          refine ⟨hS, fun o => ⟨fun h => ?_, fun h => ?_⟩, fun x hx hrx => ?_⟩
          · obtain ⟨b1, b2, b3⟩ := (hB o).1 h
            refine ⟨by simp [b1], b2, fun x hx hrx hkx => ?_⟩
            rcases List.mem_append.1 hx with hx | hx
            · exact b3 x hx hrx hkx
            · obtain rfl : x = s := by simpa using hx
              have : o = o0 := hS.uniq h hm0 (by rw [hk0, hkx])
              rw [this]; exact hc0
          · obtain ⟨b1, b2, b3⟩ := h
            have hmax : ∀ x ∈ l', rightS x = true → keyS x = keyS o → countsS x o = false := fun x hx => b3 x (by simp [hx])
            rcases List.mem_append.1 b1 with b1 | b1
            · exact (hB o).2 ⟨b1, b2, hmax⟩
            · obtain rfl : o = s := by simpa using b1
              obtain ⟨c1, c2, c3⟩ := (hB o0).1 hm0
              have := counts_eq hc0 (hmax o0 c1 c2 hk0) hk0.symm
              rw [this]; exact hm0
          · rcases List.mem_append.1 hx with hx | hx
            · exact hE x hx hrx
            · obtain rfl : x = s := by simpa using hx
              exact ⟨o0, hm0, hk0, hc0⟩
        · have hput : putL (boardL l') s = insG s false (boardL l') := by unfold putL; rw [if_neg ho]
          rw [hput]
          have hnew : ∀ o ∈ boardL l', keyS o = keyS s → countsS s o = true := fun o hm hk => by
            cases hc : countsS s o with
            | true => rfl
            | false => exact absurd ((oldS_iff hS).2 ⟨o, (fK_iff hS).2 ⟨hm, hk⟩, hc⟩) ho
          have hbest : ∀ x ∈ l', rightS x = true → keyS x = keyS s → countsS x s = false := fun x hx hrx hkx => by
            obtain ⟨o, hm, hk, hc⟩ := hE x hx hrx
            have h1 := hnew o hm (by rw [hk, hkx])
            rw [counts_iff] at h1
            rw [counts_not] at hc ⊢
            omega
          refine ⟨hS.ins s, fun o => ?_, fun x hx hrx => ?_⟩
          · rw [mem_ins]
            constructor
            · rintro (rfl | ⟨h, hl⟩)
              · refine ⟨by simp, hr, fun x hx hrx hkx => ?_⟩
                rcases List.mem_append.1 hx with hx | hx
                · exact hbest x hx hrx hkx
                · obtain rfl : x = o := by simpa using hx
                  exact counts_irrefl x
              · obtain ⟨b1, b2, b3⟩ := (hB o).1 h
                refine ⟨by simp [b1], b2, fun x hx hrx hkx => ?_⟩
                rcases List.mem_append.1 hx with hx | hx
                · exact b3 x hx hrx hkx
                · obtain rfl : x = s := by simpa using hx
                  exact absurd hkx (like_iff'.1 hl)
            · rintro ⟨b1, b2, b3⟩
              by_cases hos : o = s
              · exact .inl hos
              · right
                have hol : o ∈ l' := by
                  rcases List.mem_append.1 b1 with h | h
                  · exact h
                  · exact absurd (by simpa using h) hos
                have hob : o ∈ boardL l' := (hB o).2 ⟨hol, b2, fun x hx => b3 x (by simp [hx])⟩
                refine ⟨hob, like_iff'.2 (fun hk => ?_)⟩
                have h1 := hnew o hob hk.symm
                rw [b3 s (by simp) hr hk] at h1; simp at h1
          · rcases List.mem_append.1 hx with hx | hx
            · by_cases hk : keyS x = keyS s
              · exact ⟨s, (mem_ins s s _).2 (.inl rfl), hk.symm, hbest x hx hrx hk⟩
              · obtain ⟨o, h1, h2, h3⟩ := hE x hx hrx
                exact ⟨o, (mem_ins s o _).2 (.inr ⟨h1, like_iff'.2 (fun e => hk (by rw [← h2, e]))⟩), h2, h3⟩
            · obtain rfl : x = s := by simpa using hx
              exact ⟨x, (mem_ins x x _).2 (.inl rfl), rfl, counts_irrefl x⟩
      · rw [if_neg hr]
        refine ⟨hS, fun o => ?_, fun x hx hrx => ?_⟩
        · rw [hB]
          constructor
          · rintro ⟨b1, b2, b3⟩
            refine ⟨by simp [b1], b2, fun x hx hrx hkx => ?_⟩
            rcases List.mem_append.1 hx with hx | hx
            · exact b3 x hx hrx hkx
            · obtain rfl : x = s := by simpa using hx
              exact absurd hrx hr
          · rintro ⟨b1, b2, b3⟩
            refine ⟨?_, b2, fun x hx => b3 x (by simp [hx])⟩
            rcases List.mem_append.1 b1 with h | h
            · exact h
            · obtain rfl : o = s := by simpa using h
              exact absurd b2 hr
        · rcases List.mem_append.1 hx with hx | hx
          · exact hE x hx hrx
          · obtain rfl : x = s := by simpa using hx
            exact absurd hrx hr
  exact key _ l rfl
theorem merge_board {l M : List Sg} (hM : ∀ s ∈ M, rightS s = true) : mergeL (boardL l) M = boardL (l ++ M) := by
  unfold mergeL boardL
  rw [List.foldl_append]
  generalize l.foldl putR [] = A
  induction M generalizing A with
  | nil => rfl
  | cons s r ih =>
    simp only [List.foldl_cons]
    rw [ih (fun x hx => hM x (by simp [hx]))]
    congr 1
    unfold putR
    rw [if_pos (hM s (by simp))]
theorem order_eq (l m all : List Sg) (hall : ∀ o, o ∈ all ↔ o ∈ l ∨ o ∈ m) : mergeL (boardL l) (boardL m) = boardL all := by
  obtain ⟨hS, hB, hE⟩ := board_all m
  rw [merge_board (fun s hs => ((hB s).1 hs).2.1)]
  obtain ⟨h1, h2, h3⟩ := board_all (l ++ boardL m)
  obtain ⟨k1, k2, k3⟩ := board_all all
  refine Srt.eq h1 k1 (fun o => ?_)
  rw [h2, k2]
  constructor
  · rintro ⟨b1, b2, b3⟩
    refine ⟨(hall o).2 ?_, b2, fun x hx hrx hkx => ?_⟩
    · rcases List.mem_append.1 b1 with h | h
      · exact .inl h
      · exact .inr ((hB o).1 h).1
    · rcases (hall x).1 hx with h | h
      · exact b3 x (by simp [h]) hrx hkx
      · obtain ⟨o1, q1, q2, q3⟩ := hE x h hrx
        exact counts_ntrans q3 (b3 o1 (by simp [q1]) ((hB o1).1 q1).2.1 (by rw [q2, hkx]))
  · rintro ⟨b1, b2, b3⟩
    have hl : ∀ x ∈ l ++ boardL m, x ∈ all := fun x hx => by
      rcases List.mem_append.1 hx with h | h
      · exact (hall x).2 (.inl h)
      · exact (hall x).2 (.inr ((hB x).1 h).1)
    refine ⟨?_, b2, fun x hx => b3 x (hl x hx)⟩
    rcases (hall o).1 b1 with h | h
    · simp [h]
    · exact List.mem_append.2 (.inr ((hB o).2 ⟨h, b2, fun x hx => b3 x ((hall x).2 (.inr hx))⟩))
theorem merge_again {l M : List Sg} (hM : ∀ s ∈ M, rightS s = true) : mergeN (mergeL (boardL l) M) M = 0 := by
  rw [merge_board hM]
  obtain ⟨h1, h2, h3⟩ := board_all (l ++ M)
  have hold : ∀ s ∈ M, oldS (boardL (l ++ M)) s = true := fun s hs => by
    obtain ⟨o, q1, q2, q3⟩ := h3 s (by simp [hs]) (hM s hs)
    exact (oldS_iff h1).2 ⟨o, (fK_iff h1).2 ⟨q1, q2⟩, q3⟩
  generalize boardL (l ++ M) = X at hold
  clear h1 h2 h3 hM
  induction M with
  | nil => rfl
  | cons s r ih =>
    have hs := hold s (by simp)
    have hp : putL X s = X := by unfold putL; rw [if_pos hs]
    simp only [mergeN, hs, hp]
    rw [ih (fun x hx => hold x (by simp [hx]))]
    rfl
theorem merge_same {X M : List Sg} (h : mergeN X M = 0) : mergeL X M = X := by
  induction M with
  | nil => rfl
  | cons s r ih =>
    simp only [mergeN] at h
    have hs : oldS X s = true := by
      cases ho : oldS X s with
      | true => rfl
      | false => rw [ho] at h; simp at h
    have hp : putL X s = X := by unfold putL; rw [if_pos hs]
    rw [hp] at h
    unfold mergeL
    rw [List.foldl_cons, hp]
    exact ih (by omega)
end Go.Proofs.Ytohmgnbndhojpaa

namespace Go.Proofs.Ytohmgnbndhojpaa
open Go.Mx
set_option linter.unusedVariables false
set_option linter.unusedSimpArgs false

def dupR (l : List Sg) : List Sg := l.reverse.flatMap (fun s => [s, s])
theorem dupR_cons (s : Sg) (l : List Sg) : dupR (s :: l) = dupR l ++ [s, s] := by simp [dupR]
theorem dupR_len (l : List Sg) : (dupR l).length = 2 * l.length := by
  induction l with
  | nil => rfl
  | cons s r ih => rw [dupR_cons, List.length_append, ih]; simp; omega
theorem dupR_mem (l : List Sg) (o : Sg) : o ∈ dupR l ↔ o ∈ l := by
  induction l with
  | nil => simp [dupR]
  | cons s r ih => rw [dupR_cons, List.mem_append, ih]; simp [or_comm]
/-- A row that was made. -/
theorem boardK_sp (v : AV) (A : List Sg) (H : Hp) (Q : AV → Hp → Prop) (hv : NewK 4 [] H A.length (A.flatMap sgC) v) (hf : A.length ≤ 1000 ∧ ∀ s ∈ A, s.user.size ≤ 100)
    (h : ∀ b H' fp, BdAt H' b (boardL A) fp → Same (slId v) H H' → (∀ j ∈ fp, H.length ≤ j) → Q (.ptr b 0 0) H') : Sp Try.prog 10 [v] Q H := by
  rcases hv with ⟨h1, h2, rfl⟩ | ⟨h0, h1, id, ver, tl, rfl, hid, _⟩
  · obtain rfl : A = [] := by simpa using h1
    refine Sp.argW (args' := [.row false 0 []]) ⟨Wk.nil false, trivial⟩ ?_
    exact board_sp0 false [] H Q hf (fun b H' fp q1 q2 q3 => h b H' fp q1 (q2.wide (by simp)) q3)
  · refine Sp.frzArgs hid ?_
    have e : (A.flatMap sgC ++ tl).take (A.length * 4) = A.flatMap sgC := by rw [← h1]; simp
    have e2 : [AV.sl id ver 4 0 A.length].map (Go.Mx.frz id ver (A.flatMap sgC ++ tl)) = [.row false A.length (A.flatMap sgC)] := by
      simp only [List.map_cons, List.map_nil, Go.Mx.frz, Go.Mx.frz2, Go.Mx.frz1]
      rw [if_pos ⟨trivial, trivial, by rw [List.length_append, h1]; omega⟩, List.drop_zero, e]
    rw [e2]
    refine board_sp0 false A _ Q hf (fun b H' fp q1 q2 q3 => h b H' fp q1 ?_ (fun j hj => by simpa using q3 j hj))
    have hs : Same [id] H (H.set id .dead) := Same.set (by simp)
    exact hs.trans (Same.wide (fp' := [id]) q2 (by simp)) (fun j hj => .inl (by simpa [slId] using hj))
def OrInv1 (l m : List Sg) (n : Nat) (xs : List AV) (H2 : Hp) : Prop :=
  ∃ (k : Nat) (v : AV), k ≤ m.length ∧ n = k ∧ xs = [rowG l, rowG m, v, .v (.int .i64 ((k : Int) - 1))] ∧ NewK 4 [] H2 (dupR (m.drop k)).length ((dupR (m.drop k)).flatMap sgC) v
def OrInv2 (l m : List Sg) (n : Nat) (xs : List AV) (H2 : Hp) : Prop :=
  ∃ (k : Nat) (v : AV), k ≤ l.length ∧ n = k ∧ xs = [rowG l, rowG m, v, .v (.int .i64 ((k : Int) - 1))] ∧ NewK 4 [] H2 (dupR m ++ (l.drop k).reverse).length ((dupR m ++ (l.drop k).reverse).flatMap sgC) v
theorem drop_pred {α : Type} {l : List α} {k : Nat} {s : α} (hx : l[k]? = some s) : l.drop k = s :: l.drop (k + 1) := by
  obtain ⟨h1, h2⟩ := List.getElem?_eq_some_iff.1 hx
  rw [List.drop_eq_getElem_cons h1, h2]
set_option maxRecDepth 20000 in
set_option maxHeartbeats 4000000 in
theorem order_law (l m : List Sg) : Sp Try.prog 5 [rowG l, rowG m] (fun v _ => v = .v (.bool true)) [] := by
  refine Sp.body [(5, ⟨[0, 1, 5, 6], [], []⟩), (9, ⟨[0, 1, 5, 7], [], []⟩)] ⟨[], [], pl5⟩ tb5 mo Try.func5 rfl (Nat.le_of_ble_eq_true rfl) (by kernel_rfl) ?_
  simp [ev_seq, ev_region2, evOps_nil, evOps_cons, opG_none, opA_move, opA_assign, opA_call, putO_some, putH_lt, opS, opV, Go.Mx.look, fr0, argSlots, seqK, mapO, callA, ok9, pl5, rowG]
  refine few_sp l false _ _ (fun hl => ?_) (fun _ => by simp [ev_seq, ev_cond2, ev_ret, ev_region2, evOps_nil, evOps_cons, opG_none, opG_some, opJ, opU_ff, isU_bool, opA_move, opA_assign, opA_pick, opA_un, putO_some, putH_lt, putC_lt, putV_lt, condB_true, pickT, unT, opS, opV, Go.Mx.look, seqK, Fr.known, retK, retA, resA, mapO, unA])
  simp [evOps_cons, opG_none, opG_some, opJ, opU_ff, isU_bool, opK_eq, opA_move, opA_un, opA_call, putO_some, putH_lt, putC_lt, condB_false, unT, opS, opV, Go.Mx.look, Fr.known, mapO, unA, callA, ok9]
  refine few_sp m false _ _ (fun hm => ?_) (fun _ => by simp [ev_seq, ev_cond2, ev_ret, ev_region2, evOps_nil, evOps_cons, opG_none, opG_some, opJ, opU_ff, isU_bool, opK_eq, opA_assign, opA_pick, opA_un, putO_some, putH_lt, putC_lt, condB_true, condB_false, pickT, unT, opS, opV, Go.Mx.look, seqK, Fr.known, retK, retA, resA, mapO, unA])
  have hl1 := hl.1
  have hm1 := hm.1
  have w0 : IntKind.i64.wrap ((m.length : Int) - 1) = (m.length : Int) - 1 := wr_i64 (by omega)
  simp [ev_skip, ev_seq, ev_cond2, ev_block, ev_region2, ev_loop, loopK, evOps_nil, evOps_cons, opG_none, opG_some, opJ, opU_ff, isU_bool, opK_eq, opA_move, opA_assign, opA_pick, opA_bin, opA_un, opA_len, putO_some, putH_lt, putC_lt, condB_false, binT_some, binA, avO_some, pickT, unT, lenT_row, io_sub, opS, opV, Go.Mx.look, seqK, Fr.known, mapO, unA, headK, getV, getB, chkP, firstReg, orO_some, eqT_some, tk3, Try.underlying22, w0]
  refine LoopC.intro (fun n xs _ H2 => OrInv1 l m n xs H2) m.length ⟨m.length, .v (.slice none 0 0), by omega, by omega, by simp [rowG], by simp [dupR]; exact NewK.nil _ _ _⟩ ?_
  rintro n xs bs H2 ⟨k, v, hk, rfl, rfl, hv⟩
  simp [ev_skip, ev_seq, ev_cond2, ev_block, ev_exit, ev_region2, ev_loop, loopK, evOps_nil, evOps_cons, opG_none, opA_move, opA_assign, opA_bin, opA_indexAddr, opA_len, putO_some, putH_lt, binT_some, binA, avO_some, lenT_row, indexAddrT, io_sub, io_geq, opS, opV, Go.Mx.look, seqK, blockK, Fr.known, mapO, indexAddrA, headK, getV, getB, chkP, mkFr, slotsOf, ptrsOf, boxesOf, firstReg, orO_some, eqT_some, ev_draw, drawK, evP_q, opAt_some, tk3, Try.underlying22, sz29, rowG]
  refine ⟨fun hlt => ?_, fun hge => ?_⟩
  · obtain ⟨k, rfl⟩ : ∃ j, n = j + 1 := ⟨n - 1, by omega⟩
    have hlt2 : k < m.length := by omega
    have hx := List.getElem?_eq_getElem hlt2
    generalize m[k] = s at hx
    have hsl := flat_sub sgC_len m k hx
    have hle : k * 4 + 4 ≤ (List.map (fun a : Sg => 4) m).sum := flat_le2 sgC_len hx
    have hdr := drop_pred hx
    have hd1 : dupR (m.drop k) = dupR (m.drop (k + 1)) ++ [s, s] := by rw [hdr, dupR_cons]
    have hdl : (dupR (m.drop (k + 1))).length ≤ 120 := by rw [dupR_len, List.length_drop]; omega
    have w1 : IntKind.i64.wrap ((k : Int) - 1) = (k : Int) - 1 := wr_i64 (by omega)
    simp only [sgC] at hsl
    simp [opG_none, opA_move, opA_load, opA_indexAddr, opA_buildSlice, opA_append, putO_some, putH_lt, loadT, indexAddrT, buildSliceT, appendT, repeatL_2, opS, opV, Go.Mx.look, mapO, cellsA_agg, okPart_agg, partA, loadA, loadS, indexAddrA, fillA, bindO, srcTy, evP_q, evP_s, opAt_some, st22, Try.underlying22, sz29, ag29, by29, ze29, hlt2, hsl, hle, sgC, show (1 : Int) ≤ (k : Int) + 1 by omega]
    refine hv.appM (by omega) (by simp) (by simp) (by omega) (fun v' H3 fp hv' hs' hfp => ?_)
    simp [ev_region2, evOps_nil, evOps_cons, opG_none, opA_move, opA_assign, opA_bin, putO_some, putH_lt, putC_lt, binT_some, binA, avO_some, io_sub, opS, opV, Go.Mx.look, seqK, blockK, mapO, headK, getV, getB, chkP, orO_some, eqT_some, evP_nil, evP_s, opAt_some, chkK_eq, allQ_nil, tk3, w1]
    exact ⟨k, by omega, k, v', by omega, rfl, by simp [rowG], by rw [hd1]; simpa [sgC] using hv'⟩
  · have hk0 : n = 0 := by omega
    subst hk0
    rw [List.drop_zero] at hv
    have w2 : IntKind.i64.wrap ((l.length : Int) - 1) = (l.length : Int) - 1 := wr_i64 (by omega)
    simp [w2]
    refine LoopC.intro (fun n xs _ H3 => OrInv2 l m n xs H3) l.length ⟨l.length, v, by omega, by omega, by simp [rowG], by simpa using hv⟩ ?_
    clear hv
    rintro n xs bs H3 ⟨k, v, hk, rfl, rfl, hv⟩
    simp [ev_skip, ev_seq, ev_cond2, ev_block, ev_exit, ev_region2, evOps_nil, evOps_cons, opG_none, opA_move, opA_bin, opA_indexAddr, opA_call, putO_some, putH_lt, binT_some, binA, avO_some, indexAddrT, io_geq, opS, opV, Go.Mx.look, seqK, blockK, Fr.known, mapO, callA, indexAddrA, mkFr, slotsOf, ptrsOf, boxesOf, orO_some, eqT_some, tk3, Try.underlying22, sz29, ok10, rowG]
    refine ⟨fun hlt => ?_, fun hge => ?_⟩
    · obtain ⟨k, rfl⟩ : ∃ j, n = j + 1 := ⟨n - 1, by omega⟩
      have hlt2 : k < l.length := by omega
      have hx := List.getElem?_eq_getElem hlt2
      generalize l[k] = s at hx
      have hsl := flat_sub sgC_len l k hx
      have hle : k * 4 + 4 ≤ (List.map (fun a : Sg => 4) l).sum := flat_le2 sgC_len hx
      have hdr := drop_pred hx
      have hd1 : dupR m ++ (l.drop k).reverse = dupR m ++ (l.drop (k + 1)).reverse ++ [s] := by rw [hdr]; simp
      have hdl : (dupR m ++ (l.drop (k + 1)).reverse).length ≤ 180 := by rw [List.length_append, dupR_len, List.length_reverse, List.length_drop]; omega
      have w1 : IntKind.i64.wrap ((k : Int) - 1) = (k : Int) - 1 := wr_i64 (by omega)
      simp only [sgC] at hsl
      simp [evOps_cons, opG_none, opA_load, opA_buildSlice, opA_append, putO_some, putH_lt, loadT, buildSliceT, appendT, repeatL_1, opS, opV, Go.Mx.look, mapO, cellsA_agg, okPart_agg, partA, loadA, loadS, fillA, bindO, srcTy, st22, Try.underlying22, sz29, ag29, by29, ze29, hlt2, hsl, hle, sgC, show (1 : Int) ≤ (k : Int) + 1 by omega]
      refine hv.app (by simp) (by simp) (by omega) (fun v' H4 fp hv' hs' hfp => ?_)
      simp [ev_region2, evOps_nil, evOps_cons, opG_none, opA_move, opA_assign, opA_bin, putO_some, putH_lt, putC_lt, binT_some, binA, avO_some, io_sub, opS, opV, Go.Mx.look, seqK, blockK, mapO, headK, getV, getB, chkP, orO_some, eqT_some, tk3, w1]
      exact ⟨k, by omega, k, v', by omega, rfl, by simp [rowG], by rw [hd1]; simpa [sgC, Nat.add_assoc] using hv'⟩
    · have hk0 : n = 0 := by omega
      subst hk0
      rw [List.drop_zero] at hv
      have hall : ∀ o, o ∈ dupR m ++ l.reverse ↔ o ∈ l ∨ o ∈ m := fun o => by rw [List.mem_append, dupR_mem, List.mem_reverse, or_comm]
      have hAl : (dupR m ++ l.reverse).length ≤ 180 := by rw [List.length_append, dupR_len, List.length_reverse]; omega
      have hAs : ∀ s ∈ dupR m ++ l.reverse, s.user.size ≤ 100 := fun s hs => by
        rcases (hall s).1 hs with h | h
        · exact hl.2 s h
        · exact hm.2 s h
      have heq := order_eq l m _ hall
      generalize dupR m ++ l.reverse = A at hv hall hAl hAs heq
      have hLl : (boardL l).length ≤ 60 := Nat.le_trans (boardL_len l) hl1
      have hMl : (boardL m).length ≤ 60 := Nat.le_trans (boardL_len m) hm1
      have hAb : (boardL A).length ≤ 180 := Nat.le_trans (boardL_len A) hAl
      have hMo : OkL (boardL m) := boardL_ok hm.2
      have hAo : OkL (boardL A) := boardL_ok hAs
      have hMr : ∀ s ∈ boardL m, rightS s = true := fun s hs => (hMo.2 s hs).1
      have hag := merge_again (l := l) hMr
      have hle := mergeN_le (boardL l) (boardL m)
      simp
      refine board_sp false l H3 _ hl (fun a H4 fa ha hs4 hfa => ?_)
      simp [evOps_cons, opG_none, opA_move, opA_call, putO_some, putH_lt, putC_lt, opS, opV, Go.Mx.look, mapO, callA, ok10]
      refine board_sp false m H4 _ hm (fun b H5 fb hb hs5 hfb => ?_)
      have hv5 := (hv.same hs4 (by simp)).same hs5 (by simp)
      have hvid : ∀ j ∈ slId v, j < H3.length := fun j hj => by
        rcases hv with ⟨_, _, rfl⟩ | ⟨_, _, id, ver, tl, rfl, h3, _⟩
        · simp [slId] at hj
        · simp [slId] at hj; subst hj; exact Hp.lt h3
      have hal := ha.lt
      have ha5 := ha.same hs5 (by simp)
      have hdis : ∀ j ∈ fb, j ∉ fa := fun j hj hj2 => by have := hal j hj2; have := hfb j hj; omega
      simp [ev_seq, ev_region2, evOps_nil, evOps_cons, opG_none, opA_move, opA_assign, opA_call, putO_some, putH_lt, putC_lt, opS, opV, Go.Mx.look, seqK, mapO, callA, ok18]
      refine merge_sp a _ _ fa _ H5 _ ha5 hb.v (by omega) (fun H6 ha6 hs6 => ?_) hMo
      have hb6 := hb.same hs6 hdis
      have hv6 := hv5.same hs6 (fun id ver e => fun h => by have := hvid id (by rw [e]; simp [slId]); have := hfa id h; omega)
      simp [ev_seq, ev_region2, evOps_nil, evOps_cons, opG_none, opA_move, opA_assign, opA_call, putO_some, putH_lt, putC_lt, opS, opV, Go.Mx.look, seqK, mapO, callA, ok18]
      refine merge_sp a _ _ fa _ H6 _ ha6 hb6.v (by omega) (fun H7 ha7 hs7 => ?_) hMo
      have hb7 := hb6.same hs7 hdis
      have hv7 := hv6.same hs7 (fun id ver e => fun h => by have := hvid id (by rw [e]; simp [slId]); have := hfa id h; omega)
      have hM2 : mergeL (mergeL (boardL l) (boardL m)) (boardL m) = boardL A := by
        rw [heq]
        have := merge_again (l := l) hMr
        rw [heq] at this
        exact merge_same this
      rw [hag]
      rw [hM2] at ha7
      simp [ev_seq, ev_region2, evOps_nil, evOps_cons, opG_none, opA_move, opA_assign, opA_call, putO_some, putH_lt, putC_lt, opS, opV, Go.Mx.look, seqK, mapO, callA, ok11]
      refine all_sp _ _ H7 _ ha7.v (by omega) ?_
      simp [evOps_cons, opG_none, opA_move, opA_call, putO_some, putH_lt, putC_lt, opS, opV, Go.Mx.look, mapO, callA, ok10]
      refine boardK_sp v A H7 _ hv7 ⟨by omega, hAs⟩ (fun c H8 fc hc hs8 hfc => ?_)
      have hb8 := hb7.same hs8 (fun j hj hj2 => by have := hvid j hj2; have := hfb j hj; have := hs4.1; omega)
      simp [evOps_cons, opG_none, opA_call, putC_lt, opS, opV, Go.Mx.look, mapO, callA, ok11]
      refine all_sp _ _ H8 _ hc.v (by omega) ?_
      simp [evOps_cons, opG_none, opA_call, putC_lt, opS, opV, Go.Mx.look, mapO, callA, ok19]
      refine same_sp _ _ (boardL A) H8 _ (.inl ⟨false, rfl⟩) (.inl ⟨false, rfl⟩) hAo (by omega) ?_
      simp [evOps_cons, opG_none, opG_some, opJ, opU_ft, isU_bool, opK_eq, opA_move, opA_pick, opA_bin, opA_call, putO_some, putH_lt, putC_lt, condB_true, binT_some, binA, avO_some, pickT, io_eql, opS, opV, Go.Mx.look, Fr.known, mapO, callA, orO_some, eqT_some, tk3, ok11]
      refine all_sp _ _ H8 _ hb8.v (by omega) ?_
      simp [ev_ret, evOps_nil, evOps_cons, opG_none, opG_some, opJ, opU_ft, isU_bool, opK_eq, opA_move, opA_assign, opA_pick, opA_bin, opA_len, opA_call, putO_some, putH_lt, putC_lt, putV_lt, condB_true, binT_some, binA, avO_some, pickT, lenT_row, io_leq, opS, opV, Go.Mx.look, seqK, Fr.known, retK, retA, resA, mapO, callA, orO_some, eqT_some, tk3, Try.underlying22, ok12]
      refine ⟨fun _ => ?_, hle⟩
      refine awake_sp _ _ (fun H9 _ => ?_)
      simp [ev_ret, evOps_nil, evOps_cons, opG_none, opA_assign, opA_pick, putO_some, putH_lt, putC_lt, pickT, opS, opV, Go.Mx.look, seqK, retK, retA, resA, mapO]
end Go.Proofs.Ytohmgnbndhojpaa
