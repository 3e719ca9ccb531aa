import Derived.Test.YtamhmecfjkahdaaPM
namespace Go.Proofs.Ytamhmecfjkahdaa
open Go.Mx
set_option linter.unusedVariables false
set_option linter.unusedSimpArgs false
set_option linter.unnecessarySimpa false

theorem OwnS.appM {k n m : Nat} {H : Hp} {cs c : List AV} {v : AV} {x : Bool} {bytes : Nat} {K : AV → Hp → Prop} (h : OwnS k H n cs v) (hc : c.length = m * k) (hb : (n + m) * bytes ≤ 140737488355328 ∧ n + m ≤ 4611686018427387904)
    (hq : ∀ v' H', OwnS k H' (n + m) (cs ++ c) v' → Same (slId v) H H' → (slId v' = slId v ∨ slId v' = [H.length]) → K v' H') : appA H k bytes v (.row x m c) K := by
  by_cases hm : m = 0
  · subst hm
    have hc0 : c = [] := by simpa using hc
    subst hc0
    rcases h with ⟨rfl, rfl, rfl | rfl⟩ | ⟨h0, h1, id, ver, tl, rfl, h3⟩
    · have := hq _ H (.inl ⟨rfl, rfl, .inl rfl⟩) (Same.refl _ _) (.inl rfl)
      simp [appA, srcA]; exact this
    · have := hq _ H (.inl ⟨rfl, rfl, .inr rfl⟩) (Same.refl _ _) (.inl rfl)
      simp [appA, srcA]; exact this
    · have h5 := hq (.sl id (ver + 1) k 0 n) (H.set id (.cells (ver + 1) cs)) (.inr ⟨h0, by simpa using h1, id, ver + 1, [], by simp, by rw [List.getElem?_set_self (Hp.lt h3)]; simp⟩) (Same.set (by simp [slId])) (.inl rfl)
      simp [appA, srcA, h3]
      refine ⟨⟨by omega, hb.1, hb.2⟩, ?_⟩
      have e : (cs ++ tl).take (n * k) = cs := by rw [← h1]; simp
      rw [e]; exact h5
  · have new : K (.sl H.length 0 k 0 m) (H ++ [.cells 0 c]) ∨ n ≠ 0 ∨ True := .inr (.inr trivial)
    rcases h with ⟨rfl, rfl, rfl | rfl⟩ | ⟨h0, h1, id, ver, tl, rfl, h3⟩
    · have h1 := hq (.sl H.length 0 k 0 m) (H ++ [.cells 0 c]) (.inr ⟨by omega, by simp [hc], H.length, 0, [], by simp, by simp⟩) (Same.app _ _ _) (.inr rfl)
      simp at hb
      simp [appA, srcA, hb, hc, hm]
      exact h1
    · have h1 := hq (.sl H.length 0 k 0 m) (H ++ [.cells 0 c]) (.inr ⟨by omega, by simp [hc], H.length, 0, [], by simp, by simp⟩) (Same.app _ _ _) (.inr rfl)
      simp at hb
      simp [appA, srcA, hb, hc, hm]
      exact h1
    · have h5 := hq (.sl id (ver + 1) k 0 (n + m)) (H.set id (.cells (ver + 1) (cs ++ c))) (.inr ⟨by omega, by rw [List.length_append, h1, hc, Nat.add_mul], id, ver + 1, [], by simp, by rw [List.getElem?_set_self (Hp.lt h3)]; simp⟩) (Same.set (by simp [slId])) (.inl rfl)
      simp [appA, srcA, h3, hc]
      refine ⟨⟨by omega, hb.1, by omega⟩, ?_⟩
      have e : (cs ++ tl).take (n * k) = cs := by rw [← h1]; simp
      rw [e]; exact h5

/-! ### InboxAll -/
def tMe : ByteArray := ⟨#[64, 109, 101, 58, 115, 49]⟩
def tDD : ByteArray := ⟨#[68]⟩
def kMe : Ky := (tMe, tDD)
structure AlSt (H : Hp) (a : Nat) (S : St) (fp : List Nat) (v6 v7 : AV) (d : Dv) (told : List Pa) (t N : Nat) : Prop where
  po : PoAt H a S fp
  ok : StOk S N
  o6 : OwnS 5 H d.al.length (d.al.flatMap paC) v6
  o7 : OwnS 5 H told.length (told.flatMap paC) v7
  j6 : ∀ j ∈ slId v6, j ∉ fp ∧ j ∉ slId v7
  j7 : ∀ j ∈ slId v7, j ∉ fp
  fd : findD S kMe = some d
  sn : d.sn ≤ t
  tl : told = d.al.take t
  le : t ≤ d.al.length
section
variable {H H' : Hp} {a : Nat} {S S' : St} {fp fp' : List Nat} {v6 v7 : AV} {d d' : Dv} {told : List Pa} {t N N' : Nat}
theorem AlSt.step (h : AlSt H a S fp v6 v7 d told t N) (hp : PoAt H' a S' fp') (hs : Stp fp H H' fp') (hk : StOk S' N') (hf : findD S' kMe = some d') (hal : d'.al = d.al) (hsn : d'.sn ≤ t) : AlSt H' a S' fp' v6 v7 d' told t N' := by
  have n6 : ∀ j ∈ slId v6, j ∉ fp' := fun j hj hm => by
    have := h.o6.lt j hj
    rcases hs.2 j hm with h1 | h1
    · exact (h.j6 j hj).1 h1
    · omega
  have n7 : ∀ j ∈ slId v7, j ∉ fp' := fun j hj hm => by
    have := h.o7.lt j hj
    rcases hs.2 j hm with h1 | h1
    · exact h.j7 j hj h1
    · omega
  exact ⟨hp, hk, by rw [hal]; exact h.o6.same hs.1 (fun j hj => (h.j6 j hj).1), h.o7.same hs.1 h.j7, fun j hj => ⟨n6 j hj, (h.j6 j hj).2⟩, n7, hf, hsn, by rw [hal]; exact h.tl, by rw [hal]; exact h.le⟩
/-- Something is appended to what was told. -/
theorem AlSt.tell (h : AlSt H a S fp v6 v7 d told t N) {out : List Pa} {v' : AV} {u : Nat} (hs : Same (slId v7) H H') (ho : OwnS 5 H' (told.length + out.length) (told.flatMap paC ++ out.flatMap paC) v') (hid : slId v' = slId v7 ∨ slId v' = [H.length]) (ht : told ++ out = d.al.take u) (hu : u ≤ d.al.length) (htu : t ≤ u) : AlSt H' a S fp v6 v' d (told ++ out) u N := by
  have hlt := h.po.lt
  have n7 : ∀ j ∈ slId v', j ∈ slId v7 ∨ j = H.length := fun j hj => by
    rcases hid with e | e
    · rw [e] at hj; exact .inl hj
    · rw [e] at hj; simp at hj; exact .inr hj
  refine ⟨h.po.same hs (fun j hj hm => h.j7 j hm hj), h.ok, h.o6.same hs (fun j hj => (h.j6 j hj).2), by simpa using ho, fun j hj => ⟨(h.j6 j hj).1, fun hm => ?_⟩, fun j hj hm => ?_, h.fd, by have := h.sn; omega, ht, hu⟩
  · have := h.o6.lt j hj
    rcases n7 j hm with h1 | h1
    · exact (h.j6 j hj).2 h1
    · omega
  · have := hlt j hm
    rcases n7 j hj with h1 | h1
    · exact h.j7 j h1 hm
    · omega
theorem AlSt.mono (h : AlSt H a S fp v6 v7 d told t N) (hN : N ≤ N') : AlSt H a S fp v6 v7 d told t N' := ⟨h.po, h.ok.mono hN, h.o6, h.o7, h.j6, h.j7, h.fd, h.sn, h.tl, h.le⟩
/-- A parcel comes. -/
theorem AlSt.came (h : AlSt H a S fp v6 v7 d told t N) {x : Pa} {H4 : Hp} {v' : AV} (hp : PoAt H' a S' fp') (hs : Stp fp H H' fp') (hk : StOk S' N') (hf : findD S' kMe = some (push x d)) (ho : OwnS 5 H4 (d.al.length + 1) (d.al.flatMap paC ++ paC x) v') (hs4 : Same (slId v6) H' H4) (hid : slId v' = slId v6 ∨ slId v' = [H'.length]) : AlSt H4 a S' fp' v' v7 (push x d) told t N' := by
  have hlt := hp.lt
  have l6 := h.o6.lt
  have l7 := h.o7.lt
  have hl := hs.1.1
  have n6 : ∀ j ∈ slId v6, j ∉ fp' := fun j hj hm => by
    have := l6 j hj
    rcases hs.2 j hm with h1 | h1
    · exact (h.j6 j hj).1 h1
    · omega
  have n7 : ∀ j ∈ slId v7, j ∉ fp' := fun j hj hm => by
    have := l7 j hj
    rcases hs.2 j hm with h1 | h1
    · exact h.j7 j hj h1
    · omega
  have nv : ∀ j ∈ slId v', j ∈ slId v6 ∨ j = H'.length := fun j hj => by
    rcases hid with e | e
    · rw [e] at hj; exact .inl hj
    · rw [e] at hj; simp at hj; exact .inr hj
  refine ⟨hp.same hs4 (fun j hj hm => n6 j hm hj), hk, by simpa [push] using ho, (h.o7.same hs.1 h.j7).same hs4 (fun j hj hm => (h.j6 j hm).2 hj), fun j hj => ⟨fun hm => ?_, fun hm => ?_⟩, n7, hf, h.sn, ?_, by have := h.le; simp [push]; omega⟩
  · rcases nv j hj with h1 | h1
    · exact n6 j h1 hm
    · have := hlt j hm; omega
  · rcases nv j hj with h1 | h1
    · exact (h.j6 j h1).2 hm
    · have := l7 j hm; omega
  · rw [h.tl]
    simp only [push]
    rw [List.take_append_of_le_length h.le]
end
/-- What a poll with the number that was told last tells. -/
theorem poll_at {d : Dv} {t : Nat} (hs : d.sn ≤ t) (hl : t ≤ d.al.length) (limit : Int) : pollD d t = ⟨d.u, d.n, d.al, t⟩ ∧ pollO d t limit = (d.al.drop t).take (max 0 limit).toNat ∧ pollR d t limit = ((t + (pollO d t limit).length : Nat) : Int) := by
  have hN : pollN d t = t := by unfold pollN; omega
  have hD : pollD d t = ⟨d.u, d.n, d.al, t⟩ := by
    unfold pollD
    rw [hN]
    simp only [Dv.mk.injEq, true_and]; omega
  refine ⟨hD, by unfold pollO; rw [hD], ?_⟩
  unfold pollR
  split
  · rename_i h; rw [hN, h]; simp
  · rw [hD]
theorem find_enter {S : St} {u n : ByteArray} {k : Ky} {d : Dv} (h : findD S k = some d) : findD (enterS S u n) k = some d := by
  unfold enterS
  split
  · unfold findD at h ⊢
    rw [List.find?_append, h]; rfl
  · exact h
theorem find_send {S : St} {x : Pa} {k : Ky} {d : Dv} (h : findD S k = some d) (he : sendE S x = 0) : findD (sendS S x) k = some (if toB x d then push x d else d) := by
  unfold sendS
  rw [if_pos he]
  have := find_map (l := S.ds) (f := fun d => if toB x d then push x d else d) (fun d => by split <;> rfl) k
  unfold findD at h ⊢
  rw [this, h]; rfl
theorem me_of {S : St} {d : Dv} (h : findD S kMe = some d) : d.u = tMe ∧ d.n = tDD := by
  have := (find_mem h).2
  exact Prod.ext_iff.1 this
theorem sendR_pos {S : St} {x : Pa} (he : sendE S x = 0) : 1 ≤ sendR S x := by
  unfold sendR
  rw [if_pos he]
  exact (send_ok he).2.2
end Go.Proofs.Ytamhmecfjkahdaa

namespace Go.Proofs.Ytamhmecfjkahdaa
open Go.Mx
set_option linter.unusedVariables false
set_option linter.unusedSimpArgs false
set_option linter.unnecessarySimpa false

def toMe (p : Pa) : Pa := ⟨p.fr, tMe, p.dv, p.tx_, p.bo⟩
theorem fewMe {p : Pa} (h : FewX p) : FewP (toMe p) := by
  unfold FewX at h
  unfold FewP toMe
  show p.fr.size + 6 + p.dv.size + p.tx_.size + p.bo.size ≤ 1000
  omega
theorem me0 : enterE ⟨[], []⟩ tMe tDD = 0 := by decide +kernel
theorem me0s : enterS ⟨[], []⟩ tMe tDD = ⟨[⟨tMe, tDD, [], 0⟩], []⟩ := by unfold enterS; rw [me0]; rfl
theorem me0f : findD ⟨[⟨tMe, tDD, [], 0⟩], []⟩ kMe = some ⟨tMe, tDD, [], 0⟩ := by kernel_rfl
theorem me0k : StOk ⟨[⟨tMe, tDD, [], 0⟩], []⟩ 1 := ⟨by simp, by simp; exact ⟨by decide, by decide, by simp, by simp, by simp⟩, by simp, by simp, by simp⟩
def AlInv (l : List De) (a : Nat) (limit : Int) (n : Nat) (xs : List AV) (H2 : Hp) : Prop :=
  ∃ (i : Nat) (S : St) (fp : List Nat) (v6 v7 : AV) (d : Dv) (told : List Pa) (t : Nat), i ≤ l.length ∧ n = l.length - i ∧ xs = [rowD l, .v (.int .i64 limit), .ptr a 0 0, v6, v7, .v (.int .i64 t), .v (.int .i64 i)] ∧ AlSt H2 a S fp v6 v7 d told t (i + 1) ∧ d.al.length ≤ i
def AlInv2 (a : Nat) (n : Nat) (xs : List AV) (H2 : Hp) : Prop :=
  ∃ (i : Nat) (S : St) (fp : List Nat) (v6 v7 : AV) (d : Dv) (told : List Pa) (t : Nat), i ≤ 100 ∧ n = 100 - i ∧ xs = [.ptr a 0 0, v6, v7, .v (.int .i64 t), .v (.int .i64 i)] ∧ AlSt H2 a S fp v6 v7 d told t 81 ∧ d.al.length ≤ 80 ∧ (t = d.al.length ∨ 5 * i ≤ t) ∧ (i ≤ 20 ∨ d.sn = d.al.length)
theorem take_more {al : List Pa} {t m : Nat} (hl : t ≤ al.length) : al.take t ++ (al.drop t).take m = al.take (t + ((al.drop t).take m).length) := by
  rw [List.take_add]
  congr 1
  rw [List.length_take]
  rcases Nat.le_total m (al.drop t).length with h | h
  · rw [Nat.min_eq_left h]
  · rw [Nat.min_eq_right h, List.take_of_length_le h, List.take_of_length_le (Nat.le_refl _)]
section
variable {P : Go.Program} {f k n : Nat} {H : Hp} {cs : List AV} {v r : AV} {Q : AV → Hp → Prop}
/-- The first argument is frozen. -/
theorem OwnS.frzL (h : OwnS k H n cs v) (hr : ∀ id ver c, id ∈ slId v → frz id ver c r = r) (q : ∀ H', Same (slId v) H H' → Sp P f [.row false n cs, r] Q H') : Sp P f [v, r] Q H := by
  rcases h with ⟨rfl, rfl, rfl | rfl⟩ | ⟨h0, h1, id, ver, tl, rfl, h3⟩
  · exact Sp.argW (args' := [.row false 0 [], r]) ⟨Wk.nil _, Wk.refl _, trivial⟩ (q _ (Same.refl _ _))
  · exact Sp.argW (args' := [.row false 0 [], r]) ⟨Wk.row, Wk.refl _, trivial⟩ (q _ (Same.refl _ _))
  · refine Sp.frzArgs h3 ?_
    have e : [AV.sl id ver k 0 n, r].map (frz id ver (cs ++ tl)) = [.row false n cs, r] := by
      have e1 : frz id ver (cs ++ tl) (.sl id ver k 0 n) = .row false n cs := by
        have : (cs ++ tl).take (n * k) = cs := by rw [← h1]; simp
        simp [frz, frz2, frz1, this, h1]
      show [_, _] = _
      rw [e1, hr id ver _ (by simp [slId])]
    rw [e]
    exact q _ (Same.set (by simp [slId]))
/-- The second argument is frozen. -/
theorem OwnS.frzR {x : Bool} {m : Nat} {c : List AV} (h : OwnS k H n cs v) (q : ∀ H', Same (slId v) H H' → Sp P f [.row x m c, .row false n cs] Q H') : Sp P f [.row x m c, v] Q H := by
  rcases h with ⟨rfl, rfl, rfl | rfl⟩ | ⟨h0, h1, id, ver, tl, rfl, h3⟩
  · exact Sp.argW (args' := [.row x m c, .row false 0 []]) ⟨Wk.refl _, Wk.nil _, trivial⟩ (q _ (Same.refl _ _))
  · exact Sp.argW (args' := [.row x m c, .row false 0 []]) ⟨Wk.refl _, Wk.row, trivial⟩ (q _ (Same.refl _ _))
  · refine Sp.frzArgs h3 ?_
    have e : [AV.row x m c, AV.sl id ver k 0 n].map (frz id ver (cs ++ tl)) = [.row x m c, .row false n cs] := by
      have e1 : frz id ver (cs ++ tl) (.sl id ver k 0 n) = .row false n cs := by
        have : (cs ++ tl).take (n * k) = cs := by rw [← h1]; simp
        simp [frz, frz2, frz1, this, h1]
      show [_, _] = _
      rw [e1]; rfl
    rw [e]
    exact q _ (Same.set (by simp [slId]))
end
theorem frz_own {k n : Nat} {H : Hp} {cs : List AV} {v : AV} (h : OwnS k H n cs v) (id ver : Nat) (c : List AV) (hn : id ∉ slId v) : frz id ver c v = v := by
  rcases h with ⟨rfl, rfl, rfl | rfl⟩ | ⟨h0, h1, id', ver', tl, rfl, h3⟩
  · rfl
  · rfl
  · simp [slId] at hn
    have : ¬ id' = id := fun e => hn e.symm
    simp [frz, frz2, frz1, this]
theorem same_own (A : List Pa) (H : Hp) (v6 v7 : AV) (Q : AV → Hp → Prop) (o6 : OwnS 5 H A.length (A.flatMap paC) v6) (o7 : OwnS 5 H A.length (A.flatMap paC) v7) (hd : ∀ j ∈ slId v6, j ∉ slId v7) (hA : ∀ p ∈ A, FewP p) (hl : A.length ≤ 100000)
    (h : ∀ H', Same (slId v6 ++ slId v7) H H' → Q (.v (.bool true)) H') : Sp Try.prog 14 [v6, v7] Q H := by
  refine o6.frzL (fun id ver c hid => frz_own o7 id ver c (hd id hid)) (fun H1 s1 => ?_)
  refine (o7.same s1 (fun j hj hm => hd j hm hj)).frzR (fun H2 s2 => ?_)
  exact same_sp A H2 Q hA hl (h H2 ((s1.wide (fun j hj => List.mem_append.2 (.inl hj))).trans (s2.wide (fp' := slId v6 ++ slId v7) (fun j hj => List.mem_append.2 (.inr hj))) (fun j hj => .inl hj)))
set_option maxRecDepth 20000 in
set_option maxHeartbeats 4000000 in
theorem all_law (l : Des) (limit : Int) : Sp Try.prog 3 [rowD l.1, .v (.int .i64 limit)] (fun v _ => v = .v (.bool true)) [] := by
  obtain ⟨l, hzl⟩ := l
  simp only
  refine Sp.body [(9, ⟨[0, 1, 5, 6, 7, 8, 9], [], []⟩), (29, ⟨[5, 6, 7, 8, 16], [], []⟩)] ⟨[10], [], []⟩ [] mo Try.func3 rfl (Nat.le_of_ble_eq_true rfl) (by kernel_rfl) ?_
  simp [ev_seq, ev_region2, evOps_nil, evOps_cons, opG_none, opA_move, opA_assign, opA_call, putO_some, putH_lt, opS, opV, Go.Mx.look, fr0, argSlots, seqK, mapO, callA, ok9, rowD]
  refine few_sp l false [] _ hzl (fun hfl => ?_) (fun _ => by simp [ev_seq, ev_cond2, ev_ret, ev_region2, evOps_nil, evOps_cons, opG_none, opA_assign, opA_un, putO_some, putH_lt, putC_lt, condB_true, unT, opS, opV, Go.Mx.look, seqK, Fr.known, retK, retA, resA, mapO, unA])
  have hl80 := hfl.1
  simp [ev_skip, ev_seq, ev_cond2, ev_region2, evOps_nil, evOps_cons, opG_none, opA_un, opA_call, putO_some, putH_lt, putC_lt, condB_false, unT, opS, opV, Go.Mx.look, seqK, Fr.known, mapO, unA, callA, ok10]
  refine new_sp [] _ (fun a H1 fp1 hp1 hs1 hf1 => ?_)
  simp [ev_seq, ev_region2, evOps_nil, evOps_cons, opG_none, opA_move, opA_assign, opA_call, putO_some, putH_lt, putC_lt, opS, opV, Go.Mx.look, seqK, mapO, callA, ok11]
  refine enter_sp a _ fp1 10 tMe tDD H1 _ hp1 ok0 (by decide) (by decide) (fun H2 fp2 hp2 st2 => ?_)
  rw [me0s] at hp2
  rw [me0]
  simp [ev_skip, ev_seq, ev_cond2, ev_block, ev_region2, ev_loop, loopK, evOps_nil, evOps_cons, opG_none, opA_assign, opA_bin, putO_some, putH_lt, putC_lt, condB_false, binT_some, binA, avO_some, io_neq, opS, opV, Go.Mx.look, seqK, Fr.known, mapO, headK, getV, getB, chkP, firstReg, orO_some, eqT_some, tk26]
  refine LoopC.intro (fun n xs bs H2 => AlInv l a limit n xs H2) l.length ⟨0, _, fp2, .v (.slice none 0 0), .v (.slice none 0 0), _, [], 0, by omega, by omega, by simp [rowD], ⟨hp2, me0k, OwnS.nil _ _, OwnS.nil _ _, by simp [slId], by simp [slId], me0f, by simp, by simp, by simp⟩, by simp⟩ ?_
  clear hp1 hs1 hf1 hp2 st2 H1 H2
  rintro n xs bs H2 ⟨i, S, fp, v6, v7, d, told, t, hi, rfl, rfl, hA, hdl⟩
  have hcell6 := hA.o6.cells'
  have hcell7 := hA.o7.cells'
  have htl := hA.le
  have htold : told.length = t := by rw [hA.tl, List.length_take]; omega
  simp [ev_skip, ev_seq, ev_cond2, ev_block, ev_exit, ev_region2, ev_loop, loopK, evOps_nil, evOps_cons, opG_none, opA_move, opA_assign, opA_bin, opA_indexAddr, opA_len, putO_some, putH_lt, binT_some, binA, avO_some, lenT_row, indexAddrT, io_lss, opS, opV, Go.Mx.look, seqK, blockK, Fr.known, mapO, indexAddrA, headK, getV, getB, chkP, mkFr, slotsOf, ptrsOf, boxesOf, firstReg, orO_some, eqT_some, tk3, Try.underlying22, sz32, rowD]
  refine ⟨fun hlt => ?_, fun hge => ?_⟩
  · have hx := List.getElem?_eq_getElem hlt
    generalize l[i] = e at hx
    have hsl := flat_sub deC_len l i hx
    have hle : i * 10 + 10 ≤ (List.map (fun a : De => 10) l).sum := flat_le2 deC_len hx
    obtain ⟨d1, d2⟩ := hfl.2 e (List.mem_of_getElem? hx)
    have w1 : IntKind.i64.wrap ((i : Int) + 1) = (i : Int) + 1 := wr_i64 (by omega)
    have step : ∀ H3 S' fp' v6' v7' d' told' t', AlSt H3 a S' fp' v6' v7' d' told' t' (i + 1 + 1) → d'.al.length ≤ i + 1 → ∃ m, m < l.length - i ∧ AlInv l a limit m [rowD l, .v (.int .i64 limit), .ptr a 0 0, v6', v7', .v (.int .i64 (t' : Nat)), .v (.int .i64 ((i : Int) + 1))] H3 := fun H3 S' fp' v6' v7' d' told' t' h1 h2 =>
      ⟨l.length - (i + 1), by omega, i + 1, S', fp', v6', v7', d', told', t', by omega, rfl, by simp, h1, h2⟩
    simp only [rowD] at step
    have same : ∀ N, i + 1 ≤ N → AlSt H2 a S fp v6 v7 d told t N := fun N hN => ⟨hA.po, hA.ok.mono hN, hA.o6, hA.o7, hA.j6, hA.j7, hA.fd, hA.sn, hA.tl, hA.le⟩
    simp [ev_skip, ev_seq, ev_cond2, ev_block, ev_region2, evOps_nil, evOps_cons, opG_none, opA_move, opA_assign, opA_bin, opA_load, opA_fieldAddr, opA_call, opA_alloc, opA_store, putO_some, putH_lt, putU_none, binT_some, binA, avO_some, loadT, fieldAddrT, allocT, storeT, io_add, io_eql, opS, opV, Go.Mx.look, seqK, blockK, Fr.known, Fr.newBox, dropBp, mapO, callA, cellsA_v, cellsA_agg, okPart_v, okPart_agg, Value.oneCell', partA, loadA, loadS, plusS, newK, storeS, headK, getV, getB, chkP, orO_some, eqT_some, sz3, ag3, tk3, sz9, ag9, sz30, ag30, Try.underlying30, sz32, ag32, ze32, Try.underlying32, ok11, ok12, ok13, hlt, hsl, hle, deC, splice, w1]
    refine ⟨fun k0 => ?_, fun k0 => ⟨fun k2 => ?_, fun k2 => ⟨fun k3 => ?_, fun k3 => ?_⟩⟩⟩
    · refine enter_sp a S fp (i + 1) e.u e.n H2 _ hA.po hA.ok (by omega) (by omega) (fun H3 fp3 hp3 st3 => ?_)
      simp [ev_region2, evOps_nil, evOps_cons, opG_none, opA_move, opA_assign, opA_bin, putO_some, putH_lt, putC_lt, binT_some, binA, avO_some, io_add, opS, opV, Go.Mx.look, seqK, blockK, mapO, headK, getV, getB, chkP, orO_some, eqT_some, tk3, w1]
      exact step H3 _ fp3 v6 v7 d told t (hA.step hp3 st3 (hA.ok.enter (by omega) (by omega)) (find_enter hA.fd) rfl hA.sn) (by omega)
    · refine send_sp a S fp (i + 1) (toMe e.p) H2 _ hA.po hA.ok (by omega) (fewMe d2) (fun H3 fp3 hp3 st3 => ?_)
      have hk3 := hA.ok.send (fewMe d2)
      have tlD : (e.p.dv.toList = [68]) = (e.p.dv = tDD) := by show _ = (e.p.dv = tx [68]); rw [← tl_inj, tx_list]
      have tlS : (e.p.dv.toList = [42]) = (e.p.dv = star) := by show _ = (e.p.dv = tx [42]); rw [← tl_inj, tx_list]
      have cD : tDD.toList = [68] := by show (tx [68]).toList = _; rw [tx_list]
      have cS : star.toList = [42] := by show (tx [42]).toList = _; rw [tx_list]
      have cS2 : ¬ star.toList = [68] := by rw [cS]; decide
      by_cases he : sendE S (toMe e.p) = 0
      · have hf3 := find_send hA.fd he
        have hpos := sendR_pos he
        have hnl : ¬ ((sendR S (toMe e.p) : Nat) : Int) < 1 := by omega
        obtain ⟨hmu, hmn⟩ := me_of hA.fd
        have app : toB (toMe e.p) d = true → appA H3 5 80 v6 (.row true 1 [.v (.string e.p.fr), .v (.string tMe), .v (.string e.p.dv), .v (.string e.p.tx_), .v (.string e.p.bo)]) (fun v' H4 => AlSt H4 a (sendS S (toMe e.p)) fp3 v' v7 (push (toMe e.p) d) told t (i + 1 + 1)) := fun hb => by
          rw [if_pos hb] at hf3
          have o6 := hA.o6.same st3.1 (fun j hj => (hA.j6 j hj).1)
          refine o6.app (by simp) (by omega) (fun v' H4 ho hs4 hid _ => ?_)
          exact hA.came hp3 st3 hk3 hf3 ho hs4 hid
        have hpl : (push (toMe e.p) d).al.length ≤ i + 1 := by simp [push]; omega
        simp only [tMe] at app
        have fin : ∀ v' H4, AlSt H4 a (sendS S (toMe e.p)) fp3 v' v7 (push (toMe e.p) d) told t (i + 1 + 1) → ∃ m, m < l.length - i ∧ AlInv l a limit m [.row false l.length (l.flatMap deC), .v (.int .i64 limit), .ptr a 0 0, v', v7, .v (.int .i64 (t : Nat)), .v (.int .i64 ((i : Int) + 1))] H4 := fun v' H4 hA4 =>
          step H4 _ fp3 v' v7 _ told t hA4 hpl
        by_cases hD : e.p.dv = tDD
        · have hb : toB (toMe e.p) d = true := by
            unfold toB toMe
            simp only
            rw [decide_eq_true hmu, decide_eq_true (hmn.trans hD.symm)]; rfl
          replace app := app hb
          rw [hD] at app
          simp [ev_skip, ev_seq, ev_cond2, ev_region2, evOps_nil, evOps_cons, opG_none, opG_some, opJ, opU_ft, opU_ff, isU_bool, opK_eq, opA_move, opA_assign, opA_pick, opA_bin, opA_extract, opA_load, opA_fieldAddr, opA_buildSlice, opA_append, putO_some, putH_lt, putC_lt, putV_lt, condB_true, condB_false, binT_some, binA, avO_some, pickT, extractT, loadT, fieldAddrT, buildSliceT, appendT, repeatL_1, io_eql, io_lss, strOp, opS, opV, Go.Mx.look, seqK, Fr.known, mapO, extractA, cellsA_agg, okPart_agg, partA, loadS, plusS, fillA, bindO, srcTy, orO_some, eqT_some, tk3, sz9, ag9, tk9, tk26, st28, Try.underlying28, sz30, ag30, by30, ze30, Try.underlying30, Try.underlying32, he, hD, cD, hnl]
          refine appA_mono (fun v' H4 hA4 => ?_) app
          simp [ev_region2, evOps_nil, evOps_cons, opG_none, opA_move, opA_assign, opA_bin, putO_some, putH_lt, putC_lt, binT_some, binA, avO_some, io_add, opS, opV, Go.Mx.look, seqK, blockK, mapO, headK, getV, getB, chkP, orO_some, eqT_some, tk3, w1]
          exact fin v' H4 hA4
        · by_cases hS : e.p.dv = star
          · have hb : toB (toMe e.p) d = true := by
              unfold toB toMe
              simp only
              rw [decide_eq_true hmu, decide_eq_true hS]; simp
            replace app := app hb
            rw [hS] at app
            simp [ev_skip, ev_seq, ev_cond2, ev_region2, evOps_nil, evOps_cons, opG_none, opG_some, opJ, opU_ft, opU_ff, isU_bool, opK_eq, opA_move, opA_assign, opA_pick, opA_bin, opA_extract, opA_load, opA_fieldAddr, opA_buildSlice, opA_append, putO_some, putH_lt, putC_lt, condB_true, condB_false, binT_some, binA, avO_some, pickT, extractT, loadT, fieldAddrT, buildSliceT, appendT, repeatL_1, io_eql, io_lss, strOp, opS, opV, Go.Mx.look, seqK, Fr.known, mapO, extractA, cellsA_agg, okPart_agg, partA, loadS, plusS, fillA, bindO, srcTy, orO_some, eqT_some, tk3, sz9, ag9, tk9, tk26, st28, Try.underlying28, sz30, ag30, by30, ze30, Try.underlying30, Try.underlying32, he, hS, cS, hnl]
            refine appA_mono (fun v' H4 hA4 => ?_) app
            simp [ev_region2, evOps_nil, evOps_cons, opG_none, opA_move, opA_assign, opA_bin, putO_some, putH_lt, putC_lt, binT_some, binA, avO_some, io_add, opS, opV, Go.Mx.look, seqK, blockK, mapO, headK, getV, getB, chkP, orO_some, eqT_some, tk3, w1]
            exact fin v' H4 hA4
          · have hb : toB (toMe e.p) d = false := by
              unfold toB toMe
              simp only
              rw [decide_eq_true hmu, decide_eq_false (fun e2 : d.n = e.p.dv => hD (e2.symm.trans hmn)), decide_eq_false hS]; rfl
            rw [hb] at hf3
            simp [ev_skip, ev_seq, ev_cond2, ev_region2, evOps_nil, evOps_cons, opG_none, opG_some, opJ, opU_ft, opU_ff, isU_bool, opK_eq, opA_move, opA_assign, opA_pick, opA_bin, opA_extract, opA_load, opA_fieldAddr, putO_some, putH_lt, putC_lt, condB_true, condB_false, CondP_false, binT_some, binA, avO_some, pickT, extractT, loadT, fieldAddrT, io_add, io_eql, strOp, opS, opV, Go.Mx.look, seqK, blockK, Fr.known, mapO, extractA, partA, loadS, plusS, headK, getV, getB, chkP, orO_some, eqT_some, tk3, sz9, ag9, tk9, tk26, sz30, Try.underlying30, Try.underlying32, he, tlD, tlS, hD, hS, w1]
            exact step H3 _ fp3 v6 v7 d told t (hA.step hp3 st3 hk3 hf3 rfl hA.sn) (by omega)
      · have hss : sendS S (toMe e.p) = S := by unfold sendS; rw [if_neg he]
        rw [hss] at hp3
        simp [ev_skip, ev_seq, ev_cond2, ev_region2, evOps_nil, evOps_cons, opG_none, opG_some, opJ, opU_true, opU_ft, isU_undef, isU_bool, opA_move, opA_assign, opA_pick, opA_bin, opA_extract, putO_some, putH_lt, putC_lt, putV_lt, condB_false, CondP_false, binT_some, binA, avO_some, pickT, extractT, io_add, io_eql, opS, opV, Go.Mx.look, seqK, blockK, Fr.known, mapO, extractA, headK, getV, getB, chkP, orO_some, eqT_some, tk3, tk26, he, w1]
        exact step H3 S fp3 v6 v7 d told t (hA.step hp3 st3 (hA.ok.mono (by omega)) hA.fd rfl hA.sn) (by omega)
    · refine poll_sp a S fp (i + 1) tMe tDD t limit H2 _ hA.po hA.ok (by omega) (by decide) (by decide) (fun e => by rw [show ((tMe, tDD) : Ky) = kMe from rfl, hA.fd] at e; simp at e) (fun d' hd' H3 fp3 hp3 st3 => ?_)
      rw [show ((tMe, tDD) : Ky) = kMe from rfl] at hd' hp3
      rw [hA.fd] at hd'
      simp only [Option.some.injEq] at hd'
      subst hd'
      obtain ⟨q1, q2, q3⟩ := poll_at hA.sn hA.le limit
      have hA3 := hA.step hp3 st3 (hA.ok.poll kMe t) (find_poll_some t hA.fd) rfl (by rw [q1]; exact Nat.le_refl _)
      have hmore := take_more (m := (max 0 limit).toNat) hA.le
      rw [← q2, ← hA.tl] at hmore
      rw [q3]
      have hol : (pollO d t limit).length ≤ d.al.length - t := by rw [q2, List.length_take, List.length_drop]; omega
      have hol2 : (pollO d t limit).length ≤ (max 0 limit).toNat := by rw [q2, List.length_take]; omega
      generalize pollO d t limit = out at *
      simp [ev_skip, ev_seq, ev_cond2, ev_ret, ev_region2, evOps_nil, evOps_cons, opG_none, opG_some, opJ, opU_ff, isU_bool, opK_eq, opA_move, opA_assign, opA_pick, opA_bin, opA_extract, opA_len, opA_max, opA_append, putO_some, putH_lt, putC_lt, putV_lt, condB_true, condB_false, binT_some, binA, avO_some, pickT, extractT, lenT_row, maxT, maxA, appendT, io_neq, io_lss, io_gtr, opS, opV, Go.Mx.look, seqK, blockK, Fr.known, retK, retA, resA, mapO, extractA, srcTy, orO_some, eqT_some, tk2, tk3, tk26, st28, Try.underlying28, sz30, by30, ze30, rowP]
      refine ⟨by omega, fun _ => ⟨by split <;> omega, fun _ => ?_⟩⟩
      refine hA3.o7.appM (flat_len paC_len out) (by omega) (fun v' H4 ho hs4 hid => ?_)
      have hT := hA3.tell hs4 ho hid hmore (by show t + out.length ≤ d.al.length; omega) (by omega)
      have := step H4 _ fp3 v6 v' (pollD d t) _ (t + out.length) (hT.mono (by omega)) (by show d.al.length ≤ i + 1; omega)
      simp [ev_region2, evOps_nil, evOps_cons, opG_none, opA_move, opA_assign, opA_bin, putO_some, putH_lt, putC_lt, binT_some, binA, avO_some, io_add, opS, opV, Go.Mx.look, seqK, blockK, mapO, headK, getV, getB, chkP, orO_some, eqT_some, tk3, w1]
      simpa using this
    · exact step H2 S fp v6 v7 d told t (same _ (by omega)) (by omega)
  · have hio : AlSt H2 a S fp v6 v7 d told t 81 := hA.mono (by omega)
    refine LoopC.intro (fun n xs bs H3 => AlInv2 a n xs H3) 100 ⟨0, S, fp, v6, v7, d, told, t, by omega, by omega, by simp, hio, by omega, .inr (by omega), .inl (by omega)⟩ ?_
    clear hio hA hdl htl htold hcell6 hcell7 hge hi
    rintro n xs bs H3 ⟨i, S, fp, v6, v7, d, told, t, hi, rfl, rfl, hA, hdl, hprog, hend⟩
    have htl := hA.le
    have htold : told.length = t := by rw [hA.tl, List.length_take]; omega
    simp [ev_skip, ev_seq, ev_cond2, ev_block, ev_exit, ev_region2, evOps_nil, evOps_cons, opG_none, opA_move, opA_bin, opA_call, putO_some, putH_lt, binT_some, binA, avO_some, io_lss, opS, opV, Go.Mx.look, seqK, blockK, Fr.known, mapO, callA, mkFr, slotsOf, ptrsOf, boxesOf, orO_some, eqT_some, tk3, ok13, ok14]
    refine ⟨fun hlt => ?_, fun hge => ?_⟩
    · have w1 : IntKind.i64.wrap ((i : Int) + 1) = (i : Int) + 1 := wr_i64 (by omega)
      refine poll_sp a S fp 81 tMe tDD t 5 H3 _ hA.po hA.ok (by omega) (by decide) (by decide) (fun e => by rw [show ((tMe, tDD) : Ky) = kMe from rfl, hA.fd] at e; simp at e) (fun d' hd' H4 fp4 hp4 st4 => ?_)
      rw [show ((tMe, tDD) : Ky) = kMe from rfl] at hd' hp4
      rw [hA.fd] at hd'
      simp only [Option.some.injEq] at hd'
      subst hd'
      obtain ⟨q1, q2, q3⟩ := poll_at hA.sn hA.le 5
      have hA4 := hA.step hp4 st4 (hA.ok.poll kMe t) (find_poll_some t hA.fd) rfl (by rw [q1]; exact Nat.le_refl _)
      have hmore := take_more (m := (max 0 (5 : Int)).toNat) hA.le
      rw [← q2, ← hA.tl] at hmore
      rw [q3]
      have hol : (pollO d t 5).length = min 5 (d.al.length - t) := by
        rw [q2, List.length_take, List.length_drop]; rfl
      generalize pollO d t 5 = out at *
      simp [ev_seq, ev_region2, evOps_nil, evOps_cons, opG_none, opA_move, opA_assign, opA_extract, opA_append, putO_some, putH_lt, putC_lt, extractT, appendT, opS, opV, Go.Mx.look, seqK, extractA, srcTy, st28, Try.underlying28, sz30, by30, ze30, rowP]
      refine hA4.o7.appM (flat_len paC_len out) (by omega) (fun v' H5 ho hs5 hid => ?_)
      have hT := hA4.tell hs5 ho hid hmore (by show t + out.length ≤ d.al.length; omega) (by omega)
      have : ∃ m, m < 100 - i ∧ AlInv2 a m [.ptr a 0 0, v6, v', .v (.int .i64 ((t + out.length : Nat) : Int)), .v (.int .i64 ((i : Int) + 1))] H5 :=
        ⟨100 - (i + 1), by omega, i + 1, _, fp4, v6, v', _, _, t + out.length, by omega, rfl, by simp, hT, hdl, by show t + out.length = d.al.length ∨ _; omega, by rw [q1]; show i + 1 ≤ 20 ∨ t = d.al.length; omega⟩
      simp [ev_region2, evOps_nil, evOps_cons, opG_none, opA_move, opA_assign, opA_bin, putO_some, putH_lt, putC_lt, binT_some, binA, avO_some, io_add, opS, opV, Go.Mx.look, seqK, blockK, mapO, headK, getV, getB, chkP, orO_some, eqT_some, tk3, w1]
      simpa using this
    · have htf : t = d.al.length := by omega
      have htl2 : told = d.al := by rw [hA.tl, htf, List.take_length]
      rw [htl2] at hA
      have hfew := (hA.ok.d d (find_mem hA.fd).1).f
      have hsn := hA.sn
      have hw : waitN S kMe = d.al.length - d.sn := by unfold waitN; rw [hA.fd]
      have h0 : waitN S kMe = 0 := by omega
      refine same_own d.al H3 v6 v7 _ hA.o6 (by simpa [htl2] using hA.o7) (fun j hj => (hA.j6 j hj).2) hfew (by omega) (fun H4 s4 => ?_)
      have hp4 := hA.po.same s4 (fun j hj hm => by
        rcases List.mem_append.1 hm with h1 | h1
        · exact (hA.j6 j h1).1 hj
        · exact hA.j7 j h1 hj)
      simp [evOps_cons, opG_none, opG_some, opJ, opU_ft, isU_bool, opK_eq, opA_move, opA_call, putO_some, putH_lt, putC_lt, condB_true, opS, opV, Go.Mx.look, Fr.known, mapO, callA, ok15]
      refine waiting_sp a S fp 81 tMe tDD H4 _ hp4 hA.ok (by decide) (by decide) ?_
      rw [show ((tMe, tDD) : Ky) = kMe from rfl, h0]
      simp [evOps_cons, opG_none, opG_some, opJ, opU_ft, isU_bool, opK_eq, opA_move, opA_pick, opA_bin, opA_call, putO_some, putH_lt, putC_lt, condB_true, binT_some, binA, avO_some, pickT, io_eql, opS, opV, Go.Mx.look, Fr.known, mapO, callA, orO_some, eqT_some, tk3, ok16]
      refine awake_sp H4 _ (fun H5 _ => ?_)
      simp [ev_ret, evOps_nil, evOps_cons, opG_none, opA_assign, opA_pick, putO_some, putH_lt, putC_lt, pickT, opS, opV, Go.Mx.look, seqK, retK, retA, resA, mapO]
end Go.Proofs.Ytamhmecfjkahdaa
