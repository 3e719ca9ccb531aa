import Derived.Test.YtamhmecfjkahdaaPA
import Derived.Test.YtamhmecfjkahdaaPS
namespace Go.Proofs.Ytamhmecfjkahdaa
open Go.Mx
set_option linter.unusedVariables false
set_option linter.unusedSimpArgs false
set_option linter.unnecessarySimpa false

def findD (S : St) (k : Ky) : Option Dv := S.ds.find? (fun d => decide (keyD d = k))
theorem findD_no {H : Hp} {a m1 m2 : Nat} {R : List Rw} {S : St} (h : PoR H a m1 m2 R S) {k : Ky} (hn : ∀ r ∈ R, keyD r.d ≠ k) : findD S k = none := by
  unfold findD
  rw [List.find?_eq_none, ← h.rd]
  intro d hd
  obtain ⟨r, hr, rfl⟩ := List.mem_map.1 hd
  rw [decide_eq_false (hn r hr)]; simp
theorem findD_yes {H : Hp} {a m1 m2 : Nat} {A B : List Rw} {r : Rw} {S : St} (h : PoR H a m1 m2 (A ++ r :: B) S) {k : Ky} (hk : keyD r.d = k) (hA : ∀ x ∈ A, keyD x.d ≠ k) : findD S k = some r.d := by
  unfold findD
  have : (A.map (·.d)).find? (fun d => decide (keyD d = k)) = none := by
    rw [List.find?_eq_none]
    intro d hd
    obtain ⟨x, hx, rfl⟩ := List.mem_map.1 hd
    rw [decide_eq_false (hA x hx)]; simp
  rw [← h.rd, List.map_append, List.find?_append, this]
  simp only [Option.none_or, List.map_cons, List.find?_cons]
  rw [decide_eq_true hk]
theorem PoR.upd {H H' : Hp} {a m1 m2 : Nat} {A B : List Rw} {r r' : Rw} {S : St} (h : PoR H a m1 m2 (A ++ r :: B) S) (hs : Same (fpR r) H H') (hr : DevAt cellP wlP H' r') (hb : r'.b = r.b) (hk : keyD r'.d = keyD r.d)
    (hf : ∀ j ∈ fpR r', j ∈ fpR r ∨ H.length ≤ j) (hn : (fpR r').Nodup) : PoR H' a m1 m2 (A ++ r' :: B) ⟨(A ++ r' :: B).map (·.d), S.sent⟩ ∧ Stp ([a, m1, m2] ++ fpL (A ++ r :: B)) H H' ([a, m1, m2] ++ fpL (A ++ r' :: B)) := by
  obtain ⟨q1, q2, q3, q4⟩ := h.apart
  have hlt := h.lt
  have hin : ∀ j ∈ fpR r, j ∈ fpL (A ++ r :: B) := fun j hj => by rw [fpL_app, fpL_cons]; simp [hj]
  have e : (A ++ r' :: B).map kb = (A ++ r :: B).map kb := by simp [kb, hb, hk]
  have hd := Devs.upd h.d hs hr hf hn
  have hnew : ∀ j ∈ fpL (A ++ r' :: B), j ∈ fpL (A ++ r :: B) ∨ H.length ≤ j := fun j hj => by
    rw [fpL_app, fpL_cons] at hj ⊢
    rcases List.mem_append.1 hj with hj | hj
    · exact .inl (by simp [hj])
    · rcases List.mem_append.1 hj with hj | hj
      · rcases hf j hj with h1 | h1
        · exact .inl (by simp [h1])
        · exact .inr h1
      · exact .inl (by simp [hj])
  refine ⟨⟨rfl, hs.2 _ _ h.c (fun hm => (q4 _ (hin _ hm)).1 rfl), ?_, h.s.same hs (fun hm => (q4 _ (hin _ hm)).2.2 rfl), hd, ?_⟩, hs.wide (fun j hj => List.mem_append.2 (.inr (hin j hj))), fun j hj => ?_⟩
  · rw [e]; exact h.m.same hs (fun hm => (q4 _ (hin _ hm)).2.1 rfl)
  · have ho : ∀ j ∈ fpL (A ++ r' :: B), j ≠ a ∧ j ≠ m1 ∧ j ≠ m2 := fun j hj => by
      rcases hnew j hj with h1 | h1
      · exact q4 j h1
      · have l1 := hlt a (by simp)
        have l2 := hlt m1 (by simp)
        have l3 := hlt m2 (by simp)
        exact ⟨by omega, by omega, by omega⟩
    simp only [List.cons_append, List.nil_append, List.nodup_cons, List.mem_cons, not_or]
    exact ⟨⟨q1, q2, fun hm => (ho a hm).1 rfl⟩, ⟨q3, fun hm => (ho m1 hm).2.1 rfl⟩, fun hm => (ho m2 hm).2.2 rfl, hd.nd⟩
  · rcases List.mem_append.1 hj with hj | hj
    · exact .inl (List.mem_append.2 (.inl hj))
    · rcases hnew j hj with h1 | h1
      · exact .inl (List.mem_append.2 (.inr h1))
      · exact .inr h1
def leaveS (S : St) (k : Ky) : St := ⟨S.ds.filter (fun d => !decide (keyD d = k)), S.sent⟩
theorem filter_no {A : List Rw} {k : Ky} (h : ∀ x ∈ A, keyD x.d ≠ k) : (A.map (·.d)).filter (fun d => !decide (keyD d = k)) = A.map (·.d) := by
  rw [List.filter_eq_self]
  intro d hd
  obtain ⟨x, hx, rfl⟩ := List.mem_map.1 hd
  rw [decide_eq_false (h x hx)]; rfl
set_option maxRecDepth 20000 in
theorem leave_sp (a : Nat) (S : St) (fp : List Nat) (N : Nat) (u n : ByteArray) (H : Hp) (Q : AV → Hp → Prop) (hp : PoAt H a S fp) (hk : StOk S N) (hu : u.size ≤ 90000) (hn : n.size ≤ 90000)
    (h : ∀ H' fp', PoAt H' a (leaveS S (u, n)) fp' → Stp fp H H' fp' → Q (.v (.bool (hasD S (u, n)))) H') : Sp Try.prog 18 [.ptr a 0 0, .v (.string u), .v (.string n)] Q H := by
  refine Sp.body [] ⟨[], [], []⟩ [] mo Try.func18 rfl (Nat.le_of_ble_eq_true rfl) (by kernel_rfl) ?_
  obtain ⟨m1, m2, R, hp, rfl⟩ := hp
  have hc := hp.c
  simp [ev_seq, ev_region2, evOps_nil, evOps_cons, opG_none, opA_move, opA_assign, opA_call, putO_some, putH_lt, opS, opV, Go.Mx.look, fr0, argSlots, seqK, mapO, callA, ok32]
  refine at_sp a m1 m2 R S u n H _ hp hk.k hu hn (fun hno => ?_) (fun A r B hR h2 h3 h4 => ?_)
  · have hhas := hasD_no hp hno
    simp [ev_skip, ev_seq, ev_cond2, ev_ret, ev_region2, evOps_nil, evOps_cons, opG_none, opA_move, opA_assign, opA_bin, putO_some, putH_lt, putC_lt, condB_false, binT_some, binA, eqRef, avO_some, opS, opV, Go.Mx.look, seqK, Fr.known, retK, retA, resA, mapO, orO_some, eqT_some, tk59]
    have := h H _ (by
      have : leaveS S (u, n) = S := by
        unfold leaveS
        rw [← hp.rd, filter_no hno, hp.rd]
      rw [this]; exact ⟨m1, m2, R, hp, rfl⟩) (Stp.refl _ _)
    rw [hhas] at this; exact this
  · subst hR
    have hhas := hasD_yes hp h2
    simp [ev_seq, ev_cond2, ev_region2, evOps_nil, evOps_cons, opG_none, opA_move, opA_assign, opA_bin, opA_load, opA_fieldAddr, opA_nilCheck, opA_build, putO_some, putH_lt, putC_lt, condB_true, binT_some, binA, eqRef, avO_some, loadT, nilCheckT, fieldAddrT, buildZ, partsZ, fillO, aggO, opS, opV, Go.Mx.look, seqK, Fr.known, cellsA_v, okPart_v, Value.oneCell', partA, loadA, loadS, plusS, nilCheckS, fillA, orO_some, eqT_some, delT_some, opA_delete, sz52, ag52, Try.underlying55, tk59, ze63, of63, hc]
    obtain ⟨q1, q2, q3, q4⟩ := hp.apart
    refine hp.m.del Try.underlying52 (good63 (u, n) (by simp only; omega) (by simp only; omega)) (fun H2 g hs2 hl2 => ?_)
    have e6 := fD_ext (K := (A ++ r :: B).map kb) (L := (A ++ B).map kb) (k := (u, n)) (o := none) (fun k' => by
      by_cases hk' : k' = (u, n)
      · subst hk'
        rw [if_pos rfl, find_no (fun x hx => ?_)]
        · rfl
        · rcases List.mem_append.1 hx with hx | hx
          · exact h3 x hx
          · exact h4 x hx
      · rw [if_neg hk', List.map_append, List.map_append, List.find?_append, List.find?_append, List.map_cons, List.find?_cons]
        have : decide ((kb r).1 = k') = false := decide_eq_false (fun e => hk' (by rw [← e]; exact h2))
        rw [this])
    simp only [Option.map_none] at e6
    rw [e6] at g
    have hsub : fpL (A ++ B) ⊆ fpL (A ++ r :: B) := fun j hj => by
      rw [fpL_app] at hj; rw [fpL_app, fpL_cons]
      rcases List.mem_append.1 hj with hj | hj <;> simp [hj]
    have hpo : PoAt H2 a (leaveS S (u, n)) ([a, m1, m2] ++ fpL (A ++ B)) := by
      refine ⟨m1, m2, A ++ B, ⟨?_, hs2.2 _ _ hc (by simpa using q1), g, hp.s.same hs2 (by simpa using Ne.symm q3), (Devs.del hp.d).same hs2 (fun j hj => by simpa using (q4 j (hsub hj)).2.1), ?_⟩, rfl⟩
      · unfold leaveS
        rw [← hp.rd, List.map_append, List.map_append, List.filter_append, filter_no h3, List.map_cons, List.filter_cons, filter_no h4, decide_eq_true h2]; rfl
      · refine hp.nd.sublist (List.Sublist.append (List.Sublist.refl _) ?_)
        rw [fpL_app, fpL_app, fpL_cons]
        exact List.Sublist.append (List.Sublist.refl _) (List.sublist_append_right _ _)
    have := h H2 _ hpo ⟨hs2.wide (by simp), fun j hj => .inl (by
      rcases List.mem_append.1 hj with hj | hj
      · exact List.mem_append.2 (.inl hj)
      · exact List.mem_append.2 (.inr (hsub hj)))⟩
    rw [hhas] at this
    simp [ev_seq, ev_ret, ev_region2, evOps_nil, evOps_cons, opG_none, opA_move, opA_assign, putO_some, putH_lt, putC_none, opS, opV, Go.Mx.look, seqK, retK, retA, resA, mapO]
    exact this
def waitN (S : St) (k : Ky) : Nat := match findD S k with
  | some d => d.al.length - d.sn
  | none => 0
theorem waiting_sp (a : Nat) (S : St) (fp : List Nat) (N : Nat) (u n : ByteArray) (H : Hp) (Q : AV → Hp → Prop) (hp : PoAt H a S fp) (hk : StOk S N) (hu : u.size ≤ 90000) (hn : n.size ≤ 90000)
    (h : Q (.v (.int .i64 (waitN S (u, n)))) H) : Sp Try.prog 15 [.ptr a 0 0, .v (.string u), .v (.string n)] Q H := by
  refine Sp.body [] ⟨[], [], []⟩ [] mo Try.func15 rfl (Nat.le_of_ble_eq_true rfl) (by kernel_rfl) ?_
  obtain ⟨m1, m2, R, hp, rfl⟩ := hp
  simp [ev_seq, ev_region2, evOps_nil, evOps_cons, opG_none, opA_move, opA_assign, opA_call, putO_some, putH_lt, opS, opV, Go.Mx.look, fr0, argSlots, seqK, mapO, callA, ok32]
  refine at_sp a m1 m2 R S u n H _ hp hk.k hu hn (fun hno => ?_) (fun A r B hR h2 h3 h4 => ?_)
  · have hf := findD_no hp hno
    simp only [waitN, hf] at h
    simp [ev_skip, ev_seq, ev_cond2, ev_ret, ev_region2, evOps_nil, evOps_cons, opG_none, opA_move, opA_assign, opA_bin, putO_some, putH_lt, putC_lt, condB_false, binT_some, binA, eqRef, avO_some, opS, opV, Go.Mx.look, seqK, Fr.known, retK, retA, resA, mapO, orO_some, eqT_some, tk59]
    exact h
  · subst hR
    have hf := findD_yes hp h2 h3
    simp only [waitN, hf] at h
    obtain ⟨g1, g2⟩ := hp.d.at_ r (by simp)
    have hl := g2.lenT
    simp only [wlP, List.length_drop] at hl
    simp [ev_seq, ev_cond2, ev_ret, ev_region2, evOps_nil, evOps_cons, opG_none, opA_move, opA_assign, opA_bin, opA_load, opA_fieldAddr, opA_nilCheck, opA_len, putO_some, putH_lt, putC_lt, condB_true, binT_some, binA, eqRef, avO_some, loadT, nilCheckT, fieldAddrT, opS, opV, Go.Mx.look, seqK, Fr.known, retK, retA, resA, mapO, partA, loadA, loadS, plusS, nilCheckS, orO_some, eqT_some, sz28, ag28, Try.underlying28, tk59, Try.underlying62, g1, cellP, hl]
    exact h
theorem waitingN_sp (v : AV) (u n : ByteArray) (H : Hp) (Q : AV → Hp → Prop) (hv : NoPo H v) (h : Q (.v (.int .i64 0)) H) : Sp Try.prog 15 [v, .v (.string u), .v (.string n)] Q H := by
  refine Sp.body [] ⟨[], [], []⟩ [] mo Try.func15 rfl (Nat.le_of_ble_eq_true rfl) (by kernel_rfl) ?_
  simp [ev_seq, ev_region2, evOps_nil, evOps_cons, opG_none, opA_move, opA_assign, opA_call, putO_some, putH_lt, opS, opV, Go.Mx.look, fr0, argSlots, seqK, mapO, callA, ok32]
  refine atN_sp v u n H _ hv ?_
  simp [ev_skip, ev_seq, ev_cond2, ev_ret, ev_region2, evOps_nil, evOps_cons, opG_none, opA_move, opA_assign, opA_bin, putO_some, putH_lt, putC_lt, condB_false, binT_some, binA, eqRef, avO_some, opS, opV, Go.Mx.look, seqK, Fr.known, retK, retA, resA, mapO, orO_some, eqT_some, tk59]
  exact h
def seenB (S : St) (k : Ky) : Bool := inS (S.sent.map keyP) k
theorem look_sent {H : Hp} {m : Nat} {l : List Ky} (hd : MapAt Try.prog 63 H m (fS l)) (k : Ky) (h1 : k.1.size ≤ 140737488351232) (h2 : k.2.size ≤ 140737488351232) : lookV Try.prog H 53 (.mp m) (.agg [.v (.string k.1), .v (.string k.2)]) false = some (.v (.bool (inS l k))) := by
  have := MapAt.look hd Try.underlying53 (good63 k h1 h2) false
  simp only [keyV] at this
  rw [this]
  simp only [fS]
  cases hh : inS l (k.1, k.2) with
  | true => rfl
  | false => simp [Go.Mx.valOf, zero4]
theorem seen_sp (a : Nat) (S : St) (fp : List Nat) (u n : ByteArray) (H : Hp) (Q : AV → Hp → Prop) (hp : PoAt H a S fp) (hu : u.size ≤ 90000) (hn : n.size ≤ 90000)
    (h : Q (.v (.bool (seenB S (u, n)))) H) : Sp Try.prog 23 [.ptr a 0 0, .v (.string u), .v (.string n)] Q H := by
  refine Sp.body [] ⟨[], [], []⟩ [] mo Try.func23 rfl (Nat.le_of_ble_eq_true rfl) (by kernel_rfl) ?_
  obtain ⟨m1, m2, R, hp, rfl⟩ := hp
  have hc := hp.c
  have hl := look_sent hp.s (u, n) (by simp only; omega) (by simp only; omega)
  simp only at hl
  simp [ev_seq, ev_region2, evOps_nil, evOps_cons, opG_none, opA_move, opA_assign, opA_call, putO_some, putH_lt, opS, opV, Go.Mx.look, fr0, argSlots, seqK, mapO, callA, ok29]
  refine made_sp a m1 m2 H _ hc ?_
  simp [ev_ret, evOps_nil, evOps_cons, opG_none, opG_some, opJ, opU_ft, isU_bool, opK_eq, opA_move, opA_assign, opA_pick, opA_load, opA_fieldAddr, opA_nilCheck, opA_build, putO_some, putH_lt, putC_lt, condB_true, avO_some, pickT, loadT, nilCheckT, fieldAddrT, buildZ, partsZ, fillO, aggO, opS, opV, Go.Mx.look, seqK, Fr.known, retK, retA, resA, mapO, cellsA_v, okPart_v, Value.oneCell', partA, loadA, loadS, plusS, nilCheckS, fillA, lookT_some, opA_lookup, sz53, ag53, Try.underlying55, ze63, of63, hc, hl]
  exact h
theorem seenN_sp (v : AV) (u n : ByteArray) (H : Hp) (Q : AV → Hp → Prop) (hv : NoPo H v) (h : Q (.v (.bool false)) H) : Sp Try.prog 23 [v, .v (.string u), .v (.string n)] Q H := by
  refine Sp.body [] ⟨[], [], []⟩ [] mo Try.func23 rfl (Nat.le_of_ble_eq_true rfl) (by kernel_rfl) ?_
  simp [ev_seq, ev_region2, evOps_nil, evOps_cons, opG_none, opA_move, opA_assign, opA_call, putO_some, putH_lt, opS, opV, Go.Mx.look, fr0, argSlots, seqK, mapO, callA, ok29]
  refine madeN_sp v H _ hv ?_
  simp [ev_ret, evOps_nil, evOps_cons, opG_none, opG_some, opJ, opU_ft, isU_bool, opA_move, opA_assign, opA_pick, putO_some, putH_lt, putC_lt, putV_lt, condB_false, pickT, opS, opV, Go.Mx.look, seqK, Fr.known, retK, retA, resA, mapO]
  exact h
end Go.Proofs.Ytamhmecfjkahdaa

namespace Go.Proofs.Ytamhmecfjkahdaa
open Go.Mx
set_option linter.unusedVariables false
set_option linter.unusedSimpArgs false
set_option linter.unnecessarySimpa false

/-! ### The devices of a user -/
def rowS (l : List ByteArray) : AV := .row false l.length (l.map (fun s => .v (.string s)))
/-- Names, rising. -/
def namesD (S : St) (u : ByteArray) : List ByteArray := sortS ((S.ds.filter (fun d => decide (d.u = u))).map (·.n))
theorem sortS_perm {l m : List ByteArray} (h : l.Perm m) : sortS l = sortS m := by
  unfold sortS
  congr 1
  have h2 : (bytesL l).Perm (bytesL m) := h.map _
  refine List.Perm.eq_of_pairwise (le := fun x y : List UInt8 => x ≤ y) (fun a b _ _ h1 h2 => List.le_antisymm h1 h2) ?_ ?_ ?_
  · exact (List.pairwise_mergeSort (fun a b c h1 h2 => by simpa using List.le_trans (by simpa using h1) (by simpa using h2)) (fun a b => by simpa using List.le_total a b) _).imp (fun h => by simpa using h)
  · exact (List.pairwise_mergeSort (fun a b c h1 h2 => by simpa using List.le_trans (by simpa using h1) (by simpa using h2)) (fun a b => by simpa using List.le_total a b) _).imp (fun h => by simpa using h)
  · exact (List.mergeSort_perm _ _).trans (h2.trans (List.mergeSort_perm _ _).symm)
theorem sortS_permL (l : List ByteArray) : (sortS l).Perm l := by
  unfold sortS
  have h := (List.mergeSort_perm (bytesL l) (fun x y => decide (x ≤ y))).map tx
  have e : (bytesL l).map tx = l := texts_bytes l
  rw [e] at h
  exact h
theorem low_strs (l : List ByteArray) : ∀ c ∈ l.map (fun s => AV.v (.string s)), Low 0 c := by
  intro c hc
  obtain ⟨s, _, rfl⟩ := List.mem_map.1 hc
  simp
theorem nodup_inj {α β : Type} {f : α → β} : ∀ {K : List α}, (K.map f).Nodup → ∀ {a b : α}, a ∈ K → b ∈ K → f a = f b → a = b
  | [], _, _, _, h, _, _ => by simp at h
  | c :: K, hn, a, b, ha, hb, e => by
    obtain ⟨h1, h2⟩ := List.nodup_cons.1 hn
    rcases List.mem_cons.1 ha with ea | ha2 <;> rcases List.mem_cons.1 hb with eb | hb2
    · rw [ea, eb]
    · exact absurd (List.mem_map.2 ⟨b, hb2, by rw [← e, ea]⟩) h1
    · exact absurd (List.mem_map.2 ⟨a, ha2, by rw [e, eb]⟩) h1
    · exact nodup_inj h2 ha2 hb2 e
theorem find_uniq {K : List (Ky × Nat)} (hn : (K.map (·.1)).Nodup) {p : Ky × Nat} (hp : p ∈ K) : K.find? (fun q => decide (q.1 = p.1)) = some p := by
  cases hf : K.find? (fun q => decide (q.1 = p.1)) with
  | none => have := List.find?_eq_none.1 hf p hp; rw [decide_eq_true rfl] at this; simp at this
  | some q =>
    have h1 := List.mem_of_find?_eq_some hf
    have h3 := List.find?_some hf
    have h2 : q.1 = p.1 := of_decide_eq_true h3
    rw [nodup_inj hn h1 hp h2]
def DeInv (H : Hp) (a : Nat) (K : List (Ky × Nat)) (u : ByteArray) (it m N : Nat) (n : Nat) (xs : List AV) (H5 : Hp) : Prop :=
  ∃ (O : List (Ky × Nat)) (v : AV), xs = [.v (.string u), v, .it it] ∧ IterAt Try.prog 63 H5 it m (fD K) N (O.map (fun p => keyV p.1)) ∧ (∀ p ∈ O, p ∈ K) ∧ NewK 1 H H5 ((O.filter (fun p => decide (p.1.1 = u))).map (·.1.2)).length (((O.filter (fun p => decide (p.1.1 = u))).map (·.1.2)).map (fun s => .v (.string s))) v ∧ Same [] H H5 ∧ n = N - O.length ∧ O.length ≤ N
set_option maxRecDepth 20000 in
set_option maxHeartbeats 1000000 in
theorem devices_sp (a : Nat) (S : St) (fp : List Nat) (N0 : Nat) (u : ByteArray) (H : Hp) (Q : AV → Hp → Prop) (hp : PoAt H a S fp) (hk : StOk S N0) (hN : N0 ≤ 100000) (h : Q (rowS (namesD S u)) H) : Sp Try.prog 26 [.ptr a 0 0, .v (.string u)] Q H := by
  refine Sp.newK ?_
  refine Sp.body [(5, ⟨[1, 5, 14], [], []⟩)] ⟨[6], [], []⟩ [] mo Try.func26 rfl (Nat.le_of_ble_eq_true rfl) (by kernel_rfl) ?_
  obtain ⟨m1, m2, R, hp, rfl⟩ := hp
  have hc := hp.c
  have hkeys : ((R.map kb).map (·.1)).Nodup := by
    have := hp.keys hk.k
    rw [List.map_map]; exact this
  have hKlen : (R.map kb).length ≤ 100000 := by
    have : R.length = S.ds.length := by rw [← hp.rd, List.length_map]
    have := hk.l
    rw [List.length_map]; omega
  have hname : namesD S u = sortS (((R.map kb).filter (fun p => decide (p.1.1 = u))).map (·.1.2)) := by
    unfold namesD
    rw [← hp.rd]
    congr 1
    rw [List.filter_map, List.filter_map, List.map_map, List.map_map]
    rfl
  rw [hname] at h
  have hm := hp.m
  generalize R.map kb = K at hm hkeys hKlen h
  simp [ev_seq, ev_region2, evOps_nil, evOps_cons, opG_none, opA_move, opA_assign, opA_call, putO_some, putH_lt, opS, opV, Go.Mx.look, fr0, argSlots, seqK, mapO, callA, ok29]
  refine made_sp a m1 m2 H _ hc ?_
  simp [ev_skip, ev_seq, ev_cond2, ev_region2, evOps_nil, evOps_cons, opG_none, opA_move, opA_assign, opA_un, opA_load, opA_fieldAddr, opA_nilCheck, putO_some, putH_lt, putC_lt, condB_false, unT, loadT, nilCheckT, fieldAddrT, opS, opV, Go.Mx.look, seqK, Fr.known, unA, partA, loadA, loadS, plusS, nilCheckS, rangeT_some, opA_range, sz52, ag52, Try.underlying55, hc]
  refine hm.range Try.underlying52 (fun H4 N hit hs4 hl4 => ?_)
  generalize hitn : H.length = it at hit
  simp [ev_block, ev_loop, loopK, evOps_nil, putC_lt, opS, opV, Go.Mx.look, seqK, mapO, headK, getV, getB, chkP, firstReg]
  refine LoopC.intro (fun n xs _ H5 => DeInv H a K u it m1 N n xs H5) N ⟨[], _, rfl, hit, by simp, NewK.nil _ _ _, hs4, by simp, by simp⟩ ?_
  clear hit hs4 hl4 H4
  rintro n xs bx H5 ⟨O, v2, rfl, hit, hOK, hO, hs5, rfl, hON⟩
  have hOk : (O.map (·.1)).Nodup := by
    have := hit.nodup
    rw [show O.map (fun p => keyV p.1) = (O.map (·.1)).map keyV by rw [List.map_map]; rfl] at this
    exact List.nodup_iff_pairwise_ne.2 ((List.pairwise_map.1 (List.nodup_iff_pairwise_ne.1 this)).imp (fun {a b} hab e => hab (by rw [e])))
  have hOn : O.Nodup := List.Pairwise.of_map (f := (·.1)) (fun a b hne e => hne (by rw [e])) hOk
  have hOl : O.length ≤ 100000 := Nat.le_trans (hOn.length_le_of_subset hOK) hKlen
  have hOf : ((O.filter (fun p => decide (p.1.1 = u))).map (·.1.2)).length ≤ 100000 := by rw [List.length_map]; exact Nat.le_trans (List.length_filter_le _ _) hOl
  have tlu : ∀ s : ByteArray, (s.toList = u.toList) = (s = u) := fun s => tl_inj s u
  simp [ev_seq, ev_region2, evOps_cons, opG_none, opS, opV, Go.Mx.look, mkFr, slotsOf, ptrsOf, boxesOf, nextT_some, opA_next]
  refine hit.next (fun H6 key val hf hkg hnd hlt hit6 hent hs6 hl6 => ?_) (fun hall => ?_)
  · obtain ⟨p, hpK, rfl, rfl⟩ := fD_some hf
    have hs7 : Same [] H H6 := hs5.trans hs6 (by simp; omega)
    have hO6 := hO.same hs6 (fun id ver hv => by
      rcases hO with ⟨_, _, h2⟩ | ⟨_, _, id2, ver2, tl, h2, h3, _⟩
      · rw [h2] at hv; simp at hv
      · rw [h2] at hv; simp at hv
        obtain ⟨es, c, ds, h4, _⟩ := hit
        simp only [List.mem_singleton]
        rintro rfl
        rw [← hv.1, h3] at h4; simp at h4)
    have hKN : O.length < N := by simpa using hlt
    simp only [keyV] at hent
    have hfa : (O ++ [p]).filter (fun p => decide (p.1.1 = u)) = O.filter (fun p => decide (p.1.1 = u)) ++ (if p.1.1 = u then [p] else []) := by
      rw [List.filter_append]
      by_cases hu : p.1.1 = u
      · rw [if_pos hu, List.filter_cons, decide_eq_true hu]; rfl
      · rw [if_neg hu, List.filter_cons, decide_eq_false hu]; rfl
    simp [ev_skip, ev_seq, ev_cond2, ev_block, ev_region2, evOps_nil, evOps_cons, opG_none, opA_move, opA_bin, opA_extract, opA_load, opA_indexAddr, opA_alloc, opA_store, opA_buildSlice, opA_append, putO_some, putH_lt, putC_lt, putU_none, condB_true, binT_some, binA, avO_some, extractT, loadT, indexAddrT, allocT, storeT, buildSliceT, appendT, strOp, opS, opV, Go.Mx.look, seqK, blockK, Fr.known, Fr.newBox, dropBp, mapO, extractA, cellsA_v, cellsA_agg, okPart_v, okPart_agg, Value.oneCell', partA, loadS, plusS, indexArrA, fillA, newK, storeS, headK, getV, getB, chkP, bindO, srcTy, orO_some, eqT_some, opA_entry, entryT_some, sz9, ag9, tk9, by9, ze9, st48, Try.underlying48, sz63, ze63, Try.underlying63, hent, splice, tlu]
    refine ⟨fun hu => ?_, fun hu => ?_⟩
    · rw [if_pos hu] at hfa
      refine hO6.app (by simp) hs7.1 (by omega) (fun v3 H7 fp hO7 hs8 hfp => ?_)
      have hnot : ∀ j o, H6[j]? = some o → (∀ ver cs, o ≠ .cells ver cs) → j ∉ fp := fun j o hj hno hm => by
        obtain ⟨_, ver, ds, h1⟩ := hfp j hm
        rw [h1] at hj; simp at hj
        exact hno ver ds hj.symm
      have hit7 : IterAt Try.prog 63 H7 it m1 (fD K) N (O.map (fun p => keyV p.1) ++ [keyV p.1]) := by
        refine hit6.same hs8 ?_ ?_
        · obtain ⟨es, c, ds, h4, _⟩ := hit6; exact hnot _ _ h4 (by simp)
        · obtain ⟨es, c, ds, _, h4, _⟩ := hit6; exact hnot _ _ h4 (by simp)
      simp [evOps_nil, evOps_cons, opG_none, opA_assign, putO_some, putH_lt, putC_lt, opS, opV, Go.Mx.look, seqK, blockK, mapO, headK, getV, getB, chkP]
      refine ⟨N - (O.length + 1), by omega, O ++ [p], v3, rfl, by simpa using hit7, by simpa [or_imp, forall_and] using ⟨fun a b c h => hOK ((a, b), c) h, hpK⟩, ?_, hs7.new hs8 (fun j hj => (hfp j hj).1), by simp, by simp; omega⟩
      rw [hfa]
      simpa using hO7
    · rw [if_neg hu, List.append_nil] at hfa
      exact ⟨N - (O.length + 1), by omega, O ++ [p], v2, rfl, by simpa using hit6, by simpa [or_imp, forall_and] using ⟨fun a b c h => hOK ((a, b), c) h, hpK⟩, by rw [hfa]; exact hO6, hs7, by simp, by simp; omega⟩
  · have hKn : K.Nodup := List.Pairwise.of_map (f := (·.1)) (fun a b hne e => hne (by rw [e])) hkeys
    have hperm : O.Perm K := by
      refine (List.perm_ext_iff_of_nodup hOn hKn).2 (fun p => ⟨hOK p, fun hpK => ?_⟩)
      have hfind := find_uniq hkeys hpK
      have := hall (keyV p.1) (.ptr p.2 0 0) (by rw [fD_key, hfind]; rfl)
      obtain ⟨q, hq, e⟩ := List.mem_map.1 this
      rw [← nodup_inj hkeys (hOK q hq) hpK (keyV_inj e)]; exact hq
    have hperm2 : ((O.filter (fun p => decide (p.1.1 = u))).map (·.1.2)).Perm ((K.filter (fun p => decide (p.1.1 = u))).map (·.1.2)) := (hperm.filter _).map _
    have hso := sortS_perm hperm2
    rw [← hso] at h
    generalize (O.filter (fun p => decide (p.1.1 = u))).map (·.1.2) = L at hO h hOf
    simp [ev_seq, ev_cond2, ev_exit, ev_region2, evOps_nil, evOps_cons, opG_none, opA_move, opA_extract, opA_call, putO_some, putH_lt, putC_lt, condB_false, extractT, opS, opV, Go.Mx.look, seqK, blockK, Fr.known, mapO, callA, extractA]
    rcases hO with ⟨h1, h2, rfl⟩ | ⟨h0, h1, id, ver, tl, rfl, h3, h4⟩
    · have hL0 : L = [] := by simpa using h1
      subst hL0
      refine Sp.sortNilS lays190 ?_
      simp [ev_seq, ev_ret, ev_region2, evOps_nil, evOps_cons, opG_none, opA_move, opA_assign, putO_some, putH_lt, putC_lt, opS, opV, Go.Mx.look, seqK, retK, retA, resA, mapO]
      exact ⟨hs5, 1, 0, [], NewK.nil _ _ _, by simp, by simpa [rowS, sortS, textsL, bytesL] using h⟩
    · refine Sp.sortStrs lays190 h3 (by simp) (fun j x hj => by
        simp only [Nat.zero_add]
        rw [List.getElem?_append_left (by have := (List.getElem?_eq_some_iff.1 hj).1; simpa using this)]
        simp [hj, strV]) (by omega) ?_
      simp [ev_seq, ev_ret, ev_region2, evOps_nil, evOps_cons, opG_none, opA_move, opA_assign, putO_some, putH_lt, putC_lt, opS, opV, Go.Mx.look, seqK, retK, retA, resA, mapO]
      have hsl : (sortS L).length = L.length := sortS_len L
      refine ⟨hs5.new (Same.set (fp := [id]) (by simp)) (by simpa using h4), 1, L.length, (sortS L).map (fun s => .v (.string s)), .inr ⟨h0, by simp [hsl], id, ver, tl, rfl, ?_, h4⟩, low_strs _, ?_⟩
      · rw [List.getElem?_set_self (Hp.lt h3)]
        have hs : splice (L.map (fun s => AV.v (.string s)) ++ tl) 0 ((sortS L).map strV) = (sortS L).map (fun s => AV.v (.string s)) ++ tl := by
          unfold splice
          rw [List.take_zero, List.nil_append, Nat.zero_add, List.length_map, hsl]
          have : (L.map (fun s => AV.v (.string s)) ++ tl).drop L.length = tl := by
            rw [List.drop_append_of_le_length (by simp)]
            have : (L.map (fun s => AV.v (.string s))).drop L.length = [] := List.drop_eq_nil_of_le (by simp)
            rw [this]; rfl
          rw [this]; rfl
        rw [hs]
      · have : (L.length : Nat) = (sortS L).length := hsl.symm
        rw [this]; exact h
theorem devicesN_sp (v : AV) (u : ByteArray) (H : Hp) (Q : AV → Hp → Prop) (hv : NoPo H v) (h : Q (rowS []) H) : Sp Try.prog 26 [v, .v (.string u)] Q H := by
  refine Sp.weak ?_
  refine Sp.body [(5, ⟨[1, 5, 14], [], []⟩)] ⟨[6], [], []⟩ [] mo Try.func26 rfl (Nat.le_of_ble_eq_true rfl) (by kernel_rfl) ?_
  simp [ev_seq, ev_region2, evOps_nil, evOps_cons, opG_none, opA_move, opA_assign, opA_call, putO_some, putH_lt, opS, opV, Go.Mx.look, fr0, argSlots, seqK, mapO, callA, ok29]
  refine madeN_sp v H _ hv ?_
  simp [ev_seq, ev_cond2, ev_ret, ev_region2, evOps_nil, evOps_cons, opG_none, opA_assign, opA_un, putO_some, putH_lt, putC_lt, condB_true, unT, opS, opV, Go.Mx.look, seqK, Fr.known, retK, retA, resA, mapO, unA]
  exact ⟨_, Wk.nil _, h⟩
end Go.Proofs.Ytamhmecfjkahdaa
