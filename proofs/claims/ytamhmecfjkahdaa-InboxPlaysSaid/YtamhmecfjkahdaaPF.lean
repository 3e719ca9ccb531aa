import Derived.Test.YtamhmecfjkahdaaPD
namespace Go.Proofs.Ytamhmecfjkahdaa
open Go.Mx
set_option linter.unusedVariables false
set_option linter.unusedSimpArgs false
set_option linter.unnecessarySimpa false

/-- A tuple that begins with a slice of one's own: it is written no more. -/
theorem Sp.rowOut {P : Program} {H : Hp} {f k : Nat} {args : List AV} {Q : AV → Hp → Prop} (h : Sp P f args (fun v H' => ∃ v0 vs n cs, v = .tup (v0 :: vs) ∧ (∀ c ∈ vs, ∃ x, c = .v x) ∧ OwnS k H' n cs v0 ∧ ∀ H'', Same (slId v0) H' H'' → Q (.tup (.row false n cs :: vs)) H'') H) : Sp P f args Q H := by
  intro ρ I w us hs hv
  refine (h ρ I w us hs hv).mono ?_
  rintro e w' ⟨v, u, ρ', I', H', rfl, hm, hvr, v0, vs, n, cs, rfl, hvs, hown, hq⟩
  cases hvr with
  | tup _ us2 hl hus =>
    have h0 := hus 0 _ rfl
    rcases hown with ⟨rfl, rfl, h1⟩ | ⟨hn, h1, id, ver, tl, rfl, hid⟩
    · refine ⟨_, _, ρ', I', H', rfl, hm, .tup _ us2 (by simpa using hl) (fun i c hc => ?_), hq H' (Same.refl _ _)⟩
      cases i with
      | zero =>
        simp at hc; subst hc
        rcases h1 with rfl | rfl
        · exact Wk.nil false _ _ _ h0
        · exact Wk.row _ _ _ h0
      | succ i => exact hus (i + 1) c (by simpa using hc)
    · obtain ⟨I'', hm', hk⟩ := frz_sound hm.st hid
      refine ⟨_, _, ρ', I'', _, rfl, hm.trans hm', .tup _ us2 (by simpa using hl) (fun i c hc => ?_), hq _ (Same.set (by simp [slId]))⟩
      cases i with
      | zero =>
        simp at hc; subst hc
        have := hk _ _ h0
        have e : Go.Mx.frz id ver (cs ++ tl) (.sl id ver k 0 n) = .row false n cs := by
          simp only [Go.Mx.frz, Go.Mx.frz2, Go.Mx.frz1]
          rw [if_pos ⟨trivial, trivial, by simp; omega⟩]
          rw [List.drop_zero, ← h1]; simp
        rw [e] at this; exact this
      | succ i =>
        simp only [List.getElem?_cons_succ] at hc
        obtain ⟨x, rfl⟩ := hvs c (List.mem_of_getElem? hc)
        exact hk _ _ (hus (i + 1) _ (by simpa using hc))
/-- A part of a row of parcels. -/
def PartOf (H : Hp) (v : AV) (ws : List Pa) : Prop := (ws = [] ∧ (v = .v (.slice none 0 0) ∨ ∃ x, v = .row x 0 [])) ∨ ∃ id ver off cs, v = .sl id ver 5 off ws.length ∧ H[id]? = some (.cells ver cs) ∧ off + ws.length * 5 ≤ cs.length ∧ (cs.drop off).take (ws.length * 5) = ws.flatMap paC
theorem sliceT_lo {H H' : Hp} {ws : List Pa} {v : AV} {n g : Nat} (o : OwnS 5 H n (ws.flatMap paC) v) (hn : n = ws.length) (hg : g ≤ n) : ∃ v', sliceT Try.prog H' (some (.slice 30)) (some (.av v)) (some (.v (.int .i64 g))) none = some (.av v') ∧ PartOf H v' (ws.drop g) := by
  subst hn
  rcases o with ⟨e1, _, rfl | rfl⟩ | ⟨e0, e1, id, ver, tl, rfl, hid⟩
  · have : ws = [] := List.eq_nil_of_length_eq_zero e1
    subst this
    have : g = 0 := by simpa using hg
    subst this
    exact ⟨.v (.slice none 0 0), by simp [sliceT, sz30, sliceA], .inl ⟨rfl, .inl rfl⟩⟩
  · have : ws = [] := List.eq_nil_of_length_eq_zero e1
    subst this
    have : g = 0 := by simpa using hg
    subst this
    refine ⟨_, by simp [sliceT, sz30, sliceA, sliceRow]; rfl, .inl ⟨rfl, .inr ⟨_, rfl⟩⟩⟩
  · by_cases hlt : (g : Int) < (ws.length : Int)
    · refine ⟨.sl id ver 5 (0 + (g : Int).toNat * 5) ((ws.length : Int) - (g : Int)).toNat, ?_, .inr ⟨id, ver, 0 + (g : Int).toNat * 5, _, ?_, hid, ?_, ?_⟩⟩
      · simp only [sliceT, sz30, sliceA, sliceSl]
        rw [if_pos trivial, if_pos (by omega), if_pos hlt]; rfl
      · have : ((ws.length : Int) - (g : Int)).toNat = (ws.drop g).length := by simp
        rw [this]
      · simp only [List.length_append, List.length_drop]; rw [e1]; simp; omega
      · have e2 : 0 + (g : Int).toNat * 5 = g * 5 := by simp
        have e3 := flat_drop paC_len g ws
        rw [e2, List.drop_append_of_le_length (by rw [e1]; omega), e3, ← flat_len paC_len]; simp
    · refine ⟨.row false 0 [], ?_, .inl ⟨List.drop_eq_nil_of_le (by omega), .inr ⟨_, rfl⟩⟩⟩
      simp only [sliceT, sz30, sliceA, sliceSl]
      rw [if_pos trivial, if_pos (by omega), if_neg hlt]; rfl
theorem sliceT_hi {H H' : Hp} {ws : List Pa} {v : AV} {n g : Nat} (o : OwnS 5 H n (ws.flatMap paC) v) (hn : n = ws.length) (hg : g ≤ n) : ∃ v', sliceT Try.prog H' (some (.slice 30)) (some (.av v)) none (some (.v (.int .i64 g))) = some (.av v') ∧ PartOf H v' (ws.take g) := by
  subst hn
  rcases o with ⟨e1, _, rfl | rfl⟩ | ⟨e0, e1, id, ver, tl, rfl, hid⟩
  · have : ws = [] := List.eq_nil_of_length_eq_zero e1
    subst this
    have : g = 0 := by simpa using hg
    subst this
    exact ⟨.v (.slice none 0 0), by simp [sliceT, sz30, sliceA], .inl ⟨rfl, .inl rfl⟩⟩
  · have : ws = [] := List.eq_nil_of_length_eq_zero e1
    subst this
    have : g = 0 := by simpa using hg
    subst this
    refine ⟨_, by simp [sliceT, sz30, sliceA, sliceRow]; rfl, .inl ⟨rfl, .inr ⟨_, rfl⟩⟩⟩
  · refine ⟨.sl id ver 5 (0 + (0 : Int).toNat * 5) ((g : Int) - 0).toNat, ?_, .inr ⟨id, ver, 0 + (0 : Int).toNat * 5, _, ?_, hid, ?_, ?_⟩⟩
    · simp only [sliceT, sz30, sliceA, sliceSl]
      rw [if_pos trivial, if_pos (by omega), if_pos (by omega)]; rfl
    · have : ((g : Int) - 0).toNat = (ws.take g).length := by simp; omega
      rw [this]
    · simp only [List.length_append, List.length_take]; rw [e1]; simp; omega
    · have e3 := flat_take paC_len g ws
      have e4 : (ws.take g).length = g := by simp; omega
      rw [e4, ← e3]; simp
      rw [List.take_append_of_le_length (by rw [e1]; omega)]
set_option maxRecDepth 20000 in
theorem clone_sp (v : AV) (ws : List Pa) (H : Hp) (Q : AV → Hp → Prop) (hv : PartOf H v ws) (hl : ws.length ≤ 100000) (h : ∀ v' H', Same [] H H' → OwnS 5 H' ws.length (ws.flatMap paC) v' → (slId v' = [] ∨ slId v' = [H.length]) → Q v' H') : Sp Try.prog 33 [v] Q H := by
  rcases hv with ⟨rfl, rfl | ⟨x, rfl⟩⟩ | ⟨id, ver, off, cs, rfl, h1, h2, h3⟩
  · refine Sp.body [] ⟨[], [], []⟩ [] mo Try.func33 rfl (Nat.le_of_ble_eq_true rfl) (by kernel_rfl) ?_
    simp [ev_seq, ev_cond2, ev_ret, ev_region2, evOps_nil, evOps_cons, opG_none, opA_move, opA_assign, opA_bin, putO_some, putH_lt, condB_true, binT_some, binA, eqRef, avO_some, opS, opV, Go.Mx.look, fr0, argSlots, seqK, Fr.known, retK, retA, resA, mapO, orO_some, eqT_some, tk28]
    exact h _ H (Same.refl _ _) (OwnS.nil _ _) (.inl rfl)
  · refine Sp.clone0 ?_
    exact h _ H (Same.refl _ _) (.inl ⟨rfl, rfl, .inr rfl⟩) (.inl rfl)
  · refine Sp.body [] ⟨[], [], []⟩ [] mo Try.func33 rfl (Nat.le_of_ble_eq_true rfl) (by kernel_rfl) ?_
    simp [ev_skip, ev_seq, ev_cond2, ev_region2, evOps_nil, evOps_cons, opG_none, opA_move, opA_assign, opA_bin, opA_buildSlice, opA_append, putO_some, putH_lt, condB_false, binT_some, binA, eqRef, avO_some, buildSliceT, appendT, repeatL_0, opS, opV, Go.Mx.look, fr0, argSlots, seqK, Fr.known, mapO, fillA, bindO, srcTy, orO_some, eqT_some, tk28, st28, Try.underlying28, sz30, by30, ze30]
    have fin : ∀ H' v', H' = H ++ [.cells 0 (ws.flatMap paC)] → v' = .sl H.length 0 5 0 ws.length → 0 < ws.length → Q v' H' := by
      rintro H' v' rfl rfl hw
      exact h _ _ (Same.app _ _ _) (.inr ⟨hw, flat_len paC_len ws, H.length, 0, [], rfl, by simp⟩) (.inr rfl)
    by_cases hw : ws.length = 0
    · have : ws = [] := List.eq_nil_of_length_eq_zero hw
      subst this
      have h2' : off ≤ cs.length := by simpa using h2
      simp [appA, srcA, h1, h2']
      simp [ev_ret, evOps_nil, evOps_cons, opG_none, opA_assign, putO_some, putH_lt, putC_lt, opS, opV, Go.Mx.look, seqK, retK, retA, resA, mapO]
      exact h _ H (Same.refl _ _) (.inl ⟨rfl, rfl, .inr rfl⟩) (.inl rfl)
    · have h4 : ws ≠ [] := fun e => hw (by simp [e])
      simp [appA, srcA, h1, h2, hw, h3]
      refine ⟨⟨by omega, by omega⟩, ?_⟩
      simp [ev_ret, evOps_nil, evOps_cons, opG_none, opA_assign, putO_some, putH_lt, putC_lt, opS, opV, Go.Mx.look, seqK, retK, retA, resA, mapO]
      have := fin _ _ rfl rfl (by omega)
      simpa using this
/-- What stands behind a poll. -/
def pollN (d : Dv) (since : Int) : Int := min (max 0 since) d.al.length
def pollD (d : Dv) (since : Int) : Dv := ⟨d.u, d.n, d.al, max d.sn (pollN d since).toNat⟩
def pollO (d : Dv) (since limit : Int) : List Pa := (d.al.drop (pollD d since).sn).take (max 0 limit).toNat
def pollR (d : Dv) (since limit : Int) : Int := if pollO d since limit = [] then pollN d since else ((pollD d since).sn + (pollO d since limit).length : Nat)
theorem pollN_le (d : Dv) (since : Int) : 0 ≤ pollN d since ∧ pollN d since ≤ d.al.length := by unfold pollN; omega
def pollS (S : St) (k : Ky) (since : Int) : St := ⟨S.ds.map (fun d => if decide (keyD d = k) then pollD d since else d), S.sent⟩
def rowP (l : List Pa) : AV := .row false l.length (l.flatMap paC)
theorem poll_ds {A B : List Rw} {r r' : Rw} {k : Ky} {since : Int} (h2 : keyD r.d = k) (h3 : ∀ x ∈ A, keyD x.d ≠ k) (h4 : ∀ x ∈ B, keyD x.d ≠ k) (hd : r'.d = pollD r.d since) : (A ++ r' :: B).map (·.d) = ((A ++ r :: B).map (·.d)).map (fun d => if decide (keyD d = k) then pollD d since else d) := by
  have no : ∀ A : List Rw, (∀ x ∈ A, keyD x.d ≠ k) → (A.map (·.d)).map (fun d => if decide (keyD d = k) then pollD d since else d) = A.map (·.d) := fun A hA => by
    rw [List.map_map]
    apply List.map_congr_left
    intro x hx
    show (if decide (keyD x.d = k) then _ else _) = _
    rw [decide_eq_false (hA x hx)]; rfl
  rw [List.map_append, List.map_append, List.map_append, no A h3, List.map_cons, List.map_cons, List.map_cons, no B h4, decide_eq_true h2, hd]; rfl
theorem lim_ok (m : Nat) (limit : Int) : ∃ kk : Nat, (if (m : Int) < if 0 < limit then limit else 0 then (m : Int) else if 0 < limit then limit else 0) = kk ∧ kk ≤ m ∧ kk = min m (max 0 limit).toNat :=
  ⟨min m (max 0 limit).toNat, by split <;> split <;> omega, by omega, rfl⟩
set_option maxRecDepth 20000 in
set_option maxHeartbeats 2000000 in
theorem poll_sp (a : Nat) (S : St) (fp : List Nat) (N : Nat) (u n : ByteArray) (since limit : Int) (H : Hp) (Q : AV → Hp → Prop) (hp : PoAt H a S fp) (hk : StOk S N) (hN : N ≤ 100000) (hu : u.size ≤ 90000) (hn : n.size ≤ 90000)
    (h0 : findD S (u, n) = none → ∀ H', Same [] H H' → Q (.tup [rowP [], .v (.int .i64 0), .v (.int .i64 2)]) H')
    (h1 : ∀ d, findD S (u, n) = some d → ∀ H' fp', PoAt H' a (pollS S (u, n) since) fp' → Stp fp H H' fp' → Q (.tup [rowP (pollO d since limit), .v (.int .i64 (pollR d since limit)), .v (.int .i64 0)]) H') : Sp Try.prog 13 [.ptr a 0 0, .v (.string u), .v (.string n), .v (.int .i64 since), .v (.int .i64 limit)] Q H := by
  refine Sp.rowOut (k := 5) ?_
  refine Sp.body [] ⟨[], [], pl13⟩ tb13 mo Try.func13 rfl (Nat.le_of_ble_eq_true rfl) (by kernel_rfl) ?_
  obtain ⟨m1, m2, R, hp, rfl⟩ := hp
  simp [ev_seq, ev_region2, evOps_nil, evOps_cons, opG_none, opA_move, opA_assign, opA_call, putO_some, putH_lt, opS, opV, Go.Mx.look, fr0, argSlots, seqK, mapO, callA, ok32, pl13]
  refine at_sp a m1 m2 R S u n H _ hp hk.k hu hn (fun hno => ?_) (fun A r B hR h2 h3 h4 => ?_)
  · have hf := findD_no hp hno
    simp [ev_seq, ev_cond2, ev_ret, ev_region2, evOps_nil, evOps_cons, opG_none, opA_move, opA_assign, opA_bin, putO_some, putH_lt, putC_lt, condB_true, binT_some, binA, eqRef, avO_some, opS, opV, Go.Mx.look, seqK, Fr.known, retK, retA, resA, mapO, orO_some, eqT_some, tk59]
    exact ⟨_, _, ⟨rfl, rfl⟩, by simp, 0, [], OwnS.nil _ _, fun H2 hs => h0 hf H2 hs⟩
  · subst hR
    have hf := findD_yes hp h2 h3
    have hdS : r.d ∈ S.ds := by rw [← hp.rd]; simp
    have hdo := hk.d r.d hdS
    obtain ⟨g1, g2⟩ := hp.d.at_ r (by simp)
    obtain ⟨c1, c2⟩ := g2.cells'
    have hl := g2.lenT
    simp only [wlP, List.length_drop] at hl
    have s1 := hdo.s
    have s2 := hdo.l
    have w1 : IntKind.i64.wrap ((r.d.sn : Int) + ((r.d.al.length - r.d.sn : Nat) : Int)) = (r.d.al.length : Int) := by rw [wr_i64 (by omega)]; omega
    have w2 : IntKind.i64.wrap (min (max 0 since) (r.d.al.length : Int) - (r.d.sn : Int)) = min (max 0 since) (r.d.al.length : Int) - (r.d.sn : Int) := by rw [wr_i64 (by omega)]
    have hN1 : (if (r.d.al.length : Int) < if 0 < since then since else 0 then (r.d.al.length : Int) else if 0 < since then since else 0) = pollN r.d since := by
      unfold pollN; split <;> split <;> omega
    obtain ⟨p0, p1⟩ := pollN_le r.d since
    have w2 : IntKind.i64.wrap (pollN r.d since - (r.d.sn : Int)) = pollN r.d since - (r.d.sn : Int) := by rw [wr_i64 (by omega)]
    have hsn : (pollD r.d since).sn = max r.d.sn (pollN r.d since).toNat := rfl
    simp [ev_skip, ev_seq, ev_cond2, ev_region2, evOps_nil, evOps_cons, opG_none, opA_move, opA_assign, opA_bin, opA_load, opA_fieldAddr, opA_nilCheck, opA_len, opA_max, opA_min, opA_slice, putO_some, putH_lt, putC_lt, condB_false, binT_some, binA, eqRef, avO_some, loadT, nilCheckT, maxT, minT, maxA, minA, fieldAddrT, bndT, io_add, io_sub, io_gtr, opS, opV, Go.Mx.look, seqK, Fr.known, partA, loadA, loadS, plusS, nilCheckS, orO_some, eqT_some, ev_draw, drawK, evP_nil, evP_q, evP_s, opAt_some, chkK_eq, allQ_nil, sz2, ag2, tk2, sz28, ag28, Try.underlying28, tk59, Try.underlying62, g1, cellP, hl, w1, hN1, w2]
    refine ⟨fun hg => ?_, fun hg => ?_⟩
    · · have hal : (wlP r.d).length = r.d.al.length - r.d.sn := by simp [wlP]
        obtain ⟨g, hg'⟩ : ∃ g : Nat, pollN r.d since - (r.d.sn : Int) = g := ⟨(pollN r.d since - (r.d.sn : Int)).toNat, by omega⟩
        have hgs : g ≤ r.d.al.length - r.d.sn := by omega
        have hg0 : 0 < g := by omega
        have hsn3 : (pollD r.d since).sn = r.d.sn + g := by rw [hsn]; omega
        obtain ⟨v', hv', hpo⟩ := sliceT_lo (H' := H) (g := g) g2 rfl (by rw [hal]; exact hgs)
        have hwd : (wlP r.d).drop g = r.d.al.drop (r.d.sn + g) := by simp [wlP]
        rw [hwd] at hpo
        simp [evOps_cons, opG_none, opA_call, putO_some, putH_lt, opS, opV, Go.Mx.look, mapO, callA, ok33, hg', hv']
        refine clone_sp v' _ H _ hpo (by simp; omega) (fun v2 H2 hs2 o2 hid2 => ?_)
        have g1' := hs2.2 _ _ g1 (by simp)
        have hb2 : r.b < H2.length := Hp.lt g1'
        obtain ⟨d1, d2⟩ := o2.cells'
        have hl3 := o2.lenT
        rw [List.length_drop] at hl3
        have gs : ∀ o, (H2.set r.b o)[r.b]? = some o := fun o => List.getElem?_set_self hb2
        simp [ev_seq, ev_region2, evOps_nil, evOps_cons, opG_none, opA_move, opA_load, opA_fieldAddr, opA_nilCheck, opA_len, opA_max, opA_min, opA_store, opA_slice, putO_some, putH_lt, putC_lt, putU_none, loadT, nilCheckT, maxT, minT, maxA, minA, fieldAddrT, storeT, bndT, opS, opV, Go.Mx.look, seqK, cellsA_v, okPart_v, Value.oneCell', partA, loadA, loadS, plusS, nilCheckS, storeS, ev_draw, drawK, evP_q, opAt_some, sz2, sz28, ag28, Try.underlying28, Try.underlying62, g1', cellP, d1, d2, splice, hl3, gs]
        have hPN : pollN r.d since = ((r.d.sn + g : Nat) : Int) := by omega
        have hbl : ∀ j ∈ slId v2, j = H.length := fun j hj => by
          rcases hid2 with e | e <;> rw [e] at hj <;> simpa using hj
        have hrb : r.b < H.length := Hp.lt g1
        have hset : Same [r.b] H2 (H2.set r.b (.cells 0 [v2, .v (.int .i64 (pollN r.d since))])) := Same.set (by simp)
        obtain ⟨P3, S3⟩ := PoR.upd (H' := H2.set r.b (.cells 0 [v2, .v (.int .i64 (pollN r.d since))])) (r' := ⟨pollD r.d since, r.b, v2⟩) hp ((hs2.wide (by simp)).trans (hset.wide (fp' := fpR r) (by simp [fpR])) (fun j hj => .inl hj)) ⟨by rw [gs]; simp only [cellP, hsn3, hPN], by simp only [wlP, hsn3]; exact o2.same hset (fun j hj => by rw [hbl j hj]; simp; omega)⟩ rfl rfl (fun j hj => by
          rcases List.mem_cons.1 hj with rfl | hj
          · exact .inl (by simp [fpR])
          · exact .inr (by rw [hbl j hj]; exact Nat.le_refl _)) (by
          simp only [fpR, List.nodup_cons]
          exact ⟨fun hm => by have := hbl _ hm; omega, o2.nodup⟩)
        have hds := poll_ds (since := since) (r' := ⟨pollD r.d since, r.b, v2⟩) h2 h3 h4 rfl
        rw [hds, hp.rd] at P3
        have G1 := gs (.cells 0 [v2, .v (.int .i64 (pollN r.d since))])
        have o3 := o2.same hset (fun j hj => by rw [hbl j hj]; simp; omega)
        replace P3 : PoAt _ a (pollS S (u, n) since) _ := ⟨m1, m2, _, P3, rfl⟩
        have PN3 : pollN r.d since = pollN r.d since := rfl
        generalize hH3 : H2.set r.b (.cells 0 [v2, .v (.int .i64 (pollN r.d since))]) = H3 at *
        rw [hPN] at G1
        have E3 := hsn3
        generalize r.d.sn + g = sn3 at *
        generalize [a, m1, m2] ++ fpL (A ++ ⟨pollD r.d since, r.b, v2⟩ :: B) = fp3 at *
        obtain ⟨kk, hK, hkk, hke⟩ := lim_ok (r.d.al.length - sn3) limit
        obtain ⟨v4, hv4, hp4⟩ := sliceT_hi (H' := H3) (g := kk) o3 rfl (by rw [List.length_drop]; exact hkk)
        simp [opG_none, opA_call, putO_some, putH_lt, opS, opV, Go.Mx.look, mapO, callA, evP_s, opAt_some, ok33, hK, hv4]
        refine clone_sp v4 _ H3 _ hp4 (by simp; omega) (fun v5 H5 hs5 o5 hid5 => ?_)
        have out : (r.d.al.drop sn3).take kk = pollO r.d since limit := by
          unfold pollO
          rw [E3, hke]
          rcases Nat.le_total (r.d.al.length - sn3) (max 0 limit).toNat with h | h
          · rw [Nat.min_eq_left h, List.take_of_length_le (by simp), List.take_of_length_le (by simp; omega)]
          · rw [Nat.min_eq_right h]
        rw [out] at o5
        have hpl : (pollO r.d since limit).length ≤ r.d.al.length := by rw [← out]; simp; omega
        have P5 : PoAt H5 a (pollS S (u, n) since) fp3 := P3.same hs5 (by simp)
        have G5 := hs5.2 _ _ G1 (by simp)
        have hl5 := o5.lenT
        have hlt3 := P3.lt
        have hid6 : ∀ j ∈ slId v5, j = H3.length := fun j hj => by
          rcases hid5 with e | e <;> rw [e] at hj <;> simpa using hj
        have fin : ∀ H6, Same (slId v5) H5 H6 → Q (.tup [rowP (pollO r.d since limit), .v (.int .i64 (pollR r.d since limit)), .v (.int .i64 0)]) H6 := fun H6 hs6 =>
          h1 _ hf H6 fp3 (P5.same hs6 (fun j hj hm => by have e1 := hid6 j hm; have e2 := hlt3 j hj; omega)) ⟨(S3.1.trans hs5 (by simp)).trans hs6 (fun j hj => .inr (by rw [hid6 j hj]; exact S3.1.1)), S3.2⟩
        have w9 : IntKind.i64.wrap ((sn3 : Int) + ((pollO r.d since limit).length : Int)) = ((sn3 + (pollO r.d since limit).length : Nat) : Int) := by rw [wr_i64 (by omega)]; omega
        unfold pollR at fin
        rw [E3] at fin
        simp [ev_skip, ev_seq, ev_cond2, ev_ret, ev_region2, evOps_nil, evOps_cons, opG_none, opA_move, opA_assign, opA_bin, opA_load, opA_fieldAddr, opA_nilCheck, opA_len, putO_some, putH_lt, putC_lt, binT_some, binA, avO_some, loadT, nilCheckT, fieldAddrT, io_add, io_gtr, opS, opV, Go.Mx.look, seqK, Fr.known, retK, retA, resA, mapO, partA, loadA, loadS, plusS, nilCheckS, orO_some, eqT_some, evP_nil, evP_s, opAt_some, chkK_eq, allQ_nil, sz2, ag2, tk2, tk3, Try.underlying28, Try.underlying62, G5, hl5, w9]
        refine ⟨fun hpos => ?_, fun hz => ?_⟩
        · rw [if_neg (by first | exact hpos | exact List.ne_nil_of_length_pos hpos)] at fin
          exact ⟨_, _, ⟨rfl, rfl⟩, by simp, _, _, o5, fun H6 hs6 => by simpa [rowP] using fin H6 hs6⟩
        · rw [if_pos (by first | exact hz | exact List.eq_nil_of_length_eq_zero (by omega))] at fin
          exact ⟨_, _, ⟨rfl, rfl⟩, by simp, _, _, o5, fun H6 hs6 => by simpa [rowP, PN3] using fin H6 hs6⟩
    · have hsn3 : (pollD r.d since).sn = r.d.sn := by rw [hsn]; omega
      have hds := poll_ds (since := since) (r' := ⟨pollD r.d since, r.b, r.v⟩) h2 h3 h4 rfl
      have hself : pollD r.d since = r.d := by unfold pollD; rw [show max r.d.sn (pollN r.d since).toNat = r.d.sn by omega]
      rw [hself] at hds
      have hpS : pollS S (u, n) since = S := by
        unfold pollS
        rw [← hp.rd, ← hds, hp.rd]
      have P3 : PoAt H a (pollS S (u, n) since) ([a, m1, m2] ++ fpL (A ++ r :: B)) := by rw [hpS]; exact ⟨m1, m2, _, hp, rfl⟩
      have S3 := Stp.refl ([a, m1, m2] ++ fpL (A ++ r :: B)) H
      have G1 := g1
      simp only [cellP] at G1
      have o3 := g2
      simp only [wlP] at o3
      have E3 := hsn3
      have PN3 : pollN r.d since = pollN r.d since := rfl
      generalize hH3 : H = H3 at *
      generalize hsn4 : r.d.sn = sn3 at *
      generalize [a, m1, m2] ++ fpL (A ++ r :: B) = fp3 at *
      obtain ⟨kk, hK, hkk, hke⟩ := lim_ok (r.d.al.length - sn3) limit
      obtain ⟨v4, hv4, hp4⟩ := sliceT_hi (H' := H3) (g := kk) o3 rfl (by rw [List.length_drop]; exact hkk)
      simp [opG_none, opA_call, putO_some, putH_lt, opS, opV, Go.Mx.look, mapO, callA, evP_s, opAt_some, ok33, hK, hv4]
      refine clone_sp v4 _ H3 _ hp4 (by simp; omega) (fun v5 H5 hs5 o5 hid5 => ?_)
      have out : (r.d.al.drop sn3).take kk = pollO r.d since limit := by
        unfold pollO
        rw [E3, hke]
        rcases Nat.le_total (r.d.al.length - sn3) (max 0 limit).toNat with h | h
        · rw [Nat.min_eq_left h, List.take_of_length_le (by simp), List.take_of_length_le (by simp; omega)]
        · rw [Nat.min_eq_right h]
      rw [out] at o5
      have hpl : (pollO r.d since limit).length ≤ r.d.al.length := by rw [← out]; simp; omega
      have P5 : PoAt H5 a (pollS S (u, n) since) fp3 := P3.same hs5 (by simp)
      have G5 := hs5.2 _ _ G1 (by simp)
      have hl5 := o5.lenT
      have hlt3 := P3.lt
      have hid6 : ∀ j ∈ slId v5, j = H3.length := fun j hj => by
        rcases hid5 with e | e <;> rw [e] at hj <;> simpa using hj
      have fin : ∀ H6, Same (slId v5) H5 H6 → Q (.tup [rowP (pollO r.d since limit), .v (.int .i64 (pollR r.d since limit)), .v (.int .i64 0)]) H6 := fun H6 hs6 =>
        h1 _ hf H6 fp3 (P5.same hs6 (fun j hj hm => by have e1 := hid6 j hm; have e2 := hlt3 j hj; omega)) ⟨(S3.1.trans hs5 (by simp)).trans hs6 (fun j hj => .inr (by rw [hid6 j hj]; exact S3.1.1)), S3.2⟩
      have w9 : IntKind.i64.wrap ((sn3 : Int) + ((pollO r.d since limit).length : Int)) = ((sn3 + (pollO r.d since limit).length : Nat) : Int) := by rw [wr_i64 (by omega)]; omega
      unfold pollR at fin
      rw [E3] at fin
      simp [ev_skip, ev_seq, ev_cond2, ev_ret, ev_region2, evOps_nil, evOps_cons, opG_none, opA_move, opA_assign, opA_bin, opA_load, opA_fieldAddr, opA_nilCheck, opA_len, putO_some, putH_lt, putC_lt, binT_some, binA, avO_some, loadT, nilCheckT, fieldAddrT, io_add, io_gtr, opS, opV, Go.Mx.look, seqK, Fr.known, retK, retA, resA, mapO, partA, loadA, loadS, plusS, nilCheckS, orO_some, eqT_some, evP_nil, evP_s, opAt_some, chkK_eq, allQ_nil, sz2, ag2, tk2, tk3, Try.underlying28, Try.underlying62, G5, hl5, w9]
      refine ⟨fun hpos => ?_, fun hz => ?_⟩
      · rw [if_neg (by first | exact hpos | exact List.ne_nil_of_length_pos hpos)] at fin
        exact ⟨_, _, ⟨rfl, rfl⟩, by simp, _, _, o5, fun H6 hs6 => by simpa [rowP] using fin H6 hs6⟩
      · rw [if_pos (by first | exact hz | exact List.eq_nil_of_length_eq_zero (by omega))] at fin
        exact ⟨_, _, ⟨rfl, rfl⟩, by simp, _, _, o5, fun H6 hs6 => by simpa [rowP, PN3] using fin H6 hs6⟩
end Go.Proofs.Ytamhmecfjkahdaa

namespace Go.Proofs.Ytamhmecfjkahdaa
open Go.Mx
set_option linter.unusedVariables false
set_option linter.unusedSimpArgs false
set_option linter.unnecessarySimpa false

/-! ### Sending -/
def star : ByteArray := ⟨#[42]⟩
def noT : ByteArray := ⟨#[]⟩
def anyN (L : List ByteArray) (n : ByteArray) : Bool := L.any (fun s => decide (s = n))
theorem anyN_iff {L : List ByteArray} {n : ByteArray} : anyN L n = true ↔ n ∈ L := by
  unfold anyN
  rw [List.any_eq_true]
  exact ⟨fun ⟨s, h1, h2⟩ => of_decide_eq_true h2 ▸ h1, fun h => ⟨n, h, decide_eq_true rfl⟩⟩
def toB (x : Pa) (d : Dv) : Bool := decide (d.u = x.to) && (decide (d.n = x.dv) || decide (x.dv = star))
def push (x : Pa) (d : Dv) : Dv := ⟨d.u, d.n, d.al ++ [x], d.sn⟩
def fullB (d : Dv) : Bool := decide (200 ≤ d.al.length - d.sn)
def goodX (x : Pa) : Bool := userOk x.fr && (userOk x.to && (!decide (x.tx_ = noT) && (namedB x.dv || decide (x.dv = star))))
def sendN (S : St) (x : Pa) : Nat := (S.ds.filter (toB x)).length
def sendE (S : St) (x : Pa) : Int := if goodX x then (if seenB S (keyP x) then 4 else if sendN S x = 0 then 2 else if (S.ds.filter (toB x)).any fullB then 3 else 0) else 1
def sendS (S : St) (x : Pa) : St := if sendE S x = 0 then ⟨S.ds.map (fun d => if toB x d then push x d else d), S.sent ++ [x]⟩ else S
def sendR (S : St) (x : Pa) : Nat := if sendE S x = 0 then sendN S x else 0
/-- The names that are gone through. -/
def namesX (S : St) (x : Pa) : List ByteArray := if x.dv = star then namesD S x.to else [x.dv]
def hitsL (S : St) (u : ByteArray) (L : List ByteArray) : List Dv := L.filterMap (fun n => findD S (u, n))
theorem find_mem {S : St} {k : Ky} {d : Dv} (h : findD S k = some d) : d ∈ S.ds ∧ keyD d = k := by
  have h1 := List.find?_some h
  exact ⟨List.mem_of_find?_eq_some h, of_decide_eq_true h1⟩
theorem find_of {S : St} (hn : (S.ds.map keyD).Nodup) {d : Dv} (hd : d ∈ S.ds) : findD S (keyD d) = some d := by
  unfold findD
  cases hf : S.ds.find? (fun e => decide (keyD e = keyD d)) with
  | none => have := List.find?_eq_none.1 hf d hd; rw [decide_eq_true rfl] at this; simp at this
  | some q =>
    have h1 := List.mem_of_find?_eq_some hf
    have h3 := List.find?_some hf
    have h2 : keyD q = keyD d := of_decide_eq_true h3
    rw [nodup_inj hn h1 hd h2]
theorem ds_nodup {S : St} (hn : (S.ds.map keyD).Nodup) : S.ds.Nodup := List.Pairwise.of_map (f := keyD) (fun a b hne e => hne (by rw [e])) hn
theorem hits_perm {S : St} (hn : (S.ds.map keyD).Nodup) (u : ByteArray) {L : List ByteArray} (hL : L.Nodup) : (hitsL S u L).Perm (S.ds.filter (fun d => decide (d.u = u) && anyN L d.n)) := by
  refine (List.perm_ext_iff_of_nodup ?_ ((ds_nodup hn).filter _)).2 (fun d => ?_)
  · unfold hitsL
    rw [List.nodup_iff_pairwise_ne, List.pairwise_filterMap]
    refine (List.nodup_iff_pairwise_ne.1 hL).imp (fun {a b} hab d hd e he hde => hab ?_)
    have h1 := (find_mem hd).2
    have h2 := (find_mem he).2
    rw [hde] at h1
    have := h1.symm.trans h2
    exact (Prod.ext_iff.1 this).2
  · unfold hitsL
    rw [List.mem_filterMap, List.mem_filter, Bool.and_eq_true, decide_eq_true_iff, anyN_iff]
    constructor
    · rintro ⟨n, h1, h2⟩
      obtain ⟨h3, h4⟩ := find_mem h2
      obtain ⟨h5, h6⟩ := Prod.ext_iff.1 h4
      exact ⟨h3, h5, by rw [show d.n = n from h6]; exact h1⟩
    · rintro ⟨h1, h2, h3⟩
      exact ⟨d.n, h3, by rw [← h2]; exact find_of hn h1⟩
theorem names_nodup {S : St} (hn : (S.ds.map keyD).Nodup) (u : ByteArray) : (namesD S u).Nodup := by
  unfold namesD
  refine (sortS_permL _).nodup_iff.2 ?_
  rw [List.nodup_iff_pairwise_ne, List.pairwise_map]
  refine (List.pairwise_filter.2 ((List.pairwise_map.1 (List.nodup_iff_pairwise_ne.1 hn)).imp (fun {a b} hab ha hb e => hab ?_)))
  exact Prod.ext ((of_decide_eq_true ha).trans (of_decide_eq_true hb).symm) e
theorem names_mem {S : St} {u n : ByteArray} : n ∈ namesD S u ↔ ∃ d ∈ S.ds, d.u = u ∧ d.n = n := by
  unfold namesD
  rw [(sortS_permL _).mem_iff, List.mem_map]
  constructor
  · rintro ⟨d, h1, h2⟩
    obtain ⟨h3, h4⟩ := List.mem_filter.1 h1
    exact ⟨d, h3, of_decide_eq_true h4, h2⟩
  · rintro ⟨d, h1, h2, h3⟩
    exact ⟨d, List.mem_filter.2 ⟨h1, decide_eq_true h2⟩, h3⟩
theorem namesX_nodup {S : St} (hn : (S.ds.map keyD).Nodup) (x : Pa) : (namesX S x).Nodup := by
  unfold namesX
  split
  · exact names_nodup hn _
  · simp
theorem namesX_to {S : St} (x : Pa) {d : Dv} (hd : d ∈ S.ds) : (decide (d.u = x.to) && anyN (namesX S x) d.n) = toB x d := by
  unfold toB namesX
  by_cases hu : d.u = x.to
  · rw [decide_eq_true hu]
    simp only [Bool.true_and]
    by_cases hs : x.dv = star
    · rw [if_pos hs, decide_eq_true hs, Bool.or_true, anyN_iff]
      exact names_mem.2 ⟨d, hd, hu, rfl⟩
    · rw [if_neg hs, decide_eq_false hs, Bool.or_false]
      simp only [anyN, List.any_cons, List.any_nil, Bool.or_false]
      rw [Bool.eq_iff_iff, decide_eq_true_iff, decide_eq_true_iff]
      exact eq_comm
  · rw [decide_eq_false hu]; rfl
theorem hits_to {S : St} (hn : (S.ds.map keyD).Nodup) (x : Pa) : (hitsL S x.to (namesX S x)).Perm (S.ds.filter (toB x)) := by
  have h := hits_perm hn x.to (namesX_nodup hn x)
  have e : S.ds.filter (fun d => decide (d.u = x.to) && anyN (namesX S x) d.n) = S.ds.filter (toB x) := List.filter_congr (fun d hd => namesX_to x hd)
  rw [e] at h; exact h
theorem hits_any {l m : List Dv} (h : l.Perm m) (f : Dv → Bool) : l.any f = m.any f := by
  rw [Bool.eq_iff_iff, List.any_eq_true, List.any_eq_true]
  exact ⟨fun ⟨d, h1, h2⟩ => ⟨d, h.mem_iff.1 h1, h2⟩, fun ⟨d, h1, h2⟩ => ⟨d, h.mem_iff.2 h1, h2⟩⟩
def pushK (k : Ky) (x : Pa) (d : Dv) : Dv := if decide (keyD d = k) then push x d else d
def pushL (u : ByteArray) (x : Pa) (L : List ByteArray) (ds : List Dv) : List Dv := L.foldl (fun ds n => ds.map (pushK (u, n) x)) ds
theorem pushL_eq (u : ByteArray) (x : Pa) : ∀ (L : List ByteArray) (ds : List Dv), L.Nodup → pushL u x L ds = ds.map (fun d => if decide (d.u = u) && anyN L d.n then push x d else d)
  | [], ds, _ => by
    have e : (fun d : Dv => if decide (d.u = u) && anyN [] d.n then push x d else d) = id := by funext d; simp [anyN]
    rw [e, List.map_id]; rfl
  | n :: L, ds, hn => by
    obtain ⟨h1, h2⟩ := List.nodup_cons.1 hn
    show pushL u x L (ds.map (pushK (u, n) x)) = _
    rw [pushL_eq u x L _ h2, List.map_map]
    apply List.map_congr_left
    intro d _
    simp only [Function.comp]
    unfold pushK
    by_cases hk : keyD d = (u, n)
    · obtain ⟨k1, k2⟩ := Prod.ext_iff.1 hk
      have k1' : d.u = u := k1
      have k2' : d.n = n := k2
      have hno : anyN L n = false := by rw [← Bool.not_eq_true, anyN_iff]; exact h1
      have hyes : anyN (n :: L) n = true := anyN_iff.2 (by simp)
      rw [decide_eq_true hk]
      simp only [if_true, push]
      rw [k2', hno, hyes, decide_eq_true k1']; simp
    · rw [decide_eq_false hk]
      simp only [Bool.false_eq_true, if_false]
      by_cases hu : d.u = u
      · have hne : n ≠ d.n := fun e => hk (Prod.ext hu e.symm)
        have : anyN (n :: L) d.n = anyN L d.n := by
          unfold anyN; rw [List.any_cons, decide_eq_false hne, Bool.false_or]
        rw [this]
      · rw [decide_eq_false hu]; rfl
theorem push_keys (u : ByteArray) (x : Pa) (L : List ByteArray) (ds : List Dv) : (pushL u x L ds).map keyD = ds.map keyD := by
  induction L generalizing ds with
  | nil => rfl
  | cons n L ih =>
    show (pushL u x L (ds.map (pushK (u, n) x))).map keyD = _
    rw [ih, List.map_map]
    apply List.map_congr_left
    intro d _
    simp only [Function.comp, pushK]
    split <;> rfl
theorem pushL_to {S : St} (hn : (S.ds.map keyD).Nodup) (x : Pa) : pushL x.to x (namesX S x) S.ds = S.ds.map (fun d => if toB x d then push x d else d) := by
  rw [pushL_eq _ _ _ _ (namesX_nodup hn x)]
  apply List.map_congr_left
  intro d hd
  rw [namesX_to x hd]
theorem pushL_app (u : ByteArray) (x : Pa) (L : List ByteArray) (n : ByteArray) (ds : List Dv) : pushL u x (L ++ [n]) ds = (pushL u x L ds).map (pushK (u, n) x) := by simp [pushL]

/-! ### Steps keep states in order -/
theorem StOk.enter {S : St} {N : Nat} (h : StOk S N) {u n : ByteArray} (hu : u.size ≤ 1000) (hn : n.size ≤ 1000) : StOk (enterS S u n) (N + 1) := by
  unfold enterS
  by_cases he : enterE S u n = 0
  · rw [if_pos he]
    obtain ⟨_, _, hno⟩ := enterE_cases.1 he
    refine ⟨?_, fun d hd => ?_, by have := h.l; simp; omega, by have := h.s; simp only; omega, h.f⟩
    · rw [List.map_append, List.nodup_append]
      refine ⟨h.k, by simp, fun a ha b hb e => ?_⟩
      simp at hb; subst hb; subst e
      obtain ⟨d, hd, hk⟩ := List.mem_map.1 ha
      have : hasD S (u, n) = true := List.any_eq_true.2 ⟨d, hd, decide_eq_true hk⟩
      rw [hno] at this; simp at this
    · rcases List.mem_append.1 hd with hd | hd
      · exact (h.d d hd).mono (by omega)
      · simp at hd; subst hd
        exact ⟨hu, hn, by simp, by simp, by simp⟩
  · rw [if_neg he]; exact h.mono (by omega)
theorem StOk.leave {S : St} {N : Nat} (h : StOk S N) (k : Ky) : StOk (leaveS S k) N := by
  unfold leaveS
  refine ⟨h.k.sublist (List.Sublist.map _ List.filter_sublist), fun d hd => h.d d (List.mem_filter.1 hd).1, Nat.le_trans (List.length_filter_le _ _) h.l, h.s, h.f⟩
theorem StOk.poll {S : St} {N : Nat} (h : StOk S N) (k : Ky) (since : Int) : StOk (pollS S k since) N := by
  unfold pollS
  refine ⟨?_, fun d hd => ?_, by rw [List.length_map]; exact h.l, h.s, h.f⟩
  · rw [List.map_map]
    have : (keyD ∘ fun d => if decide (keyD d = k) then pollD d since else d) = keyD := by
      funext d; simp only [Function.comp]; split <;> rfl
    rw [this]; exact h.k
  · obtain ⟨e, he, rfl⟩ := List.mem_map.1 hd
    have := h.d e he
    split
    · exact ⟨this.zu, this.zn, by have := pollN_le e since; have := this.2; show max e.sn (pollN e since).toNat ≤ e.al.length; have := ‹DvOk e N›.s; omega, this.l, this.f⟩
    · exact this
theorem StOk.send {S : St} {N : Nat} (h : StOk S N) {x : Pa} (hx : FewP x) : StOk (sendS S x) (N + 1) := by
  unfold sendS
  split
  · refine ⟨?_, fun d hd => ?_, by rw [List.length_map]; have := h.l; omega, by have := h.s; simp; omega, fun p hp => ?_⟩
    · rw [List.map_map]
      have : (keyD ∘ fun d => if toB x d then push x d else d) = keyD := by
        funext d; simp only [Function.comp]; split <;> rfl
      rw [this]; exact h.k
    · obtain ⟨e, he, rfl⟩ := List.mem_map.1 hd
      have := h.d e he
      split
      · refine ⟨this.zu, this.zn, ?_, ?_, fun p hp => ?_⟩
        · have := this.s; simp [push]; omega
        · have := this.l; simp [push]; omega
        · simp only [push] at hp
          rcases List.mem_append.1 hp with hp | hp
          · exact this.f p hp
          · simp at hp; subst hp; exact hx
      · exact this.mono (by omega)
    · rcases List.mem_append.1 hp with hp | hp
      · exact h.f p hp
      · simp at hp; subst hp; exact hx
  · exact h.mono (by omega)
end Go.Proofs.Ytamhmecfjkahdaa

namespace Go.Proofs.Ytamhmecfjkahdaa
open Go.Mx
set_option linter.unusedVariables false
set_option linter.unusedSimpArgs false
set_option linter.unnecessarySimpa false

def rowN (x0 : Bool) (L : List ByteArray) : AV := .row x0 L.length (L.map (fun s => .v (.string s)))
def bxS (x : Pa) : List (List AV) := [paC x, [.v (.string x.fr), .v (.string x.tx_)]]
def SdInv1 (S : St) (a : Nat) (x : Pa) (x0 : Bool) (L : List ByteArray) (H : Hp) (n : Nat) (xs : List AV) (bs : List (List AV)) (H2 : Hp) : Prop :=
  ∃ i : Nat, i ≤ L.length ∧ n = L.length - i ∧ xs = [.ptr a 0 0, rowN x0 L, .v (.bool ((hitsL S x.to (L.take i)).any fullB)), .v (.int .i64 (hitsL S x.to (L.take i)).length), rowN x0 L, .v (.int .i64 L.length), .v (.int .i64 i)] ∧ bs = bxS x ∧ H2 = H
def SdInv2 (S : St) (a : Nat) (fp : List Nat) (x : Pa) (x0 : Bool) (L : List ByteArray) (c : Nat) (H : Hp) (n : Nat) (xs : List AV) (bs : List (List AV)) (H2 : Hp) : Prop :=
  ∃ (i : Nat) (fp' : List Nat), i ≤ L.length ∧ n = L.length - i ∧ xs = [.ptr a 0 0, .v (.int .i64 c), rowN x0 L, .v (.int .i64 L.length), .v (.int .i64 i)] ∧ bs = bxS x ∧ PoAt H2 a ⟨pushL x.to x (L.take i) S.ds, S.sent⟩ fp' ∧ Stp fp H H2 fp'
theorem hits_add (S : St) (u : ByteArray) (L : List ByteArray) (n : ByteArray) : hitsL S u (L ++ [n]) = hitsL S u L ++ (findD S (u, n)).toList := by
  unfold hitsL
  rw [List.filterMap_append]
  cases h : findD S (u, n) <;> simp [h]
theorem names_len (S : St) (x : Pa) : (namesX S x).length ≤ S.ds.length + 1 := by
  unfold namesX
  split
  · unfold namesD
    rw [sortS_len, List.length_map]
    exact Nat.le_trans (List.length_filter_le _ _) (by omega)
  · simp
theorem names_sz {S : St} {N : Nat} (hk : StOk S N) {x : Pa} (hx : FewP x) : ∀ n ∈ namesX S x, n.size ≤ 1000 := by
  unfold FewP at hx
  unfold namesX
  split
  · intro n hn
    obtain ⟨d, h1, _, h3⟩ := names_mem.1 hn
    rw [← h3]; exact (hk.d d h1).zn
  · intro n hn
    simp at hn; subst hn; omega
theorem star_no : namedB star = false := by decide +kernel
theorem names_all {S : St} {x : Pa} (hne : sendN S x ≠ 0) : ∀ nm ∈ namesX S x, ∃ d ∈ S.ds, keyD d = (x.to, nm) := by
  intro nm hnm
  unfold namesX at hnm
  split at hnm
  · obtain ⟨d, h1, h2, h3⟩ := names_mem.1 hnm
    exact ⟨d, h1, Prod.ext h2 h3⟩
  · rename_i hs
    simp at hnm; subst hnm
    unfold sendN at hne
    cases hf : S.ds.filter (toB x) with
    | nil => rw [hf] at hne; simp at hne
    | cons d r =>
      have hd : d ∈ S.ds.filter (toB x) := by rw [hf]; simp
      obtain ⟨h1, h2⟩ := List.mem_filter.1 hd
      unfold toB at h2
      rw [Bool.and_eq_true, Bool.or_eq_true, decide_eq_true_iff, decide_eq_true_iff, decide_eq_true_iff] at h2
      exact ⟨d, h1, Prod.ext h2.1 (h2.2.resolve_right hs)⟩
theorem push_ok (u : ByteArray) (x : Pa) (M : Nat) : ∀ (L : List ByteArray) (ds : List Dv), (∀ d ∈ ds, d.sn ≤ d.al.length ∧ d.al.length ≤ M) → ∀ d ∈ pushL u x L ds, d.sn ≤ d.al.length ∧ d.al.length ≤ M + L.length := by
  intro L ds h
  have : ∀ (L : List ByteArray) (ds : List Dv) (M : Nat), (∀ d ∈ ds, d.sn ≤ d.al.length ∧ d.al.length ≤ M) → ∀ d ∈ pushL u x L ds, d.sn ≤ d.al.length ∧ d.al.length ≤ M + L.length := by
    intro L
    induction L with
    | nil => intro ds M h; exact h
    | cons n L ih =>
      intro ds M h d hd
      have := ih (ds.map (pushK (u, n) x)) (M + 1) (fun e he => by
        obtain ⟨e', he', rfl⟩ := List.mem_map.1 he
        have := h e' he'
        unfold pushK
        split
        · simp [push]; omega
        · omega) d hd
      simp only [List.length_cons]; omega
  exact this L ds M h
theorem push_ds {A B : List Rw} {r r' : Rw} {k : Ky} {x : Pa} (h2 : keyD r.d = k) (h3 : ∀ y ∈ A, keyD y.d ≠ k) (h4 : ∀ y ∈ B, keyD y.d ≠ k) (hd : r'.d = push x r.d) : (A ++ r' :: B).map (·.d) = ((A ++ r :: B).map (·.d)).map (pushK k x) := by
  have no : ∀ A : List Rw, (∀ y ∈ A, keyD y.d ≠ k) → (A.map (·.d)).map (pushK k x) = A.map (·.d) := fun A hA => by
    rw [List.map_map]
    apply List.map_congr_left
    intro y hy
    show pushK k x y.d = _
    unfold pushK
    rw [decide_eq_false (hA y hy)]; rfl
  rw [List.map_append, List.map_append, List.map_append, no A h3, List.map_cons, List.map_cons, List.map_cons, no B h4]
  unfold pushK
  rw [decide_eq_true h2, hd]; rfl
set_option maxRecDepth 20000 in
set_option maxHeartbeats 8000000 in
theorem send_sp (a : Nat) (S : St) (fp : List Nat) (N : Nat) (x : Pa) (H : Hp) (Q : AV → Hp → Prop) (hp : PoAt H a S fp) (hk : StOk S N) (hN : N ≤ 50000) (hx : FewP x)
    (h : ∀ H' fp', PoAt H' a (sendS S x) fp' → Stp fp H H' fp' → Q (.tup [.v (.int .i64 (sendR S x)), .v (.int .i64 (sendE S x))]) H') : Sp Try.prog 12 [.ptr a 0 0, .agg (paC x)] Q H := by
  refine Sp.body [(10, ⟨[0, 7, 8, 9, 62, 63, 64], [(3, 3, 0), (6, 6, 0)], [3, 6]⟩), (24, ⟨[0, 9, 99, 100, 101], [(3, 3, 0), (6, 6, 0)], [3, 6]⟩)] ⟨[3, 6], [], pl12⟩ tb12 mo Try.func12 rfl (Nat.le_of_ble_eq_true rfl) (by kernel_rfl) ?_
  have hp0 := hp
  obtain ⟨m1, m2, R, hp, rfl⟩ := hp
  have hc := hp.c
  have hx2 := hx
  unfold FewP at hx2
  have no : ∀ e : Int, sendE S x = e → e ≠ 0 → Q (.tup [.v (.int .i64 0), .v (.int .i64 e)]) H := fun e he hne => by
    have := h H _ (by unfold sendS; rw [he, if_neg hne]; exact hp0) (Stp.refl _ _)
    unfold sendR at this
    rw [he, if_neg hne] at this
    exact this
  have bad : goodX x = false → Q (.tup [.v (.int .i64 0), .v (.int .i64 1)]) H := fun hg => no 1 (by unfold sendE; rw [hg]; rfl) (by simp)
  have tlx : ∀ s : ByteArray, (s.toList = []) = (s = noT) := fun s => by show _ = (s = tx []); rw [← tl_inj, tx_list]
  have tls : ∀ s : ByteArray, (s.toList = [42]) = (s = star) := fun s => by show _ = (s = tx [42]); rw [← tl_inj, tx_list]
  have hperm := hits_to hk.k x
  have hlenN := hperm.length_eq
  have hanyN := hits_any hperm fullB
  have hnl := names_len S x
  have hnsz := names_sz hk hx
  have hkl := hk.l
  have hall := names_all (S := S) (x := x)
  have hpto := pushL_to hk.k x
  have hse : goodX x = true → sendE S x = if seenB S (keyP x) then 4 else if sendN S x = 0 then 2 else if (S.ds.filter (toB x)).any fullB then 3 else 0 := fun hg => by unfold sendE; rw [hg]; rfl
  simp [ev_seq, ev_region2, evOps_nil, evOps_cons, opG_none, opA_move, opA_assign, opA_call, opA_box, putO_some, putH_lt, boxT, opS, opV, Go.Mx.look, fr0, argSlots, seqK, Fr.newBox, dropBp, mapO, callA, cellsA_agg, okPart_agg, newK, ok29, pl12, paC]
  refine made_sp a m1 m2 H _ hc ?_
  simp [evOps_cons, opG_none, opG_some, opJ, opU_ff, isU_bool, opK_eq, opA_move, opA_un, opA_load, opA_fieldAddr, opA_call, putO_some, putH_lt, putC_lt, condB_false, unT, loadT, fieldAddrT, opS, opV, Go.Mx.look, Fr.known, mapO, unA, callA, partA, loadS, plusS, sz9, ag9, Try.underlying30, ok30]
  refine user30_sp x.fr H _ (by omega) ?_
  cases hu1 : userOk x.fr with
  | false => simp [ev_seq, ev_cond2, ev_ret, ev_region2, evOps_nil, evOps_cons, opG_none, opG_some, opJ, opU_true, opU_ff, isU_undef, isU_bool, opK_eq, opA_move, opA_assign, opA_pick, opA_un, putO_some, putH_lt, putC_lt, putV_lt, condB_true, condB_false, pickT, unT, opS, opV, Go.Mx.look, seqK, Fr.known, retK, retA, resA, mapO, unA]; exact bad (by simp [goodX, hu1])
  | true =>
  simp [evOps_cons, opG_none, opG_some, opJ, opU_ff, isU_bool, opK_eq, opA_move, opA_pick, opA_un, opA_load, opA_fieldAddr, opA_call, putO_some, putH_lt, putC_lt, condB_false, pickT, unT, loadT, fieldAddrT, opS, opV, Go.Mx.look, Fr.known, mapO, unA, callA, partA, loadS, plusS, sz9, ag9, Try.underlying30, ok30]
  refine user30_sp x.to H _ (by omega) ?_
  cases hu2 : userOk x.to with
  | false => simp [ev_seq, ev_cond2, ev_ret, ev_region2, evOps_nil, evOps_cons, opG_none, opG_some, opJ, opU_true, opU_ff, isU_undef, isU_bool, opK_eq, opA_move, opA_assign, opA_pick, opA_un, putO_some, putH_lt, putC_lt, putV_lt, condB_true, condB_false, pickT, unT, opS, opV, Go.Mx.look, seqK, Fr.known, retK, retA, resA, mapO, unA]; exact bad (by simp [goodX, hu1, hu2])
  | true =>
  by_cases htx : x.tx_ = noT
  · simp [ev_seq, ev_cond2, ev_ret, ev_region2, evOps_nil, evOps_cons, opG_none, opG_some, opJ, opU_true, opU_ff, isU_undef, isU_bool, opK_eq, opA_move, opA_assign, opA_pick, opA_bin, opA_un, opA_load, opA_fieldAddr, putO_some, putH_lt, putC_lt, putV_lt, condB_true, condB_false, CondP_true, binT_some, binA, avO_some, pickT, unT, loadT, fieldAddrT, strOp, opS, opV, Go.Mx.look, seqK, Fr.known, retK, retA, resA, mapO, unA, partA, loadS, plusS, orO_some, eqT_some, sz9, ag9, tk9, Try.underlying30, tlx, htx]
    exact bad (by simp [goodX, hu1, hu2, htx])
  simp [evOps_cons, opG_none, opG_some, opJ, opU_ff, isU_bool, opK_eq, opA_move, opA_pick, opA_bin, opA_un, opA_load, opA_fieldAddr, opA_call, putO_some, putH_lt, putC_lt, condB_false, CondP_false, binT_some, binA, avO_some, pickT, unT, loadT, fieldAddrT, strOp, opS, opV, Go.Mx.look, Fr.known, mapO, unA, callA, partA, loadS, plusS, orO_some, eqT_some, sz9, ag9, tk9, Try.underlying30, ok31, tlx, htx]
  refine named_sp x.dv H _ (by omega) ?_
  cases hnd : namedB x.dv with
  | true =>
    have hst : x.dv ≠ star := fun e => by rw [e, star_no] at hnd; simp at hnd
    have hg : goodX x = true := by simp [goodX, hu1, hu2, htx, hnd]
    have hLX : namesX S x = [x.dv] := by unfold namesX; rw [if_neg hst]
    replace hse := hse hg
    simp [ev_skip, ev_seq, ev_cond2, ev_block, ev_region2, ev_loop, loopK, evOps_nil, evOps_cons, opG_none, opG_some, opJ, opU_ft, opU_ff, isU_bool, opK_eq, opA_move, opA_assign, opA_pick, opA_bin, opA_un, opA_load, opA_fieldAddr, opA_len, opA_alloc, opA_store, opA_buildSlice, opA_build, putO_some, putH_lt, putC_lt, putU_none, putV_lt, condB_false, CondP_false, binT_some, binA, avO_some, pickT, unT, loadT, lenT_row, fieldAddrT, allocT, storeT, buildSliceT, buildZ, partsZ, fillO, aggO, strOp, opS, opV, Go.Mx.look, seqK, Fr.known, Fr.newBox, dropBp, mapO, unA, cellsA_v, cellsA_agg, okPart_v, okPart_agg, Value.oneCell', partA, loadS, plusS, fillA, newK, storeS, headK, getV, getB, chkP, firstReg, bindO, orO_some, eqT_some, sz9, ag9, tk9, ze9, Try.underlying30, Try.underlying48, sz63, ze63, of63, tls, hst, splice]
    rw [hLX] at hperm hlenN hanyN hnl hnsz hall hpto
    generalize hLL : [x.dv] = LL at *
    have hcount : ∀ j, (hitsL S x.to (LL.take j)).length ≤ LL.length := fun j => by
      refine Nat.le_trans (List.length_filterMap_le _ _) ?_
      rw [List.length_take]; omega
    have hbx : [paC x, [AV.v (.string x.fr), .v (.string x.tx_)]] = bxS x := rfl
    refine LoopC.intro (fun n xs bs H2 => SdInv1 S a x true LL H n xs bs H2) LL.length ⟨0, by omega, by omega, by simp [rowN, hitsL, ← hLL], by first | (simp [bxS, paC]; done) | simp [bxS, paC, hst], rfl⟩ ?_
    rintro n xs bs H2 ⟨i, hi, rfl, rfl, rfl, rfl⟩
    simp [ev_skip, ev_seq, ev_cond2, ev_block, ev_exit, ev_region2, evOps_nil, evOps_cons, opG_none, opA_move, opA_bin, opA_load, opA_indexAddr, opA_fieldAddr, opA_nilCheck, putO_some, putH_lt, binT_some, binA, avO_some, loadT, nilCheckT, fieldAddrT, indexAddrT, io_lss, opS, opV, Go.Mx.look, seqK, blockK, Fr.known, partA, loadA, loadS, plusS, indexAddrA, nilCheckS, mkFr, slotsOf, ptrsOf, boxesOf, orO_some, eqT_some, ev_draw, drawK, evP_q, opAt_some, tk3, sz9, Try.underlying48, sz53, ag53, Try.underlying55, rowN, bxS, paC]
    refine ⟨fun hlt => ?_, fun hge => ?_⟩
    · have hxi := List.getElem?_eq_getElem hlt
      generalize hgi : LL[i] = nm at hxi
      have w1 : IntKind.i64.wrap ((i : Int) + 1) = (i : Int) + 1 := wr_i64 (by omega)
      have hci := hcount i
      have w2 : IntKind.i64.wrap (((hitsL S x.to (LL.take i)).length : Int) + 1) = ((hitsL S x.to (LL.take i)).length : Int) + 1 := wr_i64 (by omega)
      have htk : LL.take (i + 1) = LL.take i ++ [nm] := by rw [List.take_add_one, hxi]; rfl
      have hnz := hnsz nm (List.mem_of_getElem? hxi)
      have hadd := hits_add S x.to (LL.take i) nm
      rw [← htk] at hadd
      simp [ev_seq, ev_region2, evOps_nil, evOps_cons, opG_none, opA_move, opA_assign, opA_load, opA_fieldAddr, opA_call, putO_some, putH_lt, loadT, fieldAddrT, opS, opV, Go.Mx.look, seqK, mapO, callA, partA, loadA, loadS, plusS, sz9, ag9, Try.underlying30, ok32, hlt, hgi]
      refine at_sp a m1 m2 R S x.to nm H2 _ hp hk.k (by omega) (by omega) (fun hno => ?_) (fun A r B hR h2 h3 h4 => ?_)
      · have hf := findD_no hp hno
        rw [hf, Option.toList_none, List.append_nil] at hadd
        simp [ev_skip, ev_seq, ev_cond2, ev_region2, evOps_nil, evOps_cons, opG_none, opA_move, opA_assign, opA_bin, putO_some, putH_lt, putC_lt, condB_false, binT_some, binA, eqRef, avO_some, io_add, opS, opV, Go.Mx.look, seqK, blockK, Fr.known, mapO, headK, getV, getB, chkP, orO_some, eqT_some, tk3, tk59, w1]
        exact ⟨LL.length - (i + 1), by omega, i + 1, by omega, rfl, by rw [hadd]; simp [rowN], rfl, rfl⟩
      · have hp' := hp
        rw [hR] at hp'
        have hf := findD_yes hp' h2 h3
        rw [hf, Option.toList_some] at hadd
        obtain ⟨g1, g2⟩ := hp'.d.at_ r (by simp)
        have hl := g2.lenT
        simp only [wlP, List.length_drop] at hl
        have step : ∀ b : Bool, b = ((hitsL S x.to (LL.take i)).any fullB || fullB r.d) → ∃ m, m < LL.length - i ∧ SdInv1 S a x true LL H2 m [.ptr a 0 0, .row true LL.length (LL.map (fun s => .v (.string s))), .v (.bool b), .v (.int .i64 (((hitsL S x.to (LL.take i)).length : Int) + 1)), .row true LL.length (LL.map (fun s => .v (.string s))), .v (.int .i64 LL.length), .v (.int .i64 ((i : Int) + 1))] [[.v (.string x.fr), .v (.string x.to), .v (.string x.dv), .v (.string x.tx_), .v (.string x.bo)], [.v (.string x.fr), .v (.string x.tx_)]] H2 := fun b hb =>
          ⟨LL.length - (i + 1), by omega, i + 1, by omega, rfl, by rw [hadd, List.any_append, List.length_append, hb]; simp [rowN], rfl, rfl⟩
        cases hany : (hitsL S x.to (LL.take i)).any fullB with
        | true =>
          simp [ev_seq, ev_cond2, ev_region2, evOps_nil, evOps_cons, opG_none, opG_some, opJ, opU_ff, isU_bool, opA_move, opA_assign, opA_pick, opA_bin, putO_some, putH_lt, putC_lt, putV_lt, condB_true, binT_some, binA, eqRef, avO_some, pickT, io_add, opS, opV, Go.Mx.look, seqK, blockK, Fr.known, mapO, headK, getV, getB, chkP, orO_some, eqT_some, tk3, tk59, w1, w2]
          exact step true (by rw [hany]; rfl)
        | false =>
          simp [ev_seq, ev_cond2, ev_region2, evOps_nil, evOps_cons, opG_none, opG_some, opJ, opU_ff, isU_bool, opK_eq, opA_move, opA_assign, opA_pick, opA_bin, opA_load, opA_fieldAddr, opA_nilCheck, opA_len, putO_some, putH_lt, putC_lt, condB_true, condB_false, binT_some, binA, eqRef, avO_some, pickT, loadT, nilCheckT, fieldAddrT, io_add, io_geq, opS, opV, Go.Mx.look, seqK, blockK, Fr.known, mapO, partA, loadA, loadS, plusS, nilCheckS, headK, getV, getB, chkP, orO_some, eqT_some, tk3, sz28, ag28, Try.underlying28, tk59, Try.underlying62, w1, w2, g1, cellP, hl]
          have := step (fullB r.d) (by rw [hany]; rfl)
          have hde : fullB r.d = decide ((200 : Int) ≤ ((r.d.al.length - r.d.sn : Nat) : Int)) := by
            unfold fullB
            rw [Bool.eq_iff_iff, decide_eq_true_iff, decide_eq_true_iff]; omega
          rw [hde] at this
          exact this
    · have hie : i = LL.length := by omega
      subst hie
      have hsnd : (S.ds.filter (toB x)).length = sendN S x := rfl
      rw [List.take_length, hlenN, hanyN, hsnd]
      generalize hcc : sendN S x = c at *
      generalize hff : (S.ds.filter (toB x)).any fullB = fl at *
      have hls := look_sent hp.s (x.fr, x.tx_) (by simp only; omega) (by simp only; omega)
      simp only at hls
      have hseen : inS (S.sent.map keyP) (x.fr, x.tx_) = seenB S (keyP x) := rfl
      rw [hseen] at hls
      simp [ev_skip, ev_seq, ev_cond2, ev_block, ev_ret, ev_region2, ev_loop, loopK, evOps_nil, evOps_cons, opG_none, opA_move, opA_assign, opA_bin, opA_load, opA_len, putO_some, putH_lt, binT_some, binA, avO_some, loadT, lenT_row, io_eql, opS, opV, Go.Mx.look, seqK, blockK, Fr.known, retK, retA, resA, mapO, partA, loadS, headK, getV, getB, chkP, firstReg, orO_some, eqT_some, lookT_some, opA_lookup, evP_nil, evP_q, evP_s, opAt_some, chkK_eq, allQ_nil, tk3, Try.underlying48, sz63, ag63, hc, hls]
      cases hsb : seenB S (keyP x) with
      | true =>
        rw [hsb] at hse
        simp
        exact no 4 (by rw [hse]; rfl) (by simp)
      | false =>
      rw [hsb] at hse
      by_cases hn0 : c = 0
      · simp [hn0]
        exact no 2 (by rw [hse, if_pos hn0]; rfl) (by simp)
      cases hfl : fl with
      | true =>
        simp [hn0]
        exact no 3 (by rw [hse, if_neg hn0, hfl]; rfl) (by simp)
      | false =>
      have he0 : sendE S x = 0 := by rw [hse, if_neg hn0, hfl]; rfl
      simp [hn0]
      have hall2 := hall hn0
      refine LoopC.intro (fun n xs bs H3 => SdInv2 S a ([a, m1, m2] ++ fpL R) x true LL c H2 n xs bs H3) LL.length ⟨0, _, by omega, by omega, by simp [rowN], by first | (simp [bxS, paC]; done) | simp [bxS, paC, hst], hp0, Stp.refl _ _⟩ ?_
      rintro n xs bs H3 ⟨i, fp3, hi, rfl, rfl, rfl, hp3, hst3⟩
      obtain ⟨k1, k2, R3, hp3, rfl⟩ := hp3
      have hkk : ((pushL x.to x (LL.take i) S.ds).map keyD).Nodup := by rw [push_keys]; exact hk.k
      have hc3 := hp3.c
      simp [ev_skip, ev_seq, ev_cond2, ev_block, ev_exit, ev_region2, evOps_nil, evOps_cons, opG_none, opA_move, opA_bin, opA_load, opA_indexAddr, opA_fieldAddr, opA_nilCheck, putO_some, putH_lt, binT_some, binA, avO_some, loadT, nilCheckT, fieldAddrT, indexAddrT, io_lss, opS, opV, Go.Mx.look, seqK, blockK, Fr.known, partA, loadA, loadS, plusS, indexAddrA, nilCheckS, mkFr, slotsOf, ptrsOf, boxesOf, orO_some, eqT_some, ev_draw, drawK, evP_q, opAt_some, tk3, sz9, Try.underlying48, sz53, ag53, Try.underlying55, rowN, bxS, paC]
      refine ⟨fun hlt => ?_, fun hge => ?_⟩
      · have hxi := List.getElem?_eq_getElem hlt
        generalize hgi : LL[i] = nm at hxi
        have w1 : IntKind.i64.wrap ((i : Int) + 1) = (i : Int) + 1 := wr_i64 (by omega)
        have htk : LL.take (i + 1) = LL.take i ++ [nm] := by rw [List.take_add_one, hxi]; rfl
        have hnm := List.mem_of_getElem? hxi
        have hnz := hnsz nm hnm
        simp [ev_seq, ev_region2, evOps_nil, evOps_cons, opG_none, opA_move, opA_assign, opA_load, opA_fieldAddr, opA_call, putO_some, putH_lt, loadT, fieldAddrT, opS, opV, Go.Mx.look, seqK, mapO, callA, partA, loadA, loadS, plusS, sz9, ag9, Try.underlying30, ok32, hlt, hgi]
        refine at_sp a k1 k2 R3 ⟨pushL x.to x (LL.take i) S.ds, S.sent⟩ x.to nm H3 _ hp3 hkk (by omega) (by omega) (fun hno => ?_) (fun A r B hR h2 h3 h4 => ?_)
        · exfalso
          obtain ⟨d, hd, hkd⟩ := hall2 nm hnm
          have h5 : keyD d ∈ (pushL x.to x (LL.take i) S.ds).map keyD := by rw [push_keys]; exact List.mem_map.2 ⟨d, hd, rfl⟩
          have h6 := hp3.rd
          simp only at h6
          rw [← h6, List.map_map] at h5
          obtain ⟨r, hr, hr2⟩ := List.mem_map.1 h5
          exact hno r hr (by rw [← hkd]; exact hr2)
        · subst hR
          obtain ⟨g1, g2⟩ := hp3.d.at_ r (by simp)
          have hrm : r.d ∈ pushL x.to x (LL.take i) S.ds := by
            have h6 := hp3.rd
            simp only at h6
            rw [← h6]; simp
          obtain ⟨o1, o2⟩ := push_ok x.to x N (LL.take i) S.ds (fun d hd => ⟨(hk.d d hd).s, (hk.d d hd).l⟩) r.d hrm
          have o3 : (LL.take i).length ≤ LL.length := by rw [List.length_take]; omega
          have hwl : (wlP r.d).length ≤ 200000 := by simp [wlP]; omega
          simp [evOps_nil, evOps_cons, opG_none, opA_move, opA_assign, opA_load, opA_fieldAddr, opA_nilCheck, opA_buildSlice, opA_append, putO_some, putH_lt, putC_lt, loadT, nilCheckT, fieldAddrT, buildSliceT, appendT, repeatL_1, opS, opV, Go.Mx.look, seqK, mapO, cellsA_agg, okPart_agg, partA, loadA, loadS, plusS, nilCheckS, fillA, bindO, srcTy, ev_draw, drawK, evP_q, evP_s, opAt_some, sz28, ag28, st28, Try.underlying28, sz30, ag30, by30, ze30, Try.underlying62, g1, cellP]
          refine g2.app (by simp) (by omega) (fun v' H4 ho hs4 hid hl1 => ?_)
          have g1' : H4[r.b]? = some (.cells 0 [r.v, .v (.int .i64 r.d.sn)]) := hs4.2 _ _ g1 (fun hm => by
            have hnd := hp3.d.nd
            rw [fpL_app, fpL_cons, List.nodup_append, List.nodup_append] at hnd
            have := hnd.2.1.1
            simp only [fpR, List.nodup_cons] at this
            exact this.1 hm)
          have hb4 : r.b < H4.length := Hp.lt g1'
          have gs : ∀ o, (H4.set r.b o)[r.b]? = some o := fun o => List.getElem?_set_self hb4
          obtain ⟨d1, d2⟩ := ho.cells'
          simp [ev_region2, evOps_nil, evOps_cons, opG_none, opA_move, opA_bin, opA_fieldAddr, opA_nilCheck, opA_store, putO_some, putH_lt, putC_lt, putU_none, binT_some, binA, avO_some, nilCheckT, fieldAddrT, storeT, io_add, opS, opV, Go.Mx.look, seqK, blockK, mapO, plusS, nilCheckS, storeS, headK, getV, getB, chkP, orO_some, eqT_some, evP_nil, evP_q, evP_s, opAt_some, chkK_eq, sameV_some, sameO_some, allQ_nil, allQ_cons, valQ_none, valS_move, tk3, sz28, Try.underlying62, g1', d1, d2, splice, w1]
          have hrb : r.b < H3.length := Hp.lt g1
          have hset : Same [r.b] H4 (H4.set r.b (.cells 0 [v', .v (.int .i64 r.d.sn)])) := Same.set (by simp)
          have hne : ∀ j ∈ slId v', j ≠ r.b := fun j hj e => by
            subst e
            rcases hid with e | e
            · rw [e] at hj
              have hnd := hp3.d.nd
              rw [fpL_app, fpL_cons, List.nodup_append, List.nodup_append] at hnd
              have := hnd.2.1.1
              simp only [fpR, List.nodup_cons] at this
              exact this.1 hj
            · rw [e] at hj; simp at hj; omega
          have hnw : ∀ j ∈ slId v', j ∈ slId r.v ∨ H3.length ≤ j := fun j hj => by
            rcases hid with e | e
            · rw [e] at hj; exact .inl hj
            · rw [e] at hj; simp at hj; exact .inr (by omega)
          have hwl2 : wlP (push x r.d) = wlP r.d ++ [x] := by
            simp only [wlP, push]
            rw [List.drop_append_of_le_length o1]
          have ho' : OwnS 5 H4 (wlP (push x r.d)).length ((wlP (push x r.d)).flatMap paC) v' := by
            rw [hwl2]
            simpa [paC] using ho
          obtain ⟨P3, S3⟩ := PoR.upd (H' := H4.set r.b (.cells 0 [v', .v (.int .i64 r.d.sn)])) (r' := ⟨push x r.d, r.b, v'⟩) hp3 ((hs4.wide (by intro j hj; simp [fpR, hj])).trans (hset.wide (fp' := fpR r) (by simp [fpR])) (fun j hj => .inl hj)) ⟨by rw [gs]; rfl, ho'.same hset (fun j hj => by simpa using hne j hj)⟩ rfl rfl (fun j hj => by
            rcases List.mem_cons.1 hj with rfl | hj
            · exact .inl (by simp [fpR])
            · rcases hnw j hj with h1 | h1
              · exact .inl (by simp [fpR, h1])
              · exact .inr h1) (by
            simp only [fpR, List.nodup_cons]
            exact ⟨fun hm => hne _ hm rfl, ho.nodup⟩)
          have hds := push_ds (x := x) (r' := ⟨push x r.d, r.b, v'⟩) h2 h3 h4 rfl
          have h6 := hp3.rd
          simp only at h6
          rw [hds, h6, ← pushL_app, ← htk] at P3
          exact ⟨LL.length - (i + 1), by omega, i + 1, _, by omega, rfl, by simp [rowN], rfl, ⟨k1, k2, _, P3, rfl⟩, hst3.trans S3⟩
      · have hie : i = LL.length := by omega
        subst hie
        rw [List.take_length, hpto] at hp3
        obtain ⟨q1, q2, q3, q4⟩ := hp3.apart
        have hkm : (x.fr, x.tx_) = keyP x := rfl
        simp [opG_none, opA_load, putO_some, putH_lt, loadT, opS, opV, Go.Mx.look, partA, loadS, updT_some, opA_upd, evP_q, evP_s, opAt_some, sz63, ag63, hc3]
        refine MapAt.upd hp3.s Try.underlying53 (good63 (x.fr, x.tx_) (by simp only; omega) (by simp only; omega)) (fun H4 g5 hs4 hl4 => ?_)
        rw [fS_add] at g5
        simp [ev_seq, ev_ret, ev_region2, evOps_nil, evOps_cons, opG_none, opA_move, opA_assign, putO_some, putH_lt, putU_none, opS, opV, Go.Mx.look, seqK, retK, retA, resA, mapO, evP_nil, chkK_eq, allQ_nil]
        have hpo : PoAt H4 a (sendS S x) ([a, k1, k2] ++ fpL R3) := by
          unfold sendS
          rw [he0, if_pos rfl]
          refine ⟨k1, k2, R3, ⟨hp3.rd, hs4.2 _ _ hc3 (by simpa using q2), hp3.m.same hs4 (by simpa using q3), ?_, hp3.d.same hs4 (fun j hj => by simpa using (q4 j hj).2.2), hp3.nd⟩, rfl⟩
          have : (S.sent ++ [x]).map keyP = S.sent.map keyP ++ [(x.fr, x.tx_)] := by simp [keyP]
          rw [this]; exact g5
        have := h H4 _ hpo (hst3.trans ⟨hs4.wide (by simp), fun j hj => .inl hj⟩)
        unfold sendR at this
        rw [he0, if_pos rfl, hcc] at this
        exact this
  | false =>
    by_cases hst : x.dv = star
    · have hg : goodX x = true := by simp [goodX, hu1, hu2, htx, hst]
      have hLX : namesX S x = namesD S x.to := by unfold namesX; rw [if_pos hst]
      replace hse := hse hg
      simp [ev_skip, ev_seq, ev_cond2, ev_region2, evOps_nil, evOps_cons, opG_none, opG_some, opJ, opU_ft, opU_ff, isU_bool, opK_eq, opA_move, opA_assign, opA_pick, opA_bin, opA_un, opA_load, opA_fieldAddr, opA_call, opA_alloc, opA_store, opA_buildSlice, opA_build, putO_some, putH_lt, putC_lt, putU_none, condB_true, condB_false, CondP_true, CondP_false, binT_some, binA, avO_some, pickT, unT, loadT, fieldAddrT, allocT, storeT, buildSliceT, buildZ, partsZ, fillO, aggO, strOp, opS, opV, Go.Mx.look, seqK, Fr.known, Fr.newBox, dropBp, mapO, unA, callA, cellsA_v, cellsA_agg, okPart_v, okPart_agg, Value.oneCell', partA, loadS, plusS, fillA, newK, storeS, bindO, orO_some, eqT_some, sz9, ag9, tk9, ze9, Try.underlying30, Try.underlying48, sz63, ze63, of63, ok26, tls, hst, splice]
      refine devices_sp a S _ N x.to H _ hp0 hk (by omega) ?_
      simp [ev_seq, ev_block, ev_region2, ev_loop, loopK, evOps_nil, evOps_cons, opG_none, opA_move, opA_assign, opA_len, putO_some, putH_lt, putC_lt, lenT_row, opS, opV, Go.Mx.look, seqK, mapO, headK, getV, getB, chkP, firstReg, Try.underlying48, rowS]
      rw [hLX] at hperm hlenN hanyN hnl hnsz hall hpto
      generalize hLL : (namesD S x.to) = LL at *
      have hcount : ∀ j, (hitsL S x.to (LL.take j)).length ≤ LL.length := fun j => by
        refine Nat.le_trans (List.length_filterMap_le _ _) ?_
        rw [List.length_take]; omega
      have hbx : [paC x, [AV.v (.string x.fr), .v (.string x.tx_)]] = bxS x := rfl
      refine LoopC.intro (fun n xs bs H2 => SdInv1 S a x false LL H n xs bs H2) LL.length ⟨0, by omega, by omega, by simp [rowN, hitsL, ← hLL], by first | (simp [bxS, paC]; done) | simp [bxS, paC, hst], rfl⟩ ?_
      rintro n xs bs H2 ⟨i, hi, rfl, rfl, rfl, rfl⟩
      simp [ev_skip, ev_seq, ev_cond2, ev_block, ev_exit, ev_region2, evOps_nil, evOps_cons, opG_none, opA_move, opA_bin, opA_load, opA_indexAddr, opA_fieldAddr, opA_nilCheck, putO_some, putH_lt, binT_some, binA, avO_some, loadT, nilCheckT, fieldAddrT, indexAddrT, io_lss, opS, opV, Go.Mx.look, seqK, blockK, Fr.known, partA, loadA, loadS, plusS, indexAddrA, nilCheckS, mkFr, slotsOf, ptrsOf, boxesOf, orO_some, eqT_some, ev_draw, drawK, evP_q, opAt_some, tk3, sz9, Try.underlying48, sz53, ag53, Try.underlying55, rowN, bxS, paC]
      refine ⟨fun hlt => ?_, fun hge => ?_⟩
      · have hxi := List.getElem?_eq_getElem hlt
        generalize hgi : LL[i] = nm at hxi
        have w1 : IntKind.i64.wrap ((i : Int) + 1) = (i : Int) + 1 := wr_i64 (by omega)
        have hci := hcount i
        have w2 : IntKind.i64.wrap (((hitsL S x.to (LL.take i)).length : Int) + 1) = ((hitsL S x.to (LL.take i)).length : Int) + 1 := wr_i64 (by omega)
        have htk : LL.take (i + 1) = LL.take i ++ [nm] := by rw [List.take_add_one, hxi]; rfl
        have hnz := hnsz nm (List.mem_of_getElem? hxi)
        have hadd := hits_add S x.to (LL.take i) nm
        rw [← htk] at hadd
        simp [ev_seq, ev_region2, evOps_nil, evOps_cons, opG_none, opA_move, opA_assign, opA_load, opA_fieldAddr, opA_call, putO_some, putH_lt, loadT, fieldAddrT, opS, opV, Go.Mx.look, seqK, mapO, callA, partA, loadA, loadS, plusS, sz9, ag9, Try.underlying30, ok32, hlt, hgi]
        refine at_sp a m1 m2 R S x.to nm H2 _ hp hk.k (by omega) (by omega) (fun hno => ?_) (fun A r B hR h2 h3 h4 => ?_)
        · have hf := findD_no hp hno
          rw [hf, Option.toList_none, List.append_nil] at hadd
          simp [ev_skip, ev_seq, ev_cond2, ev_region2, evOps_nil, evOps_cons, opG_none, opA_move, opA_assign, opA_bin, putO_some, putH_lt, putC_lt, condB_false, binT_some, binA, eqRef, avO_some, io_add, opS, opV, Go.Mx.look, seqK, blockK, Fr.known, mapO, headK, getV, getB, chkP, orO_some, eqT_some, tk3, tk59, w1]
          exact ⟨LL.length - (i + 1), by omega, i + 1, by omega, rfl, by rw [hadd]; simp [rowN], rfl, rfl⟩
        · have hp' := hp
          rw [hR] at hp'
          have hf := findD_yes hp' h2 h3
          rw [hf, Option.toList_some] at hadd
          obtain ⟨g1, g2⟩ := hp'.d.at_ r (by simp)
          have hl := g2.lenT
          simp only [wlP, List.length_drop] at hl
          have step : ∀ b : Bool, b = ((hitsL S x.to (LL.take i)).any fullB || fullB r.d) → ∃ m, m < LL.length - i ∧ SdInv1 S a x false LL H2 m [.ptr a 0 0, .row false LL.length (LL.map (fun s => .v (.string s))), .v (.bool b), .v (.int .i64 (((hitsL S x.to (LL.take i)).length : Int) + 1)), .row false LL.length (LL.map (fun s => .v (.string s))), .v (.int .i64 LL.length), .v (.int .i64 ((i : Int) + 1))] [[.v (.string x.fr), .v (.string x.to), .v (.string x.dv), .v (.string x.tx_), .v (.string x.bo)], [.v (.string x.fr), .v (.string x.tx_)]] H2 := fun b hb =>
            ⟨LL.length - (i + 1), by omega, i + 1, by omega, rfl, by rw [hadd, List.any_append, List.length_append, hb]; simp [rowN], rfl, rfl⟩
          cases hany : (hitsL S x.to (LL.take i)).any fullB with
          | true =>
            simp [ev_seq, ev_cond2, ev_region2, evOps_nil, evOps_cons, opG_none, opG_some, opJ, opU_ff, isU_bool, opA_move, opA_assign, opA_pick, opA_bin, putO_some, putH_lt, putC_lt, putV_lt, condB_true, binT_some, binA, eqRef, avO_some, pickT, io_add, opS, opV, Go.Mx.look, seqK, blockK, Fr.known, mapO, headK, getV, getB, chkP, orO_some, eqT_some, tk3, tk59, w1, w2]
            exact step true (by rw [hany]; rfl)
          | false =>
            simp [ev_seq, ev_cond2, ev_region2, evOps_nil, evOps_cons, opG_none, opG_some, opJ, opU_ff, isU_bool, opK_eq, opA_move, opA_assign, opA_pick, opA_bin, opA_load, opA_fieldAddr, opA_nilCheck, opA_len, putO_some, putH_lt, putC_lt, condB_true, condB_false, binT_some, binA, eqRef, avO_some, pickT, loadT, nilCheckT, fieldAddrT, io_add, io_geq, opS, opV, Go.Mx.look, seqK, blockK, Fr.known, mapO, partA, loadA, loadS, plusS, nilCheckS, headK, getV, getB, chkP, orO_some, eqT_some, tk3, sz28, ag28, Try.underlying28, tk59, Try.underlying62, w1, w2, g1, cellP, hl]
            have := step (fullB r.d) (by rw [hany]; rfl)
            have hde : fullB r.d = decide ((200 : Int) ≤ ((r.d.al.length - r.d.sn : Nat) : Int)) := by
              unfold fullB
              rw [Bool.eq_iff_iff, decide_eq_true_iff, decide_eq_true_iff]; omega
            rw [hde] at this
            exact this
      · have hie : i = LL.length := by omega
        subst hie
        have hsnd : (S.ds.filter (toB x)).length = sendN S x := rfl
        rw [List.take_length, hlenN, hanyN, hsnd]
        generalize hcc : sendN S x = c at *
        generalize hff : (S.ds.filter (toB x)).any fullB = fl at *
        have hls := look_sent hp.s (x.fr, x.tx_) (by simp only; omega) (by simp only; omega)
        simp only at hls
        have hseen : inS (S.sent.map keyP) (x.fr, x.tx_) = seenB S (keyP x) := rfl
        rw [hseen] at hls
        simp [ev_skip, ev_seq, ev_cond2, ev_block, ev_ret, ev_region2, ev_loop, loopK, evOps_nil, evOps_cons, opG_none, opA_move, opA_assign, opA_bin, opA_load, opA_len, putO_some, putH_lt, binT_some, binA, avO_some, loadT, lenT_row, io_eql, opS, opV, Go.Mx.look, seqK, blockK, Fr.known, retK, retA, resA, mapO, partA, loadS, headK, getV, getB, chkP, firstReg, orO_some, eqT_some, lookT_some, opA_lookup, evP_nil, evP_q, evP_s, opAt_some, chkK_eq, allQ_nil, tk3, Try.underlying48, sz63, ag63, hc, hls]
        cases hsb : seenB S (keyP x) with
        | true =>
          rw [hsb] at hse
          simp
          exact no 4 (by rw [hse]; rfl) (by simp)
        | false =>
        rw [hsb] at hse
        by_cases hn0 : c = 0
        · simp [hn0]
          exact no 2 (by rw [hse, if_pos hn0]; rfl) (by simp)
        cases hfl : fl with
        | true =>
          simp [hn0]
          exact no 3 (by rw [hse, if_neg hn0, hfl]; rfl) (by simp)
        | false =>
        have he0 : sendE S x = 0 := by rw [hse, if_neg hn0, hfl]; rfl
        simp [hn0]
        have hall2 := hall hn0
        refine LoopC.intro (fun n xs bs H3 => SdInv2 S a ([a, m1, m2] ++ fpL R) x false LL c H2 n xs bs H3) LL.length ⟨0, _, by omega, by omega, by simp [rowN], by first | (simp [bxS, paC]; done) | simp [bxS, paC, hst], hp0, Stp.refl _ _⟩ ?_
        rintro n xs bs H3 ⟨i, fp3, hi, rfl, rfl, rfl, hp3, hst3⟩
        obtain ⟨k1, k2, R3, hp3, rfl⟩ := hp3
        have hkk : ((pushL x.to x (LL.take i) S.ds).map keyD).Nodup := by rw [push_keys]; exact hk.k
        have hc3 := hp3.c
        simp [ev_skip, ev_seq, ev_cond2, ev_block, ev_exit, ev_region2, evOps_nil, evOps_cons, opG_none, opA_move, opA_bin, opA_load, opA_indexAddr, opA_fieldAddr, opA_nilCheck, putO_some, putH_lt, binT_some, binA, avO_some, loadT, nilCheckT, fieldAddrT, indexAddrT, io_lss, opS, opV, Go.Mx.look, seqK, blockK, Fr.known, partA, loadA, loadS, plusS, indexAddrA, nilCheckS, mkFr, slotsOf, ptrsOf, boxesOf, orO_some, eqT_some, ev_draw, drawK, evP_q, opAt_some, tk3, sz9, Try.underlying48, sz53, ag53, Try.underlying55, rowN, bxS, paC]
        refine ⟨fun hlt => ?_, fun hge => ?_⟩
        · have hxi := List.getElem?_eq_getElem hlt
          generalize hgi : LL[i] = nm at hxi
          have w1 : IntKind.i64.wrap ((i : Int) + 1) = (i : Int) + 1 := wr_i64 (by omega)
          have htk : LL.take (i + 1) = LL.take i ++ [nm] := by rw [List.take_add_one, hxi]; rfl
          have hnm := List.mem_of_getElem? hxi
          have hnz := hnsz nm hnm
          simp [ev_seq, ev_region2, evOps_nil, evOps_cons, opG_none, opA_move, opA_assign, opA_load, opA_fieldAddr, opA_call, putO_some, putH_lt, loadT, fieldAddrT, opS, opV, Go.Mx.look, seqK, mapO, callA, partA, loadA, loadS, plusS, sz9, ag9, Try.underlying30, ok32, hlt, hgi]
          refine at_sp a k1 k2 R3 ⟨pushL x.to x (LL.take i) S.ds, S.sent⟩ x.to nm H3 _ hp3 hkk (by omega) (by omega) (fun hno => ?_) (fun A r B hR h2 h3 h4 => ?_)
          · exfalso
            obtain ⟨d, hd, hkd⟩ := hall2 nm hnm
            have h5 : keyD d ∈ (pushL x.to x (LL.take i) S.ds).map keyD := by rw [push_keys]; exact List.mem_map.2 ⟨d, hd, rfl⟩
            have h6 := hp3.rd
            simp only at h6
            rw [← h6, List.map_map] at h5
            obtain ⟨r, hr, hr2⟩ := List.mem_map.1 h5
            exact hno r hr (by rw [← hkd]; exact hr2)
          · subst hR
            obtain ⟨g1, g2⟩ := hp3.d.at_ r (by simp)
            have hrm : r.d ∈ pushL x.to x (LL.take i) S.ds := by
              have h6 := hp3.rd
              simp only at h6
              rw [← h6]; simp
            obtain ⟨o1, o2⟩ := push_ok x.to x N (LL.take i) S.ds (fun d hd => ⟨(hk.d d hd).s, (hk.d d hd).l⟩) r.d hrm
            have o3 : (LL.take i).length ≤ LL.length := by rw [List.length_take]; omega
            have hwl : (wlP r.d).length ≤ 200000 := by simp [wlP]; omega
            simp [evOps_nil, evOps_cons, opG_none, opA_move, opA_assign, opA_load, opA_fieldAddr, opA_nilCheck, opA_buildSlice, opA_append, putO_some, putH_lt, putC_lt, loadT, nilCheckT, fieldAddrT, buildSliceT, appendT, repeatL_1, opS, opV, Go.Mx.look, seqK, mapO, cellsA_agg, okPart_agg, partA, loadA, loadS, plusS, nilCheckS, fillA, bindO, srcTy, ev_draw, drawK, evP_q, evP_s, opAt_some, sz28, ag28, st28, Try.underlying28, sz30, ag30, by30, ze30, Try.underlying62, g1, cellP]
            refine g2.app (by simp) (by omega) (fun v' H4 ho hs4 hid hl1 => ?_)
            have g1' : H4[r.b]? = some (.cells 0 [r.v, .v (.int .i64 r.d.sn)]) := hs4.2 _ _ g1 (fun hm => by
              have hnd := hp3.d.nd
              rw [fpL_app, fpL_cons, List.nodup_append, List.nodup_append] at hnd
              have := hnd.2.1.1
              simp only [fpR, List.nodup_cons] at this
              exact this.1 hm)
            have hb4 : r.b < H4.length := Hp.lt g1'
            have gs : ∀ o, (H4.set r.b o)[r.b]? = some o := fun o => List.getElem?_set_self hb4
            obtain ⟨d1, d2⟩ := ho.cells'
            simp [ev_region2, evOps_nil, evOps_cons, opG_none, opA_move, opA_bin, opA_fieldAddr, opA_nilCheck, opA_store, putO_some, putH_lt, putC_lt, putU_none, binT_some, binA, avO_some, nilCheckT, fieldAddrT, storeT, io_add, opS, opV, Go.Mx.look, seqK, blockK, mapO, plusS, nilCheckS, storeS, headK, getV, getB, chkP, orO_some, eqT_some, evP_nil, evP_q, evP_s, opAt_some, chkK_eq, sameV_some, sameO_some, allQ_nil, allQ_cons, valQ_none, valS_move, tk3, sz28, Try.underlying62, g1', d1, d2, splice, w1]
            have hrb : r.b < H3.length := Hp.lt g1
            have hset : Same [r.b] H4 (H4.set r.b (.cells 0 [v', .v (.int .i64 r.d.sn)])) := Same.set (by simp)
            have hne : ∀ j ∈ slId v', j ≠ r.b := fun j hj e => by
              subst e
              rcases hid with e | e
              · rw [e] at hj
                have hnd := hp3.d.nd
                rw [fpL_app, fpL_cons, List.nodup_append, List.nodup_append] at hnd
                have := hnd.2.1.1
                simp only [fpR, List.nodup_cons] at this
                exact this.1 hj
              · rw [e] at hj; simp at hj; omega
            have hnw : ∀ j ∈ slId v', j ∈ slId r.v ∨ H3.length ≤ j := fun j hj => by
              rcases hid with e | e
              · rw [e] at hj; exact .inl hj
              · rw [e] at hj; simp at hj; exact .inr (by omega)
            have hwl2 : wlP (push x r.d) = wlP r.d ++ [x] := by
              simp only [wlP, push]
              rw [List.drop_append_of_le_length o1]
            have ho' : OwnS 5 H4 (wlP (push x r.d)).length ((wlP (push x r.d)).flatMap paC) v' := by
              rw [hwl2]
              simpa [paC] using ho
            obtain ⟨P3, S3⟩ := PoR.upd (H' := H4.set r.b (.cells 0 [v', .v (.int .i64 r.d.sn)])) (r' := ⟨push x r.d, r.b, v'⟩) hp3 ((hs4.wide (by intro j hj; simp [fpR, hj])).trans (hset.wide (fp' := fpR r) (by simp [fpR])) (fun j hj => .inl hj)) ⟨by rw [gs]; rfl, ho'.same hset (fun j hj => by simpa using hne j hj)⟩ rfl rfl (fun j hj => by
              rcases List.mem_cons.1 hj with rfl | hj
              · exact .inl (by simp [fpR])
              · rcases hnw j hj with h1 | h1
                · exact .inl (by simp [fpR, h1])
                · exact .inr h1) (by
              simp only [fpR, List.nodup_cons]
              exact ⟨fun hm => hne _ hm rfl, ho.nodup⟩)
            have hds := push_ds (x := x) (r' := ⟨push x r.d, r.b, v'⟩) h2 h3 h4 rfl
            have h6 := hp3.rd
            simp only at h6
            rw [hds, h6, ← pushL_app, ← htk] at P3
            exact ⟨LL.length - (i + 1), by omega, i + 1, _, by omega, rfl, by simp [rowN], rfl, ⟨k1, k2, _, P3, rfl⟩, hst3.trans S3⟩
        · have hie : i = LL.length := by omega
          subst hie
          rw [List.take_length, hpto] at hp3
          obtain ⟨q1, q2, q3, q4⟩ := hp3.apart
          have hkm : (x.fr, x.tx_) = keyP x := rfl
          simp [opG_none, opA_load, putO_some, putH_lt, loadT, opS, opV, Go.Mx.look, partA, loadS, updT_some, opA_upd, evP_q, evP_s, opAt_some, sz63, ag63, hc3]
          refine MapAt.upd hp3.s Try.underlying53 (good63 (x.fr, x.tx_) (by simp only; omega) (by simp only; omega)) (fun H4 g5 hs4 hl4 => ?_)
          rw [fS_add] at g5
          simp [ev_seq, ev_ret, ev_region2, evOps_nil, evOps_cons, opG_none, opA_move, opA_assign, putO_some, putH_lt, putU_none, opS, opV, Go.Mx.look, seqK, retK, retA, resA, mapO, evP_nil, chkK_eq, allQ_nil]
          have hpo : PoAt H4 a (sendS S x) ([a, k1, k2] ++ fpL R3) := by
            unfold sendS
            rw [he0, if_pos rfl]
            refine ⟨k1, k2, R3, ⟨hp3.rd, hs4.2 _ _ hc3 (by simpa using q2), hp3.m.same hs4 (by simpa using q3), ?_, hp3.d.same hs4 (fun j hj => by simpa using (q4 j hj).2.2), hp3.nd⟩, rfl⟩
            have : (S.sent ++ [x]).map keyP = S.sent.map keyP ++ [(x.fr, x.tx_)] := by simp [keyP]
            rw [this]; exact g5
          have := h H4 _ hpo (hst3.trans ⟨hs4.wide (by simp), fun j hj => .inl hj⟩)
          unfold sendR at this
          rw [he0, if_pos rfl, hcc] at this
          exact this
    · simp [ev_seq, ev_cond2, ev_ret, ev_region2, evOps_nil, evOps_cons, opG_none, opG_some, opJ, opU_ft, opU_ff, isU_bool, opK_eq, opA_move, opA_assign, opA_pick, opA_bin, opA_un, opA_load, opA_fieldAddr, putO_some, putH_lt, putC_lt, condB_true, condB_false, CondP_true, binT_some, binA, avO_some, pickT, unT, loadT, fieldAddrT, strOp, opS, opV, Go.Mx.look, seqK, Fr.known, retK, retA, resA, mapO, unA, partA, loadS, plusS, orO_some, eqT_some, sz9, ag9, tk9, Try.underlying30, tls, hst]
      exact bad (by simp [goodX, hu1, hu2, htx, hnd, hst])
end Go.Proofs.Ytamhmecfjkahdaa
