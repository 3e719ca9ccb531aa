/-
  The abstract machine: maps are written, and walked; texts are walked.
-/
import Derived.Test.YtoakdmkjlpjahaaDoorMxL
namespace Go.Mx
open Go.RowKit
set_option linter.unusedVariables false

open Classical in
/-- m[key] = val. -/
noncomputable def updA (P : Program) (H : Hp) (t : TypeId) (m key val : AV) (k : Hp → Prop) : Prop := match P.underlying t, m with
  | some (.map kt _), .mp id => match H[id]? with
    | some (.map es clock) => MapOk P kt es clock ∧ KGood P kt key ∧ k (H.set id (.map (putE key val es clock) (putC' key es clock)))
    | _ => False
  | _, _ => False
/-- delete(m, key). -/
noncomputable def delA (P : Program) (H : Hp) (t : TypeId) (m key : AV) (k : Hp → Prop) : Prop := match P.underlying t, m with
  | some (.map kt _), .mp id => match H[id]? with
    | some (.map es clock) => MapOk P kt es clock ∧ KGood P kt key ∧ k (H.set id (.map (delE key es) clock))
    | _ => False
  | some (.map kt _), .v (.map none) => KGood P kt key ∧ k H
  | _, _ => False
/-- clear(m). -/
def clearA (H : Hp) (m : AV) (k : Hp → Prop) : Prop := match m with
  | .mp id => match H[id]? with
    | some (.map es clock) => k (H.set id (.map [] clock))
    | _ => False
  | .v (.map none) => k H
  | _ => False
/-- A walk begins. -/
def rangeA (P : Program) (H : Hp) (t : TypeId) (x : AV) (k : AV → Hp → Prop) : Prop := match P.underlying t, x with
  | some .string, .v (.string s) => k (.it H.length) (H ++ [.strIter s 0])
  | some (.map _ _), .mp id => match H[id]? with
    | some (.map es clock) => k (.it H.length) (H ++ [.mapIter (some id) clock [] clock])
    | _ => False
  | some (.map _ _), .v (.map none) => k (.it H.length) (H ++ [.mapIter none 0 [] 0])
  | _, _ => False
/-- A walk's next step: any entry that was not walked yet; the end, when no old one is left. -/
def nextA (H : Hp) (it : AV) (isStr : Bool) (k : AV → Hp → Prop) : Prop := match it with
  | .it i => match H[i]?, isStr with
    | some (.strIter s pos), true => (pos < s.size → k (.tup [.v (.bool true), .v (.int .i64 pos), .v (.int .i32 (Utf8.decode s pos).1)]) (H.set i (.strIter s (pos + (Utf8.decode s pos).2)))) ∧
        (¬ pos < s.size → k (.tup [.v (.bool false)]) H)
    | some (.mapIter none _ _ _), false => k (.tup [.v (.bool false)]) H
    | some (.mapIter (some m) since seen last), false => match H[m]? with
      | some (.map es clock) => ¬ (seen ≠ [] ∧ es ≠ [] ∧ ∀ e ∈ es, last ≤ e.1) ∧
          (∀ e ∈ es, e.1 ∉ seen → k (.tup [.v (.bool true), e.2.1, e.2.2]) (H.set i (.mapIter (some m) since (seen ++ [e.1]) clock))) ∧
          ((∀ e ∈ es, e.1 ∈ seen ∨ since ≤ e.1) → k (.tup [.v (.bool false)]) H)
      | _ => False
    | _, _ => False
  | _ => False

/-- The entry of a walk's last step. -/
def entryA (H : Hp) (it : AV) : Option AV := match it with
  | .it i => match H[i]? with
    | some (.mapIter (some m) _ seen last) => match H[m]?, seen.getLast? with
      | some (.map es clock), some st => if clock = last then (es.find? (fun e => e.1 == st)).map (fun e => .tup [e.2.1, e.2.2]) else none
      | _, _ => none
    | _ => none
  | _ => none

section
variable {P : Program} {H : Hp} {ρ : Rho} {I : Imm} {w : World}

theorem setObj_run {b : Nat} (o : Obj) {o' : Obj} (h : w.heap[b]? = some o') (hm : ∃ es c, o' = .map es c) : (setObj b o).run P w = .ok () { w with heap := w.heap.setIfInBounds b o } := by
  obtain ⟨es, c, rfl⟩ := hm
  exact MapKept.run_setObj_map o h
theorem Gw.setB (b : Nat) (o : Obj) : Gw (some b) w { w with heap := w.heap.setIfInBounds b o } :=
  ⟨rfl, rfl, rfl, by simp, fun x hx hne => by
    have : b ≠ x := fun e => hne (by rw [e])
    simp [this]⟩
theorem setB_get {b : Nat} {o o' : Obj} (h : w.heap[b]? = some o') : ({ w with heap := w.heap.setIfInBounds b o } : World).heap[b]? = some o := (MapKept.heap_set h).1

/-- A map's entries are written. -/
theorem map_write (hs : StH ρ I H w) {id clock clock' : Nat} {es es' : List (Nat × AV × AV)} {l : Loc} {ms ms' : Array MapEntry} (hid : H[id]? = some (.map es clock)) (hv : ∀ v', 0 < v' → ρ id v' = none) (hl : ρ id 0 = some l) (hb : w.heap[l.blk]? = some (.map ms clock))
    (hE : EntR ρ I es' ms'.toList) : Mv ρ I H w ρ I (H.set id (.map es' clock')) { w with heap := w.heap.setIfInBounds l.blk (.map ms' clock') } := by
  refine Mv.write hs hid (b0 := l.blk) (by simp [blkOf, hl]) (Gw.setB _ _) (Ext.refl _ _) (fun _ _ _ => rfl) (b1 := l.blk) (.inl rfl) ⟨hv, l, ms', hl, setB_get hb, hE⟩ (by simp [blkOf, hl])

theorem putE_some {kt : TypeId} {es : List (Nat × AV × AV)} {clock : Nat} {key val : AV} (hok : MapOk P kt es clock) {j : Nat} {e : Nat × AV × AV} (hj : es[j]? = some e) (hk : e.2.1 = key) :
    putC' key es clock = clock ∧ (putE key val es clock).length = es.length ∧ ∀ i, (putE key val es clock)[i]? = if i = j then some (e.1, key, val) else es[i]? := by
  classical
  have hex : ∃ e ∈ es, e.2.1 = key := ⟨e, List.mem_of_getElem? hj, hk⟩
  refine ⟨by unfold putC'; rw [if_pos hex], by unfold putE; rw [if_pos hex]; simp, fun i => ?_⟩
  unfold putE
  rw [if_pos hex, List.getElem?_map]
  by_cases hij : i = j
  · subst hij
    rw [hj, if_pos rfl]
    simp [hk]
  · rw [if_neg hij]
    cases hi : es[i]? with
    | none => rfl
    | some x =>
      have hne : x.2.1 ≠ key := by
        intro hx
        have h1 : (es.map (·.2.1))[i]? = some key := by rw [List.getElem?_map, hi]; simp [hx]
        have h2 : (es.map (·.2.1))[j]? = some key := by rw [List.getElem?_map, hj]; simp [hk]
        have hlt := (List.getElem?_eq_some_iff.1 h1).1
        exact hij ((List.getElem?_inj hlt hok.keys).1 (h1.trans h2.symm))
      simp [hne]
theorem putE_none {es : List (Nat × AV × AV)} {clock : Nat} {key val : AV} (h : ∀ e ∈ es, e.2.1 ≠ key) : putC' key es clock = clock + 1 ∧ putE key val es clock = es ++ [(clock, key, val)] := by
  classical
  have hno : ¬ ∃ e ∈ es, e.2.1 = key := by rintro ⟨e, he, hk⟩; exact h e he hk
  exact ⟨by unfold putC'; rw [if_neg hno], by unfold putE; rw [if_neg hno]⟩
theorem delE_none {es : List (Nat × AV × AV)} {key : AV} (h : ∀ e ∈ es, e.2.1 ≠ key) : delE key es = es := by
  unfold delE
  exact List.filter_eq_self.2 (fun e he => by simpa using h e he)
theorem delE_some {key : AV} : ∀ {es : List (Nat × AV × AV)} {j : Nat} {e : Nat × AV × AV}, (es.map (·.2.1)).Nodup → es[j]? = some e → e.2.1 = key → delE key es = es.eraseIdx j
  | [], j, e, _, h, _ => by simp at h
  | x :: r, 0, e, hn, h, hk => by
    simp at h; subst h
    have hn' : x.2.1 ∉ r.map (·.2.1) ∧ (r.map (·.2.1)).Nodup := by simpa using hn
    unfold delE
    rw [List.filter_cons_of_neg (by simpa using hk)]
    exact delE_none (fun e he hke => hn'.1 (by rw [hk, ← hke]; exact List.mem_map.2 ⟨e, he, rfl⟩))
  | x :: r, j + 1, e, hn, h, hk => by
    have hn' : x.2.1 ∉ r.map (·.2.1) ∧ (r.map (·.2.1)).Nodup := by simpa using hn
    have h' : r[j]? = some e := by simpa using h
    have ih := delE_some hn'.2 h' hk
    unfold delE at ih ⊢
    have hx : x.2.1 ≠ key := fun e2 => hn'.1 (by rw [e2, ← hk]; exact List.mem_map.2 ⟨e, List.mem_of_getElem? h', rfl⟩)
    rw [List.filter_cons_of_pos (by simpa using hx), ih]; rfl

theorem upd_sound (hs : StH ρ I H w) {t : TypeId} {m key val : AV} {um uk uv : Value} {k : Hp → Prop} (hm : VR ρ I m um) (hk : VR ρ I key uk) (hv : VR ρ I val uv) (h : updA P H t m key val k) :
    ∃ w' H', (Instr.mapUpdate t um uk uv).run P w = .ok () w' ∧ Mv ρ I H w ρ I H' w' ∧ k H' := by
  unfold updA at h
  split at h <;> (first | exact h.elim | skip)
  rename_i kt et id ht
  split at h <;> (first | exact h.elim | skip)
  rename_i es clock hob
  obtain ⟨hok, hkg, h⟩ := h
  cases hm with
  | mp _ l hl =>
    obtain ⟨hver, l', ms, hl', hb, hent⟩ := hs.obj _ _ hob
    rw [hl] at hl'; simp at hl'; subst hl'
    have hget : (getObj l.blk).run P w = .ok (.map ms clock) w := MapKept.run_getObj_map hb
    rcases find_ent w hent hok hkg hk with ⟨h1, h2⟩ | ⟨j, e, mm, h1, h2, h3, h4, h5, h6, h7⟩
    · obtain ⟨e1, e2⟩ := putE_none (clock := clock) (val := val) h2
      rw [e1, e2] at h
      refine ⟨_, _, ?_, map_write hs hob hver hl hb (ms' := ms.push { key := uk, val := uv, born := clock }) (clock' := clock + 1) ?_, h⟩
      · simp [Instr.mapUpdate, run_underlying ht, hget, check_key w _ (hkg.good hk), h1, MapKept.run_setObj_map _ hb]
      · refine ⟨by simp [← hent.1], fun i x hx => ?_⟩
        rcases Nat.lt_or_ge i es.length with hi | hi
        · rw [List.getElem?_append_left hi] at hx
          obtain ⟨m', k1, k2⟩ := hent.2 i x hx
          refine ⟨m', ?_, k2⟩
          rw [Array.toList_push, List.getElem?_append_left (by rw [hent.1]; exact hi)]; exact k1
        · rw [List.getElem?_append_right hi] at hx
          have h0 : i - es.length = 0 := by
            rcases Nat.eq_zero_or_pos (i - es.length) with h0 | h0
            · exact h0
            · rw [List.getElem?_eq_none (by simp; omega)] at hx; simp at hx
          rw [h0] at hx; simp at hx; subst hx
          refine ⟨{ key := uk, val := uv, born := clock }, ?_, rfl, hk, hv⟩
          rw [Array.toList_push, List.getElem?_append_right (by rw [hent.1]; exact hi), hent.1, h0]; rfl
    · obtain ⟨e1, e2, e3⟩ := putE_some (val := val) hok h2 h4
      rw [e1] at h
      have hms : ms[j]? = some mm := by simpa using h3
      refine ⟨_, _, ?_, map_write hs hob hver hl hb (ms' := ms.modify j fun e => { e with key := uk, val := uv }) (clock' := clock) ?_, h⟩
      · simp [Instr.mapUpdate, run_underlying ht, hget, check_key w _ (hkg.good hk), h1, hms, h5, stays_key w (hkg.good hk), MapKept.run_setObj_map _ hb]
      · refine ⟨by rw [e2, ← hent.1]; simp, fun i x hx => ?_⟩
        rw [e3] at hx
        rw [Array.getElem?_toList, Array.getElem?_modify]
        by_cases hij : i = j
        · subst hij
          rw [if_pos rfl] at hx; simp at hx; subst hx
          rw [if_pos rfl, hms]
          exact ⟨_, rfl, h6, hk, hv⟩
        · rw [if_neg hij] at hx
          rw [if_neg (Ne.symm hij)]
          obtain ⟨m', k1, k2⟩ := hent.2 i x hx
          exact ⟨m', by simpa using k1, k2⟩

theorem EntR.erase {es : List (Nat × AV × AV)} {ms : List MapEntry} (h : EntR ρ I es ms) (j : Nat) : EntR ρ I (es.eraseIdx j) (ms.eraseIdx j) := by
  refine ⟨by rw [List.length_eraseIdx, List.length_eraseIdx, h.1], fun i e he => ?_⟩
  rw [List.getElem?_eraseIdx] at he ⊢
  split at he
  · rename_i hlt; rw [if_pos hlt]; exact h.2 i e he
  · rename_i hlt; rw [if_neg hlt]; exact h.2 (i + 1) e he

theorem del_sound (hs : StH ρ I H w) {t ty : TypeId} {ts : Array TypeId} {m key : AV} {um uk : Value} {k : Hp → Prop} (h0 : ts[0]? = some t) (hm : VR ρ I m um) (hk : VR ρ I key uk) (h : delA P H t m key k) :
    ∃ w' H', (Builtin.delete_ ts ty #[um, uk]).run P w = .ok (.tuple #[]) w' ∧ Mv ρ I H w ρ I H' w' ∧ k H' := by
  unfold delA at h
  split at h <;> (first | exact h.elim | skip)
  · rename_i kt et id ht
    split at h <;> (first | exact h.elim | skip)
    rename_i es clock hob
    obtain ⟨hok, hkg, h⟩ := h
    cases hm with
    | mp _ l hl =>
      obtain ⟨hver, l', ms, hl', hb, hent⟩ := hs.obj _ _ hob
      rw [hl] at hl'; simp at hl'; subst hl'
      have hget : (getObj l.blk).run P w = .ok (.map ms clock) w := MapKept.run_getObj_map hb
      rcases find_ent w hent hok hkg hk with ⟨h1, h2⟩ | ⟨j, e, mm, h1, h2, h3, h4, h5, h6, h7⟩
      · rw [delE_none h2] at h
        refine ⟨_, _, ?_, map_write hs hob hver hl hb (ms' := ms) (clock' := clock) hent, h⟩
        simp [Builtin.delete_, h0, run_underlying ht, hget, check_key w _ (hkg.good hk), h1, MapKept.run_setObj_map _ hb]
      · rw [delE_some hok.keys h2 h4] at h
        have hlt : j < ms.size := by have := (List.getElem?_eq_some_iff.1 h3).1; simpa using this
        refine ⟨_, _, ?_, map_write hs hob hver hl hb (ms' := ms.eraseIdxIfInBounds j) (clock' := clock) ?_, h⟩
        · simp [Builtin.delete_, h0, run_underlying ht, hget, check_key w _ (hkg.good hk), h1, MapKept.run_setObj_map _ hb]
        · have : (ms.eraseIdxIfInBounds j).toList = ms.toList.eraseIdx j := by
            unfold Array.eraseIdxIfInBounds
            rw [dif_pos hlt]; simp
          rw [this]; exact hent.erase j
  · rename_i kt et ht
    obtain ⟨hkg, h⟩ := h
    rw [hm.v_inv]
    exact ⟨w, H, by simp [Builtin.delete_, h0, run_underlying ht, check_key w _ (hkg.good hk)], Mv.refl hs, h⟩

theorem clear_sound (hs : StH ρ I H w) {t ty : TypeId} {ts : Array TypeId} {m : AV} {um : Value} {k : Hp → Prop} {kt et : TypeId} (h0 : ts[0]? = some t) (ht : P.underlying t = some (.map kt et)) (hm : VR ρ I m um) (h : clearA H m k) :
    ∃ w' H', (Builtin.clear_ ts ty #[um]).run P w = .ok (.tuple #[]) w' ∧ Mv ρ I H w ρ I H' w' ∧ k H' := by
  unfold clearA at h
  split at h <;> (first | exact h.elim | skip)
  · rename_i id
    split at h <;> (first | exact h.elim | skip)
    rename_i es clock hob
    cases hm with
    | mp _ l hl =>
      obtain ⟨hver, l', ms, hl', hb, hent⟩ := hs.obj _ _ hob
      rw [hl] at hl'; simp at hl'; subst hl'
      have hget : (getObj l.blk).run P w = .ok (.map ms clock) w := MapKept.run_getObj_map hb
      refine ⟨_, _, ?_, map_write hs hob hver hl hb (es' := []) (ms' := #[]) (clock' := clock) ⟨rfl, fun i e he => by simp at he⟩, h⟩
      simp [Builtin.clear_, h0, run_underlying ht, hget, MapKept.run_setObj_map _ hb]
  · rw [hm.v_inv]
    exact ⟨w, H, by simp [Builtin.clear_, h0, run_underlying ht], Mv.refl hs, h⟩

theorem range_sound (hs : StH ρ I H w) {t : TypeId} {x : AV} {ux : Value} {k : AV → Hp → Prop} (hx : VR ρ I x ux) (h : rangeA P H t x k) :
    ∃ u w', (Instr.range t ux).run P w = .ok u w' ∧ DoesH ρ I H w w' u k := by
  have hno : ∀ v' : Nat, 0 < v' → ∀ l : Loc, (ρ.set H.length 0 l) H.length v' = none := fun v' hv l => by
    unfold Rho.set
    rw [if_neg (by omega)]
    exact hs.rho_none (Nat.le_refl _) v'
  unfold rangeA at h
  split at h <;> (first | exact h.elim | skip)
  · rename_i s ht
    rw [hx.v_inv]
    refine ⟨.pointer (some ⟨w.heap.size, 0, none⟩), w.alloc (.stringIter s 0), by simp [Instr.range, run_underlying ht], _, _, _, I, Mv.newObj hs (l := ⟨w.heap.size, 0, 0⟩) (ob := .strIter s 0) (Gw.alloc w _) (Nat.le_refl _) ⟨fun v hv => hno v hv _, _, Rho.set_self _ _ _ _, heap_alloc_new w _⟩ (by simp [blkOf, Rho.set_self]), .it H.length _ (Rho.set_self _ _ _ _), h⟩
  · rename_i kt et id ht
    split at h <;> (first | exact h.elim | skip)
    rename_i es clock hob
    cases hx with
    | mp _ l hl =>
      obtain ⟨hver, l', ms, hl', hb, hent⟩ := hs.obj _ _ hob
      rw [hl] at hl'; simp at hl'; subst hl'
      have hget : (getObj l.blk).run P w = .ok (.map ms clock) w := MapKept.run_getObj_map hb
      have hlt := hs.dom _ _ _ hl
      refine ⟨.pointer (some ⟨w.heap.size, 0, none⟩), w.alloc (.mapIter (some l.blk) clock #[] clock), by simp [Instr.range, run_underlying ht, hget], _, _, _, I,
        Mv.newObj hs (l := ⟨w.heap.size, 0, 0⟩) (ob := .mapIter (some id) clock [] clock) (Gw.alloc w _) (Nat.le_refl _) ⟨fun v hv => hno v hv _, _, l, Rho.set_self _ _ _ _, ?_, heap_alloc_new w _⟩ (by simp [blkOf, Rho.set_self]), .it H.length _ (Rho.set_self _ _ _ _), h⟩
      unfold Rho.set
      rw [if_neg (by omega)]; exact hl
  · rename_i kt et ht
    rw [hx.v_inv]
    refine ⟨.pointer (some ⟨w.heap.size, 0, none⟩), w.alloc (.mapIter none 0 #[] 0), by simp [Instr.range, run_underlying ht], _, _, _, I, Mv.newObj hs (l := ⟨w.heap.size, 0, 0⟩) (ob := .mapIter none 0 [] 0) (Gw.alloc w _) (Nat.le_refl _) ⟨fun v hv => hno v hv _, _, Rho.set_self _ _ _ _, heap_alloc_new w _⟩ (by simp [blkOf, Rho.set_self]), .it H.length _ (Rho.set_self _ _ _ _), h⟩

theorem run_mapNext (n : Nat) (hn : 0 < n) : ∃ c w', (choose (.mapNext n)).run P w = .ok c w' ∧ c < n ∧ Gw none w w' ∧ w'.heap = w.heap := by
  by_cases h : n ≤ 1
  · exact ⟨0, w, by simp [choose, Sem.run, Question.forced, h], hn, Gw.refl w, rfl⟩
  · exact ⟨_, w.drew, by unfold choose; simp only [Sem.run]; rw [if_neg (by simpa [Question.forced] using h)]; rfl, Nat.mod_lt _ hn, Gw.drew w, rfl⟩

/-- An iterator moves. -/
theorem iter_write (hs : StH ρ I H w) {i : Nat} {o ob : Ob} {l : Loc} {oo obj : Obj} (hid : H[i]? = some o) (hbk : blkOf ρ i o = some l.blk) (hb : w.heap[l.blk]? = some oo) (hbo : blkOf ρ i ob = some l.blk)
    (ho : ObR ρ I { w with heap := w.heap.setIfInBounds l.blk obj } i ob) : Mv ρ I H w ρ I (H.set i ob) { w with heap := w.heap.setIfInBounds l.blk obj } :=
  Mv.write hs hid hbk (Gw.setB _ _) (Ext.refl _ _) (fun _ _ _ => rfl) (b1 := l.blk) (.inl rfl) ho hbo

theorem run_setObj_at {b : Nat} {o o' : Obj} (hb : w.heap[b]? = some o') (hn : ∀ c t f, o' ≠ .cells c t f) : (setObj b o).run P w = .ok () { w with heap := w.heap.setIfInBounds b o } := by
  cases o' <;> simp_all [setObj, Sem.run]
theorem run_getObj_at {b : Nat} {o : Obj} (hb : w.heap[b]? = some o) (hn : ∀ c t f, o ≠ .cells c t f) : (getObj b).run P w = .ok o w := by
  cases o <;> simp_all [getObj, Sem.run]

theorem next_sound (hs : StH ρ I H w) {it : AV} {ui : Value} {isStr : Bool} {ty : TypeId} {k : AV → Hp → Prop} (hi : VR ρ I it ui) (h : nextA H it isStr k) :
    ∃ u w', (Instr.next ui isStr ty).run P w = .ok u w' ∧ DoesH ρ I H w w' u k := by
  have over : ∀ w', Mv ρ I H w ρ I H w' → k (.tup [.v (.bool false)]) H → DoesH ρ I H w w' (.tuple #[.bool false]) k := fun w' hm hk =>
    ⟨_, H, ρ, I, hm, .tup [.v (.bool false)] [.bool false] rfl (fun i c hc => by
      match i, hc with
      | 0, hc => simp at hc; subst hc; exact .v _), hk⟩
  unfold nextA at h
  split at h <;> (first | exact h.elim | skip)
  rename_i i
  cases hi with
  | it _ l hl =>
  split at h <;> (first | exact h.elim | skip)
  · -- a text
    rename_i s pos hob
    obtain ⟨hver, l', hl', hb⟩ := hs.obj _ _ hob
    rw [hl] at hl'; simp at hl'; subst hl'
    by_cases hp : pos < s.size
    · have h := h.1 hp
      have hm := iter_write hs (ob := .strIter s (pos + (Utf8.decode s pos).2)) (obj := .stringIter s (pos + (Utf8.decode s pos).2)) hob (by simp [blkOf, hl]) hb (by simp [blkOf, hl]) ⟨hver, l, hl, setB_get hb⟩
      refine ⟨.tuple #[.bool true, .int .i64 pos, .int .i32 (Utf8.decode s pos).1], _, ?_, _, _, ρ, I, hm, .tup _ [.bool true, .int .i64 pos, .int .i32 (Utf8.decode s pos).1] rfl (fun i c hc => ?_), h⟩
      · simp [Instr.next, run_getObj_at hb (by simp), hp, run_setObj_at hb (by simp), goInt]
      · match i, hc with
        | 0, hc => simp at hc; subst hc; exact .v _
        | 1, hc => simp at hc; subst hc; exact .v _
        | 2, hc => simp at hc; subst hc; exact .v _
    · exact ⟨_, w, by simp [Instr.next, run_getObj_at hb (by simp), hp], over w (Mv.refl hs) (h.2 hp)⟩
  · rename_i a b c hob
    obtain ⟨hver, l', hl', hb⟩ := hs.obj _ _ hob
    rw [hl] at hl'; simp at hl'; subst hl'
    exact ⟨_, w, by simp [Instr.next, run_getObj_at hb (by simp)], over w (Mv.refl hs) h⟩
  · rename_i m since seen last hob
    split at h <;> (first | exact h.elim | skip)
    rename_i es clock hmob
    obtain ⟨hver, l', lm, hl', hlm, hb⟩ := hs.obj _ _ hob
    rw [hl] at hl'; simp at hl'; subst hl'
    obtain ⟨_, lm', ms, hlm', hmb, hent⟩ := hs.obj _ _ hmob
    rw [hlm] at hlm'; simp at hlm'; subst hlm'
    obtain ⟨hgone, hstep, hend⟩ := h
    have hborn : ∀ mm ∈ ms.toList, ∃ e ∈ es, mm.born = e.1 ∧ VR ρ I e.2.1 mm.key ∧ VR ρ I e.2.2 mm.val := by
      intro mm hmm
      obtain ⟨j, hj⟩ := List.getElem?_of_mem hmm
      have hlt := (List.getElem?_eq_some_iff.1 hj).1
      rw [hent.1] at hlt
      obtain ⟨m', k1, k2, k3, k4⟩ := hent.2 j _ (List.getElem?_eq_getElem hlt)
      rw [hj] at k1; simp at k1; subst k1
      exact ⟨_, List.getElem_mem hlt, k2, k3, k4⟩
    have hback : ∀ e ∈ es, ∃ mm ∈ ms.toList, mm.born = e.1 := by
      intro e he
      obtain ⟨j, hj⟩ := List.getElem?_of_mem he
      obtain ⟨m', k1, k2, _⟩ := hent.2 j e hj
      exact ⟨m', List.mem_of_getElem? k1, k2⟩
    have hg : ¬ ((!seen.toArray.isEmpty && !ms.isEmpty && ms.all (fun x => decide (x.born ≥ last))) = true) := by
      intro hc
      simp only [Bool.and_eq_true, Bool.not_eq_true'] at hc
      refine hgone ⟨fun e => by subst e; simp at hc, fun e => by subst e; have := hent.1; simp at this; simp [this] at hc, fun e he => ?_⟩
      obtain ⟨mm, h1, h2⟩ := hback e he
      have := (Array.all_eq_true'.1 hc.2) mm (by simpa using h1)
      simp at this; omega
    let left := ms.filter fun e => !seen.toArray.contains e.born
    let old := left.filter (fun x => decide (x.born < since))
    let new := left.filter (fun x => decide (x.born ≥ since))
    let cand : Array (Option MapEntry) := (if old.isEmpty then #[none] else #[]) ++ (old ++ new).map some
    have hpos : 0 < cand.size := by
      simp only [cand]
      by_cases ho : old.isEmpty = true
      · rw [if_pos ho]; simp; omega
      · rw [if_neg ho]
        have : 0 < old.size := by
          rcases Nat.eq_zero_or_pos old.size with h0 | h0
          · exact absurd (by simpa [Array.isEmpty] using h0) ho
          · exact h0
        simp; omega
    obtain ⟨c, w', hc1, hlt, hc2, hc3⟩ := run_mapNext (P := P) (w := w) cand.size hpos
    have hs' : Mv ρ I H w ρ I H w' := Mv.junk hs hc2
    have hb' : w'.heap[l.blk]? = some (.mapIter (some lm.blk) since seen.toArray last) := by rw [hc3]; exact hb
    have hrun : ∀ R, (match cand[c]? with
        | some (some e) => (do setObj l.blk (.mapIter (some lm.blk) since (seen.toArray.push e.born) clock); pure (.tuple #[.bool true, e.key, e.val]) : Sem Value).run P w'
        | some none => .ok (.tuple #[.bool false]) w'
        | none => (stuck "Next: no such candidate" : Sem Value).run P w') = R → (Instr.next (.pointer (some ⟨l.blk, 0, none⟩)) false ty).run P w = R := by
      intro R hR
      rw [← hR]
      simp only [Instr.next, Sem.run_bind, run_getObj_at hb (by simp), Result.andThen_ok, run_getObj_at hmb (by simp)]
      rw [if_neg hg]
      simp only [Sem.run_bind, Sem.run_pure]
      have e : (choose (.mapNext cand.size)).run P w = .ok c w' := hc1
      simp only [cand, left, old, new] at e
      rw [e]
      simp only [Result.andThen_ok, cand, left, old, new]
      split <;> rename_i hh <;> rw [hh] <;> simp
    have hget : cand[c]? = some cand[c] := Array.getElem?_eq_getElem hlt
    have hmem : cand[c] ∈ cand := Array.getElem_mem hlt
    cases hx : cand[c] with
    | none =>
      refine ⟨_, w', hrun _ (by rw [hget, hx]), over w' hs' (hend fun e he => ?_)⟩
      rw [hx] at hmem
      have hold : old.isEmpty = true := by
        by_cases ho : old.isEmpty = true
        · exact ho
        · simp only [cand] at hmem
          rw [if_neg ho] at hmem
          simp at hmem
      obtain ⟨mm, h1, h2⟩ := hback e he
      by_cases hsn : e.1 ∈ seen
      · exact .inl hsn
      · right
        rcases Nat.lt_or_ge e.1 since with h3 | h3
        · exfalso
          have : mm ∈ old := by
            simp only [old, left]
            rw [Array.mem_filter, Array.mem_filter]
            exact ⟨⟨by simpa using h1, by simp [h2, hsn]⟩, by simp [h2, h3]⟩
          have h0 : old.size = 0 := by simpa [Array.isEmpty] using hold
          have := Array.size_pos_of_mem this
          omega
        · exact h3
    | some mm =>
      rw [hx] at hmem
      have hin : mm ∈ left := by
        simp only [cand] at hmem
        rw [Array.mem_append] at hmem
        rcases hmem with hm | hm
        · split at hm <;> simp at hm
        · rw [Array.mem_map] at hm
          obtain ⟨y, hy, hye⟩ := hm
          simp at hye; subst hye
          rw [Array.mem_append] at hy
          rcases hy with hy | hy
          · exact (Array.mem_filter.1 hy).1
          · exact (Array.mem_filter.1 hy).1
      have hin2 := Array.mem_filter.1 hin
      obtain ⟨e, he, hb1, hb2, hb3⟩ := hborn mm (by simpa using hin2.1)
      have hns : e.1 ∉ seen := by have := hin2.2; rw [hb1] at this; simpa using this
      have hm2 := iter_write hs'.st (ob := .mapIter (some m) since (seen ++ [e.1]) clock) (obj := .mapIter (some lm.blk) since (seen.toArray.push mm.born) clock) hob (by simp [blkOf, hl]) hb' (by simp [blkOf, hl])
        ⟨hver, l, lm, hl, hlm, by rw [setB_get hb', hb1]; simp⟩
      refine ⟨_, _, hrun _ (by rw [hget, hx]; simp [run_setObj_at hb' (by simp)]), _, _, ρ, I, hs'.trans hm2, .tup [.v (.bool true), e.2.1, e.2.2] [.bool true, mm.key, mm.val] rfl (fun i c hc => ?_), hstep e he hns⟩
      match i, hc with
      | 0, hc => simp at hc; subst hc; exact .v _
      | 1, hc => simp at hc; subst hc; exact hb2
      | 2, hc => simp at hc; subst hc; exact hb3

theorem find_entR {st : Nat} : ∀ {es : List (Nat × AV × AV)} {ms : List MapEntry} {e : Nat × AV × AV}, EntR ρ I es ms → es.find? (fun e => e.1 == st) = some e →
    ∃ m : MapEntry, ms.find? (fun m => m.born == st) = some m ∧ VR ρ I e.2.1 m.key ∧ VR ρ I e.2.2 m.val
  | [], ms, e, _, h => by simp at h
  | x :: es, ms, e, hE, h => by
    obtain ⟨hl, hg⟩ := hE
    cases ms with
    | nil => simp at hl
    | cons m ms =>
      obtain ⟨m', h1, h2, h3, h4⟩ := hg 0 x rfl
      simp at h1; subst h1
      rw [List.find?_cons] at h ⊢
      rw [h2]
      by_cases hx : (x.1 == st) = true
      · rw [hx] at h ⊢
        simp at h; subst h
        exact ⟨m, rfl, h3, h4⟩
      · have hx' : (x.1 == st) = false := by simpa using hx
        rw [hx'] at h ⊢
        exact find_entR (es := es) (ms := ms) ⟨by simpa using hl, fun i e he => by simpa using hg (i + 1) e (by simpa using he)⟩ h

theorem entry_sound (hs : StH ρ I H w) {it r : AV} {ui : Value} (hi : VR ρ I it ui) (h : entryA H it = some r) :
    ∃ u, (Instr.entry ui).run P w = .ok u w ∧ VR ρ I r u := by
  unfold entryA at h
  split at h <;> (first | (exfalso; simp at h; done) | skip)
  rename_i i
  cases hi with
  | it _ l hl =>
  split at h <;> (first | (exfalso; simp at h; done) | skip)
  rename_i m since seen last hob
  split at h <;> (first | (exfalso; simp at h; done) | skip)
  rename_i es clock st hmob hlast
  split at h <;> (first | (exfalso; simp at h; done) | skip)
  rename_i hcl
  subst hcl
  obtain ⟨e, he, rfl⟩ := Option.map_eq_some_iff.1 h
  obtain ⟨hver, l', lm, hl', hlm, hb⟩ := hs.obj _ _ hob
  rw [hl] at hl'; simp at hl'; subst hl'
  obtain ⟨_, lm', ms, hlm', hmb, hent⟩ := hs.obj _ _ hmob
  rw [hlm] at hlm'; simp at hlm'; subst hlm'
  obtain ⟨mm, h1, h2, h3⟩ := find_entR hent he
  have hbk : seen.toArray.back? = some st := by simpa using hlast
  have hfd : ms.find? (fun m => m.born == st) = some mm := by rw [← Array.find?_toList]; exact h1
  refine ⟨.tuple #[mm.key, mm.val], ?_, .tup _ [mm.key, mm.val] rfl (fun i c hc => ?_)⟩
  · simp [Instr.entry, run_getObj_at hb (by simp), run_getObj_at hmb (by simp), hlast, hfd]
  · match i, hc with
    | 0, hc => simp at hc; subst hc; exact h2
    | 1, hc => simp at hc; subst hc; exact h3
end
end Go.Mx
