/-
  The abstract machine: regions that draw their order: any order does what the plan does.
-/
import Derived.Test.YtkjfodfljchhcaaMxY
namespace Go.Mx
open Go.RowKit
set_option linter.unusedVariables false
set_option linter.unusedSimpArgs false

section
variable {P : Program} {N : Nat} {cf : Cfg} {fr fr' : Fr} {H : Hp} {ρ : Rho} {I : Imm} {β : Nat → Option Nat} {a : Act} {w w' : World} {ds : List Nat} {ops : Array Oper}

theorem opG_quiet2 {o : Oper} {k : Fr → Hp → Prop} (hq : quietO P o = true) (h : opG P N cf ops fr H o o.guard k) :
    ∃ fr' x, (∀ t, look t fr'.slots = look t fr.slots) ∧ fr'.boxes = fr.boxes ∧ valQ P ops fr' H o = some x ∧ putK N o.dst x fr' (fun f => k f H) := by
  unfold opG at h
  split at h
  · rename_i hg
    obtain ⟨x, h1, h2⟩ := opA_quiet hq h
    exact ⟨fr, x, fun _ => rfl, rfl, by simp [valQ, hg, h1], h2⟩
  · rename_i j want hg
    split at h <;> (first | exact h.elim | skip)
    rename_i s hj
    have key : ∀ b : Bool, opS fr (.tmp s) = some (.av (.v (.bool b))) → (if b = want then opA P N cf (fr.known (.tmp s) b) H o k else putK N o.dst (.av (.v undef)) (fr.known (.tmp s) b) (fun fr' => k fr' H)) →
        ∃ fr' x, (∀ t, look t fr'.slots = look t fr.slots) ∧ fr'.boxes = fr.boxes ∧ valQ P ops fr' H o = some x ∧ putK N o.dst x fr' (fun f => k f H) := by
      intro b hb hk
      have hl : look s (fr.known (.tmp s) b).slots = some (.av (.v (.bool b))) := by simp [Fr.known, look]
      have hall : ∀ t, look t (fr.known (.tmp s) b).slots = look t fr.slots := fun t => by
        simp only [Fr.known, look]
        split
        · rename_i e; subst e; exact hb.symm
        · rfl
      split at hk
      · rename_i he
        subst he
        obtain ⟨x, h1, h2⟩ := opA_quiet hq hk
        exact ⟨_, x, hall, rfl, by simp [valQ, hg, hj, hl, h1, isU], h2⟩
      · rename_i he
        exact ⟨_, _, hall, rfl, by simp [valQ, hg, hj, hl, he, isU], hk⟩
    unfold guardA at h
    cases hu : isU (look s fr.slots) with
    | true =>
      rw [hu] at h
      exact ⟨fr, _, fun _ => rfl, rfl, by simp [valQ, hg, hj, hu], h⟩
    | false =>
    rw [hu] at h
    have hkn : ∀ b, isU (look s (fr.known (.tmp s) b).slots) = false := fun b => by simp [Fr.known, look, isU]
    cases want with
    | true =>
      simp only at h
      unfold condA at h
      split at h <;> (first | exact h.elim | skip)
      rename_i b hb
      cases b with
      | true => exact key true hb (by simpa [Cond] using h)
      | false => exact key false hb (by simpa [Cond] using h)
    | false =>
      simp only at h
      unfold condA at h
      split at h <;> (first | exact h.elim | skip)
      rename_i b hb
      cases b with
      | true => exact key true hb (by simpa [Cond] using h)
      | false => exact key false hb (by simpa [Cond] using h)

/-- Frames in which one finds the same. -/
theorem Sim.same (hs : Sim N ρ I β fr H a w) (hl : ∀ t x, look t fr'.slots = some x → look t fr.slots = some x) (hb : fr'.boxes = fr.boxes) : Sim N ρ I β fr' H a w where
  heap := hs.heap
  defers := hs.defers
  size := hs.size
  slot t x hx := hs.slot t x (hl t x hx)
  box t cs h := hs.box t cs (by rw [← hb]; exact h)
  binj t t' cs cs' b h h' := hs.binj t t' cs cs' b (by rw [← hb]; exact h) (by rw [← hb]; exact h')
theorem OwnF.same (hb : fr'.boxes = fr.boxes) : OwnF ρ β fr' H = OwnF ρ β fr H := by unfold OwnF; rw [hb]

/-- Where an operation writes. -/
def dOf (ops : Array Oper) (i : Nat) : Nat := ((ops[i]?).bind (·.dst)).getD 0

theorem allQ_iff {l : List Nat} : allQ P ops fr H l ↔ ∀ j ∈ l, sameQ P ops fr H j := by
  induction l with
  | nil => simp [allQ]
  | cons j r ih => simp [allQ, ih]

/-- Newest first: none stands behind a newer one. -/
def HidOrd (ops : Array Oper) : List Nat → Prop
  | [] => True
  | i :: r => i ∉ r ∧ (∀ p ∈ r, ∀ o, ops[p]? = some o → ∀ e ∈ o.after, Region.binds .any e = true → e.on ≠ i) ∧ HidOrd ops r
theorem HidOrd.filter (q : Nat → Bool) : ∀ {l : List Nat}, HidOrd ops l → HidOrd ops (l.filter q)
  | [], _ => trivial
  | i :: r, ⟨h1, h2, h3⟩ => by
    rw [List.filter_cons]
    split
    · exact ⟨fun h => h1 (List.mem_filter.1 h).1, fun p hp => h2 p (List.mem_filter.1 hp).1, HidOrd.filter q h3⟩
    · exact HidOrd.filter q h3
/-- The oldest stands behind none of them. -/
theorem HidOrd.oldest : ∀ {l : List Nat}, HidOrd ops l → l ≠ [] → (∀ i ∈ l, ∀ o, ops[i]? = some o → ∀ e ∈ o.after, Region.binds .any e = true → e.on ≠ i) →
    ∃ i ∈ l, ∀ o, ops[i]? = some o → ∀ e ∈ o.after, Region.binds .any e = true → e.on ∉ l
  | [], _, h, _ => absurd rfl h
  | i :: r, ⟨h1, h2, h3⟩, _, hs => by
    by_cases hr : r = []
    · subst hr
      exact ⟨i, by simp, fun o ho e he hb hm => hs i (by simp) o ho e he hb (by simpa using hm)⟩
    · obtain ⟨j, hj, hj2⟩ := HidOrd.oldest h3 hr (fun j hj => hs j (by simp [hj]))
      refine ⟨j, by simp [hj], fun o ho e he hb hm => ?_⟩
      rcases List.mem_cons.1 hm with hm | hm
      · exact h2 j hj o ho e he hb hm
      · exact hj2 o ho e he hb hm

/-- How far the region has come: 'dn': what the plan has done; 'hid': what of it has not run yet. -/
structure DI (P : Program) (ops : Array Oper) (listed : Array Bool) (dn hid : List Nat) : Prop where
  size : listed.size = ops.size
  part : ∀ j, j < ops.size → (listed.getD j true = false ↔ (j ∉ dn ∨ j ∈ hid))
  hidq : ∀ i ∈ hid, i ∈ dn ∧ ∃ o, ops[i]? = some o ∧ QOk P ops i o (dOf ops i)
  down : ∀ j o, ops[j]? = some o → listed.getD j true = true → ∀ e ∈ o.after, Region.binds .any e = true → listed.getD e.on false = true
  dnd : ∀ j ∈ dn, ∃ o, ops[j]? = some o ∧ (∀ e ∈ o.after, Region.binds .any e = true → e.on ∈ dn ∧ e.on ≠ j)
  ord : HidOrd ops hid

theorem DI.lt {listed : Array Bool} {dn hid : List Nat} (h : DI P ops listed dn hid) {j : Nat} (hj : j ∈ dn) : j < ops.size := by
  obtain ⟨o, ho, _⟩ := h.dnd j hj
  exact (Array.getElem?_eq_some_iff.1 ho).1
theorem DI.getD {listed : Array Bool} {dn hid : List Nat} (h : DI P ops listed dn hid) {j : Nat} (hj : j < ops.size) : listed.getD j false = listed.getD j true := by
  have : j < listed.size := by rw [h.size]; exact hj
  simp [Array.getD_eq_getD_getElem?, this]
theorem DI.listed {listed : Array Bool} {dn hid : List Nat} (h : DI P ops listed dn hid) {j : Nat} (hj : j < ops.size) (hl : listed.getD j false = true) : j ∈ dn ∧ j ∉ hid := by
  rw [h.getD hj] at hl
  have hn : ¬ (listed.getD j true = false) := by rw [hl]; simp
  rw [h.part j hj] at hn
  refine ⟨Classical.byContradiction fun hc => hn (.inl hc), fun hc => hn (.inr hc)⟩

/-- While something is owed, something can run. -/
theorem DI.ready {listed : Array Bool} {dn hid : List Nat} (h : DI P ops listed dn hid) (hne : hid ≠ []) : Region.ready .any ops listed ≠ [] := by
  obtain ⟨i, hi, hi2⟩ := h.ord.oldest hne (fun i hi o ho e he hb => by
    obtain ⟨o', ho', h2⟩ := h.dnd i (h.hidq i hi).1
    rw [ho] at ho'; simp at ho'; subst ho'
    exact (h2 e he hb).2)
  have hdn := (h.hidq i hi).1
  obtain ⟨o, ho, h2⟩ := h.dnd i hdn
  have hm : i ∈ Region.ready .any ops listed := by
    rw [mem_ready]
    refine ⟨(h.part i (h.lt hdn)).2 (.inr hi), o, ho, fun e he hb => ?_⟩
    have h3 := (h2 e he hb).1
    have hlt := h.lt h3
    rw [h.getD hlt]
    have hn : ¬ (listed.getD e.on true = false) := by
      rw [h.part e.on hlt]
      rintro (h4 | h4)
      · exact h4 h3
      · exact hi2 o ho e he hb h4
    simpa using hn
  intro e
  rw [e] at hm
  simp at hm

/-- An operation of a region, run. -/
theorem wpOp_opG {Q : Exit → Act → World → Prop} {i : Nat} {o : Oper} {k : Fr → Hp → Prop} {K : Act → World → Prop} (hi : ops[i]? = some o) (hs : Sim N ρ I β fr H a w) (h : opG P N cf ops fr H o o.guard k)
    (hK : ∀ a' w' fr' H' ρ' I' β', MvF (OwnF ρ β fr H) ρ I w (OwnF ρ' β' fr' H') ρ' I' w' → Sim N ρ' I' β' fr' H' a' w' → k fr' H' → K a' w') : Go.wpOp P ops Q i K a w := by
  unfold Go.wpOp
  simp only [hi]
  unfold opG at h
  split at h
  · rename_i hg
    rw [if_pos (by simp [Region.wanted, hg])]
    left
    refine Go.Oper.wp_mono ?_ (opA_sound h ρ I β a w hs Q)
    rintro a' w' ⟨fr', H', ρ', I', β', h1, h2, h3⟩
    exact hK a' w' fr' H' ρ' I' β' h1 h2 h3
  · rename_i j want hg
    split at h <;> (first | exact h.elim | skip)
    rename_i s hj
    obtain ⟨fr1, hs1, hown, ⟨hy, hb⟩ | ⟨hy, hb⟩⟩ := guardA_sound hs hj h
    · rw [if_pos (by simp [Region.wanted, hg, hy])]
      left
      refine Go.Oper.wp_mono ?_ (opA_sound hb ρ I β a w hs1 Q)
      rintro a' w' ⟨fr', H', ρ', I', β', h1, h2, h3⟩
      rw [hown] at h1
      exact hK a' w' fr' H' ρ' I' β' h1 h2 h3
    · rw [if_neg (by simp [Region.wanted, hg, hy])]
      obtain ⟨fr2, h5, h6, h7⟩ := hs1.putK (x := .av (.v undef)) (u := undef) (.v undef) hb
      exact hK _ _ fr2 H ρ I β (by rw [h6, hown]; exact MvF.refl _ _ _ _) h5 h7

theorem hide_nil : fr.hide [] = fr := by
  have : fr.slots.filter (fun p => !([] : List Nat).contains p.1) = fr.slots := List.filter_eq_self.2 (fun p _ => rfl)
  unfold Fr.hide
  rw [this]
theorem DI.far {listed : Array Bool} {dn hid : List Nat} (h : DI P ops listed dn hid) {i : Nat} {oi : Oper} (hi : ops[i]? = some oi) (hself : i ∈ hid → dOf ops i ∉ oi.looksAt ops)
    (hpre : ∀ e ∈ oi.after, Region.binds .any e = true → listed.getD e.on false = true) : ∀ t ∈ oi.looksAt ops, t ∉ hid.map (dOf ops) := by
  intro t ht hm
  obtain ⟨p, hp, rfl⟩ := List.mem_map.1 hm
  by_cases hpi : i = p
  · subst hpi; exact hself hp ht
  · obtain ⟨hpd, o, ho, hq⟩ := h.hidq p hp
    obtain ⟨e, he, hb, hon⟩ := hq.looked i oi hi hpi ht
    have h1 := hpre e he hb
    rw [hon] at h1
    exact (h.listed (h.lt hpd) h1).2 hp
theorem hid_slots {hid : List Nat} {i : Nat} (hinj : ∀ p ∈ hid, p ≠ i → dOf ops p ≠ dOf ops i) : (hid.map (dOf ops)).filter (· != dOf ops i) = (hid.filter (· != i)).map (dOf ops) := by
  rw [List.filter_map]
  congr 1
  apply List.filter_congr
  intro p hp
  by_cases hpi : p = i
  · subst hpi; simp
  · have := hinj p hp hpi
    have e1 : (dOf ops p != dOf ops i) = true := by simpa using this
    have e2 : (p != i) = true := by simpa using hpi
    exact e1.trans e2.symm
theorem DI.inj {listed : Array Bool} {dn hid : List Nat} (h : DI P ops listed dn hid) {i : Nat} (hi : i ∈ hid) : ∀ p ∈ hid, p ≠ i → dOf ops p ≠ dOf ops i := by
  intro p hp hpi he
  obtain ⟨_, o, ho, hq⟩ := h.hidq i hi
  obtain ⟨_, o', ho', hq'⟩ := h.hidq p hp
  exact hq.other p o' ho' hpi (by rw [hq'.dst, he])
/-- One that was owed has run. -/
theorem DI.ran {listed : Array Bool} {dn hid : List Nat} (h : DI P ops listed dn hid) {i : Nat} (hi : i ∈ hid) {oi : Oper} (ho : ops[i]? = some oi)
    (hpre : ∀ e ∈ oi.after, Region.binds .any e = true → listed.getD e.on false = true) : DI P ops (listed.setIfInBounds i true) dn (hid.filter (· != i)) := by
  have hlt := h.lt (h.hidq i hi).1
  refine ⟨by simp [h.size], fun j hj => ?_, fun j hj => h.hidq j (List.mem_filter.1 hj).1, fun j o hoj hl e he hb => ?_, h.dnd, h.ord.filter _⟩
  · by_cases hji : i = j
    · subst hji
      have : (listed.setIfInBounds i true).getD i true = true := by simp [Array.getD_eq_getD_getElem?, h.size, hlt]
      rw [this]
      simp [(h.hidq i hi).1]
    · rw [getD_set_ne true hji, h.part j hj]
      simp [Ne.symm hji]
  · by_cases hji : i = j
    · subst hji
      rw [ho] at hoj; simp at hoj; subst hoj
      exact getD_set_true (hpre e he hb)
    · rw [getD_set_ne true hji] at hl
      exact getD_set_true (h.down j o hoj hl e he hb)

/-- Behind a region. -/
def DrawQ (N : Nat) (L0 : Nat → Prop) (ρ0 : Rho) (I0 : Imm) (w0 : World) (k : Fr → Hp → Prop) (e : Exit) (a : Act) (w : World) : Prop :=
  e = .normal ∧ ∃ fr H ρ I β, MvF L0 ρ0 I0 w0 (OwnF ρ β fr H) ρ I w ∧ Sim N ρ I β fr H a w ∧ k fr H

theorem draw_hid {dn hid : List Nat} {listed : Array Bool} {Q : Exit → Act → World → Prop}
    (hD : DI P ops listed dn hid) (hN : ∀ i ∈ hid, dOf ops i < N) (hs : Sim N ρ I β (fr.hide (hid.map (dOf ops))) H a w) (hA : allQ P ops fr H hid) {i : Nat} (hi : i ∈ hid) {oi : Oper} (ho : ops[i]? = some oi)
    (hpre : ∀ e ∈ oi.after, Region.binds .any e = true → listed.getD e.on false = true) {K : Act → World → Prop}
    (hK : ∀ a' w' I', Sim N ρ I' β (fr.hide ((hid.filter (· != i)).map (dOf ops))) H a' w' → MvF (OwnF ρ β fr H) ρ I w (OwnF ρ β fr H) ρ I' w' → K a' w') : Go.wpOp P ops Q i K a w := by
  obtain ⟨hdn, o, ho', hq⟩ := hD.hidq i hi
  rw [ho] at ho'; simp at ho'; subst ho'
  have hsame := allQ_iff.1 hA i hi
  unfold sameQ at hsame
  rw [ho] at hsame
  simp only [hq.dst] at hsame
  obtain ⟨x, hx, hl⟩ := hsame
  have hfar := hD.far ho (fun _ => hq.self) hpre
  have hx' : valQ P ops (fr.hide (hid.map (dOf ops))) H oi = some x := by
    rw [← hx]
    refine valQ_congr hq.quiet rfl (fun t ht => ?_)
    rw [look_hide]
    have : (hid.map (dOf ops)).contains t = false := by simpa using hfar t ht
    rw [this]; rfl
  obtain ⟨u, w', I', hy, hm, hv⟩ := valQ_sound hs hx'
  obtain ⟨hs', hmv⟩ := hs.move hm
  refine hy.wpOp ho (hK _ w' I' ?_ hmv)
  rw [hq.dst, ← hid_slots (hD.inj hi)]
  exact hs'.show (hN i hi) hl hv

theorem bef_listed {listed : Array Bool} {dn hid : List Nat} (hD : DI P ops listed dn hid) : ∀ (bef acc : List Nat), Bef ops acc bef → (∀ j ∈ acc, ∀ oj, ops[j]? = some oj → ∀ e ∈ oj.after, Region.binds .any e = true → listed.getD e.on false = true) →
    ∀ x ∈ bef, listed.getD x false = true
  | [], _, _, _, x, hx => by simp at hx
  | y :: r, acc, ⟨⟨j, hj, oj, hoj, e, he, hb, hon⟩, hr⟩, ha, x, hx => by
    have hy : listed.getD y false = true := by rw [← hon]; exact ha j hj oj hoj e he hb
    rcases List.mem_cons.1 hx with rfl | hx
    · exact hy
    · refine bef_listed hD r (y :: acc) hr (fun j' hj' oj' hoj' e' he' hb' => ?_) x hx
      rcases List.mem_cons.1 hj' with rfl | hj'
      · refine hD.down j' oj' hoj' ?_ e' he' hb'
        have hlt := (Array.getElem?_eq_some_iff.1 hoj').1
        rw [← hD.getD hlt]; exact hy
      · exact ha j' hj' oj' hoj' e' he' hb'

theorem draw_go {k : Fr → Hp → Prop} {L0 : Nat → Prop} {ρ0 : Rho} {I0 : Imm} {w0 : World} : ∀ (fuel : Nat) (plan : List Stp) (dn hid : List Nat) (listed : Array Bool) (a : Act) (w : World) (fr : Fr) (H : Hp) (ρ : Rho) (I : Imm) (β : Nat → Option Nat),
    DI P ops listed dn hid → POk P ops dn plan → (∀ i ∈ hid, dOf ops i < N) → Sim N ρ I β (fr.hide (hid.map (dOf ops))) H a w → MvF L0 ρ0 I0 w0 (OwnF ρ β fr H) ρ I w → allQ P ops fr H hid → evP P N cf ops plan k fr H →
    hid.length + plan.length ≤ fuel → wpAny P .any ops (DrawQ N L0 ρ0 I0 w0 k) fuel listed a w := by
  intro fuel
  induction fuel with
  | zero =>
    intro plan dn hid listed a w fr H ρ I β hD hP hN hs hm hA hev hf
    have h1 : hid = [] := List.eq_nil_of_length_eq_zero (by omega)
    have h2 : plan = [] := List.eq_nil_of_length_eq_zero (by omega)
    subst h1 h2
    refine ⟨?_, rfl, fr, H, ρ, I, β, hm, by simpa [hide_nil] using hs, hev⟩
    apply List.eq_nil_iff_forall_not_mem.2
    intro j hj
    obtain ⟨h0, o, ho, _⟩ := mem_ready.1 hj
    have hlt := (Array.getElem?_eq_some_iff.1 ho).1
    rcases (hD.part j hlt).1 h0 with h | h
    · exact h (hP j hlt)
    · simp at h
  | succ fuel ihf =>
    intro plan
    induction plan with
    | nil =>
      intro dn hid listed a w fr H ρ I β hD hP hN hs hm hA hev hf
      refine ⟨fun hr => ?_, fun i hi => ?_⟩
      · have h1 : hid = [] := Classical.byContradiction fun hne => hD.ready hne hr
        subst h1
        exact ⟨rfl, fr, H, ρ, I, β, hm, by simpa [hide_nil] using hs, hev⟩
      · obtain ⟨h0, o, ho, hpre⟩ := mem_ready.1 hi
        have hlt := (Array.getElem?_eq_some_iff.1 ho).1
        have hih : i ∈ hid := by
          rcases (hD.part i hlt).1 h0 with h | h
          · exact absurd (hP i hlt) h
          · exact h
        refine draw_hid hD hN hs hA hih ho hpre (fun a' w' I' hs' hmv => ?_)
        refine ihf [] dn _ _ a' w' fr H ρ I' β (hD.ran hih ho hpre) hP (fun j hj => hN j (List.mem_filter.1 hj).1) hs' (hm.trans hmv) (allQ_iff.2 fun j hj => allQ_iff.1 hA j (List.mem_filter.1 hj).1) hev ?_
        have := List.length_filter_lt_length_iff_exists (l := hid) (p := (· != i)) |>.2 ⟨i, hih, by simp⟩
        simp at hf ⊢; omega
    | cons st r ihp =>
      intro dn hid listed a w fr H ρ I β hD hP hN hs hm hA hev hf
      cases st with
      | q i =>
        obtain ⟨o, d, ho, hin, hpr, hq, hrest⟩ := hP
        simp only [evP, ho] at hev
        obtain ⟨fr', x, hl, hb, hv, hk⟩ := opG_quiet2 hq.quiet hev
        rw [hq.dst] at hk
        unfold putK at hk
        simp only at hk
        split at hk <;> (first | exact hk.elim | skip)
        rename_i hdN
        have hdO : dOf ops i = d := by simp [dOf, ho, hq.dst]
        have hlook : ∀ t, t ≠ d → look t ((d, x) :: fr'.slots) = look t fr.slots := fun t ht => by
          simp only [look]; rw [if_neg (Ne.symm ht)]; exact hl t
        have hihid : i ∉ hid := fun h => hin (hD.hidq i h).1
        have hpd : ∀ p ∈ hid, ∀ op, ops[p]? = some op → ∀ e ∈ op.after, Region.binds .any e = true → e.on ≠ i := fun p hp op hop e he hb' hon => by
          obtain ⟨op', hop', h2⟩ := hD.dnd p (hD.hidq p hp).1
          rw [hop] at hop'; simp at hop'; subst hop'
          exact hin (hon ▸ (h2 e he hb').1)
        refine ihp (i :: dn) (i :: hid) listed a w { fr' with slots := (d, x) :: fr'.slots } H ρ I β ⟨hD.size, fun j hj => ?_, fun j hj => ?_, hD.down, fun j hj => ?_, hihid, hpd, hD.ord⟩ hrest (fun j hj => ?_) ?_ ?_ ?_ hk (by simp at hf ⊢; omega)
        · rw [hD.part j hj]
          by_cases hji : j = i
          · subst hji; simp [hin]
          · simp [hji]
        · rcases List.mem_cons.1 hj with rfl | hj
          · exact ⟨by simp, o, ho, by rw [hdO]; exact hq⟩
          · obtain ⟨h1, h2⟩ := hD.hidq j hj
            exact ⟨by simp [h1], h2⟩
        · rcases List.mem_cons.1 hj with rfl | hj
          · exact ⟨o, ho, fun e he hb' => ⟨by simp [hpr e he hb'], fun hon => hin (hon ▸ hpr e he hb')⟩⟩
          · obtain ⟨oj, h1, h2⟩ := hD.dnd j hj
            exact ⟨oj, h1, fun e he hb' => ⟨by simp [(h2 e he hb').1], (h2 e he hb').2⟩⟩
        · rcases List.mem_cons.1 hj with rfl | hj
          · rw [hdO]; exact hdN
          · exact hN j hj
        · refine hs.same (fun t y hy => ?_) hb
          rw [look_hide] at hy ⊢
          split at hy
          · simp at hy
          · rename_i hc
            simp only [List.map_cons, hdO, List.contains_cons, Bool.or_eq_true, not_or] at hc
            have htd : t ≠ d := by simpa using hc.1
            rw [hlook t htd] at hy
            rw [if_neg hc.2]; exact hy
        · rw [show OwnF ρ β { fr' with slots := (d, x) :: fr'.slots } H = OwnF ρ β fr H from OwnF.same hb]; exact hm
        · refine ⟨?_, allQ_iff.2 fun j hj => ?_⟩
          · unfold sameQ
            rw [ho]
            simp only [hq.dst]
            refine ⟨x, ?_, by simp [look]⟩
            rw [← hv]
            exact valQ_congr hq.quiet rfl (fun t ht => by simp only [look]; rw [if_neg (fun e : d = t => hq.self (by rw [e]; exact ht))])
          · have h3 := allQ_iff.1 hA j hj
            obtain ⟨_, oj, hoj, hqj⟩ := hD.hidq j hj
            have hji : j ≠ i := fun e => hihid (e ▸ hj)
            unfold sameQ at h3 ⊢
            rw [hoj] at h3 ⊢
            simp only [hqj.dst] at h3 ⊢
            obtain ⟨y, hy1, hy2⟩ := h3
            refine ⟨y, ?_, ?_⟩
            · rw [← hy1]
              refine valQ_congr hqj.quiet hb (fun t ht => hlook t (fun e => ?_))
              subst e
              obtain ⟨e, he, hb', hon⟩ := hq.looked j oj hoj hji ht
              exact hpd j hj oj hoj e he hb' hon
            · rw [← hy2]
              exact hlook _ (fun e => hq.other j oj hoj hji (by rw [hqj.dst, e]))
      | s i chk bef =>
        have hP0 := hP
        have hev0 := hev
        obtain ⟨o, ho, hin, hpr, hq, huniq, hcov, hbef, hrest⟩ := hP
        simp only [evP, ho] at hev
        have hltl : ∀ m, listed.getD m false = true → m < ops.size := fun m hm => by
          rw [← hD.size]
          rcases Nat.lt_or_ge m listed.size with h | h
          · exact h
          · simp [Array.getD_eq_getD_getElem?, Array.getElem?_eq_none h] at hm
        refine ⟨fun hr => ?_, fun j hj => ?_⟩
        · exfalso
          have h1 : hid = [] := Classical.byContradiction fun hne => hD.ready hne hr
          subst h1
          have hi : i ∈ Region.ready .any ops listed := by
            rw [mem_ready]
            have hilt := (Array.getElem?_eq_some_iff.1 ho).1
            refine ⟨(hD.part i hilt).2 (.inl hin), o, ho, fun e he hb' => ?_⟩
            have h3 := hpr e he hb'
            have hlt := hD.lt h3
            rw [hD.getD hlt]
            have hn : ¬ (listed.getD e.on true = false) := by
              rw [hD.part e.on hlt]
              rintro (h4 | h4)
              · exact h4 h3
              · simp at h4
            simpa using hn
          rw [hr] at hi
          simp at hi
        · obtain ⟨h0, oj, hoj, hpre⟩ := mem_ready.1 hj
          have hlt := (Array.getElem?_eq_some_iff.1 hoj).1
          by_cases hjh : j ∈ hid
          · refine draw_hid hD hN hs hA hjh hoj hpre (fun a' w' I' hs' hmv => ?_)
            refine ihf (.s i chk bef :: r) dn _ _ a' w' fr H ρ I' β (hD.ran hjh hoj hpre) hP0 (fun m hm => hN m (List.mem_filter.1 hm).1) hs' (hm.trans hmv) (allQ_iff.2 fun m hm => allQ_iff.1 hA m (List.mem_filter.1 hm).1) hev0 ?_
            have := List.length_filter_lt_length_iff_exists (l := hid) (p := (· != j)) |>.2 ⟨j, hjh, by simp⟩
            simp only [List.length_cons] at hf ⊢; omega
          · have hjn : j ∉ dn := by
              rcases (hD.part j hlt).1 h0 with h | h
              · exact h
              · exact absurd h hjh
            have hji : j = i := Classical.byContradiction fun hne => huniq j oj hoj hjn hne (fun e he hb' => (hD.listed (hltl _ (hpre e he hb')) (hpre e he hb')).1)
            subst hji
            rw [ho] at hoj; simp at hoj; subst hoj
            have hbl := bef_listed hD bef [j] hbef (fun m hm om hom e he hb' => by
              simp at hm; subst hm
              rw [ho] at hom; simp at hom; subst hom
              exact hpre e he hb')
            have hfar := hD.far ho (fun h => absurd h hjh) hpre
            have hd' : ∀ t, o.dst = some t → t ∉ hid.map (dOf ops) := fun t ht hm' => by
              obtain ⟨p, hp, rfl⟩ := List.mem_map.1 hm'
              obtain ⟨_, op, hop, hqp⟩ := hD.hidq p hp
              exact hqp.other j o ho (fun e => hjh (e ▸ hp)) ht
            refine wpOp_opG ho hs (opG_hide hq hfar hd' hev) ?_
            rintro a' w' f H' ρ' I' β' hm' hs' ⟨fr2, rfl, hchk, hk⟩
            refine ihf r (j :: dn) hid _ a' w' fr2 H' ρ' I' β' ⟨by simp [hD.size], fun m hml => ?_, fun m hmh => ?_, fun m om hom hl e he hb' => ?_, fun m hmd => ?_, hD.ord⟩ hrest hN hs' (hm.trans hm') (allQ_iff.2 fun p hp => ?_) hk (by simp at hf; omega)
            · by_cases hmj : j = m
              · subst hmj
                have : (listed.setIfInBounds j true).getD j true = true := by simp [Array.getD_eq_getD_getElem?, hD.size, hlt]
                rw [this]; simp [hjh]
              · rw [getD_set_ne true hmj, hD.part m hml]; simp [Ne.symm hmj]
            · obtain ⟨h1, h2⟩ := hD.hidq m hmh
              exact ⟨by simp [h1], h2⟩
            · by_cases hmj : j = m
              · subst hmj
                rw [ho] at hom; simp at hom; subst hom
                exact getD_set_true (hpre e he hb')
              · rw [getD_set_ne true hmj] at hl
                exact getD_set_true (hD.down m om hom hl e he hb')
            · rcases List.mem_cons.1 hmd with rfl | hmd
              · exact ⟨o, ho, fun e he hb' => ⟨by simp [hpr e he hb'], fun hon => hin (hon ▸ hpr e he hb')⟩⟩
              · obtain ⟨om, h1, h2⟩ := hD.dnd m hmd
                exact ⟨om, h1, fun e he hb' => ⟨by simp [(h2 e he hb').1], (h2 e he hb').2⟩⟩
            · obtain ⟨hpd, op, hop, hqp⟩ := hD.hidq p hp
              rcases hcov p hpd op hop hqp.quiet with h | h
              · exact allQ_iff.1 hchk p h
              · exact absurd hp (hD.listed (hD.lt hpd) (hbl p h)).2

theorem DI.start : DI P ops (Array.replicate ops.size false) [] [] where
  size := by simp
  part j hj := by simp [Array.getD_eq_getD_getElem?, hj]
  hidq i hi := by simp at hi
  down j o ho hl := by
    have hlt := (Array.getElem?_eq_some_iff.1 ho).1
    simp [Array.getD_eq_getD_getElem?, hlt] at hl
  dnd j hj := by simp at hj
  ord := trivial

/-- A region that draws its order. -/
theorem Wp.draw {id : Nat} {plan : List Stp} {K : Exit → Fr → Hp → Prop} (hm : P.follows .mixedOrders = true) (hP : POk P ops [] plan) (hlen : plan.length ≤ ops.size) (h : evP P N cf ops plan (K .normal) fr H) :
    Wp P N (.region id ops true) K fr H := by
  intro ρ I β a w hs
  have hmv := Mv.junk hs.heap (Gw.drew w)
  obtain ⟨h1, h2⟩ := hs.move hmv
  refine wp_mono (wp_region_any hm (draw_go (N := N) (cf := cf) ops.size plan [] [] (Array.replicate ops.size false) a w.drew fr H ρ I β DI.start hP (by simp) (by simpa [hide_nil] using h1) h2 trivial h (by simpa using hlen))) ?_
  rintro e a' w' ⟨rfl, fr', H', ρ', I', β', h3, h4, h5⟩
  exact ⟨fr', H', ρ', I', β', h3, h4, h5⟩
end
end Go.Mx
