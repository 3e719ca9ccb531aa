/-
  The abstract machine: regions that draw their order: any order does what the plan does.
-/
import Derived.Test.YtoakdmkjlpjahaaDoorMxY
namespace Go.Mx
open Go.RowKit
set_option linter.unusedVariables false
set_option linter.unusedSimpArgs false

section
variable {P : Program} {N : Nat} {cf : Cfg} {fr fr' : Fr} {H : Hp} {ρ : Rho} {I : Imm} {β : Nat → Option Nat} {a : Act} {w w' : World} {ds : List Nat} {ops : Array Oper}

theorem opG_quiet2 {o : Oper} {k : Fr → Hp → Prop} (hq : quietO P cf o = true) (h : opG P N cf ops fr H o o.guard k) :
    ∃ fr' x, (∀ t, look t fr'.slots = look t fr.slots) ∧ fr'.boxes = fr.boxes ∧ valQ P ops fr' H o = some x ∧ putK N o.dst x fr' (fun f => k f H) := by
  unfold opG at h
  split at h
  · rename_i hg
    obtain ⟨x, h1, h2⟩ := opA_quiet hq h
    exact ⟨fr, x, fun _ => rfl, rfl, by simp [valQ, hg, h1], h2⟩
  · rename_i j want hg
    split at h <;> (first | exact h.elim | skip)
    rename_i s hj
    have key : ∀ b : Bool, opS fr (.tmp s) = some (.av (.v (.bool b))) → (if b = want then opA P N cf (fr.known (.tmp s) b) H o k else putK N o.dst (.av (.v undef)) (fr.known (.tmp s) b) (fun fr' => k fr' H)) →
        ∃ fr' x, (∀ t, look t fr'.slots = look t fr.slots) ∧ fr'.boxes = fr.boxes ∧ valQ P ops fr' H o = some x ∧ putK N o.dst x fr' (fun f => k f H) := by
      intro b hb hk
      have hl : look s (fr.known (.tmp s) b).slots = some (.av (.v (.bool b))) := by simp [Fr.known, look]
      have hall : ∀ t, look t (fr.known (.tmp s) b).slots = look t fr.slots := fun t => by
        simp only [Fr.known, look]
        split
        · rename_i e; subst e; exact hb.symm
        · rfl
      split at hk
      · rename_i he
        subst he
        obtain ⟨x, h1, h2⟩ := opA_quiet hq hk
        exact ⟨_, x, hall, rfl, by simp [valQ, hg, hj, hl, h1, isU], h2⟩
      · rename_i he
        exact ⟨_, _, hall, rfl, by simp [valQ, hg, hj, hl, he, isU], hk⟩
    unfold guardA at h
    cases hu : isU (look s fr.slots) with
    | true =>
      rw [hu] at h
      exact ⟨fr, _, fun _ => rfl, rfl, by simp [valQ, hg, hj, hu], h⟩
    | false =>
    rw [hu] at h
    have hkn : ∀ b, isU (look s (fr.known (.tmp s) b).slots) = false := fun b => by simp [Fr.known, look, isU]
    cases want with
    | true =>
      simp only at h
      unfold condA at h
      split at h <;> (first | exact h.elim | skip)
      rename_i b hb
      cases b with
      | true => exact key true hb (by simpa [Cond] using h)
      | false => exact key false hb (by simpa [Cond] using h)
    | false =>
      simp only at h
      unfold condA at h
      split at h <;> (first | exact h.elim | skip)
      rename_i b hb
      cases b with
      | true => exact key true hb (by simpa [Cond] using h)
      | false => exact key false hb (by simpa [Cond] using h)

/-- Frames in which one finds the same. -/
theorem Sim.same (hs : Sim N ρ I β fr H a w) (hl : ∀ t x, look t fr'.slots = some x → look t fr.slots = some x) (hb : fr'.boxes = fr.boxes) : Sim N ρ I β fr' H a w where
  heap := hs.heap
  defers := hs.defers
  size := hs.size
  slot t x hx := hs.slot t x (hl t x hx)
  box t cs h := hs.box t cs (by rw [← hb]; exact h)
  binj t t' cs cs' b h h' := hs.binj t t' cs cs' b (by rw [← hb]; exact h) (by rw [← hb]; exact h')
theorem OwnF.same (hb : fr'.boxes = fr.boxes) : OwnF ρ β fr' H = OwnF ρ β fr H := by unfold OwnF; rw [hb]

/-- Where an operation writes. -/
def dOf (ops : Array Oper) (i : Nat) : Nat := ((ops[i]?).bind (·.dst)).getD 0

theorem allQ_iff {l : List Nat} : allQ P ops fr H l ↔ ∀ j ∈ l, sameQ P ops fr H j := by
  induction l with
  | nil => simp [allQ]
  | cons j r ih => simp [allQ, ih]

/-- Newest first: none stands behind a newer one. -/
def HidOrd (ops : Array Oper) : List Nat → Prop
  | [] => True
  | i :: r => i ∉ r ∧ (∀ p ∈ r, ∀ o, ops[p]? = some o → ∀ e ∈ o.after, Region.binds .any e = true → e.on ≠ i) ∧ HidOrd ops r
theorem HidOrd.filter (q : Nat → Bool) : ∀ {l : List Nat}, HidOrd ops l → HidOrd ops (l.filter q)
  | [], _ => trivial
  | i :: r, ⟨h1, h2, h3⟩ => by
    rw [List.filter_cons]
    split
    · exact ⟨fun h => h1 (List.mem_filter.1 h).1, fun p hp => h2 p (List.mem_filter.1 hp).1, HidOrd.filter q h3⟩
    · exact HidOrd.filter q h3
/-- The oldest stands behind none of them. -/
theorem HidOrd.oldest : ∀ {l : List Nat}, HidOrd ops l → l ≠ [] → (∀ i ∈ l, ∀ o, ops[i]? = some o → ∀ e ∈ o.after, Region.binds .any e = true → e.on ≠ i) →
    ∃ i ∈ l, ∀ o, ops[i]? = some o → ∀ e ∈ o.after, Region.binds .any e = true → e.on ∉ l
  | [], _, h, _ => absurd rfl h
  | i :: r, ⟨h1, h2, h3⟩, _, hs => by
    by_cases hr : r = []
    · subst hr
      exact ⟨i, by simp, fun o ho e he hb hm => hs i (by simp) o ho e he hb (by simpa using hm)⟩
    · obtain ⟨j, hj, hj2⟩ := HidOrd.oldest h3 hr (fun j hj => hs j (by simp [hj]))
      refine ⟨j, by simp [hj], fun o ho e he hb hm => ?_⟩
      rcases List.mem_cons.1 hm with hm | hm
      · exact h2 j hj o ho e he hb hm
      · exact hj2 o ho e he hb hm

/-- How far the region has come: 'dn': what the plan has done; 'hid': what of it has not run yet; 'ah': the boxes that are laid ahead of the plan. -/
structure DI (P : Program) (cf : Cfg) (ops : Array Oper) (listed : Array Bool) (dn hid ah : List Nat) : Prop where
  size : listed.size = ops.size
  part : ∀ j, j < ops.size → (listed.getD j true = false ↔ ((j ∉ dn ∧ j ∉ ah) ∨ j ∈ hid))
  hidq : ∀ i ∈ hid, i ∈ dn ∧ ∃ o, ops[i]? = some o ∧ QOk P cf ops i o (dOf ops i)
  down : ∀ j o, ops[j]? = some o → listed.getD j true = true → ∀ e ∈ o.after, Region.binds .any e = true → listed.getD e.on false = true
  dnd : ∀ j ∈ dn, ∃ o, ops[j]? = some o ∧ (∀ e ∈ o.after, Region.binds .any e = true → e.on ∈ dn ∧ e.on ≠ j)
  ord : HidOrd ops hid
  aok : ∀ i ∈ ah, i ∉ dn ∧ ∃ o, ops[i]? = some o ∧ AOk P cf ops i o (dOf ops i)
  anod : ah.Nodup

theorem DI.lt {listed : Array Bool} {dn hid ah : List Nat} (h : DI P cf ops listed dn hid ah) {j : Nat} (hj : j ∈ dn) : j < ops.size := by
  obtain ⟨o, ho, _⟩ := h.dnd j hj
  exact (Array.getElem?_eq_some_iff.1 ho).1
theorem DI.alt {listed : Array Bool} {dn hid ah : List Nat} (h : DI P cf ops listed dn hid ah) {j : Nat} (hj : j ∈ ah) : j < ops.size := by
  obtain ⟨_, o, ho, _⟩ := h.aok j hj
  exact (Array.getElem?_eq_some_iff.1 ho).1
theorem DI.getD {listed : Array Bool} {dn hid ah : List Nat} (h : DI P cf ops listed dn hid ah) {j : Nat} (hj : j < ops.size) : listed.getD j false = listed.getD j true := by
  have : j < listed.size := by rw [h.size]; exact hj
  simp [Array.getD_eq_getD_getElem?, this]
theorem DI.listed {listed : Array Bool} {dn hid ah : List Nat} (h : DI P cf ops listed dn hid ah) {j : Nat} (hj : j < ops.size) (hl : listed.getD j false = true) : (j ∈ dn ∨ j ∈ ah) ∧ j ∉ hid := by
  rw [h.getD hj] at hl
  have hn : ¬ (listed.getD j true = false) := by rw [hl]; simp
  rw [h.part j hj] at hn
  refine ⟨Classical.byContradiction fun hc => hn (.inl ⟨fun h => hc (.inl h), fun h => hc (.inr h)⟩), fun hc => hn (.inr hc)⟩

/-- While something is owed, something can run. -/
theorem DI.ready {listed : Array Bool} {dn hid ah : List Nat} (h : DI P cf ops listed dn hid ah) (hne : hid ≠ []) : Region.ready .any ops listed ≠ [] := by
  obtain ⟨i, hi, hi2⟩ := h.ord.oldest hne (fun i hi o ho e he hb => by
    obtain ⟨o', ho', h2⟩ := h.dnd i (h.hidq i hi).1
    rw [ho] at ho'; simp at ho'; subst ho'
    exact (h2 e he hb).2)
  have hdn := (h.hidq i hi).1
  obtain ⟨o, ho, h2⟩ := h.dnd i hdn
  have hm : i ∈ Region.ready .any ops listed := by
    rw [mem_ready]
    refine ⟨(h.part i (h.lt hdn)).2 (.inr hi), o, ho, fun e he hb => ?_⟩
    have h3 := (h2 e he hb).1
    have hlt := h.lt h3
    rw [h.getD hlt]
    have hn : ¬ (listed.getD e.on true = false) := by
      rw [h.part e.on hlt]
      rintro (h4 | h4)
      · exact h4.1 h3
      · exact hi2 o ho e he hb h4
    simpa using hn
  intro e
  rw [e] at hm
  simp at hm

/-- An operation of a region, run. -/
theorem wpOp_opG {Q : Exit → Act → World → Prop} {i : Nat} {o : Oper} {k : Fr → Hp → Prop} {K : Act → World → Prop} (hi : ops[i]? = some o) (hs : Sim N ρ I β fr H a w) (h : opG P N cf ops fr H o o.guard k)
    (hK : ∀ a' w' fr' H' ρ' I' β', MvF (OwnF ρ β fr H) ρ I w (OwnF ρ' β' fr' H') ρ' I' w' → Sim N ρ' I' β' fr' H' a' w' → k fr' H' → K a' w') : Go.wpOp P ops Q i K a w := by
  unfold Go.wpOp
  simp only [hi]
  unfold opG at h
  split at h
  · rename_i hg
    rw [if_pos (by simp [Region.wanted, hg])]
    left
    refine Go.Oper.wp_mono ?_ (opA_sound h ρ I β a w hs Q)
    rintro a' w' ⟨fr', H', ρ', I', β', h1, h2, h3⟩
    exact hK a' w' fr' H' ρ' I' β' h1 h2 h3
  · rename_i j want hg
    split at h <;> (first | exact h.elim | skip)
    rename_i s hj
    obtain ⟨fr1, hs1, hown, ⟨hy, hb⟩ | ⟨hy, hb⟩⟩ := guardA_sound hs hj h
    · rw [if_pos (by simp [Region.wanted, hg, hy])]
      left
      refine Go.Oper.wp_mono ?_ (opA_sound hb ρ I β a w hs1 Q)
      rintro a' w' ⟨fr', H', ρ', I', β', h1, h2, h3⟩
      rw [hown] at h1
      exact hK a' w' fr' H' ρ' I' β' h1 h2 h3
    · rw [if_neg (by simp [Region.wanted, hg, hy])]
      obtain ⟨fr2, h5, h6, h7⟩ := hs1.putK (x := .av (.v undef)) (u := undef) (.v undef) hb
      exact hK _ _ fr2 H ρ I β (by rw [h6, hown]; exact MvF.refl _ _ _ _) h5 h7

theorem filter_one {l : List Nat} (hn : l.Nodup) (i : Nat) : l.length ≤ (l.filter (· != i)).length + 1 := by
  induction l with
  | nil => simp
  | cons j r ih =>
    have h := List.nodup_cons.1 hn
    by_cases e : j = i
    · subst e
      rw [List.filter_cons_of_neg (by simp), List.filter_eq_self.2 (fun x hx => by simpa using fun e : x = j => h.1 (e ▸ hx))]
      simp
    · rw [List.filter_cons_of_pos (by simpa using e)]
      simp only [List.length_cons]
      have := ih h.2; omega
theorem filter_one' {l : List Nat} (hn : l.Nodup) {i : Nat} (hi : i ∈ l) : l.length = (l.filter (· != i)).length + 1 := by
  have h1 := filter_one hn i
  have h2 := List.length_filter_lt_length_iff_exists (l := l) (p := (· != i)) |>.2 ⟨i, hi, by simp⟩
  omega
theorem hide_nil : fr.hide [] = fr := by
  have : fr.slots.filter (fun p => !([] : List Nat).contains p.1) = fr.slots := List.filter_eq_self.2 (fun p _ => rfl)
  unfold Fr.hide
  rw [this]
theorem DI.far {listed : Array Bool} {dn hid ah : List Nat} (h : DI P cf ops listed dn hid ah) {i : Nat} {oi : Oper} (hi : ops[i]? = some oi) (hself : i ∈ hid → dOf ops i ∉ oi.looksAt ops)
    (hpre : ∀ e ∈ oi.after, Region.binds .any e = true → listed.getD e.on false = true) : ∀ t ∈ oi.looksAt ops, t ∉ hid.map (dOf ops) := by
  intro t ht hm
  obtain ⟨p, hp, rfl⟩ := List.mem_map.1 hm
  by_cases hpi : i = p
  · subst hpi; exact hself hp ht
  · obtain ⟨hpd, o, ho, hq⟩ := h.hidq p hp
    obtain ⟨e, he, hb, hon⟩ := hq.looked i oi hi hpi ht
    have h1 := hpre e he hb
    rw [hon] at h1
    exact (h.listed (h.lt hpd) h1).2 hp
theorem DI.farA {listed : Array Bool} {dn hid ah : List Nat} (h : DI P cf ops listed dn hid ah) {i : Nat} {oi : Oper} (hi : ops[i]? = some oi) (hia : i ∉ ah)
    (hpre : ∀ e ∈ oi.after, Region.binds .any e = true → e.on ∈ dn) : ∀ t ∈ oi.looksAt ops, t ∉ ah.map (dOf ops) := by
  intro t ht hm
  obtain ⟨p, hp, rfl⟩ := List.mem_map.1 hm
  have hpi : i ≠ p := fun e => hia (e ▸ hp)
  obtain ⟨hpd, o, ho, hq⟩ := h.aok p hp
  obtain ⟨e, he, hb, hon⟩ := hq.looked i oi hi hpi ht
  exact hpd (hon ▸ hpre e he hb)
theorem hid_slots {hid : List Nat} {i : Nat} (hinj : ∀ p ∈ hid, p ≠ i → dOf ops p ≠ dOf ops i) : (hid.map (dOf ops)).filter (· != dOf ops i) = (hid.filter (· != i)).map (dOf ops) := by
  rw [List.filter_map]
  congr 1
  apply List.filter_congr
  intro p hp
  by_cases hpi : p = i
  · subst hpi; simp
  · have := hinj p hp hpi
    have e1 : (dOf ops p != dOf ops i) = true := by simpa using this
    have e2 : (p != i) = true := by simpa using hpi
    exact e1.trans e2.symm
theorem DI.inj {listed : Array Bool} {dn hid ah : List Nat} (h : DI P cf ops listed dn hid ah) {i : Nat} (hi : i ∈ hid) : ∀ p ∈ hid, p ≠ i → dOf ops p ≠ dOf ops i := by
  intro p hp hpi he
  obtain ⟨_, o, ho, hq⟩ := h.hidq i hi
  obtain ⟨_, o', ho', hq'⟩ := h.hidq p hp
  exact hq.other p o' ho' hpi (by rw [hq'.dst, he])
theorem DI.injA {listed : Array Bool} {dn hid ah : List Nat} (h : DI P cf ops listed dn hid ah) {i d : Nat} {oi : Oper} (hi : ops[i]? = some oi) (hd : oi.dst = some d) (hia : i ∉ ah) : d ∉ ah.map (dOf ops) := by
  intro hm
  obtain ⟨p, hp, hpe⟩ := List.mem_map.1 hm
  obtain ⟨_, o, ho, hq⟩ := h.aok p hp
  exact hq.other i oi hi (fun e => hia (e ▸ hp)) (by rw [hd, hpe])
/-- One that was owed has run. -/
theorem DI.ran {listed : Array Bool} {dn hid ah : List Nat} (h : DI P cf ops listed dn hid ah) {i : Nat} (hi : i ∈ hid) {oi : Oper} (ho : ops[i]? = some oi)
    (hpre : ∀ e ∈ oi.after, Region.binds .any e = true → listed.getD e.on false = true) : DI P cf ops (listed.setIfInBounds i true) dn (hid.filter (· != i)) ah := by
  have hlt := h.lt (h.hidq i hi).1
  refine ⟨by simp [h.size], fun j hj => ?_, fun j hj => h.hidq j (List.mem_filter.1 hj).1, fun j o hoj hl e he hb => ?_, h.dnd, h.ord.filter _, h.aok, h.anod⟩
  · by_cases hji : i = j
    · subst hji
      have : (listed.setIfInBounds i true).getD i true = true := by simp [Array.getD_eq_getD_getElem?, h.size, hlt]
      rw [this]
      simp [(h.hidq i hi).1]
    · rw [getD_set_ne true hji, h.part j hj]
      simp [Ne.symm hji]
  · by_cases hji : i = j
    · subst hji
      rw [ho] at hoj; simp at hoj; subst hoj
      exact getD_set_true (hpre e he hb)
    · rw [getD_set_ne true hji] at hl
      exact getD_set_true (h.down j o hoj hl e he hb)
/-- A box is laid ahead of the plan. -/
theorem DI.ahead {listed : Array Bool} {dn hid ah : List Nat} (h : DI P cf ops listed dn hid ah) {i : Nat} (hdn : i ∉ dn) (hah : i ∉ ah) (hhid : i ∉ hid) {oi : Oper} (ho : ops[i]? = some oi) (hA : AOk P cf ops i oi (dOf ops i))
    (hpre : ∀ e ∈ oi.after, Region.binds .any e = true → listed.getD e.on false = true) : DI P cf ops (listed.setIfInBounds i true) dn hid (i :: ah) := by
  have hlt := (Array.getElem?_eq_some_iff.1 ho).1
  refine ⟨by simp [h.size], fun j hj => ?_, h.hidq, fun j o hoj hl e he hb => ?_, h.dnd, h.ord, fun j hj => ?_, List.nodup_cons.2 ⟨hah, h.anod⟩⟩
  · by_cases hji : i = j
    · subst hji
      have : (listed.setIfInBounds i true).getD i true = true := by simp [Array.getD_eq_getD_getElem?, h.size, hlt]
      rw [this]
      simp [hhid]
    · rw [getD_set_ne true hji, h.part j hj]
      simp [Ne.symm hji]
  · by_cases hji : i = j
    · subst hji
      rw [ho] at hoj; simp at hoj; subst hoj
      exact getD_set_true (hpre e he hb)
    · rw [getD_set_ne true hji] at hl
      exact getD_set_true (h.down j o hoj hl e he hb)
  · rcases List.mem_cons.1 hj with rfl | hj
    · exact ⟨hdn, oi, ho, hA⟩
    · exact h.aok j hj

/-- A box that is laid, and that nobody knows of. -/
def AhR (P : Program) (ops : Array Oper) (N : Nat) (ρ : Rho) (I : Imm) (β : Nat → Option Nat) (fr : Fr) (H : Hp) (a : Act) (w : World) (W0 : Nat) (i b : Nat) : Prop :=
  ∃ o t z, ops[i]? = some o ∧ o.op = .alloc t ∧ zerosT P t = some z ∧ (dOf ops i < N → a.tmps.getD (dOf ops i) undef = .pointer (some ⟨b, 0, none⟩)) ∧ CellsR ρ I w b 0 z.length z ∧ ¬ OwnF ρ β fr H b ∧ I b = none ∧ W0 ≤ b
theorem AhR.move {ρ' : Rho} {I' : Imm} {β' : Nat → Option Nat} {fr'' : Fr} {H' : Hp} {a' : Act} {W0 i b : Nat} (h : AhR P ops N ρ I β fr H a w W0 i b) (hm : MvF (OwnF ρ β fr H) ρ I w (OwnF ρ' β' fr'' H') ρ' I' w')
    (ht : dOf ops i < N → a'.tmps.getD (dOf ops i) undef = a.tmps.getD (dOf ops i) undef) : AhR P ops N ρ' I' β' fr'' H' a' w' W0 i b := by
  obtain ⟨o, t, z, h1, h2, h3, h4, h5, h6, h7, h8⟩ := h
  have hlt : b < w.heap.size := by obtain ⟨arr, T, hb, _⟩ := h5; exact (Array.getElem?_eq_some_iff.1 hb).1
  refine ⟨o, t, z, h1, h2, h3, fun hd => (ht hd).trans (h4 hd), h5.move hm.ext (hm.fw.keep b hlt h6), fun ho => ?_, ?_, h8⟩
  · rcases hm.fw.new b ho with h | h
    · exact h6 h
    · omega
  · cases hI : I' b with
    | none => rfl
    | some x =>
      rcases hm.imm b (by rw [hI]; simp) with h | h | h
      · exact absurd h7 h
      · exact absurd h h6
      · omega

/-- It is known from now on. -/
theorem Sim.adopt {d b : Nat} {z : List AV} {ds' : List Nat} (hs : Sim N ρ I β (fr.hide ds) H a w) (hdN : d < N) (hds : ∀ s, s ∈ ds ↔ s = d ∨ s ∈ ds') (ht : a.tmps.getD d undef = .pointer (some ⟨b, 0, none⟩)) (hc : CellsR ρ I w b 0 z.length z) (ho : ¬ OwnF ρ β fr H b) (hI : I b = none) :
    ∃ β', Sim N ρ I β' (Fr.hide ds' { (fr.newBox d z) with slots := (d, .bp d 0) :: (fr.newBox d z).slots }) H a w ∧ (∀ b', OwnF ρ β' { (fr.newBox d z) with slots := (d, .bp d 0) :: (fr.newBox d z).slots } H b' → OwnF ρ β fr H b' ∨ b' = b) := by
  let β' : Nat → Option Nat := fun s => if s = d then some b else β s
  refine ⟨β', ⟨hs.heap, hs.defers, hs.size, ?_, ?_, ?_⟩, ?_⟩
  · intro s x hx
    rw [look_hide] at hx
    split at hx
    · simp at hx
    · rename_i hsd
      simp only [look] at hx
      split at hx
      · rename_i e; subst e
        simp at hx; subst hx
        exact ⟨b, by simp [β'], ht⟩
      · rename_i hne
        rcases look_dropBp d _ s x hx with ⟨h1, h2⟩ | rfl
        · have hsds : s ∉ ds := fun h => by
            rcases (hds s).1 h with h | h
            · exact hne h.symm
            · exact hsd (by simpa using h)
          have := hs.slot s x (by rw [look_hide, if_neg (by simpa using hsds)]; exact h1)
          cases x with
          | av x => exact this
          | bp t' off =>
            obtain ⟨b2, hb, e⟩ := this
            exact ⟨b2, by simp only [β']; rw [if_neg (fun e' => h2 off (by rw [e']))]; exact hb, e⟩
          | un => trivial
        · trivial
  · intro s cs h
    have h' : look s ((d, z) :: fr.boxes) = some cs := h
    simp only [look] at h'
    split at h'
    · rename_i e; subst e
      simp at h'; subst h'
      exact ⟨b, by simp [β'], hc, fun hl => ho (.inl hl), hI⟩
    · rename_i e
      obtain ⟨b2, h1, h2, h3, h4⟩ := hs.box s cs h'
      exact ⟨b2, by simp only [β']; rw [if_neg (Ne.symm e)]; exact h1, h2, h3, h4⟩
  · intro s1 s2 c1 c2 b2 h1 h2 hb1 hb2
    have h1' : look s1 ((d, z) :: fr.boxes) = some c1 := h1
    have h2' : look s2 ((d, z) :: fr.boxes) = some c2 := h2
    have old : ∀ s cs, s ≠ d → look s ((d, z) :: fr.boxes) = some cs → β' s = some b2 → look s fr.boxes = some cs ∧ β s = some b2 ∧ b2 ≠ b := by
      intro s cs hne h hb
      simp only [look] at h
      rw [if_neg (Ne.symm hne)] at h
      simp only [β'] at hb
      rw [if_neg hne] at hb
      exact ⟨h, hb, fun e => ho (.inr ⟨s, cs, h, by rw [hb, e]⟩)⟩
    by_cases e1 : s1 = d <;> by_cases e2 : s2 = d
    · rw [e1, e2]
    · obtain ⟨_, _, hne⟩ := old s2 c2 e2 h2' hb2
      simp only [β'] at hb1; rw [if_pos e1] at hb1; simp at hb1; exact absurd hb1.symm hne
    · obtain ⟨_, _, hne⟩ := old s1 c1 e1 h1' hb1
      simp only [β'] at hb2; rw [if_pos e2] at hb2; simp at hb2; exact absurd hb2.symm hne
    · obtain ⟨q1, r1, _⟩ := old s1 c1 e1 h1' hb1
      obtain ⟨q2, r2, _⟩ := old s2 c2 e2 h2' hb2
      exact hs.binj s1 s2 c1 c2 b2 q1 q2 r1 r2
  · rintro b' (hb | ⟨s, cs, h1, h2⟩)
    · exact .inl (.inl hb)
    · have h1' : look s ((d, z) :: fr.boxes) = some cs := h1
      simp only [look] at h1'
      simp only [β'] at h2
      split at h1'
      · rename_i e; rw [if_pos e.symm] at h2; simp at h2; exact .inr h2.symm
      · rename_i e
        rw [if_neg (Ne.symm e)] at h2
        exact .inl (.inr ⟨s, cs, h1', h2⟩)
/-- A slot is written that nobody knows of. -/
theorem Sim.cover {d : Nat} {u : Value} {ds' : List Nat} (hs : Sim N ρ I β (fr.hide ds) H a w) (hd : d ∈ ds') (hsub : ∀ s ∈ ds, s ∈ ds') : Sim N ρ I β (fr.hide ds') H (a.put (some d) u) w where
  heap := hs.heap
  defers := hs.defers
  size := by simp [Act.put, hs.size]
  slot t x hx := by
    rw [look_hide] at hx
    split at hx
    · simp at hx
    · rename_i hc
      have hc' : t ∉ ds' := by simpa using hc
      have := hs.slot t x (by rw [look_hide, if_neg (by simpa using fun h => hc' (hsub t h))]; exact hx)
      have hne : d ≠ t := fun e => hc' (e ▸ hd)
      have e : (a.put (some d) u).tmps.getD t undef = a.tmps.getD t undef := by
        simp [Act.put, Array.getD_eq_getD_getElem?, Array.getElem?_setIfInBounds_ne hne]
      rw [e]; exact this
  box := hs.box
  binj := hs.binj

/-- Slots that an operation does not write are as they were. -/
theorem wpOp_keep {Q : Exit → Act → World → Prop} {j : Nat} {oj : Oper} (hj : ops[j]? = some oj) (hs : noSel oj) {K : Act → World → Prop} (d : Nat) (hd : oj.dst ≠ some d) (h : Go.wpOp P ops Q j K a w) :
    Go.wpOp P ops Q j (fun a' w' => K a' w' ∧ a'.tmps.getD d undef = a.tmps.getD d undef) a w := by
  let oi : Oper := ⟨none, .move (.tmp d), 0, "", #[], none⟩
  have hy : Yields P ops oi (a.tmps.getD d undef) a := .inl ⟨rfl, fun w => rfl⟩
  have hap : oi.apart ops oj = true := by
    have hl : oi.looksAt ops = [d] := rfl
    unfold Oper.apart
    rw [hl]
    cases ho : oj.dst with
    | none => simp [oi]
    | some e => rw [ho] at hd; simp [oi]; intro he; exact hd (by rw [he])
  refine wpOp_mono (fun a' w' h2 => ⟨h2.2, ?_⟩) (wpOp_put (oi := oi) hj hap (fun cs b => by simp [oi]) hs (fun c a w h => h) hy h)
  rcases h2.1 with ⟨_, hv⟩ | ⟨hw, _⟩
  · have := hv w'
    simpa [oi, execOp, Act.eval] using this
  · simp [oi, Region.wanted] at hw
theorem wpOp_keeps {Q : Exit → Act → World → Prop} {j : Nat} {oj : Oper} (hj : ops[j]? = some oj) (hs : noSel oj) : ∀ (ds : List Nat) {K : Act → World → Prop}, (∀ d ∈ ds, oj.dst ≠ some d) → Go.wpOp P ops Q j K a w →
    Go.wpOp P ops Q j (fun a' w' => K a' w' ∧ ∀ d ∈ ds, a'.tmps.getD d undef = a.tmps.getD d undef) a w
  | [], K, _, h => wpOp_mono (fun a' w' h => ⟨h, by simp⟩) h
  | d :: r, K, hd, h => wpOp_mono (fun a' w' h => ⟨h.1.1, fun e he => by
      rcases List.mem_cons.1 he with rfl | he
      · exact h.2
      · exact h.1.2 e he⟩) (wpOp_keep hj hs d (hd d (by simp)) (wpOp_keeps hj hs r (fun e he => hd e (by simp [he])) h))

/-- Behind a region. -/
def DrawQ (N : Nat) (L0 : Nat → Prop) (ρ0 : Rho) (I0 : Imm) (w0 : World) (k : Fr → Hp → Prop) (e : Exit) (a : Act) (w : World) : Prop :=
  e = .normal ∧ ∃ fr H ρ I β, MvF L0 ρ0 I0 w0 (OwnF ρ β fr H) ρ I w ∧ Sim N ρ I β fr H a w ∧ k fr H

theorem draw_hid {dn hid ah : List Nat} {listed : Array Bool} {Q : Exit → Act → World → Prop}
    (hD : DI P cf ops listed dn hid ah) (hN : ∀ i ∈ hid, dOf ops i < N) (hs : Sim N ρ I β (fr.hide (hid.map (dOf ops) ++ ah.map (dOf ops))) H a w) (hA : allQ P ops fr H hid) {i : Nat} (hi : i ∈ hid) {oi : Oper} (ho : ops[i]? = some oi)
    (hpre : ∀ e ∈ oi.after, Region.binds .any e = true → listed.getD e.on false = true) {K : Act → World → Prop}
    (hK : ∀ u w' I', Sim N ρ I' β (fr.hide ((hid.filter (· != i)).map (dOf ops) ++ ah.map (dOf ops))) H (a.put (some (dOf ops i)) u) w' → MvF (OwnF ρ β fr H) ρ I w (OwnF ρ β fr H) ρ I' w' → K (a.put (some (dOf ops i)) u) w') : Go.wpOp P ops Q i K a w := by
  obtain ⟨hdn, o, ho', hq⟩ := hD.hidq i hi
  rw [ho] at ho'; simp at ho'; subst ho'
  have hsame := allQ_iff.1 hA i hi
  unfold sameQ at hsame
  rw [ho] at hsame
  simp only [hq.dst] at hsame
  obtain ⟨x, hx, hl⟩ := hsame
  have hfar := hD.far ho (fun _ => hq.self) hpre
  have hia : i ∉ ah := fun h => (hD.aok i h).1 hdn
  have hfarA := hD.farA ho hia (fun e he hb => by
    obtain ⟨o2, ho2, h2⟩ := hD.dnd i hdn
    rw [ho] at ho2; simp at ho2; subst ho2
    exact (h2 e he hb).1)
  have hx' : valQ P ops (fr.hide (hid.map (dOf ops) ++ ah.map (dOf ops))) H oi = some x := by
    rw [← hx]
    refine valQ_congr hq.quiet rfl (fun t ht => ?_)
    rw [look_hide]
    have : (hid.map (dOf ops) ++ ah.map (dOf ops)).contains t = false := by simpa using ⟨by simpa using hfar t ht, by simpa using hfarA t ht⟩
    rw [this]; rfl
  obtain ⟨u, w', I', hy, hm, hv⟩ := valQ_sound hs hx'
  obtain ⟨hs', hmv⟩ := hs.move hm
  have hdd : dOf ops i ∉ ah.map (dOf ops) := hD.injA ho hq.dst hia
  have hfl : (hid.map (dOf ops) ++ ah.map (dOf ops)).filter (· != dOf ops i) = (hid.filter (· != i)).map (dOf ops) ++ ah.map (dOf ops) := by
    have h2 : (ah.map (dOf ops)).filter (· != dOf ops i) = ah.map (dOf ops) := List.filter_eq_self.2 (fun t ht => by
      have : t ≠ dOf ops i := fun e => hdd (e ▸ ht)
      simpa using this)
    rw [List.filter_append, hid_slots (hD.inj hi), h2]
  refine hy.wpOp ho ?_
  rw [hq.dst]
  refine hK u w' I' ?_ hmv
  rw [← hfl]
  exact hs'.show (hN i hi) hl hv

theorem bef_listed {listed : Array Bool} {dn hid ah : List Nat} (hD : DI P cf ops listed dn hid ah) : ∀ (bef acc : List Nat), Bef ops acc bef → (∀ j ∈ acc, ∀ oj, ops[j]? = some oj → ∀ e ∈ oj.after, Region.binds .any e = true → listed.getD e.on false = true) →
    ∀ x ∈ bef, listed.getD x false = true
  | [], _, _, _, x, hx => by simp at hx
  | y :: r, acc, ⟨⟨j, hj, oj, hoj, e, he, hb, hon⟩, hr⟩, ha, x, hx => by
    have hy : listed.getD y false = true := by rw [← hon]; exact ha j hj oj hoj e he hb
    rcases List.mem_cons.1 hx with rfl | hx
    · exact hy
    · refine bef_listed hD r (y :: acc) hr (fun j' hj' oj' hoj' e' he' hb' => ?_) x hx
      rcases List.mem_cons.1 hj' with rfl | hj'
      · refine hD.down j' oj' hoj' ?_ e' he' hb'
        have hlt := (Array.getElem?_eq_some_iff.1 hoj').1
        rw [← hD.getD hlt]; exact hy
      · exact ha j' hj' oj' hoj' e' he' hb'

theorem plan_all : ∀ {plan : List Stp} {dn : List Nat}, POk P cf ops dn plan → ∀ (l : List Nat), l.Nodup → (∀ i ∈ l, i < ops.size ∧ i ∉ dn) → l.length ≤ plan.length
  | [], dn, hP, l, hn, h => by
    cases l with
    | nil => simp
    | cons i r => exact absurd (hP i (h i (by simp)).1) (h i (by simp)).2
  | .q i :: r, dn, ⟨o, d, _, _, _, _, hr⟩, l, hn, h => by
    have h1 := plan_all hr (l.filter (· != i)) (hn.filter _) (fun j hj => by
      have h2 := List.mem_filter.1 hj
      refine ⟨(h j h2.1).1, fun hm => ?_⟩
      rcases List.mem_cons.1 hm with e | hm
      · subst e; simp at h2
      · exact (h j h2.1).2 hm)
    have h3 := filter_one hn i
    simp only [List.length_cons]; omega
  | .s i chk bef :: r, dn, ⟨o, _, _, _, _, _, _, _, _, hr⟩, l, hn, h => by
    have h1 := plan_all hr (l.filter (· != i)) (hn.filter _) (fun j hj => by
      have h2 := List.mem_filter.1 hj
      refine ⟨(h j h2.1).1, fun hm => ?_⟩
      rcases List.mem_cons.1 hm with e | hm
      · subst e; simp at h2
      · exact (h j h2.1).2 hm)
    have h3 := filter_one hn i
    simp only [List.length_cons]; omega

theorem noSel_of {o : Oper} (h : selO o = false) : noSel o := fun cs b e => by simp [selO, e] at h

set_option maxHeartbeats 1000000 in
theorem draw_go {k : Fr → Hp → Prop} {L0 : Nat → Prop} {ρ0 : Rho} {I0 : Imm} {w0 : World} (fuel : Nat) (plan : List Stp) (dn hid ah : List Nat) (bf : Nat → Nat) (listed : Array Bool) (a : Act) (w : World) (fr : Fr) (H : Hp) (ρ : Rho) (I : Imm) (β : Nat → Option Nat)
    (hD : DI P cf ops listed dn hid ah) (hP : POk P cf ops dn plan) (hN : ∀ i ∈ hid, dOf ops i < N) (hs : Sim N ρ I β (fr.hide (hid.map (dOf ops) ++ ah.map (dOf ops))) H a w) (hm : MvF L0 ρ0 I0 w0 (OwnF ρ β fr H) ρ I w) (hA : allQ P ops fr H hid) (hev : evP P N cf ops plan k fr H)
    (hah : ∀ i ∈ ah, AhR P ops N ρ I β fr H a w w0.heap.size i (bf i)) (hbf : ∀ i ∈ ah, ∀ j ∈ ah, bf i = bf j → i = j) (hf : hid.length + plan.length ≤ fuel + ah.length) : wpAny P .any ops (DrawQ N L0 ρ0 I0 w0 k) fuel listed a w := by
  have hcons : ∀ m, listed.getD m false = true → m < ops.size := fun m hm => by
    rw [← hD.size]
    rcases Nat.lt_or_ge m listed.size with h | h
    · exact h
    · simp [Array.getD_eq_getD_getElem?, Array.getElem?_eq_none h] at hm
  -- one that was owed runs
  have owed : ∀ (fuel' : Nat) (i : Nat) (hih : i ∈ hid) (oi : Oper), ops[i]? = some oi → (∀ e ∈ oi.after, Region.binds .any e = true → listed.getD e.on false = true) → fuel = fuel' + 1 →
      (∀ (listed' : Array Bool) (hid' : List Nat) (a' : Act) (w' : World) (I' : Imm), DI P cf ops listed' dn hid' ah → (∀ i ∈ hid', dOf ops i < N) → Sim N ρ I' β (fr.hide (hid'.map (dOf ops) ++ ah.map (dOf ops))) H a' w' → MvF L0 ρ0 I0 w0 (OwnF ρ β fr H) ρ I' w' → allQ P ops fr H hid' →
        (∀ i ∈ ah, AhR P ops N ρ I' β fr H a' w' w0.heap.size i (bf i)) → hid'.length + plan.length ≤ fuel' + ah.length → wpAny P .any ops (DrawQ N L0 ρ0 I0 w0 k) fuel' listed' a' w') →
      Go.wpOp P ops (DrawQ N L0 ρ0 I0 w0 k) i (wpAny P .any ops (DrawQ N L0 ρ0 I0 w0 k) fuel' (listed.setIfInBounds i true)) a w := by
    intro fuel' i hih oi ho hpre hfu rec
    refine draw_hid hD hN hs hA hih ho hpre (fun u w' I' hs' hmv => ?_)
    refine rec _ _ _ w' I' (hD.ran hih ho hpre) (fun j hj => hN j (List.mem_filter.1 hj).1) hs' (hm.trans hmv) (allQ_iff.2 fun j hj => allQ_iff.1 hA j (List.mem_filter.1 hj).1) (fun j hj => (hah j hj).move hmv (fun _ => ?_)) ?_
    · obtain ⟨_, o2, ho2, hq2⟩ := hD.hidq i hih
      have hne : dOf ops i ≠ dOf ops j := fun e => hD.injA ho2 hq2.dst (fun h => (hD.aok i h).1 (hD.hidq i hih).1) (by rw [e]; exact List.mem_map.2 ⟨j, hj, rfl⟩)
      simp [Act.put, Array.getD_eq_getD_getElem?, Array.getElem?_setIfInBounds_ne hne]
    · have := List.length_filter_lt_length_iff_exists (l := hid) (p := (· != i)) |>.2 ⟨i, hih, by simp⟩
      omega
  match plan, hP, hev, hf, owed with
  | [], hP, hev, hf, owed =>
    have hah0 : ah = [] := by
      cases ah with
      | nil => rfl
      | cons i r => exact absurd (hP i (hD.alt (by simp))) (hD.aok i (by simp)).1
    subst hah0
    cases fuel with
    | zero =>
      have h1 : hid = [] := by simpa using hf
      subst h1
      refine ⟨?_, rfl, fr, H, ρ, I, β, hm, by simpa [hide_nil] using hs, hev⟩
      apply List.eq_nil_iff_forall_not_mem.2
      intro j hj
      obtain ⟨h0, o, ho, _⟩ := mem_ready.1 hj
      have hlt := (Array.getElem?_eq_some_iff.1 ho).1
      rcases (hD.part j hlt).1 h0 with h | h
      · exact h.1 (hP j hlt)
      · simp at h
    | succ fuel =>
      refine ⟨fun hr => ?_, fun i hi => ?_⟩
      · have h1 : hid = [] := Classical.byContradiction fun hne => hD.ready hne hr
        subst h1
        exact ⟨rfl, fr, H, ρ, I, β, hm, by simpa [hide_nil] using hs, hev⟩
      · obtain ⟨h0, o, ho, hpre⟩ := mem_ready.1 hi
        have hlt := (Array.getElem?_eq_some_iff.1 ho).1
        have hih : i ∈ hid := by
          rcases (hD.part i hlt).1 h0 with h | h
          · exact absurd (hP i hlt) h.1
          · exact h
        exact owed fuel i hih o ho hpre rfl (fun listed' hid' a' w' I' q1 q2 q3 q4 q5 q6 q7 => draw_go fuel [] dn hid' [] bf listed' a' w' fr H ρ I' β q1 hP q2 q3 q4 q5 hev q6 hbf q7)
  | .q i :: r, hP, hev, hf, owed =>
    obtain ⟨o, d, ho, hin, hpr, hq, hrest⟩ := hP
    simp only [evP, ho] at hev
    obtain ⟨fr', x, hl, hb, hv, hk⟩ := opG_quiet2 hq.quiet hev
    rw [hq.dst] at hk
    unfold putK at hk
    simp only at hk
    split at hk <;> (first | exact hk.elim | skip)
    rename_i hdN
    have hdO : dOf ops i = d := by simp [dOf, ho, hq.dst]
    have hlook : ∀ t, t ≠ d → look t ((d, x) :: fr'.slots) = look t fr.slots := fun t ht => by
      simp only [look]; rw [if_neg (Ne.symm ht)]; exact hl t
    have hihid : i ∉ hid := fun h => hin (hD.hidq i h).1
    have hiah : i ∉ ah := fun h => by
      obtain ⟨_, o2, ho2, hA2⟩ := hD.aok i h
      rw [ho] at ho2; simp at ho2; subst ho2
      have h2 := hA2.box
      have h3 := hq.quiet
      unfold boxO at h2
      split at h2 <;> (first | (simp at h2; done) | skip)
      rename_i h4 _ _
      simp [quietO, h4] at h3
    have hpd : ∀ p ∈ hid, ∀ op, ops[p]? = some op → ∀ e ∈ op.after, Region.binds .any e = true → e.on ≠ i := fun p hp op hop e he hb' hon => by
      obtain ⟨op', hop', h2⟩ := hD.dnd p (hD.hidq p hp).1
      rw [hop] at hop'; simp at hop'; subst hop'
      exact hin (hon ▸ (h2 e he hb').1)
    have hOwn : OwnF ρ β { fr' with slots := (d, x) :: fr'.slots } H = OwnF ρ β fr H := OwnF.same hb
    refine draw_go fuel r (i :: dn) (i :: hid) ah bf listed a w { fr' with slots := (d, x) :: fr'.slots } H ρ I β ⟨hD.size, fun j hj => ?_, fun j hj => ?_, hD.down, fun j hj => ?_, ⟨hihid, hpd, hD.ord⟩, fun j hj => ?_, hD.anod⟩ hrest (fun j hj => ?_) ?_ ?_ ?_ hk (fun j hj => ?_) hbf (by simp at hf ⊢; omega)
    · rw [hD.part j hj]
      by_cases hji : j = i
      · subst hji; simp [hin, hiah]
      · simp [hji]
    · rcases List.mem_cons.1 hj with rfl | hj
      · exact ⟨by simp, o, ho, by rw [hdO]; exact hq⟩
      · obtain ⟨h1, h2⟩ := hD.hidq j hj
        exact ⟨by simp [h1], h2⟩
    · rcases List.mem_cons.1 hj with rfl | hj
      · exact ⟨o, ho, fun e he hb' => ⟨by simp [hpr e he hb'], fun hon => hin (hon ▸ hpr e he hb')⟩⟩
      · obtain ⟨oj, h1, h2⟩ := hD.dnd j hj
        exact ⟨oj, h1, fun e he hb' => ⟨by simp [(h2 e he hb').1], (h2 e he hb').2⟩⟩
    · obtain ⟨h1, h2⟩ := hD.aok j hj
      refine ⟨fun h => ?_, h2⟩
      rcases List.mem_cons.1 h with e | h
      · exact hiah (e ▸ hj)
      · exact h1 h
    · rcases List.mem_cons.1 hj with rfl | hj
      · rw [hdO]; exact hdN
      · exact hN j hj
    · refine hs.same (fun t y hy => ?_) hb
      rw [look_hide] at hy ⊢
      split at hy
      · simp at hy
      · rename_i hc
        simp only [List.map_cons, hdO, List.cons_append, List.contains_cons, Bool.or_eq_true, not_or] at hc
        have htd : t ≠ d := by simpa using hc.1
        rw [hlook t htd] at hy
        rw [if_neg hc.2]; exact hy
    · rw [hOwn]; exact hm
    · refine ⟨?_, allQ_iff.2 fun j hj => ?_⟩
      · unfold sameQ
        rw [ho]
        simp only [hq.dst]
        refine ⟨x, ?_, by simp [look]⟩
        rw [← hv]
        exact valQ_congr hq.quiet rfl (fun t ht => by simp only [look]; rw [if_neg (fun e : d = t => hq.self (by rw [e]; exact ht))])
      · have h3 := allQ_iff.1 hA j hj
        obtain ⟨_, oj, hoj, hqj⟩ := hD.hidq j hj
        have hji : j ≠ i := fun e => hihid (e ▸ hj)
        unfold sameQ at h3 ⊢
        rw [hoj] at h3 ⊢
        simp only [hqj.dst] at h3 ⊢
        obtain ⟨y, hy1, hy2⟩ := h3
        refine ⟨y, ?_, ?_⟩
        · rw [← hy1]
          refine valQ_congr hqj.quiet hb (fun t ht => hlook t (fun e => ?_))
          subst e
          obtain ⟨e, he, hb', hon⟩ := hq.looked j oj hoj hji ht
          exact hpd j hj oj hoj e he hb' hon
        · rw [← hy2]
          exact hlook _ (fun e => hq.other j oj hoj hji (by rw [hqj.dst, e]))
    · obtain ⟨o2, t, z, h1, h2, h3, h4, h5, h6, h7, h8⟩ := hah j hj
      exact ⟨o2, t, z, h1, h2, h3, h4, h5, by rw [hOwn]; exact h6, h7, h8⟩
  | .s i chk bef :: r, hP, hev, hf, owed =>
    have hP0 := hP
    have hev0 := hev
    obtain ⟨o, ho, hin, hpr, hq, hsel, huniq, hcov, hbef, hrest⟩ := hP
    have hilt := (Array.getElem?_eq_some_iff.1 ho).1
    have hihid : i ∉ hid := fun h => hin (hD.hidq i h).1
    simp only [evP, ho] at hev
    by_cases hia : i ∈ ah
    · -- it was laid ahead
      obtain ⟨_, o2, ho2, hA2⟩ := hD.aok i hia
      rw [ho] at ho2; simp at ho2; subst ho2
      obtain ⟨o2, t, z, q1, q2, q3, q4, q5, q6, q7, q8⟩ := hah i hia
      rw [ho] at q1; simp at q1; subst q1
      have hbox := hA2.box
      have hdst := hA2.dst
      generalize hdd : dOf ops i = d at *
      obtain ⟨dst, op, ty, pos, after, guard⟩ := o
      simp only at q2 hdst
      subst q2 hdst
      have hg : guard = none := by
        cases guard with
        | none => rfl
        | some g => simp [boxO] at hbox
      subst hg
      have hloc : cf.loc.contains d = true := by simp only [boxO, Bool.and_eq_true] at hbox; exact hbox.1
      have hev2 : newK N true (some d) z fr H (fun fr' H' => allQ P ops fr' H' chk ∧ evP P N cf ops r k fr' H') := by
        have h2 : opA P N cf fr H ⟨some d, .alloc t, ty, pos, after, none⟩ (fun fr' H' => allQ P ops fr' H' chk ∧ evP P N cf ops r k fr' H') := hev
        simp only [opA, effA, q3, Option.getD_some, hloc] at h2
        exact h2
      unfold newK at hev2
      simp only at hev2
      split at hev2 <;> (first | exact hev2.elim | skip)
      rename_i hdN
      obtain ⟨hchk, hk⟩ := hev2
      have hil : listed.getD i true = true := by
        have hn : ¬ (listed.getD i true = false) := by rw [hD.part i hilt]; rintro (h | h); exact h.2 hia; exact hihid h
        simpa using hn
      have hmem : ∀ s, s ∈ hid.map (dOf ops) ++ ah.map (dOf ops) ↔ s = d ∨ s ∈ hid.map (dOf ops) ++ (ah.filter (· != i)).map (dOf ops) := fun s => by
        simp only [List.mem_append, List.mem_map, List.mem_filter]
        constructor
        · rintro (h | ⟨j, hj, rfl⟩)
          · exact .inr (.inl h)
          · by_cases e : j = i
            · subst e; exact .inl hdd
            · exact .inr (.inr ⟨j, ⟨hj, by simpa using e⟩, rfl⟩)
        · rintro (rfl | h | ⟨j, ⟨hj, _⟩, rfl⟩)
          · exact .inr ⟨i, hia, hdd⟩
          · exact .inl h
          · exact .inr ⟨j, hj, rfl⟩
      obtain ⟨β', hs', hown⟩ := hs.adopt hdN hmem (q4 hdN) q5 q6 q7
      have hlen : ah.length = (ah.filter (· != i)).length + 1 := filter_one' hD.anod hia
      have hbl := bef_listed hD bef [i] hbef (fun m hm om hom e he hb' => by
        simp at hm; subst hm
        exact hD.down m om hom hil e he hb')
      refine draw_go fuel r (i :: dn) hid (ah.filter (· != i)) bf listed a w _ H ρ I β' ⟨hD.size, fun j hj => ?_, fun j hj => ?_, hD.down, fun j hj => ?_, hD.ord, fun j hj => ?_, hD.anod.filter _⟩ hrest hN hs' ⟨hm.ext, ⟨hm.fw.os, hm.fw.tape, hm.fw.output, hm.fw.size, hm.fw.keep, fun b' hb' => ?_⟩, hm.imm⟩ (allQ_iff.2 fun p hp => ?_) hk (fun j hj => ?_) (fun x hx y hy => hbf x (List.mem_filter.1 hx).1 y (List.mem_filter.1 hy).1) (by simp at hf; omega)
      · rw [hD.part j hj]
        by_cases hji : j = i
        · subst hji; simp [hia, hihid]
        · simp [hji]
      · obtain ⟨h1, h2⟩ := hD.hidq j hj
        exact ⟨by simp [h1], h2⟩
      · rcases List.mem_cons.1 hj with rfl | hj
        · exact ⟨_, ho, fun e he hb' => ⟨by simp [hpr e he hb'], fun hon => hin (hon ▸ hpr e he hb')⟩⟩
        · obtain ⟨oj, h1, h2⟩ := hD.dnd j hj
          exact ⟨oj, h1, fun e he hb' => ⟨by simp [(h2 e he hb').1], (h2 e he hb').2⟩⟩
      · have hj2 := List.mem_filter.1 hj
        obtain ⟨h1, h2⟩ := hD.aok j hj2.1
        refine ⟨fun h => ?_, h2⟩
        rcases List.mem_cons.1 h with e | h
        · subst e; simp at hj2
        · exact h1 h
      · rcases hown b' hb' with h | h
        · exact hm.fw.new b' h
        · subst h; exact .inr q8
      · obtain ⟨hpd, op, hop, hqp⟩ := hD.hidq p hp
        rcases hcov p hpd op hop hqp.quiet with h | h
        · exact allQ_iff.1 hchk p h
        · exact absurd hp (hD.listed (hD.lt hpd) (hbl p h)).2
      · have hj2 := List.mem_filter.1 hj
        have hji : j ≠ i := by simpa using hj2.2
        obtain ⟨o3, t3, z3, p1, p2, p3, p4, p5, p6, p7, p8⟩ := hah j hj2.1
        refine ⟨o3, t3, z3, p1, p2, p3, p4, p5, fun ho3 => ?_, p7, p8⟩
        rcases hown _ ho3 with h | h
        · exact p6 h
        · exact hji (hbf j hj2.1 i hia h)
    cases fuel with
    | zero =>
      exfalso
      have h1 := plan_all hP0 (i :: ah) (List.nodup_cons.2 ⟨hia, hD.anod⟩) (fun j hj => by
        rcases List.mem_cons.1 hj with rfl | hj
        · exact ⟨hilt, hin⟩
        · exact ⟨hD.alt hj, (hD.aok j hj).1⟩)
      simp only [List.length_cons] at h1 hf
      omega
    | succ fuel =>
      refine ⟨fun hr => ?_, fun j hj => ?_⟩
      · exfalso
        have h1 : hid = [] := Classical.byContradiction fun hne => hD.ready hne hr
        subst h1
        have hi : i ∈ Region.ready .any ops listed := by
          rw [mem_ready]
          refine ⟨(hD.part i hilt).2 (.inl ⟨hin, hia⟩), o, ho, fun e he hb' => ?_⟩
          have h3 := hpr e he hb'
          have hlt := hD.lt h3
          rw [hD.getD hlt]
          have hn : ¬ (listed.getD e.on true = false) := by
            rw [hD.part e.on hlt]
            rintro (h4 | h4)
            · exact h4.1 h3
            · simp at h4
          simpa using hn
        rw [hr] at hi
        simp at hi
      · obtain ⟨h0, oj, hoj, hpre⟩ := mem_ready.1 hj
        have hlt := (Array.getElem?_eq_some_iff.1 hoj).1
        by_cases hjh : j ∈ hid
        · exact owed fuel j hjh oj hoj hpre rfl (fun listed' hid' a' w' I' q1 q2 q3 q4 q5 q6 q7 => draw_go fuel (.s i chk bef :: r) dn hid' ah bf listed' a' w' fr H ρ I' β q1 hP0 q2 q3 q4 q5 hev0 q6 hbf q7)
        have hjn : j ∉ dn ∧ j ∉ ah := by
          rcases (hD.part j hlt).1 h0 with h | h
          · exact h
          · exact absurd h hjh
        by_cases hji : j = i
        · subst hji
          rw [ho] at hoj; simp at hoj; subst hoj
          have hbl := bef_listed hD bef [j] hbef (fun m hm om hom e he hb' => by
            simp at hm; subst hm
            rw [ho] at hom; simp at hom; subst hom
            exact hpre e he hb')
          have hfar := hD.far ho (fun h => absurd h hjh) hpre
          have hfarA := hD.farA ho hia hpr
          have hd' : ∀ t, o.dst = some t → t ∉ hid.map (dOf ops) ++ ah.map (dOf ops) := fun t ht hm' => by
            rcases List.mem_append.1 hm' with hm' | hm'
            · obtain ⟨p, hp, rfl⟩ := List.mem_map.1 hm'
              obtain ⟨_, op, hop, hqp⟩ := hD.hidq p hp
              exact hqp.other j o ho (fun e => hjh (e ▸ hp)) ht
            · exact hD.injA ho ht hia hm'
          have hl' : ∀ t ∈ o.looksAt ops, t ∉ hid.map (dOf ops) ++ ah.map (dOf ops) := fun t ht hm' => by
            rcases List.mem_append.1 hm' with hm' | hm'
            · exact hfar t ht hm'
            · exact hfarA t ht hm'
          have hrun := wpOp_opG (Q := DrawQ N L0 ρ0 I0 w0 k) (K := fun a' w' => ∃ f H' ρ' I' β', MvF (OwnF ρ β fr H) ρ I w (OwnF ρ' β' f H') ρ' I' w' ∧ Sim N ρ' I' β' f H' a' w' ∧ hidK (hid.map (dOf ops) ++ ah.map (dOf ops)) (fun fr' H' => allQ P ops fr' H' chk ∧ evP P N cf ops r k fr' H') f H') ho hs (opG_hide hq hl' hd' hev) (fun a' w' f H' ρ' I' β' h1 h2 h3 => ⟨f, H', ρ', I', β', h1, h2, h3⟩)
          have hrun2 := wpOp_keeps ho (noSel_of hsel) (ah.map (dOf ops)) (fun d hd hdd => hd' d hdd (List.mem_append.2 (.inr hd))) hrun
          refine wpOp_mono ?_ hrun2
          rintro a' w' ⟨⟨f, H', ρ', I', β', hm', hs', ⟨fr2, rfl, hchk, hk⟩⟩, hkeep⟩
          refine draw_go fuel r (j :: dn) hid ah bf _ a' w' fr2 H' ρ' I' β' ⟨by simp [hD.size], fun m hml => ?_, fun m hmh => ?_, fun m om hom hl e he hb' => ?_, fun m hmd => ?_, hD.ord, fun m hma => ?_, hD.anod⟩ hrest hN hs' (hm.trans hm') (allQ_iff.2 fun p hp => ?_) hk (fun m hma => (hah m hma).move hm' (fun _ => hkeep _ (List.mem_map.2 ⟨m, hma, rfl⟩))) hbf (by simp at hf; omega)
          · by_cases hmj : j = m
            · subst hmj
              have : (listed.setIfInBounds j true).getD j true = true := by simp [Array.getD_eq_getD_getElem?, hD.size, hlt]
              rw [this]; simp [hjh]
            · rw [getD_set_ne true hmj, hD.part m hml]; simp [Ne.symm hmj]
          · obtain ⟨h1, h2⟩ := hD.hidq m hmh
            exact ⟨by simp [h1], h2⟩
          · by_cases hmj : j = m
            · subst hmj
              rw [ho] at hom; simp at hom; subst hom
              exact getD_set_true (hpre e he hb')
            · rw [getD_set_ne true hmj] at hl
              exact getD_set_true (hD.down m om hom hl e he hb')
          · rcases List.mem_cons.1 hmd with rfl | hmd
            · exact ⟨o, ho, fun e he hb' => ⟨by simp [hpr e he hb'], fun hon => hin (hon ▸ hpr e he hb')⟩⟩
            · obtain ⟨om, h1, h2⟩ := hD.dnd m hmd
              exact ⟨om, h1, fun e he hb' => ⟨by simp [(h2 e he hb').1], (h2 e he hb').2⟩⟩
          · obtain ⟨h1, h2⟩ := hD.aok m hma
            refine ⟨fun h => ?_, h2⟩
            rcases List.mem_cons.1 h with e | h
            · exact hia (e ▸ hma)
            · exact h1 h
          · obtain ⟨hpd, op, hop, hqp⟩ := hD.hidq p hp
            rcases hcov p hpd op hop hqp.quiet with h | h
            · exact allQ_iff.1 hchk p h
            · exact absurd hp (hD.listed (hD.lt hpd) (hbl p h)).2
        · -- a box is laid ahead
          have hAj : IsA P cf ops j := by
            rcases huniq j oj hoj hjn.1 hji with h | ⟨e, he, hb', hon⟩ | h
            · exact h
            · have h1 := (hD.listed (hcons _ (hpre e he hb')) (hpre e he hb')).1
              rw [hon] at h1
              rcases h1 with h1 | h1
              · exact absurd h1 hin
              · exact absurd h1 hia
            · exact absurd (fun e he hb' => by
                have h1 := (hD.listed (hcons _ (hpre e he hb')) (hpre e he hb')).1
                rcases h1 with h1 | h1
                · exact .inl h1
                · obtain ⟨_, o3, ho3, hA3⟩ := hD.aok _ h1
                  exact .inr ⟨o3, _, ho3, hA3⟩) h
          obtain ⟨oj', d, hoj', hAk⟩ := hAj
          rw [hoj] at hoj'; simp at hoj'; subst hoj'
          have hdO : dOf ops j = d := by simp [dOf, hoj, hAk.dst]
          have hbox := hAk.box
          unfold boxO at hbox
          split at hbox <;> (first | (simp at hbox; done) | skip)
          rename_i t d' hop hg hdst'
          rw [hAk.dst] at hdst'; simp at hdst'; subst hdst'
          simp only [Bool.and_eq_true] at hbox
          obtain ⟨z, hz⟩ := Option.isSome_iff_exists.1 hbox.2
          obtain ⟨ti, zv, hti, hzz, hzl, hone⟩ := zerosT_spec hz
          subst hzl
          have hy : YieldsW P ops oj (.pointer (some ⟨w.heap.size, 0, none⟩)) a w (w.alloc (.cells zv.cells t)) := by
            refine .inl ⟨by simp [Region.wanted, hg], ?_⟩
            obtain ⟨dst, op, ty, pos, after, guard⟩ := oj
            simp only at hop; subst hop
            exact run_v (by simp [Instr.alloc, zeroValue, typeInfo, hti, hzz, newVar, newRow])
          have hmj := Mv.junk hs.heap (Gw.alloc w (.cells zv.cells t))
          obtain ⟨hs1, hmv⟩ := hs.move hmj
          have hmv' : MvF (OwnF ρ β fr H) ρ I w (OwnF ρ β fr H) ρ I (w.alloc (.cells zv.cells t)) := hmv
          have hsize : ∀ b, OwnF ρ β fr H b → b < w.heap.size := fun b hb => by
            rcases hb with hb | ⟨s, cs, h1, h2⟩
            · exact Live.lt hs.heap hb
            · obtain ⟨b2, h3, h4, _⟩ := hs.box s cs h1
              rw [h2] at h3; simp at h3; subst h3
              obtain ⟨arr, T, hb, _⟩ := h4; exact (Array.getElem?_eq_some_iff.1 hb).1
          have hcell : CellsR ρ I (w.alloc (.cells zv.cells t)) w.heap.size 0 (zv.cells.toList.map Go.Mx.AV.v).length (zv.cells.toList.map Go.Mx.AV.v) := by
            have hv := vrs_lit (ρ := ρ) (I := I) zv.cells.toList
            refine ⟨zv.cells, t, heap_alloc_new w _, by have := hv.1; simp, by omega, fun i c hc => ?_⟩
            obtain ⟨u, hu, hvr⟩ := hv.get hc
            exact ⟨u, by rw [Nat.zero_add, ← Array.getElem?_toList]; exact hu, hvr, hone u (List.mem_of_getElem? hu)⟩
          have hlb : ∀ m ∈ ah, bf m < w.heap.size := fun m hma => by
            obtain ⟨_, _, _, _, _, _, _, h5, _⟩ := hah m hma
            obtain ⟨arr, T, hb, _⟩ := h5; exact (Array.getElem?_eq_some_iff.1 hb).1
          refine hy.wpOp hoj ?_
          rw [hAk.dst]
          refine draw_go fuel (.s i chk bef :: r) dn hid (j :: ah) (fun m => if m = j then w.heap.size else bf m) _ _ _ fr H ρ I β (hD.ahead hjn.1 hjn.2 hjh hoj (by rw [hdO]; exact hAk) hpre) hP0 hN (hs1.cover (by simp [hdO]) (fun s hs => ?_)) (hm.trans hmv') hA hev0 (fun m hma => ?_) (fun x hx y hy he => ?_) (by simp at hf ⊢; omega)
          · simp only [List.map_cons, List.mem_append, List.mem_cons] at hs ⊢
            rcases hs with h | h
            · exact .inl h
            · exact .inr (.inr h)
          · rcases List.mem_cons.1 hma with rfl | hma
            · refine ⟨oj, t, _, hoj, hop, hz, fun hdN => ?_, by simpa using hcell, fun hb => absurd (hsize _ hb) (by simp), by simpa using hs.heap.imm_none (Nat.le_refl _), by simpa using hm.fw.size⟩
              simp only [if_true]
              rw [hdO] at hdN ⊢
              have : d < a.tmps.size := by rw [hs.size]; exact hdN
              simp [Act.put, Array.getD_eq_getD_getElem?, this]
            · have hne : m ≠ j := fun e => hjn.2 (e ▸ hma)
              rw [if_neg hne]
              refine (hah m hma).move hmv' (fun _ => ?_)
              have hdm : d ≠ dOf ops m := fun e => hD.injA hoj hAk.dst hjn.2 (by rw [e]; exact List.mem_map.2 ⟨m, hma, rfl⟩)
              simp [Act.put, Array.getD_eq_getD_getElem?, Array.getElem?_setIfInBounds_ne hdm]
          · replace he : (if x = j then w.heap.size else bf x) = (if y = j then w.heap.size else bf y) := he
            rcases List.mem_cons.1 hx with e1 | hx' <;> rcases List.mem_cons.1 hy with e2 | hy'
            · rw [e1, e2]
            · have h2 : y ≠ j := fun e => hjn.2 (e ▸ hy')
              rw [if_pos e1, if_neg h2] at he
              have := hlb y hy'; omega
            · have h2 : x ≠ j := fun e => hjn.2 (e ▸ hx')
              rw [if_pos e2, if_neg h2] at he
              have := hlb x hx'; omega
            · have h2 : x ≠ j := fun e => hjn.2 (e ▸ hx')
              have h3 : y ≠ j := fun e => hjn.2 (e ▸ hy')
              rw [if_neg h2, if_neg h3] at he
              exact hbf x hx' y hy' he
termination_by (fuel, plan.length)

theorem DI.start : DI P cf ops (Array.replicate ops.size false) [] [] [] where
  size := by simp
  part j hj := by simp [Array.getD_eq_getD_getElem?, hj]
  hidq i hi := by simp at hi
  down j o ho hl := by
    have hlt := (Array.getElem?_eq_some_iff.1 ho).1
    simp [Array.getD_eq_getD_getElem?, hlt] at hl
  dnd j hj := by simp at hj
  ord := trivial
  aok i hi := by simp at hi
  anod := List.nodup_nil

/-- A region that draws its order. -/
theorem Wp.draw {id : Nat} {plan : List Stp} {K : Exit → Fr → Hp → Prop} (hm : P.follows .mixedOrders = true) (hP : POk P cf ops [] plan) (hlen : plan.length ≤ ops.size) (h : evP P N cf ops plan (K .normal) fr H) :
    Wp P N (.region id ops true) K fr H := by
  intro ρ I β a w hs
  have hmv := Mv.junk hs.heap (Gw.drew w)
  obtain ⟨h1, h2⟩ := hs.move hmv
  refine wp_mono (wp_region_any hm (draw_go (N := N) (cf := cf) ops.size plan [] [] [] (fun _ => 0) (Array.replicate ops.size false) a w.drew fr H ρ I β DI.start hP (by simp) (by simpa [hide_nil] using h1) h2 trivial h (by simp) (by simp) (by simpa using hlen))) ?_
  rintro e a' w' ⟨rfl, fr', H', ρ', I', β', h3, h4, h5⟩
  exact ⟨fr', H', ρ', I', β', h3, h4, h5⟩
end
end Go.Mx
