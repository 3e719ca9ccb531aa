/-
  The abstract machine: boxes, stores, and what is laid new.
-/
import Derived.Test.YtoakdmkjlpjahaaDoorMxI
namespace Go.Mx
open Go.RowKit
set_option linter.unusedVariables false
set_option linter.unusedSimpArgs false

def splice {α : Type} (old : List α) (off : Nat) (cs : List α) : List α := old.take off ++ cs ++ old.drop (off + cs.length)
theorem splice_length {α : Type} {old : List α} {off : Nat} {cs : List α} (h : off + cs.length ≤ old.length) : (splice old off cs).length = old.length := by simp [splice]; omega
theorem splice_get {α : Type} {old : List α} {off : Nat} {cs : List α} (h : off + cs.length ≤ old.length) (i : Nat) : (splice old off cs)[i]? = if off ≤ i ∧ i < off + cs.length then cs[i - off]? else old[i]? := by
  unfold splice
  by_cases h1 : i < off
  · rw [List.append_assoc, List.getElem?_append_left (by simp; omega), if_neg (by omega), List.getElem?_take, if_pos h1]
  · by_cases h2 : i < off + cs.length
    · rw [if_pos ⟨by omega, h2⟩, List.append_assoc, List.getElem?_append_right (by simp; omega), List.getElem?_append_left (by simp; omega)]
      congr 1; simp; omega
    · rw [if_neg (by omega), List.getElem?_append_right (by simp; omega), List.getElem?_drop]
      congr 1; simp; omega
@[simp] theorem splice_one {α : Type} (old : List α) (off : Nat) (c : α) (h : off < old.length) : splice old off [c] = old.set off c := by
  apply List.ext_getElem?
  intro i
  rw [splice_get (by simp; omega), List.getElem?_set]
  by_cases hi : off = i
  · subst hi; simp [h]
  · rw [if_neg (by simp; omega), if_neg hi]

section
variable {P : Program} {N : Nat} {fr : Fr} {H : Hp} {ρ : Rho} {I : Imm} {β : Nat → Option Nat} {a : Act} {w w' : World}

theorem Gw.setRow (w : World) (g : Nat) (cs : Array Value) : Gw (some g) w (w.setRow g cs) :=
  ⟨rfl, rfl, rfl, by simp, fun b hb hn => setRow_other w g b cs (by simpa using hn)⟩

/-- Cells are written in a block. -/
theorem CellsR.write {blk base size off : Nat} {cs ds : List AV} {us : List Value} (h : CellsR ρ I w blk base size cs) (hv : VRs ρ I ds us) (ho : ∀ u ∈ us, u.oneCell' = true) (hle : off + ds.length ≤ cs.length) :
    ∃ w', (∀ i0, (storeCells ⟨blk, base + off, none⟩ us i0).run P w = (storeCells ⟨blk, base + off, none⟩ us i0).run P w) ∧ (storeCells ⟨blk, base + off, none⟩ us).run P w = .ok () w' ∧ Gw (some blk) w w' ∧ CellsR ρ I w' blk base size (splice cs off ds) := by
  obtain ⟨arr, T, h1, h2, h3, h4⟩ := h
  have hl := hv.1
  have hrun := run_storeCells_at P blk (base + off) T us 0 arr w h1 (by omega) ho
  refine ⟨_, fun _ => rfl, hrun, Gw.setRow _ _ _, ?_⟩
  refine ⟨_, T, setRow_heap w blk arr _ T (0, 0) h1, ?_, ?_, fun i c hc => ?_⟩
  · have e := splice_length (old := arr.toList) (off := base + off) (cs := us) (by simp; omega)
    simpa [splice, h2] using e
  · rw [splice_length hle]; exact h3
  · rw [splice_get hle] at hc
    have e : (arr.toList.take (base + off + 0) ++ us ++ arr.toList.drop (base + off + 0 + us.length)) = splice arr.toList (base + off) us := rfl
    rw [e, List.getElem?_toArray, splice_get (by simp; omega)]
    split at hc
    · rename_i hi
      rw [if_pos (by omega)]
      obtain ⟨u, hu, hvr⟩ := hv.get hc
      refine ⟨u, ?_, hvr, ho u (List.mem_of_getElem? hu)⟩
      rw [← hu]; congr 1; omega
    · rename_i hi
      rw [if_neg (by omega)]
      simpa using h4 i c hc

/-- A block that is no object's is written. -/
theorem StH.other (hs : StH ρ I H w) {b : Nat} (g : Gw (some b) w w') (hL : ¬ Live ρ H b) (hI : I b = none) : StH ρ I H w' where
  dom := hs.dom
  imm x arr hi := by
    obtain ⟨T, fz, hb⟩ := hs.imm x arr hi
    exact ⟨T, fz, (g.keep x (Array.getElem?_eq_some_iff.1 hb).1 (fun e => by simp at e; subst e; rw [hI] at hi; simp at hi)).trans hb⟩
  obj id o ho := (hs.obj id o ho).move (Ext.refl _ _) (fun _ h => h) (fun x hx => g.keep x ((hs.obj id o ho).lt hx) (fun e => by simp at e; subst e; exact hL ⟨id, o, ho, hx⟩))
  inj := hs.inj
  apart := hs.apart

/-- A store into a variable. -/
def storeS (fr : Fr) (H : Hp) (sz : Nat) (ad : SV) (x : AV) (k : Fr → Hp → Prop) : Prop :=
  if (cellsA x).length = sz ∧ okPart x = true then
    match ad with
    | .bp t off => match look t fr.boxes with
      | some old => if off + sz ≤ old.length then k { fr with boxes := (t, splice old off (cellsA x)) :: fr.boxes } H else False
      | none => False
    | .av (.ptr id ver off) => match H[id]? with
      | some (.cells v old) => if v = ver ∧ off + sz ≤ old.length then k fr (H.set id (.cells ver (splice old off (cellsA x)))) else False
      | _ => False
    | _ => False
  else False

/-- What an operation must show that is no call. -/
def Does (N : Nat) (ρ : Rho) (I : Imm) (β : Nat → Option Nat) (fr : Fr) (H : Hp) (a : Act) (w w' : World) (k : Fr → Hp → Prop) : Prop :=
  ∃ fr' H' ρ' I' β', MvF (OwnF ρ β fr H) ρ I w (OwnF ρ' β' fr' H') ρ' I' w' ∧ Sim N ρ' I' β' fr' H' a w' ∧ k fr' H'

theorem storeS_sound (hs : Sim N ρ I β fr H a w) {t : TypeId} {sz : Nat} {ad : SV} {x : AV} {v u : Value} {k : Fr → Hp → Prop} (hz : szT P t = some sz) (hv : SVR ρ I β ad v) (hx : VR ρ I x u)
    (h : storeS fr H sz ad x k) : ∃ w', (Instr.storeAt t v u).run P w = .ok () w' ∧ Does N ρ I β fr H a w w' k := by
  unfold storeS at h
  split at h <;> (first | exact h.elim | skip)
  rename_i hc
  obtain ⟨hcv, hco⟩ := cells_vr hx hc.2
  have hsize : u.cells.size = sz := by have := hcv.1; rw [hc.1] at this; simpa using this
  have hst : ∀ b o w', (storeCells ⟨b, o, none⟩ u.cells.toList).run P w = .ok () w' → (Instr.storeAt t (.pointer (some ⟨b, o, none⟩)) u).run P w = .ok () w' := by
    intro b o w' hr
    simp [Instr.storeAt, Instr.sureAddr, storeVar, szT_run hz, hsize, hr]
  split at h
  · rename_i t' off
    obtain ⟨b, hb, rfl⟩ := hv
    split at h <;> (first | exact h.elim | skip)
    rename_i old hold
    split at h <;> (first | exact h.elim | skip)
    rename_i hle
    obtain ⟨b', hb', hcell, hnl, hni⟩ := hs.box t' old hold
    rw [hb] at hb'; simp at hb'; subst hb'
    obtain ⟨w', _, hrun, hg, hcell'⟩ := hcell.write (P := P) (off := off) hcv hco (by rw [hc.1]; exact hle)
    have e0 : 0 + off = off := Nat.zero_add off
    rw [e0] at hrun
    refine ⟨w', hst _ _ _ hrun, { fr with boxes := (t', splice old off (cellsA x)) :: fr.boxes }, H, ρ, I, β, ⟨Ext.refl _ _, ⟨hg.os, hg.tape, hg.output, hg.size, fun x hx hL => hg.keep x hx (fun e => ?_), fun x hx => .inl ?_⟩, fun x hx => .inl hx⟩, ⟨hs.heap.other hg hnl hni, hs.defers, hs.size, hs.slot, ?_, ?_⟩, h⟩
    · simp at e; subst e; exact hL (.inr ⟨t', old, hold, hb⟩)
    · rcases hx with hx | ⟨t2, cs2, h1, h2⟩
      · exact .inl hx
      · simp only [look] at h1
        split at h1
        · rename_i e; subst e; exact .inr ⟨_, old, hold, h2⟩
        · exact .inr ⟨t2, cs2, h1, h2⟩
    · intro t2 cs2 h1
      simp only [look] at h1
      split at h1
      · rename_i e; subst e
        simp at h1; subst h1
        have e1 : (splice old off (cellsA x)).length = old.length := splice_length (by rw [hc.1]; exact hle)
        exact ⟨b, hb, by rw [e1]; exact hcell', hnl, hni⟩
      · rename_i e
        obtain ⟨b2, hb2, hcell2, hnl2, hni2⟩ := hs.box t2 cs2 h1
        refine ⟨b2, hb2, hcell2.move (Ext.refl _ _) (hg.keep b2 ?_ (fun e2 => ?_)), hnl2, hni2⟩
        · obtain ⟨arr, T, hh, _⟩ := hcell2; exact (Array.getElem?_eq_some_iff.1 hh).1
        · simp at e2; subst e2; exact e (hs.binj _ _ _ _ _ hold h1 hb hb2)
    · intro t2 t3 cs2 cs3 b2 h1 h2 hb2 hb3
      have get : ∀ t4 cs4, look t4 ((t', splice old off (cellsA x)) :: fr.boxes) = some cs4 → ∃ cs5, look t4 fr.boxes = some cs5 := by
        intro t4 cs4 h4
        simp only [look] at h4
        split at h4
        · rename_i e; subst e; exact ⟨old, hold⟩
        · exact ⟨cs4, h4⟩
      obtain ⟨c2, h1'⟩ := get _ _ h1
      obtain ⟨c3, h2'⟩ := get _ _ h2
      exact hs.binj t2 t3 c2 c3 b2 h1' h2' hb2 hb3
  · rename_i id ver off
    split at h <;> (first | exact h.elim | skip)
    rename_i v' old hob
    split at h <;> (first | exact h.elim | skip)
    rename_i hcc
    obtain ⟨rfl, hle⟩ := hcc
    cases hv with
    | ptr _ _ _ l hl =>
      obtain ⟨hver, l', hl', hcell⟩ := hs.heap.obj _ _ hob
      rw [hl] at hl'; simp at hl'; subst hl'
      obtain ⟨w', _, hrun, hg, hcell'⟩ := hcell.write (P := P) (off := off) hcv hco (by rw [hc.1]; exact hle)
      have hm : Mv ρ I H w ρ I (H.set id (.cells v' (splice old off (cellsA x)))) w' :=
        Mv.write hs.heap hob (by simp [blkOf, hl]) hg (Ext.refl _ _) (fun _ _ _ => rfl) (b1 := l.blk) (.inl rfl) ⟨hver, l, hl, hcell'⟩ (by simp [blkOf, hl])
      obtain ⟨h1, h2⟩ := hs.move hm
      exact ⟨w', hst _ _ _ hrun, fr, _, ρ, I, β, h2, h1, h⟩
  · exact h.elim

/-- Slots that lead to a box are forgotten. -/
def dropBp (t : Nat) : List (Nat × SV) → List (Nat × SV)
  | [] => []
  | (s, .bp t' off) :: r => if t' = t then (s, .un) :: dropBp t r else (s, .bp t' off) :: dropBp t r
  | (s, x) :: r => (s, x) :: dropBp t r
theorem look_dropBp (t : Nat) : ∀ (l : List (Nat × SV)) (s : Nat) (x : SV), look s (dropBp t l) = some x → (look s l = some x ∧ ∀ off, x ≠ .bp t off) ∨ x = .un
  | [], s, x, h => by simp [dropBp, look] at h
  | (s', y) :: r, s, x, h => by
    cases y with
    | bp t' off =>
      simp only [dropBp] at h
      split at h
      · rename_i e
        simp only [look] at h
        split at h
        · simp at h; exact .inr h.symm
        · rename_i hne
          rcases look_dropBp t r s x h with h | h
          · exact .inl ⟨by simp only [look]; rw [if_neg hne]; exact h.1, h.2⟩
          · exact .inr h
      · rename_i e
        simp only [look] at h
        split at h
        · rename_i he
          simp at h; subst h
          exact .inl ⟨by simp only [look]; rw [if_pos he], fun off' e' => by injection e' with e1; exact e e1⟩
        · rename_i hne
          rcases look_dropBp t r s x h with h | h
          · exact .inl ⟨by simp only [look]; rw [if_neg hne]; exact h.1, h.2⟩
          · exact .inr h
    | av y =>
      simp only [dropBp, look] at h
      split at h
      · rename_i he
        simp at h; subst h
        exact .inl ⟨by simp only [look]; rw [if_pos he], fun off' e' => by simp at e'⟩
      · rename_i hne
        rcases look_dropBp t r s x h with h | h
        · exact .inl ⟨by simp only [look]; rw [if_neg hne]; exact h.1, h.2⟩
        · exact .inr h
    | un =>
      simp only [dropBp, look] at h
      split at h
      · simp at h; exact .inr h.symm
      · rename_i hne
        rcases look_dropBp t r s x h with h | h
        · exact .inl ⟨by simp only [look]; rw [if_neg hne]; exact h.1, h.2⟩
        · exact .inr h

/-- A new local box. -/
def Fr.newBox (fr : Fr) (t : Nat) (cs : List AV) : Fr := { slots := dropBp t fr.slots, boxes := (t, cs) :: fr.boxes }

theorem Sim.newBox (hs : Sim N ρ I β fr H a w) (t : Nat) {cs : List AV} {arr : Array Value} {T : TypeId} (hv : VRs ρ I cs arr.toList) (ho : ∀ u ∈ arr.toList, u.oneCell' = true) :
    ∃ β', Sim N ρ I β' (fr.newBox t cs) H a (w.alloc (.cells arr T)) ∧ MvF (OwnF ρ β fr H) ρ I w (OwnF ρ β' (fr.newBox t cs) H) ρ I (w.alloc (.cells arr T)) ∧ β' t = some w.heap.size := by
  let β' : Nat → Option Nat := fun s => if s = t then some w.heap.size else β s
  have hg := Gw.alloc w (.cells arr T)
  have hm := Mv.junk hs.heap hg
  have hnl : ¬ Live ρ H w.heap.size := fun h => by have := Live.lt hs.heap h; omega
  have hcell : CellsR ρ I (w.alloc (.cells arr T)) w.heap.size 0 cs.length cs := by
    refine ⟨arr, T, heap_alloc_new w _, by have := hv.1; simpa using this, by omega, fun i c hc => ?_⟩
    obtain ⟨u, hu, hvr⟩ := hv.get hc
    exact ⟨u, by rw [Nat.zero_add, ← Array.getElem?_toList]; exact hu, hvr, ho u (List.mem_of_getElem? hu)⟩
  refine ⟨β', ⟨hm.st, hs.defers, hs.size, ?_, ?_, ?_⟩, ⟨Ext.refl _ _, ⟨rfl, rfl, rfl, by simp, fun b hb _ => hg.keep b hb (by simp), ?_⟩, fun b hb => .inl hb⟩, by simp [β']⟩
  · intro s x hx
    rcases look_dropBp t _ s x hx with ⟨h1, h2⟩ | rfl
    · have := hs.slot s x h1
      cases x with
      | av x => exact this
      | bp t' off =>
        obtain ⟨b, hb, e⟩ := this
        exact ⟨b, by simp only [β']; rw [if_neg (fun e' => h2 off (by rw [e']))]; exact hb, e⟩
      | un => trivial
    · trivial
  · intro s ds h
    simp only [Fr.newBox, look] at h
    split at h
    · rename_i e; subst e
      simp at h; subst h
      exact ⟨w.heap.size, by simp [β'], hcell, hnl, hs.heap.imm_none (Nat.le_refl _)⟩
    · rename_i e
      obtain ⟨b, h1, h2, h3, h4⟩ := hs.box s ds h
      have hlt : b < w.heap.size := by obtain ⟨arr, T, hb, _⟩ := h2; exact (Array.getElem?_eq_some_iff.1 hb).1
      exact ⟨b, by simp only [β']; rw [if_neg (Ne.symm e)]; exact h1, h2.move (Ext.refl _ _) (hg.keep b hlt (by simp)), h3, h4⟩
  · intro s1 s2 c1 c2 b h1 h2 hb1 hb2
    have old : ∀ s ds b', s ≠ t → look s (fr.newBox t cs).boxes = some ds → β' s = some b' → look s fr.boxes = some ds ∧ β s = some b' ∧ b' < w.heap.size := by
      intro s ds b' hne h hb
      simp only [Fr.newBox, look] at h
      rw [if_neg (Ne.symm hne)] at h
      simp only [β'] at hb
      rw [if_neg hne] at hb
      obtain ⟨b2, h1, h2, _⟩ := hs.box s ds h
      rw [hb] at h1; simp at h1; subst h1
      obtain ⟨arr, T, hh, _⟩ := h2
      exact ⟨h, hb, (Array.getElem?_eq_some_iff.1 hh).1⟩
    by_cases e1 : s1 = t <;> by_cases e2 : s2 = t
    · rw [e1, e2]
    · obtain ⟨_, _, hlt⟩ := old s2 c2 b e2 h2 hb2
      simp only [β'] at hb1; rw [if_pos e1] at hb1; simp at hb1; omega
    · obtain ⟨_, _, hlt⟩ := old s1 c1 b e1 h1 hb1
      simp only [β'] at hb2; rw [if_pos e2] at hb2; simp at hb2; omega
    · obtain ⟨h1', hb1', _⟩ := old s1 c1 b e1 h1 hb1
      obtain ⟨h2', hb2', _⟩ := old s2 c2 b e2 h2 hb2
      exact hs.binj s1 s2 c1 c2 b h1' h2' hb1' hb2'
  · rintro b (hb | ⟨s, ds, h1, h2⟩)
    · exact .inl (.inl hb)
    · simp only [Fr.newBox, look] at h1
      simp only [β'] at h2
      split at h1
      · rename_i e; rw [if_pos e.symm] at h2; simp at h2; exact .inr (by omega)
      · rename_i e
        rw [if_neg (Ne.symm e)] at h2
        exact .inl (.inr ⟨s, ds, h1, h2⟩)

/-- A new object of cells on the heap. -/
theorem Mv.newCells (hs : StH ρ I H w) {cs : List AV} {arr : Array Value} {T : TypeId} (hv : VRs ρ I cs (arr.toList.take cs.length)) (hle : cs.length ≤ arr.size) (ho : ∀ u ∈ arr.toList, u.oneCell' = true) :
    Mv ρ I H w (ρ.set H.length 0 ⟨w.heap.size, 0, arr.size⟩) I (H ++ [.cells 0 cs]) (w.alloc (.cells arr T)) := by
  have hext : Ext ρ I (ρ.set H.length 0 ⟨w.heap.size, 0, arr.size⟩) I := Ext.set (hs.rho_none (Nat.le_refl _) 0)
  refine Mv.newObj hs (Gw.alloc w _) (Nat.le_refl _) ⟨fun v hv => ?_, ⟨w.heap.size, 0, arr.size⟩, by simp [Rho.set], arr, T, heap_alloc_new w _, rfl, by simpa using hle, fun i c hc => ?_⟩ (by simp [blkOf, Rho.set])
  · unfold Rho.set
    rw [if_neg (by omega)]
    exact hs.rho_none (Nat.le_refl _) v
  · obtain ⟨u, hu, hvr⟩ := hv.get hc
    have hi := (List.getElem?_eq_some_iff.1 hc).1
    rw [List.getElem?_take, if_pos hi, Array.getElem?_toList] at hu
    exact ⟨u, by simpa using hu, hvr.ext hext, ho u (by have := Array.mem_of_getElem? hu; simpa using this)⟩

end
end Go.Mx
