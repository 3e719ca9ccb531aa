/-
  The abstract machine: how memory moves: what is laid new, what is written, and what that leaves of all that is known.
-/
import Derived.Test.YtoakdmkjlpjahaaDoorMxH
namespace Go.Mx
open Go.RowKit
set_option linter.unusedVariables false
set_option linter.unusedSimpArgs false

/-- Every block but one (or none) stays. -/
structure Gw (b0 : Option Nat) (w w' : World) : Prop where
  os : w'.os = w.os
  tape : w'.tape = w.tape
  output : w'.output = w.output
  size : w.heap.size ≤ w'.heap.size
  keep : ∀ b, b < w.heap.size → some b ≠ b0 → w'.heap[b]? = w.heap[b]?

theorem Gw.refl (w : World) : Gw none w w := ⟨rfl, rfl, rfl, Nat.le_refl _, fun _ _ _ => rfl⟩
theorem Gw.trans {b0 : Option Nat} {a b c : World} (h : Gw b0 a b) (k : Gw b0 b c) : Gw b0 a c :=
  ⟨k.os.trans h.os, k.tape.trans h.tape, k.output.trans h.output, Nat.le_trans h.size k.size, fun x hx hn => (k.keep x (Nat.lt_of_lt_of_le hx h.size) hn).trans (h.keep x hx hn)⟩
theorem Gw.weaken {b0 : Option Nat} {a b : World} (h : Gw none a b) : Gw b0 a b := ⟨h.os, h.tape, h.output, h.size, fun x hx _ => h.keep x hx (by simp)⟩
theorem Gw.alloc (w : World) (o : Obj) : Gw none w (w.alloc o) := ⟨rfl, rfl, rfl, by simp, fun b hb _ => Go.heap_alloc_old w o hb⟩
theorem Gw.drew (w : World) : Gw none w w.drew := ⟨rfl, rfl, rfl, Nat.le_refl _, fun _ _ _ => rfl⟩
theorem Gw.fresh {b0 : Nat} {a b : World} (h : Gw (some b0) a b) (hb : a.heap.size ≤ b0) : Gw none a b := ⟨h.os, h.tape, h.output, h.size, fun x hx _ => h.keep x hx (by simp; omega)⟩

def Rho.set (ρ : Rho) (id ver : Nat) (l : Loc) : Rho := fun i v => if i = id ∧ v = ver then some l else ρ i v
def Imm.set (I : Imm) (b : Nat) (arr : Array Value) : Imm := fun x => if x = b then some arr else I x

section
variable {P : Program} {N : Nat} {fr : Fr} {H : Hp} {ρ : Rho} {I : Imm} {β : Nat → Option Nat} {a : Act} {w w' : World}

theorem StH.imm_lt (hs : StH ρ I H w) {b : Nat} (h : I b ≠ none) : b < w.heap.size := by
  cases hi : I b with
  | none => exact absurd hi h
  | some arr => obtain ⟨T, fz, hb⟩ := hs.imm b arr hi; exact (Array.getElem?_eq_some_iff.1 hb).1
theorem StH.imm_none (hs : StH ρ I H w) {b : Nat} (h : w.heap.size ≤ b) : I b = none := by
  cases hi : I b with
  | none => rfl
  | some arr => have := hs.imm_lt (b := b) (by rw [hi]; simp); omega
theorem StH.rho_none (hs : StH ρ I H w) {id : Nat} (h : H.length ≤ id) (v : Nat) : ρ id v = none := by
  cases hi : ρ id v with
  | none => rfl
  | some l => have := hs.dom id v l hi; omega

theorem Ext.set {id ver : Nat} {l : Loc} (h : ρ id ver = none) : Ext ρ I (ρ.set id ver l) I := by
  refine ⟨fun i v l' hl => ?_, fun _ _ h => h⟩
  unfold Rho.set
  split
  · rename_i he; obtain ⟨rfl, rfl⟩ := he; rw [h] at hl; simp at hl
  · exact hl
theorem Ext.imm {b : Nat} {arr : Array Value} (h : I b = none) : Ext ρ I ρ (I.set b arr) := by
  refine ⟨fun _ _ _ h => h, fun x arr' hx => ?_⟩
  unfold Imm.set
  split
  · rename_i he; subst he; rw [h] at hx; simp at hx
  · exact hx

/-- Nothing that is known has changed. -/
theorem Mv.junk (hs : StH ρ I H w) (g : Gw none w w') : Mv ρ I H w ρ I H w' where
  ext := Ext.refl _ _
  fw := ⟨g.os, g.tape, g.output, g.size, fun b hb _ => g.keep b hb (by simp), fun b hb => .inl hb⟩
  imm b hb := .inl hb
  st := ⟨hs.dom, fun b arr hi => by
      obtain ⟨T, fz, hb⟩ := hs.imm b arr hi
      exact ⟨T, fz, (g.keep b (Array.getElem?_eq_some_iff.1 hb).1 (by simp)).trans hb⟩,
    fun id o ho => (hs.obj id o ho).move (Ext.refl _ _) (fun _ h => h) (fun b hb => g.keep b ((hs.obj id o ho).lt hb) (by simp)), hs.inj, hs.apart⟩

/-- A new block that nobody will write. -/
theorem Mv.newImm (hs : StH ρ I H w) (g : Gw none w w') {b : Nat} {arr : Array Value} {T : TypeId} {fz : Nat × Nat} (hb : w.heap.size ≤ b) (hc : w'.heap[b]? = some (.cells arr T fz)) : Mv ρ I H w ρ (I.set b arr) H w' where
  ext := Ext.imm (hs.imm_none hb)
  fw := ⟨g.os, g.tape, g.output, g.size, fun b hb _ => g.keep b hb (by simp), fun b hb => .inl hb⟩
  imm x hx := by
    unfold Imm.set at hx
    split at hx
    · rename_i he; subst he; exact .inr (.inr hb)
    · exact .inl hx
  st := ⟨hs.dom, fun x arr' hi => by
      unfold Imm.set at hi
      split at hi
      · rename_i he; subst he; simp at hi; subst hi; exact ⟨T, fz, hc⟩
      · obtain ⟨T, fz, hb⟩ := hs.imm x arr' hi
        exact ⟨T, fz, (g.keep x (Array.getElem?_eq_some_iff.1 hb).1 (by simp)).trans hb⟩,
    fun id o ho => (hs.obj id o ho).move (Ext.imm (hs.imm_none hb)) (fun _ h => h) (fun b hb => g.keep b ((hs.obj id o ho).lt hb) (by simp)), hs.inj,
    fun id o x ho hx => by
      unfold Imm.set
      split
      · rename_i he; subst he; have := (hs.obj id o ho).lt hx; omega
      · exact hs.apart id o x ho hx⟩

theorem blkOf_set_other {id id' ver : Nat} {l : Loc} {o : Ob} (h : id' ≠ id) : blkOf (ρ.set id ver l) id' o = blkOf ρ id' o := by
  cases o <;> simp [blkOf, Rho.set, h]

/-- A new object. -/
theorem Mv.newObj (hs : StH ρ I H w) (g : Gw none w w') {l : Loc} {ob : Ob} (hb : w.heap.size ≤ l.blk) (ho : ObR (ρ.set H.length 0 l) I w' H.length ob) (hk : blkOf (ρ.set H.length 0 l) H.length ob = some l.blk) :
    Mv ρ I H w (ρ.set H.length 0 l) I (H ++ [ob]) w' := by
  have hext : Ext ρ I (ρ.set H.length 0 l) I := Ext.set (hs.rho_none (Nat.le_refl _) 0)
  have hget : ∀ id o, (H ++ [ob])[id]? = some o → (id < H.length ∧ H[id]? = some o) ∨ (id = H.length ∧ o = ob) := by
    intro id o h
    rcases Nat.lt_or_ge id H.length with hlt | hge
    · rw [List.getElem?_append_left hlt] at h; exact .inl ⟨hlt, h⟩
    · rw [List.getElem?_append_right hge] at h
      have : id - H.length = 0 := by
        rcases Nat.eq_zero_or_pos (id - H.length) with h0 | h0
        · exact h0
        · rw [List.getElem?_eq_none (by simp; omega)] at h; simp at h
      rw [this] at h; simp at h
      exact .inr ⟨by omega, h.symm⟩
  have hblk : ∀ id o b, id < H.length → H[id]? = some o → blkOf (ρ.set H.length 0 l) id o = some b → blkOf ρ id o = some b ∧ b < w.heap.size := by
    intro id o b hlt h h'
    rw [blkOf_set_other (by omega)] at h'
    exact ⟨h', (hs.obj id o h).lt h'⟩
  refine ⟨hext, ⟨g.os, g.tape, g.output, g.size, fun b hb _ => g.keep b hb (by simp), ?_⟩, fun b hb => .inl hb, ?_, ?_, ?_, ?_, ?_⟩
  · rintro b ⟨id, o, h1, h2⟩
    rcases hget id o h1 with ⟨hlt, h⟩ | ⟨rfl, rfl⟩
    · exact .inl ⟨id, o, h, (hblk id o b hlt h h2).1⟩
    · rw [hk] at h2; simp at h2; subst h2; exact .inr hb
  · intro id v l' h
    unfold Rho.set at h
    split at h
    · rename_i he; simp; omega
    · have := hs.dom id v l' h; simp; omega
  · intro b arr hi
    obtain ⟨T, fz, hb'⟩ := hs.imm b arr hi
    exact ⟨T, fz, (g.keep b (Array.getElem?_eq_some_iff.1 hb').1 (by simp)).trans hb'⟩
  · intro id o h
    rcases hget id o h with ⟨hlt, h⟩ | ⟨rfl, rfl⟩
    · refine (hs.obj id o h).move hext (fun v hv => ?_) (fun b hb => g.keep b ((hs.obj id o h).lt hb) (by simp))
      unfold Rho.set
      rw [if_neg (by omega)]; exact hv
    · exact ho
  · intro id id' o o' b h h' hb1 hb2
    rcases hget id o h with ⟨hlt, hA⟩ | ⟨e1, e2⟩ <;> rcases hget id' o' h' with ⟨hlt', hB⟩ | ⟨e3, e4⟩
    · exact hs.inj id id' o o' b hA hB (hblk _ _ _ hlt hA hb1).1 (hblk _ _ _ hlt' hB hb2).1
    · have := (hblk _ _ _ hlt hA hb1).2
      rw [e3, e4, hk] at hb2; simp at hb2; omega
    · have := (hblk _ _ _ hlt' hB hb2).2
      rw [e1, e2, hk] at hb1; simp at hb1; omega
    · rw [e1, e3]
  · intro id o b h hb1
    rcases hget id o h with ⟨hlt, h⟩ | ⟨rfl, rfl⟩
    · exact hs.apart id o b h (hblk _ _ _ hlt h hb1).1
    · rw [hk] at hb1; simp at hb1; subst hb1
      exact hs.imm_none hb

/-- An object is written: its block, or a new one that takes its place; the reading may know one more version. -/
theorem Mv.write (hs : StH ρ I H w) {id : Nat} {o ob : Ob} {b0 : Nat} (hid : H[id]? = some o) (hb0 : blkOf ρ id o = some b0) (g : Gw (some b0) w w')
    {ρ' : Rho} (hext : Ext ρ I ρ' I) (hother : ∀ id' v, id' ≠ id → ρ' id' v = ρ id' v) {b1 : Nat} (hb1 : b1 = b0 ∨ w.heap.size ≤ b1)
    (ho : ObR ρ' I w' id ob) (hk : blkOf ρ' id ob = some b1) : Mv ρ I H w ρ' I (H.set id ob) w' := by
  have hlt : id < H.length := (List.getElem?_eq_some_iff.1 hid).1
  have hget : ∀ id' o', (H.set id ob)[id']? = some o' → (id' ≠ id ∧ H[id']? = some o') ∨ (id' = id ∧ o' = ob) := by
    intro id' o' h
    by_cases he : id' = id
    · subst he
      rw [List.getElem?_set_self hlt] at h
      simp at h; exact .inr ⟨rfl, h.symm⟩
    · rw [List.getElem?_set_ne (Ne.symm he)] at h; exact .inl ⟨he, h⟩
  have hblk : ∀ id' o' b, id' ≠ id → blkOf ρ' id' o' = some b → blkOf ρ id' o' = some b := by
    intro id' o' b hne h
    cases o' <;> simp [blkOf] at h ⊢ <;> simpa [hother _ _ hne] using h
  refine ⟨hext, ⟨g.os, g.tape, g.output, g.size, fun b hb hL => g.keep b hb (fun e => hL ⟨id, o, hid, by rw [hb0]; exact e.symm⟩), ?_⟩, fun b hb => .inl hb, ?_, ?_, ?_, ?_, ?_⟩
  · rintro b ⟨id', o', h1, h2⟩
    rcases hget id' o' h1 with ⟨hne, h⟩ | ⟨rfl, rfl⟩
    · exact .inl ⟨id', o', h, hblk _ _ _ hne h2⟩
    · rw [hk] at h2; simp at h2; subst h2
      rcases hb1 with rfl | hb1
      · exact .inl ⟨id', o, hid, hb0⟩
      · exact .inr hb1
  · intro id' v l h
    by_cases he : id' = id
    · subst he; simpa using hlt
    · rw [hother _ _ he] at h; simpa using hs.dom id' v l h
  · intro b arr hi
    obtain ⟨T, fz, hb'⟩ := hs.imm b arr hi
    refine ⟨T, fz, (g.keep b (Array.getElem?_eq_some_iff.1 hb').1 (fun e => ?_)).trans hb'⟩
    simp at e; subst e
    have := hs.apart id o b hid hb0
    rw [this] at hi; simp at hi
  · intro id' o' h
    rcases hget id' o' h with ⟨hne, h⟩ | ⟨rfl, rfl⟩
    · refine (hs.obj id' o' h).move hext (fun v hv => by rw [hother _ _ hne]; exact hv) (fun b hb => g.keep b ((hs.obj id' o' h).lt hb) (fun e => ?_))
      simp at e; subst e
      exact hne (hs.inj id' id o' o b h hid hb hb0)
    · exact ho
  · intro id1 id2 o1 o2 b h1 h2 hx1 hx2
    have hnew : ∀ id' o', id' ≠ id → H[id']? = some o' → blkOf ρ id' o' = some b1 → False := by
      intro id' o' hne h hb
      rcases hb1 with rfl | hb1
      · exact hne (hs.inj id' id o' o _ h hid hb hb0)
      · have := (hs.obj id' o' h).lt hb; omega
    rcases hget id1 o1 h1 with ⟨hne1, hA⟩ | ⟨e1, e2⟩ <;> rcases hget id2 o2 h2 with ⟨hne2, hB⟩ | ⟨e3, e4⟩
    · exact hs.inj id1 id2 o1 o2 b hA hB (hblk _ _ _ hne1 hx1) (hblk _ _ _ hne2 hx2)
    · rw [e3, e4, hk] at hx2; simp at hx2; subst hx2
      exact (hnew id1 o1 hne1 hA (hblk _ _ _ hne1 hx1)).elim
    · rw [e1, e2, hk] at hx1; simp at hx1; subst hx1
      exact (hnew id2 o2 hne2 hB (hblk _ _ _ hne2 hx2)).elim
    · rw [e1, e3]
  · intro id' o' b h hx
    rcases hget id' o' h with ⟨hne, h⟩ | ⟨rfl, rfl⟩
    · exact hs.apart id' o' b h (hblk _ _ _ hne hx)
    · rw [hk] at hx; simp at hx; subst hx
      rcases hb1 with rfl | hb1
      · exact hs.apart id' o _ hid hb0
      · exact hs.imm_none hb1

/-- An object is given up: nobody writes its block any more. -/
theorem Mv.freeze (hs : StH ρ I H w) {id ver : Nat} {cs : List AV} {l : Loc} (hid : H[id]? = some (.cells ver cs)) (hl : ρ id ver = some l) (g : Gw (some l.blk) w w') {arr : Array Value} {T : TypeId} {fz : Nat × Nat}
    (hc : w'.heap[l.blk]? = some (.cells arr T fz)) : Mv ρ I H w ρ (I.set l.blk arr) (H.set id .dead) w' := by
  have hlt : id < H.length := (List.getElem?_eq_some_iff.1 hid).1
  have hb0 : blkOf ρ id (.cells ver cs) = some l.blk := by simp [blkOf, hl]
  have hI : I l.blk = none := hs.apart id _ _ hid hb0
  have hget : ∀ id' o', (H.set id Ob.dead)[id']? = some o' → (id' ≠ id ∧ H[id']? = some o') ∨ (id' = id ∧ o' = .dead) := by
    intro id' o' h
    by_cases he : id' = id
    · subst he
      rw [List.getElem?_set_self hlt] at h
      simp at h; exact .inr ⟨rfl, h.symm⟩
    · rw [List.getElem?_set_ne (Ne.symm he)] at h; exact .inl ⟨he, h⟩
  have hother : ∀ id' o' b, id' ≠ id → H[id']? = some o' → blkOf ρ id' o' = some b → b ≠ l.blk := by
    intro id' o' b hne h hb e
    subst e
    exact hne (hs.inj id' id _ _ _ h hid hb hb0)
  refine ⟨Ext.imm hI, ⟨g.os, g.tape, g.output, g.size, fun b hb hL => g.keep b hb (fun e => hL ⟨id, _, hid, by rw [hb0]; exact e.symm⟩), ?_⟩, ?_, ?_, ?_, ?_, ?_, ?_⟩
  · rintro b ⟨id', o', h1, h2⟩
    rcases hget id' o' h1 with ⟨hne, h⟩ | ⟨rfl, rfl⟩
    · exact .inl ⟨id', o', h, h2⟩
    · simp [blkOf] at h2
  · intro b hb
    unfold Imm.set at hb
    split at hb
    · rename_i e; subst e; exact .inr (.inl ⟨id, _, hid, hb0⟩)
    · exact .inl hb
  · intro id' v l' h; simpa using hs.dom id' v l' h
  · intro b arr' hi
    unfold Imm.set at hi
    split at hi
    · rename_i e; subst e; simp at hi; subst hi; exact ⟨T, fz, hc⟩
    · rename_i e
      obtain ⟨T', fz', hb'⟩ := hs.imm b arr' hi
      exact ⟨T', fz', (g.keep b (Array.getElem?_eq_some_iff.1 hb').1 (fun e' => e (by simpa using e'))).trans hb'⟩
  · intro id' o' h
    rcases hget id' o' h with ⟨hne, h⟩ | ⟨rfl, rfl⟩
    · exact (hs.obj id' o' h).move (Ext.imm hI) (fun _ h => h) (fun b hb => g.keep b ((hs.obj id' o' h).lt hb) (fun e => hother id' o' b hne h hb (by simpa using e)))
    · trivial
  · intro id1 id2 o1 o2 b h1 h2 hx1 hx2
    rcases hget id1 o1 h1 with ⟨hne1, hA⟩ | ⟨e1, e2⟩ <;> rcases hget id2 o2 h2 with ⟨hne2, hB⟩ | ⟨e3, e4⟩
    · exact hs.inj id1 id2 o1 o2 b hA hB hx1 hx2
    · subst e4; simp [blkOf] at hx2
    · subst e2; simp [blkOf] at hx1
    · rw [e1, e3]
  · intro id' o' b h hx
    rcases hget id' o' h with ⟨hne, h⟩ | ⟨rfl, rfl⟩
    · unfold Imm.set
      rw [if_neg (hother id' o' b hne h hx)]
      exact hs.apart id' o' b h hx
    · simp [blkOf] at hx

theorem Mv.refl (hs : StH ρ I H w) : Mv ρ I H w ρ I H w := Mv.junk hs (Gw.refl w)
theorem Mv.trans {ρ1 ρ2 : Rho} {I1 I2 : Imm} {H1 H2 : Hp} {w1 w2 : World} (h : Mv ρ I H w ρ1 I1 H1 w1) (k : Mv ρ1 I1 H1 w1 ρ2 I2 H2 w2) : Mv ρ I H w ρ2 I2 H2 w2 := by
  refine ⟨h.ext.trans k.ext, h.fw.trans k.fw, fun b hb => ?_, k.st⟩
  rcases k.imm b hb with h1 | h1 | h1
  · exact h.imm b h1
  · rcases h.fw.new b h1 with h2 | h2
    · exact .inr (.inl h2)
    · exact .inr (.inr h2)
  · exact .inr (.inr (Nat.le_trans h.fw.size h1))

/-- What a frame says goes on, where its heap moves. -/
theorem Sim.move (hs : Sim N ρ I β fr H a w) {ρ' : Rho} {I' : Imm} {H' : Hp} (m : Mv ρ I H w ρ' I' H' w') :
    Sim N ρ' I' β fr H' a w' ∧ MvF (OwnF ρ β fr H) ρ I w (OwnF ρ' β fr H') ρ' I' w' := by
  have hbox : ∀ t cs, look t fr.boxes = some cs → ∃ b, β t = some b ∧ CellsR ρ' I' w' b 0 cs.length cs ∧ ¬ Live ρ' H' b ∧ I' b = none := by
    intro t cs h
    obtain ⟨b, h1, h2, h3, h4⟩ := hs.box t cs h
    have hlt : b < w.heap.size := by obtain ⟨arr, T, hb, _⟩ := h2; exact (Array.getElem?_eq_some_iff.1 hb).1
    refine ⟨b, h1, h2.move m.ext (m.fw.keep b hlt h3), fun hl => ?_, ?_⟩
    · rcases m.fw.new b hl with h5 | h5
      · exact h3 h5
      · omega
    · cases hi : I' b with
      | none => rfl
      | some arr =>
        rcases m.imm b (by rw [hi]; simp) with h5 | h5 | h5
        · exact absurd h4 h5
        · exact absurd h5 h3
        · omega
  refine ⟨⟨m.st, hs.defers, hs.size, fun t x hx => ?_, hbox, hs.binj⟩, m.ext, ⟨m.fw.os, m.fw.tape, m.fw.output, m.fw.size, fun b hb hL => m.fw.keep b hb (fun h => hL (.inl h)), ?_⟩, fun b hb => ?_⟩
  · have := hs.slot t x hx
    cases x with
    | av x => exact VR.ext m.ext this
    | bp t off => exact this
    | un => trivial
  · rintro b (hb | hb)
    · rcases m.fw.new b hb with h | h
      · exact .inl (.inl h)
      · exact .inr h
    · exact .inl (.inr hb)
  · rcases m.imm b hb with h | h | h
    · exact .inl h
    · exact .inr (.inl (.inl h))
    · exact .inr (.inr h)

end
end Go.Mx
