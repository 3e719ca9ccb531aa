/-
  The abstract machine: abstract values and heaps, what they say of the model's values and worlds, and how what they say is kept.
-/
import Derived.WalkKit
import Derived.Deep.LoopGhost
import Derived.Orders
namespace Go.Mx
open Go.RowKit
set_option linter.unusedVariables false

/-- Abstract values. 'v': a value that leads to no memory. 'row': a slice that nobody writes, its cells by value ('x': its capacity is its length). 'sl', 'ptr': a slice of, an address in, a live object. 'rp': an address in memory that nobody writes. -/
inductive AV where
  | v (x : Value)
  | row (x : Bool) (n : Nat) (cs : List AV)
  | sl (id ver sz off n : Nat)
  | ptr (id ver off : Nat)
  | rp (cs : List AV) (off : Nat)
  | mp (id : Nat)
  | it (id : Nat)
  | fn (f : Fn) (first captured : List AV)
  | agg (cs : List AV)
  | tup (vs : List AV)
  deriving Inhabited

/-- Objects of the abstract heap. -/
inductive Ob where
  | dead
  | cells (ver : Nat) (cs : List AV)
  | map (es : List (Nat × AV × AV)) (clock : Nat)
  | mapIter (map : Option Nat) (since : Nat) (seen : List Nat) (stepped : Nat)
  | strIter (s : ByteArray) (pos : Nat)
  | tab (g : Nat) (us : List Value)
  deriving Inhabited

abbrev Hp := List Ob

/-- Where an object's cells lie: block, first cell, the block's cells. -/
structure Loc where
  blk : Nat
  base : Nat
  size : Nat

abbrev Rho := Nat → Nat → Option Loc
abbrev Imm := Nat → Option (Array Value)

/-- Memory that nobody writes holds these values from this address on. -/
def Rd (I : Imm) (a : Addr) (us : List Value) : Prop :=
  a.spot = none ∧ (∀ u ∈ us, u.oneCell' = true) ∧ ∃ arr, I a.block = some arr ∧ ∀ i, i < us.length → arr[a.off + i]? = some (us.getD i undef)

inductive VR (ρ : Rho) (I : Imm) : AV → Value → Prop where
  | v (x : Value) : VR ρ I (.v x) x
  | row (x : Bool) (n : Nat) (cs : List AV) (us : List Value) (a : Option Addr) (cap : Nat) :
      us.length = cs.length → (∀ i c, cs[i]? = some c → VR ρ I c (us.getD i undef)) →
      ((n = 0 ∧ us = []) ∨ ∃ ad, a = some ad ∧ Rd I ad us) → (∀ ad, a = some ad → ad.spot = none ∨ cap = 0) → n ≤ cap → (x = true → cap = n) → VR ρ I (.row x n cs) (.slice a n cap)
  | sl (id ver sz off n : Nat) (l : Loc) (cap : Nat) :
      ρ id ver = some l → n ≤ cap → l.base + off + cap * sz ≤ l.size → cap ≤ maxLen → VR ρ I (.sl id ver sz off n) (.slice (some ⟨l.blk, l.base + off, none⟩) n cap)
  | ptr (id ver off : Nat) (l : Loc) : ρ id ver = some l → VR ρ I (.ptr id ver off) (.pointer (some ⟨l.blk, l.base + off, none⟩))
  | rp (cs : List AV) (us : List Value) (ad : Addr) (off : Nat) :
      us.length = cs.length → (∀ i c, cs[i]? = some c → VR ρ I c (us.getD i undef)) → Rd I ad us → VR ρ I (.rp cs off) (.pointer (some ⟨ad.block, ad.off + off, none⟩))
  | mp (id : Nat) (l : Loc) : ρ id 0 = some l → VR ρ I (.mp id) (.map (some l.blk))
  | it (id : Nat) (l : Loc) : ρ id 0 = some l → VR ρ I (.it id) (.pointer (some ⟨l.blk, 0, none⟩))
  | fn (f : Fn) (first captured : List AV) (us vs : List Value) :
      us.length = first.length → (∀ i c, first[i]? = some c → VR ρ I c (us.getD i undef)) →
      vs.length = captured.length → (∀ i c, captured[i]? = some c → VR ρ I c (vs.getD i undef)) → VR ρ I (.fn f first captured) (.func f us.toArray vs.toArray)
  | agg (cs : List AV) (us : List Value) : us.length = cs.length → (∀ i c, cs[i]? = some c → VR ρ I c (us.getD i undef)) → (∀ u ∈ us, u.oneCell' = true) → VR ρ I (.agg cs) (.agg us.toArray)
  | tup (cs : List AV) (us : List Value) : us.length = cs.length → (∀ i c, cs[i]? = some c → VR ρ I c (us.getD i undef)) → VR ρ I (.tup cs) (.tuple us.toArray)

/-- Values in line. -/
def VRs (ρ : Rho) (I : Imm) (cs : List AV) (us : List Value) : Prop := us.length = cs.length ∧ ∀ i c, cs[i]? = some c → VR ρ I c (us.getD i undef)

/-- More is known. -/
structure Ext (ρ : Rho) (I : Imm) (ρ' : Rho) (I' : Imm) : Prop where
  r : ∀ id ver l, ρ id ver = some l → ρ' id ver = some l
  i : ∀ b arr, I b = some arr → I' b = some arr

theorem Ext.refl (ρ : Rho) (I : Imm) : Ext ρ I ρ I := ⟨fun _ _ _ h => h, fun _ _ h => h⟩
theorem Ext.trans {ρ ρ' ρ'' : Rho} {I I' I'' : Imm} (h : Ext ρ I ρ' I') (k : Ext ρ' I' ρ'' I'') : Ext ρ I ρ'' I'' :=
  ⟨fun id ver l hl => k.r id ver l (h.r id ver l hl), fun b arr hb => k.i b arr (h.i b arr hb)⟩

theorem Rd.ext {I I' : Imm} {a : Addr} {us : List Value} (h : Rd I a us) (hi : ∀ b arr, I b = some arr → I' b = some arr) : Rd I' a us := by
  obtain ⟨h0, ho, arr, h1, h2⟩ := h
  exact ⟨h0, ho, arr, hi _ _ h1, h2⟩

theorem VR.ext {ρ ρ' : Rho} {I I' : Imm} (e : Ext ρ I ρ' I') {c : AV} {u : Value} (h : VR ρ I c u) : VR ρ' I' c u := by
  induction h with
  | v x => exact .v x
  | row x n cs us a cap h1 h2 h3 h4 h5 h6 ih =>
    refine .row x n cs us a cap h1 ih ?_ h4 h5 h6
    rcases h3 with h3 | ⟨ad, h3, h3'⟩
    · exact .inl h3
    · exact .inr ⟨ad, h3, h3'.ext e.i⟩
  | sl id ver sz off n l cap h1 h2 h3 h4 => exact .sl id ver sz off n l cap (e.r _ _ _ h1) h2 h3 h4
  | ptr id ver off l h1 => exact .ptr id ver off l (e.r _ _ _ h1)
  | rp cs us ad off h1 h2 h3 ih => exact .rp cs us ad off h1 ih (h3.ext e.i)
  | mp id l h1 => exact .mp id l (e.r _ _ _ h1)
  | it id l h1 => exact .it id l (e.r _ _ _ h1)
  | fn f first captured us vs h1 h2 h3 h4 ih1 ih2 => exact .fn f first captured us vs h1 ih1 h3 ih2
  | agg cs us h1 h2 h3 ih => exact .agg cs us h1 ih h3
  | tup cs us h1 h2 ih => exact .tup cs us h1 ih

theorem VRs.ext {ρ ρ' : Rho} {I I' : Imm} (e : Ext ρ I ρ' I') {cs : List AV} {us : List Value} (h : VRs ρ I cs us) : VRs ρ' I' cs us := ⟨h.1, fun i c hc => (h.2 i c hc).ext e⟩

/-- An object's block. -/
def blkOf (ρ : Rho) (id : Nat) : Ob → Option Nat
  | .dead => none
  | .cells ver _ => (ρ id ver).map (·.blk)
  | .tab _ _ => none
  | _ => (ρ id 0).map (·.blk)

/-- An entry list reads as this: stamps, keys, values. -/
def EntR (ρ : Rho) (I : Imm) (es : List (Nat × AV × AV)) (ms : List MapEntry) : Prop :=
  ms.length = es.length ∧ ∀ (i : Nat) (e : Nat × AV × AV), es[i]? = some e → ∃ m : MapEntry, ms[i]? = some m ∧ m.born = e.1 ∧ VR ρ I e.2.1 m.key ∧ VR ρ I e.2.2 m.val

def CellsR (ρ : Rho) (I : Imm) (w : World) (blk base size : Nat) (cs : List AV) : Prop :=
  ∃ arr T, w.heap[blk]? = some (.cells arr T (0, 0)) ∧ arr.size = size ∧ base + cs.length ≤ size ∧ ∀ i c, cs[i]? = some c → ∃ u, arr[base + i]? = some u ∧ VR ρ I c u ∧ u.oneCell' = true

/-- What an object says of the world. -/
def ObR (ρ : Rho) (I : Imm) (w : World) (id : Nat) : Ob → Prop
  | .dead => True
  | .cells ver cs => (∀ v', ver < v' → ρ id v' = none) ∧ ∃ l, ρ id ver = some l ∧ CellsR ρ I w l.blk l.base l.size cs
  | .map es clock => (∀ v', 0 < v' → ρ id v' = none) ∧ ∃ l ms, ρ id 0 = some l ∧ w.heap[l.blk]? = some (.map ms clock) ∧ EntR ρ I es ms.toList
  | .mapIter none since seen st => (∀ v', 0 < v' → ρ id v' = none) ∧ ∃ l, ρ id 0 = some l ∧ w.heap[l.blk]? = some (.mapIter none since seen.toArray st)
  | .mapIter (some m) since seen st => (∀ v', 0 < v' → ρ id v' = none) ∧ ∃ l lm, ρ id 0 = some l ∧ ρ m 0 = some lm ∧ w.heap[l.blk]? = some (.mapIter (some lm.blk) since seen.toArray st)
  | .strIter s pos => (∀ v', 0 < v' → ρ id v' = none) ∧ ∃ l, ρ id 0 = some l ∧ w.heap[l.blk]? = some (.stringIter s pos)
  | .tab g us => Rd I ⟨g, 0, none⟩ us

/-- What the heap says of the world. -/
structure StH (ρ : Rho) (I : Imm) (H : Hp) (w : World) : Prop where
  dom : ∀ id ver l, ρ id ver = some l → id < H.length
  imm : ∀ b arr, I b = some arr → ∃ T fz, w.heap[b]? = some (.cells arr T fz)
  obj : ∀ id o, H[id]? = some o → ObR ρ I w id o
  inj : ∀ id id' o o' b, H[id]? = some o → H[id']? = some o' → blkOf ρ id o = some b → blkOf ρ id' o' = some b → id = id'
  apart : ∀ id o b, H[id]? = some o → blkOf ρ id o = some b → I b = none

/-- The blocks that the heap owns. -/
def Live (ρ : Rho) (H : Hp) (b : Nat) : Prop := ∃ id o, H[id]? = some o ∧ blkOf ρ id o = some b

/-- What is not owned stays; what is owned was owned, or is new. -/
structure Fw (L : Nat → Prop) (w : World) (L' : Nat → Prop) (w' : World) : Prop where
  os : w'.os = w.os
  tape : w'.tape = w.tape
  output : w'.output = w.output
  size : w.heap.size ≤ w'.heap.size
  keep : ∀ b, b < w.heap.size → ¬ L b → w'.heap[b]? = w.heap[b]?
  new : ∀ b, L' b → L b ∨ w.heap.size ≤ b

theorem Fw.refl (L : Nat → Prop) (w : World) : Fw L w L w := ⟨rfl, rfl, rfl, Nat.le_refl _, fun _ _ _ => rfl, fun _ h => .inl h⟩
theorem Fw.trans {L L' L'' : Nat → Prop} {w w' w'' : World} (h : Fw L w L' w') (k : Fw L' w' L'' w'') : Fw L w L'' w'' where
  os := k.os.trans h.os
  tape := k.tape.trans h.tape
  output := k.output.trans h.output
  size := Nat.le_trans h.size k.size
  keep b hb hL := by
    rw [k.keep b (Nat.lt_of_lt_of_le hb h.size) ?_]
    · exact h.keep b hb hL
    · intro hL'
      rcases h.new b hL' with h1 | h1
      · exact hL h1
      · omega
  new b hb := by
    rcases k.new b hb with h1 | h1
    · exact h.new b h1
    · exact .inr (Nat.le_trans h.size h1)

theorem Fw.below {w w' : World} {L' : Nat → Prop} {L : Nat → Prop} (h : Fw L w L' w') (hL : ∀ b, b < w.heap.size → ¬ L b) : Below w.heap.size w w' :=
  ⟨h.os, h.tape, h.output, h.size, fun b hb => h.keep b hb (hL b hb)⟩

/-! ### Moving what is known from a world to a later one -/
theorem CellsR.move {ρ ρ' : Rho} {I I' : Imm} {w w' : World} {blk base size : Nat} {cs : List AV} (h : CellsR ρ I w blk base size cs) (e : Ext ρ I ρ' I') (hb : w'.heap[blk]? = w.heap[blk]?) : CellsR ρ' I' w' blk base size cs := by
  obtain ⟨arr, T, h1, h2, h3, h4⟩ := h
  refine ⟨arr, T, hb.trans h1, h2, h3, fun i c hc => ?_⟩
  obtain ⟨u, hu, hv, ho⟩ := h4 i c hc
  exact ⟨u, hu, hv.ext e, ho⟩

theorem EntR.ext {ρ ρ' : Rho} {I I' : Imm} {es : List (Nat × AV × AV)} {ms : List MapEntry} (h : EntR ρ I es ms) (e : Ext ρ I ρ' I') : EntR ρ' I' es ms := by
  refine ⟨h.1, fun i x hx => ?_⟩
  obtain ⟨m, h1, h0, h2, h3⟩ := h.2 i x hx
  exact ⟨m, h1, h0, h2.ext e, h3.ext e⟩

/-- What an object says stays, if its block does and nothing new is said of it. -/
theorem ObR.move {ρ ρ' : Rho} {I I' : Imm} {w w' : World} {id : Nat} {o : Ob} (h : ObR ρ I w id o) (e : Ext ρ I ρ' I') (hn : ∀ v, ρ id v = none → ρ' id v = none)
    (hb : ∀ b, blkOf ρ id o = some b → w'.heap[b]? = w.heap[b]?) : ObR ρ' I' w' id o := by
  cases o with
  | dead => trivial
  | cells ver cs =>
    obtain ⟨h1, l, h2, h3⟩ := h
    exact ⟨fun v hv => hn v (h1 v hv), l, e.r _ _ _ h2, h3.move e (hb _ (by simp [blkOf, h2]))⟩
  | map es clock =>
    obtain ⟨h1, l, ms, h2, h3, h4⟩ := h
    exact ⟨fun v hv => hn v (h1 v hv), l, ms, e.r _ _ _ h2, (hb _ (by simp [blkOf, h2])).trans h3, h4.ext e⟩
  | mapIter m since seen st =>
    cases m with
    | none =>
      obtain ⟨h1, l, h2, h3⟩ := h
      exact ⟨fun v hv => hn v (h1 v hv), l, e.r _ _ _ h2, (hb _ (by simp [blkOf, h2])).trans h3⟩
    | some m =>
      obtain ⟨h1, l, lm, h2, h3, h4⟩ := h
      exact ⟨fun v hv => hn v (h1 v hv), l, lm, e.r _ _ _ h2, e.r _ _ _ h3, (hb _ (by simp [blkOf, h2])).trans h4⟩
  | strIter s pos =>
    obtain ⟨h1, l, h2, h3⟩ := h
    exact ⟨fun v hv => hn v (h1 v hv), l, e.r _ _ _ h2, (hb _ (by simp [blkOf, h2])).trans h3⟩
  | tab g us => exact Rd.ext h e.i

/-- A live object's block is known by every later reading too. -/
theorem blkOf.ext {ρ ρ' : Rho} {I I' : Imm} {w : World} {id : Nat} {o : Ob} (h : ObR ρ I w id o) (e : Ext ρ I ρ' I') : blkOf ρ' id o = blkOf ρ id o := by
  cases o with
  | dead => rfl
  | cells ver cs => obtain ⟨_, l, h2, _⟩ := h; simp [blkOf, h2, e.r _ _ _ h2]
  | map es clock => obtain ⟨_, l, ms, h2, _⟩ := h; simp [blkOf, h2, e.r _ _ _ h2]
  | mapIter m since seen st => cases m <;> (obtain ⟨_, l, h2⟩ := h) <;> first | (obtain ⟨h2, _⟩ := h2; simp [blkOf, h2, e.r _ _ _ h2]) | (obtain ⟨lm, h2, _⟩ := h2; simp [blkOf, h2, e.r _ _ _ h2])
  | strIter s pos => obtain ⟨_, l, h2, _⟩ := h; simp [blkOf, h2, e.r _ _ _ h2]
  | tab g us => rfl

theorem ObR.lt {ρ : Rho} {I : Imm} {w : World} {id : Nat} {o : Ob} {b : Nat} (h : ObR ρ I w id o) (hb : blkOf ρ id o = some b) : b < w.heap.size := by
  have key : ∀ {x}, w.heap[b]? = some x → b < w.heap.size := fun hx => (Array.getElem?_eq_some_iff.1 hx).1
  cases o with
  | dead => simp [blkOf] at hb
  | cells ver cs =>
    obtain ⟨_, l, h2, arr, T, h3, _⟩ := h
    simp [blkOf, h2] at hb; subst hb; exact key h3
  | map es clock =>
    obtain ⟨_, l, ms, h2, h3, _⟩ := h
    simp [blkOf, h2] at hb; subst hb; exact key h3
  | mapIter m since seen st =>
    cases m with
    | none => obtain ⟨_, l, h2, h3⟩ := h; simp [blkOf, h2] at hb; subst hb; exact key h3
    | some m => obtain ⟨_, l, lm, h2, _, h3⟩ := h; simp [blkOf, h2] at hb; subst hb; exact key h3
  | strIter s pos => obtain ⟨_, l, h2, h3⟩ := h; simp [blkOf, h2] at hb; subst hb; exact key h3
  | tab g us => simp [blkOf] at hb

theorem Live.lt {ρ : Rho} {I : Imm} {H : Hp} {w : World} (hs : StH ρ I H w) {b : Nat} (h : Live ρ H b) : b < w.heap.size := by
  obtain ⟨id, o, h1, h2⟩ := h
  exact (hs.obj id o h1).lt h2

end Go.Mx
