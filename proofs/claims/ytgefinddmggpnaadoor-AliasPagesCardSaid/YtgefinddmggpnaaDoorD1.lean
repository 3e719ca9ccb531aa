import Derived.WalkKit
import Derived.Deep.LoopGhost
import Derived.Orders
import Derived.MapKept
import Derived.DeepKeys5
import Derived.ChangeKeysEq
import Derived.Deep.MidRow
import Derived.Deep.AppendSrc
namespace Go.Md
open Go.RowKit
set_option linter.unusedVariables false

inductive AV where
  | v (x : Value)
  | row (x : Bool) (n : Nat) (cs : List AV)
  | sl (id ver sz off n : Nat)
  | ptr (id ver off : Nat)
  | rp (cs : List AV) (off : Nat)
  | mp (id : Nat)
  | it (id : Nat)
  | fn (f : Fn) (first captured : List AV)
  | agg (cs : List AV)
  | tup (vs : List AV)
  deriving Inhabited

inductive Ob where
  | dead
  | cells (ver : Nat) (cs : List AV)
  | map (es : List (Nat × AV × AV)) (clock : Nat)
  | mapIter (map : Option Nat) (since : Nat) (seen : List Nat) (stepped : Nat)
  | strIter (s : ByteArray) (pos : Nat)
  deriving Inhabited

abbrev Hp := List Ob

structure Loc where
  blk : Nat
  base : Nat
  size : Nat

abbrev Rho := Nat → Nat → Option Loc
abbrev Imm := Nat → Option (Array Value)

def Rd (I : Imm) (a : Addr) (us : List Value) : Prop :=
  a.spot = none ∧ (∀ u ∈ us, u.oneCell' = true) ∧ ∃ arr, I a.block = some arr ∧ ∀ i, i < us.length → arr[a.off + i]? = some (us.getD i undef)

inductive VR (ρ : Rho) (I : Imm) : AV → Value → Prop where
  | v (x : Value) : VR ρ I (.v x) x
  | row (x : Bool) (n : Nat) (cs : List AV) (us : List Value) (a : Option Addr) (cap : Nat) :
      us.length = cs.length → (∀ i c, cs[i]? = some c → VR ρ I c (us.getD i undef)) →
      ((n = 0 ∧ us = []) ∨ ∃ ad, a = some ad ∧ Rd I ad us) → (∀ ad, a = some ad → ad.spot = none ∨ cap = 0) → n ≤ cap → (x = true → cap = n) → VR ρ I (.row x n cs) (.slice a n cap)
  | sl (id ver sz off n : Nat) (l : Loc) (cap : Nat) :
      ρ id ver = some l → n ≤ cap → l.base + off + cap * sz ≤ l.size → VR ρ I (.sl id ver sz off n) (.slice (some ⟨l.blk, l.base + off, none⟩) n cap)
  | ptr (id ver off : Nat) (l : Loc) : ρ id ver = some l → VR ρ I (.ptr id ver off) (.pointer (some ⟨l.blk, l.base + off, none⟩))
  | rp (cs : List AV) (us : List Value) (ad : Addr) (off : Nat) :
      us.length = cs.length → (∀ i c, cs[i]? = some c → VR ρ I c (us.getD i undef)) → Rd I ad us → VR ρ I (.rp cs off) (.pointer (some ⟨ad.block, ad.off + off, none⟩))
  | mp (id : Nat) (l : Loc) : ρ id 0 = some l → VR ρ I (.mp id) (.map (some l.blk))
  | it (id : Nat) (l : Loc) : ρ id 0 = some l → VR ρ I (.it id) (.pointer (some ⟨l.blk, 0, none⟩))
  | fn (f : Fn) (first captured : List AV) (us vs : List Value) :
      us.length = first.length → (∀ i c, first[i]? = some c → VR ρ I c (us.getD i undef)) →
      vs.length = captured.length → (∀ i c, captured[i]? = some c → VR ρ I c (vs.getD i undef)) → VR ρ I (.fn f first captured) (.func f us.toArray vs.toArray)
  | agg (cs : List AV) (us : List Value) : us.length = cs.length → (∀ i c, cs[i]? = some c → VR ρ I c (us.getD i undef)) → (∀ u ∈ us, u.oneCell' = true) → VR ρ I (.agg cs) (.agg us.toArray)
  | tup (cs : List AV) (us : List Value) : us.length = cs.length → (∀ i c, cs[i]? = some c → VR ρ I c (us.getD i undef)) → VR ρ I (.tup cs) (.tuple us.toArray)

def VRs (ρ : Rho) (I : Imm) (cs : List AV) (us : List Value) : Prop := us.length = cs.length ∧ ∀ i c, cs[i]? = some c → VR ρ I c (us.getD i undef)

structure Ext (ρ : Rho) (I : Imm) (ρ' : Rho) (I' : Imm) : Prop where
  r : ∀ id ver l, ρ id ver = some l → ρ' id ver = some l
  i : ∀ b arr, I b = some arr → I' b = some arr

theorem Ext.refl (ρ : Rho) (I : Imm) : Ext ρ I ρ I := ⟨fun _ _ _ h => h, fun _ _ h => h⟩
theorem Ext.trans {ρ ρ' ρ'' : Rho} {I I' I'' : Imm} (h : Ext ρ I ρ' I') (k : Ext ρ' I' ρ'' I'') : Ext ρ I ρ'' I'' :=
  ⟨fun id ver l hl => k.r id ver l (h.r id ver l hl), fun b arr hb => k.i b arr (h.i b arr hb)⟩

theorem Rd.ext {I I' : Imm} {a : Addr} {us : List Value} (h : Rd I a us) (hi : ∀ b arr, I b = some arr → I' b = some arr) : Rd I' a us := by
  obtain ⟨h0, ho, arr, h1, h2⟩ := h
  exact ⟨h0, ho, arr, hi _ _ h1, h2⟩

theorem VR.ext {ρ ρ' : Rho} {I I' : Imm} (e : Ext ρ I ρ' I') {c : AV} {u : Value} (h : VR ρ I c u) : VR ρ' I' c u := by
  induction h with
  | v x => exact .v x
  | row x n cs us a cap h1 h2 h3 h4 h5 h6 ih =>
    refine .row x n cs us a cap h1 ih ?_ h4 h5 h6
    rcases h3 with h3 | ⟨ad, h3, h3'⟩
    · exact .inl h3
    · exact .inr ⟨ad, h3, h3'.ext e.i⟩
  | sl id ver sz off n l cap h1 h2 h3 => exact .sl id ver sz off n l cap (e.r _ _ _ h1) h2 h3
  | ptr id ver off l h1 => exact .ptr id ver off l (e.r _ _ _ h1)
  | rp cs us ad off h1 h2 h3 ih => exact .rp cs us ad off h1 ih (h3.ext e.i)
  | mp id l h1 => exact .mp id l (e.r _ _ _ h1)
  | it id l h1 => exact .it id l (e.r _ _ _ h1)
  | fn f first captured us vs h1 h2 h3 h4 ih1 ih2 => exact .fn f first captured us vs h1 ih1 h3 ih2
  | agg cs us h1 h2 h3 ih => exact .agg cs us h1 ih h3
  | tup cs us h1 h2 ih => exact .tup cs us h1 ih

theorem VRs.ext {ρ ρ' : Rho} {I I' : Imm} (e : Ext ρ I ρ' I') {cs : List AV} {us : List Value} (h : VRs ρ I cs us) : VRs ρ' I' cs us := ⟨h.1, fun i c hc => (h.2 i c hc).ext e⟩

def blkOf (ρ : Rho) (id : Nat) : Ob → Option Nat
  | .dead => none
  | .cells ver _ => (ρ id ver).map (·.blk)
  | _ => (ρ id 0).map (·.blk)

def EntR (ρ : Rho) (I : Imm) (es : List (Nat × AV × AV)) (ms : List MapEntry) : Prop :=
  ms.length = es.length ∧ ∀ (i : Nat) (e : Nat × AV × AV), es[i]? = some e → ∃ m : MapEntry, ms[i]? = some m ∧ m.born = e.1 ∧ VR ρ I e.2.1 m.key ∧ VR ρ I e.2.2 m.val

def CellsR (ρ : Rho) (I : Imm) (w : World) (blk base size : Nat) (cs : List AV) : Prop :=
  ∃ arr T, w.heap[blk]? = some (.cells arr T (0, 0)) ∧ arr.size = size ∧ base + cs.length ≤ size ∧ ∀ i c, cs[i]? = some c → ∃ u, arr[base + i]? = some u ∧ VR ρ I c u ∧ u.oneCell' = true

def ObR (ρ : Rho) (I : Imm) (w : World) (id : Nat) : Ob → Prop
  | .dead => True
  | .cells ver cs => (∀ v', ver < v' → ρ id v' = none) ∧ ∃ l, ρ id ver = some l ∧ CellsR ρ I w l.blk l.base l.size cs
  | .map es clock => (∀ v', 0 < v' → ρ id v' = none) ∧ ∃ l ms, ρ id 0 = some l ∧ w.heap[l.blk]? = some (.map ms clock) ∧ EntR ρ I es ms.toList
  | .mapIter none since seen st => (∀ v', 0 < v' → ρ id v' = none) ∧ ∃ l, ρ id 0 = some l ∧ w.heap[l.blk]? = some (.mapIter none since seen.toArray st)
  | .mapIter (some m) since seen st => (∀ v', 0 < v' → ρ id v' = none) ∧ ∃ l lm, ρ id 0 = some l ∧ ρ m 0 = some lm ∧ w.heap[l.blk]? = some (.mapIter (some lm.blk) since seen.toArray st)
  | .strIter s pos => (∀ v', 0 < v' → ρ id v' = none) ∧ ∃ l, ρ id 0 = some l ∧ w.heap[l.blk]? = some (.stringIter s pos)

structure StH (ρ : Rho) (I : Imm) (H : Hp) (w : World) : Prop where
  dom : ∀ id ver l, ρ id ver = some l → id < H.length
  imm : ∀ b arr, I b = some arr → ∃ T fz, w.heap[b]? = some (.cells arr T fz)
  obj : ∀ id o, H[id]? = some o → ObR ρ I w id o
  inj : ∀ id id' o o' b, H[id]? = some o → H[id']? = some o' → blkOf ρ id o = some b → blkOf ρ id' o' = some b → id = id'
  apart : ∀ id o b, H[id]? = some o → blkOf ρ id o = some b → I b = none

def Live (ρ : Rho) (H : Hp) (b : Nat) : Prop := ∃ id o, H[id]? = some o ∧ blkOf ρ id o = some b

structure Fw (L : Nat → Prop) (w : World) (L' : Nat → Prop) (w' : World) : Prop where
  os : w'.os = w.os
  tape : w'.tape = w.tape
  output : w'.output = w.output
  dr : w.drawn ≤ w'.drawn
  size : w.heap.size ≤ w'.heap.size
  keep : ∀ b, b < w.heap.size → ¬ L b → w'.heap[b]? = w.heap[b]?
  new : ∀ b, L' b → L b ∨ w.heap.size ≤ b

theorem Fw.refl (L : Nat → Prop) (w : World) : Fw L w L w := ⟨rfl, rfl, rfl, Nat.le_refl _, Nat.le_refl _, fun _ _ _ => rfl, fun _ h => .inl h⟩
theorem Fw.trans {L L' L'' : Nat → Prop} {w w' w'' : World} (h : Fw L w L' w') (k : Fw L' w' L'' w'') : Fw L w L'' w'' where
  os := k.os.trans h.os
  tape := k.tape.trans h.tape
  output := k.output.trans h.output
  dr := Nat.le_trans h.dr k.dr
  size := Nat.le_trans h.size k.size
  keep b hb hL := by
    rw [k.keep b (Nat.lt_of_lt_of_le hb h.size) ?_]
    · exact h.keep b hb hL
    · intro hL'
      rcases h.new b hL' with h1 | h1
      · exact hL h1
      · omega
  new b hb := by
    rcases k.new b hb with h1 | h1
    · exact h.new b h1
    · exact .inr (Nat.le_trans h.size h1)

theorem Fw.below {w w' : World} {L' : Nat → Prop} {L : Nat → Prop} (h : Fw L w L' w') (hL : ∀ b, b < w.heap.size → ¬ L b) : Below w.heap.size w w' :=
  ⟨h.os, h.tape, h.output, h.size, fun b hb => h.keep b hb (hL b hb)⟩

theorem CellsR.move {ρ ρ' : Rho} {I I' : Imm} {w w' : World} {blk base size : Nat} {cs : List AV} (h : CellsR ρ I w blk base size cs) (e : Ext ρ I ρ' I') (hb : w'.heap[blk]? = w.heap[blk]?) : CellsR ρ' I' w' blk base size cs := by
  obtain ⟨arr, T, h1, h2, h3, h4⟩ := h
  refine ⟨arr, T, hb.trans h1, h2, h3, fun i c hc => ?_⟩
  obtain ⟨u, hu, hv, ho⟩ := h4 i c hc
  exact ⟨u, hu, hv.ext e, ho⟩

theorem EntR.ext {ρ ρ' : Rho} {I I' : Imm} {es : List (Nat × AV × AV)} {ms : List MapEntry} (h : EntR ρ I es ms) (e : Ext ρ I ρ' I') : EntR ρ' I' es ms := by
  refine ⟨h.1, fun i x hx => ?_⟩
  obtain ⟨m, h1, h0, h2, h3⟩ := h.2 i x hx
  exact ⟨m, h1, h0, h2.ext e, h3.ext e⟩

theorem ObR.move {ρ ρ' : Rho} {I I' : Imm} {w w' : World} {id : Nat} {o : Ob} (h : ObR ρ I w id o) (e : Ext ρ I ρ' I') (hn : ∀ v, ρ id v = none → ρ' id v = none)
    (hb : ∀ b, blkOf ρ id o = some b → w'.heap[b]? = w.heap[b]?) : ObR ρ' I' w' id o := by
  cases o with
  | dead => trivial
  | cells ver cs =>
    obtain ⟨h1, l, h2, h3⟩ := h
    exact ⟨fun v hv => hn v (h1 v hv), l, e.r _ _ _ h2, h3.move e (hb _ (by simp [blkOf, h2]))⟩
  | map es clock =>
    obtain ⟨h1, l, ms, h2, h3, h4⟩ := h
    exact ⟨fun v hv => hn v (h1 v hv), l, ms, e.r _ _ _ h2, (hb _ (by simp [blkOf, h2])).trans h3, h4.ext e⟩
  | mapIter m since seen st =>
    cases m with
    | none =>
      obtain ⟨h1, l, h2, h3⟩ := h
      exact ⟨fun v hv => hn v (h1 v hv), l, e.r _ _ _ h2, (hb _ (by simp [blkOf, h2])).trans h3⟩
    | some m =>
      obtain ⟨h1, l, lm, h2, h3, h4⟩ := h
      exact ⟨fun v hv => hn v (h1 v hv), l, lm, e.r _ _ _ h2, e.r _ _ _ h3, (hb _ (by simp [blkOf, h2])).trans h4⟩
  | strIter s pos =>
    obtain ⟨h1, l, h2, h3⟩ := h
    exact ⟨fun v hv => hn v (h1 v hv), l, e.r _ _ _ h2, (hb _ (by simp [blkOf, h2])).trans h3⟩

theorem blkOf.ext {ρ ρ' : Rho} {I I' : Imm} {w : World} {id : Nat} {o : Ob} (h : ObR ρ I w id o) (e : Ext ρ I ρ' I') : blkOf ρ' id o = blkOf ρ id o := by
  cases o with
  | dead => rfl
  | cells ver cs => obtain ⟨_, l, h2, _⟩ := h; simp [blkOf, h2, e.r _ _ _ h2]
  | map es clock => obtain ⟨_, l, ms, h2, _⟩ := h; simp [blkOf, h2, e.r _ _ _ h2]
  | mapIter m since seen st => cases m <;> (obtain ⟨_, l, h2⟩ := h) <;> first | (obtain ⟨h2, _⟩ := h2; simp [blkOf, h2, e.r _ _ _ h2]) | (obtain ⟨lm, h2, _⟩ := h2; simp [blkOf, h2, e.r _ _ _ h2])
  | strIter s pos => obtain ⟨_, l, h2, _⟩ := h; simp [blkOf, h2, e.r _ _ _ h2]

theorem ObR.lt {ρ : Rho} {I : Imm} {w : World} {id : Nat} {o : Ob} {b : Nat} (h : ObR ρ I w id o) (hb : blkOf ρ id o = some b) : b < w.heap.size := by
  have key : ∀ {x}, w.heap[b]? = some x → b < w.heap.size := fun hx => (Array.getElem?_eq_some_iff.1 hx).1
  cases o with
  | dead => simp [blkOf] at hb
  | cells ver cs =>
    obtain ⟨_, l, h2, arr, T, h3, _⟩ := h
    simp [blkOf, h2] at hb; subst hb; exact key h3
  | map es clock =>
    obtain ⟨_, l, ms, h2, h3, _⟩ := h
    simp [blkOf, h2] at hb; subst hb; exact key h3
  | mapIter m since seen st =>
    cases m with
    | none => obtain ⟨_, l, h2, h3⟩ := h; simp [blkOf, h2] at hb; subst hb; exact key h3
    | some m => obtain ⟨_, l, lm, h2, _, h3⟩ := h; simp [blkOf, h2] at hb; subst hb; exact key h3
  | strIter s pos => obtain ⟨_, l, h2, h3⟩ := h; simp [blkOf, h2] at hb; subst hb; exact key h3

theorem Live.lt {ρ : Rho} {I : Imm} {H : Hp} {w : World} (hs : StH ρ I H w) {b : Nat} (h : Live ρ H b) : b < w.heap.size := by
  obtain ⟨id, o, h1, h2⟩ := h
  exact (hs.obj id o h1).lt h2

end Go.Md

namespace Go.Md
open Go.RowKit
set_option linter.unusedVariables false

inductive SV where
  | av (x : AV)
  | bp (t off : Nat)
  | un

structure Fr where
  slots : List (Nat × SV)
  boxes : List (Nat × List AV)

def look {α : Type} (t : Nat) : List (Nat × α) → Option α
  | [] => none
  | (s, x) :: r => if s = t then some x else look t r

def SVR (ρ : Rho) (I : Imm) (β : Nat → Option Nat) : SV → Value → Prop
  | .av x, u => VR ρ I x u
  | .bp t off, u => ∃ b, β t = some b ∧ u = .pointer (some ⟨b, off, none⟩)
  | .un, _ => True

structure Sim (N : Nat) (ρ : Rho) (I : Imm) (β : Nat → Option Nat) (fr : Fr) (H : Hp) (a : Act) (w : World) : Prop where
  heap : StH ρ I H w
  defers : a.defers = []
  size : a.tmps.size = N
  slot : ∀ t x, look t fr.slots = some x → SVR ρ I β x (a.tmps.getD t undef)
  box : ∀ t cs, look t fr.boxes = some cs → ∃ b, β t = some b ∧ CellsR ρ I w b 0 cs.length cs ∧ ¬ Live ρ H b ∧ I b = none
  binj : ∀ t t' cs cs' b, look t fr.boxes = some cs → look t' fr.boxes = some cs' → β t = some b → β t' = some b → t = t'

def OwnF (ρ : Rho) (β : Nat → Option Nat) (fr : Fr) (H : Hp) (b : Nat) : Prop := Live ρ H b ∨ ∃ t cs, look t fr.boxes = some cs ∧ β t = some b

structure Mv (ρ : Rho) (I : Imm) (H : Hp) (w : World) (ρ' : Rho) (I' : Imm) (H' : Hp) (w' : World) : Prop where
  ext : Ext ρ I ρ' I'
  fw : Fw (Live ρ H) w (Live ρ' H') w'
  imm : ∀ b, I' b ≠ none → I b ≠ none ∨ Live ρ H b ∨ w.heap.size ≤ b
  st : StH ρ' I' H' w'

structure MvF (L : Nat → Prop) (ρ : Rho) (I : Imm) (w : World) (L' : Nat → Prop) (ρ' : Rho) (I' : Imm) (w' : World) : Prop where
  ext : Ext ρ I ρ' I'
  fw : Fw L w L' w'
  imm : ∀ b, I' b ≠ none → I b ≠ none ∨ L b ∨ w.heap.size ≤ b

theorem MvF.refl (L : Nat → Prop) (ρ : Rho) (I : Imm) (w : World) : MvF L ρ I w L ρ I w := ⟨Ext.refl _ _, Fw.refl _ _, fun _ h => .inl h⟩
theorem MvF.trans {L L' L'' : Nat → Prop} {ρ ρ' ρ'' : Rho} {I I' I'' : Imm} {w w' w'' : World} (h : MvF L ρ I w L' ρ' I' w') (k : MvF L' ρ' I' w' L'' ρ'' I'' w'') : MvF L ρ I w L'' ρ'' I'' w'' := by
  refine ⟨h.ext.trans k.ext, h.fw.trans k.fw, fun b hb => ?_⟩
  rcases k.imm b hb with h1 | h1 | h1
  · exact h.imm b h1
  · rcases h.fw.new b h1 with h2 | h2
    · exact .inr (.inl h2)
    · exact .inr (.inr h2)
  · exact .inr (.inr (Nat.le_trans h.fw.size h1))

def Sp (P : Program) (f : Nat) (args : List AV) (Q : AV → Hp → Prop) (H : Hp) : Prop :=
  ∀ ρ I w us, StH ρ I H w → VRs ρ I args us → Calls P f us.toArray w (fun e w' => ∃ v u ρ' I' H', e = .returned u ∧ Mv ρ I H w ρ' I' H' w' ∧ VR ρ' I' v u ∧ Q v H')

theorem Sp.mono {P : Program} {f : Nat} {args : List AV} {Q Q' : AV → Hp → Prop} {H : Hp} (h : Sp P f args Q H) (hq : ∀ v H', Q v H' → Q' v H') : Sp P f args Q' H :=
  fun ρ I w us hs hv => (h ρ I w us hs hv).mono fun e w' ⟨v, u, ρ', I', H', h1, h2, h3, h4⟩ => ⟨v, u, ρ', I', H', h1, h2, h3, hq _ _ h4⟩

def Wp (P : Program) (N : Nat) (c : Code) (K : Exit → Fr → Hp → Prop) (fr : Fr) (H : Hp) : Prop :=
  ∀ ρ I β a w, Sim N ρ I β fr H a w →
    c.wp P (fun e a' w' => ∃ fr' H' ρ' I' β', MvF (OwnF ρ β fr H) ρ I w (OwnF ρ' β' fr' H') ρ' I' w' ∧ Sim N ρ' I' β' fr' H' a' w' ∧ K e fr' H') a w

def Opp (P : Program) (N : Nat) (o : Oper) (k : Fr → Hp → Prop) (fr : Fr) (H : Hp) : Prop :=
  ∀ ρ I β a w, Sim N ρ I β fr H a w → ∀ Q : Exit → Act → World → Prop,
    o.wp P a w (fun a' w' => ∃ fr' H' ρ' I' β', MvF (OwnF ρ β fr H) ρ I w (OwnF ρ' β' fr' H') ρ' I' w' ∧ Sim N ρ' I' β' fr' H' a' w' ∧ k fr' H') Q

section
variable {P : Program} {N : Nat} {K : Exit → Fr → Hp → Prop} {fr : Fr} {H : Hp}

theorem Wp.mono {c : Code} {K' : Exit → Fr → Hp → Prop} (h : Wp P N c K fr H) (hk : ∀ e fr H, K e fr H → K' e fr H) : Wp P N c K' fr H :=
  fun ρ I β a w hs => wp_mono (h ρ I β a w hs) fun e a w ⟨fr', H', ρ', I', β', h1, h2, h3⟩ => ⟨fr', H', ρ', I', β', h1, h2, hk _ _ _ h3⟩

theorem Wp.skip (h : K .normal fr H) : Wp P N .skip K fr H := fun ρ I β a w hs => wp_skip ⟨fr, H, ρ, I, β, MvF.refl _ _ _ _, hs, h⟩
theorem Wp.exit {id : Nat} (h : K (.exit id) fr H) : Wp P N (.exit id) K fr H := fun ρ I β a w hs => wp_exit ⟨fr, H, ρ, I, β, MvF.refl _ _ _ _, hs, h⟩
theorem Wp.ret (h : K .ret fr H) : Wp P N .ret K fr H := fun ρ I β a w hs => wp_ret ⟨fr, H, ρ, I, β, MvF.refl _ _ _ _, hs, h⟩

def seqK (next : Fr → Hp → Prop) (K : Exit → Fr → Hp → Prop) : Exit → Fr → Hp → Prop
  | .normal, fr, H => next fr H
  | e, fr, H => K e fr H

theorem Wp.seq {x y : Code} (h : Wp P N x (seqK (Wp P N y K) K) fr H) : Wp P N (.seq x y) K fr H := by
  intro ρ I β a w hs
  refine wp_seq (wp_mono (h ρ I β a w hs) ?_)
  rintro e a' w' ⟨fr', H', ρ', I', β', hm, hs', hk⟩
  cases e with
  | normal =>
    refine wp_mono (hk ρ' I' β' a' w' hs') ?_
    rintro e a'' w'' ⟨fr'', H'', ρ'', I'', β'', hm', hs'', hk'⟩
    exact ⟨fr'', H'', ρ'', I'', β'', hm.trans hm', hs'', hk'⟩
  | exit id => exact ⟨fr', H', ρ', I', β', hm, hs', hk⟩
  | goto l => exact ⟨fr', H', ρ', I', β', hm, hs', hk⟩
  | ret => exact ⟨fr', H', ρ', I', β', hm, hs', hk⟩
  | panic ch => exact ⟨fr', H', ρ', I', β', hm, hs', hk⟩
  | outgrown => exact ⟨fr', H', ρ', I', β', hm, hs', hk⟩

def blockK (id : Nat) (K : Exit → Fr → Hp → Prop) : Exit → Fr → Hp → Prop
  | .exit id', fr, H => if id' = id then K .normal fr H else K (.exit id') fr H
  | e, fr, H => K e fr H

theorem Wp.block {id : Nat} {c : Code} (h : Wp P N c (blockK id K) fr H) : Wp P N (.block id c) K fr H := by
  intro ρ I β a w hs
  refine wp_block (wp_mono (h ρ I β a w hs) ?_)
  rintro e a' w' ⟨fr', H', ρ', I', β', hm, hs', hk⟩
  cases e with
  | exit id' =>
    simp only [Exit.inBlock, blockK] at hk ⊢
    split
    · rename_i he; rw [if_pos he] at hk; exact ⟨fr', H', ρ', I', β', hm, hs', hk⟩
    · rename_i he; rw [if_neg he] at hk; exact ⟨fr', H', ρ', I', β', hm, hs', hk⟩
  | normal => exact ⟨fr', H', ρ', I', β', hm, hs', hk⟩
  | goto l => exact ⟨fr', H', ρ', I', β', hm, hs', hk⟩
  | ret => exact ⟨fr', H', ρ', I', β', hm, hs', hk⟩
  | panic ch => exact ⟨fr', H', ρ', I', β', hm, hs', hk⟩
  | outgrown => exact ⟨fr', H', ρ', I', β', hm, hs', hk⟩

def opS (fr : Fr) : Operand → Option SV
  | .tmp t => look t fr.slots
  | .const x => some (.av (.v x))
  | .func f => some (.av (.fn (.func f) [] []))
  | .global _ => none
def opV (fr : Fr) (x : Operand) : Option AV := match opS fr x with | some (.av a) => some a | _ => none

theorem opS_sound {ρ : Rho} {I : Imm} {β : Nat → Option Nat} {a : Act} {w : World} (hs : Sim N ρ I β fr H a w) {x : Operand} {s : SV} (h : opS fr x = some s) : SVR ρ I β s (a.eval x) := by
  cases x with
  | tmp t => exact hs.slot t s h
  | const v => simp only [opS, Option.some.injEq] at h; subst h; exact .v v
  | func f => simp only [opS, Option.some.injEq] at h; subst h; exact .fn (.func f) [] [] [] [] rfl (fun i c hc => by simp at hc) rfl (fun i c hc => by simp at hc)
  | global g => simp [opS] at h
theorem opV_sound {ρ : Rho} {I : Imm} {β : Nat → Option Nat} {a : Act} {w : World} (hs : Sim N ρ I β fr H a w) {x : Operand} {s : AV} (h : opV fr x = some s) : VR ρ I s (a.eval x) := by
  unfold opV at h
  split at h
  · rename_i y hy; simp only [Option.some.injEq] at h; subst h; exact opS_sound hs hy
  · simp at h

def Cond (b : Bool) (A B : Prop) : Prop := match b with | true => A | false => B
@[simp] theorem Cond_true (A B : Prop) : Cond true A B = A := rfl
@[simp] theorem Cond_false (A B : Prop) : Cond false A B = B := rfl
theorem Cond_iff (b : Bool) (A B : Prop) : Cond b A B ↔ (b = true → A) ∧ (b = false → B) := by cases b <;> simp

def Fr.known (fr : Fr) (x : Operand) (b : Bool) : Fr := match x with | .tmp t => { fr with slots := (t, .av (.v (.bool b))) :: fr.slots } | _ => fr

theorem Sim.known {ρ : Rho} {I : Imm} {β : Nat → Option Nat} {a : Act} {w : World} (hs : Sim N ρ I β fr H a w) {x : Operand} {b : Bool} (h : opS fr x = some (.av (.v (.bool b)))) : Sim N ρ I β (fr.known x b) H a w := by
  cases x with
  | tmp t =>
    refine ⟨hs.heap, hs.defers, hs.size, fun t' y hy => ?_, hs.box, hs.binj⟩
    simp only [Fr.known, look] at hy
    split at hy
    · rename_i e; subst e
      simp only [Option.some.injEq] at hy; subst hy
      exact hs.slot t _ h
    · exact hs.slot t' y hy
  | const v => exact hs
  | func f => exact hs
  | global g => exact hs

theorem OwnF.known (ρ : Rho) (β : Nat → Option Nat) (fr : Fr) (H : Hp) (x : Operand) (b : Bool) : OwnF ρ β (fr.known x b) H = OwnF ρ β fr H := by cases x <;> rfl

def condA (fr : Fr) (x : Operand) (A B : Fr → Prop) : Prop := match opS fr x with | some (.av (.v (.bool b))) => Cond b (A (fr.known x true)) (B (fr.known x false)) | _ => False

theorem Wp.cond {x : Operand} {c d : Code} (h : condA fr x (fun fr => Wp P N c K fr H) (fun fr => Wp P N d K fr H)) : Wp P N (.cond x c d) K fr H := by
  intro ρ I β a w hs
  unfold condA at h
  split at h
  · rename_i b hb
    have hv := opS_sound hs hb
    have he : a.eval x = .bool b := by
      generalize a.eval x = u at hv
      cases hv; rfl
    have hs' := hs.known hb
    cases b with
    | true =>
      refine wp_cond_true he ?_
      have := h ρ I β a w hs'
      rwa [OwnF.known] at this
    | false =>
      refine wp_cond_false he ?_
      have := h ρ I β a w hs'
      rwa [OwnF.known] at this
  · exact h.elim

theorem Wp.loop {c : Code} (J : Nat → Fr → Hp → Prop) (n₀ : Nat) (h0 : J n₀ fr H)
    (round : ∀ n fr H, J n fr H → Wp P N c (seqK (fun fr' H' => ∃ m, m < n ∧ J m fr' H') K) fr H) : Wp P N (.loop c) K fr H := by
  intro ρ I β a w hs
  refine wp_loop_ghost (fun n a' w' => ∃ fr' H' ρ' I' β', MvF (OwnF ρ β fr H) ρ I w (OwnF ρ' β' fr' H') ρ' I' w' ∧ Sim N ρ' I' β' fr' H' a' w' ∧ J n fr' H') n₀ ⟨fr, H, ρ, I, β, MvF.refl _ _ _ _, hs, h0⟩ ?_
  rintro n a1 w1 ⟨fr1, H1, ρ1, I1, β1, hm1, hs1, hj⟩
  refine wp_mono (round n fr1 H1 hj ρ1 I1 β1 a1 w1 hs1) ?_
  rintro e a2 w2 ⟨fr2, H2, ρ2, I2, β2, hm2, hs2, hk⟩
  cases e with
  | normal =>
    obtain ⟨m, hlt, hj'⟩ := hk
    exact ⟨m, hlt, fr2, H2, ρ2, I2, β2, hm1.trans hm2, hs2, hj'⟩
  | exit id => exact ⟨fr2, H2, ρ2, I2, β2, hm1.trans hm2, hs2, hk⟩
  | goto l => exact ⟨fr2, H2, ρ2, I2, β2, hm1.trans hm2, hs2, hk⟩
  | ret => exact ⟨fr2, H2, ρ2, I2, β2, hm1.trans hm2, hs2, hk⟩
  | panic ch => exact ⟨fr2, H2, ρ2, I2, β2, hm1.trans hm2, hs2, hk⟩
  | outgrown => exact ⟨fr2, H2, ρ2, I2, β2, hm1.trans hm2, hs2, hk⟩

theorem Wp.forget {c : Code} {fr0 : Fr} (hsl : ∀ t x, look t fr0.slots = some x → look t fr.slots = some x) (hbx : ∀ t x, look t fr0.boxes = some x → look t fr.boxes = some x)
    (h : Wp P N c K fr0 H) : Wp P N c K fr H := by
  intro ρ I β a w hs
  have hs0 : Sim N ρ I β fr0 H a w := ⟨hs.heap, hs.defers, hs.size, fun t x hx => hs.slot t x (hsl t x hx), fun t cs hc => hs.box t cs (hbx t cs hc),
    fun t t' cs cs' b h1 h2 => hs.binj t t' cs cs' b (hbx _ _ h1) (hbx _ _ h2)⟩
  refine wp_mono (h ρ I β a w hs0) ?_
  rintro e a2 w2 ⟨fr2, H2, ρ2, I2, β2, hm2, hs2, hk⟩
  refine ⟨fr2, H2, ρ2, I2, β2, ⟨hm2.ext, ?_, ?_⟩, hs2, hk⟩
  · have hsub : ∀ b, OwnF ρ β fr0 H b → OwnF ρ β fr H b := by
      rintro b (hb | ⟨t, cs, h1, h2⟩)
      · exact .inl hb
      · exact .inr ⟨t, cs, hbx _ _ h1, h2⟩
    exact ⟨hm2.fw.os, hm2.fw.tape, hm2.fw.output, hm2.fw.dr, hm2.fw.size, fun b hb hL => hm2.fw.keep b hb (fun h' => hL (hsub b h')), fun b hb => (hm2.fw.new b hb).imp (hsub b) id⟩
  · intro b hb
    rcases hm2.imm b hb with h1 | h1 | h1
    · exact .inl h1
    · refine .inr (.inl ?_)
      rcases h1 with h1 | ⟨t, cs, h1, h2⟩
      · exact .inl h1
      · exact .inr ⟨t, cs, hbx _ _ h1, h2⟩
    · exact .inr (.inr h1)

end
end Go.Md

namespace Go.Md
open Go.RowKit
set_option linter.unusedVariables false

def runP (P : Program) {α : Type} : Sem α → Option α
  | .pure a => some a
  | .program k => runP P (k P)
  | _ => none
theorem runP_sound {P : Program} {α : Type} {e : Sem α} {x : α} {w : World} (h : runP P e = some x) : e.run P w = .ok x w := by
  induction e with
  | pure a => simp only [runP, Option.some.injEq] at h; subst h; rfl
  | program k ih => exact ih P h
  | _ => simp [runP] at h

@[simp] def bindO {α : Type} (o : Option α) (k : α → Prop) : Prop := match o with | some x => k x | none => False

section
variable {ρ : Rho} {I : Imm}
theorem VRs.get {cs : List AV} {us : List Value} (h : VRs ρ I cs us) {i : Nat} {c : AV} (hc : cs[i]? = some c) : ∃ u, us[i]? = some u ∧ VR ρ I c u := by
  have hi : i < us.length := by have := (List.getElem?_eq_some_iff.1 hc).1; rw [h.1]; exact this
  refine ⟨us[i], List.getElem?_eq_getElem hi, ?_⟩
  have := h.2 i c hc
  rwa [List.getD_eq_getElem?_getD, List.getElem?_eq_getElem hi] at this
theorem VRs.nil : VRs ρ I [] [] := ⟨rfl, fun i c hc => by simp at hc⟩
theorem VRs.cons {c : AV} {u : Value} {cs : List AV} {us : List Value} (h : VR ρ I c u) (hs : VRs ρ I cs us) : VRs ρ I (c :: cs) (u :: us) := by
  refine ⟨by simp [hs.1], fun i x hx => ?_⟩
  cases i with
  | zero => simp at hx; subst hx; simpa using h
  | succ i => simpa using hs.2 i x (by simpa using hx)
theorem VRs.of_get {cs : List AV} {us : List Value} (hl : us.length = cs.length) (h : ∀ (i : Nat) (c : AV) (u : Value), cs[i]? = some c → us[i]? = some u → VR ρ I c u) : VRs ρ I cs us := by
  refine ⟨hl, fun i c hc => ?_⟩
  have hi : i < us.length := by have := (List.getElem?_eq_some_iff.1 hc).1; omega
  rw [List.getD_eq_getElem?_getD, List.getElem?_eq_getElem hi]
  exact h i c _ hc (List.getElem?_eq_getElem hi)
theorem VRs.append {cs ds : List AV} {us vs : List Value} (h : VRs ρ I cs us) (k : VRs ρ I ds vs) : VRs ρ I (cs ++ ds) (us ++ vs) := by
  refine VRs.of_get (by simp [h.1, k.1]) fun i c u hc hu => ?_
  rcases Nat.lt_or_ge i cs.length with hi | hi
  · rw [List.getElem?_append_left hi] at hc
    rw [List.getElem?_append_left (by rw [h.1]; exact hi)] at hu
    obtain ⟨u', hu', hv⟩ := h.get hc
    rw [hu] at hu'; simp at hu'; subst hu'; exact hv
  · rw [List.getElem?_append_right hi] at hc
    rw [List.getElem?_append_right (by rw [h.1]; exact hi), h.1] at hu
    obtain ⟨u', hu', hv⟩ := k.get hc
    rw [hu] at hu'; simp at hu'; subst hu'; exact hv
theorem VRs.drop {cs : List AV} {us : List Value} (h : VRs ρ I cs us) (n : Nat) : VRs ρ I (cs.drop n) (us.drop n) := by
  refine VRs.of_get (by simp [h.1]) fun i c u hc hu => ?_
  rw [List.getElem?_drop] at hc hu
  obtain ⟨u', hu', hv⟩ := h.get hc
  rw [hu] at hu'; simp at hu'; subst hu'; exact hv
theorem VRs.take {cs : List AV} {us : List Value} (h : VRs ρ I cs us) (n : Nat) : VRs ρ I (cs.take n) (us.take n) := by
  refine VRs.of_get (by simp [h.1]) fun i c u hc hu => ?_
  rw [List.getElem?_take] at hc hu
  split at hc
  · rename_i hi
    rw [if_pos hi] at hu
    obtain ⟨u', hu', hv⟩ := h.get hc
    rw [hu] at hu'; simp at hu'; subst hu'; exact hv
  · simp at hc

theorem Rd.cell {w : World} {a : Addr} {us : List Value} (h : Rd I a us) (himm : ∀ b arr, I b = some arr → ∃ T fz, w.heap[b]? = some (.cells arr T fz)) {i : Nat} {u : Value} (hu : us[i]? = some u) :
    w.cell? ⟨a.block, a.off + i, none⟩ = some u := by
  obtain ⟨h0, ho, arr, h1, h2⟩ := h
  obtain ⟨T, fz, hb⟩ := himm _ _ h1
  have hi := (List.getElem?_eq_some_iff.1 hu).1
  have := h2 i hi
  rw [List.getD_eq_getElem?_getD, hu] at this
  simp [World.cell?, hb, this]
theorem Rd.drop {a : Addr} {us : List Value} (h : Rd I a us) (k : Nat) : Rd I ⟨a.block, a.off + k, none⟩ (us.drop k) := by
  obtain ⟨h0, ho, arr, h1, h2⟩ := h
  refine ⟨rfl, fun u hu => ho u (List.mem_of_mem_drop hu), arr, h1, fun i hi => ?_⟩
  have := h2 (k + i) (by simp at hi; omega)
  simp only [List.getD_eq_getElem?_getD, List.getElem?_drop] at this ⊢
  rw [← this]; congr 1; omega
theorem Rd.take {a : Addr} {us : List Value} (h : Rd I a us) (k : Nat) : Rd I a (us.take k) := by
  obtain ⟨h0, ho, arr, h1, h2⟩ := h
  refine ⟨h0, fun u hu => ho u (List.mem_of_mem_take hu), arr, h1, fun i hi => ?_⟩
  have hi' : i < k ∧ i < us.length := by simp at hi; omega
  have := h2 i hi'.2
  simp only [List.getD_eq_getElem?_getD, List.getElem?_take] at this ⊢
  rw [if_pos hi'.1]; exact this
end

def int64 (n : Int) : AV := .v (.int .i64 n)

def lenA : AV → Option AV
  | .v (.string s) => some (.v (.int .i64 s.size))
  | .v (.slice _ n _) => some (.v (.int .i64 n))
  | .row _ n _ => some (.v (.int .i64 n))
  | .sl _ _ _ _ n => some (.v (.int .i64 n))
  | .v (.map none) => some (.v (.int .i64 0))
  | _ => none

def lenM (H : Hp) : AV → Option AV
  | .mp id => match H[id]? with
    | some (.map es _) => some (.v (.int .i64 es.length))
    | _ => none
  | x => lenA x

def cellsA : AV → List AV
  | .agg cs => cs
  | x => [x]
def oneA : AV → Bool
  | .agg _ => false
  | .tup _ => false
  | .v x => x.oneCell'
  | _ => true

def pickA (c a b : Option AV) : Option AV := match c with
  | some (.v (.bool t)) => match t with
    | true => a
    | false => b
  | _ => none

def extractA (t : AV) (i : Nat) : Option AV := match t with
  | .tup vs => vs[i]?
  | .v (.tuple vs) => (vs[i]?).map .v
  | _ => none

def partA (agg : Bool) (off sz : Nat) (cs : List AV) : Option AV :=
  match agg with
  | true => if off + sz ≤ cs.length then some (.agg ((cs.drop off).take sz)) else none
  | false => cs[off]?

def fieldA (agg : Bool) (off sz : Nat) : AV → Option AV
  | .agg cs => partA agg off sz cs
  | _ => none

def loadA (H : Hp) (agg : Bool) (sz : Nat) : AV → Option AV
  | .rp cs off => partA agg off sz cs
  | .ptr id ver off => match H[id]? with
    | some (.cells ver' cs) => if ver = ver' then partA agg off sz cs else none
    | _ => none
  | _ => none

def loadS (fr : Fr) (H : Hp) (agg : Bool) (sz : Nat) : SV → Option AV
  | .av x => loadA H agg sz x
  | .bp t off => match look t fr.boxes with
    | some cs => partA agg off sz cs
    | none => none
  | .un => none

def plusS (k : Nat) : SV → Option SV
  | .av (.rp cs off) => some (.av (.rp cs (off + k)))
  | .av (.ptr id ver off) => some (.av (.ptr id ver (off + k)))
  | .bp t off => some (.bp t (off + k))
  | _ => none

def indexAddrA (sz : Nat) : AV → AV → Option AV
  | .row _ n cs, .v (.int _ i) => if 0 ≤ i ∧ i < n then some (.rp cs (i.toNat * sz)) else none
  | .sl id ver _ off n, .v (.int _ i) => if 0 ≤ i ∧ i < n then some (.ptr id ver (off + i.toNat * sz)) else none
  | _, _ => none

def indexArrA (sz len : Nat) (x : SV) : AV → Option SV
  | .v (.int _ i) => if 0 ≤ i ∧ i < len then plusS (i.toNat * sz) x else none
  | _ => none

def indexStr : AV → AV → Option AV
  | .v (.string s), .v (.int _ i) => if h : 0 ≤ i ∧ i.toNat < s.size then some (.v (.int .u8 (s[i.toNat]'h.2).toNat)) else none
  | _, _ => none

def nilCheckS : SV → Option SV
  | .av (.rp cs off) => some (.av (.rp cs off))
  | .av (.ptr id ver off) => some (.av (.ptr id ver off))
  | .bp t off => some (.bp t off)
  | _ => none

def asI : AV → Option Int
  | .v (.int _ i) => some i
  | _ => none

def sliceStr (s : ByteArray) (l h : Int) : Option AV := if 0 ≤ l ∧ l ≤ h ∧ h ≤ s.size then some (.v (.string (s.extract l.toNat h.toNat))) else none

def sliceRow (sz : Nat) (x : Bool) (n : Nat) (cs : List AV) (l h : Int) : Option AV :=
  if 0 ≤ l ∧ l ≤ h ∧ h ≤ n then some (.row false (h - l).toNat ((cs.drop (l.toNat * sz)).take ((h - l).toNat * sz))) else none
def sliceSl (sz : Nat) (id ver s off n : Nat) (l h : Int) : Option AV :=
  if s = sz then (if 0 ≤ l ∧ l ≤ h ∧ h ≤ n then (if l < n then some (.sl id ver sz (off + l.toNat * sz) (h - l).toNat) else some (.row false 0 [])) else none) else none

def sliceA (sz : Nat) (x : AV) (lo hi : Option AV) : Option AV :=
  match x with
  | .v (.string s) => match lo, hi with
    | none, none => sliceStr s 0 s.size
    | some (.v (.int _ l)), none => sliceStr s l s.size
    | none, some (.v (.int _ h)) => sliceStr s 0 h
    | some (.v (.int _ l)), some (.v (.int _ h)) => sliceStr s l h
    | _, _ => none
  | .row x n cs => match lo, hi with
    | some (.v (.int _ l)), none => sliceRow sz x n cs l n
    | none, some (.v (.int _ h)) => sliceRow sz x n cs 0 h
    | some (.v (.int _ l)), some (.v (.int _ h)) => sliceRow sz x n cs l h
    | _, _ => none
  | .sl id ver s off n => match lo, hi with
    | some (.v (.int _ l)), none => sliceSl sz id ver s off n l n
    | none, some (.v (.int _ h)) => sliceSl sz id ver s off n 0 h
    | some (.v (.int _ l)), some (.v (.int _ h)) => sliceSl sz id ver s off n l h
    | _, _ => none
  | .v (.slice none 0 0) => match lo, hi with
    | some (.v (.int _ l)), none => if l = 0 then some (.v (.slice none 0 0)) else none
    | none, some (.v (.int _ h)) => if h = 0 then some (.v (.slice none 0 0)) else none
    | _, _ => none
  | _ => none

def u8A (b : UInt8) : AV := .v (.int .u8 b.toNat)
def byteOf : AV → Option UInt8
  | .v (.int .u8 n) => some (UInt8.ofNat n.toNat)
  | _ => none
def bytesOf : List AV → Option (List UInt8)
  | [] => some []
  | c :: cs => match byteOf c, bytesOf cs with
    | some b, some bs => some (b :: bs)
    | _, _ => none
@[simp] theorem bytesOf_u8 (bs : List UInt8) : bytesOf (bs.map u8A) = some bs := by
  induction bs with
  | nil => rfl
  | cons b bs ih => simp [bytesOf, byteOf, u8A, ih]

def strOf (H : Hp) : AV → Option AV
  | .v (.slice none _ _) => some (.v (.string .empty))
  | .row _ n cs => if cs.length = n then (bytesOf cs).map fun bs => .v (.string ⟨bs.toArray⟩) else none
  | .sl id ver sz off n => match H[id]? with
    | some (.cells ver' cs) => if ver = ver' ∧ off + n ≤ cs.length then (bytesOf ((cs.drop off).take n)).map fun bs => .v (.string ⟨bs.toArray⟩) else none
    | _ => none
  | _ => none

inductive TK where
  | num | bool | str | ptr | map | func | slice | agg | other

def eqRef : TK → AV → AV → Option Bool
  | .ptr, .ptr _ _ _, .v (.pointer none) => some false
  | .ptr, .v (.pointer none), .ptr _ _ _ => some false
  | .ptr, .rp _ _, .v (.pointer none) => some false
  | .ptr, .v (.pointer none), .v (.pointer none) => some true
  | .map, .mp _, .v (.map none) => some false
  | .map, .v (.map none), .mp _ => some false
  | .map, .v (.map none), .v (.map none) => some true
  | .func, .fn _ _ _, .v .nilFunc => some false
  | .slice, .sl _ _ _ _ _, .v (.slice none _ _) => some false
  | .slice, .row _ (_ + 1) _, .v (.slice none _ _) => some false
  | .slice, .v (.slice none _ _), .v (.slice none _ _) => some true
  | .bool, .v (.bool a), .v (.bool b) => some (a == b)
  | _, _, _ => none

def addStr (a b : ByteArray) : Option AV := if a.size + b.size ≤ 4611686018427387904 then some (.v (.string (a ++ b))) else none

def eqCell : AV → AV → Option Bool
  | .v (.int k a), .v (.int k' b) => if k = k' then some (a == b) else none
  | .v (.bool a), .v (.bool b) => some (a == b)
  | .v (.string a), .v (.string b) => some (a == b)
  | _, _ => none
def eqCells : List AV → List AV → Option Bool
  | [], [] => some true
  | a :: as, b :: bs => match eqCell a b, eqCells as bs with
    | some x, some y => some (x && y)
    | _, _ => none
  | _, _ => none

end Go.Md

namespace Go.Md
open Go.RowKit
set_option linter.unusedVariables false

def intOp (op : BinOp) (k : IntKind) (a : Int) (k' : IntKind) (b : Int) : Option AV :=
  match op with
  | .shl => if b < 0 then none else some (.v (.int k (k.wrap (a * 2 ^ (min b.toNat k.bits)))))
  | .shr => if b < 0 then none else some (.v (.int k (a.fdiv (2 ^ (min b.toNat k.bits)))))
  | .add => if k = k' then some (.v (.int k (k.wrap (a + b)))) else none
  | .sub => if k = k' then some (.v (.int k (k.wrap (a - b)))) else none
  | .mul => if k = k' then some (.v (.int k (k.wrap (a * b)))) else none
  | .quo => if k = k' then (if b = 0 then none else some (.v (.int k (k.wrap (a.tdiv b))))) else none
  | .rem => if k = k' then (if b = 0 then none else some (.v (.int k (a.tmod b)))) else none
  | .and => if k = k' then some (.v (.int k (k.wrap (BitVec.ofInt k.bits a &&& BitVec.ofInt k.bits b).toNat))) else none
  | .or => if k = k' then some (.v (.int k (k.wrap (BitVec.ofInt k.bits a ||| BitVec.ofInt k.bits b).toNat))) else none
  | .xor => if k = k' then some (.v (.int k (k.wrap (BitVec.ofInt k.bits a ^^^ BitVec.ofInt k.bits b).toNat))) else none
  | .andNot => if k = k' then some (.v (.int k (k.wrap (BitVec.ofInt k.bits a &&& ~~~ BitVec.ofInt k.bits b).toNat))) else none
  | .eql => if k = k' then some (.v (.bool (a == b))) else none
  | .neq => if k = k' then some (.v (.bool (a != b))) else none
  | .lss => if k = k' then some (.v (.bool (decide (a < b)))) else none
  | .leq => if k = k' then some (.v (.bool (decide (a ≤ b)))) else none
  | .gtr => if k = k' then some (.v (.bool (decide (a > b)))) else none
  | .geq => if k = k' then some (.v (.bool (decide (a ≥ b)))) else none

def strOp (op : BinOp) (a b : ByteArray) : Option AV :=
  match op with
  | .add => addStr a b
  | .eql => some (.v (.bool (a.toList == b.toList)))
  | .neq => some (.v (.bool (!(a.toList == b.toList))))
  | .lss => some (.v (.bool (Op.bytesLess a.toList b.toList)))
  | .leq => some (.v (.bool (Op.bytesLess a.toList b.toList || a.toList == b.toList)))
  | .gtr => some (.v (.bool (!(Op.bytesLess a.toList b.toList || a.toList == b.toList))))
  | .geq => some (.v (.bool (!Op.bytesLess a.toList b.toList)))
  | _ => none

def binA (k : TK) (op : BinOp) : AV → AV → Option AV
  | .v (.int k a), .v (.int k' b) => intOp op k a k' b
  | .v (.string a), .v (.string b) => strOp op a b
  | x, y => match op with
    | .eql => (eqRef k x y).map fun b => .v (.bool b)
    | .neq => (eqRef k x y).map fun b => .v (.bool (!b))
    | _ => none

def tkOf (P : Program) (t : TypeId) : TK := match P.underlying t with
  | some (.int _) => .num
  | some .bool => .bool
  | some .string => .str
  | some (.pointer _) => .ptr
  | some (.map _ _) => .map
  | some (.func _ _ _) => .func
  | some (.slice _) => .slice
  | _ => .other

theorem runInt (P : Program) (w : World) (op : BinOp) (t : TypeId) (xo yo : Operand) (k k' : IntKind) (a b : Int) (r : AV) (h : intOp op k a k' b = some r) :
    ∃ u, (do eqGuard op t xo yo (.int k a) (.int k' b); binOp op t (.int k a) (.int k' b) : Sem Value).run P w = .ok u w ∧ r = .v u := by
  have hg : (eqGuard op t xo yo (.int k a) (.int k' b)).run P w = .ok () w := by unfold eqGuard; cases op <;> rfl
  simp only [Sem.run_bind, hg, Result.andThen_ok]
  cases op <;> simp only [intOp] at h <;> (try split at h) <;> (try split at h) <;> simp_all <;> subst_vars <;> refine ⟨_, ?_, rfl⟩ <;>
    simp_all [binOp, Op.shift, Op.intArith, Op.intDiv, Op.intBits, Op.intCmp]
  all_goals (intro h'; omega)

theorem runStr (P : Program) (w : World) (op : BinOp) (t : TypeId) (xo yo : Operand) (a b : ByteArray) (r : AV) (h : strOp op a b = some r) :
    ∃ u, (do eqGuard op t xo yo (.string a) (.string b); binOp op t (.string a) (.string b) : Sem Value).run P w = .ok u w ∧ r = .v u := by
  have hg : (eqGuard op t xo yo (.string a) (.string b)).run P w = .ok () w := by unfold eqGuard; cases op <;> rfl
  simp only [Sem.run_bind, hg, Result.andThen_ok]
  cases op <;> simp only [strOp, addStr] at h <;> (try split at h) <;> simp_all <;> subst_vars <;> refine ⟨_, ?_, rfl⟩ <;> simp [binOp, Op.stringOp]
  omega

theorem runRef {ρ : Rho} {I : Imm} (P : Program) (w : World) (op : BinOp) (t : TypeId) (xo yo : Operand) {x y r : AV} {u v : Value} (hx : VR ρ I x u) (hy : VR ρ I y v)
    (h : (match op with | .eql => (eqRef (tkOf P t) x y).map fun b => AV.v (.bool b) | .neq => (eqRef (tkOf P t) x y).map fun b => AV.v (.bool (!b)) | _ => none) = some r) :
    ∃ u', (do eqGuard op t xo yo u v; binOp op t u v : Sem Value).run P w = .ok u' w ∧ r = .v u' := by
  have key : ∀ b, eqRef (tkOf P t) x y = some b → (eqGuard op t xo yo u v).run P w = .ok () w ∧ (op = .eql ∨ op = .neq → (Op.equal t u v).run P w = .ok b w) ∧ ((∀ k n, u ≠ .int k n) ∧ (∀ k n, u ≠ .float k n) ∧ (∀ k n m, u ≠ .complex k n m) ∧ (∀ s, u ≠ .string s)) := by
    intro b hb
    have hgd : (u ≠ .nilIface) → (∀ cs, u ≠ .agg cs) → (eqGuard op t xo yo u v).run P w = .ok () w := by
      intro h1 h2
      unfold eqGuard
      cases op <;> first
        | rfl
        | (cases u <;> first | rfl | exact absurd rfl h1 | exact absurd rfl (h2 _))
    have heq : ∀ d, P.underlying t = some d → (Op.equalIn (9999 + 1) t u v).run P w = .ok b w → (Op.equal t u v).run P w = .ok b w := fun d _ h => h
    have rowc : ∀ xx n cs len cap, x = .row xx (n + 1) cs → y = .v (.slice none len cap) → tkOf P t = .slice → b = false →
        (eqGuard op t xo yo u v).run P w = .ok () w ∧ (op = .eql ∨ op = .neq → (Op.equal t u v).run P w = .ok b w) ∧ ((∀ k n, u ≠ .int k n) ∧ (∀ k n, u ≠ .float k n) ∧ (∀ k n m, u ≠ .complex k n m) ∧ (∀ s, u ≠ .string s)) := by
      intro xx n cs len cap e1 e2 hk e3
      subst e1 e2 e3
      cases hy
      cases hx with
      | row _ _ _ us a cap' h1 h2 h3 h4 h5 h6 =>
        rcases h3 with ⟨h0, _⟩ | ⟨ad, rfl, _⟩
        · exact absurd h0 (Nat.succ_ne_zero _)
        · refine ⟨hgd (by simp) (by simp), fun _ => ?_, by simp, by simp, by simp, by simp⟩
          unfold tkOf at hk
          split at hk <;> simp at hk
          rename_i hd
          refine heq _ hd ?_; unfold Op.equalIn; simp only [Sem.run_bind, run_underlying hd, Result.andThen_ok]; rfl
    have hk0 : ∀ tk, tkOf P t = tk → tkOf P t = tk := fun _ h => h
    generalize hk : tkOf P t = tk at hb
    replace hk0 := hk0 _ hk
    unfold tkOf at hk
    unfold eqRef at hb
    split at hb <;> simp at hb <;> subst hb <;> (first | exact rowc _ _ _ _ _ rfl rfl hk0 rfl | skip) <;> cases hx <;> cases hy <;>
      (refine ⟨hgd (by simp) (by simp), fun _ => ?_, by simp, by simp, by simp, by simp⟩) <;>
      (split at hk <;> simp at hk) <;> rename_i hd <;>
      (refine heq _ hd ?_; unfold Op.equalIn; simp only [Sem.run_bind, run_underlying hd, Result.andThen_ok]; rfl)
  cases hb : eqRef (tkOf P t) x y with
  | none => rw [hb] at h; cases op <;> simp at h
  | some b =>
    rw [hb] at h
    obtain ⟨h1, h2, h3, h4, h5, h6⟩ := key b hb
    have hr : (binOp .eql t u v).run P w = .ok (.bool b) w ∧ (binOp .neq t u v).run P w = .ok (.bool (!b)) w ∨ ¬ (op = .eql ∨ op = .neq) := by
      by_cases hop : op = .eql ∨ op = .neq
      · left
        have h2' := h2 hop
        constructor <;> (unfold binOp; split <;> simp_all)
      · exact .inr hop
    cases op <;> simp at h hr <;> subst h <;> refine ⟨_, ?_, rfl⟩ <;> simp only [Sem.run_bind, h1, Result.andThen_ok] <;> simp [hr]

theorem binA_sound {ρ : Rho} {I : Imm} (P : Program) (w : World) (op : BinOp) (t : TypeId) (xo yo : Operand) {x y r : AV} {u v : Value} (hx : VR ρ I x u) (hy : VR ρ I y v)
    (h : binA (tkOf P t) op x y = some r) : ∃ u', (do eqGuard op t xo yo u v; binOp op t u v : Sem Value).run P w = .ok u' w ∧ r = .v u' := by
  unfold binA at h
  split at h
  · cases hx; cases hy; exact runInt P w op t xo yo _ _ _ _ r h
  · cases hx; cases hy; exact runStr P w op t xo yo _ _ r h
  · exact runRef P w op t xo yo hx hy h

end Go.Md

namespace Go.Md
open Go.RowKit
set_option linter.unusedVariables false

def plainD : TypeDesc → Bool
  | .int _ => true
  | .string => true
  | .bool => true
  | _ => false

def flatV : List AV → Option (List Value)
  | [] => some []
  | .v x :: r => match flatV r with
    | some l => some (x :: l)
    | none => none
  | _ :: _ => none

structure AggKey (P : Program) (t : TypeId) : Prop where
  law : WideMaps.KeyLaw P t
  deep : ∃ m, m ≤ 10000 ∧ P.keyTypeAt m t = true
  wide : (match P.underlying t with | some (.array _ _) | some (.struct _) => true | _ => false) = true
  guard : P.eqGuardType P.depth t = false
theorem AggKey.of {P : Program} {t : TypeId} (hl : laidOutB P = true) (hs : P.types.size + 2 ≤ 10000) (hr : t < P.types.size) (hk : P.keyType t = true)
    (hw : (match P.underlying t with | some (.array _ _) | some (.struct _) => true | _ => false) = true) (hg : P.eqGuardType P.depth t = false) : AggKey P t :=
  ⟨deep_law_gate hl hs hr hk hw, ⟨P.types.size + 1, by omega, hk⟩, hw, hg⟩

def KGood (P : Program) (t : TypeId) (a : AV) : Prop :=
  (∃ d x, P.underlying t = some d ∧ plainD d = true ∧ a = .v x ∧ MapKept.IsKey d x) ∨
  (AggKey P t ∧ ∃ cs us l, a = .agg cs ∧ flatV cs = some us ∧ keyOf P t (.agg us.toArray) = some l)
def GoodV (P : Program) (t : TypeId) (v : Value) : Prop :=
  (∃ d, P.underlying t = some d ∧ plainD d = true ∧ MapKept.IsKey d v) ∨ (AggKey P t ∧ ∃ l, keyOf P t v = some l)

theorem KGood.str {P : Program} {t : TypeId} (h : P.underlying t = some .string) (s : ByteArray) : KGood P t (.v (.string s)) := .inl ⟨_, _, h, rfl, rfl, trivial⟩
theorem KGood.int {P : Program} {t : TypeId} {k : IntKind} (h : P.underlying t = some (.int k)) (n : Int) : KGood P t (.v (.int k n)) := .inl ⟨_, _, h, rfl, rfl, rfl⟩
theorem KGood.bool {P : Program} {t : TypeId} (h : P.underlying t = some .bool) (b : Bool) : KGood P t (.v (.bool b)) := .inl ⟨_, _, h, rfl, rfl, trivial⟩
theorem KGood.agg {P : Program} {t : TypeId} {cs : List AV} {us : List Value} (h : AggKey P t) (hf : flatV cs = some us) (hk : (keyOf P t (.agg us.toArray)).isSome = true) : KGood P t (.agg cs) := by
  obtain ⟨l, hl⟩ := Option.isSome_iff_exists.1 hk
  exact .inr ⟨h, cs, us, l, rfl, hf, hl⟩

section
variable {P : Program} {ρ : Rho} {I : Imm} {w : World} {t : TypeId}

theorem VR.v_is {x u : Value} (h : VR ρ I (.v x) u) : u = x := by cases h; rfl
theorem flatV_vrs : ∀ {cs : List AV} {us vs : List Value}, flatV cs = some us → VRs ρ I cs vs → vs = us
  | [], us, vs, h, hv => by
    simp [flatV] at h; subst h
    have := hv.1; simpa using this
  | c :: cs, us, vs, h, hv => by
    cases c <;> simp only [flatV] at h <;> (first | (exfalso; simp at h; done) | skip)
    rename_i x
    split at h <;> simp at h
    rename_i l hl
    subst h
    match vs, hv.1 with
    | v :: vs, _ =>
      have h0 := hv.2 0 _ rfl
      have hr : VRs ρ I cs vs := ⟨by have := hv.1; simpa using this, fun i c hc => by simpa using hv.2 (i + 1) c (by simpa using hc)⟩
      have e : v = x := by simpa using h0.v_is
      rw [flatV_vrs hl hr, e]
theorem flatV_inj : ∀ {cs ds : List AV} {us : List Value}, flatV cs = some us → flatV ds = some us → cs = ds
  | [], ds, us, h, k => by
    simp [flatV] at h; subst h
    cases ds with
    | nil => rfl
    | cons d ds => cases d <;> simp only [flatV] at k <;> (first | (exfalso; simp at k; done) | (split at k <;> simp at k))
  | c :: cs, ds, us, h, k => by
    cases c <;> simp only [flatV] at h <;> (first | (exfalso; simp at h; done) | skip)
    split at h <;> simp at h
    rename_i x _ l hl
    subst h
    cases ds with
    | nil => simp [flatV] at k
    | cons d ds =>
      cases d <;> simp only [flatV] at k <;> (first | (exfalso; simp at k; done) | skip)
      split at k <;> simp at k
      rename_i l' hl'
      obtain ⟨rfl, rfl⟩ := k
      rw [flatV_inj hl hl']

theorem plain_wide {d : TypeDesc} (h : P.underlying t = some d) (hp : plainD d = true) (hw : (match P.underlying t with | some (.array _ _) | some (.struct _) => true | _ => false) = true) : False := by
  rw [h] at hw
  cases d <;> simp [plainD] at hp hw

theorem KGood.value {a : AV} (h : KGood P t a) : ∃ x, GoodV P t x ∧ (∀ ρ I u, VR ρ I a u → u = x) ∧ ∀ b, KGood P t b → ((∀ ρ I u, VR ρ I b u → u = x) → True) := by
  rcases h with ⟨d, x, h1, h2, rfl, h3⟩ | ⟨ha, cs, us, l, rfl, hf, hk⟩
  · exact ⟨x, .inl ⟨d, h1, h2, h3⟩, fun ρ I u hu => by simpa using hu.v_is, fun _ _ _ => trivial⟩
  · refine ⟨.agg us.toArray, .inr ⟨ha, l, hk⟩, fun ρ I u hu => ?_, fun _ _ _ => trivial⟩
    cases hu with
    | agg _ vs h1 h2 h3 => rw [flatV_vrs hf ⟨h1, h2⟩]

theorem KGood.same {a b : AV} {u v : Value} (ha : KGood P t a) (hb : KGood P t b) (hu : VR ρ I a u) (hv : VR ρ I b v) : u = v ↔ a = b := by
  constructor
  · intro e
    subst e
    rcases ha with ⟨d, x, h1, h2, rfl, h3⟩ | ⟨ha, cs, us, l, rfl, hf, hk⟩ <;> rcases hb with ⟨d', x', h1', h2', rfl, h3'⟩ | ⟨hb, cs', us', l', rfl, hf', hk'⟩
    · have e1 := hu.v_is; have e2 := hv.v_is; rw [← e1, ← e2]
    · exact (plain_wide h1 h2 hb.wide).elim
    · exact (plain_wide h1' h2' ha.wide).elim
    · cases hu with
      | agg _ vs h1 h2 h3 =>
        have e1 := flatV_vrs hf ⟨h1, h2⟩
        have e2 : vs = us' := by
          generalize hx : Value.agg vs.toArray = x at hv
          cases hv with
          | agg _ vs' k1 k2 k3 =>
            have := flatV_vrs hf' ⟨k1, k2⟩
            injection hx with hx
            have : vs = vs' := by simpa using congrArg Array.toList hx
            simp_all
        rw [← e1] at hf; rw [← e2] at hf'
        rw [flatV_inj hf hf']
  · intro e
    subst e
    obtain ⟨x, _, hx, _⟩ := ha.value
    rw [hx _ _ _ hu, hx _ _ _ hv]

theorem KGood.good {a : AV} {u : Value} (ha : KGood P t a) (hu : VR ρ I a u) : GoodV P t u := by
  obtain ⟨x, hg, hx, _⟩ := ha.value
  rw [hx _ _ _ hu]; exact hg

theorem find_key (w : World) {x : Value} (hx : GoodV P t x) (ms : List MapEntry) (hall : ∀ m ∈ ms, GoodV P t m.key) :
    ((Instr.findKey t x ms).run P w = .ok none w ∧ ∀ m ∈ ms, m.key ≠ x) ∨ ∃ j m, (Instr.findKey t x ms).run P w = .ok (some (j, m.val)) w ∧ ms[j]? = some m ∧ m.key = x := by
  rcases hx with ⟨d, h1, h2, h3⟩ | ⟨ha, l, hl⟩
  · have hks : ∀ m ∈ ms, MapKept.IsKey d m.key := fun m hm => by
      rcases hall m hm with ⟨d', h1', h2', h3'⟩ | ⟨hb, _⟩
      · rw [h1] at h1'; simp at h1'; subst h1'; exact h3'
      · exact (plain_wide h1 h2 hb.wide).elim
    rcases MapKept.findNow_spec h3 ms 0 hks with ⟨h4, h5⟩ | ⟨j, e, h4, h5, h6⟩
    · exact .inl ⟨MapKept.run_findKey h1 h4, h5⟩
    · exact .inr ⟨j, e, by rw [MapKept.run_findKey h1 h4, Nat.zero_add], h5, h6⟩
  · refine ha.law.find w hl ms (fun m hm => ?_)
    rcases hall m hm with ⟨d', h1', h2', h3'⟩ | ⟨hb, l', hl'⟩
    · exact (plain_wide h1' h2' ha.wide).elim
    · exact ⟨l', hl'⟩
theorem check_key (w : World) (em : Bool) {x : Value} (hx : GoodV P t x) : (Instr.checkKey em 10000 t x).run P w = .ok () w := by
  rcases hx with ⟨d, h1, h2, h3⟩ | ⟨ha, l, hl⟩
  · exact MapKept.run_checkKey h1 h3 em 9999
  · exact ha.law.check w em hl
theorem stays_key (w : World) {x : Value} (hx : GoodV P t x) : (Instr.keyThatStays x x).run P w = .ok x w := by
  rcases hx with ⟨d, h1, h2, h3⟩ | ⟨ha, l, hl⟩
  · exact MapKept.run_keyThatStays h3
  · exact ha.law.stays w hl

open Classical in
noncomputable def lookE (key : AV) : List (Nat × AV × AV) → Option AV
  | [] => none
  | e :: r => if e.2.1 = key then some e.2.2 else lookE key r
structure MapOk (P : Program) (t : TypeId) (es : List (Nat × AV × AV)) (clock : Nat) : Prop where
  good : ∀ e ∈ es, KGood P t e.2.1
  keys : (es.map (·.2.1)).Nodup
  born : ∀ e ∈ es, e.1 < clock
  stamps : (es.map (·.1)).Nodup
theorem MapOk.nil (P : Program) (t : TypeId) (c : Nat) : MapOk P t [] c := ⟨by simp, by simp, by simp, by simp⟩

theorem lookE_none {key : AV} : ∀ {es : List (Nat × AV × AV)}, (∀ e ∈ es, e.2.1 ≠ key) → lookE key es = none
  | [], _ => rfl
  | e :: r, h => by
    unfold lookE
    rw [if_neg (h e (by simp))]
    exact lookE_none (fun x hx => h x (by simp [hx]))
theorem lookE_at {key : AV} : ∀ {es : List (Nat × AV × AV)} {j : Nat} {e : Nat × AV × AV}, (es.map (·.2.1)).Nodup → es[j]? = some e → e.2.1 = key → lookE key es = some e.2.2
  | [], j, e, _, h, _ => by simp at h
  | x :: r, 0, e, _, h, hk => by simp at h; subst h; unfold lookE; rw [if_pos hk]
  | x :: r, j + 1, e, hn, h, hk => by
    have hn' : x.2.1 ∉ r.map (·.2.1) ∧ (r.map (·.2.1)).Nodup := by simpa using hn
    have h' : r[j]? = some e := by simpa using h
    unfold lookE
    rw [if_neg (fun e2 => hn'.1 (by rw [e2, ← hk]; exact List.mem_map.2 ⟨e, List.mem_of_getElem? h', rfl⟩))]
    exact lookE_at hn'.2 h' hk
theorem lookE_mem {key v : AV} : ∀ {es : List (Nat × AV × AV)}, lookE key es = some v → ∃ e ∈ es, e.2.1 = key ∧ e.2.2 = v
  | [], h => by simp [lookE] at h
  | x :: r, h => by
    unfold lookE at h
    split at h
    · rename_i hk; simp at h; exact ⟨x, by simp, hk, h⟩
    · obtain ⟨e, he, h2⟩ := lookE_mem h; exact ⟨e, by simp [he], h2⟩

open Classical in
noncomputable def putE (key val : AV) (es : List (Nat × AV × AV)) (clock : Nat) : List (Nat × AV × AV) :=
  if ∃ e ∈ es, e.2.1 = key then es.map (fun e => if e.2.1 = key then (e.1, key, val) else e) else es ++ [(clock, key, val)]
open Classical in
noncomputable def putC' (key : AV) (es : List (Nat × AV × AV)) (clock : Nat) : Nat := if ∃ e ∈ es, e.2.1 = key then clock else clock + 1
open Classical in
noncomputable def delE (key : AV) (es : List (Nat × AV × AV)) : List (Nat × AV × AV) := es.filter (fun e => decide (e.2.1 ≠ key))

theorem MapOk.put {es : List (Nat × AV × AV)} {clock : Nat} (h : MapOk P t es clock) {key : AV} (hk : KGood P t key) (val : AV) : MapOk P t (putE key val es clock) (putC' key es clock) := by
  classical
  unfold putE putC'
  split
  · have e1 : (es.map (fun e => if e.2.1 = key then (e.1, key, val) else e)).map (·.2.1) = es.map (·.2.1) := by
      rw [List.map_map]; apply List.map_congr_left; intro e _; simp only [Function.comp]; split <;> simp_all
    have e2 : (es.map (fun e => if e.2.1 = key then (e.1, key, val) else e)).map (·.1) = es.map (·.1) := by
      rw [List.map_map]; apply List.map_congr_left; intro e _; simp only [Function.comp]; split <;> rfl
    refine ⟨fun e he => ?_, by rw [e1]; exact h.keys, fun e he => ?_, by rw [e2]; exact h.stamps⟩
    · obtain ⟨x, hx, rfl⟩ := List.mem_map.1 he
      split
      · exact hk
      · exact h.good x hx
    · obtain ⟨x, hx, rfl⟩ := List.mem_map.1 he
      split
      · exact h.born x hx
      · exact h.born x hx
  · rename_i hno
    refine ⟨fun e he => ?_, ?_, fun e he => ?_, ?_⟩
    · rcases List.mem_append.1 he with he | he
      · exact h.good e he
      · simp at he; subst he; exact hk
    · rw [List.map_append, List.nodup_append]
      refine ⟨h.keys, by simp, fun a ha b hb e => ?_⟩
      obtain ⟨x, hx, rfl⟩ := List.mem_map.1 ha
      simp at hb; subst hb
      exact hno ⟨x, hx, e⟩
    · rcases List.mem_append.1 he with he | he
      · exact Nat.lt_succ_of_lt (h.born e he)
      · simp at he; subst he; exact Nat.lt_succ_self _
    · rw [List.map_append, List.nodup_append]
      refine ⟨h.stamps, by simp, fun a ha b hb e => ?_⟩
      obtain ⟨x, hx, rfl⟩ := List.mem_map.1 ha
      simp at hb; subst hb
      have := h.born x hx
      omega
theorem MapOk.sub {es fs : List (Nat × AV × AV)} {clock : Nat} (h : MapOk P t es clock) (hs : fs.Sublist es) : MapOk P t fs clock :=
  ⟨fun e he => h.good e (hs.subset he), (hs.map _).nodup h.keys, fun e he => h.born e (hs.subset he), (hs.map _).nodup h.stamps⟩
theorem MapOk.del {es : List (Nat × AV × AV)} {clock : Nat} (h : MapOk P t es clock) (key : AV) : MapOk P t (delE key es) clock := h.sub List.filter_sublist

theorem lookE_app {key : AV} (x : Nat × AV × AV) : ∀ es : List (Nat × AV × AV), lookE key (es ++ [x]) = match lookE key es with | some v => some v | none => lookE key [x]
  | [] => rfl
  | e :: r => by
    rw [List.cons_append]
    unfold lookE
    split
    · rfl
    · exact lookE_app x r

open Classical in
theorem lookE_map {key val k : AV} (hk : k ≠ key) : ∀ es : List (Nat × AV × AV), lookE k (es.map (fun e => if e.2.1 = key then (e.1, key, val) else e)) = lookE k es
  | [] => rfl
  | x :: r => by
    rw [List.map_cons]
    unfold lookE
    by_cases hx : x.2.1 = key
    · rw [if_pos hx, if_neg (fun e => hk e.symm), if_neg (fun e => hk (by rw [← e, hx]))]
      exact lookE_map hk r
    · rw [if_neg hx]
      split
      · rfl
      · exact lookE_map hk r
open Classical in
theorem lookE_map_self {key val : AV} : ∀ es : List (Nat × AV × AV), (∃ e ∈ es, e.2.1 = key) → lookE key (es.map (fun e => if e.2.1 = key then (e.1, key, val) else e)) = some val
  | [], h => by obtain ⟨e, he, _⟩ := h; simp at he
  | x :: r, h => by
    rw [List.map_cons]
    unfold lookE
    by_cases hx : x.2.1 = key
    · rw [if_pos hx, if_pos rfl]
    · rw [if_neg hx, if_neg hx]
      obtain ⟨e, he, hk⟩ := h
      rcases List.mem_cons.1 he with rfl | he
      · exact absurd hk hx
      · exact lookE_map_self r ⟨e, he, hk⟩
open Classical in
theorem lookE_put {es : List (Nat × AV × AV)} {clock : Nat} {key val k : AV} : lookE k (putE key val es clock) = if k = key then some val else lookE k es := by
  unfold putE
  split
  · rename_i hex
    by_cases hk : k = key
    · subst hk; rw [if_pos rfl, lookE_map_self es hex]
    · rw [if_neg hk, lookE_map hk]
  · rename_i hno
    rw [lookE_app]
    by_cases hk : k = key
    · subst hk
      rw [if_pos rfl, lookE_none (fun e he hke => hno ⟨e, he, hke⟩)]
      simp [lookE]
    · rw [if_neg hk]
      have : lookE k [(clock, key, val)] = none := lookE_none (by intro e he; simp at he; subst he; exact fun e => hk e.symm)
      rw [this]
      cases lookE k es <;> rfl
open Classical in
theorem lookE_del {key k : AV} : ∀ es : List (Nat × AV × AV), lookE k (delE key es) = if k = key then none else lookE k es
  | [] => by simp [delE, lookE]
  | x :: r => by
    have ih := lookE_del (key := key) (k := k) r
    unfold delE at ih ⊢
    by_cases hx : x.2.1 = key
    · rw [List.filter_cons_of_neg (by simpa using hx), ih]
      by_cases hk : k = key
      · rw [if_pos hk, if_pos hk]
      · rw [if_neg hk, if_neg hk]
        conv => rhs; unfold lookE
        rw [if_neg (fun e => hk (by rw [← e, hx]))]
    · rw [List.filter_cons_of_pos (by simpa using hx)]
      conv => lhs; unfold lookE
      rw [ih]
      by_cases hk : k = key
      · subst hk
        rw [if_neg hx]; simp
      · rw [if_neg hk, if_neg hk]
        conv => rhs; unfold lookE

def zeroA (P : Program) (t : TypeId) : Option AV := match (P.info? t).bind (·.zero) with
  | some (.agg arr) => if arr.toList.all Value.oneCell' = true then some (.agg (arr.toList.map .v)) else none
  | some z => some (.v z)
  | none => none
theorem zeroA_run {z : AV} (h : zeroA P t = some z) : ∃ u, (zeroValue t).run P w = .ok u w ∧ VR ρ I z u := by
  unfold zeroA at h
  cases hi : P.info? t with
  | none => rw [hi] at h; simp at h
  | some i =>
    rw [hi] at h
    simp only [Option.bind_some] at h
    have run : ∀ u, i.zero = some u → (zeroValue t).run P w = .ok u w := fun u hz => by simp [zeroValue, typeInfo, hi, hz]
    split at h
    · rename_i arr hz
      split at h <;> simp at h
      rename_i hall
      subst h
      refine ⟨_, run _ hz, ?_⟩
      have e : Value.agg arr = .agg arr.toList.toArray := by simp
      rw [e]
      exact .agg _ arr.toList (by simp) (fun i c hc => by
        rw [List.getElem?_map] at hc
        rw [List.getD_eq_getElem?_getD]
        cases hx : arr.toList[i]? with
        | none => rw [hx] at hc; simp at hc
        | some u => rw [hx] at hc; simp at hc; subst hc; exact .v _) (fun u hu => by simpa using (List.all_eq_true.1 hall) u hu)
    · rename_i z hne hz
      simp at h; subst h
      exact ⟨_, run _ hz, .v _⟩
    · simp at h

def valOf (P : Program) (et : TypeId) (ok : Bool) (r : Option AV) : Option AV := match r with
  | some v => some (if ok then .tup [v, .v (.bool true)] else v)
  | none => match zeroA P et with
    | some z => some (if ok then .tup [z, .v (.bool false)] else z)
    | none => none
open Classical in
noncomputable def lookV (P : Program) (H : Hp) (t : TypeId) (m key : AV) (ok : Bool) : Option AV := match P.underlying t, m with
  | some (.map kt et), .mp id => match H[id]? with
    | some (.map es clock) => if MapOk P kt es clock ∧ KGood P kt key then valOf P et ok (lookE key es) else none
    | _ => none
  | some (.map kt et), .v (.map none) => if KGood P kt key then valOf P et ok none else none
  | _, _ => none

theorem find_ent {es : List (Nat × AV × AV)} {clock : Nat} {ms : List MapEntry} {key : AV} {u : Value} (w : World) (hE : EntR ρ I es ms) (hok : MapOk P t es clock) (hk : KGood P t key) (hv : VR ρ I key u) :
    ((Instr.findKey t u ms).run P w = .ok none w ∧ ∀ e ∈ es, e.2.1 ≠ key) ∨
    ∃ j e m, (Instr.findKey t u ms).run P w = .ok (some (j, m.val)) w ∧ es[j]? = some e ∧ ms[j]? = some m ∧ e.2.1 = key ∧ m.key = u ∧ m.born = e.1 ∧ VR ρ I e.2.2 m.val := by
  have hall : ∀ m ∈ ms, GoodV P t m.key := fun m hm => by
    obtain ⟨i, hi⟩ := List.getElem?_of_mem hm
    have hlt := (List.getElem?_eq_some_iff.1 hi).1
    rw [hE.1] at hlt
    obtain ⟨m', h1, h2, h3, h4⟩ := hE.2 i _ (List.getElem?_eq_getElem hlt)
    rw [hi] at h1; simp at h1; subst h1
    exact (hok.good _ (List.getElem_mem hlt)).good h3
  rcases find_key w (hk.good hv) ms hall with ⟨h1, h2⟩ | ⟨j, m, h1, h2, h3⟩
  · refine .inl ⟨h1, fun e he hke => ?_⟩
    obtain ⟨i, hi⟩ := List.getElem?_of_mem he
    obtain ⟨m, h4, h5, h6, h7⟩ := hE.2 i e hi
    exact h2 m (List.mem_of_getElem? h4) (((hok.good e he).same hk h6 hv).2 hke)
  · right
    have hlt := (List.getElem?_eq_some_iff.1 h2).1
    rw [hE.1] at hlt
    obtain ⟨m', h4, h5, h6, h7⟩ := hE.2 j _ (List.getElem?_eq_getElem hlt)
    rw [h2] at h4; simp at h4; subst h4
    exact ⟨j, _, m, h1, List.getElem?_eq_getElem hlt, h2, ((hok.good _ (List.getElem_mem hlt)).same hk h6 hv).1 h3, h3, h5, h7⟩

theorem lookV_sound {m key r : AV} {um uk : Value} {ok : Bool} {H : Hp} (hs : StH ρ I H w) (hm : VR ρ I m um) (hk : VR ρ I key uk) (h : lookV P H t m key ok = some r) :
    ∃ u, (Instr.lookup t um uk ok).run P w = .ok u w ∧ VR ρ I r u := by
  have zero : ∀ {et : TypeId}, valOf P et ok none = some r → ∃ z, (zeroValue et).run P w = .ok z w ∧ VR ρ I r (if ok then .tuple #[z, .bool false] else z) := by
    intro et hz
    simp only [valOf] at hz
    split at hz <;> simp at hz
    rename_i z hz0
    obtain ⟨u, hu, hv⟩ := zeroA_run (P := P) (ρ := ρ) (I := I) (w := w) hz0
    refine ⟨u, hu, ?_⟩
    subst hz
    cases ok with
    | false => simpa using hv
    | true =>
      simp only [if_true]
      exact .tup _ [u, .bool false] rfl (fun i c hc => by
        match i, hc with
        | 0, hc => simp at hc; subst hc; exact hv
        | 1, hc => simp at hc; subst hc; exact .v _)
  unfold lookV at h
  split at h <;> (first | (exfalso; simp at h; done) | skip)
  · rename_i kt et id ht
    split at h <;> (first | (exfalso; simp at h; done) | skip)
    rename_i es clock hob
    split at h <;> (first | (exfalso; simp at h; done) | skip)
    rename_i hc
    obtain ⟨hok, hkg⟩ := hc
    cases hm with
    | mp _ l hl =>
      obtain ⟨_, l', ms, hl', hb, hent⟩ := hs.obj _ _ hob
      rw [hl] at hl'; simp at hl'; subst hl'
      have hget : (getObj l.blk).run P w = .ok (.map ms clock) w := MapKept.run_getObj_map hb
      rcases find_ent w hent hok hkg hk with ⟨h1, h2⟩ | ⟨j, e, mm, h1, h2, h3, h4, h5, h6, h7⟩
      · rw [lookE_none h2] at h
        obtain ⟨z, hz, hv⟩ := zero h
        exact ⟨_, by simp [Instr.lookup, run_underlying ht, hget, check_key w _ (hkg.good hk), h1, hz], hv⟩
      · rw [lookE_at hok.keys h2 h4] at h
        simp only [valOf, Option.some.injEq] at h
        refine ⟨if ok then .tuple #[mm.val, .bool true] else mm.val, by simp [Instr.lookup, run_underlying ht, hget, check_key w _ (hkg.good hk), h1], ?_⟩
        subst h
        cases ok with
        | false => simpa using h7
        | true =>
          simp only [if_true]
          exact .tup _ [mm.val, .bool true] rfl (fun i c hc => by
            match i, hc with
            | 0, hc => simp at hc; subst hc; exact h7
            | 1, hc => simp at hc; subst hc; exact .v _)
  · rename_i kt et ht
    split at h <;> (first | (exfalso; simp at h; done) | skip)
    rename_i hkg
    have hmv := hm.v_is
    obtain ⟨z, hz, hv⟩ := zero h
    refine ⟨_, ?_, hv⟩
    rw [hmv]
    have hf : (Instr.findKey kt uk []).run P w = .ok none w := by
      rcases find_key (P := P) w (hkg.good hk) [] (by simp) with ⟨h1, _⟩ | ⟨j, m, _, h2, _⟩
      · exact h1
      · simp at h2
    simp [Instr.lookup, run_underlying ht, check_key w _ (hkg.good hk), hf, hz]

open Classical in
noncomputable def eqAgg (P : Program) (t : TypeId) (op : BinOp) (x y : AV) : Option AV := match x, y with
  | .agg cs, .agg ds => if KGood P t (.agg cs) ∧ KGood P t (.agg ds) then (match op with
    | .eql => some (.v (.bool (decide (cs = ds))))
    | .neq => some (.v (.bool (!decide (cs = ds))))
    | _ => none) else none
  | _, _ => none
theorem eqAgg_sound {op : BinOp} {x y r : AV} {u v : Value} (xo yo : Operand) (hx : VR ρ I x u) (hy : VR ρ I y v) (h : eqAgg P t op x y = some r) :
    ∃ z, (do eqGuard op t xo yo u v; binOp op t u v : Sem Value).run P w = .ok z w ∧ VR ρ I r z := by
  classical
  unfold eqAgg at h
  split at h <;> (first | (exfalso; simp at h; done) | skip)
  rename_i cs ds
  split at h <;> (first | (exfalso; simp at h; done) | skip)
  rename_i hk
  obtain ⟨hkx, hky⟩ := hk
  have hsame := hkx.same hky hx hy
  have hgx := hkx.good hx
  have hgy := hky.good hy
  have hagg : ∀ {c : List AV} {u : Value}, VR ρ I (.agg c) u → ∃ a, u = .agg a := fun h => by cases h; exact ⟨_, rfl⟩
  obtain ⟨au, rfl⟩ := hagg hx
  obtain ⟨av, rfl⟩ := hagg hy
  rcases hgx with ⟨d, h1, h2, h3⟩ | ⟨ha, l, hl⟩
  · exfalso; cases d <;> simp_all [MapKept.IsKey]
  rcases hgy with ⟨d, h1, h2, h3⟩ | ⟨_, l', hl'⟩
  · exfalso; cases d <;> simp_all [MapKept.IsKey]
  obtain ⟨m, hm, hdeep⟩ := ha.deep
  obtain ⟨b, hb, hiff⟩ := run_equal_deep (P := P) w hm hdeep ha.wide hl hl'
  have hbe : b = decide (cs = ds) := by
    have : b = true ↔ cs = ds := by
      rw [hiff]
      constructor
      · intro e; subst e
        have := ha.law.inj hl hl'
        have h2 := hsame.1 this
        injection h2
      · intro e; subst e
        have := hsame.2 rfl
        rw [this, hl'] at hl
        exact (Option.some.inj hl).symm
    by_cases hcd : cs = ds
    · rw [this.2 hcd]; simp [hcd]
    · cases b with
      | true => exact absurd (this.1 rfl) hcd
      | false => simp [hcd]
  have hg : ∀ o : BinOp, (eqGuard o t xo yo (.agg au) (.agg av)).run P w = .ok () w := by
    intro o
    unfold eqGuard
    have hp : (program).run P w = .ok P w := rfl
    cases o <;> simp [hp, ha.guard]
  subst hbe
  cases op <;> simp at h <;> subst h
  · refine ⟨.bool (decide (cs = ds)), ?_, .v _⟩
    simp only [Sem.run_bind, hg, Result.andThen_ok, binOp, hb, Sem.run_pure]
  · refine ⟨.bool (!decide (cs = ds)), ?_, .v _⟩
    simp only [Sem.run_bind, hg, Result.andThen_ok, binOp, hb, Sem.run_pure]
end
end Go.Md

namespace Go.Md
open Go.RowKit
set_option linter.unusedVariables false

def szT (P : Program) (t : TypeId) : Option Nat := (P.info? t).map (·.size)
def aggT (P : Program) (t : TypeId) : Option Bool := match P.underlying t with
  | some (.struct _) => some true
  | some (.array _ _) => some true
  | some _ => some false
  | none => none

def unA (op : UnOp) : AV → Option AV
  | .v (.bool b) => match op with | .not => some (.v (.bool (!b))) | _ => none
  | .v (.int k n) => match op with | .neg => some (.v (.int k (k.wrap (0 - n)))) | _ => none
  | _ => none

def convInt (k : IntKind) : AV → Option AV
  | .v (.int _ n) => some (.v (.int k (k.wrap n)))
  | _ => none
def convStr : AV → Option AV
  | .v (.int _ n) => some (.v (.string (Utf8.encode n)))
  | .v (.string s) => some (.v (.string s))
  | _ => none

def okPart : AV → Bool
  | .agg _ => true
  | x => oneA x
def fillA (cells : List AV) : List (Nat × Nat × AV) → Option (List AV)
  | [] => some cells
  | (off, size, x) :: rest =>
    if (cellsA x).length = size ∧ off + size ≤ cells.length ∧ okPart x = true then fillA (cells.take off ++ cellsA x ++ cells.drop (off + size)) rest else none

def mapO {α β : Type} (f : α → Option β) : List α → Option (List β)
  | [] => some []
  | x :: xs => match f x, mapO f xs with
    | some y, some ys => some (y :: ys)
    | _, _ => none

def maxA : AV → AV → Option AV
  | .v (.int k x), .v (.int k' y) => if k = k' then some (.v (.int k (if y > x then y else x))) else none
  | _, _ => none
def minA : AV → AV → Option AV
  | .v (.int k x), .v (.int k' y) => if k = k' then some (.v (.int k (if y < x then y else x))) else none
  | _, _ => none

def sliceArr (H : Hp) (sz len : Nat) (x : AV) : Option AV :=
  match x with
  | .ptr id ver off => match H[id]? with
    | some (.cells ver' cs) => if ver = ver' ∧ off + len * sz ≤ cs.length ∧ 0 < len then some (.sl id ver sz off len) else none
    | _ => none
  | _ => none

noncomputable def valS (P : Program) (fr : Fr) (H : Hp) (o : Oper) : Option SV :=
  match o.op with
  | .move x => opS fr x
  | .assign x => opS fr x
  | .pick c a b => match opS fr c with
    | some (.av (.v (.bool t))) => match t with
      | true => opS fr a
      | false => opS fr b
    | _ => none
  | .binOp op t x y _ => match opV fr x, opV fr y with
    | some a, some b => match binA (tkOf P t) op a b with
      | some r => some (.av r)
      | none => (eqAgg P t op a b).map .av
    | _, _ => none
  | .lookup t m i ok => match opV fr m, opV fr i with
    | some a, some b => (lookV P H t a b ok).map .av
    | _, _ => none
  | .unOp op _ x => match opV fr x with
    | some a => (unA op a).map .av
    | none => none
  | .convert src dst x => match P.underlying src, P.underlying dst, opV fr x with
    | some _, some (.int k), some a => (convInt k a).map .av
    | some (.slice e), some .string, some a => match P.underlying e with
      | some (.int .u8) => (strOf H a).map .av
      | _ => none
    | some _, some .string, some a => (convStr a).map .av
    | _, _, _ => none
  | .extract x i => match opV fr x with
    | some a => (extractA a i).map .av
    | none => none
  | .field t x f => match P.underlying t, opV fr x with
    | some (.struct fs), some a => match fs[f]? with
      | some fd => match aggT P fd.type, szT P fd.type with
        | some g, some s => (fieldA g fd.offset s a).map .av
        | _, _ => none
      | none => none
    | _, _ => none
  | .load t x => match aggT P t, szT P t, opS fr x with
    | some g, some s, some a => (loadS fr H g s a).map .av
    | _, _, _ => none
  | .slice t x lo hi none => match P.underlying t, opS fr x with
    | some .string, some (.av (.v (.string s))) => (sliceA 0 (.v (.string s)) (lo.map (fun y => (opV fr y).getD (.v undef))) (hi.map (fun y => (opV fr y).getD (.v undef)))).map .av
    | some (.slice e), some (.av a) => match szT P e with
      | some s => (match a with
        | .v (.string _) => none
        | a => (sliceA s a (lo.map (fun y => (opV fr y).getD (.v undef))) (hi.map (fun y => (opV fr y).getD (.v undef)))).map .av)
      | none => none
    | some (.array n e), some (.av a) => match lo, hi, szT P e with
      | none, none, some s => (sliceArr H s n a).map .av
      | _, _, _ => none
    | _, _ => none
  | .index t x i => match P.underlying t, opV fr x, opV fr i with
    | some .string, some a, some b => (indexStr a b).map .av
    | some (.array n e), some (.agg cs), some (.v (.int _ j)) => match aggT P e, szT P e with
      | some g, some s => if 0 ≤ j ∧ j < n then (partA g (j.toNat * s) s cs).map .av else none
      | _, _ => none
    | _, _, _ => none
  | .indexAddr t x i => match P.underlying t, opS fr x, opV fr i with
    | some (.slice e), some (.av a), some b => match szT P e with
      | some s => (indexAddrA s a b).map .av
      | none => none
    | some (.array n e), some a, some b => match szT P e with
      | some s => indexArrA s n a b
      | none => none
    | _, _, _ => none
  | .fieldAddr t x f => match P.underlying t, opS fr x with
    | some (.struct fs), some a => match fs[f]? with
      | some fd => match szT P fd.type with
        | some (s + 1) => plusS fd.offset a
        | _ => none
      | none => none
    | _, _ => none
  | .nilCheck x => match opS fr x with
    | some a => nilCheckS a
    | none => none
  | .makeFunc fn first captured => match mapO (opV fr) first.toList, mapO (opV fr) captured.toList with
    | some xs, some ys => some (.av (.fn fn xs ys))
    | _, _ => none
  | .build t parts => match P.info? t, P.underlying t with
    | some i, some (.struct fs) => match i.zero, mapO (fun (f : Field) => (szT P f.type).map fun s => (f.offset, s)) fs.toList with
      | some z, some pl => match z.cells.toList.all Value.oneCell', mapO (fun (p : Nat × Operand) => match pl[p.1]?, opV fr p.2 with
          | some q, some a => some (q.1, q.2, a)
          | _, _ => none) parts.toList with
        | true, some ps => (fillA (z.cells.toList.map .v) ps).map fun cs => .av (.agg cs)
        | _, _ => none
      | _, _ => none
    | some i, some (.array n e) => match i.zero, (szT P e).map (fun s => (List.range n).map fun i => (i * s, s)) with
      | some z, some pl => match z.cells.toList.all Value.oneCell', mapO (fun (p : Nat × Operand) => match pl[p.1]?, opV fr p.2 with
          | some q, some a => some (q.1, q.2, a)
          | _, _ => none) parts.toList with
        | true, some ps => (fillA (z.cells.toList.map .v) ps).map fun cs => .av (.agg cs)
        | _, _ => none
      | _, _ => none
    | _, _ => none
  | .call c => match c.callee, c.args.toList, c.argTypes.toList with
    | .builtin .len, [x], t :: _ => match P.underlying t, opV fr x with
      | some .string, some a => (match a with | .v (.string s) => some (.av (.v (.int .i64 s.size))) | _ => none)
      | some (.slice _), some a => (match a with | .v (.string _) => none | .v (.map _) => none | a => (lenA a).map .av)
      | some (.map _ _), some a => (match a with | .mp id => (lenM H (.mp id)).map .av | .v (.map none) => some (.av (.v (.int .i64 0))) | _ => none)
      | some (.array n _), some _ => some (.av (.v (.int .i64 n)))
      | _, _ => none
    | .builtin .max, [x, y], _ => match opV fr x, opV fr y with
      | some a, some b => (maxA a b).map .av
      | _, _ => none
    | .builtin .min, [x, y], _ => match opV fr x, opV fr y with
      | some a, some b => (minA a b).map .av
      | _, _ => none
    | _, _, _ => none
  | _ => none

section
variable {P : Program} {N : Nat} {fr : Fr} {H : Hp} {ρ : Rho} {I : Imm} {β : Nat → Option Nat} {a : Act} {w : World}

theorem run_v {S : Sem Value} {u : Value} {w' : World} (h : S.run P w = .ok u w') : ((do pure (Next.value (← S))) : Sem Next).run P w = .ok (.value u) w' := by simp [h]
theorem szT_run {t : TypeId} {s : Nat} (h : szT P t = some s) : (sizeOf t).run P w = .ok s w := by
  unfold szT at h
  cases hi : P.info? t with
  | none => simp [hi] at h
  | some i => simp [hi] at h; simp [sizeOf, typeInfo, hi, h]
theorem aggT_run {t : TypeId} {g : Bool} (h : aggT P t = some g) : (isAgg t).run P w = .ok g w := by
  unfold aggT at h
  split at h <;> simp at h <;> subst h <;> rename_i hd <;> simp only [isAgg, Sem.run_bind, run_underlying hd, Result.andThen_ok] <;> first | rfl | skip

theorem run_loadVar_at {t : TypeId} {g : Bool} {s off b o : Nat} {cs : List AV} {us : List Value} {x : AV} (hg : aggT P t = some g) (hs : szT P t = some s)
    (hv : VRs ρ I cs us) (ho : ∀ u ∈ us, u.oneCell' = true) (hc : ∀ (i : Nat) (u : Value), us[i]? = some u → w.cell? ⟨b, o + i, none⟩ = some u) (h : partA g off s cs = some x) :
    ∃ u, (loadVar t ⟨b, o + off, none⟩).run P w = .ok u w ∧ VR ρ I x u := by
  cases g with
  | true =>
    simp only [partA] at h
    split at h <;> simp at h
    subst h
    rename_i hle
    have hl : ((us.drop off).take s).length = s := by simp [hv.1]; omega
    refine ⟨.agg ((us.drop off).take s).toArray, ?_, .agg _ _ ?_ ?_ ?_⟩
    · have := run_loadCells_list (P := P) w ⟨b, o + off, none⟩ ((us.drop off).take s) (fun j v hj => by
        rw [Addr.add_mid, Nat.add_assoc]
        refine hc _ _ ?_
        rw [List.getElem?_take] at hj
        split at hj
        · rwa [List.getElem?_drop] at hj
        · simp at hj)
      rw [hl] at this
      simp only [loadVar, Sem.run_bind, aggT_run hg, Result.andThen_ok, if_true, szT_run hs, this, Sem.run_pure]
    · exact ((hv.drop off).take s).1
    · exact ((hv.drop off).take s).2
    · intro u hu; exact ho u (List.mem_of_mem_drop (List.mem_of_mem_take hu))
  | false =>
    simp only [partA] at h
    obtain ⟨u, hu, hx⟩ := hv.get h
    refine ⟨u, ?_, hx⟩
    simp only [loadVar, Sem.run_bind, aggT_run hg, Result.andThen_ok, Bool.false_eq_true, if_false]
    simp [hc off u hu]

theorem CellsR.list {blk base size : Nat} {cs : List AV} (h : CellsR ρ I w blk base size cs) :
    ∃ us : List Value, VRs ρ I cs us ∧ (∀ u ∈ us, u.oneCell' = true) ∧ ∀ (i : Nat) (u : Value), us[i]? = some u → w.cell? ⟨blk, base + i, none⟩ = some u := by
  obtain ⟨arr, T, h1, h2, h3, h4⟩ := h
  have hl : ((arr.toList.drop base).take cs.length).length = cs.length := by simp; omega
  have hget : ∀ i, i < cs.length → ((arr.toList.drop base).take cs.length)[i]? = arr[base + i]? := fun i hi => by
    rw [List.getElem?_take, if_pos hi, List.getElem?_drop, Array.getElem?_toList]
  refine ⟨(arr.toList.drop base).take cs.length, VRs.of_get hl ?_, ?_, ?_⟩
  · intro i c u hc hu
    have hi := (List.getElem?_eq_some_iff.1 hc).1
    obtain ⟨u', hu', hv, _⟩ := h4 i c hc
    rw [hget i hi, hu'] at hu
    simp at hu; subst hu; exact hv
  · intro u hu
    obtain ⟨i, hu⟩ := List.getElem?_of_mem hu
    have hi : i < cs.length := by have := (List.getElem?_eq_some_iff.1 hu).1; rw [hl] at this; exact this
    obtain ⟨u', hu', _, ho⟩ := h4 i _ (List.getElem?_eq_getElem hi)
    rw [hget i hi, hu'] at hu
    simp at hu; subst hu; exact ho
  · intro i u hu
    have hi : i < cs.length := by have := (List.getElem?_eq_some_iff.1 hu).1; rw [hl] at this; exact this
    rw [hget i hi] at hu
    simp [World.cell?, h1, hu]

theorem load_sound (hs : Sim N ρ I β fr H a w) {t : TypeId} {g : Bool} {s : Nat} {x : SV} {r : AV} {v : Value} (hg : aggT P t = some g) (hz : szT P t = some s) (hx : SVR ρ I β x v) (h : loadS fr H g s x = some r) :
    ∃ u, (Instr.loadAt t v).run P w = .ok u w ∧ VR ρ I r u := by
  cases x with
  | un => simp [loadS] at h
  | bp t' off =>
    obtain ⟨b, hb, rfl⟩ := hx
    simp only [loadS] at h
    split at h <;> (first | (exfalso; simp at h; done) | skip)
    rename_i cs hcs
    obtain ⟨b', hb', hcell, _, _⟩ := hs.box t' cs hcs
    rw [hb] at hb'; simp at hb'; subst hb'
    obtain ⟨us, hv, ho, hc⟩ := hcell.list
    obtain ⟨u, hu, hr⟩ := run_loadVar_at (o := 0) (b := b) hg hz hv ho (fun i u hi => hc i u hi) h
    refine ⟨u, ?_, hr⟩
    have e0 : 0 + off = off := Nat.zero_add off
    rw [e0] at hu
    exact hu
  | av x =>
    simp only [loadS] at h
    unfold loadA at h
    split at h
    · cases hx with
      | rp cs us ad off h1 h2 h3 =>
        obtain ⟨u, hu, hr⟩ := run_loadVar_at (P := P) (w := w) (o := ad.off) (b := ad.block) hg hz (⟨h1, h2⟩ : VRs ρ I _ us) (by obtain ⟨_, ho, _⟩ := h3; exact ho) (fun i u hi => h3.cell hs.heap.imm hi) h
        exact ⟨u, by simpa [Instr.loadAt, Instr.sureAddr] using hu, hr⟩
    · cases hx with
      | ptr _ _ _ l hl =>
        split at h <;> simp at h
        rename_i ver' cs' hob
        obtain ⟨rfl, h⟩ := h
        obtain ⟨_, l', hl', hcell⟩ := hs.heap.obj _ _ hob
        rw [hl] at hl'; simp at hl'; subst hl'
        obtain ⟨us, hv, ho, hc⟩ := hcell.list
        obtain ⟨u, hu, hr⟩ := run_loadVar_at (o := l.base) (b := l.blk) hg hz hv ho (fun i u hi => hc i u hi) h
        exact ⟨u, by simpa [Instr.loadAt, Instr.sureAddr] using hu, hr⟩
    · simp at h

theorem plus_sound {x y : SV} {k : Nat} {v : Value} (hx : SVR ρ I β x v) (h : plusS k x = some y) : ∃ ad, v = .pointer (some ad) ∧ SVR ρ I β y (.pointer (some (ad.add k))) := by
  unfold plusS at h
  split at h <;> simp at h <;> subst h
  · cases hx with
    | rp _ us ad _ h1 h2 h3 => exact ⟨_, rfl, by rw [Addr.add_mid, Nat.add_assoc]; exact .rp _ us ad _ h1 h2 h3⟩
  · cases hx with
    | ptr _ _ _ l hl => exact ⟨_, rfl, by rw [Addr.add_mid, Nat.add_assoc]; exact .ptr _ _ _ l hl⟩
  · obtain ⟨b, hb, rfl⟩ := hx
    exact ⟨_, rfl, by rw [Addr.add_mid]; exact ⟨b, hb, rfl⟩⟩

theorem mapO_get {α β' : Type} {f : α → Option β'} : ∀ {xs : List α} {ys : List β'}, mapO f xs = some ys → ys.length = xs.length ∧ ∀ (i : Nat) (y : β'), ys[i]? = some y → ∃ x, xs[i]? = some x ∧ f x = some y
  | [], ys, h => by simp [mapO] at h; subst h; exact ⟨rfl, fun i y hy => by simp at hy⟩
  | x :: xs, ys, h => by
    simp only [mapO] at h
    split at h <;> simp at h
    subst h
    rename_i y ys' hy hys
    obtain ⟨h1, h2⟩ := mapO_get hys
    refine ⟨by simp [h1], fun i z hz => ?_⟩
    cases i with
    | zero => simp at hz; subst hz; exact ⟨x, rfl, hy⟩
    | succ i => obtain ⟨x', hx', hf⟩ := h2 i z (by simpa using hz); exact ⟨x', by simpa using hx', hf⟩
theorem mapO_vrs (hs : Sim N ρ I β fr H a w) {xs : List Operand} {ys : List AV} (h : mapO (opV fr) xs = some ys) : VRs ρ I ys (xs.map a.eval) := by
  obtain ⟨h1, h2⟩ := mapO_get h
  refine VRs.of_get (by simp [h1]) fun i c u hc hu => ?_
  obtain ⟨x, hx, hf⟩ := h2 i c hc
  simp [hx] at hu; subst hu
  exact opV_sound hs hf
end
end Go.Md

namespace Go.Md
open Go.RowKit
set_option linter.unusedVariables false

section
variable {P : Program} {N : Nat} {fr : Fr} {H : Hp} {ρ : Rho} {I : Imm} {β : Nat → Option Nat} {a : Act} {w : World}

theorem opV_some {x : Operand} {y : AV} (h : opS fr x = some (.av y)) : opV fr x = some y := by simp [opV, h]
theorem opS_of_opV {x : Operand} {y : AV} (h : opV fr x = some y) : opS fr x = some (.av y) := by
  unfold opV at h; split at h
  · rename_i z hz; simp at h; subst h; exact hz
  · simp at h

theorem bytes_run : ∀ (cs : List AV) (us : List Value) (bs : List UInt8) (s0 : ByteArray), VRs ρ I cs us → bytesOf cs = some bs →
    (forIn (m := Sem) us s0 (fun c r => match c with
      | .int .u8 n => pure (ForInStep.yield (r.push (UInt8.ofNat n.toNat)))
      | _ => do
        (stuck "bytesToString: byte expected" : Sem PUnit)
        pure (ForInStep.yield r))).run P w = .ok ⟨(s0.data.toList ++ bs).toArray⟩ w
  | [], us, bs, s0, hv, h => by
    have : us = [] := by have := hv.1; simpa using this
    subst this
    simp [bytesOf] at h; subst h
    simp
  | c :: cs, us, bs, s0, hv, h => by
    cases us with
    | nil => have := hv.1; simp at this
    | cons u us =>
      simp only [bytesOf] at h
      split at h <;> simp at h
      subst h
      rename_i b bs' hb hbs
      have hu : VR ρ I c u := by simpa using hv.2 0 c rfl
      unfold byteOf at hb
      split at hb <;> simp at hb
      subst hb
      cases hu
      have hv' : VRs ρ I cs us := by simpa using hv.drop 1
      rw [List.forIn_cons]
      simp only [Sem.run_bind, Sem.run_pure, Result.andThen_ok]
      rw [bytes_run cs us bs' _ hv' hbs]
      simp

theorem strOf_sound (hs : Sim N ρ I β fr H a w) {x r : AV} {v : Value} (hx : VR ρ I x v) (h : strOf H x = some r) : ∃ u, (Conv.bytesToString v).run P w = .ok u w ∧ VR ρ I r u := by
  unfold strOf at h
  split at h
  · cases hx; simp at h; subst h; exact ⟨_, rfl, .v _⟩
  · rename_i xx n cs
    split at h <;> simp at h
    rename_i hlen
    obtain ⟨bs, hbs, rfl⟩ := h
    cases hx with
    | row _ _ _ us ad cap h1 h2 h3 h4 h5 h6 =>
      have hv : VRs ρ I cs us := ⟨h1, h2⟩
      rcases h3 with ⟨rfl, rfl⟩ | ⟨ad', rfl, hrd⟩
      · have : cs = [] := by simpa using h1.symm
        subst this
        simp [bytesOf] at hbs; subst hbs
        cases ad with
        | none => exact ⟨_, rfl, .v _⟩
        | some ad => refine ⟨_, ?_, .v _⟩; simp [Conv.bytesToString, loadCells, loadCellsFrom]; rfl
      · have hl := run_loadCells_list (P := P) w ad' us (fun j v hj => by
          have h0 : ad'.spot = none := hrd.1
          obtain ⟨blk, off, spot⟩ := ad'
          simp only at h0; subst h0
          rw [Addr.add_mid]; exact hrd.cell hs.heap.imm hj)
        rw [h1, hlen] at hl
        refine ⟨_, ?_, .v _⟩
        simp only [Conv.bytesToString, Sem.run_bind, hl, Result.andThen_ok]
        have := bytes_run (P := P) (w := w) cs us bs .empty hv hbs
        simp only [List.forIn_toArray, Sem.run_pure]
        exact congrArg (fun r => Result.andThen r (fun (s : ByteArray) w' => Result.ok (Value.string s) w')) this
  · rename_i id ver sz off n
    split at h <;> simp at h
    rename_i ver' cs hob
    obtain ⟨⟨rfl, hle⟩, bs, hbs, rfl⟩ := h
    cases hx with
    | sl _ _ _ _ _ l cap hl hn hcap =>
      obtain ⟨_, l', hl', hcell⟩ := hs.heap.obj _ _ hob
      rw [hl] at hl'; simp at hl'; subst hl'
      obtain ⟨us, hv, ho, hc⟩ := hcell.list
      have hlen : ((us.drop off).take n).length = n := by simp [hv.1]; omega
      have hll := run_loadCells_list (P := P) w ⟨l.blk, l.base + off, none⟩ ((us.drop off).take n) (fun j v hj => by
        rw [Addr.add_mid, Nat.add_assoc]
        refine hc _ _ ?_
        rw [List.getElem?_take] at hj
        split at hj
        · rwa [List.getElem?_drop] at hj
        · simp at hj)
      rw [hlen] at hll
      refine ⟨_, ?_, .v _⟩
      simp only [Conv.bytesToString, Sem.run_bind, hll, Result.andThen_ok]
      have := bytes_run (P := P) (w := w) _ _ bs .empty ((hv.drop off).take n) hbs
      simp only [List.forIn_toArray, Sem.run_pure]
      exact congrArg (fun r => Result.andThen r (fun (s : ByteArray) w' => Result.ok (Value.string s) w')) this
  · simp at h

theorem bound_run {k : IntKind} {i : Int} {y : Nat} {code : BoundsCode} (h0 : 0 ≤ i) (h1 : i ≤ y) : (Instr.sliceBound (.int k i) y code).run P w = .ok i.toNat w := by
  simp [Instr.sliceBound, asIntOf, h0, h1]

theorem sliceStr_sound {s : ByteArray} {lo hi : Option AV} {r : AV} {t : TypeId} {lv hv : Option Value} (ht : P.underlying t = some .string)
    (hlo : ∀ x, lo = some x → ∃ v, lv = some v ∧ VR ρ I x v) (hlo' : lo = none → lv = none) (hhi : ∀ x, hi = some x → ∃ v, hv = some v ∧ VR ρ I x v) (hhi' : hi = none → hv = none)
    (h : sliceA 0 (.v (.string s)) lo hi = some r) : ∃ u, (Instr.sliceAt t (.string s) lv hv none).run P w = .ok u w ∧ VR ρ I r u := by
  have key : ∀ (l h' : Int), sliceStr s l h' = some r → 0 ≤ l ∧ l ≤ h' ∧ h' ≤ s.size ∧ r = .v (.string (s.extract l.toNat h'.toNat)) := by
    intro l h' hh
    unfold sliceStr at hh
    split at hh <;> simp at hh
    rename_i hc
    exact ⟨hc.1, hc.2.1, hc.2.2, hh.symm⟩
  have go : (Instr.sliceAt t (.string s) lv hv none).run P w = (Instr.slice t (.string s) lv hv none).run P w := by
    simp only [Instr.sliceAt, Sem.run_bind, run_underlying ht, Result.andThen_ok]
  simp only [sliceA] at h
  split at h
  · obtain ⟨h1, h2, h3, rfl⟩ := key _ _ h
    rw [hlo' rfl, hhi' rfl] at go
    refine ⟨_, ?_, .v _⟩
    rw [hlo' rfl, hhi' rfl, go]
    simp [Instr.slice, run_underlying ht, Instr.sliceBounds]
  · rename_i k l
    obtain ⟨h1, h2, h3, rfl⟩ := key _ _ h
    obtain ⟨v, rfl, hv'⟩ := hlo _ rfl
    cases hv'
    rw [hhi' rfl] at go
    refine ⟨_, ?_, .v _⟩
    rw [hhi' rfl, go]
    simp [Instr.slice, run_underlying ht, Instr.sliceBounds, bound_run h1 h2]
  · rename_i k h'
    obtain ⟨h1, h2, h3, rfl⟩ := key _ _ h
    obtain ⟨v, rfl, hv'⟩ := hhi _ rfl
    cases hv'
    rw [hlo' rfl] at go
    refine ⟨_, ?_, .v _⟩
    rw [hlo' rfl, go]
    simp [Instr.slice, run_underlying ht, Instr.sliceBounds, bound_run h2 h3]
  · rename_i k l k' h'
    obtain ⟨h1, h2, h3, rfl⟩ := key _ _ h
    obtain ⟨v, rfl, hv'⟩ := hlo _ rfl
    cases hv'
    obtain ⟨v, rfl, hv'⟩ := hhi _ rfl
    cases hv'
    refine ⟨_, ?_, .v _⟩
    rw [go]
    have e : l ≤ (h'.toNat : Int) := by omega
    simp [Instr.slice, run_underlying ht, Instr.sliceBounds, bound_run (Int.le_trans h1 h2) h3, bound_run h1 e]
  · simp at h

theorem index_sound {t : TypeId} {x y r : AV} {u v : Value} (ht : P.underlying t = some .string) (hx : VR ρ I x u) (hy : VR ρ I y v) (h : indexStr x y = some r) :
    ∃ z, (Instr.index t u v).run P w = .ok z w ∧ VR ρ I r z := by
  unfold indexStr at h
  split at h
  · split at h <;> simp at h
    subst h
    rename_i hh
    cases hx; cases hy
    refine ⟨_, ?_, .v _⟩
    have e : ∀ (s : ByteArray) (i : Nat) (hi : i < s.size), s[i]? = some s[i] := fun s i hi => by simp [hi]
    simp [Instr.index, asIntOf, run_underlying ht, hh.1, hh.2]
  · simp at h

theorem indexAddr_sound {t e : TypeId} {s : Nat} {x y r : AV} {u v : Value} (ht : P.underlying t = some (.slice e)) (hz : szT P e = some s) (hx : VR ρ I x u) (hy : VR ρ I y v) (h : indexAddrA s x y = some r) :
    ∃ z, (Instr.indexAt t u v).run P w = .ok z w ∧ VR ρ I r z := by
  unfold indexAddrA at h
  split at h
  · rename_i xx n cs k i
    split at h <;> simp at h
    subst h
    rename_i hi
    cases hy
    cases hx with
    | row _ _ _ us ad cap h1 h2 h3 h4 h5 h6 =>
      rcases h3 with ⟨rfl, _⟩ | ⟨ad', rfl, hrd⟩
      · exfalso; omega
      · refine ⟨_, ?_, .rp cs us ad' _ h1 h2 hrd⟩
        have h0 : ad'.spot = none := hrd.1
        obtain ⟨blk, off, spot⟩ := ad'
        simp only at h0; subst h0
        have hi2 : i < (n : Int) := hi.2
        simp [Instr.indexAt, asIntOf, run_underlying ht, hi.1, hi2, szT_run hz, Addr.add_mid]
  · rename_i id ver s' off n k i
    split at h <;> simp at h
    subst h
    rename_i hi
    cases hy
    cases hx with
    | sl _ _ _ _ _ l cap hl hn hcap =>
      refine ⟨.pointer (some ⟨l.blk, l.base + (off + i.toNat * s), none⟩), ?_, .ptr id ver _ l hl⟩
      have hi2 : i < (n : Int) := hi.2
      simp [Instr.indexAt, asIntOf, run_underlying ht, hi.1, hi2, szT_run hz, Addr.add_mid, Nat.add_assoc]
  · simp at h

theorem indexArr_sound {t e : TypeId} {s n : Nat} {x : SV} {y : AV} {r : SV} {u v : Value} (ht : P.underlying t = some (.array n e)) (hz : szT P e = some s) (hx : SVR ρ I β x u) (hy : VR ρ I y v) (h : indexArrA s n x y = some r) :
    ∃ z, (Instr.indexAt t u v).run P w = .ok z w ∧ SVR ρ I β r z := by
  unfold indexArrA at h
  split at h
  · rename_i k i
    split at h <;> (first | (exfalso; simp at h; done) | skip)
    rename_i hi
    cases hy
    obtain ⟨ad, rfl, hr⟩ := plus_sound hx h
    refine ⟨_, ?_, hr⟩
    have hi2 : i < (n : Int) := hi.2
    simp [Instr.indexAt, asIntOf, run_underlying ht, hi.1, hi2, szT_run hz, Instr.sureAddr]
  · simp at h

theorem sliceSl_sound {t e : TypeId} {s : Nat} {x r : AV} {lo hi : Option AV} {u : Value} {lv hv : Option Value} (ht : P.underlying t = some (.slice e)) (hz : szT P e = some s) (hnstr : ∀ z, x ≠ .v (.string z)) (hx : VR ρ I x u)
    (hlo : ∀ x, lo = some x → ∃ v, lv = some v ∧ VR ρ I x v) (hlo' : lo = none → lv = none) (hhi : ∀ x, hi = some x → ∃ v, hv = some v ∧ VR ρ I x v) (hhi' : hi = none → hv = none)
    (h : sliceA s x lo hi = some r) : ∃ z, (Instr.sliceAt t u lv hv none).run P w = .ok z w ∧ VR ρ I r z := by
  have run : ∀ (ad : Option Addr) (n cap : Nat) (l h' : Int), 0 ≤ l → l ≤ h' → h' ≤ n → n ≤ cap → (lo = none ∧ l = 0 ∨ ∃ k, lo = some (.v (.int k l))) → (hi = none ∧ h' = n ∨ ∃ k, hi = some (.v (.int k h'))) →
      (Instr.sliceAt t (.slice ad n cap) lv hv none).run P w = .ok (.slice (if cap = l.toNat then ad else ad.map (·.add (l.toNat * s))) (h' - l).toNat (cap - l.toNat)) w := by
    intro ad n cap l h' h0 h1 h2 h3 hl hh
    have go : (Instr.sliceAt t (.slice ad n cap) lv hv none).run P w = (Instr.slice t (.slice ad n cap) lv hv none).run P w := by
      simp only [Instr.sliceAt, Sem.run_bind, run_underlying ht, Result.andThen_ok]
    have hc : h' ≤ (cap : Int) := by omega
    have e1 : l ≤ (h'.toNat : Int) := by omega
    have e2 : (h' - l).toNat = h'.toNat - l.toNat := by omega
    rw [go]
    rcases hl with ⟨hl, rfl⟩ | ⟨k, hl⟩ <;> rcases hh with ⟨hh, rfl⟩ | ⟨k', hh⟩
    · rw [hlo' hl, hhi' hh]
      simp [Instr.slice, run_underlying ht, Instr.sliceBounds, szT_run hz]
    · rw [hlo' hl]
      obtain ⟨v, rfl, hv'⟩ := hhi _ hh
      cases hv'
      simp [Instr.slice, run_underlying ht, Instr.sliceBounds, bound_run (Int.le_trans h0 h1) hc, szT_run hz]
    · rw [hhi' hh]
      obtain ⟨v, rfl, hv'⟩ := hlo _ hl
      cases hv'
      simp [Instr.slice, run_underlying ht, Instr.sliceBounds, bound_run h0 h1, szT_run hz]
      omega
    · obtain ⟨v, rfl, hv'⟩ := hlo _ hl
      cases hv'
      obtain ⟨v, rfl, hv'⟩ := hhi _ hh
      cases hv'
      simp [Instr.slice, run_underlying ht, Instr.sliceBounds, bound_run (Int.le_trans h0 h1) hc, bound_run h0 e1, szT_run hz, e2]
  have rowcase : ∀ (xx : Bool) (n : Nat) (cs : List AV) (l h' : Int), x = .row xx n cs → sliceRow s xx n cs l h' = some r → (lo = none ∧ l = 0 ∨ ∃ k, lo = some (.v (.int k l))) → (hi = none ∧ h' = n ∨ ∃ k, hi = some (.v (.int k h'))) →
      ∃ z, (Instr.sliceAt t u lv hv none).run P w = .ok z w ∧ VR ρ I r z := by
    intro xx n cs l h' hxe hh hl hhh
    subst hxe
    unfold sliceRow at hh
    split at hh <;> simp at hh
    subst hh
    rename_i hc
    cases hx with
    | row _ _ _ us ad cap h1 h2 h3 h4 h5 h6 =>
      refine ⟨_, run ad n cap l h' hc.1 hc.2.1 hc.2.2 h5 hl hhh, ?_⟩
      have hv : VRs ρ I cs us := ⟨h1, h2⟩
      have hv' := (hv.drop (l.toNat * s)).take ((h' - l).toNat * s)
      refine .row false _ _ ((us.drop (l.toNat * s)).take ((h' - l).toNat * s)) _ _ hv'.1 hv'.2 ?_ ?_ (by omega) (by simp)
      · rcases h3 with ⟨rfl, rfl⟩ | ⟨ad', rfl, hrd⟩
        · exact .inl ⟨by omega, by simp⟩
        · by_cases hcl : cap = l.toNat
          · left
            refine ⟨by omega, ?_⟩
            have : (h' - l).toNat = 0 := by omega
            simp [this]
          · right
            rw [if_neg hcl]
            have h0 : ad'.spot = none := hrd.1
            obtain ⟨blk, off, spot⟩ := ad'
            simp only at h0; subst h0
            exact ⟨_, rfl, by show Rd I (Addr.add ⟨blk, off, none⟩ _) _; rw [Addr.add_mid]; exact (hrd.drop _).take _⟩
      · intro ad' hh
        split at hh
        · rename_i hcl; right; omega
        · cases ad with
          | none => simp at hh
          | some ad0 =>
            rcases h4 _ rfl with h0 | h0
            · left
              obtain ⟨blk, off, spot⟩ := ad0
              simp only at h0; subst h0
              simp [Addr.add_mid] at hh; subst hh; rfl
            · right; omega
  have slcase : ∀ (id ver s' off n : Nat) (l h' : Int), x = .sl id ver s' off n → sliceSl s id ver s' off n l h' = some r → (lo = none ∧ l = 0 ∨ ∃ k, lo = some (.v (.int k l))) → (hi = none ∧ h' = n ∨ ∃ k, hi = some (.v (.int k h'))) →
      ∃ z, (Instr.sliceAt t u lv hv none).run P w = .ok z w ∧ VR ρ I r z := by
    intro id ver s' off n l h' hxe hh hl hhh
    subst hxe
    unfold sliceSl at hh
    split at hh <;> simp at hh
    rename_i he
    subst he
    obtain ⟨hc, hh⟩ := hh
    cases hx with
    | sl _ _ _ _ _ lc cap hlc hn hcap =>
      refine ⟨_, run _ n cap l h' hc.1 hc.2.1 hc.2.2 hn hl hhh, ?_⟩
      split at hh <;> simp at hh <;> subst hh
      · rename_i hln
        have : cap ≠ l.toNat := by omega
        rw [if_neg this]
        simp only [Option.map_some, Addr.add_mid, Nat.add_assoc]
        refine .sl id ver _ _ _ lc _ hlc (by omega) ?_
        have e : cap = (cap - l.toNat) + l.toNat := by omega
        have : cap * s' = (cap - l.toNat) * s' + l.toNat * s' := by rw [← Nat.add_mul, ← e]
        omega
      · rename_i hln
        have e0 : (h' - l).toNat = 0 := by omega
        rw [e0]
        refine .row false 0 [] [] _ _ rfl (fun i c hc => by simp at hc) (.inl ⟨rfl, rfl⟩) ?_ (by omega) (by simp)
        intro ad' hh
        split at hh
        · simp at hh; subst hh; exact .inl rfl
        · simp [Addr.add_mid] at hh; subst hh; exact .inl rfl
  unfold sliceA at h
  split at h
  · rename_i z; exact absurd rfl (hnstr z)
  · rename_i xx n cs
    split at h
    · rename_i k l; exact rowcase xx n cs l n rfl h (.inr ⟨k, rfl⟩) (.inl ⟨rfl, rfl⟩)
    · rename_i k h'; exact rowcase xx n cs 0 h' rfl h (.inl ⟨rfl, rfl⟩) (.inr ⟨k, rfl⟩)
    · rename_i k l k' h'; exact rowcase xx n cs l h' rfl h (.inr ⟨k, rfl⟩) (.inr ⟨k', rfl⟩)
    · simp at h
  · rename_i id ver s' off n
    split at h
    · rename_i k l; exact slcase id ver s' off n l n rfl h (.inr ⟨k, rfl⟩) (.inl ⟨rfl, rfl⟩)
    · rename_i k h'; exact slcase id ver s' off n 0 h' rfl h (.inl ⟨rfl, rfl⟩) (.inr ⟨k, rfl⟩)
    · rename_i k l k' h'; exact slcase id ver s' off n l h' rfl h (.inr ⟨k, rfl⟩) (.inr ⟨k', rfl⟩)
    · simp at h
  · cases hx
    split at h
    · rename_i k l
      split at h <;> simp at h
      subst h
      rename_i hl; subst hl
      have := run none 0 0 0 0 (by omega) (by omega) (by omega) (by omega) (.inr ⟨k, rfl⟩) (.inl ⟨rfl, rfl⟩)
      exact ⟨_, by simpa using this, .v _⟩
    · rename_i k h'
      split at h <;> simp at h
      subst h
      rename_i hl; subst hl
      have := run none 0 0 0 0 (by omega) (by omega) (by omega) (by omega) (.inl ⟨rfl, rfl⟩) (.inr ⟨k, rfl⟩)
      exact ⟨_, by simpa using this, .v _⟩
    · simp at h
  · simp at h

end
end Go.Md

namespace Go.Md
open Go.RowKit
set_option linter.unusedVariables false

section
variable {P : Program} {N : Nat} {fr : Fr} {H : Hp} {ρ : Rho} {I : Imm} {β : Nat → Option Nat} {a : Act} {w : World}

theorem part_sound {t : TypeId} {g : Bool} {s off : Nat} {cs : List AV} {us : List Value} {x : AV} (hg : aggT P t = some g) (hs : szT P t = some s) (hv : VRs ρ I cs us) (ho : ∀ u ∈ us, u.oneCell' = true)
    (h : partA g off s cs = some x) : ∃ u, (part t us.toArray off).run P w = .ok u w ∧ VR ρ I x u := by
  cases g with
  | true =>
    simp only [partA] at h
    split at h <;> simp at h
    subst h
    rename_i hle
    refine ⟨.agg ((us.drop off).take s).toArray, ?_, .agg _ _ ((hv.drop off).take s).1 ((hv.drop off).take s).2 (fun u hu => ho u (List.mem_of_mem_drop (List.mem_of_mem_take hu)))⟩
    simp only [part, Sem.run_bind, aggT_run hg, Result.andThen_ok, if_true, szT_run hs, Sem.run_pure]
    congr 2
    apply Array.ext'
    simp [List.extract_eq_take_drop]
  | false =>
    simp only [partA] at h
    obtain ⟨u, hu, hx⟩ := hv.get h
    refine ⟨u, ?_, hx⟩
    simp only [part, Sem.run_bind, aggT_run hg, Result.andThen_ok, Bool.false_eq_true, if_false]
    simp [hu]

theorem cells_vr {x : AV} {u : Value} (h : VR ρ I x u) (hx : okPart x = true) : VRs ρ I (cellsA x) u.cells.toList ∧ ∀ z ∈ u.cells.toList, z.oneCell' = true := by
  cases h with
  | agg cs us h1 h2 h3 => exact ⟨⟨h1, h2⟩, h3⟩
  | tup cs us h1 h2 => simp [okPart, oneA] at hx
  | v =>
    simp only [okPart, oneA] at hx
    have : u.cells = #[u] := by cases u <;> first | rfl | (simp [Value.oneCell'] at hx)
    rw [this]
    exact ⟨VRs.cons (.v u) VRs.nil, by simp [hx]⟩
  | row x n cs us ad cap h1 h2 h3 h4 h5 h6 => exact ⟨VRs.cons (.row x n cs us ad cap h1 h2 h3 h4 h5 h6) VRs.nil, by simp [Value.cells, Value.oneCell']⟩
  | sl id ver sz off n l cap h1 h2 h3 => exact ⟨VRs.cons (.sl id ver sz off n l cap h1 h2 h3) VRs.nil, by simp [Value.cells, Value.oneCell']⟩
  | ptr id ver off l h1 => exact ⟨VRs.cons (.ptr id ver off l h1) VRs.nil, by simp [Value.cells, Value.oneCell']⟩
  | rp cs us ad off h1 h2 h3 => exact ⟨VRs.cons (.rp cs us ad off h1 h2 h3) VRs.nil, by simp [Value.cells, Value.oneCell']⟩
  | mp id l h1 => exact ⟨VRs.cons (.mp id l h1) VRs.nil, by simp [Value.cells, Value.oneCell']⟩
  | it id l h1 => exact ⟨VRs.cons (.it id l h1) VRs.nil, by simp [Value.cells, Value.oneCell']⟩
  | fn f fs cs us vs h1 h2 h3 h4 => exact ⟨VRs.cons (.fn f fs cs us vs h1 h2 h3 h4) VRs.nil, by simp [Value.cells, Value.oneCell']⟩

theorem foldl_set (vs : List Value) : ∀ (k off : Nat) (cells : Array Value), off + k + vs.length ≤ cells.size →
    ((vs.zipIdx k).foldl (fun cs (p : Value × Nat) => cs.setIfInBounds (off + p.2) p.1) cells).toList = cells.toList.take (off + k) ++ vs ++ cells.toList.drop (off + k + vs.length) := by
  induction vs with
  | nil => intro k off cells h; simp
  | cons v vs ih =>
    intro k off cells h
    simp only [List.zipIdx_cons, List.foldl_cons]
    simp only [List.length_cons] at h
    rw [ih (k + 1) off _ (by simp; omega)]
    simp only [Array.toList_setIfInBounds, List.length_cons]
    have hl : off + k < cells.toList.length := by simp; omega
    rw [show off + (k + 1) = off + k + 1 from by omega, show off + k + 1 + vs.length = off + k + (vs.length + 1) from by omega]
    rw [List.drop_set_of_lt (by omega)]
    have : (cells.toList.set (off + k) v).take (off + k + 1) = cells.toList.take (off + k) ++ [v] := by
      rw [List.take_succ_eq_append_getElem (by simpa using hl), List.take_set_of_le (by omega)]
      simp
    rw [this]
    simp

theorem fill_sound (places : Nat → Option (Nat × Nat)) : ∀ (ps : List (Nat × Nat × AV)) (qs : List (Nat × Value)) (cells : List AV) (arr : Array Value) (r : List AV),
    VRs ρ I cells arr.toList → (∀ u ∈ arr.toList, u.oneCell' = true) → qs.length = ps.length → (∀ (i : Nat) (p : Nat × Nat × AV), ps[i]? = some p → ∃ q : Nat × Value, qs[i]? = some q ∧ places q.1 = some (p.1, p.2.1) ∧ VR ρ I p.2.2 q.2) →
    fillA cells ps = some r → ∃ arr', Instr.fill places arr qs = some arr' ∧ VRs ρ I r arr'.toList ∧ ∀ u ∈ arr'.toList, u.oneCell' = true
  | [], qs, cells, arr, r, hv, ho, hl, hq, h => by
    have : qs = [] := by simpa using hl
    subst this
    simp [fillA] at h; subst h
    exact ⟨arr, rfl, hv, ho⟩
  | p :: ps, qs, cells, arr, r, hv, ho, hl, hq, h => by
    obtain ⟨off, size, x⟩ := p
    cases qs with
    | nil => simp at hl
    | cons q qs =>
      obtain ⟨i, v⟩ := q
      obtain ⟨q', hq', hp, hx⟩ := hq 0 _ rfl
      simp at hq'; subst hq'
      simp only at hp hx
      simp only [fillA] at h
      split at h <;> (first | (exfalso; simp at h; done) | skip)
      rename_i hc
      obtain ⟨hc1, hc2, hc3⟩ := hc
      obtain ⟨hcv, hco⟩ := cells_vr hx hc3
      have hsz : v.cells.size = size := by rw [← hc1, ← hcv.1]; simp
      have hasz : arr.size = cells.length := by rw [← hv.1]; simp
      have hf := foldl_set v.cells.toList 0 off arr (by simp; omega)
      simp only [Instr.fill, hp]
      rw [if_neg (by simp; omega)]
      refine fill_sound places ps qs _ _ r ?_ ?_ (by simpa using hl) (fun j p hj => ?_) h
      · have : (v.cells.zipIdx.foldl (fun cs (x : Value × Nat) => match x with | (c, j) => cs.setIfInBounds (off + j) c) arr).toList = arr.toList.take off ++ v.cells.toList ++ arr.toList.drop (off + size) := by
          rw [← Array.foldl_toList]
          have e := hf
          simp only [Nat.add_zero, Array.length_toList, hsz] at e
          simpa using e
        rw [this]
        exact ((hv.take off).append hcv).append (hv.drop (off + size))
      · have : (v.cells.zipIdx.foldl (fun cs (x : Value × Nat) => match x with | (c, j) => cs.setIfInBounds (off + j) c) arr).toList = arr.toList.take off ++ v.cells.toList ++ arr.toList.drop (off + size) := by
          rw [← Array.foldl_toList]
          have e := hf
          simp only [Nat.add_zero, Array.length_toList, hsz] at e
          simpa using e
        rw [this]
        intro u hu
        rcases List.mem_append.1 hu with hu | hu
        · rcases List.mem_append.1 hu with hu | hu
          · exact ho u (List.mem_of_mem_take hu)
          · exact hco u hu
        · exact ho u (List.mem_of_mem_drop hu)
      · obtain ⟨q, hq1, hq2⟩ := hq (j + 1) p (by simpa using hj)
        exact ⟨q, by simpa using hq1, hq2⟩
end
end Go.Md

namespace Go.Md
open Go.RowKit
set_option linter.unusedVariables false
set_option linter.unusedSimpArgs false

section
variable {P : Program} {N : Nat} {fr : Fr} {H : Hp} {ρ : Rho} {I : Imm} {β : Nat → Option Nat} {a : Act} {w : World}

theorem getObj_map {r : Nat} {es : Array MapEntry} {clock : Nat} (hb : w.heap[r]? = some (.map es clock)) : (getObj r).run P w = .ok (.map es clock) w := by simp [getObj, Sem.run, hb]
theorem mapM_run {α γ : Type} {f : α → Sem γ} {g : α → Option γ} (hf : ∀ x y, g x = some y → (f x).run P w = .ok y w) : ∀ {xs : List α} {ys : List γ}, mapO g xs = some ys → (xs.mapM f).run P w = .ok ys w
  | [], ys, h => by simp [mapO] at h; subst h; rfl
  | x :: xs, ys, h => by
    simp only [mapO] at h
    split at h <;> simp at h
    subst h
    rename_i y ys' hy hys
    simp [List.mapM_cons, hf x y hy, mapM_run hf hys]
theorem VR.v_inv {y u : Value} (h : VR ρ I (.v y) u) : u = y := by cases h; rfl
theorem run_value {S : Sem Value} {u : Value} {w' : World} (h : S.run P w = .ok u w') {X : Sem Next} (hX : X = (do pure (Next.value (← S)))) : X.run P w = .ok (.value u) w' := by rw [hX]; exact run_v h

theorem max_sound {x y r : AV} {u v : Value} (hx : VR ρ I x u) (hy : VR ρ I y v) (h : maxA x y = some r) (ts : Array TypeId) (ty : TypeId) : ∃ z, (Builtin.max_ ts ty #[u, v]).run P w = .ok z w ∧ VR ρ I r z := by
  unfold maxA at h
  split at h
  · cases hx; cases hy
    split at h <;> simp at h
    subst h
    exact ⟨_, rfl, .v _⟩
  · simp at h
theorem min_sound {x y r : AV} {u v : Value} (hx : VR ρ I x u) (hy : VR ρ I y v) (h : minA x y = some r) (ts : Array TypeId) (ty : TypeId) : ∃ z, (Builtin.min_ ts ty #[u, v]).run P w = .ok z w ∧ VR ρ I r z := by
  unfold minA at h
  split at h
  · cases hx; cases hy
    split at h <;> simp at h
    subst h
    exact ⟨_, rfl, .v _⟩
  · simp at h

theorem optV {lo : Option Operand} (hs : Sim N ρ I β fr H a w) (hok : ∀ x, lo = some x → (opV fr x).isSome = true) :
    (∀ x, lo.map (fun y => (opV fr y).getD (.v undef)) = some x → ∃ v, lo.map a.eval = some v ∧ VR ρ I x v) ∧ (lo.map (fun y => (opV fr y).getD (.v undef)) = none → lo.map a.eval = none) := by
  cases lo with
  | none => exact ⟨fun x hx => by simp at hx, fun _ => rfl⟩
  | some y =>
    refine ⟨fun x hx => ?_, fun h => by simp at h⟩
    simp at hx; subst hx
    refine ⟨_, rfl, ?_⟩
    have := hok y rfl
    cases hv : opV fr y with
    | none => rw [hv] at this; simp at this
    | some z => exact opV_sound hs hv

theorem lenA_sound {x r : AV} {u : Value} (hx : VR ρ I x u) (h : lenA x = some r) (h1 : ∀ s, x ≠ .v (.string s)) (h2 : ∀ m, x ≠ .v (.map m)) {t e : TypeId} (ht : P.underlying t = some (.slice e)) (ts : Array TypeId) (h0 : ts[0]? = some t) (ty : TypeId) :
    ∃ z, (Builtin.len_ ts ty #[u]).run P w = .ok z w ∧ VR ρ I r z := by
  unfold lenA at h
  split at h <;> simp at h <;> subst h
  · exact absurd rfl (h1 _)
  · cases hx; exact ⟨_, by simp [Builtin.len_, h0, run_underlying ht, goInt], .v _⟩
  · cases hx; exact ⟨_, by simp [Builtin.len_, h0, run_underlying ht, goInt], .v _⟩
  · cases hx; exact ⟨_, by simp [Builtin.len_, h0, run_underlying ht, goInt], .v _⟩
  · exact absurd rfl (h2 _)

theorem valS_sound (hs : Sim N ρ I β fr H a w) {o : Oper} {x : SV} (h : valS P fr H o = some x) : ∃ u, (execOp a.eval o).run P w = .ok (.value u) w ∧ SVR ρ I β x u := by
  obtain ⟨dst, op, ty, pos, after, guard⟩ := o
  unfold valS at h
  simp only at h
  split at h
  · exact ⟨_, rfl, opS_sound hs h⟩
  · exact ⟨_, rfl, opS_sound hs h⟩
  · -- pick
    rename_i c p q
    split at h
    · rename_i t hc
      have hv := opS_sound hs hc
      have he : a.eval c = .bool t := by generalize a.eval c = u at hv; cases hv; rfl
      split at h
      · exact ⟨_, by simp [execOp, he, asBool], opS_sound hs h⟩
      · exact ⟨_, by simp [execOp, he, asBool], opS_sound hs h⟩
    · simp at h
  · -- binOp
    rename_i op t p q yt
    split at h
    · rename_i xa ya hxa hya
      split at h
      · rename_i r hr
        simp at h; subst h
        obtain ⟨u, hu, rfl⟩ := binA_sound P w op t p q (opV_sound hs hxa) (opV_sound hs hya) hr
        exact ⟨u, run_v hu, .v _⟩
      · simp only [Option.map_eq_some_iff] at h
        obtain ⟨r, hr, rfl⟩ := h
        obtain ⟨u, hu, hv⟩ := eqAgg_sound p q (opV_sound hs hxa) (opV_sound hs hya) hr
        exact ⟨u, run_v hu, hv⟩
    · simp at h
  · -- lookup
    rename_i t m i ok
    split at h
    · rename_i xa ya hxa hya
      simp only [Option.map_eq_some_iff] at h
      obtain ⟨r, hr, rfl⟩ := h
      obtain ⟨u, hu, hv⟩ := lookV_sound hs.heap (opV_sound hs hxa) (opV_sound hs hya) hr
      exact ⟨u, run_v hu, hv⟩
    · simp at h
  · -- unOp
    rename_i op t p
    split at h
    · rename_i xa hxa
      simp only [Option.map_eq_some_iff] at h
      obtain ⟨r, hr, rfl⟩ := h
      have hv := opV_sound hs hxa
      unfold unA at hr
      split at hr
      · split at hr <;> simp at hr
        subst hr
        exact ⟨_, by simp [execOp, Op.unary, hv.v_inv], .v _⟩
      · split at hr <;> simp at hr
        subst hr
        exact ⟨_, by simp [execOp, Op.unary, Op.intArith, hv.v_inv], .v _⟩
      · simp at hr
    · simp at h
  · -- convert
    rename_i src dst' p
    have cv : ∀ {u}, (convert src dst' (a.eval p)).run P w = .ok u w → (execOp a.eval ⟨dst, .convert src dst' p, ty, pos, after, guard⟩).run P w = .ok (.value u) w := fun h => run_v h
    split at h
    · rename_i ds k xa hs1 hs2 hxa
      simp only [Option.map_eq_some_iff] at h
      obtain ⟨r, hr, rfl⟩ := h
      have hv := opV_sound hs hxa
      unfold convInt at hr
      split at hr <;> simp at hr
      subst hr
      exact ⟨_, cv (by simp [convert, run_underlying hs1, run_underlying hs2, hv.v_inv, Conv.intToInt]), .v _⟩
    · rename_i e xa hs1 hs2 hxa
      split at h <;> (first | (exfalso; simp at h; done) | skip)
      rename_i he
      simp only [Option.map_eq_some_iff] at h
      obtain ⟨r, hr, rfl⟩ := h
      have hv := opV_sound hs hxa
      obtain ⟨u, hu, hru⟩ := strOf_sound (P := P) hs hv hr
      refine ⟨u, cv ?_, hru⟩
      have hsl : ∃ ad n c, a.eval p = .slice ad n c := by
        generalize a.eval p = v at hv
        unfold strOf at hr
        split at hr
        · cases hv; exact ⟨_, _, _, rfl⟩
        · cases hv; exact ⟨_, _, _, rfl⟩
        · cases hv; exact ⟨_, _, _, rfl⟩
        · simp at hr
      obtain ⟨ad, n, c, hev⟩ := hsl
      rw [hev] at hu ⊢
      simp [convert, run_underlying hs1, run_underlying hs2, run_underlying he, hu]
    · rename_i ds xa hneg hs1 hs2 hxa
      simp only [Option.map_eq_some_iff] at h
      obtain ⟨r, hr, rfl⟩ := h
      have hv := opV_sound hs hxa
      unfold convStr at hr
      split at hr <;> simp at hr <;> subst hr
      · exact ⟨_, cv (by simp [convert, run_underlying hs1, run_underlying hs2, hv.v_inv, Conv.intToString]), .v _⟩
      · exact ⟨_, cv (by simp [convert, run_underlying hs1, run_underlying hs2, hv.v_inv]), .v _⟩
    · simp at h
  · -- extract
    rename_i p i
    split at h
    · rename_i xa hxa
      simp only [Option.map_eq_some_iff] at h
      obtain ⟨r, hr, rfl⟩ := h
      have hv := opV_sound hs hxa
      unfold extractA at hr
      split at hr
      · generalize hev : a.eval p = v at hv
        cases hv with
        | tup vs us h1 h2 =>
          obtain ⟨u, hu, hru⟩ := VRs.get ⟨h1, h2⟩ hr
          exact ⟨u, run_v (by rw [hev]; simp [Instr.extract, hu]), hru⟩
      · simp only [Option.map_eq_some_iff] at hr
        obtain ⟨u, hu, rfl⟩ := hr
        exact ⟨u, run_v (by rw [hv.v_inv]; simp [Instr.extract, hu]), .v _⟩
      · simp at hr
    · simp at h
  · -- field
    rename_i t p f
    split at h
    · rename_i fs xa ht hxa
      split at h
      · rename_i fd hfd
        split at h
        · rename_i g s hg hz
          simp only [Option.map_eq_some_iff] at h
          obtain ⟨r, hr, rfl⟩ := h
          have hv := opV_sound hs hxa
          unfold fieldA at hr
          split at hr
          · generalize hev : a.eval p = v at hv
            cases hv with
            | agg cs us h1 h2 h3 =>
              obtain ⟨u, hu, hru⟩ := part_sound (P := P) (w := w) hg hz ⟨h1, h2⟩ h3 hr
              exact ⟨u, run_v (by rw [hev]; simp [Instr.field, run_underlying ht, hfd, asAgg, hu]), hru⟩
          · simp at hr
        · simp at h
      · simp at h
    · simp at h
  · -- load
    rename_i t p
    split at h
    · rename_i g s xa hg hz hxa
      simp only [Option.map_eq_some_iff] at h
      obtain ⟨r, hr, rfl⟩ := h
      obtain ⟨u, hu, hru⟩ := load_sound (P := P) hs hg hz (opS_sound hs hxa) hr
      exact ⟨u, run_v hu, hru⟩
    · simp at h
  · -- slice
    rename_i t p lo hi
    split at h
    · rename_i z ht hxa
      simp only [Option.map_eq_some_iff] at h
      obtain ⟨r, hr, rfl⟩ := h
      have hv : VR ρ I _ _ := opS_sound hs hxa
      obtain ⟨l1, l2⟩ := optV (lo := lo) hs (fun y hy => by
        subst hy
        cases ho : opV fr y with
        | some q => rfl
        | none => simp [ho, sliceA, undef] at hr)
      obtain ⟨h1, h2⟩ := optV (lo := hi) hs (fun y hy => by
        subst hy
        cases ho : opV fr y with
        | some q => rfl
        | none => simp [ho, sliceA, undef] at hr)
      obtain ⟨u, hu, hru⟩ := sliceStr_sound (P := P) (w := w) ht l1 l2 h1 h2 hr
      exact ⟨u, run_v (by rw [hv.v_inv]; exact hu), hru⟩
    · rename_i e xa ht hxa
      split at h
      · rename_i s hz
        have hv : VR ρ I xa (a.eval p) := opS_sound hs hxa
        have hns : ∀ z, xa ≠ .v (.string z) := by rintro z rfl; simp at h
        replace h : (sliceA s xa (lo.map (fun y => (opV fr y).getD (.v undef))) (hi.map (fun y => (opV fr y).getD (.v undef)))).map SV.av = some x := by
          split at h
          · simp at h
          · exact h
        simp only [Option.map_eq_some_iff] at h
        obtain ⟨r, hr, rfl⟩ := h
        obtain ⟨l1, l2⟩ := optV (lo := lo) hs (fun y hy => by
          subst hy
          cases ho : opV fr y with
          | some q => rfl
          | none =>
            exfalso
            simp only [Option.map_some, ho, Option.getD_none] at hr
            unfold sliceA undef at hr
            split at hr <;> (try (split at hr)) <;> simp_all)
        obtain ⟨h1, h2⟩ := optV (lo := hi) hs (fun y hy => by
          subst hy
          cases ho : opV fr y with
          | some q => rfl
          | none =>
            exfalso
            simp only [Option.map_some, ho, Option.getD_none] at hr
            unfold sliceA undef at hr
            split at hr <;> (try (split at hr)) <;> simp_all)
        obtain ⟨u, hu, hru⟩ := sliceSl_sound (P := P) (w := w) ht hz hns hv l1 l2 h1 h2 hr
        exact ⟨u, run_v hu, hru⟩
      · simp at h
    · rename_i n e xa ht hxa
      split at h
      · rename_i s hlo hhi hz
        simp only [Option.map_eq_some_iff] at h
        obtain ⟨r, hr, rfl⟩ := h
        have hv : VR ρ I xa (a.eval p) := opS_sound hs hxa
        unfold sliceArr at hr
        split at hr
        · split at hr <;> simp at hr
          rename_i hob
          obtain ⟨⟨rfl, hle, hn⟩, rfl⟩ := hr
          generalize hev : a.eval p = v at hv
          cases hv with
          | ptr _ _ _ l hl =>
            obtain ⟨_, l', hl', arr, T, hb, hsz, hcl, _⟩ := hs.heap.obj _ _ hob
            rw [hl] at hl'; simp at hl'; subst hl'
            refine ⟨.slice (some ⟨l.blk, l.base + _, none⟩) n n, run_v ?_, .sl _ _ _ _ _ l n hl (Nat.le_refl _) (by omega)⟩
            rw [hev]
            simp [Instr.sliceAt, run_underlying ht, Instr.sureAddr, Instr.sliceBounds, szT_run hz, Addr.add]
        · simp at hr
      · simp at h
    · simp at h
  · -- index
    rename_i t p i
    split at h
    · rename_i xa ya ht hxa hya
      simp only [Option.map_eq_some_iff] at h
      obtain ⟨r, hr, rfl⟩ := h
      obtain ⟨u, hu, hru⟩ := index_sound (P := P) (w := w) ht (opV_sound hs hxa) (opV_sound hs hya) hr
      exact ⟨u, run_v hu, hru⟩
    · rename_i n e cs k j ht hxa hya
      split at h
      · rename_i g s hg hz
        split at h <;> (first | (exfalso; simp at h; done) | skip)
        rename_i hj
        simp only [Option.map_eq_some_iff] at h
        obtain ⟨r, hr, rfl⟩ := h
        have hv := opV_sound hs hxa
        have hvi := (opV_sound hs hya).v_inv
        generalize hev : a.eval p = v at hv
        cases hv with
        | agg cs us h1 h2 h3 =>
          obtain ⟨u, hu, hru⟩ := part_sound (P := P) (w := w) hg hz ⟨h1, h2⟩ h3 hr
          have hj2 : j < (n : Int) := hj.2
          exact ⟨u, run_v (by rw [hev, hvi]; simp [Instr.index, asIntOf, run_underlying ht, hj.1, hj2, szT_run hz, hu]), hru⟩
      · simp at h
    · simp at h
  · -- indexAddr
    rename_i t p i
    split at h
    · rename_i e xa ya ht hxa hya
      split at h
      · rename_i s hz
        simp only [Option.map_eq_some_iff] at h
        obtain ⟨r, hr, rfl⟩ := h
        obtain ⟨u, hu, hru⟩ := indexAddr_sound (P := P) (w := w) ht hz (opS_sound hs hxa) (opV_sound hs hya) hr
        exact ⟨u, run_v hu, hru⟩
      · simp at h
    · rename_i n e xa ya ht hxa hya
      split at h
      · rename_i s hz
        obtain ⟨u, hu, hru⟩ := indexArr_sound (P := P) (w := w) ht hz (opS_sound hs hxa) (opV_sound hs hya) h
        exact ⟨u, run_v hu, hru⟩
      · simp at h
    · simp at h
  · -- fieldAddr
    rename_i t p f
    split at h
    · rename_i fs xa ht hxa
      split at h
      · rename_i fd hfd
        split at h
        · rename_i s hz
          obtain ⟨ad, hev, hr⟩ := plus_sound (opS_sound hs hxa) h
          exact ⟨_, run_v (by rw [hev]; simp [Instr.fieldAt, run_underlying ht, hfd, Instr.sureAddr, fieldPlace, szT_run hz]), hr⟩
        · simp at h
      · simp at h
    · simp at h
  · -- nilCheck
    rename_i p
    split at h
    · rename_i xa hxa
      have hv := opS_sound hs hxa
      unfold nilCheckS at h
      split at h <;> simp at h <;> subst h
      · generalize hev : a.eval p = v at hv
        cases hv with
        | rp _ us ad _ h1 h2 h3 => exact ⟨_, by simp [execOp, hev], .rp _ us ad _ h1 h2 h3⟩
      · generalize hev : a.eval p = v at hv
        cases hv with
        | ptr _ _ _ l hl => exact ⟨_, by simp [execOp, hev], .ptr _ _ _ l hl⟩
      · obtain ⟨b, hb, hev⟩ := hv
        exact ⟨_, by simp [execOp, hev], ⟨b, hb, rfl⟩⟩
    · simp at h
  · -- makeFunc
    rename_i fn first captured
    split at h
    · rename_i xs ys hxs hys
      simp at h; subst h
      have h1 := mapO_vrs hs hxs
      have h2 := mapO_vrs hs hys
      refine ⟨_, run_v rfl, ?_⟩
      have e1 : first.map a.eval = (first.toList.map a.eval).toArray := by apply Array.ext'; simp
      have e2 : captured.map a.eval = (captured.toList.map a.eval).toArray := by apply Array.ext'; simp
      rw [e1, e2]
      exact .fn fn xs ys _ _ h1.1 h1.2 h2.1 h2.2
    · simp at h
  · -- build
    rename_i t parts
    split at h
    · rename_i i fs hi ht
      split at h
      · rename_i z pl hzz hpl
        split at h
        · rename_i ps hone hps
          simp only [Option.map_eq_some_iff] at h
          obtain ⟨cs, hcs, rfl⟩ := h
          obtain ⟨hl, hget⟩ := mapO_get hps
          have hplaces : (fs.mapM fun f => (do pure (f.offset, ← sizeOf f.type) : Sem (Nat × Nat))).run P w = .ok pl.toArray w := by
            have := mapM_run (P := P) (w := w) (f := fun f : Field => (do pure (f.offset, ← sizeOf f.type) : Sem (Nat × Nat))) (g := fun f : Field => (szT P f.type).map fun s => (f.offset, s)) (fun x y hxy => by
              simp only [Option.map_eq_some_iff] at hxy
              obtain ⟨s, hs', rfl⟩ := hxy
              simp [szT_run hs']) hpl
            rw [← Array.toArray_toList (xs := fs), List.mapM_toArray, Sem.run_map, this]
            rfl
          have hz1 : (zeroValue t).run P w = .ok z w := by simp [zeroValue, typeInfo, hi, hzz]
          have hv0 : VRs ρ I (z.cells.toList.map .v) z.cells.toList := VRs.of_get (by simp) (fun i c u hc hu => by simp [hu] at hc; subst hc; exact .v u)
          obtain ⟨arr', hf, hva, hoa⟩ := fill_sound (fun j => pl.toArray[j]?) ps ((parts.map (fun (q : Nat × Operand) => (q.1, a.eval q.2))).toList) (z.cells.toList.map .v) z.cells cs hv0
            (fun u hu => by simpa using (List.all_eq_true.1 hone) u hu) (by simp [hl]) (fun j p hp => by
              obtain ⟨q, hq, hqf⟩ := hget j p hp
              split at hqf <;> simp at hqf
              rename_i pq xa hpq hxa
              subst hqf
              refine ⟨(q.1, a.eval q.2), by simp [hq], ?_, opV_sound hs hxa⟩
              simpa using hpq) hcs
          refine ⟨.agg arr', run_v ?_, ?_⟩
          · simp only [Instr.build, Sem.run_bind, hz1, run_underlying ht, hplaces, Result.andThen_ok]
            have hf' : Instr.fill (fun x => pl.toArray[x]?) z.cells (parts.map fun (x : Nat × Operand) => match x with | (i, x) => (i, a.eval x)).toList = some arr' := hf
            simp only [hf']
            rfl
          · have e : arr' = arr'.toList.toArray := by simp
            rw [e]
            exact .agg cs _ hva.1 hva.2 hoa
        · simp at h
      · simp at h
    · rename_i i n e hi ht
      split at h
      · rename_i z pl hzz hpl
        simp only [Option.map_eq_some_iff] at hpl
        obtain ⟨sz, hsz, rfl⟩ := hpl
        split at h
        · rename_i ps hone hps
          simp only [Option.map_eq_some_iff] at h
          obtain ⟨cs, hcs, rfl⟩ := h
          obtain ⟨hl, hget⟩ := mapO_get hps
          have hz1 : (zeroValue t).run P w = .ok z w := by simp [zeroValue, typeInfo, hi, hzz]
          have hv0 : VRs ρ I (z.cells.toList.map .v) z.cells.toList := VRs.of_get (by simp) (fun i c u hc hu => by simp [hu] at hc; subst hc; exact .v u)
          obtain ⟨arr', hf, hva, hoa⟩ := fill_sound (fun j => some (j * sz, sz)) ps ((parts.map (fun (q : Nat × Operand) => (q.1, a.eval q.2))).toList) (z.cells.toList.map .v) z.cells cs hv0
            (fun u hu => by simpa using (List.all_eq_true.1 hone) u hu) (by simp [hl]) (fun j p hp => by
              obtain ⟨q, hq, hqf⟩ := hget j p hp
              split at hqf <;> simp at hqf
              rename_i pq xa hpq hxa
              subst hqf
              refine ⟨(q.1, a.eval q.2), by simp [hq], ?_, opV_sound hs hxa⟩
              simp only [List.getElem?_map, Option.map_eq_some_iff] at hpq
              obtain ⟨k, hk, rfl⟩ := hpq
              obtain ⟨_, hk2⟩ := List.getElem?_eq_some_iff.1 hk
              simp at hk2
              subst hk2; rfl) hcs
          refine ⟨.agg arr', run_v ?_, ?_⟩
          · simp only [Instr.build, Sem.run_bind, hz1, run_underlying ht, szT_run hsz, Result.andThen_ok]
            have hf' : Instr.fill (fun j => some (j * sz, sz)) z.cells (parts.map fun (x : Nat × Operand) => match x with | (i, x) => (i, a.eval x)).toList = some arr' := hf
            simp only [hf']
            rfl
          · have e : arr' = arr'.toList.toArray := by simp
            rw [e]
            exact .agg cs _ hva.1 hva.2 hoa
        · simp at h
      · simp at h
    · simp at h
  · -- call
    rename_i c
    obtain ⟨callee, args, argTypes⟩ := c
    simp only at h
    split at h
    · rename_i p t ts hargs hts
      have ha : args = #[p] := by apply Array.ext'; simpa using hargs
      have ht0 : argTypes[0]? = some t := by rw [← Array.getElem?_toList, hts]; rfl
      have go : ∀ {u}, (Builtin.len_ argTypes ty #[a.eval p]).run P w = .ok u w → (execOp a.eval ⟨dst, .call ⟨.builtin .len, args, argTypes⟩, ty, pos, after, guard⟩).run P w = .ok (.value u) w := by
        intro u hu
        subst ha
        simp [execOp, resolve, invoke, builtin, hu]
      split at h
      · rename_i xa ht hxa
        split at h <;> simp at h
        subst h
        have hv := opV_sound hs hxa
        exact ⟨_, go (by rw [hv.v_inv]; simp [Builtin.len_, ht0, run_underlying ht, goInt]), .v _⟩
      · rename_i e xa ht hxa
        have hv := opV_sound hs hxa
        split at h
        · simp at h
        · simp at h
        · rename_i hh1 hh2
          simp only [Option.map_eq_some_iff] at h
          obtain ⟨r, hr, rfl⟩ := h
          obtain ⟨u, hu, hru⟩ := lenA_sound (P := P) (w := w) hv hr (fun s e => hh1 s e) (fun m e => hh2 m e) ht argTypes ht0 ty
          exact ⟨u, go hu, hru⟩
      · rename_i kt et xa ht hxa
        have hv := opV_sound hs hxa
        split at h
        · rename_i id
          simp only [lenM] at h
          split at h <;> simp at h
          subst h
          rename_i es clock hob
          generalize hev : a.eval p = v at hv go
          cases hv with
          | mp _ l hl =>
            obtain ⟨_, l', ms, hl', hb, hent⟩ := hs.heap.obj _ _ hob
            rw [hl] at hl'; simp at hl'; subst hl'
            have hlen : ms.size = es.length := by have := hent.1; simpa using this
            exact ⟨_, go (by simp [Builtin.len_, ht0, run_underlying ht, getObj_map hb, goInt, hlen]), .v _⟩
        · simp at h; subst h
          exact ⟨_, go (by rw [hv.v_inv]; simp [Builtin.len_, ht0, run_underlying ht, goInt]), .v _⟩
        · simp at h
      · rename_i n e xa ht hxa
        simp at h; subst h
        exact ⟨_, go (by simp [Builtin.len_, ht0, run_underlying ht, goInt]), .v _⟩
      · simp at h
    · rename_i p q hargs
      have ha : args = #[p, q] := by apply Array.ext'; simpa using hargs
      subst ha
      split at h
      · rename_i xa ya hxa hya
        simp only [Option.map_eq_some_iff] at h
        obtain ⟨r, hr, rfl⟩ := h
        obtain ⟨u, hu, hru⟩ := max_sound (P := P) (w := w) (opV_sound hs hxa) (opV_sound hs hya) hr argTypes ty
        exact ⟨u, by simp [execOp, resolve, invoke, builtin, hu], hru⟩
      · simp at h
    · rename_i p q hargs
      have ha : args = #[p, q] := by apply Array.ext'; simpa using hargs
      subst ha
      split at h
      · rename_i xa ya hxa hya
        simp only [Option.map_eq_some_iff] at h
        obtain ⟨r, hr, rfl⟩ := h
        obtain ⟨u, hu, hru⟩ := min_sound (P := P) (w := w) (opV_sound hs hxa) (opV_sound hs hya) hr argTypes ty
        exact ⟨u, by simp [execOp, resolve, invoke, builtin, hu], hru⟩
      · simp at h
    · simp at h
  · simp at h
end
end Go.Md

namespace Go.Md
open Go.RowKit
set_option linter.unusedVariables false
set_option linter.unusedSimpArgs false

structure Gw (b0 : Option Nat) (w w' : World) : Prop where
  os : w'.os = w.os
  tape : w'.tape = w.tape
  output : w'.output = w.output
  dr : w.drawn ≤ w'.drawn
  size : w.heap.size ≤ w'.heap.size
  keep : ∀ b, b < w.heap.size → some b ≠ b0 → w'.heap[b]? = w.heap[b]?

theorem Gw.refl (w : World) : Gw none w w := ⟨rfl, rfl, rfl, Nat.le_refl _, Nat.le_refl _, fun _ _ _ => rfl⟩
theorem Gw.trans {b0 : Option Nat} {a b c : World} (h : Gw b0 a b) (k : Gw b0 b c) : Gw b0 a c :=
  ⟨k.os.trans h.os, k.tape.trans h.tape, k.output.trans h.output, Nat.le_trans h.dr k.dr, Nat.le_trans h.size k.size, fun x hx hn => (k.keep x (Nat.lt_of_lt_of_le hx h.size) hn).trans (h.keep x hx hn)⟩
theorem Gw.weaken {b0 : Option Nat} {a b : World} (h : Gw none a b) : Gw b0 a b := ⟨h.os, h.tape, h.output, h.dr, h.size, fun x hx _ => h.keep x hx (by simp)⟩
theorem Gw.alloc (w : World) (o : Obj) : Gw none w (w.alloc o) := ⟨rfl, rfl, rfl, Nat.le_refl _, by simp, fun b hb _ => Go.heap_alloc_old w o hb⟩
theorem Gw.drew (w : World) : Gw none w w.drew := ⟨rfl, rfl, rfl, Nat.le_succ _, Nat.le_refl _, fun _ _ _ => rfl⟩
theorem Gw.fresh {b0 : Nat} {a b : World} (h : Gw (some b0) a b) (hb : a.heap.size ≤ b0) : Gw none a b := ⟨h.os, h.tape, h.output, h.dr, h.size, fun x hx _ => h.keep x hx (by simp; omega)⟩

def Rho.set (ρ : Rho) (id ver : Nat) (l : Loc) : Rho := fun i v => if i = id ∧ v = ver then some l else ρ i v
def Imm.set (I : Imm) (b : Nat) (arr : Array Value) : Imm := fun x => if x = b then some arr else I x

section
variable {P : Program} {N : Nat} {fr : Fr} {H : Hp} {ρ : Rho} {I : Imm} {β : Nat → Option Nat} {a : Act} {w w' : World}

theorem StH.imm_lt (hs : StH ρ I H w) {b : Nat} (h : I b ≠ none) : b < w.heap.size := by
  cases hi : I b with
  | none => exact absurd hi h
  | some arr => obtain ⟨T, fz, hb⟩ := hs.imm b arr hi; exact (Array.getElem?_eq_some_iff.1 hb).1
theorem StH.imm_none (hs : StH ρ I H w) {b : Nat} (h : w.heap.size ≤ b) : I b = none := by
  cases hi : I b with
  | none => rfl
  | some arr => have := hs.imm_lt (b := b) (by rw [hi]; simp); omega
theorem StH.rho_none (hs : StH ρ I H w) {id : Nat} (h : H.length ≤ id) (v : Nat) : ρ id v = none := by
  cases hi : ρ id v with
  | none => rfl
  | some l => have := hs.dom id v l hi; omega

theorem Ext.set {id ver : Nat} {l : Loc} (h : ρ id ver = none) : Ext ρ I (ρ.set id ver l) I := by
  refine ⟨fun i v l' hl => ?_, fun _ _ h => h⟩
  unfold Rho.set
  split
  · rename_i he; obtain ⟨rfl, rfl⟩ := he; rw [h] at hl; simp at hl
  · exact hl
theorem Ext.imm {b : Nat} {arr : Array Value} (h : I b = none) : Ext ρ I ρ (I.set b arr) := by
  refine ⟨fun _ _ _ h => h, fun x arr' hx => ?_⟩
  unfold Imm.set
  split
  · rename_i he; subst he; rw [h] at hx; simp at hx
  · exact hx

theorem Mv.junk (hs : StH ρ I H w) (g : Gw none w w') : Mv ρ I H w ρ I H w' where
  ext := Ext.refl _ _
  fw := ⟨g.os, g.tape, g.output, g.dr, g.size, fun b hb _ => g.keep b hb (by simp), fun b hb => .inl hb⟩
  imm b hb := .inl hb
  st := ⟨hs.dom, fun b arr hi => by
      obtain ⟨T, fz, hb⟩ := hs.imm b arr hi
      exact ⟨T, fz, (g.keep b (Array.getElem?_eq_some_iff.1 hb).1 (by simp)).trans hb⟩,
    fun id o ho => (hs.obj id o ho).move (Ext.refl _ _) (fun _ h => h) (fun b hb => g.keep b ((hs.obj id o ho).lt hb) (by simp)), hs.inj, hs.apart⟩

theorem Mv.newImm (hs : StH ρ I H w) (g : Gw none w w') {b : Nat} {arr : Array Value} {T : TypeId} {fz : Nat × Nat} (hb : w.heap.size ≤ b) (hc : w'.heap[b]? = some (.cells arr T fz)) : Mv ρ I H w ρ (I.set b arr) H w' where
  ext := Ext.imm (hs.imm_none hb)
  fw := ⟨g.os, g.tape, g.output, g.dr, g.size, fun b hb _ => g.keep b hb (by simp), fun b hb => .inl hb⟩
  imm x hx := by
    unfold Imm.set at hx
    split at hx
    · rename_i he; subst he; exact .inr (.inr hb)
    · exact .inl hx
  st := ⟨hs.dom, fun x arr' hi => by
      unfold Imm.set at hi
      split at hi
      · rename_i he; subst he; simp at hi; subst hi; exact ⟨T, fz, hc⟩
      · obtain ⟨T, fz, hb⟩ := hs.imm x arr' hi
        exact ⟨T, fz, (g.keep x (Array.getElem?_eq_some_iff.1 hb).1 (by simp)).trans hb⟩,
    fun id o ho => (hs.obj id o ho).move (Ext.imm (hs.imm_none hb)) (fun _ h => h) (fun b hb => g.keep b ((hs.obj id o ho).lt hb) (by simp)), hs.inj,
    fun id o x ho hx => by
      unfold Imm.set
      split
      · rename_i he; subst he; have := (hs.obj id o ho).lt hx; omega
      · exact hs.apart id o x ho hx⟩

theorem blkOf_set_other {id id' ver : Nat} {l : Loc} {o : Ob} (h : id' ≠ id) : blkOf (ρ.set id ver l) id' o = blkOf ρ id' o := by
  cases o <;> simp [blkOf, Rho.set, h]

theorem Mv.newObj (hs : StH ρ I H w) (g : Gw none w w') {l : Loc} {ob : Ob} (hb : w.heap.size ≤ l.blk) (ho : ObR (ρ.set H.length 0 l) I w' H.length ob) (hk : blkOf (ρ.set H.length 0 l) H.length ob = some l.blk) :
    Mv ρ I H w (ρ.set H.length 0 l) I (H ++ [ob]) w' := by
  have hext : Ext ρ I (ρ.set H.length 0 l) I := Ext.set (hs.rho_none (Nat.le_refl _) 0)
  have hget : ∀ id o, (H ++ [ob])[id]? = some o → (id < H.length ∧ H[id]? = some o) ∨ (id = H.length ∧ o = ob) := by
    intro id o h
    rcases Nat.lt_or_ge id H.length with hlt | hge
    · rw [List.getElem?_append_left hlt] at h; exact .inl ⟨hlt, h⟩
    · rw [List.getElem?_append_right hge] at h
      have : id - H.length = 0 := by
        rcases Nat.eq_zero_or_pos (id - H.length) with h0 | h0
        · exact h0
        · rw [List.getElem?_eq_none (by simp; omega)] at h; simp at h
      rw [this] at h; simp at h
      exact .inr ⟨by omega, h.symm⟩
  have hblk : ∀ id o b, id < H.length → H[id]? = some o → blkOf (ρ.set H.length 0 l) id o = some b → blkOf ρ id o = some b ∧ b < w.heap.size := by
    intro id o b hlt h h'
    rw [blkOf_set_other (by omega)] at h'
    exact ⟨h', (hs.obj id o h).lt h'⟩
  refine ⟨hext, ⟨g.os, g.tape, g.output, g.dr, g.size, fun b hb _ => g.keep b hb (by simp), ?_⟩, fun b hb => .inl hb, ?_, ?_, ?_, ?_, ?_⟩
  · rintro b ⟨id, o, h1, h2⟩
    rcases hget id o h1 with ⟨hlt, h⟩ | ⟨rfl, rfl⟩
    · exact .inl ⟨id, o, h, (hblk id o b hlt h h2).1⟩
    · rw [hk] at h2; simp at h2; subst h2; exact .inr hb
  · intro id v l' h
    unfold Rho.set at h
    split at h
    · rename_i he; simp; omega
    · have := hs.dom id v l' h; simp; omega
  · intro b arr hi
    obtain ⟨T, fz, hb'⟩ := hs.imm b arr hi
    exact ⟨T, fz, (g.keep b (Array.getElem?_eq_some_iff.1 hb').1 (by simp)).trans hb'⟩
  · intro id o h
    rcases hget id o h with ⟨hlt, h⟩ | ⟨rfl, rfl⟩
    · refine (hs.obj id o h).move hext (fun v hv => ?_) (fun b hb => g.keep b ((hs.obj id o h).lt hb) (by simp))
      unfold Rho.set
      rw [if_neg (by omega)]; exact hv
    · exact ho
  · intro id id' o o' b h h' hb1 hb2
    rcases hget id o h with ⟨hlt, hA⟩ | ⟨e1, e2⟩ <;> rcases hget id' o' h' with ⟨hlt', hB⟩ | ⟨e3, e4⟩
    · exact hs.inj id id' o o' b hA hB (hblk _ _ _ hlt hA hb1).1 (hblk _ _ _ hlt' hB hb2).1
    · have := (hblk _ _ _ hlt hA hb1).2
      rw [e3, e4, hk] at hb2; simp at hb2; omega
    · have := (hblk _ _ _ hlt' hB hb2).2
      rw [e1, e2, hk] at hb1; simp at hb1; omega
    · rw [e1, e3]
  · intro id o b h hb1
    rcases hget id o h with ⟨hlt, h⟩ | ⟨rfl, rfl⟩
    · exact hs.apart id o b h (hblk _ _ _ hlt h hb1).1
    · rw [hk] at hb1; simp at hb1; subst hb1
      exact hs.imm_none hb

theorem Mv.write (hs : StH ρ I H w) {id : Nat} {o ob : Ob} {b0 : Nat} (hid : H[id]? = some o) (hb0 : blkOf ρ id o = some b0) (g : Gw (some b0) w w')
    {ρ' : Rho} (hext : Ext ρ I ρ' I) (hother : ∀ id' v, id' ≠ id → ρ' id' v = ρ id' v) {b1 : Nat} (hb1 : b1 = b0 ∨ w.heap.size ≤ b1)
    (ho : ObR ρ' I w' id ob) (hk : blkOf ρ' id ob = some b1) : Mv ρ I H w ρ' I (H.set id ob) w' := by
  have hlt : id < H.length := (List.getElem?_eq_some_iff.1 hid).1
  have hget : ∀ id' o', (H.set id ob)[id']? = some o' → (id' ≠ id ∧ H[id']? = some o') ∨ (id' = id ∧ o' = ob) := by
    intro id' o' h
    by_cases he : id' = id
    · subst he
      rw [List.getElem?_set_self hlt] at h
      simp at h; exact .inr ⟨rfl, h.symm⟩
    · rw [List.getElem?_set_ne (Ne.symm he)] at h; exact .inl ⟨he, h⟩
  have hblk : ∀ id' o' b, id' ≠ id → blkOf ρ' id' o' = some b → blkOf ρ id' o' = some b := by
    intro id' o' b hne h
    cases o' <;> simp [blkOf] at h ⊢ <;> simpa [hother _ _ hne] using h
  refine ⟨hext, ⟨g.os, g.tape, g.output, g.dr, g.size, fun b hb hL => g.keep b hb (fun e => hL ⟨id, o, hid, by rw [hb0]; exact e.symm⟩), ?_⟩, fun b hb => .inl hb, ?_, ?_, ?_, ?_, ?_⟩
  · rintro b ⟨id', o', h1, h2⟩
    rcases hget id' o' h1 with ⟨hne, h⟩ | ⟨rfl, rfl⟩
    · exact .inl ⟨id', o', h, hblk _ _ _ hne h2⟩
    · rw [hk] at h2; simp at h2; subst h2
      rcases hb1 with rfl | hb1
      · exact .inl ⟨id', o, hid, hb0⟩
      · exact .inr hb1
  · intro id' v l h
    by_cases he : id' = id
    · subst he; simpa using hlt
    · rw [hother _ _ he] at h; simpa using hs.dom id' v l h
  · intro b arr hi
    obtain ⟨T, fz, hb'⟩ := hs.imm b arr hi
    refine ⟨T, fz, (g.keep b (Array.getElem?_eq_some_iff.1 hb').1 (fun e => ?_)).trans hb'⟩
    simp at e; subst e
    have := hs.apart id o b hid hb0
    rw [this] at hi; simp at hi
  · intro id' o' h
    rcases hget id' o' h with ⟨hne, h⟩ | ⟨rfl, rfl⟩
    · refine (hs.obj id' o' h).move hext (fun v hv => by rw [hother _ _ hne]; exact hv) (fun b hb => g.keep b ((hs.obj id' o' h).lt hb) (fun e => ?_))
      simp at e; subst e
      exact hne (hs.inj id' id o' o b h hid hb hb0)
    · exact ho
  · intro id1 id2 o1 o2 b h1 h2 hx1 hx2
    have hnew : ∀ id' o', id' ≠ id → H[id']? = some o' → blkOf ρ id' o' = some b1 → False := by
      intro id' o' hne h hb
      rcases hb1 with rfl | hb1
      · exact hne (hs.inj id' id o' o _ h hid hb hb0)
      · have := (hs.obj id' o' h).lt hb; omega
    rcases hget id1 o1 h1 with ⟨hne1, hA⟩ | ⟨e1, e2⟩ <;> rcases hget id2 o2 h2 with ⟨hne2, hB⟩ | ⟨e3, e4⟩
    · exact hs.inj id1 id2 o1 o2 b hA hB (hblk _ _ _ hne1 hx1) (hblk _ _ _ hne2 hx2)
    · rw [e3, e4, hk] at hx2; simp at hx2; subst hx2
      exact (hnew id1 o1 hne1 hA (hblk _ _ _ hne1 hx1)).elim
    · rw [e1, e2, hk] at hx1; simp at hx1; subst hx1
      exact (hnew id2 o2 hne2 hB (hblk _ _ _ hne2 hx2)).elim
    · rw [e1, e3]
  · intro id' o' b h hx
    rcases hget id' o' h with ⟨hne, h⟩ | ⟨rfl, rfl⟩
    · exact hs.apart id' o' b h (hblk _ _ _ hne hx)
    · rw [hk] at hx; simp at hx; subst hx
      rcases hb1 with rfl | hb1
      · exact hs.apart id' o _ hid hb0
      · exact hs.imm_none hb1

theorem Mv.freeze (hs : StH ρ I H w) {id ver : Nat} {cs : List AV} {l : Loc} (hid : H[id]? = some (.cells ver cs)) (hl : ρ id ver = some l) (g : Gw (some l.blk) w w') {arr : Array Value} {T : TypeId} {fz : Nat × Nat}
    (hc : w'.heap[l.blk]? = some (.cells arr T fz)) : Mv ρ I H w ρ (I.set l.blk arr) (H.set id .dead) w' := by
  have hlt : id < H.length := (List.getElem?_eq_some_iff.1 hid).1
  have hb0 : blkOf ρ id (.cells ver cs) = some l.blk := by simp [blkOf, hl]
  have hI : I l.blk = none := hs.apart id _ _ hid hb0
  have hget : ∀ id' o', (H.set id Ob.dead)[id']? = some o' → (id' ≠ id ∧ H[id']? = some o') ∨ (id' = id ∧ o' = .dead) := by
    intro id' o' h
    by_cases he : id' = id
    · subst he
      rw [List.getElem?_set_self hlt] at h
      simp at h; exact .inr ⟨rfl, h.symm⟩
    · rw [List.getElem?_set_ne (Ne.symm he)] at h; exact .inl ⟨he, h⟩
  have hother : ∀ id' o' b, id' ≠ id → H[id']? = some o' → blkOf ρ id' o' = some b → b ≠ l.blk := by
    intro id' o' b hne h hb e
    subst e
    exact hne (hs.inj id' id _ _ _ h hid hb hb0)
  refine ⟨Ext.imm hI, ⟨g.os, g.tape, g.output, g.dr, g.size, fun b hb hL => g.keep b hb (fun e => hL ⟨id, _, hid, by rw [hb0]; exact e.symm⟩), ?_⟩, ?_, ?_, ?_, ?_, ?_, ?_⟩
  · rintro b ⟨id', o', h1, h2⟩
    rcases hget id' o' h1 with ⟨hne, h⟩ | ⟨rfl, rfl⟩
    · exact .inl ⟨id', o', h, h2⟩
    · simp [blkOf] at h2
  · intro b hb
    unfold Imm.set at hb
    split at hb
    · rename_i e; subst e; exact .inr (.inl ⟨id, _, hid, hb0⟩)
    · exact .inl hb
  · intro id' v l' h; simpa using hs.dom id' v l' h
  · intro b arr' hi
    unfold Imm.set at hi
    split at hi
    · rename_i e; subst e; simp at hi; subst hi; exact ⟨T, fz, hc⟩
    · rename_i e
      obtain ⟨T', fz', hb'⟩ := hs.imm b arr' hi
      exact ⟨T', fz', (g.keep b (Array.getElem?_eq_some_iff.1 hb').1 (fun e' => e (by simpa using e'))).trans hb'⟩
  · intro id' o' h
    rcases hget id' o' h with ⟨hne, h⟩ | ⟨rfl, rfl⟩
    · exact (hs.obj id' o' h).move (Ext.imm hI) (fun _ h => h) (fun b hb => g.keep b ((hs.obj id' o' h).lt hb) (fun e => hother id' o' b hne h hb (by simpa using e)))
    · trivial
  · intro id1 id2 o1 o2 b h1 h2 hx1 hx2
    rcases hget id1 o1 h1 with ⟨hne1, hA⟩ | ⟨e1, e2⟩ <;> rcases hget id2 o2 h2 with ⟨hne2, hB⟩ | ⟨e3, e4⟩
    · exact hs.inj id1 id2 o1 o2 b hA hB hx1 hx2
    · subst e4; simp [blkOf] at hx2
    · subst e2; simp [blkOf] at hx1
    · rw [e1, e3]
  · intro id' o' b h hx
    rcases hget id' o' h with ⟨hne, h⟩ | ⟨rfl, rfl⟩
    · unfold Imm.set
      rw [if_neg (hother id' o' b hne h hx)]
      exact hs.apart id' o' b h hx
    · simp [blkOf] at hx

theorem Mv.refl (hs : StH ρ I H w) : Mv ρ I H w ρ I H w := Mv.junk hs (Gw.refl w)
theorem Mv.trans {ρ1 ρ2 : Rho} {I1 I2 : Imm} {H1 H2 : Hp} {w1 w2 : World} (h : Mv ρ I H w ρ1 I1 H1 w1) (k : Mv ρ1 I1 H1 w1 ρ2 I2 H2 w2) : Mv ρ I H w ρ2 I2 H2 w2 := by
  refine ⟨h.ext.trans k.ext, h.fw.trans k.fw, fun b hb => ?_, k.st⟩
  rcases k.imm b hb with h1 | h1 | h1
  · exact h.imm b h1
  · rcases h.fw.new b h1 with h2 | h2
    · exact .inr (.inl h2)
    · exact .inr (.inr h2)
  · exact .inr (.inr (Nat.le_trans h.fw.size h1))

theorem Sim.move (hs : Sim N ρ I β fr H a w) {ρ' : Rho} {I' : Imm} {H' : Hp} (m : Mv ρ I H w ρ' I' H' w') :
    Sim N ρ' I' β fr H' a w' ∧ MvF (OwnF ρ β fr H) ρ I w (OwnF ρ' β fr H') ρ' I' w' := by
  have hbox : ∀ t cs, look t fr.boxes = some cs → ∃ b, β t = some b ∧ CellsR ρ' I' w' b 0 cs.length cs ∧ ¬ Live ρ' H' b ∧ I' b = none := by
    intro t cs h
    obtain ⟨b, h1, h2, h3, h4⟩ := hs.box t cs h
    have hlt : b < w.heap.size := by obtain ⟨arr, T, hb, _⟩ := h2; exact (Array.getElem?_eq_some_iff.1 hb).1
    refine ⟨b, h1, h2.move m.ext (m.fw.keep b hlt h3), fun hl => ?_, ?_⟩
    · rcases m.fw.new b hl with h5 | h5
      · exact h3 h5
      · omega
    · cases hi : I' b with
      | none => rfl
      | some arr =>
        rcases m.imm b (by rw [hi]; simp) with h5 | h5 | h5
        · exact absurd h4 h5
        · exact absurd h5 h3
        · omega
  refine ⟨⟨m.st, hs.defers, hs.size, fun t x hx => ?_, hbox, hs.binj⟩, m.ext, ⟨m.fw.os, m.fw.tape, m.fw.output, m.fw.dr, m.fw.size, fun b hb hL => m.fw.keep b hb (fun h => hL (.inl h)), ?_⟩, fun b hb => ?_⟩
  · have := hs.slot t x hx
    cases x with
    | av x => exact VR.ext m.ext this
    | bp t off => exact this
    | un => trivial
  · rintro b (hb | hb)
    · rcases m.fw.new b hb with h | h
      · exact .inl (.inl h)
      · exact .inr h
    · exact .inl (.inr hb)
  · rcases m.imm b hb with h | h | h
    · exact .inl h
    · exact .inr (.inl (.inl h))
    · exact .inr (.inr h)

end
end Go.Md

namespace Go.Md
open Go.RowKit
set_option linter.unusedVariables false
set_option linter.unusedSimpArgs false

def splice {α : Type} (old : List α) (off : Nat) (cs : List α) : List α := old.take off ++ cs ++ old.drop (off + cs.length)
theorem splice_length {α : Type} {old : List α} {off : Nat} {cs : List α} (h : off + cs.length ≤ old.length) : (splice old off cs).length = old.length := by simp [splice]; omega
theorem splice_get {α : Type} {old : List α} {off : Nat} {cs : List α} (h : off + cs.length ≤ old.length) (i : Nat) : (splice old off cs)[i]? = if off ≤ i ∧ i < off + cs.length then cs[i - off]? else old[i]? := by
  unfold splice
  by_cases h1 : i < off
  · rw [List.append_assoc, List.getElem?_append_left (by simp; omega), if_neg (by omega), List.getElem?_take, if_pos h1]
  · by_cases h2 : i < off + cs.length
    · rw [if_pos ⟨by omega, h2⟩, List.append_assoc, List.getElem?_append_right (by simp; omega), List.getElem?_append_left (by simp; omega)]
      congr 1; simp; omega
    · rw [if_neg (by omega), List.getElem?_append_right (by simp; omega), List.getElem?_drop]
      congr 1; simp; omega
@[simp] theorem splice_one {α : Type} (old : List α) (off : Nat) (c : α) (h : off < old.length) : splice old off [c] = old.set off c := by
  apply List.ext_getElem?
  intro i
  rw [splice_get (by simp; omega), List.getElem?_set]
  by_cases hi : off = i
  · subst hi; simp [h]
  · rw [if_neg (by simp; omega), if_neg hi]

section
variable {P : Program} {N : Nat} {fr : Fr} {H : Hp} {ρ : Rho} {I : Imm} {β : Nat → Option Nat} {a : Act} {w w' : World}

theorem Gw.setRow (w : World) (g : Nat) (cs : Array Value) : Gw (some g) w (w.setRow g cs) :=
  ⟨rfl, rfl, rfl, Nat.le_refl _, by simp, fun b hb hn => setRow_other w g b cs (by simpa using hn)⟩

theorem CellsR.write {blk base size off : Nat} {cs ds : List AV} {us : List Value} (h : CellsR ρ I w blk base size cs) (hv : VRs ρ I ds us) (ho : ∀ u ∈ us, u.oneCell' = true) (hle : off + ds.length ≤ cs.length) :
    ∃ w', (∀ i0, (storeCells ⟨blk, base + off, none⟩ us i0).run P w = (storeCells ⟨blk, base + off, none⟩ us i0).run P w) ∧ (storeCells ⟨blk, base + off, none⟩ us).run P w = .ok () w' ∧ Gw (some blk) w w' ∧ CellsR ρ I w' blk base size (splice cs off ds) := by
  obtain ⟨arr, T, h1, h2, h3, h4⟩ := h
  have hl := hv.1
  have hrun := run_storeCells_at P blk (base + off) T us 0 arr w h1 (by omega) ho
  refine ⟨_, fun _ => rfl, hrun, Gw.setRow _ _ _, ?_⟩
  refine ⟨_, T, setRow_heap w blk arr _ T (0, 0) h1, ?_, ?_, fun i c hc => ?_⟩
  · have e := splice_length (old := arr.toList) (off := base + off) (cs := us) (by simp; omega)
    simpa [splice, h2] using e
  · rw [splice_length hle]; exact h3
  · rw [splice_get hle] at hc
    have e : (arr.toList.take (base + off + 0) ++ us ++ arr.toList.drop (base + off + 0 + us.length)) = splice arr.toList (base + off) us := rfl
    rw [e, List.getElem?_toArray, splice_get (by simp; omega)]
    split at hc
    · rename_i hi
      rw [if_pos (by omega)]
      obtain ⟨u, hu, hvr⟩ := hv.get hc
      refine ⟨u, ?_, hvr, ho u (List.mem_of_getElem? hu)⟩
      rw [← hu]; congr 1; omega
    · rename_i hi
      rw [if_neg (by omega)]
      simpa using h4 i c hc

theorem StH.other (hs : StH ρ I H w) {b : Nat} (g : Gw (some b) w w') (hL : ¬ Live ρ H b) (hI : I b = none) : StH ρ I H w' where
  dom := hs.dom
  imm x arr hi := by
    obtain ⟨T, fz, hb⟩ := hs.imm x arr hi
    exact ⟨T, fz, (g.keep x (Array.getElem?_eq_some_iff.1 hb).1 (fun e => by simp at e; subst e; rw [hI] at hi; simp at hi)).trans hb⟩
  obj id o ho := (hs.obj id o ho).move (Ext.refl _ _) (fun _ h => h) (fun x hx => g.keep x ((hs.obj id o ho).lt hx) (fun e => by simp at e; subst e; exact hL ⟨id, o, ho, hx⟩))
  inj := hs.inj
  apart := hs.apart

def storeS (fr : Fr) (H : Hp) (sz : Nat) (ad : SV) (x : AV) (k : Fr → Hp → Prop) : Prop :=
  if (cellsA x).length = sz ∧ okPart x = true then
    match ad with
    | .bp t off => match look t fr.boxes with
      | some old => if off + sz ≤ old.length then k { fr with boxes := (t, splice old off (cellsA x)) :: fr.boxes } H else False
      | none => False
    | .av (.ptr id ver off) => match H[id]? with
      | some (.cells v old) => if v = ver ∧ off + sz ≤ old.length then k fr (H.set id (.cells ver (splice old off (cellsA x)))) else False
      | _ => False
    | _ => False
  else False

def Does (N : Nat) (ρ : Rho) (I : Imm) (β : Nat → Option Nat) (fr : Fr) (H : Hp) (a : Act) (w w' : World) (k : Fr → Hp → Prop) : Prop :=
  ∃ fr' H' ρ' I' β', MvF (OwnF ρ β fr H) ρ I w (OwnF ρ' β' fr' H') ρ' I' w' ∧ Sim N ρ' I' β' fr' H' a w' ∧ k fr' H'

theorem storeS_sound (hs : Sim N ρ I β fr H a w) {t : TypeId} {sz : Nat} {ad : SV} {x : AV} {v u : Value} {k : Fr → Hp → Prop} (hz : szT P t = some sz) (hv : SVR ρ I β ad v) (hx : VR ρ I x u)
    (h : storeS fr H sz ad x k) : ∃ w', (Instr.storeAt t v u).run P w = .ok () w' ∧ Does N ρ I β fr H a w w' k := by
  unfold storeS at h
  split at h <;> (first | exact h.elim | skip)
  rename_i hc
  obtain ⟨hcv, hco⟩ := cells_vr hx hc.2
  have hsize : u.cells.size = sz := by have := hcv.1; rw [hc.1] at this; simpa using this
  have hst : ∀ b o w', (storeCells ⟨b, o, none⟩ u.cells.toList).run P w = .ok () w' → (Instr.storeAt t (.pointer (some ⟨b, o, none⟩)) u).run P w = .ok () w' := by
    intro b o w' hr
    simp [Instr.storeAt, Instr.sureAddr, storeVar, szT_run hz, hsize, hr]
  split at h
  · rename_i t' off
    obtain ⟨b, hb, rfl⟩ := hv
    split at h <;> (first | exact h.elim | skip)
    rename_i old hold
    split at h <;> (first | exact h.elim | skip)
    rename_i hle
    obtain ⟨b', hb', hcell, hnl, hni⟩ := hs.box t' old hold
    rw [hb] at hb'; simp at hb'; subst hb'
    obtain ⟨w', _, hrun, hg, hcell'⟩ := hcell.write (P := P) (off := off) hcv hco (by rw [hc.1]; exact hle)
    have e0 : 0 + off = off := Nat.zero_add off
    rw [e0] at hrun
    refine ⟨w', hst _ _ _ hrun, { fr with boxes := (t', splice old off (cellsA x)) :: fr.boxes }, H, ρ, I, β, ⟨Ext.refl _ _, ⟨hg.os, hg.tape, hg.output, hg.dr, hg.size, fun x hx hL => hg.keep x hx (fun e => ?_), fun x hx => .inl ?_⟩, fun x hx => .inl hx⟩, ⟨hs.heap.other hg hnl hni, hs.defers, hs.size, hs.slot, ?_, ?_⟩, h⟩
    · simp at e; subst e; exact hL (.inr ⟨t', old, hold, hb⟩)
    · rcases hx with hx | ⟨t2, cs2, h1, h2⟩
      · exact .inl hx
      · simp only [look] at h1
        split at h1
        · rename_i e; subst e; exact .inr ⟨_, old, hold, h2⟩
        · exact .inr ⟨t2, cs2, h1, h2⟩
    · intro t2 cs2 h1
      simp only [look] at h1
      split at h1
      · rename_i e; subst e
        simp at h1; subst h1
        have e1 : (splice old off (cellsA x)).length = old.length := splice_length (by rw [hc.1]; exact hle)
        exact ⟨b, hb, by rw [e1]; exact hcell', hnl, hni⟩
      · rename_i e
        obtain ⟨b2, hb2, hcell2, hnl2, hni2⟩ := hs.box t2 cs2 h1
        refine ⟨b2, hb2, hcell2.move (Ext.refl _ _) (hg.keep b2 ?_ (fun e2 => ?_)), hnl2, hni2⟩
        · obtain ⟨arr, T, hh, _⟩ := hcell2; exact (Array.getElem?_eq_some_iff.1 hh).1
        · simp at e2; subst e2; exact e (hs.binj _ _ _ _ _ hold h1 hb hb2)
    · intro t2 t3 cs2 cs3 b2 h1 h2 hb2 hb3
      have get : ∀ t4 cs4, look t4 ((t', splice old off (cellsA x)) :: fr.boxes) = some cs4 → ∃ cs5, look t4 fr.boxes = some cs5 := by
        intro t4 cs4 h4
        simp only [look] at h4
        split at h4
        · rename_i e; subst e; exact ⟨old, hold⟩
        · exact ⟨cs4, h4⟩
      obtain ⟨c2, h1'⟩ := get _ _ h1
      obtain ⟨c3, h2'⟩ := get _ _ h2
      exact hs.binj t2 t3 c2 c3 b2 h1' h2' hb2 hb3
  · rename_i id ver off
    split at h <;> (first | exact h.elim | skip)
    rename_i v' old hob
    split at h <;> (first | exact h.elim | skip)
    rename_i hcc
    obtain ⟨rfl, hle⟩ := hcc
    cases hv with
    | ptr _ _ _ l hl =>
      obtain ⟨hver, l', hl', hcell⟩ := hs.heap.obj _ _ hob
      rw [hl] at hl'; simp at hl'; subst hl'
      obtain ⟨w', _, hrun, hg, hcell'⟩ := hcell.write (P := P) (off := off) hcv hco (by rw [hc.1]; exact hle)
      have hm : Mv ρ I H w ρ I (H.set id (.cells v' (splice old off (cellsA x)))) w' :=
        Mv.write hs.heap hob (by simp [blkOf, hl]) hg (Ext.refl _ _) (fun _ _ _ => rfl) (b1 := l.blk) (.inl rfl) ⟨hver, l, hl, hcell'⟩ (by simp [blkOf, hl])
      obtain ⟨h1, h2⟩ := hs.move hm
      exact ⟨w', hst _ _ _ hrun, fr, _, ρ, I, β, h2, h1, h⟩
  · exact h.elim

def dropBp (t : Nat) : List (Nat × SV) → List (Nat × SV)
  | [] => []
  | (s, .bp t' off) :: r => if t' = t then (s, .un) :: dropBp t r else (s, .bp t' off) :: dropBp t r
  | (s, x) :: r => (s, x) :: dropBp t r
theorem look_dropBp (t : Nat) : ∀ (l : List (Nat × SV)) (s : Nat) (x : SV), look s (dropBp t l) = some x → (look s l = some x ∧ ∀ off, x ≠ .bp t off) ∨ x = .un
  | [], s, x, h => by simp [dropBp, look] at h
  | (s', y) :: r, s, x, h => by
    cases y with
    | bp t' off =>
      simp only [dropBp] at h
      split at h
      · rename_i e
        simp only [look] at h
        split at h
        · simp at h; exact .inr h.symm
        · rename_i hne
          rcases look_dropBp t r s x h with h | h
          · exact .inl ⟨by simp only [look]; rw [if_neg hne]; exact h.1, h.2⟩
          · exact .inr h
      · rename_i e
        simp only [look] at h
        split at h
        · rename_i he
          simp at h; subst h
          exact .inl ⟨by simp only [look]; rw [if_pos he], fun off' e' => by injection e' with e1; exact e e1⟩
        · rename_i hne
          rcases look_dropBp t r s x h with h | h
          · exact .inl ⟨by simp only [look]; rw [if_neg hne]; exact h.1, h.2⟩
          · exact .inr h
    | av y =>
      simp only [dropBp, look] at h
      split at h
      · rename_i he
        simp at h; subst h
        exact .inl ⟨by simp only [look]; rw [if_pos he], fun off' e' => by simp at e'⟩
      · rename_i hne
        rcases look_dropBp t r s x h with h | h
        · exact .inl ⟨by simp only [look]; rw [if_neg hne]; exact h.1, h.2⟩
        · exact .inr h
    | un =>
      simp only [dropBp, look] at h
      split at h
      · simp at h; exact .inr h.symm
      · rename_i hne
        rcases look_dropBp t r s x h with h | h
        · exact .inl ⟨by simp only [look]; rw [if_neg hne]; exact h.1, h.2⟩
        · exact .inr h

def Fr.newBox (fr : Fr) (t : Nat) (cs : List AV) : Fr := { slots := dropBp t fr.slots, boxes := (t, cs) :: fr.boxes }

theorem Sim.newBox (hs : Sim N ρ I β fr H a w) (t : Nat) {cs : List AV} {arr : Array Value} {T : TypeId} (hv : VRs ρ I cs arr.toList) (ho : ∀ u ∈ arr.toList, u.oneCell' = true) :
    ∃ β', Sim N ρ I β' (fr.newBox t cs) H a (w.alloc (.cells arr T)) ∧ MvF (OwnF ρ β fr H) ρ I w (OwnF ρ β' (fr.newBox t cs) H) ρ I (w.alloc (.cells arr T)) ∧ β' t = some w.heap.size := by
  let β' : Nat → Option Nat := fun s => if s = t then some w.heap.size else β s
  have hg := Gw.alloc w (.cells arr T)
  have hm := Mv.junk hs.heap hg
  have hnl : ¬ Live ρ H w.heap.size := fun h => by have := Live.lt hs.heap h; omega
  have hcell : CellsR ρ I (w.alloc (.cells arr T)) w.heap.size 0 cs.length cs := by
    refine ⟨arr, T, heap_alloc_new w _, by have := hv.1; simpa using this, by omega, fun i c hc => ?_⟩
    obtain ⟨u, hu, hvr⟩ := hv.get hc
    exact ⟨u, by rw [Nat.zero_add, ← Array.getElem?_toList]; exact hu, hvr, ho u (List.mem_of_getElem? hu)⟩
  refine ⟨β', ⟨hm.st, hs.defers, hs.size, ?_, ?_, ?_⟩, ⟨Ext.refl _ _, ⟨rfl, rfl, rfl, hg.dr, by simp, fun b hb _ => hg.keep b hb (by simp), ?_⟩, fun b hb => .inl hb⟩, by simp [β']⟩
  · intro s x hx
    rcases look_dropBp t _ s x hx with ⟨h1, h2⟩ | rfl
    · have := hs.slot s x h1
      cases x with
      | av x => exact this
      | bp t' off =>
        obtain ⟨b, hb, e⟩ := this
        exact ⟨b, by simp only [β']; rw [if_neg (fun e' => h2 off (by rw [e']))]; exact hb, e⟩
      | un => trivial
    · trivial
  · intro s ds h
    simp only [Fr.newBox, look] at h
    split at h
    · rename_i e; subst e
      simp at h; subst h
      exact ⟨w.heap.size, by simp [β'], hcell, hnl, hs.heap.imm_none (Nat.le_refl _)⟩
    · rename_i e
      obtain ⟨b, h1, h2, h3, h4⟩ := hs.box s ds h
      have hlt : b < w.heap.size := by obtain ⟨arr, T, hb, _⟩ := h2; exact (Array.getElem?_eq_some_iff.1 hb).1
      exact ⟨b, by simp only [β']; rw [if_neg (Ne.symm e)]; exact h1, h2.move (Ext.refl _ _) (hg.keep b hlt (by simp)), h3, h4⟩
  · intro s1 s2 c1 c2 b h1 h2 hb1 hb2
    have old : ∀ s ds b', s ≠ t → look s (fr.newBox t cs).boxes = some ds → β' s = some b' → look s fr.boxes = some ds ∧ β s = some b' ∧ b' < w.heap.size := by
      intro s ds b' hne h hb
      simp only [Fr.newBox, look] at h
      rw [if_neg (Ne.symm hne)] at h
      simp only [β'] at hb
      rw [if_neg hne] at hb
      obtain ⟨b2, h1, h2, _⟩ := hs.box s ds h
      rw [hb] at h1; simp at h1; subst h1
      obtain ⟨arr, T, hh, _⟩ := h2
      exact ⟨h, hb, (Array.getElem?_eq_some_iff.1 hh).1⟩
    by_cases e1 : s1 = t <;> by_cases e2 : s2 = t
    · rw [e1, e2]
    · obtain ⟨_, _, hlt⟩ := old s2 c2 b e2 h2 hb2
      simp only [β'] at hb1; rw [if_pos e1] at hb1; simp at hb1; omega
    · obtain ⟨_, _, hlt⟩ := old s1 c1 b e1 h1 hb1
      simp only [β'] at hb2; rw [if_pos e2] at hb2; simp at hb2; omega
    · obtain ⟨h1', hb1', _⟩ := old s1 c1 b e1 h1 hb1
      obtain ⟨h2', hb2', _⟩ := old s2 c2 b e2 h2 hb2
      exact hs.binj s1 s2 c1 c2 b h1' h2' hb1' hb2'
  · rintro b (hb | ⟨s, ds, h1, h2⟩)
    · exact .inl (.inl hb)
    · simp only [Fr.newBox, look] at h1
      simp only [β'] at h2
      split at h1
      · rename_i e; rw [if_pos e.symm] at h2; simp at h2; exact .inr (by omega)
      · rename_i e
        rw [if_neg (Ne.symm e)] at h2
        exact .inl (.inr ⟨s, ds, h1, h2⟩)

theorem Mv.newCells (hs : StH ρ I H w) {cs : List AV} {arr : Array Value} {T : TypeId} (hv : VRs ρ I cs (arr.toList.take cs.length)) (hle : cs.length ≤ arr.size) (ho : ∀ u ∈ arr.toList, u.oneCell' = true) :
    Mv ρ I H w (ρ.set H.length 0 ⟨w.heap.size, 0, arr.size⟩) I (H ++ [.cells 0 cs]) (w.alloc (.cells arr T)) := by
  have hext : Ext ρ I (ρ.set H.length 0 ⟨w.heap.size, 0, arr.size⟩) I := Ext.set (hs.rho_none (Nat.le_refl _) 0)
  refine Mv.newObj hs (Gw.alloc w _) (Nat.le_refl _) ⟨fun v hv => ?_, ⟨w.heap.size, 0, arr.size⟩, by simp [Rho.set], arr, T, heap_alloc_new w _, rfl, by simpa using hle, fun i c hc => ?_⟩ (by simp [blkOf, Rho.set])
  · unfold Rho.set
    rw [if_neg (by omega)]
    exact hs.rho_none (Nat.le_refl _) v
  · obtain ⟨u, hu, hvr⟩ := hv.get hc
    have hi := (List.getElem?_eq_some_iff.1 hc).1
    rw [List.getElem?_take, if_pos hi, Array.getElem?_toList] at hu
    exact ⟨u, by simpa using hu, hvr.ext hext, ho u (by have := Array.mem_of_getElem? hu; simpa using this)⟩

end
end Go.Md

namespace Go.Md
open Go.RowKit
set_option linter.unusedVariables false
set_option linter.unusedSimpArgs false

def srcA (H : Hp) (sz : Nat) : AV → Option (Nat × List AV)
  | .v (.slice none 0 0) => some (0, [])
  | .v (.string s) => if sz = 1 then some (s.size, s.data.toList.map u8A) else none
  | .row _ n cs => if cs.length = n * sz then some (n, cs) else none
  | .sl id ver s off n => match H[id]? with
    | some (.cells v cs) => if v = ver ∧ s = sz ∧ off + n * sz ≤ cs.length then some (n, (cs.drop off).take (n * sz)) else none
    | _ => none
  | _ => none

def appA (H : Hp) (sz bytes : Nat) (d s : AV) (k : AV → Hp → Prop) : Prop :=
  match srcA H sz s with
  | some (m, ys) => match d with
    | .v (.slice none 0 0) => if m = 0 then k d H else if m * bytes ≤ 140737488355328 ∧ m ≤ 4611686018427387904 then k (.sl H.length 0 sz 0 m) (H ++ [.cells 0 ys]) else False
    | .row true n cs => if cs.length = n * sz then (if m = 0 then k d H else if (n + m) * bytes ≤ 140737488355328 ∧ n + m ≤ 4611686018427387904 then k (.sl H.length 0 sz 0 (n + m)) (H ++ [.cells 0 (cs ++ ys)]) else False) else False
    | .sl id ver s' off n => match H[id]? with
      | some (.cells v cs) => if v = ver ∧ s' = sz ∧ off + n * sz ≤ cs.length ∧ (n + m) * bytes ≤ 140737488355328 ∧ n + m ≤ 4611686018427387904 then k (.sl id (ver + 1) sz 0 (n + m)) (H.set id (.cells (ver + 1) ((cs.drop off).take (n * sz) ++ ys))) else False
      | _ => False
    | _ => False
  | none => False

def copyA (H : Hp) (sz : Nat) (d s : AV) (k : AV → Hp → Prop) : Prop :=
  match srcA H sz s with
  | some (m, ys) => match d with
    | .sl id ver s' off n => match H[id]? with
      | some (.cells v cs) => if v = ver ∧ s' = sz ∧ off + n * sz ≤ cs.length then k (.v (.int .i64 (min m n : Nat))) (H.set id (.cells ver (splice cs off (ys.take (min m n * sz))))) else False
      | _ => False
    | .row _ 0 _ => k (.v (.int .i64 0)) H
    | _ => False
  | none => False

def repeatL {α : Type} (n : Nat) (z : List α) : List α := (List.replicate n z).flatten
theorem repeatL_length {α : Type} (n : Nat) (z : List α) : (repeatL n z).length = n * z.length := by simp [repeatL]
theorem repeatL_succ {α : Type} (n : Nat) (z : List α) : repeatL (n + 1) z = z ++ repeatL n z := by simp [repeatL, List.replicate_succ]
theorem repeatL_get {α : Type} (n : Nat) (z : List α) (i : Nat) (h : i < n * z.length) : (repeatL n z)[i]? = z[i % z.length]? := by
  induction n generalizing i with
  | zero => simp at h
  | succ n ih =>
    rw [repeatL_succ]
    rcases Nat.lt_or_ge i z.length with h1 | h1
    · rw [List.getElem?_append_left h1, Nat.mod_eq_of_lt h1]
    · rw [List.getElem?_append_right h1, ih _ (by rw [Nat.succ_mul] at h; omega), Nat.mod_eq_sub_mod h1]
@[simp] theorem repeatL_one {α : Type} (n : Nat) (z : α) : repeatL n [z] = List.replicate n z := by
  induction n with
  | zero => rfl
  | succ n ih => rw [repeatL_succ, ih]; rfl

def zerosT (P : Program) (t : TypeId) : Option (List AV) := match P.info? t with
  | some i => match i.zero with
    | some z => if z.cells.toList.all Value.oneCell' = true then some (z.cells.toList.map .v) else none
    | none => none
  | none => none

def makeA (H : Hp) (bytes : Nat) (z : List AV) (l c : AV) (k : AV → Hp → Prop) : Prop :=
  match l, c with
  | .v (.int _ l), .v (.int _ c) => if 0 ≤ l ∧ l ≤ c ∧ c ≤ 4611686018427387904 ∧ bytes * c.toNat ≤ 140737488355328 then k (.sl H.length 0 z.length 0 l.toNat) (H ++ [.cells 0 (repeatL l.toNat z)]) else False
  | _, _ => False

section
variable {P : Program} {N : Nat} {fr : Fr} {H : Hp} {ρ : Rho} {I : Imm} {β : Nat → Option Nat} {a : Act} {w w' : World}

theorem zerosT_spec {t : TypeId} {zs : List AV} (h : zerosT P t = some zs) : ∃ i z, P.info? t = some i ∧ i.zero = some z ∧ zs = z.cells.toList.map .v ∧ ∀ u ∈ z.cells.toList, u.oneCell' = true := by
  unfold zerosT at h
  split at h <;> (first | (exfalso; simp at h; done) | skip)
  rename_i i hi
  split at h <;> (first | (exfalso; simp at h; done) | skip)
  rename_i z hz
  split at h <;> simp at h
  rename_i hall
  exact ⟨i, z, hi, hz, h.symm, List.all_eq_true.1 hall⟩
theorem vrs_lit (us : List Value) : VRs ρ I (us.map .v) us := VRs.of_get (by simp) (fun i c u hc hu => by simp [hu] at hc; subst hc; exact .v u)

def DoesH (ρ : Rho) (I : Imm) (H : Hp) (w w' : World) (u : Value) (k : AV → Hp → Prop) : Prop :=
  ∃ x H' ρ' I', Mv ρ I H w ρ' I' H' w' ∧ VR ρ' I' x u ∧ k x H'

theorem src_sound (hs : StH ρ I H w) {sz : Nat} {tx : TypeId} {x : AV} {v : Value} {m : Nat} {ys : List AV} (hk : (∃ e', P.underlying tx = some (.slice e')) ∧ (∀ s, x ≠ .v (.string s)) ∨ P.underlying tx = some .string ∧ ∃ s, x = .v (.string s))
    (hx : VR ρ I x v) (h : srcA H sz x = some (m, ys)) : ∃ us, Src P sz tx v m us w ∧ VRs ρ I ys us ∧ ∀ m', m' ≤ m → (Builtin.firstCells sz m' v).run P w = .ok (us.take (m' * sz)).toArray w := by
  unfold srcA at h
  split at h
  · simp at h; obtain ⟨rfl, rfl⟩ := h
    rcases hk with ⟨⟨e', hk⟩, _⟩ | ⟨_, s, hk⟩
    · cases hx; exact ⟨[], Src.ofNil w hk 0, VRs.nil, fun m' hm => by simp [Builtin.firstCells]⟩
    · simp at hk
  · rename_i s
    split at h <;> simp at h
    obtain ⟨rfl, rfl⟩ := h
    rename_i hsz; subst hsz
    rcases hk with ⟨_, hk⟩ | ⟨hk, _⟩
    · exact absurd rfl (hk s)
    · cases hx
      exact ⟨byteCells s, Src.ofString w hk s, VRs.of_get (by simp [byteCells]) (fun i c u hc hu => by
        simp only [byteCells, List.getElem?_map, Option.map_eq_some_iff] at hc hu
        obtain ⟨b, hb, rfl⟩ := hc
        obtain ⟨b', hb', rfl⟩ := hu
        rw [hb] at hb'; simp at hb'; subst hb'
        exact .v _), fun m' hm => by
          simp only [Builtin.firstCells, Sem.run_pure]
          congr 1
          apply Array.ext'
          simp [byteCells, List.map_take, ByteArray.data_extract, List.extract_eq_take_drop]⟩
  · rename_i xx n cs
    split at h <;> simp at h
    obtain ⟨rfl, rfl⟩ := h
    rename_i hl
    rcases hk with ⟨⟨e', hk⟩, _⟩ | ⟨_, s, hk⟩
    · cases hx with
      | row _ _ _ us ad cap h1 h2 h3 h4 h5 h6 =>
        rcases h3 with ⟨rfl, rfl⟩ | ⟨ad', rfl, hrd⟩
        · have : cs = [] := by simpa using h1.symm
          subst this
          cases ad with
          | none => exact ⟨[], ⟨.inl ⟨e', hk⟩, fun _ => rfl, run_firstCells_none w sz 0 0 cap, run_firstCells_none w.drew sz 0 0 cap, by simp, fun _ h => by cases h⟩, VRs.nil, fun m' hm => by simp [Builtin.firstCells]⟩
          | some ad => exact ⟨[], Src.ofSlice w hk ad 0 cap [] (by simp) (fun j u hj => by simp at hj) (fun _ h => by cases h), VRs.nil, fun m' hm => by
            have : m' = 0 := by omega
            subst this; simp [Builtin.firstCells, loadCells, loadCellsFrom]⟩
        · have h0 : ad'.spot = none := hrd.1
          obtain ⟨blk, off, spot⟩ := ad'
          simp only at h0; subst h0
          exact ⟨us, Src.ofSlice w hk _ n cap us (by rw [h1, hl]) (fun j u hj => by rw [Addr.add_mid]; exact hrd.cell hs.imm hj) hrd.2.1, ⟨h1, h2⟩, fun m' hm => by
            have hmm : m' * sz ≤ n * sz := Nat.mul_le_mul_right _ hm
            exact run_firstCells_some w sz m' _ n cap _ (by rw [List.length_take, h1, hl]; omega) (fun j u hj => by
              rw [Addr.add_mid]; refine hrd.cell hs.imm ?_
              rw [List.getElem?_take] at hj
              split at hj
              · exact hj
              · simp at hj)⟩
    · simp at hk
  · rename_i id ver s off n
    split at h <;> simp at h
    rename_i v' cs hob
    obtain ⟨⟨rfl, rfl, hle⟩, rfl, rfl⟩ := h
    rcases hk with ⟨⟨e', hk⟩, _⟩ | ⟨_, s, hk⟩
    · cases hx with
      | sl _ _ _ _ _ l cap hl hn hcap =>
        obtain ⟨_, l', hl', hcell⟩ := hs.obj _ _ hob
        rw [hl] at hl'; simp at hl'; subst hl'
        obtain ⟨us, hv, ho, hc⟩ := hcell.list
        have hcc : ∀ (j : Nat) (u : Value), ((us.drop off).take (n * s))[j]? = some u → w.cell? ((⟨l.blk, l.base + off, none⟩ : Addr).add j) = some u := by
          intro j u hj
          rw [Addr.add_mid, Nat.add_assoc]
          refine hc _ _ ?_
          rw [List.getElem?_take] at hj
          split at hj
          · rwa [List.getElem?_drop] at hj
          · simp at hj
        have hlen : ((us.drop off).take (n * s)).length = n * s := by simp [hv.1]; omega
        refine ⟨(us.drop off).take (n * s), Src.ofSlice w hk _ n cap _ hlen hcc (fun u hu => ho u (List.mem_of_mem_drop (List.mem_of_mem_take hu))), (hv.drop off).take _, fun m' hm => ?_⟩
        have hmm : m' * s ≤ n * s := Nat.mul_le_mul_right _ hm
        exact run_firstCells_some w s m' _ n cap _ (by rw [List.length_take, hlen]; omega) (fun j u hj => by
          refine hcc _ _ ?_
          rw [List.getElem?_take] at hj
          split at hj
          · exact hj
          · simp at hj)
    · simp at hk
  · simp at h

theorem zeroCells_one {z : Array Value} {n : Nat} (h : ∀ u ∈ z.toList, u.oneCell' = true) : ∀ u ∈ (Builtin.zeroCells z n).toList, u.oneCell' = true := by
  intro u hu
  unfold Builtin.zeroCells at hu
  simp only [Array.toList_map, List.mem_map, Array.mem_toList_iff] at hu
  obtain ⟨i, hi, rfl⟩ := hu
  rcases Nat.eq_zero_or_pos z.size with h0 | h0
  · simp [h0] at hi
  · have hlt : i % z.size < z.size := Nat.mod_lt _ h0
    rw [getElem!_pos z (i % z.size) hlt]
    exact h _ (by simp)

theorem Rho.set_self (ρ : Rho) (id ver : Nat) (l : Loc) : (ρ.set id ver l) id ver = some l := by unfold Rho.set; rw [if_pos ⟨rfl, rfl⟩]
theorem newRow_does (hs : StH ρ I H w) {e : TypeId} {z : Value} {cs : List AV} {us : List Value} {sz M : Nat} {k : AV → Hp → Prop} (hv : VRs ρ I cs us) (ho : ∀ u ∈ us, u.oneCell' = true) (hz : ∀ u ∈ z.cells.toList, u.oneCell' = true)
    (hzsz : z.cells.size = sz) (hl : us.length = M * sz) (old : Nat) (hk : k (.sl H.length 0 sz 0 M) (H ++ [.cells 0 cs])) :
    DoesH ρ I H w (w.drew.alloc (.cells (us.toArray ++ Builtin.zeroCells z.cells (grownCap w M old e - M)) e)) (.slice (some ⟨w.heap.size, 0, none⟩) M (grownCap w M old e)) k := by
  have hm1 := Mv.junk hs (Gw.drew w)
  have hge := grownCap_ge w M old e
  have hsz : (us.toArray ++ Builtin.zeroCells z.cells (grownCap w M old e - M)).size = grownCap w M old e * sz := by
    simp only [Array.size_append, List.size_toArray, size_zeroCells, hzsz, hl, ← Nat.add_mul]
    congr 1; omega
  have hm2 := Mv.newCells (T := e) (arr := us.toArray ++ Builtin.zeroCells z.cells (grownCap w M old e - M)) hm1.st (cs := cs) (by
      have : (us.toArray ++ Builtin.zeroCells z.cells (grownCap w M old e - M)).toList.take cs.length = us := by
        rw [Array.toList_append, List.take_append_of_le_length (by simp [hv.1])]
        simp [← hv.1]
      rw [this]; exact hv) (by simp [← hv.1]) (by
      intro u hu
      rw [Array.toList_append] at hu
      rcases List.mem_append.1 hu with hu | hu
      · exact ho u (by simpa using hu)
      · exact zeroCells_one hz u hu)
  refine ⟨_, _, _, I, hm1.trans hm2, ?_, hk⟩
  exact .sl H.length 0 sz 0 M _ _ (Rho.set_self _ _ _ _) hge (by show 0 + 0 + grownCap w M old e * sz ≤ (us.toArray ++ Builtin.zeroCells z.cells (grownCap w M old e - M)).size; rw [hsz]; omega)

theorem app_sound (hs : StH ρ I H w) {t tx ty e : TypeId} {i : TypeInfo} {z : Value} {sz : Nat} {d x : AV} {vd vx : Value} {k : AV → Hp → Prop} (ht : P.underlying t = some (.slice e))
    (hk : (∃ e', P.underlying tx = some (.slice e')) ∧ (∀ s, x ≠ .v (.string s)) ∨ P.underlying tx = some .string ∧ ∃ s, x = .v (.string s))
    (hi : P.info? e = some i) (hsz : i.size = sz) (hz : i.zero = some z) (hzsz : z.cells.size = sz) (hzo : ∀ u ∈ z.cells.toList, u.oneCell' = true)
    (hd : VR ρ I d vd) (hx : VR ρ I x vx) (h : appA H sz i.bytes d x k) :
    ∃ u w', (Builtin.append_ #[t, tx] ty #[vd, vx]).run P w = .ok u w' ∧ DoesH ρ I H w w' u k := by
  unfold appA at h
  split at h <;> (first | exact h.elim | skip)
  rename_i m ys hsrc
  obtain ⟨us, hS, hys, _⟩ := src_sound (P := P) hs hk hx hsrc
  subst hsz
  have empty : m = 0 → ∀ (base : Option Addr) (n cap : Nat), n ≤ cap → (Builtin.append_ #[t, tx] ty #[.slice base n cap, vx]).run P w = .ok (.slice base n cap) w := by
    intro h0 base n cap hle
    subst h0
    have hus : us = [] := by have := hS.newsLen; simpa using this
    subst hus
    have hc := hS.cells
    rcases hS.kind with ⟨e', hk'⟩ | hk' <;> cases base <;> simp [Builtin.append_, run_underlying ht, run_underlying hk', sizeOf, typeInfo, hi, hS.len, hc, hle, storeCells]
  split at h
  · cases hd
    split at h
    · rename_i h0
      exact ⟨_, w, empty h0 none 0 0 (Nat.le_refl _), _, H, ρ, I, Mv.refl hs, .v _, h⟩
    · split at h <;> (first | exact h.elim | skip)
      rename_i h0 hb
      have hr := run_append_grow_src (P := P) w t tx ty e i z ht hi hz none 0 0 [] (by simp [Builtin.firstCells]) vx m us hS (by omega) (by omega) (growslice_fits (by omega) (by simpa using hb.1))
      simp only [Nat.zero_add, List.nil_append] at hr
      exact ⟨_, _, hr, newRow_does hs hys hS.one hzo hzsz hS.newsLen 0 h⟩
  · rename_i n cs
    split at h <;> (first | exact h.elim | skip)
    rename_i hl
    cases hd with
    | row _ _ _ vs ad cap h1 h2 h3 h4 h5 h6 =>
      have hcap : cap = n := h6 rfl
      subst hcap
      split at h
      · rename_i h0
        exact ⟨_, w, empty h0 ad cap cap (Nat.le_refl _), _, H, ρ, I, Mv.refl hs, .row true cap cs vs ad cap h1 h2 h3 h4 h5 h6, h⟩
      · split at h <;> (first | exact h.elim | skip)
        rename_i h0 hb
        have hv : VRs ρ I cs vs := ⟨h1, h2⟩
        have hvo : ∀ u ∈ vs, u.oneCell' = true := by
          rcases h3 with ⟨_, rfl⟩ | ⟨ad', _, hrd⟩
          · intro u hu; cases hu
          · exact hrd.2.1
        have hold : (Builtin.firstCells i.size cap (.slice ad cap cap)).run P w.drew = .ok vs.toArray w.drew := by
          rcases h3 with ⟨rfl, rfl⟩ | ⟨ad', rfl, hrd⟩
          · cases ad <;> simp [Builtin.firstCells, loadCells, loadCellsFrom]
          · have h0 : ad'.spot = none := hrd.1
            obtain ⟨blk, off, spot⟩ := ad'
            simp only at h0; subst h0
            exact run_firstCells_some w.drew i.size cap _ cap cap vs (by rw [h1, hl]) (fun j u hj => by rw [Addr.add_mid]; simpa using hrd.cell hs.imm hj)
        have hr := run_append_grow_src (P := P) w t tx ty e i z ht hi hz ad cap cap vs hold vx m us hS (by omega) (by omega) (growslice_fits (by omega) hb.1)
        exact ⟨_, _, hr, newRow_does hs (hv.append hys) (fun u hu => by rcases List.mem_append.1 hu with hu | hu; exact hvo u hu; exact hS.one u hu) hzo hzsz (by rw [List.length_append, h1, hl, hS.newsLen, Nat.add_mul]) cap h⟩
  · rename_i id ver s' off n
    split at h <;> (first | exact h.elim | skip)
    rename_i v' cs hob
    split at h <;> (first | exact h.elim | skip)
    rename_i hc
    obtain ⟨rfl, rfl, hle, hb1, hb2⟩ := hc
    cases hd with
    | sl _ _ _ _ _ l cap hl hn hcap =>
      obtain ⟨hver, l', hl', hcell⟩ := hs.obj _ _ hob
      rw [hl] at hl'; simp at hl'; subst hl'
      obtain ⟨vs, hv, ho, hcl⟩ := hcell.list
      have hvn := (hv.drop off).take (n * i.size)
      have hvl : ((vs.drop off).take (n * i.size)).length = n * i.size := by simp [hv.1]; omega
      have hvo : ∀ u ∈ (vs.drop off).take (n * i.size), u.oneCell' = true := fun u hu => ho u (List.mem_of_mem_drop (List.mem_of_mem_take hu))
      have hcells : ∀ (j : Nat) (u : Value), ((vs.drop off).take (n * i.size))[j]? = some u → w.cell? ((⟨l.blk, l.base + off, none⟩ : Addr).add j) = some u := by
        intro j u hj
        rw [Addr.add_mid, Nat.add_assoc]
        refine hcl _ _ ?_
        rw [List.getElem?_take] at hj
        split at hj
        · rwa [List.getElem?_drop] at hj
        · simp at hj
      by_cases hroom : n + m ≤ cap
      · -- in its place
        obtain ⟨arr, T, hh, hsz, hcl3, hcl4⟩ := hcell
        have hmul : n * i.size + m * i.size ≤ cap * i.size := by rw [← Nat.add_mul]; exact Nat.mul_le_mul_right _ hroom
        have hrun := run_storeCells_at P l.blk (l.base + off + n * i.size) T us 0 arr w hh (by rw [hS.newsLen]; omega) hS.one
        have hrun' : (Builtin.append_ #[t, tx] ty #[.slice (some ⟨l.blk, l.base + off, none⟩) n cap, vx]).run P w = .ok (.slice (some ⟨l.blk, l.base + off, none⟩) (n + m) cap) (w.setRow l.blk (arr.toList.take (l.base + off + n * i.size + 0) ++ us ++ arr.toList.drop (l.base + off + n * i.size + 0 + us.length)).toArray) := by
          rcases hS.kind with ⟨e', hk'⟩ | hk' <;> simp [Builtin.append_, run_underlying ht, run_underlying hk', sizeOf, typeInfo, hi, hS.len, hroom, hS.cells, Addr.add_mid, hrun]
        have hsp : (arr.toList.take (l.base + off + n * i.size + 0) ++ us ++ arr.toList.drop (l.base + off + n * i.size + 0 + us.length)) = splice arr.toList (l.base + off + n * i.size) us := rfl
        rw [hsp] at hrun'
        have hal : arr.toList.length = l.size := by simpa using hsz
        have hfit : l.base + off + n * i.size + us.length ≤ arr.toList.length := by rw [hal, hS.newsLen]; omega
        refine ⟨_, _, hrun', .sl id (v' + 1) i.size 0 (n + m), _, ρ.set id (v' + 1) ⟨l.blk, l.base + off, l.size⟩, I, ?_, ?_, h⟩
        · refine Mv.write hs hob (by simp [blkOf, hl]) (Gw.setRow w l.blk _) (Ext.set (hver _ (Nat.lt_succ_self _))) (fun id' v hne => by simp [Rho.set, hne]) (b1 := l.blk) (.inl rfl) ⟨fun v hv' => ?_, ⟨l.blk, l.base + off, l.size⟩, by simp [Rho.set], _, T, setRow_heap w l.blk arr _ T (0, 0) hh, ?_, ?_, fun j c hj => ?_⟩ (by simp [blkOf, Rho.set])
          · unfold Rho.set
            rw [if_neg (by omega)]
            exact hver v (by omega)
          · rw [List.size_toArray, splice_length hfit]; exact hal
          · simp only [List.length_append, List.length_take, List.length_drop, hys.1.symm, hS.newsLen]
            omega
          · have hext : Ext ρ I (ρ.set id (v' + 1) ⟨l.blk, l.base + off, l.size⟩) I := Ext.set (hver _ (Nat.lt_succ_self _))
            rw [List.getElem?_toArray, splice_get hfit]
            have hcsl : ((cs.drop off).take (n * i.size)).length = n * i.size := by rw [← hvn.1, hvl]
            rcases Nat.lt_or_ge j (n * i.size) with hj1 | hj1
            · rw [List.getElem?_append_left (by rw [hcsl]; exact hj1)] at hj
              rw [if_neg (by simp; omega)]
              rw [List.getElem?_take, if_pos hj1, List.getElem?_drop] at hj
              obtain ⟨u, hu, hvr, huo⟩ := hcl4 _ _ hj
              exact ⟨u, by rw [Array.getElem?_toList]; rw [← hu]; congr 1; simp; omega, hvr.ext hext, huo⟩
            · rw [List.getElem?_append_right (by rw [hcsl]; exact hj1), hcsl] at hj
              obtain ⟨u, hu, hvr⟩ := hys.get hj
              have hlt := (List.getElem?_eq_some_iff.1 hu).1
              refine ⟨u, ?_, hvr.ext hext, hS.one u (List.mem_of_getElem? hu)⟩
              rw [if_pos (by simp; omega), ← hu]
              congr 1; simp; omega
        · exact .sl id (v' + 1) i.size 0 (n + m) ⟨l.blk, l.base + off, l.size⟩ cap (by simp [Rho.set]) hroom (by simp; omega)
      · -- a new row
        have hr := run_append_grow_src (P := P) w t tx ty e i z ht hi hz (some ⟨l.blk, l.base + off, none⟩) n cap _ (run_firstCells_some w.drew i.size n _ n cap _ hvl (fun j u hj => by simpa using hcells j u hj)) vx m us hS (by omega) (by omega) (growslice_fits (by omega) hb1)
        have hm1 := Mv.junk hs (Gw.drew w)
        have hge := grownCap_ge w (n + m) cap e
        have hext : Ext ρ I (ρ.set id (v' + 1) ⟨w.heap.size, 0, (((vs.drop off).take (n * i.size) ++ us).toArray ++ Builtin.zeroCells z.cells (grownCap w (n + m) cap e - (n + m))).size⟩) I := Ext.set (hver _ (Nat.lt_succ_self _))
        refine ⟨_, _, hr, .sl id (v' + 1) i.size 0 (n + m), _, ρ.set id (v' + 1) ⟨w.heap.size, 0, (((vs.drop off).take (n * i.size) ++ us).toArray ++ Builtin.zeroCells z.cells (grownCap w (n + m) cap e - (n + m))).size⟩, I, ?_, ?_, h⟩
        · refine Mv.write (b0 := l.blk) hs hob (by simp [blkOf, hl]) (((Gw.drew w).trans (Gw.alloc w.drew _)).weaken) hext (fun id' v hne => by simp [Rho.set, hne]) (b1 := w.heap.size) (.inr (Nat.le_refl _)) ⟨fun v hv' => ?_, _, Rho.set_self _ _ _ _, _, e, heap_alloc_new w.drew _, rfl, ?_, fun j c hj => ?_⟩ (by simp [blkOf, Rho.set_self])
          · unfold Rho.set
            rw [if_neg (by omega)]
            exact hver v (by omega)
          · have e1 := (hvn.append hys).1
            simp only [Array.size_append, List.size_toArray, e1]
            omega
          · obtain ⟨u, hu, hvr⟩ := (hvn.append hys).get hj
            have hlt := (List.getElem?_eq_some_iff.1 hu).1
            refine ⟨u, ?_, hvr.ext hext, ?_⟩
            · rw [Nat.zero_add, Array.getElem?_append_left (by rw [List.size_toArray]; exact hlt), List.getElem?_toArray]; exact hu
            · rcases List.mem_append.1 (List.mem_of_getElem? hu) with hu | hu
              · exact hvo u hu
              · exact hS.one u hu
        · refine .sl id (v' + 1) i.size 0 (n + m) _ _ (Rho.set_self _ _ _ _) hge ?_
          simp only [Array.size_append, List.size_toArray, size_zeroCells, List.length_append, hvl, hS.newsLen, hzsz, ← Nat.add_mul]
          rw [show n + m + (grownCap w (n + m) cap e - (n + m)) = grownCap w (n + m) cap e from by omega]
          omega
  · exact h.elim

end
end Go.Md

namespace Go.Md
open Go.RowKit
set_option linter.unusedVariables false
set_option linter.unusedSimpArgs false

section
variable {P : Program} {N : Nat} {fr : Fr} {H : Hp} {ρ : Rho} {I : Imm} {β : Nat → Option Nat} {a : Act} {w w' : World}

theorem copy_sound (hs : StH ρ I H w) {t tx ty e : TypeId} {sz : Nat} {d x : AV} {vd vx : Value} {k : AV → Hp → Prop} (ht : P.underlying t = some (.slice e))
    (hk : (∃ e', P.underlying tx = some (.slice e')) ∧ (∀ s, x ≠ .v (.string s)) ∨ P.underlying tx = some .string ∧ ∃ s, x = .v (.string s))
    (hsz : szT P e = some sz) (hd : VR ρ I d vd) (hx : VR ρ I x vx) (h : copyA H sz d x k) :
    ∃ u w', (Builtin.copy_ #[t, tx] ty #[vd, vx]).run P w = .ok u w' ∧ DoesH ρ I H w w' u k := by
  unfold copyA at h
  split at h <;> (first | exact h.elim | skip)
  rename_i m ys hsrc
  obtain ⟨us, hS, hys, hpre⟩ := src_sound (P := P) hs hk hx hsrc
  split at h
  · rename_i id ver s' off n
    split at h <;> (first | exact h.elim | skip)
    rename_i v' cs hob
    split at h <;> (first | exact h.elim | skip)
    rename_i hc
    obtain ⟨rfl, rfl, hle⟩ := hc
    cases hd with
    | sl _ _ _ _ _ l cap hl hn hcap =>
      obtain ⟨hver, l', hl', hcell⟩ := hs.obj _ _ hob
      rw [hl] at hl'; simp at hl'; subst hl'
      have hmn : min m n * s' ≤ n * s' := Nat.mul_le_mul_right _ (Nat.min_le_right _ _)
      have hmm : min m n * s' ≤ m * s' := Nat.mul_le_mul_right _ (Nat.min_le_left _ _)
      have hyl : (ys.take (min m n * s')).length = min m n * s' := by rw [List.length_take, hys.1.symm, hS.newsLen]; omega
      have hul : (us.take (min m n * s')).length = min m n * s' := by rw [List.length_take, hS.newsLen]; omega
      obtain ⟨w', _, hrun, hg, hcell'⟩ := hcell.write (P := P) (off := off) (hys.take (min m n * s')) (fun u hu => hS.one u (List.mem_of_mem_take hu)) (by rw [hyl]; omega)
      have hfirst := hpre (min m n) (Nat.min_le_left _ _)
      have hr : (Builtin.copy_ #[t, tx] ty #[.slice (some ⟨l.blk, l.base + off, none⟩) n cap, vx]).run P w = .ok (goInt (min m n : Nat)) w' := by
        have hf' : (Builtin.firstCells s' (m.min n) vx).run P w = .ok (us.take (min m n * s')).toArray w := hfirst
        simp only [Builtin.copy_, List.getElem?_toArray, List.getElem?_cons_zero, List.getElem?_cons_succ]
        simp [run_underlying ht, hS.len, szT_run hsz, hf', hrun]
      exact ⟨_, w', hr, _, _, ρ, I, Mv.write (ob := .cells v' (splice cs off (ys.take (min m n * s')))) hs hob (by simp [blkOf, hl]) hg (Ext.refl _ _) (fun _ _ _ => rfl) (b1 := l.blk) (.inl rfl) ⟨hver, l, hl, hcell'⟩ (by simp [blkOf, hl]), .v _, h⟩
  · rename_i xx cs
    cases hd with
    | row _ _ _ vs ad cap h1 h2 h3 h4 h5 h6 =>
      refine ⟨goInt 0, w, ?_, _, H, ρ, I, Mv.refl hs, .v _, h⟩
      have hf := hpre 0 (Nat.zero_le _)
      simp only [Nat.zero_mul, List.take_zero] at hf
      cases ad <;> simp [Builtin.copy_, run_underlying ht, hS.len, szT_run hsz, hf, storeCells, goInt]
  · exact h.elim

theorem make_sound (hs : StH ρ I H w) {t e : TypeId} {zs : List AV} {bytes : Nat} {l c : AV} {vl vc : Value} {k : AV → Hp → Prop} (ht : P.underlying t = some (.slice e))
    (hz : zerosT P e = some zs) (hsz : szT P e = some zs.length) (hb : ((P.info? e).map (·.bytes)) = some bytes) (hl : VR ρ I l vl) (hc : VR ρ I c vc) (h : makeA H bytes zs l c k) :
    ∃ u w', (Instr.makeSlice t vl vc).run P w = .ok u w' ∧ DoesH ρ I H w w' u k := by
  unfold makeA at h
  split at h <;> (first | exact h.elim | skip)
  rename_i k1 l k2 c
  split at h <;> (first | exact h.elim | skip)
  rename_i hc'
  obtain ⟨h0, h1, h2, h3⟩ := hc'
  cases hl; cases hc
  obtain ⟨i, z, hi, hzz, rfl, ho⟩ := zerosT_spec hz
  have hbi : i.bytes = bytes := by simpa [hi] using hb
  have hisz : i.size = z.cells.size := by simpa [szT, hi] using hsz
  have hwl : IntKind.i64.wrap l = l := IntWalk.i64_in _ (by omega)
  have hwc : IntKind.i64.wrap c = c := IntWalk.i64_in _ (by omega)
  have hbig : ¬ (281474976710656 < (bytes : Int) * c) := by
    have : ((bytes * c.toNat : Nat) : Int) ≤ ((140737488355328 : Nat) : Int) := Int.ofNat_le.2 h3
    have e : ((c.toNat : Nat) : Int) = c := Int.toNat_of_nonneg (by omega)
    rw [Int.natCast_mul, e] at this
    have e2 : ((140737488355328 : Nat) : Int) = 140737488355328 := rfl
    rw [e2] at this
    omega
  let arr : Array Value := (Array.range (c.toNat * z.cells.size)).map fun j => (if c.toNat * z.cells.size = 0 then #[] else z.cells)[j % (if c.toNat * z.cells.size = 0 then (#[] : Array Value) else z.cells).size]!
  have hsize : arr.size = c.toNat * z.cells.size := by simp [arr]
  have hget : ∀ j, j < c.toNat * z.cells.size → arr[j]? = z.cells[j % z.cells.size]? := by
    intro j hj
    have hp : 0 < z.cells.size := by
      rcases Nat.eq_zero_or_pos z.cells.size with h0 | h0
      · rw [h0] at hj; simp at hj
      · exact h0
    have hne : ¬ (c.toNat * z.cells.size = 0) := by omega
    have hlt : j % z.cells.size < z.cells.size := Nat.mod_lt _ hp
    simp only [arr, hne, if_false, Array.getElem?_map, Array.getElem?_range, hj, if_true, Option.map_some]
    rw [getElem!_pos z.cells _ hlt, Array.getElem?_eq_getElem hlt]
  have hle : l.toNat * z.cells.size ≤ c.toNat * z.cells.size := Nat.mul_le_mul_right _ (by omega)
  have hrl : (repeatL l.toNat (z.cells.toList.map AV.v)).length = l.toNat * z.cells.size := by simp [repeatL_length]
  have hm := Mv.newCells (T := e) (arr := arr) hs (cs := repeatL l.toNat (z.cells.toList.map AV.v)) (by
      have ha : arr.toList.length = c.toNat * z.cells.size := by simpa using hsize
      refine VRs.of_get (by rw [List.length_take, ha, hrl]; omega) fun j x u hx hu => ?_
      have hj := (List.getElem?_eq_some_iff.1 hx).1
      rw [hrl] at hj
      rw [repeatL_get _ _ _ (by simpa using hj)] at hx
      rw [List.getElem?_take, if_pos (by rw [hrl]; exact hj), Array.getElem?_toList, hget j (by omega)] at hu
      simp only [List.getElem?_map, List.length_map, Array.length_toList, Option.map_eq_some_iff] at hx
      obtain ⟨y, hy, rfl⟩ := hx
      rw [Array.getElem?_toList, hu] at hy
      simp at hy; subst hy
      exact .v _) (by rw [hrl, hsize]; exact hle) (by
      intro u hu
      obtain ⟨j, hj⟩ := List.getElem?_of_mem hu
      have hlt := (List.getElem?_eq_some_iff.1 hj).1
      simp [hsize] at hlt
      rw [Array.getElem?_toList, hget j hlt] at hj
      exact ho u (by have := Array.mem_of_getElem? hj; simpa using this))
  refine ⟨.slice (some ⟨w.heap.size, 0, none⟩) l.toNat c.toNat, w.alloc (.cells arr e), ?_, _, _, _, I, hm, .sl H.length 0 (z.cells.toList.map AV.v).length 0 _ _ c.toNat (Rho.set_self _ _ _ _) (by omega) (by simp [hsize]), by simpa using h⟩
  have hl0 : ¬ (l < 0) := by omega
  have hc0 : ¬ (c < 0) := by omega
  have hcl : ¬ (c < l) := by omega
  by_cases hn : c.toNat * z.cells.size = 0
  · simp [Instr.makeSlice, run_underlying ht, asInt, asIntOf, typeInfo, hi, hbi, hwl, hwc, hl0, hc0, hcl, hbig, sizeOf, hisz, hn, newRow, arr]
  · simp [Instr.makeSlice, run_underlying ht, asInt, asIntOf, typeInfo, hi, hbi, hwl, hwc, hl0, hc0, hcl, hbig, sizeOf, hisz, hn, newRow, zeroValue, hzz, arr]

end
end Go.Md

namespace Go.Md
open Go.RowKit
set_option linter.unusedVariables false

open Classical in
noncomputable def updA (P : Program) (H : Hp) (t : TypeId) (m key val : AV) (k : Hp → Prop) : Prop := match P.underlying t, m with
  | some (.map kt _), .mp id => match H[id]? with
    | some (.map es clock) => MapOk P kt es clock ∧ KGood P kt key ∧ k (H.set id (.map (putE key val es clock) (putC' key es clock)))
    | _ => False
  | _, _ => False
noncomputable def delA (P : Program) (H : Hp) (t : TypeId) (m key : AV) (k : Hp → Prop) : Prop := match P.underlying t, m with
  | some (.map kt _), .mp id => match H[id]? with
    | some (.map es clock) => MapOk P kt es clock ∧ KGood P kt key ∧ k (H.set id (.map (delE key es) clock))
    | _ => False
  | some (.map kt _), .v (.map none) => KGood P kt key ∧ k H
  | _, _ => False
def clearA (H : Hp) (m : AV) (k : Hp → Prop) : Prop := match m with
  | .mp id => match H[id]? with
    | some (.map es clock) => k (H.set id (.map [] clock))
    | _ => False
  | .v (.map none) => k H
  | _ => False
def rangeA (P : Program) (H : Hp) (t : TypeId) (x : AV) (k : AV → Hp → Prop) : Prop := match P.underlying t, x with
  | some .string, .v (.string s) => k (.it H.length) (H ++ [.strIter s 0])
  | some (.map _ _), .mp id => match H[id]? with
    | some (.map es clock) => k (.it H.length) (H ++ [.mapIter (some id) clock [] clock])
    | _ => False
  | some (.map _ _), .v (.map none) => k (.it H.length) (H ++ [.mapIter none 0 [] 0])
  | _, _ => False
def nextA (H : Hp) (it : AV) (isStr : Bool) (k : AV → Hp → Prop) : Prop := match it with
  | .it i => match H[i]?, isStr with
    | some (.strIter s pos), true => (pos < s.size → k (.tup [.v (.bool true), .v (.int .i64 pos), .v (.int .i32 (Utf8.decode s pos).1)]) (H.set i (.strIter s (pos + (Utf8.decode s pos).2)))) ∧
        (¬ pos < s.size → k (.tup [.v (.bool false)]) H)
    | some (.mapIter none _ _ _), false => k (.tup [.v (.bool false)]) H
    | some (.mapIter (some m) since seen last), false => match H[m]? with
      | some (.map es clock) => ¬ (seen ≠ [] ∧ es ≠ [] ∧ ∀ e ∈ es, last ≤ e.1) ∧
          (∀ e ∈ es, e.1 ∉ seen → k (.tup [.v (.bool true), e.2.1, e.2.2]) (H.set i (.mapIter (some m) since (seen ++ [e.1]) clock))) ∧
          ((∀ e ∈ es, e.1 ∈ seen ∨ since ≤ e.1) → k (.tup [.v (.bool false)]) H)
      | _ => False
    | _, _ => False
  | _ => False

def entryA (H : Hp) (it : AV) : Option AV := match it with
  | .it i => match H[i]? with
    | some (.mapIter (some m) _ seen last) => match H[m]?, seen.getLast? with
      | some (.map es clock), some st => if clock = last then (es.find? (fun e => e.1 == st)).map (fun e => .tup [e.2.1, e.2.2]) else none
      | _, _ => none
    | _ => none
  | _ => none

section
variable {P : Program} {H : Hp} {ρ : Rho} {I : Imm} {w : World}

theorem setObj_run {b : Nat} (o : Obj) {o' : Obj} (h : w.heap[b]? = some o') (hm : ∃ es c, o' = .map es c) : (setObj b o).run P w = .ok () { w with heap := w.heap.setIfInBounds b o } := by
  obtain ⟨es, c, rfl⟩ := hm
  exact MapKept.run_setObj_map o h
theorem Gw.setB (b : Nat) (o : Obj) : Gw (some b) w { w with heap := w.heap.setIfInBounds b o } :=
  ⟨rfl, rfl, rfl, Nat.le_refl _, by simp, fun x hx hne => by
    have : b ≠ x := fun e => hne (by rw [e])
    simp [this]⟩
theorem setB_get {b : Nat} {o o' : Obj} (h : w.heap[b]? = some o') : ({ w with heap := w.heap.setIfInBounds b o } : World).heap[b]? = some o := (MapKept.heap_set h).1

theorem map_write (hs : StH ρ I H w) {id clock clock' : Nat} {es es' : List (Nat × AV × AV)} {l : Loc} {ms ms' : Array MapEntry} (hid : H[id]? = some (.map es clock)) (hv : ∀ v', 0 < v' → ρ id v' = none) (hl : ρ id 0 = some l) (hb : w.heap[l.blk]? = some (.map ms clock))
    (hE : EntR ρ I es' ms'.toList) : Mv ρ I H w ρ I (H.set id (.map es' clock')) { w with heap := w.heap.setIfInBounds l.blk (.map ms' clock') } := by
  refine Mv.write hs hid (b0 := l.blk) (by simp [blkOf, hl]) (Gw.setB _ _) (Ext.refl _ _) (fun _ _ _ => rfl) (b1 := l.blk) (.inl rfl) ⟨hv, l, ms', hl, setB_get hb, hE⟩ (by simp [blkOf, hl])

theorem putE_some {kt : TypeId} {es : List (Nat × AV × AV)} {clock : Nat} {key val : AV} (hok : MapOk P kt es clock) {j : Nat} {e : Nat × AV × AV} (hj : es[j]? = some e) (hk : e.2.1 = key) :
    putC' key es clock = clock ∧ (putE key val es clock).length = es.length ∧ ∀ i, (putE key val es clock)[i]? = if i = j then some (e.1, key, val) else es[i]? := by
  classical
  have hex : ∃ e ∈ es, e.2.1 = key := ⟨e, List.mem_of_getElem? hj, hk⟩
  refine ⟨by unfold putC'; rw [if_pos hex], by unfold putE; rw [if_pos hex]; simp, fun i => ?_⟩
  unfold putE
  rw [if_pos hex, List.getElem?_map]
  by_cases hij : i = j
  · subst hij
    rw [hj, if_pos rfl]
    simp [hk]
  · rw [if_neg hij]
    cases hi : es[i]? with
    | none => rfl
    | some x =>
      have hne : x.2.1 ≠ key := by
        intro hx
        have h1 : (es.map (·.2.1))[i]? = some key := by rw [List.getElem?_map, hi]; simp [hx]
        have h2 : (es.map (·.2.1))[j]? = some key := by rw [List.getElem?_map, hj]; simp [hk]
        have hlt := (List.getElem?_eq_some_iff.1 h1).1
        exact hij ((List.getElem?_inj hlt hok.keys).1 (h1.trans h2.symm))
      simp [hne]
theorem putE_none {es : List (Nat × AV × AV)} {clock : Nat} {key val : AV} (h : ∀ e ∈ es, e.2.1 ≠ key) : putC' key es clock = clock + 1 ∧ putE key val es clock = es ++ [(clock, key, val)] := by
  classical
  have hno : ¬ ∃ e ∈ es, e.2.1 = key := by rintro ⟨e, he, hk⟩; exact h e he hk
  exact ⟨by unfold putC'; rw [if_neg hno], by unfold putE; rw [if_neg hno]⟩
theorem delE_none {es : List (Nat × AV × AV)} {key : AV} (h : ∀ e ∈ es, e.2.1 ≠ key) : delE key es = es := by
  unfold delE
  exact List.filter_eq_self.2 (fun e he => by simpa using h e he)
theorem delE_some {key : AV} : ∀ {es : List (Nat × AV × AV)} {j : Nat} {e : Nat × AV × AV}, (es.map (·.2.1)).Nodup → es[j]? = some e → e.2.1 = key → delE key es = es.eraseIdx j
  | [], j, e, _, h, _ => by simp at h
  | x :: r, 0, e, hn, h, hk => by
    simp at h; subst h
    have hn' : x.2.1 ∉ r.map (·.2.1) ∧ (r.map (·.2.1)).Nodup := by simpa using hn
    unfold delE
    rw [List.filter_cons_of_neg (by simpa using hk)]
    exact delE_none (fun e he hke => hn'.1 (by rw [hk, ← hke]; exact List.mem_map.2 ⟨e, he, rfl⟩))
  | x :: r, j + 1, e, hn, h, hk => by
    have hn' : x.2.1 ∉ r.map (·.2.1) ∧ (r.map (·.2.1)).Nodup := by simpa using hn
    have h' : r[j]? = some e := by simpa using h
    have ih := delE_some hn'.2 h' hk
    unfold delE at ih ⊢
    have hx : x.2.1 ≠ key := fun e2 => hn'.1 (by rw [e2, ← hk]; exact List.mem_map.2 ⟨e, List.mem_of_getElem? h', rfl⟩)
    rw [List.filter_cons_of_pos (by simpa using hx), ih]; rfl

theorem upd_sound (hs : StH ρ I H w) {t : TypeId} {m key val : AV} {um uk uv : Value} {k : Hp → Prop} (hm : VR ρ I m um) (hk : VR ρ I key uk) (hv : VR ρ I val uv) (h : updA P H t m key val k) :
    ∃ w' H', (Instr.mapUpdate t um uk uv).run P w = .ok () w' ∧ Mv ρ I H w ρ I H' w' ∧ k H' := by
  unfold updA at h
  split at h <;> (first | exact h.elim | skip)
  rename_i kt et id ht
  split at h <;> (first | exact h.elim | skip)
  rename_i es clock hob
  obtain ⟨hok, hkg, h⟩ := h
  cases hm with
  | mp _ l hl =>
    obtain ⟨hver, l', ms, hl', hb, hent⟩ := hs.obj _ _ hob
    rw [hl] at hl'; simp at hl'; subst hl'
    have hget : (getObj l.blk).run P w = .ok (.map ms clock) w := MapKept.run_getObj_map hb
    rcases find_ent w hent hok hkg hk with ⟨h1, h2⟩ | ⟨j, e, mm, h1, h2, h3, h4, h5, h6, h7⟩
    · obtain ⟨e1, e2⟩ := putE_none (clock := clock) (val := val) h2
      rw [e1, e2] at h
      refine ⟨_, _, ?_, map_write hs hob hver hl hb (ms' := ms.push { key := uk, val := uv, born := clock }) (clock' := clock + 1) ?_, h⟩
      · simp [Instr.mapUpdate, run_underlying ht, hget, check_key w _ (hkg.good hk), h1, MapKept.run_setObj_map _ hb]
      · refine ⟨by simp [← hent.1], fun i x hx => ?_⟩
        rcases Nat.lt_or_ge i es.length with hi | hi
        · rw [List.getElem?_append_left hi] at hx
          obtain ⟨m', k1, k2⟩ := hent.2 i x hx
          refine ⟨m', ?_, k2⟩
          rw [Array.toList_push, List.getElem?_append_left (by rw [hent.1]; exact hi)]; exact k1
        · rw [List.getElem?_append_right hi] at hx
          have h0 : i - es.length = 0 := by
            rcases Nat.eq_zero_or_pos (i - es.length) with h0 | h0
            · exact h0
            · rw [List.getElem?_eq_none (by simp; omega)] at hx; simp at hx
          rw [h0] at hx; simp at hx; subst hx
          refine ⟨{ key := uk, val := uv, born := clock }, ?_, rfl, hk, hv⟩
          rw [Array.toList_push, List.getElem?_append_right (by rw [hent.1]; exact hi), hent.1, h0]; rfl
    · obtain ⟨e1, e2, e3⟩ := putE_some (val := val) hok h2 h4
      rw [e1] at h
      have hms : ms[j]? = some mm := by simpa using h3
      refine ⟨_, _, ?_, map_write hs hob hver hl hb (ms' := ms.modify j fun e => { e with key := uk, val := uv }) (clock' := clock) ?_, h⟩
      · simp [Instr.mapUpdate, run_underlying ht, hget, check_key w _ (hkg.good hk), h1, hms, h5, stays_key w (hkg.good hk), MapKept.run_setObj_map _ hb]
      · refine ⟨by rw [e2, ← hent.1]; simp, fun i x hx => ?_⟩
        rw [e3] at hx
        rw [Array.getElem?_toList, Array.getElem?_modify]
        by_cases hij : i = j
        · subst hij
          rw [if_pos rfl] at hx; simp at hx; subst hx
          rw [if_pos rfl, hms]
          exact ⟨_, rfl, h6, hk, hv⟩
        · rw [if_neg hij] at hx
          rw [if_neg (Ne.symm hij)]
          obtain ⟨m', k1, k2⟩ := hent.2 i x hx
          exact ⟨m', by simpa using k1, k2⟩

theorem EntR.erase {es : List (Nat × AV × AV)} {ms : List MapEntry} (h : EntR ρ I es ms) (j : Nat) : EntR ρ I (es.eraseIdx j) (ms.eraseIdx j) := by
  refine ⟨by rw [List.length_eraseIdx, List.length_eraseIdx, h.1], fun i e he => ?_⟩
  rw [List.getElem?_eraseIdx] at he ⊢
  split at he
  · rename_i hlt; rw [if_pos hlt]; exact h.2 i e he
  · rename_i hlt; rw [if_neg hlt]; exact h.2 (i + 1) e he

theorem del_sound (hs : StH ρ I H w) {t ty : TypeId} {ts : Array TypeId} {m key : AV} {um uk : Value} {k : Hp → Prop} (h0 : ts[0]? = some t) (hm : VR ρ I m um) (hk : VR ρ I key uk) (h : delA P H t m key k) :
    ∃ w' H', (Builtin.delete_ ts ty #[um, uk]).run P w = .ok (.tuple #[]) w' ∧ Mv ρ I H w ρ I H' w' ∧ k H' := by
  unfold delA at h
  split at h <;> (first | exact h.elim | skip)
  · rename_i kt et id ht
    split at h <;> (first | exact h.elim | skip)
    rename_i es clock hob
    obtain ⟨hok, hkg, h⟩ := h
    cases hm with
    | mp _ l hl =>
      obtain ⟨hver, l', ms, hl', hb, hent⟩ := hs.obj _ _ hob
      rw [hl] at hl'; simp at hl'; subst hl'
      have hget : (getObj l.blk).run P w = .ok (.map ms clock) w := MapKept.run_getObj_map hb
      rcases find_ent w hent hok hkg hk with ⟨h1, h2⟩ | ⟨j, e, mm, h1, h2, h3, h4, h5, h6, h7⟩
      · rw [delE_none h2] at h
        refine ⟨_, _, ?_, map_write hs hob hver hl hb (ms' := ms) (clock' := clock) hent, h⟩
        simp [Builtin.delete_, h0, run_underlying ht, hget, check_key w _ (hkg.good hk), h1, MapKept.run_setObj_map _ hb]
      · rw [delE_some hok.keys h2 h4] at h
        have hlt : j < ms.size := by have := (List.getElem?_eq_some_iff.1 h3).1; simpa using this
        refine ⟨_, _, ?_, map_write hs hob hver hl hb (ms' := ms.eraseIdxIfInBounds j) (clock' := clock) ?_, h⟩
        · simp [Builtin.delete_, h0, run_underlying ht, hget, check_key w _ (hkg.good hk), h1, MapKept.run_setObj_map _ hb]
        · have : (ms.eraseIdxIfInBounds j).toList = ms.toList.eraseIdx j := by
            unfold Array.eraseIdxIfInBounds
            rw [dif_pos hlt]; simp
          rw [this]; exact hent.erase j
  · rename_i kt et ht
    obtain ⟨hkg, h⟩ := h
    rw [hm.v_inv]
    exact ⟨w, H, by simp [Builtin.delete_, h0, run_underlying ht, check_key w _ (hkg.good hk)], Mv.refl hs, h⟩

theorem clear_sound (hs : StH ρ I H w) {t ty : TypeId} {ts : Array TypeId} {m : AV} {um : Value} {k : Hp → Prop} {kt et : TypeId} (h0 : ts[0]? = some t) (ht : P.underlying t = some (.map kt et)) (hm : VR ρ I m um) (h : clearA H m k) :
    ∃ w' H', (Builtin.clear_ ts ty #[um]).run P w = .ok (.tuple #[]) w' ∧ Mv ρ I H w ρ I H' w' ∧ k H' := by
  unfold clearA at h
  split at h <;> (first | exact h.elim | skip)
  · rename_i id
    split at h <;> (first | exact h.elim | skip)
    rename_i es clock hob
    cases hm with
    | mp _ l hl =>
      obtain ⟨hver, l', ms, hl', hb, hent⟩ := hs.obj _ _ hob
      rw [hl] at hl'; simp at hl'; subst hl'
      have hget : (getObj l.blk).run P w = .ok (.map ms clock) w := MapKept.run_getObj_map hb
      refine ⟨_, _, ?_, map_write hs hob hver hl hb (es' := []) (ms' := #[]) (clock' := clock) ⟨rfl, fun i e he => by simp at he⟩, h⟩
      simp [Builtin.clear_, h0, run_underlying ht, hget, MapKept.run_setObj_map _ hb]
  · rw [hm.v_inv]
    exact ⟨w, H, by simp [Builtin.clear_, h0, run_underlying ht], Mv.refl hs, h⟩

theorem range_sound (hs : StH ρ I H w) {t : TypeId} {x : AV} {ux : Value} {k : AV → Hp → Prop} (hx : VR ρ I x ux) (h : rangeA P H t x k) :
    ∃ u w', (Instr.range t ux).run P w = .ok u w' ∧ DoesH ρ I H w w' u k := by
  have hno : ∀ v' : Nat, 0 < v' → ∀ l : Loc, (ρ.set H.length 0 l) H.length v' = none := fun v' hv l => by
    unfold Rho.set
    rw [if_neg (by omega)]
    exact hs.rho_none (Nat.le_refl _) v'
  unfold rangeA at h
  split at h <;> (first | exact h.elim | skip)
  · rename_i s ht
    rw [hx.v_inv]
    refine ⟨.pointer (some ⟨w.heap.size, 0, none⟩), w.alloc (.stringIter s 0), by simp [Instr.range, run_underlying ht], _, _, _, I, Mv.newObj hs (l := ⟨w.heap.size, 0, 0⟩) (ob := .strIter s 0) (Gw.alloc w _) (Nat.le_refl _) ⟨fun v hv => hno v hv _, _, Rho.set_self _ _ _ _, heap_alloc_new w _⟩ (by simp [blkOf, Rho.set_self]), .it H.length _ (Rho.set_self _ _ _ _), h⟩
  · rename_i kt et id ht
    split at h <;> (first | exact h.elim | skip)
    rename_i es clock hob
    cases hx with
    | mp _ l hl =>
      obtain ⟨hver, l', ms, hl', hb, hent⟩ := hs.obj _ _ hob
      rw [hl] at hl'; simp at hl'; subst hl'
      have hget : (getObj l.blk).run P w = .ok (.map ms clock) w := MapKept.run_getObj_map hb
      have hlt := hs.dom _ _ _ hl
      refine ⟨.pointer (some ⟨w.heap.size, 0, none⟩), w.alloc (.mapIter (some l.blk) clock #[] clock), by simp [Instr.range, run_underlying ht, hget], _, _, _, I,
        Mv.newObj hs (l := ⟨w.heap.size, 0, 0⟩) (ob := .mapIter (some id) clock [] clock) (Gw.alloc w _) (Nat.le_refl _) ⟨fun v hv => hno v hv _, _, l, Rho.set_self _ _ _ _, ?_, heap_alloc_new w _⟩ (by simp [blkOf, Rho.set_self]), .it H.length _ (Rho.set_self _ _ _ _), h⟩
      unfold Rho.set
      rw [if_neg (by omega)]; exact hl
  · rename_i kt et ht
    rw [hx.v_inv]
    refine ⟨.pointer (some ⟨w.heap.size, 0, none⟩), w.alloc (.mapIter none 0 #[] 0), by simp [Instr.range, run_underlying ht], _, _, _, I, Mv.newObj hs (l := ⟨w.heap.size, 0, 0⟩) (ob := .mapIter none 0 [] 0) (Gw.alloc w _) (Nat.le_refl _) ⟨fun v hv => hno v hv _, _, Rho.set_self _ _ _ _, heap_alloc_new w _⟩ (by simp [blkOf, Rho.set_self]), .it H.length _ (Rho.set_self _ _ _ _), h⟩

theorem run_mapNext (n : Nat) (hn : 0 < n) : ∃ c w', (choose (.mapNext n)).run P w = .ok c w' ∧ c < n ∧ Gw none w w' ∧ w'.heap = w.heap := by
  by_cases h : n ≤ 1
  · exact ⟨0, w, by simp [choose, Sem.run, Question.forced, h], hn, Gw.refl w, rfl⟩
  · exact ⟨_, w.drew, by unfold choose; simp only [Sem.run]; rw [if_neg (by simpa [Question.forced] using h)]; rfl, Nat.mod_lt _ hn, Gw.drew w, rfl⟩

theorem iter_write (hs : StH ρ I H w) {i : Nat} {o ob : Ob} {l : Loc} {oo obj : Obj} (hid : H[i]? = some o) (hbk : blkOf ρ i o = some l.blk) (hb : w.heap[l.blk]? = some oo) (hbo : blkOf ρ i ob = some l.blk)
    (ho : ObR ρ I { w with heap := w.heap.setIfInBounds l.blk obj } i ob) : Mv ρ I H w ρ I (H.set i ob) { w with heap := w.heap.setIfInBounds l.blk obj } :=
  Mv.write hs hid hbk (Gw.setB _ _) (Ext.refl _ _) (fun _ _ _ => rfl) (b1 := l.blk) (.inl rfl) ho hbo

theorem run_setObj_at {b : Nat} {o o' : Obj} (hb : w.heap[b]? = some o') (hn : ∀ c t f, o' ≠ .cells c t f) : (setObj b o).run P w = .ok () { w with heap := w.heap.setIfInBounds b o } := by
  cases o' <;> simp_all [setObj, Sem.run]
theorem run_getObj_at {b : Nat} {o : Obj} (hb : w.heap[b]? = some o) (hn : ∀ c t f, o ≠ .cells c t f) : (getObj b).run P w = .ok o w := by
  cases o <;> simp_all [getObj, Sem.run]

theorem next_sound (hs : StH ρ I H w) {it : AV} {ui : Value} {isStr : Bool} {ty : TypeId} {k : AV → Hp → Prop} (hi : VR ρ I it ui) (h : nextA H it isStr k) :
    ∃ u w', (Instr.next ui isStr ty).run P w = .ok u w' ∧ DoesH ρ I H w w' u k := by
  have over : ∀ w', Mv ρ I H w ρ I H w' → k (.tup [.v (.bool false)]) H → DoesH ρ I H w w' (.tuple #[.bool false]) k := fun w' hm hk =>
    ⟨_, H, ρ, I, hm, .tup [.v (.bool false)] [.bool false] rfl (fun i c hc => by
      match i, hc with
      | 0, hc => simp at hc; subst hc; exact .v _), hk⟩
  unfold nextA at h
  split at h <;> (first | exact h.elim | skip)
  rename_i i
  cases hi with
  | it _ l hl =>
  split at h <;> (first | exact h.elim | skip)
  · -- a text
    rename_i s pos hob
    obtain ⟨hver, l', hl', hb⟩ := hs.obj _ _ hob
    rw [hl] at hl'; simp at hl'; subst hl'
    by_cases hp : pos < s.size
    · have h := h.1 hp
      have hm := iter_write hs (ob := .strIter s (pos + (Utf8.decode s pos).2)) (obj := .stringIter s (pos + (Utf8.decode s pos).2)) hob (by simp [blkOf, hl]) hb (by simp [blkOf, hl]) ⟨hver, l, hl, setB_get hb⟩
      refine ⟨.tuple #[.bool true, .int .i64 pos, .int .i32 (Utf8.decode s pos).1], _, ?_, _, _, ρ, I, hm, .tup _ [.bool true, .int .i64 pos, .int .i32 (Utf8.decode s pos).1] rfl (fun i c hc => ?_), h⟩
      · simp [Instr.next, run_getObj_at hb (by simp), hp, run_setObj_at hb (by simp), goInt]
      · match i, hc with
        | 0, hc => simp at hc; subst hc; exact .v _
        | 1, hc => simp at hc; subst hc; exact .v _
        | 2, hc => simp at hc; subst hc; exact .v _
    · exact ⟨_, w, by simp [Instr.next, run_getObj_at hb (by simp), hp], over w (Mv.refl hs) (h.2 hp)⟩
  · rename_i a b c hob
    obtain ⟨hver, l', hl', hb⟩ := hs.obj _ _ hob
    rw [hl] at hl'; simp at hl'; subst hl'
    exact ⟨_, w, by simp [Instr.next, run_getObj_at hb (by simp)], over w (Mv.refl hs) h⟩
  · rename_i m since seen last hob
    split at h <;> (first | exact h.elim | skip)
    rename_i es clock hmob
    obtain ⟨hver, l', lm, hl', hlm, hb⟩ := hs.obj _ _ hob
    rw [hl] at hl'; simp at hl'; subst hl'
    obtain ⟨_, lm', ms, hlm', hmb, hent⟩ := hs.obj _ _ hmob
    rw [hlm] at hlm'; simp at hlm'; subst hlm'
    obtain ⟨hgone, hstep, hend⟩ := h
    have hborn : ∀ mm ∈ ms.toList, ∃ e ∈ es, mm.born = e.1 ∧ VR ρ I e.2.1 mm.key ∧ VR ρ I e.2.2 mm.val := by
      intro mm hmm
      obtain ⟨j, hj⟩ := List.getElem?_of_mem hmm
      have hlt := (List.getElem?_eq_some_iff.1 hj).1
      rw [hent.1] at hlt
      obtain ⟨m', k1, k2, k3, k4⟩ := hent.2 j _ (List.getElem?_eq_getElem hlt)
      rw [hj] at k1; simp at k1; subst k1
      exact ⟨_, List.getElem_mem hlt, k2, k3, k4⟩
    have hback : ∀ e ∈ es, ∃ mm ∈ ms.toList, mm.born = e.1 := by
      intro e he
      obtain ⟨j, hj⟩ := List.getElem?_of_mem he
      obtain ⟨m', k1, k2, _⟩ := hent.2 j e hj
      exact ⟨m', List.mem_of_getElem? k1, k2⟩
    have hg : ¬ ((!seen.toArray.isEmpty && !ms.isEmpty && ms.all (fun x => decide (x.born ≥ last))) = true) := by
      intro hc
      simp only [Bool.and_eq_true, Bool.not_eq_true'] at hc
      refine hgone ⟨fun e => by subst e; simp at hc, fun e => by subst e; have := hent.1; simp at this; simp [this] at hc, fun e he => ?_⟩
      obtain ⟨mm, h1, h2⟩ := hback e he
      have := (Array.all_eq_true'.1 hc.2) mm (by simpa using h1)
      simp at this; omega
    let left := ms.filter fun e => !seen.toArray.contains e.born
    let old := left.filter (fun x => decide (x.born < since))
    let new := left.filter (fun x => decide (x.born ≥ since))
    let cand : Array (Option MapEntry) := (if old.isEmpty then #[none] else #[]) ++ (old ++ new).map some
    have hpos : 0 < cand.size := by
      simp only [cand]
      by_cases ho : old.isEmpty = true
      · rw [if_pos ho]; simp; omega
      · rw [if_neg ho]
        have : 0 < old.size := by
          rcases Nat.eq_zero_or_pos old.size with h0 | h0
          · exact absurd (by simpa [Array.isEmpty] using h0) ho
          · exact h0
        simp; omega
    obtain ⟨c, w', hc1, hlt, hc2, hc3⟩ := run_mapNext (P := P) (w := w) cand.size hpos
    have hs' : Mv ρ I H w ρ I H w' := Mv.junk hs hc2
    have hb' : w'.heap[l.blk]? = some (.mapIter (some lm.blk) since seen.toArray last) := by rw [hc3]; exact hb
    have hrun : ∀ R, (match cand[c]? with
        | some (some e) => (do setObj l.blk (.mapIter (some lm.blk) since (seen.toArray.push e.born) clock); pure (.tuple #[.bool true, e.key, e.val]) : Sem Value).run P w'
        | some none => .ok (.tuple #[.bool false]) w'
        | none => (stuck "Next: no such candidate" : Sem Value).run P w') = R → (Instr.next (.pointer (some ⟨l.blk, 0, none⟩)) false ty).run P w = R := by
      intro R hR
      rw [← hR]
      simp only [Instr.next, Sem.run_bind, run_getObj_at hb (by simp), Result.andThen_ok, run_getObj_at hmb (by simp)]
      rw [if_neg hg]
      simp only [Sem.run_bind, Sem.run_pure]
      have e : (choose (.mapNext cand.size)).run P w = .ok c w' := hc1
      simp only [cand, left, old, new] at e
      rw [e]
      simp only [Result.andThen_ok, cand, left, old, new]
      split <;> rename_i hh <;> rw [hh] <;> simp
    have hget : cand[c]? = some cand[c] := Array.getElem?_eq_getElem hlt
    have hmem : cand[c] ∈ cand := Array.getElem_mem hlt
    cases hx : cand[c] with
    | none =>
      refine ⟨_, w', hrun _ (by rw [hget, hx]), over w' hs' (hend fun e he => ?_)⟩
      rw [hx] at hmem
      have hold : old.isEmpty = true := by
        by_cases ho : old.isEmpty = true
        · exact ho
        · simp only [cand] at hmem
          rw [if_neg ho] at hmem
          simp at hmem
      obtain ⟨mm, h1, h2⟩ := hback e he
      by_cases hsn : e.1 ∈ seen
      · exact .inl hsn
      · right
        rcases Nat.lt_or_ge e.1 since with h3 | h3
        · exfalso
          have : mm ∈ old := by
            simp only [old, left]
            rw [Array.mem_filter, Array.mem_filter]
            exact ⟨⟨by simpa using h1, by simp [h2, hsn]⟩, by simp [h2, h3]⟩
          have h0 : old.size = 0 := by simpa [Array.isEmpty] using hold
          have := Array.size_pos_of_mem this
          omega
        · exact h3
    | some mm =>
      rw [hx] at hmem
      have hin : mm ∈ left := by
        simp only [cand] at hmem
        rw [Array.mem_append] at hmem
        rcases hmem with hm | hm
        · split at hm <;> simp at hm
        · rw [Array.mem_map] at hm
          obtain ⟨y, hy, hye⟩ := hm
          simp at hye; subst hye
          rw [Array.mem_append] at hy
          rcases hy with hy | hy
          · exact (Array.mem_filter.1 hy).1
          · exact (Array.mem_filter.1 hy).1
      have hin2 := Array.mem_filter.1 hin
      obtain ⟨e, he, hb1, hb2, hb3⟩ := hborn mm (by simpa using hin2.1)
      have hns : e.1 ∉ seen := by have := hin2.2; rw [hb1] at this; simpa using this
      have hm2 := iter_write hs'.st (ob := .mapIter (some m) since (seen ++ [e.1]) clock) (obj := .mapIter (some lm.blk) since (seen.toArray.push mm.born) clock) hob (by simp [blkOf, hl]) hb' (by simp [blkOf, hl])
        ⟨hver, l, lm, hl, hlm, by rw [setB_get hb', hb1]; simp⟩
      refine ⟨_, _, hrun _ (by rw [hget, hx]; simp [run_setObj_at hb' (by simp)]), _, _, ρ, I, hs'.trans hm2, .tup [.v (.bool true), e.2.1, e.2.2] [.bool true, mm.key, mm.val] rfl (fun i c hc => ?_), hstep e he hns⟩
      match i, hc with
      | 0, hc => simp at hc; subst hc; exact .v _
      | 1, hc => simp at hc; subst hc; exact hb2
      | 2, hc => simp at hc; subst hc; exact hb3

theorem find_entR {st : Nat} : ∀ {es : List (Nat × AV × AV)} {ms : List MapEntry} {e : Nat × AV × AV}, EntR ρ I es ms → es.find? (fun e => e.1 == st) = some e →
    ∃ m : MapEntry, ms.find? (fun m => m.born == st) = some m ∧ VR ρ I e.2.1 m.key ∧ VR ρ I e.2.2 m.val
  | [], ms, e, _, h => by simp at h
  | x :: es, ms, e, hE, h => by
    obtain ⟨hl, hg⟩ := hE
    cases ms with
    | nil => simp at hl
    | cons m ms =>
      obtain ⟨m', h1, h2, h3, h4⟩ := hg 0 x rfl
      simp at h1; subst h1
      rw [List.find?_cons] at h ⊢
      rw [h2]
      by_cases hx : (x.1 == st) = true
      · rw [hx] at h ⊢
        simp at h; subst h
        exact ⟨m, rfl, h3, h4⟩
      · have hx' : (x.1 == st) = false := by simpa using hx
        rw [hx'] at h ⊢
        exact find_entR (es := es) (ms := ms) ⟨by simpa using hl, fun i e he => by simpa using hg (i + 1) e (by simpa using he)⟩ h

theorem entry_sound (hs : StH ρ I H w) {it r : AV} {ui : Value} (hi : VR ρ I it ui) (h : entryA H it = some r) :
    ∃ u, (Instr.entry ui).run P w = .ok u w ∧ VR ρ I r u := by
  unfold entryA at h
  split at h <;> (first | (exfalso; simp at h; done) | skip)
  rename_i i
  cases hi with
  | it _ l hl =>
  split at h <;> (first | (exfalso; simp at h; done) | skip)
  rename_i m since seen last hob
  split at h <;> (first | (exfalso; simp at h; done) | skip)
  rename_i es clock st hmob hlast
  split at h <;> (first | (exfalso; simp at h; done) | skip)
  rename_i hcl
  subst hcl
  obtain ⟨e, he, rfl⟩ := Option.map_eq_some_iff.1 h
  obtain ⟨hver, l', lm, hl', hlm, hb⟩ := hs.obj _ _ hob
  rw [hl] at hl'; simp at hl'; subst hl'
  obtain ⟨_, lm', ms, hlm', hmb, hent⟩ := hs.obj _ _ hmob
  rw [hlm] at hlm'; simp at hlm'; subst hlm'
  obtain ⟨mm, h1, h2, h3⟩ := find_entR hent he
  have hbk : seen.toArray.back? = some st := by simpa using hlast
  have hfd : ms.find? (fun m => m.born == st) = some mm := by rw [← Array.find?_toList]; exact h1
  refine ⟨.tuple #[mm.key, mm.val], ?_, .tup _ [mm.key, mm.val] rfl (fun i c hc => ?_)⟩
  · simp [Instr.entry, run_getObj_at hb (by simp), run_getObj_at hmb (by simp), hlast, hfd]
  · match i, hc with
    | 0, hc => simp at hc; subst hc; exact h2
    | 1, hc => simp at hc; subst hc; exact h3
end
end Go.Md

