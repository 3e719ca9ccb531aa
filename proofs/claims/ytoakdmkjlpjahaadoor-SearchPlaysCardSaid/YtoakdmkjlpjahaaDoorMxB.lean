/-
  The abstract machine: frames, what a state says of the model's, calls, and the rules of the control flow.
-/
import Derived.Test.YtoakdmkjlpjahaaDoorMxA
namespace Go.Mx
open Go.RowKit
set_option linter.unusedVariables false

/-- A slot's content: an abstract value, or an address in a local box. -/
inductive SV where
  | av (x : AV)
  | bp (t off : Nat)
  | un

structure Fr where
  slots : List (Nat × SV)
  boxes : List (Nat × List AV)

def look {α : Type} (t : Nat) : List (Nat × α) → Option α
  | [] => none
  | (s, x) :: r => if s = t then some x else look t r

def SVR (ρ : Rho) (I : Imm) (β : Nat → Option Nat) : SV → Value → Prop
  | .av x, u => VR ρ I x u
  | .bp t off, u => ∃ b, β t = some b ∧ u = .pointer (some ⟨b, off, none⟩)
  | .un, _ => True

structure Sim (N : Nat) (ρ : Rho) (I : Imm) (β : Nat → Option Nat) (fr : Fr) (H : Hp) (a : Act) (w : World) : Prop where
  heap : StH ρ I H w
  defers : a.defers = []
  size : a.tmps.size = N
  slot : ∀ t x, look t fr.slots = some x → SVR ρ I β x (a.tmps.getD t undef)
  box : ∀ t cs, look t fr.boxes = some cs → ∃ b, β t = some b ∧ CellsR ρ I w b 0 cs.length cs ∧ ¬ Live ρ H b ∧ I b = none
  binj : ∀ t t' cs cs' b, look t fr.boxes = some cs → look t' fr.boxes = some cs' → β t = some b → β t' = some b → t = t'

/-- What a frame and a heap own. -/
def OwnF (ρ : Rho) (β : Nat → Option Nat) (fr : Fr) (H : Hp) (b : Nat) : Prop := Live ρ H b ∨ ∃ t cs, look t fr.boxes = some cs ∧ β t = some b

structure Mv (ρ : Rho) (I : Imm) (H : Hp) (w : World) (ρ' : Rho) (I' : Imm) (H' : Hp) (w' : World) : Prop where
  ext : Ext ρ I ρ' I'
  fw : Fw (Live ρ H) w (Live ρ' H') w'
  imm : ∀ b, I' b ≠ none → I b ≠ none ∨ Live ρ H b ∨ w.heap.size ≤ b
  st : StH ρ' I' H' w'

structure MvF (L : Nat → Prop) (ρ : Rho) (I : Imm) (w : World) (L' : Nat → Prop) (ρ' : Rho) (I' : Imm) (w' : World) : Prop where
  ext : Ext ρ I ρ' I'
  fw : Fw L w L' w'
  imm : ∀ b, I' b ≠ none → I b ≠ none ∨ L b ∨ w.heap.size ≤ b

theorem MvF.refl (L : Nat → Prop) (ρ : Rho) (I : Imm) (w : World) : MvF L ρ I w L ρ I w := ⟨Ext.refl _ _, Fw.refl _ _, fun _ h => .inl h⟩
theorem MvF.trans {L L' L'' : Nat → Prop} {ρ ρ' ρ'' : Rho} {I I' I'' : Imm} {w w' w'' : World} (h : MvF L ρ I w L' ρ' I' w') (k : MvF L' ρ' I' w' L'' ρ'' I'' w'') : MvF L ρ I w L'' ρ'' I'' w'' := by
  refine ⟨h.ext.trans k.ext, h.fw.trans k.fw, fun b hb => ?_⟩
  rcases k.imm b hb with h1 | h1 | h1
  · exact h.imm b h1
  · rcases h.fw.new b h1 with h2 | h2
    · exact .inr (.inl h2)
    · exact .inr (.inr h2)
  · exact .inr (.inr (Nat.le_trans h.fw.size h1))

/-- A call, told by abstract values. -/
def Sp (P : Program) (f : Nat) (args : List AV) (Q : AV → Hp → Prop) (H : Hp) : Prop :=
  ∀ ρ I w us, StH ρ I H w → VRs ρ I args us → Calls P f us.toArray w (fun e w' => ∃ v u ρ' I' H', e = .returned u ∧ Mv ρ I H w ρ' I' H' w' ∧ VR ρ' I' v u ∧ Q v H')

theorem Sp.mono {P : Program} {f : Nat} {args : List AV} {Q Q' : AV → Hp → Prop} {H : Hp} (h : Sp P f args Q H) (hq : ∀ v H', Q v H' → Q' v H') : Sp P f args Q' H :=
  fun ρ I w us hs hv => (h ρ I w us hs hv).mono fun e w' ⟨v, u, ρ', I', H', h1, h2, h3, h4⟩ => ⟨v, u, ρ', I', H', h1, h2, h3, hq _ _ h4⟩

/-- A piece of code, told by abstract frames and heaps. -/
def Wp (P : Program) (N : Nat) (c : Code) (K : Exit → Fr → Hp → Prop) (fr : Fr) (H : Hp) : Prop :=
  ∀ ρ I β a w, Sim N ρ I β fr H a w →
    c.wp P (fun e a' w' => ∃ fr' H' ρ' I' β', MvF (OwnF ρ β fr H) ρ I w (OwnF ρ' β' fr' H') ρ' I' w' ∧ Sim N ρ' I' β' fr' H' a' w' ∧ K e fr' H') a w

/-- The same of an operation. -/
def Opp (P : Program) (N : Nat) (o : Oper) (k : Fr → Hp → Prop) (fr : Fr) (H : Hp) : Prop :=
  ∀ ρ I β a w, Sim N ρ I β fr H a w → ∀ Q : Exit → Act → World → Prop,
    o.wp P a w (fun a' w' => ∃ fr' H' ρ' I' β', MvF (OwnF ρ β fr H) ρ I w (OwnF ρ' β' fr' H') ρ' I' w' ∧ Sim N ρ' I' β' fr' H' a' w' ∧ k fr' H') Q

section
variable {P : Program} {N : Nat} {K : Exit → Fr → Hp → Prop} {fr : Fr} {H : Hp}

theorem Wp.mono {c : Code} {K' : Exit → Fr → Hp → Prop} (h : Wp P N c K fr H) (hk : ∀ e fr H, K e fr H → K' e fr H) : Wp P N c K' fr H :=
  fun ρ I β a w hs => wp_mono (h ρ I β a w hs) fun e a w ⟨fr', H', ρ', I', β', h1, h2, h3⟩ => ⟨fr', H', ρ', I', β', h1, h2, hk _ _ _ h3⟩

theorem Wp.skip (h : K .normal fr H) : Wp P N .skip K fr H := fun ρ I β a w hs => wp_skip ⟨fr, H, ρ, I, β, MvF.refl _ _ _ _, hs, h⟩
theorem Wp.exit {id : Nat} (h : K (.exit id) fr H) : Wp P N (.exit id) K fr H := fun ρ I β a w hs => wp_exit ⟨fr, H, ρ, I, β, MvF.refl _ _ _ _, hs, h⟩
theorem Wp.ret (h : K .ret fr H) : Wp P N .ret K fr H := fun ρ I β a w hs => wp_ret ⟨fr, H, ρ, I, β, MvF.refl _ _ _ _, hs, h⟩

/-- What follows behind a piece of code. -/
def seqK (next : Fr → Hp → Prop) (K : Exit → Fr → Hp → Prop) : Exit → Fr → Hp → Prop
  | .normal, fr, H => next fr H
  | e, fr, H => K e fr H

theorem Wp.seq {x y : Code} (h : Wp P N x (seqK (Wp P N y K) K) fr H) : Wp P N (.seq x y) K fr H := by
  intro ρ I β a w hs
  refine wp_seq (wp_mono (h ρ I β a w hs) ?_)
  rintro e a' w' ⟨fr', H', ρ', I', β', hm, hs', hk⟩
  cases e with
  | normal =>
    refine wp_mono (hk ρ' I' β' a' w' hs') ?_
    rintro e a'' w'' ⟨fr'', H'', ρ'', I'', β'', hm', hs'', hk'⟩
    exact ⟨fr'', H'', ρ'', I'', β'', hm.trans hm', hs'', hk'⟩
  | exit id => exact ⟨fr', H', ρ', I', β', hm, hs', hk⟩
  | goto l => exact ⟨fr', H', ρ', I', β', hm, hs', hk⟩
  | ret => exact ⟨fr', H', ρ', I', β', hm, hs', hk⟩
  | panic ch => exact ⟨fr', H', ρ', I', β', hm, hs', hk⟩
  | outgrown => exact ⟨fr', H', ρ', I', β', hm, hs', hk⟩

/-- What a block's end makes of exits. -/
def blockK (id : Nat) (K : Exit → Fr → Hp → Prop) : Exit → Fr → Hp → Prop
  | .exit id', fr, H => if id' = id then K .normal fr H else K (.exit id') fr H
  | e, fr, H => K e fr H

theorem Wp.block {id : Nat} {c : Code} (h : Wp P N c (blockK id K) fr H) : Wp P N (.block id c) K fr H := by
  intro ρ I β a w hs
  refine wp_block (wp_mono (h ρ I β a w hs) ?_)
  rintro e a' w' ⟨fr', H', ρ', I', β', hm, hs', hk⟩
  cases e with
  | exit id' =>
    simp only [Exit.inBlock, blockK] at hk ⊢
    split
    · rename_i he; rw [if_pos he] at hk; exact ⟨fr', H', ρ', I', β', hm, hs', hk⟩
    · rename_i he; rw [if_neg he] at hk; exact ⟨fr', H', ρ', I', β', hm, hs', hk⟩
  | normal => exact ⟨fr', H', ρ', I', β', hm, hs', hk⟩
  | goto l => exact ⟨fr', H', ρ', I', β', hm, hs', hk⟩
  | ret => exact ⟨fr', H', ρ', I', β', hm, hs', hk⟩
  | panic ch => exact ⟨fr', H', ρ', I', β', hm, hs', hk⟩
  | outgrown => exact ⟨fr', H', ρ', I', β', hm, hs', hk⟩

/-- An operand's content. -/
def opS (fr : Fr) : Operand → Option SV
  | .tmp t => look t fr.slots
  | .const x => some (.av (.v x))
  | .func f => some (.av (.fn (.func f) [] []))
  | .global g => some (.av (.v (.pointer (some ⟨g, 0, none⟩))))
def opV (fr : Fr) (x : Operand) : Option AV := match opS fr x with | some (.av a) => some a | _ => none

theorem opS_sound {ρ : Rho} {I : Imm} {β : Nat → Option Nat} {a : Act} {w : World} (hs : Sim N ρ I β fr H a w) {x : Operand} {s : SV} (h : opS fr x = some s) : SVR ρ I β s (a.eval x) := by
  cases x with
  | tmp t => exact hs.slot t s h
  | const v => simp only [opS, Option.some.injEq] at h; subst h; exact .v v
  | func f => simp only [opS, Option.some.injEq] at h; subst h; exact .fn (.func f) [] [] [] [] rfl (fun i c hc => by simp at hc) rfl (fun i c hc => by simp at hc)
  | global g => simp only [opS, Option.some.injEq] at h; subst h; exact .v _
theorem opV_sound {ρ : Rho} {I : Imm} {β : Nat → Option Nat} {a : Act} {w : World} (hs : Sim N ρ I β fr H a w) {x : Operand} {s : AV} (h : opV fr x = some s) : VR ρ I s (a.eval x) := by
  unfold opV at h
  split at h
  · rename_i y hy; simp only [Option.some.injEq] at h; subst h; exact opS_sound hs hy
  · simp at h

/-- A test's two ways. -/
def Cond (b : Bool) (A B : Prop) : Prop := match b with | true => A | false => B
@[simp] theorem Cond_true (A B : Prop) : Cond true A B = A := rfl
@[simp] theorem Cond_false (A B : Prop) : Cond false A B = B := rfl
theorem Cond_iff (b : Bool) (A B : Prop) : Cond b A B ↔ (b = true → A) ∧ (b = false → B) := by cases b <;> simp

/-- The slot of an operand is known now. -/
def Fr.known (fr : Fr) (x : Operand) (b : Bool) : Fr := match x with | .tmp t => { fr with slots := (t, .av (.v (.bool b))) :: fr.slots } | _ => fr

theorem Sim.known {ρ : Rho} {I : Imm} {β : Nat → Option Nat} {a : Act} {w : World} (hs : Sim N ρ I β fr H a w) {x : Operand} {b : Bool} (h : opS fr x = some (.av (.v (.bool b)))) : Sim N ρ I β (fr.known x b) H a w := by
  cases x with
  | tmp t =>
    refine ⟨hs.heap, hs.defers, hs.size, fun t' y hy => ?_, hs.box, hs.binj⟩
    simp only [Fr.known, look] at hy
    split at hy
    · rename_i e; subst e
      simp only [Option.some.injEq] at hy; subst hy
      exact hs.slot t _ h
    · exact hs.slot t' y hy
  | const v => exact hs
  | func f => exact hs
  | global g => exact hs

theorem OwnF.known (ρ : Rho) (β : Nat → Option Nat) (fr : Fr) (H : Hp) (x : Operand) (b : Bool) : OwnF ρ β (fr.known x b) H = OwnF ρ β fr H := by cases x <;> rfl

/-- A test on an operand: what is known of it goes on. -/
def condA (fr : Fr) (x : Operand) (A B : Fr → Prop) : Prop := match opS fr x with | some (.av (.v (.bool b))) => Cond b (A (fr.known x true)) (B (fr.known x false)) | _ => False

theorem Wp.cond {x : Operand} {c d : Code} (h : condA fr x (fun fr => Wp P N c K fr H) (fun fr => Wp P N d K fr H)) : Wp P N (.cond x c d) K fr H := by
  intro ρ I β a w hs
  unfold condA at h
  split at h
  · rename_i b hb
    have hv := opS_sound hs hb
    have he : a.eval x = .bool b := by
      generalize a.eval x = u at hv
      cases hv; rfl
    have hs' := hs.known hb
    cases b with
    | true =>
      refine wp_cond_true he ?_
      have := h ρ I β a w hs'
      rwa [OwnF.known] at this
    | false =>
      refine wp_cond_false he ?_
      have := h ρ I β a w hs'
      rwa [OwnF.known] at this
  · exact h.elim

/-- A loop: what holds at each round's head, and a number that every round lowers. -/
theorem Wp.loop {c : Code} (J : Nat → Fr → Hp → Prop) (n₀ : Nat) (h0 : J n₀ fr H)
    (round : ∀ n fr H, J n fr H → Wp P N c (seqK (fun fr' H' => ∃ m, m < n ∧ J m fr' H') K) fr H) : Wp P N (.loop c) K fr H := by
  intro ρ I β a w hs
  refine wp_loop_ghost (fun n a' w' => ∃ fr' H' ρ' I' β', MvF (OwnF ρ β fr H) ρ I w (OwnF ρ' β' fr' H') ρ' I' w' ∧ Sim N ρ' I' β' fr' H' a' w' ∧ J n fr' H') n₀ ⟨fr, H, ρ, I, β, MvF.refl _ _ _ _, hs, h0⟩ ?_
  rintro n a1 w1 ⟨fr1, H1, ρ1, I1, β1, hm1, hs1, hj⟩
  refine wp_mono (round n fr1 H1 hj ρ1 I1 β1 a1 w1 hs1) ?_
  rintro e a2 w2 ⟨fr2, H2, ρ2, I2, β2, hm2, hs2, hk⟩
  cases e with
  | normal =>
    obtain ⟨m, hlt, hj'⟩ := hk
    exact ⟨m, hlt, fr2, H2, ρ2, I2, β2, hm1.trans hm2, hs2, hj'⟩
  | exit id => exact ⟨fr2, H2, ρ2, I2, β2, hm1.trans hm2, hs2, hk⟩
  | goto l => exact ⟨fr2, H2, ρ2, I2, β2, hm1.trans hm2, hs2, hk⟩
  | ret => exact ⟨fr2, H2, ρ2, I2, β2, hm1.trans hm2, hs2, hk⟩
  | panic ch => exact ⟨fr2, H2, ρ2, I2, β2, hm1.trans hm2, hs2, hk⟩
  | outgrown => exact ⟨fr2, H2, ρ2, I2, β2, hm1.trans hm2, hs2, hk⟩

/-- Less may be known of a frame: these slots and boxes alone are kept. -/
theorem Wp.forget {c : Code} {fr0 : Fr} (hsl : ∀ t x, look t fr0.slots = some x → look t fr.slots = some x) (hbx : ∀ t x, look t fr0.boxes = some x → look t fr.boxes = some x)
    (h : Wp P N c K fr0 H) : Wp P N c K fr H := by
  intro ρ I β a w hs
  have hs0 : Sim N ρ I β fr0 H a w := ⟨hs.heap, hs.defers, hs.size, fun t x hx => hs.slot t x (hsl t x hx), fun t cs hc => hs.box t cs (hbx t cs hc),
    fun t t' cs cs' b h1 h2 => hs.binj t t' cs cs' b (hbx _ _ h1) (hbx _ _ h2)⟩
  refine wp_mono (h ρ I β a w hs0) ?_
  rintro e a2 w2 ⟨fr2, H2, ρ2, I2, β2, hm2, hs2, hk⟩
  refine ⟨fr2, H2, ρ2, I2, β2, ⟨hm2.ext, ?_, ?_⟩, hs2, hk⟩
  · have hsub : ∀ b, OwnF ρ β fr0 H b → OwnF ρ β fr H b := by
      rintro b (hb | ⟨t, cs, h1, h2⟩)
      · exact .inl hb
      · exact .inr ⟨t, cs, hbx _ _ h1, h2⟩
    exact ⟨hm2.fw.os, hm2.fw.tape, hm2.fw.output, hm2.fw.size, fun b hb hL => hm2.fw.keep b hb (fun h' => hL (hsub b h')), fun b hb => (hm2.fw.new b hb).imp (hsub b) id⟩
  · intro b hb
    rcases hm2.imm b hb with h1 | h1 | h1
    · exact .inl h1
    · refine .inr (.inl ?_)
      rcases h1 with h1 | ⟨t, cs, h1, h2⟩
      · exact .inl h1
      · exact .inr ⟨t, cs, hbx _ _ h1, h2⟩
    · exact .inr (.inr h1)

end
end Go.Mx
