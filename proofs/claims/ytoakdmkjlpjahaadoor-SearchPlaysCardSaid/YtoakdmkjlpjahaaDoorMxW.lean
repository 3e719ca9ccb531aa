/-
  The abstract machine: regions that draw their order: slots that are not written yet.
-/
import Derived.Test.YtoakdmkjlpjahaaDoorMxV
namespace Go.Mx
open Go.RowKit
set_option linter.unusedVariables false
set_option linter.unusedSimpArgs false

/-- Some slots are not known yet. -/
def Fr.hide (ds : List Nat) (fr : Fr) : Fr := { fr with slots := fr.slots.filter (fun p => !ds.contains p.1) }

section
variable {P : Program} {N : Nat} {cf : Cfg} {fr fr' : Fr} {H : Hp} {ρ : Rho} {I : Imm} {β : Nat → Option Nat} {a : Act} {w w' : World} {ds : List Nat}

theorem look_filter (ds : List Nat) (t : Nat) : ∀ (l : List (Nat × SV)), look t (l.filter (fun p => !ds.contains p.1)) = if ds.contains t then none else look t l
  | [] => by simp [look]
  | (s, x) :: r => by
    rw [List.filter_cons]
    by_cases hs : ds.contains s
    · simp only [hs, Bool.not_true, Bool.false_eq_true, if_false]
      rw [look_filter ds t r]
      by_cases ht : ds.contains t
      · simp only [ht, if_true]
      · have hst : s ≠ t := by intro e; subst e; exact ht hs
        simp only [ht, look, if_neg hst]
    · have hs' : (!ds.contains s) = true := by simpa using hs
      simp only [hs', if_true, look]
      by_cases hst : s = t
      · subst hst
        have : ds.contains s = false := by simpa using hs
        simp only [this, if_true, Bool.false_eq_true, if_false]
      · rw [if_neg hst, if_neg hst, look_filter ds t r]
theorem look_hide (t : Nat) : look t (fr.hide ds).slots = if ds.contains t then none else look t fr.slots := look_filter ds t fr.slots
theorem opS_hide {x : Operand} (hx : ∀ t, x = .tmp t → t ∉ ds) : opS (fr.hide ds) x = opS fr x := by
  cases x with
  | tmp t =>
    have := hx t rfl
    simp only [opS, look_hide]
    simp [this]
  | const v => rfl
  | func f => rfl
  | global g => rfl
theorem opV_hide {x : Operand} (hx : ∀ t, x = .tmp t → t ∉ ds) : opV (fr.hide ds) x = opV fr x := by unfold opV; rw [opS_hide hx]

theorem hide_put {t : Nat} {x : SV} (ht : t ∉ ds) : { fr.hide ds with slots := (t, x) :: (fr.hide ds).slots } = ({ fr with slots := (t, x) :: fr.slots } : Fr).hide ds := by
  simp [Fr.hide, ht]

/-- What goes on behind a frame, goes on behind the frame with less known. -/
def hidK (ds : List Nat) (k : Fr → Hp → Prop) (f : Fr) (H : Hp) : Prop := ∃ f', f = f'.hide ds ∧ k f' H
theorem putK_hide {d : Option Nat} {x : SV} {k : Fr → Hp → Prop} (hd : ∀ t, d = some t → t ∉ ds) (h : putK N d x fr (fun f => k f H)) : putK N d x (fr.hide ds) (fun f => hidK ds k f H) := by
  unfold putK at *
  cases d with
  | none => exact ⟨fr, rfl, h⟩
  | some t =>
    simp only at h ⊢
    split at h
    · rename_i ht
      rw [if_pos ht]
      exact ⟨_, hide_put (hd t rfl), h⟩
    · exact h.elim

theorem Sim.hide (hs : Sim N ρ I β fr H a w) : Sim N ρ I β (fr.hide ds) H a w where
  heap := hs.heap
  defers := hs.defers
  size := hs.size
  slot t x hx := by
    rw [look_hide] at hx
    split at hx
    · simp at hx
    · exact hs.slot t x hx
  box := hs.box
  binj := hs.binj

/-- A slot that was not known is written. -/
theorem Sim.show {d : Nat} {x : SV} {u : Value} (hs : Sim N ρ I β (fr.hide ds) H a w) (hd : d < N) (hl : look d fr.slots = some x) (hx : SVR ρ I β x u) : Sim N ρ I β (fr.hide (ds.filter (· != d))) H (a.put (some d) u) w := by
  have hp := hs.put (t := d) hd hx
  refine ⟨hp.heap, hp.defers, hp.size, fun t y hy => ?_, hp.box, hp.binj⟩
  rw [look_hide] at hy
  split at hy
  · simp at hy
  · rename_i hc
    refine hp.slot t y ?_
    simp only [look]
    by_cases hdt : d = t
    · subst hdt
      rw [if_pos rfl, ← hl, hy]
    · rw [if_neg hdt, look_hide]
      have : ds.contains t = false := by
        simp at hc ⊢
        intro hm
        exact hdt (hc hm).symm
      rw [this]
      exact hy
end
end Go.Mx
