/-
  The abstract machine: regions that draw their order: quiet operations, plans.
-/
import Derived.Test.YtoakdmkjlpjahaaDoorMxT
namespace Go.Mx
open Go.RowKit
set_option linter.unusedVariables false
set_option linter.unusedSimpArgs false

section
variable {P : Program} {N : Nat} {cf : Cfg} {fr : Fr} {H : Hp} {ρ : Rho} {I : Imm} {β : Nat → Option Nat} {a : Act} {w w' : World}

theorem opA_quiet {o : Oper} {k : Fr → Hp → Prop} (hq : quietO P cf o = true) (h : opA P N cf fr H o k) : ∃ x, valC P fr H o = some x ∧ putK N o.dst x fr (fun f => k f H) := by
  have fin : (match valS P fr H o with | some x => putK N o.dst x fr (fun fr' => k fr' H) | none => False) → (∀ x, valS P fr H o = some x → valC P fr H o = some x) → ∃ x, valC P fr H o = some x ∧ putK N o.dst x fr (fun f => k f H) := by
    intro h hc
    split at h
    · rename_i x hx; exact ⟨x, hc x hx, h⟩
    · exact h.elim
  obtain ⟨dst, op, ty, pos, after, guard⟩ := o
  cases op <;> (first | (exfalso; simp [quietO] at hq; done) | skip)
  case call c =>
    obtain ⟨callee, args, ts⟩ := c
    cases callee <;> (first | (exfalso; simp [quietO] at hq; done) | skip)
    rename_i bi
    cases bi <;> (first | (exfalso; simp [quietO] at hq; done) | exact fin h (fun _ h => h))
  case buildSlice t len ps =>
    have hown : cf.own.contains (dst.getD 0) = false := by simpa [quietO] using hq
    simp only [opA, effA] at h
    split at h <;> (first | exact h.elim | skip)
    rename_i e ht
    split at h <;> (first | exact h.elim | skip)
    rename_i zs s ys hz hsz hys
    split at h <;> (first | exact h.elim | skip)
    rename_i hc
    unfold bindO at h
    split at h <;> (first | exact h.elim | skip)
    rename_i cs hcs
    rw [hown] at h
    refine ⟨_, ?_, h⟩
    simp only [valC, rowV, ht, hz, hsz, hys]
    rw [if_pos hc, hcs]
  case convert s d x =>
    simp only [opA, effA] at h
    split at h
    · rename_i e s' h1 h2 h3
      split at h <;> (first | exact h.elim | skip)
      rename_i he
      exact ⟨_, by simp only [valC, h1, h2, h3, he], h⟩
    · rename_i e1 e id ver sz off n h1 h2 h3
      simp [quietO, h1, h2] at hq
    · rename_i n1 n2
      refine fin h (fun y hy => ?_)
      simp only [valC]
      exact hy
  case slice t x lo hi m =>
    cases m with
    | none => exact fin h (fun _ h => h)
    | some m => simp [quietO] at hq
  all_goals exact fin h (fun _ h => h)

theorem opG_quiet {ops : Array Oper} {o : Oper} {k : Fr → Hp → Prop} (hs : Sim N ρ I β fr H a w) (hq : quietO P cf o = true) (h : opG P N cf ops fr H o o.guard k) :
    ∃ fr' x, Sim N ρ I β fr' H a w ∧ OwnF ρ β fr' H = OwnF ρ β fr H ∧ valQ P ops fr' H o = some x ∧ putK N o.dst x fr' (fun f => k f H) := by
  unfold opG at h
  split at h
  · rename_i hg
    obtain ⟨x, h1, h2⟩ := opA_quiet hq h
    exact ⟨fr, x, hs, rfl, by simp [valQ, hg, h1], h2⟩
  · rename_i j want hg
    split at h <;> (first | exact h.elim | skip)
    rename_i s hj
    have key : ∀ b : Bool, opS fr (.tmp s) = some (.av (.v (.bool b))) → (if b = want then opA P N cf (fr.known (.tmp s) b) H o k else putK N o.dst (.av (.v undef)) (fr.known (.tmp s) b) (fun fr' => k fr' H)) →
        ∃ fr' x, Sim N ρ I β fr' H a w ∧ OwnF ρ β fr' H = OwnF ρ β fr H ∧ valQ P ops fr' H o = some x ∧ putK N o.dst x fr' (fun f => k f H) := by
      intro b hb hk
      have hl : look s (fr.known (.tmp s) b).slots = some (.av (.v (.bool b))) := by simp [Fr.known, look]
      split at hk
      · rename_i he
        subst he
        obtain ⟨x, h1, h2⟩ := opA_quiet hq hk
        exact ⟨_, x, hs.known hb, OwnF.known _ _ _ _ _ _, by simp [valQ, hg, hj, hl, h1, isU], h2⟩
      · rename_i he
        exact ⟨_, _, hs.known hb, OwnF.known _ _ _ _ _ _, by simp [valQ, hg, hj, hl, he, isU], hk⟩
    unfold guardA at h
    cases hu : isU (look s fr.slots) with
    | true =>
      rw [hu] at h
      exact ⟨fr, _, hs, rfl, by simp [valQ, hg, hj, hu], h⟩
    | false =>
    rw [hu] at h
    cases want with
    | true =>
      simp only at h
      unfold condA at h
      split at h <;> (first | exact h.elim | skip)
      rename_i b hb
      cases b with
      | true => exact key true hb (by simpa [Cond] using h)
      | false => exact key false hb (by simpa [Cond] using h)
    | false =>
      simp only at h
      unfold condA at h
      split at h <;> (first | exact h.elim | skip)
      rename_i b hb
      cases b with
      | true => exact key true hb (by simpa [Cond] using h)
      | false => exact key false hb (by simpa [Cond] using h)

/-- A planned operation is still worth what its slot holds. -/
def sameQ (P : Program) (ops : Array Oper) (fr : Fr) (H : Hp) (j : Nat) : Prop := match ops[j]? with
  | some o => match o.dst with
    | some d => ∃ x, valQ P ops fr H o = some x ∧ look d fr.slots = some x
    | none => False
  | none => False
def allQ (P : Program) (ops : Array Oper) (fr : Fr) (H : Hp) : List Nat → Prop
  | [] => True
  | j :: r => sameQ P ops fr H j ∧ allQ P ops fr H r

def evP (P : Program) (N : Nat) (cf : Cfg) (ops : Array Oper) : List Stp → (Fr → Hp → Prop) → Fr → Hp → Prop
  | [], k, fr, H => k fr H
  | .q i :: r, k, fr, H => match ops[i]? with
    | some o => opG P N cf ops fr H o o.guard (evP P N cf ops r k)
    | none => False
  | .s i chk _ :: r, k, fr, H => match ops[i]? with
    | some o => opG P N cf ops fr H o o.guard (fun fr' H' => allQ P ops fr' H' chk ∧ evP P N cf ops r k fr' H')
    | none => False

end
end Go.Mx
