/-
  The abstract machine: regions that draw their order: guards, and what a plan must hold.
-/
import Derived.Test.YtoakdmkjlpjahaaDoorMxX
namespace Go.Mx
open Go.RowKit
set_option linter.unusedVariables false
set_option linter.unusedSimpArgs false

section
variable {P : Program} {N : Nat} {cf : Cfg} {fr fr' : Fr} {H : Hp} {ρ : Rho} {I : Imm} {β : Nat → Option Nat} {a : Act} {w w' : World} {ds : List Nat} {ops : Array Oper}

theorem looks_operand {o : Oper} {x : Operand} (hx : x ∈ o.op.operands.toList) {t : Nat} (e : x = .tmp t) : t ∈ o.looksAt ops := by
  subst e
  unfold Oper.looksAt
  refine List.mem_append_left _ (List.mem_filterMap.2 ⟨.tmp t, hx, rfl⟩)
theorem looks_guard {o : Oper} {j s : Nat} {want : Bool} (hg : o.guard = some (j, want)) (hj : (ops[j]?).bind (·.dst) = some s) : s ∈ o.looksAt ops := by
  unfold Oper.looksAt
  rw [hg]
  refine List.mem_append_right _ ?_
  simp [hj]

theorem valQ_congr {o : Oper} (hq : quietO P cf o = true) (hb : fr.boxes = fr'.boxes) (h : ∀ t ∈ o.looksAt ops, look t fr.slots = look t fr'.slots) : valQ P ops fr H o = valQ P ops fr' H o := by
  have hv : valC P fr H o = valC P fr' H o := valC_congr hq hb (fun x hx => by
    cases x with
    | tmp t => exact h t (looks_operand hx rfl)
    | const v => rfl
    | func f => rfl
    | global g => rfl)
  unfold valQ
  rw [hv]
  cases hg : o.guard with
  | none => rfl
  | some p =>
    obtain ⟨j, want⟩ := p
    cases hj : (ops[j]?).bind (·.dst) with
    | none => simp only [hj]
    | some s =>
      simp only [hj]
      rw [h s (looks_guard hg hj)]

theorem opG_hide {o : Oper} {k : Fr → Hp → Prop} (hq : quietO P cf o = false) (hl : ∀ t ∈ o.looksAt ops, t ∉ ds) (hd : ∀ t, o.dst = some t → t ∉ ds) (h : opG P N cf ops fr H o o.guard k) :
    opG P N cf ops (fr.hide ds) H o o.guard (hidK ds k) := by
  have ho : ∀ x ∈ o.op.operands.toList, ∀ t, x = .tmp t → t ∉ ds := fun x hx t e => hl t (looks_operand hx e)
  unfold opG at *
  split at h
  · exact opA_hide hq ho hd h
  · rename_i j want hg
    split at h <;> (first | exact h.elim | skip)
    rename_i s hj
    have hs : s ∉ ds := hl s (looks_guard hg hj)
    have ek : ∀ b, (fr.hide ds).known (.tmp s) b = (fr.known (.tmp s) b).hide ds := fun b => hide_put hs
    have eo : opS (fr.hide ds) (.tmp s) = opS fr (.tmp s) := opS_hide (fun t e => by injection e with e; subst e; exact hs)
    have el : look s (fr.hide ds).slots = look s fr.slots := eo
    unfold guardA condA at *
    rw [el]
    cases hu : isU (look s fr.slots) with
    | true =>
      rw [hu] at h
      exact putK_hide hd h
    | false =>
    rw [hu] at h
    rw [eo]
    cases want with
    | true =>
      simp only at h ⊢
      split at h <;> (first | exact h.elim | skip)
      rename_i b hb
      cases b with
      | true => simp only [Cond] at h ⊢; rw [ek]; exact opA_hide hq ho hd h
      | false => simp only [Cond] at h ⊢; rw [ek]; exact putK_hide hd h
    | false =>
      simp only at h ⊢
      split at h <;> (first | exact h.elim | skip)
      rename_i b hb
      cases b with
      | true => simp only [Cond] at h ⊢; rw [ek]; exact putK_hide hd h
      | false => simp only [Cond] at h ⊢; rw [ek]; exact opA_hide hq ho hd h

/-- Behind which operations one stands. -/
def predsIn (o : Oper) (dn : List Nat) : Prop := ∀ e ∈ o.after, Region.binds .any e = true → e.on ∈ dn
/-- A quiet operation that may run early. -/
structure QOk (P : Program) (cf : Cfg) (ops : Array Oper) (i : Nat) (o : Oper) (d : Nat) : Prop where
  quiet : quietO P cf o = true
  dst : o.dst = some d
  self : d ∉ o.looksAt ops
  other : ∀ j oj, ops[j]? = some oj → j ≠ i → oj.dst ≠ some d
  looked : ∀ j oj, ops[j]? = some oj → j ≠ i → d ∈ oj.looksAt ops → ∃ e ∈ oj.after, Region.binds .any e = true ∧ e.on = i
/-- A local box that is laid without a condition. -/
def boxO (P : Program) (cf : Cfg) (o : Oper) : Bool := match o.op, o.guard, o.dst with
  | .alloc t, none, some d => cf.loc.contains d && (zerosT P t).isSome
  | _, _, _ => false
/-- A local box that may be laid early. -/
structure AOk (P : Program) (cf : Cfg) (ops : Array Oper) (i : Nat) (o : Oper) (d : Nat) : Prop where
  box : boxO P cf o = true
  dst : o.dst = some d
  other : ∀ j oj, ops[j]? = some oj → j ≠ i → oj.dst ≠ some d
  looked : ∀ j oj, ops[j]? = some oj → j ≠ i → d ∈ oj.looksAt ops → ∃ e ∈ oj.after, Region.binds .any e = true ∧ e.on = i
def IsA (P : Program) (cf : Cfg) (ops : Array Oper) (i : Nat) : Prop := ∃ o d, ops[i]? = some o ∧ AOk P cf ops i o d
/-- Behind which operations one stands, but for such boxes. -/
def predsA (P : Program) (cf : Cfg) (ops : Array Oper) (o : Oper) (dn : List Nat) : Prop := ∀ e ∈ o.after, Region.binds .any e = true → e.on ∈ dn ∨ IsA P cf ops e.on
def selO (o : Oper) : Bool := match o.op with
  | .select _ _ => true
  | _ => false
def Bef (ops : Array Oper) : List Nat → List Nat → Prop
  | _, [] => True
  | acc, x :: r => (∃ j ∈ acc, ∃ oj, ops[j]? = some oj ∧ ∃ e ∈ oj.after, Region.binds .any e = true ∧ e.on = x) ∧ Bef ops (x :: acc) r
def POk (P : Program) (cf : Cfg) (ops : Array Oper) : List Nat → List Stp → Prop
  | dn, [] => ∀ i, i < ops.size → i ∈ dn
  | dn, .q i :: r => ∃ o d, ops[i]? = some o ∧ i ∉ dn ∧ predsIn o dn ∧ QOk P cf ops i o d ∧ POk P cf ops (i :: dn) r
  | dn, .s i chk bef :: r => ∃ o, ops[i]? = some o ∧ i ∉ dn ∧ predsIn o dn ∧ quietO P cf o = false ∧ selO o = false ∧ (∀ j oj, ops[j]? = some oj → j ∉ dn → j ≠ i → IsA P cf ops j ∨ (∃ e ∈ oj.after, Region.binds .any e = true ∧ e.on = i) ∨ ¬ predsA P cf ops oj dn) ∧
      (∀ x ∈ dn, ∀ ox, ops[x]? = some ox → quietO P cf ox = true → x ∈ chk ∨ x ∈ bef) ∧ Bef ops [i] bef ∧ POk P cf ops (i :: dn) r
end
end Go.Mx
