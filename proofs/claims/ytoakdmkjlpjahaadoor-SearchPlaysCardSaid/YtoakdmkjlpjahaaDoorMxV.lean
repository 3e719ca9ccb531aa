/-
  The abstract machine: regions that draw their order: what an operation looks at.
-/
import Derived.Test.YtoakdmkjlpjahaaDoorMxU
namespace Go.Mx
open Go.RowKit
set_option linter.unusedVariables false
set_option linter.unusedSimpArgs false

section
variable {P : Program} {N : Nat} {cf : Cfg} {fr fr' : Fr} {H : Hp} {ρ : Rho} {I : Imm} {β : Nat → Option Nat} {a : Act} {w w' : World}

theorem mapO_congr {α β' : Type} {f g : α → Option β'} : ∀ (l : List α), (∀ x ∈ l, f x = g x) → mapO f l = mapO g l
  | [], _ => rfl
  | x :: r, h => by simp only [mapO, h x (by simp), mapO_congr r (fun y hy => h y (by simp [hy]))]

theorem loadS_congr (hb : fr.boxes = fr'.boxes) (H : Hp) (g : Bool) (s : Nat) (x : SV) : loadS fr H g s x = loadS fr' H g s x := by
  cases x <;> simp only [loadS, hb]

/-- What an operation is worth hangs on what it looks at, and on the boxes. -/
theorem rowV_congr {t : TypeId} {len : Nat} {parts : Array (Nat × Operand)} (h : ∀ p ∈ parts.toList, opV fr p.2 = opV fr' p.2) : rowV P fr t len parts = rowV P fr' t len parts := by
  unfold rowV
  rw [mapO_congr (g := fun (p : Nat × Operand) => opV fr' p.2) parts.toList h]
theorem valS_congr {o : Oper} (hq : quietO P cf o = true) (hn : ∀ t len ps, o.op ≠ .buildSlice t len ps) (hb : fr.boxes = fr'.boxes) (h : ∀ x ∈ o.op.operands.toList, opS fr x = opS fr' x) : valS P fr H o = valS P fr' H o := by
  obtain ⟨dst, op, ty, pos, after, guard⟩ := o
  have hv : ∀ x ∈ op.operands.toList, opV fr x = opV fr' x := fun x hx => by unfold opV; rw [h x hx]
  have h' : ∀ x ∈ op.operands.toList, opS fr x = opS fr' x := h
  clear h
  cases op <;> (first | (exfalso; simp [quietO] at hq; done) | skip)
  case buildSlice t len ps => exact absurd rfl (hn t len ps)
  case move x => simp only [valS, h' x (by simp [Op.operands])]
  case pick c x y => simp only [valS, h' c (by simp [Op.operands]), h' x (by simp [Op.operands]), h' y (by simp [Op.operands])]
  case binOp op t x y t2 => simp only [valS, hv x (by simp [Op.operands]), hv y (by simp [Op.operands])]
  case lookup t m i ok => simp only [valS, hv m (by simp [Op.operands]), hv i (by simp [Op.operands])]
  case unOp op t x => simp only [valS, hv x (by simp [Op.operands])]
  case convert s d x => simp only [valS, hv x (by simp [Op.operands])]
  case extract x i => simp only [valS, hv x (by simp [Op.operands])]
  case field t x f => simp only [valS, hv x (by simp [Op.operands])]
  case load t x => simp only [valS, h' x (by simp [Op.operands]), loadS_congr hb]
  case index t x i => simp only [valS, hv x (by simp [Op.operands]), hv i (by simp [Op.operands])]
  case indexAddr t x i => simp only [valS, h' x (by simp [Op.operands]), hv i (by simp [Op.operands])]
  case fieldAddr t x f => simp only [valS, h' x (by simp [Op.operands])]
  case nilCheck x => simp only [valS, h' x (by simp [Op.operands])]
  case makeFunc f xs ys =>
    simp only [valS]
    rw [mapO_congr (g := opV fr') xs.toList (fun x hx => hv x (by simp [Op.operands]; exact .inl (by simpa using hx))), mapO_congr (g := opV fr') ys.toList (fun x hx => hv x (by simp [Op.operands]; exact .inr (by simpa using hx)))]
  case build t ps =>
    have e : ∀ p ∈ ps.toList, opV fr p.2 = opV fr' p.2 := fun p hp => hv p.2 (by simp [Op.operands]; exact ⟨p.1, by simpa using hp⟩)
    simp only [valS]
    split <;> try rfl
    · split <;> try rfl
      rename_i z pl _ _
      congr 1
      exact mapO_congr ps.toList (fun p hp => by rw [e p hp])
    · split <;> try rfl
      rename_i z pl _ _
      congr 1
      exact mapO_congr ps.toList (fun p hp => by rw [e p hp])
  case slice t x lo hi m =>
    cases m with
    | some m => simp [quietO] at hq
    | none =>
      have el : ∀ y, lo = some y → opV fr y = opV fr' y := fun y hy => hv y (by subst hy; simp [Op.operands])
      have eh : ∀ y, hi = some y → opV fr y = opV fr' y := fun y hy => hv y (by subst hy; simp [Op.operands])
      have el2 : lo.map (fun y => (opV fr y).getD (.v undef)) = lo.map (fun y => (opV fr' y).getD (.v undef)) := by cases lo with
        | none => rfl
        | some y => simp [el y rfl]
      have eh2 : hi.map (fun y => (opV fr y).getD (.v undef)) = hi.map (fun y => (opV fr' y).getD (.v undef)) := by cases hi with
        | none => rfl
        | some y => simp [eh y rfl]
      simp only [valS, h' x (by simp [Op.operands]), el2, eh2]
  case call c =>
    obtain ⟨callee, ⟨args⟩, ⟨ts⟩⟩ := c
    have e : ∀ x ∈ args, opV fr x = opV fr' x := fun x hx => hv x (by
      cases callee <;> simp [Op.operands, Call.operands, hx])
    cases callee <;> (first | (exfalso; simp [quietO] at hq; done) | skip)
    rename_i bi
    cases bi <;> (first | (exfalso; simp [quietO] at hq; done) | skip)
    all_goals
      rcases args with _ | ⟨x, _ | ⟨y, _ | ⟨z, r⟩⟩⟩
      · rfl
      · rcases ts with _ | ⟨t, ts⟩ <;> first | rfl | (simp only [valS, e x (by simp)]; done)
      · simp only [valS, e x (by simp), e y (by simp)]
      · rfl

theorem valC_congr {o : Oper} (hq : quietO P cf o = true) (hb : fr.boxes = fr'.boxes) (h : ∀ x ∈ o.op.operands.toList, opS fr x = opS fr' x) : valC P fr H o = valC P fr' H o := by
  unfold valC
  split
  · rename_i t len parts ho
    exact rowV_congr (fun p hp => by unfold opV; rw [h p.2 (by rw [ho]; simp [Op.operands]; exact ⟨p.1, by simpa using hp⟩)])
  · rename_i src dst x ho
    have hs := valS_congr (H := H) hq (fun t len ps e => by rw [ho] at e; simp at e) hb h
    have hv : opV fr x = opV fr' x := by unfold opV; rw [h x (by rw [ho]; simp [Op.operands])]
    rw [hv, hs]
  · rename_i hn _
    exact valS_congr (H := H) hq (fun t len ps e => hn t len ps e) hb h
end
end Go.Mx
