/-
  The abstract machine: calls, rows of operations in the text's order, code, and functions.
-/
import Derived.Test.YtoakdmkjlpjahaaDoorMxM
namespace Go.Mx
open Go.RowKit
set_option linter.unusedVariables false
set_option linter.unusedSimpArgs false

/-- A function with a text of its own. -/
def bodyOk (P : Program) (g : Nat) : Bool := match P.funcs[g]? with
  | some fn => !(fn.name == "runtime.NumGoroutine") && !fn.body.isNone
  | none => false

/-- A function without a text of its own, that answers at once and moves nothing. -/
def Ex (P : Program) (g : Nat) (args : List AV) (k : AV → Hp → Prop) (H : Hp) : Prop :=
  ∀ ρ I w us, StH ρ I H w → VRs ρ I args us → ∃ u v, (callFunc g us.toArray).run P w = .ok (.value u) w ∧ VR ρ I v u ∧ k v H

/-- A call. -/
def callA (P : Program) (fr : Fr) (H : Hp) (f : Operand) (args : List Operand) (k : AV → Hp → Prop) : Prop :=
  match opV fr f, mapO (opV fr) args with
  | some (.fn (.func g) first captured), some xs => match bodyOk P g with
    | true => Sp P g (first ++ xs ++ captured) k H
    | false => Ex P g (first ++ xs ++ captured) k H
  | _, _ => False

/-- One operation. -/
def opA (P : Program) (N : Nat) (cf : Cfg) (fr : Fr) (H : Hp) (o : Oper) (k : Fr → Hp → Prop) : Prop :=
  match o.op with
  | .call { callee := .value f, args := ⟨args⟩, argTypes := _ } => callA P fr H f args (fun v H' => putK N o.dst (.av v) fr (fun fr' => k fr' H'))
  | _ => effA P N cf fr H o k

/-- The slot of an operation that did not run. -/
def isU : Option SV → Bool
  | some (.av (.v (.tuple a))) => a.isEmpty
  | _ => false
theorem isU_eq {x : Option SV} (h : isU x = true) : x = some (.av (.v undef)) := by
  unfold isU at h
  split at h
  · rename_i a
    have : a = #[] := by simpa [Array.isEmpty] using h
    rw [this]; rfl
  · simp at h
/-- A guard's two ways. -/
def guardA (fr : Fr) (s : Nat) (want : Bool) (A B : Fr → Prop) : Prop :=
  match isU (look s fr.slots), want with
  | true, _ => B fr
  | false, true => condA fr (.tmp s) A B
  | false, false => condA fr (.tmp s) B A

/-- Operations in the text's order. -/
def evOps (P : Program) (N : Nat) (cf : Cfg) (all : Array Oper) : List Oper → (Fr → Hp → Prop) → Fr → Hp → Prop
  | [], k, fr, H => k fr H
  | o :: rest, k, fr, H => match o.guard with
    | none => opA P N cf fr H o (evOps P N cf all rest k)
    | some (j, want) => match (all[j]?).bind (·.dst) with
      | some s => guardA fr s want (fun fr => opA P N cf fr H o (evOps P N cf all rest k)) (fun fr => putK N o.dst (.av (.v undef)) fr (fun fr' => evOps P N cf all rest k fr' H))
      | none => False

section
variable {P : Program} {N : Nat} {fr : Fr} {H : Hp} {ρ : Rho} {I : Imm} {β : Nat → Option Nat} {a : Act} {w w' : World} {o : Oper} {k : Fr → Hp → Prop} {cf : Cfg}

theorem run_enter {g : Nat} (h : bodyOk P g = true) (args : Array Value) : (callFunc g args).run P w = .ok (.enter g args) w := by
  unfold bodyOk at h
  split at h
  · rename_i fn hfn
    simp only [Bool.and_eq_true, Bool.not_eq_true'] at h
    have h1 : ¬ (fn.name = "runtime.NumGoroutine") := by simpa using h.1
    have h2 : ¬ (fn.body = none) := by intro e; simp [e] at h
    simp [callFunc, hfn, h1, h2]
  · simp at h

theorem opA_sound (h : opA P N cf fr H o k) : Opp P N o k fr H := by
  obtain ⟨dst, op, ty, pos, after, guard⟩ := o
  unfold opA at h
  simp only at h
  split at h
  · rename_i f args ts
    unfold callA at h
    split at h <;> (first | exact h.elim | skip)
    rename_i g first captured xs hf hxs
    intro ρ I β a w hs Q
    have hv := opV_sound hs hf
    have hargs := mapO_vrs hs hxs
    generalize hev : a.eval f = u at hv
    cases hv with
    | fn _ _ _ us vs h1 h2 h3 h4 =>
      have hall : VRs ρ I (first ++ xs ++ captured) (us ++ args.map a.eval ++ vs) := (VRs.append ⟨h1, h2⟩ hargs).append ⟨h3, h4⟩
      have hr : (execOp a.eval ⟨dst, .call ⟨.value f, ⟨args⟩, ts⟩, ty, pos, after, guard⟩).run P w = (callFunc g (us ++ args.map a.eval ++ vs).toArray).run P w := by
        have e : (us.toArray ++ (args.map a.eval).toArray ++ vs.toArray) = (us ++ args.map a.eval ++ vs).toArray := by simp
        simp only [execOp, resolve, hev, Deferred.ofValue, Sem.run_bind, Sem.run_pure, Result.andThen_ok, invoke]
        rw [show (Array.map a.eval ⟨args⟩ : Array Value) = (args.map a.eval).toArray from by simp, e]
      split at h
      case h_2 =>
        obtain ⟨u, v, h5, h6, hk⟩ := h ρ I w _ hs.heap hall
        unfold Oper.wp
        rw [hr, h5, Oper.upon_value]
        obtain ⟨fr'', h7, h8, h9⟩ := hs.putK (x := .av v) h6 hk
        exact ⟨fr'', H, ρ, I, β, by rw [h8]; exact MvF.refl _ _ _ _, h7, h9⟩
      rename_i hb
      rw [run_enter hb] at hr
      unfold Oper.wp
      rw [hr]
      refine (h ρ I w _ hs.heap hall).mono ?_
      rintro e w' ⟨v, u, ρ', I', H', rfl, hm, hvr, hk⟩
      obtain ⟨h5, h6⟩ := hs.move hm
      obtain ⟨fr'', h7, h8, h9⟩ := h5.putK (x := .av v) hvr hk
      exact ⟨fr'', H', ρ', I', β, by rw [h8]; exact h6, h7, h9⟩
  · exact effA_sound h

theorem condA_sound (hs : Sim N ρ I β fr H a w) {x : Operand} {A B : Fr → Prop} (h : condA fr x A B) :
    ∃ b fr', a.eval x = .bool b ∧ Sim N ρ I β fr' H a w ∧ OwnF ρ β fr' H = OwnF ρ β fr H ∧ (if b = true then A fr' else B fr') := by
  unfold condA at h
  split at h <;> (first | exact h.elim | skip)
  rename_i b hb
  have hv : VR ρ I _ _ := opS_sound hs hb
  cases b with
  | true => exact ⟨true, _, hv.v_inv, hs.known hb, OwnF.known _ _ _ _ _ _, h⟩
  | false => exact ⟨false, _, hv.v_inv, hs.known hb, OwnF.known _ _ _ _ _ _, h⟩

theorem guardA_sound (hs : Sim N ρ I β fr H a w) {all : Array Oper} {j s : Nat} {want : Bool} {A B : Fr → Prop} (hj : (all[j]?).bind (·.dst) = some s) (h : guardA fr s want A B) :
    ∃ fr', Sim N ρ I β fr' H a w ∧ OwnF ρ β fr' H = OwnF ρ β fr H ∧ ((yielded all a.tmps j = some want ∧ A fr') ∨ (yielded all a.tmps j ≠ some want ∧ B fr')) := by
  have key : ∀ b, a.eval (.tmp s) = .bool b → yielded all a.tmps j = some b := by
    intro b hb
    unfold yielded
    rw [hj]
    have hb' : a.tmps.getD s undef = .bool b := hb
    rw [Array.getD_eq_getD_getElem?] at hb'
    cases hx : a.tmps[s]? with
    | none => rw [hx] at hb'; simp [undef] at hb'
    | some v => rw [hx] at hb'; simp at hb'; subst hb'; simp [hx]
  unfold guardA at h
  split at h
  · rename_i hu
    refine ⟨fr, hs, rfl, .inr ⟨?_, h⟩⟩
    have hv : VR ρ I _ _ := hs.slot s _ (isU_eq hu)
    have he := hv.v_inv
    unfold yielded
    rw [hj]
    rw [Array.getD_eq_getD_getElem?] at he
    cases hx : a.tmps[s]? with
    | none => simp [hx]
    | some v => rw [hx] at he; simp at he; subst he; simp [hx, undef]
  · obtain ⟨b, fr', h1, h2, h3, h4⟩ := condA_sound hs h
    refine ⟨fr', h2, h3, ?_⟩
    rw [key b h1]
    cases b <;> simp_all
  · obtain ⟨b, fr', h1, h2, h3, h4⟩ := condA_sound hs h
    refine ⟨fr', h2, h3, ?_⟩
    rw [key b h1]
    cases b <;> simp_all

theorem evOps_sound {all : Array Oper} {K : Exit → Fr → Hp → Prop} : ∀ (l : List Oper) (fr : Fr) (H : Hp) (ρ : Rho) (I : Imm) (β : Nat → Option Nat) (a : Act) (w : World) (ρ0 : Rho) (I0 : Imm) (L0 : Nat → Prop) (w0 : World),
    Sim N ρ I β fr H a w → MvF L0 ρ0 I0 w0 (OwnF ρ β fr H) ρ I w → evOps P N cf all l (fun fr H => K .normal fr H) fr H →
    wpList P all (fun e a' w' => ∃ fr' H' ρ' I' β', MvF L0 ρ0 I0 w0 (OwnF ρ' β' fr' H') ρ' I' w' ∧ Sim N ρ' I' β' fr' H' a' w' ∧ K e fr' H') l a w
  | [], fr, H, ρ, I, β, a, w, ρ0, I0, L0, w0, hs, hm, h => ⟨fr, H, ρ, I, β, hm, hs, h⟩
  | o :: rest, fr, H, ρ, I, β, a, w, ρ0, I0, L0, w0, hs, hm, h => by
    have step : ∀ (fr' : Fr), Sim N ρ I β fr' H a w → OwnF ρ β fr' H = OwnF ρ β fr H → Region.wanted o (yielded all a.tmps) = true → opA P N cf fr' H o (evOps P N cf all rest (fun fr H => K .normal fr H)) →
        wpList P all (fun e a' w' => ∃ fr' H' ρ' I' β', MvF L0 ρ0 I0 w0 (OwnF ρ' β' fr' H') ρ' I' w' ∧ Sim N ρ' I' β' fr' H' a' w' ∧ K e fr' H') (o :: rest) a w := by
      intro fr' hs' hown hw hop
      unfold wpList
      rw [if_pos hw]
      left
      refine Oper.wp_mono (Q := fun e a' w' => ∃ fr' H' ρ' I' β', MvF L0 ρ0 I0 w0 (OwnF ρ' β' fr' H') ρ' I' w' ∧ Sim N ρ' I' β' fr' H' a' w' ∧ K e fr' H') ?_ (opA_sound hop ρ I β a w hs' _)
      rintro a1 w1 ⟨fr1, H1, ρ1, I1, β1, hm1, hs1, hk1⟩
      rw [hown] at hm1
      exact evOps_sound rest fr1 H1 ρ1 I1 β1 a1 w1 ρ0 I0 L0 w0 hs1 (hm.trans hm1) hk1
    unfold evOps at h
    split at h
    · rename_i hg
      exact step fr hs rfl (by simp [Region.wanted, hg]) h
    · rename_i j want hg
      split at h <;> (first | exact h.elim | skip)
      rename_i s hj
      obtain ⟨fr', hs', hown, ⟨hy, hb⟩ | ⟨hy, hb⟩⟩ := guardA_sound hs hj h
      · exact step fr' hs' hown (by simp [Region.wanted, hg, hy]) hb
      · unfold wpList
        rw [if_neg (by simp [Region.wanted, hg, hy])]
        obtain ⟨fr'', h5, h6, h7⟩ := hs'.putK (x := .av (.v undef)) (u := undef) (.v undef) hb
        exact evOps_sound rest fr'' H ρ I β _ w ρ0 I0 L0 w0 h5 (by rw [h6, hown]; exact hm) h7

theorem Wp.region {id : Nat} {ops : Array Oper} {K : Exit → Fr → Hp → Prop} (h : evOps P N cf ops ops.toList (fun fr H => K .normal fr H) fr H) : Wp P N (.region id ops false) K fr H :=
  fun ρ I β a w hs => wp_region_list (evOps_sound ops.toList fr H ρ I β a w ρ I _ w hs (MvF.refl _ _ _ _) h)

end

/-! ### Loops -/
/-- What stays known at a loop's head: slots, addresses of boxes, boxes. -/
structure Keep where
  v : List Nat
  p : List (Nat × Nat × Nat)
  b : List Nat

def getV (fr : Fr) (l : List Nat) : Option (List AV) := mapO (fun t => opV fr (.tmp t)) l
def getB (fr : Fr) (l : List Nat) : Option (List (List AV)) := mapO (fun t => look t fr.boxes) l
def chkP (fr : Fr) : List (Nat × Nat × Nat) → Bool
  | [] => true
  | (s, t, off) :: r => (match look s fr.slots with
    | some (.bp t' off') => Nat.beq t' t && Nat.beq off' off
    | _ => false) && chkP fr r
def slotsOf (l : List Nat) (i : Nat) (xs : List AV) : List (Nat × SV) := match l with
  | [] => []
  | t :: r => (t, .av (xs.getD i (.v undef))) :: slotsOf r (i + 1) xs
def boxesOf (l : List Nat) (i : Nat) (bs : List (List AV)) : List (Nat × List AV) := match l with
  | [] => []
  | t :: r => (t, bs.getD i []) :: boxesOf r (i + 1) bs
def ptrsOf : List (Nat × Nat × Nat) → List (Nat × SV)
  | [] => []
  | (s, t, off) :: r => (s, .bp t off) :: ptrsOf r
def mkFr (kp : Keep) (xs : List AV) (bs : List (List AV)) : Fr := { slots := slotsOf kp.v 0 xs ++ ptrsOf kp.p, boxes := boxesOf kp.b 0 bs }

/-- What the loop's head is handed. -/
def headK (kp : Keep) (next : List AV → List (List AV) → Hp → Prop) (fr : Fr) (H : Hp) : Prop :=
  match getV fr kp.v, getB fr kp.b, chkP fr kp.p with
  | some xs, some bs, true => next xs bs H
  | _, _, _ => False

/-- A loop: something holds at each round's head, and a number goes down. -/
def Loop (body : (List AV → List (List AV) → Hp → Prop) → List AV → List (List AV) → Hp → Prop) (xs : List AV) (bs : List (List AV)) (H : Hp) : Prop :=
  ∃ (Inv : Nat → List AV → List (List AV) → Hp → Prop) (n0 : Nat), Inv n0 xs bs H ∧ ∀ n xs bs H, Inv n xs bs H → body (fun xs' bs' H' => ∃ m, m < n ∧ Inv m xs' bs' H') xs bs H

theorem look_append {α : Type} (t : Nat) : ∀ (l r : List (Nat × α)) (x : α), look t (l ++ r) = some x → look t l = some x ∨ look t r = some x
  | [], r, x, h => .inr h
  | (s, y) :: l, r, x, h => by
    simp only [List.cons_append, look] at h ⊢
    split at h
    · rename_i e; rw [if_pos e]; exact .inl h
    · rename_i e; rw [if_neg e]; exact look_append t l r x h

theorem slotsOf_look {fr : Fr} {t : Nat} {x : SV} {all : List AV} : ∀ (l : List Nat) (i : Nat) (xs : List AV), getV fr l = some xs → (∀ j y, xs[j]? = some y → all[i + j]? = some y) → look t (slotsOf l i all) = some x → look t fr.slots = some x
  | [], i, xs, h, ha, hx => by simp [slotsOf, look] at hx
  | s :: l, i, xs, h, ha, hx => by
    simp only [getV, mapO] at h
    split at h <;> simp at h
    rename_i y ys hy hys
    subst h
    simp only [slotsOf, look] at hx
    split at hx
    · rename_i e; subst e
      have := ha 0 y rfl
      simp only [Nat.add_zero] at this
      rw [List.getD_eq_getElem?_getD, this] at hx
      simp at hx; subst hx
      exact opS_of_opV hy
    · exact slotsOf_look l (i + 1) ys hys (fun j z hz => by have := ha (j + 1) z (by simpa using hz); rw [← this]; congr 1; omega) hx
theorem boxesOf_look {fr : Fr} {t : Nat} {x : List AV} {all : List (List AV)} : ∀ (l : List Nat) (i : Nat) (bs : List (List AV)), getB fr l = some bs → (∀ j y, bs[j]? = some y → all[i + j]? = some y) → look t (boxesOf l i all) = some x → look t fr.boxes = some x
  | [], i, xs, h, ha, hx => by simp [boxesOf, look] at hx
  | s :: l, i, xs, h, ha, hx => by
    simp only [getB, mapO] at h
    split at h <;> simp at h
    rename_i y ys hy hys
    subst h
    simp only [boxesOf, look] at hx
    split at hx
    · rename_i e; subst e
      have := ha 0 y rfl
      simp only [Nat.add_zero] at this
      rw [List.getD_eq_getElem?_getD, this] at hx
      simp at hx; subst hx
      exact hy
    · exact boxesOf_look l (i + 1) ys hys (fun j z hz => by have := ha (j + 1) z (by simpa using hz); rw [← this]; congr 1; omega) hx
theorem ptrsOf_look {fr : Fr} {t : Nat} {x : SV} : ∀ (l : List (Nat × Nat × Nat)), chkP fr l = true → look t (ptrsOf l) = some x → look t fr.slots = some x
  | [], h, hx => by simp [ptrsOf, look] at hx
  | (s, b, off) :: l, h, hx => by
    simp only [chkP, Bool.and_eq_true] at h
    obtain ⟨h1, h2⟩ := h
    simp only [ptrsOf, look] at hx
    split at hx
    · rename_i e; subst e
      simp at hx; subst hx
      split at h1
      · rename_i b' off' hl
        simp only [Bool.and_eq_true] at h1
        have e1 := Nat.eq_of_beq_eq_true h1.1
        have e2 := Nat.eq_of_beq_eq_true h1.2
        rw [hl, e1, e2]
      · simp at h1
    · exact ptrsOf_look l h2 hx

theorem Wp.loopA {P : Program} {N : Nat} {c : Code} {K : Exit → Fr → Hp → Prop} {fr : Fr} {H : Hp} (kp : Keep) {xs : List AV} {bs : List (List AV)} (hx : getV fr kp.v = some xs) (hb : getB fr kp.b = some bs) (hp : chkP fr kp.p = true)
    (h : Loop (fun next xs bs H => Wp P N c (seqK (headK kp next) K) (mkFr kp xs bs) H) xs bs H) : Wp P N (.loop c) K fr H := by
  have forget : ∀ {c' : Code} {K' : Exit → Fr → Hp → Prop} {fr : Fr} {H : Hp} {xs : List AV} {bs : List (List AV)}, getV fr kp.v = some xs → getB fr kp.b = some bs → chkP fr kp.p = true → Wp P N c' K' (mkFr kp xs bs) H → Wp P N c' K' fr H := by
    intro c' K' fr H xs bs hx hb hp h
    refine Wp.forget (fun t x hl => ?_) (fun t x hl => ?_) h
    · rcases look_append t _ _ x hl with hl | hl
      · exact slotsOf_look kp.v 0 xs hx (fun j y hy => by simpa using hy) hl
      · exact ptrsOf_look kp.p hp hl
    · exact boxesOf_look kp.b 0 bs hb (fun j y hy => by simpa using hy) hl
  obtain ⟨Inv, n0, h0, hr⟩ := h
  refine Wp.loop (fun n fr H => ∃ xs bs, getV fr kp.v = some xs ∧ getB fr kp.b = some bs ∧ chkP fr kp.p = true ∧ Inv n xs bs H) n0 ⟨xs, bs, hx, hb, hp, h0⟩ ?_
  rintro n fr1 H1 ⟨xs1, bs1, hx1, hb1, hp1, hi1⟩
  refine forget hx1 hb1 hp1 (Wp.mono (hr n xs1 bs1 H1 hi1) ?_)
  intro e fr2 H2 hk
  cases e with
  | normal =>
    simp only [seqK, headK] at hk ⊢
    split at hk
    · rename_i xs2 bs2 hx2 hb2 hp2
      obtain ⟨m, hm, hi⟩ := hk
      exact ⟨m, hm, xs2, bs2, hx2, hb2, hp2, hi⟩
    · exact hk.elim
  | exit id => exact hk
  | goto l => exact hk
  | ret => exact hk
  | panic ch => exact hk
  | outgrown => exact hk

/-- One operation, its guard looked at. -/
def opG (P : Program) (N : Nat) (cf : Cfg) (all : Array Oper) (fr : Fr) (H : Hp) (o : Oper) (g : Option (Nat × Bool)) (k : Fr → Hp → Prop) : Prop := match g with
  | none => opA P N cf fr H o k
  | some (j, want) => match (all[j]?).bind (·.dst) with
    | some s => guardA fr s want (fun fr => opA P N cf fr H o k) (fun fr => putK N o.dst (.av (.v undef)) fr (fun fr' => k fr' H))
    | none => False

end Go.Mx
