/-
  The abstract machine: regions that draw their order: which operations change no memory, and that they do what is told.
-/
import Derived.Test.YtdgdkgfkeinhbaaMxN
import Derived.Orders
namespace Go.Mx
open Go.RowKit
set_option linter.unusedVariables false
set_option linter.unusedSimpArgs false

/-- An operation that changes no memory and is no assignment. -/
def quietO (P : Program) (o : Oper) : Bool := match o.op with
  | .move _ => true
  | .pick _ _ _ => true
  | .binOp _ _ _ _ _ => true
  | .unOp _ _ _ => true
  | .extract _ _ => true
  | .field _ _ _ => true
  | .load _ _ => true
  | .slice _ _ _ _ none => true
  | .index _ _ _ => true
  | .indexAddr _ _ _ => true
  | .fieldAddr _ _ _ => true
  | .nilCheck _ => true
  | .lookup _ _ _ _ => true
  | .makeFunc _ _ _ => true
  | .build _ _ => true
  | .convert _ d _ => match P.underlying d with
    | some (.slice _) => false
    | _ => true
  | .call { callee := .builtin .len, args := _, argTypes := _ } => true
  | .call { callee := .builtin .max, args := _, argTypes := _ } => true
  | .call { callee := .builtin .min, args := _, argTypes := _ } => true
  | _ => false

section
variable {P : Program} {N : Nat} {cf : Cfg} {fr : Fr} {H : Hp} {ρ : Rho} {I : Imm} {β : Nat → Option Nat} {a : Act} {w w' : World}

/-- What an operation is worth now, its guard looked at ('g': what its guard's slot holds). -/
noncomputable def valQ (P : Program) (ops : Array Oper) (fr : Fr) (H : Hp) (o : Oper) : Option SV := match o.guard with
  | none => valS P fr H o
  | some (j, want) => match (ops[j]?).bind (·.dst) with
    | some s => match isU (look s fr.slots) with
      | true => some (.av (.v undef))
      | false => match look s fr.slots with
        | some (.av (.v (.bool b))) => if b = want then valS P fr H o else some (.av (.v undef))
        | _ => none
    | none => none

/-- It would yield this now. -/
def YieldsW (P : Program) (ops : Array Oper) (o : Oper) (v : Value) (a : Act) (w : World) : Prop :=
  (Region.wanted o (yielded ops a.tmps) = true ∧ (execOp a.eval o).run P w = .ok (.value v) w) ∨ (Region.wanted o (yielded ops a.tmps) = false ∧ v = undef)

theorem yielded_of {ops : Array Oper} {j s : Nat} {b : Bool} (hs : Sim N ρ I β fr H a w) (hj : (ops[j]?).bind (·.dst) = some s) (hb : look s fr.slots = some (.av (.v (.bool b)))) : yielded ops a.tmps j = some b := by
  have hv : VR ρ I _ _ := hs.slot s _ hb
  have hu := hv.v_inv
  unfold yielded
  rw [hj]
  rw [Array.getD_eq_getD_getElem?] at hu
  cases hx : a.tmps[s]? with
  | none => rw [hx] at hu; simp [undef] at hu
  | some v => rw [hx] at hu; simp at hu; subst hu; simp [hx]

theorem valQ_sound {ops : Array Oper} (hs : Sim N ρ I β fr H a w) {o : Oper} {x : SV} (h : valQ P ops fr H o = some x) : ∃ u, YieldsW P ops o u a w ∧ SVR ρ I β x u := by
  unfold valQ at h
  split at h
  · rename_i hg
    obtain ⟨u, h1, h2⟩ := valS_sound (P := P) hs h
    exact ⟨u, .inl ⟨by simp [Region.wanted, hg], h1⟩, h2⟩
  · rename_i j want hg
    split at h <;> (first | (exfalso; simp at h; done) | skip)
    rename_i s hj
    split at h
    · rename_i hu
      simp at h; subst h
      have hv : VR ρ I _ _ := hs.slot s _ (isU_eq hu)
      have he := hv.v_inv
      refine ⟨undef, .inr ⟨?_, rfl⟩, .v _⟩
      have hy : yielded ops a.tmps j = none := by
        unfold yielded
        rw [hj]
        rw [Array.getD_eq_getD_getElem?] at he
        cases hx : a.tmps[s]? with
        | none => simp [hx]
        | some v => rw [hx] at he; simp at he; subst he; simp [hx, undef]
      simp [Region.wanted, hg, hy]
    split at h <;> (first | (exfalso; simp at h; done) | skip)
    rename_i b hb
    have hy := yielded_of hs hj hb
    split at h
    · rename_i he
      obtain ⟨u, h1, h2⟩ := valS_sound (P := P) hs h
      exact ⟨u, .inl ⟨by simp [Region.wanted, hg, hy, he], h1⟩, h2⟩
    · rename_i he
      simp at h; subst h
      exact ⟨undef, .inr ⟨by simp [Region.wanted, hg, hy, he], rfl⟩, .v _⟩

/-- The values that are known ahead. -/
def puts (a : Act) : List (Option Nat × Value) → Act
  | [] => a
  | (d, u) :: r => (puts a r).put d u


/-- An operation that looks at none of the slots, and writes none. -/
def farFrom (ops : Array Oper) (d : Option Nat) (o : Oper) : Prop := (∀ t, d = some t → t ∉ o.looksAt ops) ∧ (∀ t, d = some t → o.dst ≠ some t)
def noSel (o : Oper) : Prop := ∀ cs b, o.op ≠ .select cs b

theorem wpOp_back {ops : Array Oper} {Q : Exit → Act → World → Prop} {j : Nat} {oj : Oper} {d : Option Nat} {v : Value} {K : Act → World → Prop} (hj : ops[j]? = some oj) (hf : farFrom ops d oj) (hs : noSel oj)
    (hQ : ∀ c a w, Q (.panic c) (a.put d v) w → Q (.panic c) a w) (h : wpOp P ops Q j K (a.put d v) w) : wpOp P ops Q j (fun a' w' => K (a'.put d v) w') a w := by
  let oi : Oper := ⟨d, .assign (.const v), 0, "", #[], none⟩
  have hy : Yields P ops oi v a := .inl ⟨rfl, fun w => rfl⟩
  have hap : oi.apart ops oj = true := by
    have hl : oi.looksAt ops = [] := rfl
    unfold Oper.apart
    rw [hl]
    cases hd : d with
    | none => simp [oi, hd]; cases oj.dst <;> simp
    | some t =>
      have h1 := hf.1 t hd
      have h2 := hf.2 t hd
      simp only [oi, hd]
      cases ho : oj.dst with
      | none => simp [h1]
      | some e => rw [ho] at h2; simp [h1]; intro he; exact h2 (by rw [he])
  exact wpOp_mono (fun a' w' h => h.2) (wpOp_put (oi := oi) hj hap (fun cs b => by simp [oi]) hs hQ hy h)

theorem wpOp_backs {ops : Array Oper} {Q : Exit → Act → World → Prop} {j : Nat} {oj : Oper} (hj : ops[j]? = some oj) (hs : noSel oj) (hQ : ∀ c a w, ¬ Q (.panic c) a w) :
    ∀ (hid : List (Option Nat × Value)) (K : Act → World → Prop) (a : Act), (∀ p ∈ hid, farFrom ops p.1 oj) → wpOp P ops Q j K (puts a hid) w → wpOp P ops Q j (fun a' w' => K (puts a' hid) w') a w
  | [], K, a, _, h => h
  | (d, u) :: r, K, a, hf, h => by
    have h1 := wpOp_back hj (hf (d, u) (by simp)) hs (fun c a w hp => absurd hp (hQ c _ w)) h
    exact wpOp_backs hj hs hQ r (fun a' w' => K (a'.put d u) w') a (fun p hp => hf p (by simp [hp])) h1

/-- What an operation would yield does not hang on slots that it does not look at. -/
theorem YieldsW.put {ops : Array Oper} {o : Oper} {v u : Value} {d : Option Nat} (hs : noSel o) (hf : ∀ t, d = some t → t ∉ o.looksAt ops) : YieldsW P ops o v (a.put d u) w ↔ YieldsW P ops o v a w := by
  unfold YieldsW
  rw [execOp_put o hs a d u hf, wanted_put o a d u hf]
theorem YieldsW.puts {ops : Array Oper} {o : Oper} {v : Value} (hs : noSel o) : ∀ (hid : List (Option Nat × Value)), (∀ p ∈ hid, ∀ t, p.1 = some t → t ∉ o.looksAt ops) → (YieldsW P ops o v (puts a hid) w ↔ YieldsW P ops o v a w)
  | [], _ => Iff.rfl
  | (d, u) :: r, hf => (YieldsW.put hs (hf (d, u) (by simp))).trans (YieldsW.puts hs r (fun p hp => hf p (by simp [hp])))

theorem YieldsW.wpOp {ops : Array Oper} {Q : Exit → Act → World → Prop} {i : Nat} {o : Oper} {v : Value} {K : Act → World → Prop} (hi : ops[i]? = some o) (hy : YieldsW P ops o v a w) (h : K (a.put o.dst v) w) : Go.wpOp P ops Q i K a w := by
  unfold Go.wpOp
  simp only [hi]
  rcases hy with ⟨hw, hv⟩ | ⟨hw, rfl⟩
  · simp only [hw, if_true, Oper.wp, hv, Oper.upon]; exact .inl h
  · simp only [hw, Bool.false_eq_true, if_false]; exact h

/-- Values in slots that differ are put in any order. -/
theorem puts_put : ∀ (hid : List (Option Nat × Value)) (d : Option Nat) (v : Value), (∀ p ∈ hid, ∀ t, d = some t → p.1 ≠ some t) → puts (a.put d v) hid = (puts a hid).put d v
  | [], d, v, _ => rfl
  | (e, u) :: r, d, v, h => by
    have h1 := h (e, u) (by simp)
    simp only [puts]
    rw [puts_put r d v (fun p hp => h p (by simp [hp]))]
    exact Act.put_comm _ v u (fun t ht => by exact h1 t ht)

end
end Go.Mx
