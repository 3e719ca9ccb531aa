/-
  The abstract machine: the operations that change no memory, over the program's types, and that the model's do what is told.
-/
import Derived.Test.YtoakdmkjlpjahaaDoorMxC
namespace Go.Mx
open Go.RowKit
set_option linter.unusedVariables false

def intOp (op : BinOp) (k : IntKind) (a : Int) (k' : IntKind) (b : Int) : Option AV :=
  match op with
  | .shl => if b < 0 then none else some (.v (.int k (k.wrap (a * 2 ^ (min b.toNat k.bits)))))
  | .shr => if b < 0 then none else some (.v (.int k (a.fdiv (2 ^ (min b.toNat k.bits)))))
  | .add => if k = k' then some (.v (.int k (k.wrap (a + b)))) else none
  | .sub => if k = k' then some (.v (.int k (k.wrap (a - b)))) else none
  | .mul => if k = k' then some (.v (.int k (k.wrap (a * b)))) else none
  | .quo => if k = k' then (if b = 0 then none else some (.v (.int k (k.wrap (a.tdiv b))))) else none
  | .rem => if k = k' then (if b = 0 then none else some (.v (.int k (a.tmod b)))) else none
  | .and => if k = k' then some (.v (.int k (k.wrap (BitVec.ofInt k.bits a &&& BitVec.ofInt k.bits b).toNat))) else none
  | .or => if k = k' then some (.v (.int k (k.wrap (BitVec.ofInt k.bits a ||| BitVec.ofInt k.bits b).toNat))) else none
  | .xor => if k = k' then some (.v (.int k (k.wrap (BitVec.ofInt k.bits a ^^^ BitVec.ofInt k.bits b).toNat))) else none
  | .andNot => if k = k' then some (.v (.int k (k.wrap (BitVec.ofInt k.bits a &&& ~~~ BitVec.ofInt k.bits b).toNat))) else none
  | .eql => if k = k' then some (.v (.bool (a == b))) else none
  | .neq => if k = k' then some (.v (.bool (a != b))) else none
  | .lss => if k = k' then some (.v (.bool (decide (a < b)))) else none
  | .leq => if k = k' then some (.v (.bool (decide (a ≤ b)))) else none
  | .gtr => if k = k' then some (.v (.bool (decide (a > b)))) else none
  | .geq => if k = k' then some (.v (.bool (decide (a ≥ b)))) else none

def strOp (op : BinOp) (a b : ByteArray) : Option AV :=
  match op with
  | .add => addStr a b
  | .eql => some (.v (.bool (a.toList == b.toList)))
  | .neq => some (.v (.bool (!(a.toList == b.toList))))
  | .lss => some (.v (.bool (Op.bytesLess a.toList b.toList)))
  | .leq => some (.v (.bool (Op.bytesLess a.toList b.toList || a.toList == b.toList)))
  | .gtr => some (.v (.bool (!(Op.bytesLess a.toList b.toList || a.toList == b.toList))))
  | .geq => some (.v (.bool (!Op.bytesLess a.toList b.toList)))
  | _ => none

/-- Two operands. -/
def binA (k : TK) (op : BinOp) : AV → AV → Option AV
  | .v (.int k a), .v (.int k' b) => intOp op k a k' b
  | .v (.string a), .v (.string b) => strOp op a b
  | x, y => match op with
    | .eql => (eqRef k x y).map fun b => .v (.bool b)
    | .neq => (eqRef k x y).map fun b => .v (.bool (!b))
    | _ => none

def tkOf (P : Program) (t : TypeId) : TK := match P.underlying t with
  | some (.int _) => .num
  | some .bool => .bool
  | some .string => .str
  | some (.pointer _) => .ptr
  | some (.map _ _) => .map
  | some (.func _ _ _) => .func
  | some (.slice _) => .slice
  | _ => .other

theorem runInt (P : Program) (w : World) (op : BinOp) (t : TypeId) (xo yo : Operand) (k k' : IntKind) (a b : Int) (r : AV) (h : intOp op k a k' b = some r) :
    ∃ u, (do eqGuard op t xo yo (.int k a) (.int k' b); binOp op t (.int k a) (.int k' b) : Sem Value).run P w = .ok u w ∧ r = .v u := by
  have hg : (eqGuard op t xo yo (.int k a) (.int k' b)).run P w = .ok () w := by unfold eqGuard; cases op <;> rfl
  simp only [Sem.run_bind, hg, Result.andThen_ok]
  cases op <;> simp only [intOp] at h <;> (try split at h) <;> (try split at h) <;> simp_all <;> subst_vars <;> refine ⟨_, ?_, rfl⟩ <;>
    simp_all [binOp, Op.shift, Op.intArith, Op.intDiv, Op.intBits, Op.intCmp]
  all_goals (intro h'; omega)

theorem runStr (P : Program) (w : World) (op : BinOp) (t : TypeId) (xo yo : Operand) (a b : ByteArray) (r : AV) (h : strOp op a b = some r) :
    ∃ u, (do eqGuard op t xo yo (.string a) (.string b); binOp op t (.string a) (.string b) : Sem Value).run P w = .ok u w ∧ r = .v u := by
  have hg : (eqGuard op t xo yo (.string a) (.string b)).run P w = .ok () w := by unfold eqGuard; cases op <;> rfl
  simp only [Sem.run_bind, hg, Result.andThen_ok]
  cases op <;> simp only [strOp, addStr] at h <;> (try split at h) <;> simp_all <;> subst_vars <;> refine ⟨_, ?_, rfl⟩ <;> simp [binOp, Op.stringOp]
  omega

theorem runRef {ρ : Rho} {I : Imm} (P : Program) (w : World) (op : BinOp) (t : TypeId) (xo yo : Operand) {x y r : AV} {u v : Value} (hx : VR ρ I x u) (hy : VR ρ I y v)
    (h : (match op with | .eql => (eqRef (tkOf P t) x y).map fun b => AV.v (.bool b) | .neq => (eqRef (tkOf P t) x y).map fun b => AV.v (.bool (!b)) | _ => none) = some r) :
    ∃ u', (do eqGuard op t xo yo u v; binOp op t u v : Sem Value).run P w = .ok u' w ∧ r = .v u' := by
  have key : ∀ b, eqRef (tkOf P t) x y = some b → (eqGuard op t xo yo u v).run P w = .ok () w ∧ (op = .eql ∨ op = .neq → (Op.equal t u v).run P w = .ok b w) ∧ ((∀ k n, u ≠ .int k n) ∧ (∀ k n, u ≠ .float k n) ∧ (∀ k n m, u ≠ .complex k n m) ∧ (∀ s, u ≠ .string s)) := by
    intro b hb
    have hgd : (u ≠ .nilIface) → (∀ cs, u ≠ .agg cs) → (eqGuard op t xo yo u v).run P w = .ok () w := by
      intro h1 h2
      unfold eqGuard
      cases op <;> first
        | rfl
        | (cases u <;> first | rfl | exact absurd rfl h1 | exact absurd rfl (h2 _))
    have heq : ∀ d, P.underlying t = some d → (Op.equalIn (9999 + 1) t u v).run P w = .ok b w → (Op.equal t u v).run P w = .ok b w := fun d _ h => h
    have rowc : ∀ xx n cs len cap, x = .row xx (n + 1) cs → y = .v (.slice none len cap) → tkOf P t = .slice → b = false →
        (eqGuard op t xo yo u v).run P w = .ok () w ∧ (op = .eql ∨ op = .neq → (Op.equal t u v).run P w = .ok b w) ∧ ((∀ k n, u ≠ .int k n) ∧ (∀ k n, u ≠ .float k n) ∧ (∀ k n m, u ≠ .complex k n m) ∧ (∀ s, u ≠ .string s)) := by
      intro xx n cs len cap e1 e2 hk e3
      subst e1 e2 e3
      cases hy
      cases hx with
      | row _ _ _ us a cap' h1 h2 h3 h4 h5 h6 =>
        rcases h3 with ⟨h0, _⟩ | ⟨ad, rfl, _⟩
        · exact absurd h0 (Nat.succ_ne_zero _)
        · refine ⟨hgd (by simp) (by simp), fun _ => ?_, by simp, by simp, by simp, by simp⟩
          unfold tkOf at hk
          split at hk <;> simp at hk
          rename_i hd
          refine heq _ hd ?_; unfold Op.equalIn; simp only [Sem.run_bind, run_underlying hd, Result.andThen_ok]; rfl
    have hk0 : ∀ tk, tkOf P t = tk → tkOf P t = tk := fun _ h => h
    generalize hk : tkOf P t = tk at hb
    replace hk0 := hk0 _ hk
    unfold tkOf at hk
    unfold eqRef at hb
    split at hb <;> simp at hb <;> subst hb <;> (first | exact rowc _ _ _ _ _ rfl rfl hk0 rfl | skip) <;> cases hx <;> cases hy <;>
      (refine ⟨hgd (by simp) (by simp), fun _ => ?_, by simp, by simp, by simp, by simp⟩) <;>
      (split at hk <;> simp at hk) <;> rename_i hd <;>
      (refine heq _ hd ?_; unfold Op.equalIn; simp only [Sem.run_bind, run_underlying hd, Result.andThen_ok]; rfl)
  cases hb : eqRef (tkOf P t) x y with
  | none => rw [hb] at h; cases op <;> simp at h
  | some b =>
    rw [hb] at h
    obtain ⟨h1, h2, h3, h4, h5, h6⟩ := key b hb
    have hr : (binOp .eql t u v).run P w = .ok (.bool b) w ∧ (binOp .neq t u v).run P w = .ok (.bool (!b)) w ∨ ¬ (op = .eql ∨ op = .neq) := by
      by_cases hop : op = .eql ∨ op = .neq
      · left
        have h2' := h2 hop
        constructor <;> (unfold binOp; split <;> simp_all)
      · exact .inr hop
    cases op <;> simp at h hr <;> subst h <;> refine ⟨_, ?_, rfl⟩ <;> simp only [Sem.run_bind, h1, Result.andThen_ok] <;> simp [hr]

theorem binA_sound {ρ : Rho} {I : Imm} (P : Program) (w : World) (op : BinOp) (t : TypeId) (xo yo : Operand) {x y r : AV} {u v : Value} (hx : VR ρ I x u) (hy : VR ρ I y v)
    (h : binA (tkOf P t) op x y = some r) : ∃ u', (do eqGuard op t xo yo u v; binOp op t u v : Sem Value).run P w = .ok u' w ∧ r = .v u' := by
  unfold binA at h
  split at h
  · cases hx; cases hy; exact runInt P w op t xo yo _ _ _ _ r h
  · cases hx; cases hy; exact runStr P w op t xo yo _ _ r h
  · exact runRef P w op t xo yo hx hy h

end Go.Mx
