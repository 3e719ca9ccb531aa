/-
  The abstract machine: regions that draw their order: an operation where some slots are not written yet.
-/
import Derived.Test.YtoakdmkjlpjahaaDoorMxW
namespace Go.Mx
open Go.RowKit
set_option linter.unusedVariables false
set_option linter.unusedSimpArgs false

section
variable {P : Program} {N : Nat} {cf : Cfg} {fr fr' : Fr} {H : Hp} {ρ : Rho} {I : Imm} {β : Nat → Option Nat} {a : Act} {w w' : World} {ds : List Nat}

theorem dropBp_filter (t : Nat) : ∀ (l : List (Nat × SV)), dropBp t (l.filter (fun p => !ds.contains p.1)) = (dropBp t l).filter (fun p => !ds.contains p.1)
  | [] => rfl
  | (s, x) :: r => by
    have ih := dropBp_filter t r
    by_cases hs : ds.contains s = true
    · rw [List.filter_cons_of_neg (by simpa using hs), ih]
      cases x with
      | bp t' off =>
        simp only [dropBp]
        split <;> rw [List.filter_cons_of_neg (by simpa using hs)]
      | av y => simp only [dropBp]; rw [List.filter_cons_of_neg (by simpa using hs)]
      | un => simp only [dropBp]; rw [List.filter_cons_of_neg (by simpa using hs)]
    · rw [List.filter_cons_of_pos (by simpa using hs)]
      cases x with
      | bp t' off =>
        simp only [dropBp]
        split <;> rw [List.filter_cons_of_pos (by simpa using hs), ih]
      | av y => simp only [dropBp]; rw [List.filter_cons_of_pos (by simpa using hs), ih]
      | un => simp only [dropBp]; rw [List.filter_cons_of_pos (by simpa using hs), ih]

theorem newK_hide {loc : Bool} {d : Option Nat} {cs : List AV} {k : Fr → Hp → Prop} (hd : ∀ t, d = some t → t ∉ ds) (h : newK N loc d cs fr H k) : newK N loc d cs (fr.hide ds) H (hidK ds k) := by
  unfold newK at *
  cases d with
  | none => exact h
  | some t =>
    simp only at h ⊢
    split at h
    · rename_i ht
      rw [if_pos ht]
      have htd := hd t rfl
      cases loc with
      | true =>
        refine ⟨_, ?_, h⟩
        simp only [Fr.hide, Fr.newBox, dropBp_filter]
        rw [List.filter_cons_of_pos (by simpa using htd)]
      | false => exact ⟨_, hide_put htd, h⟩
    · exact h.elim

theorem storeS_hide {sz : Nat} {ad : SV} {x : AV} {k k' : Fr → Hp → Prop} (hk : ∀ f H', k f H' → k' (f.hide ds) H') (h : storeS fr H sz ad x k) : storeS (fr.hide ds) H sz ad x k' := by
  unfold storeS at *
  split at h
  · rename_i hc
    rw [if_pos hc]
    cases ad with
    | bp t off =>
      simp only at h ⊢
      have e : (fr.hide ds).boxes = fr.boxes := rfl
      rw [e]
      split at h
      · rename_i old ho
        split at h
        · rename_i hl; simp only [hl, if_true]; exact hk _ _ h
        · exact h.elim
      · exact h.elim
    | av y =>
      cases y with
      | ptr id ver off =>
        simp only at h ⊢
        split at h
        · rename_i v old ho
          split at h
          · rename_i hl; simp only [hl]; simp; exact hk _ _ h
          · exact h.elim
        · exact h.elim
      | _ => exact h.elim
    | un => exact h.elim
  · exact h.elim

theorem appA_mono {sz bytes : Nat} {d s : AV} {k k' : AV → Hp → Prop} (hk : ∀ v H', k v H' → k' v H') (h : appA H sz bytes d s k) : appA H sz bytes d s k' := by
  unfold appA at *
  split at h <;> (first | exact h.elim | skip)
  split at h <;> (first | exact h.elim | skip)
  · split at h
    · rename_i h0; rw [if_pos h0]; exact hk _ _ h
    · rename_i h0; rw [if_neg h0]
      split at h
      · rename_i h1; rw [if_pos h1]; exact hk _ _ h
      · exact h.elim
  · split at h <;> (first | exact h.elim | skip)
    rename_i h2
    rw [if_pos h2]
    split at h
    · rename_i h0; rw [if_pos h0]; exact hk _ _ h
    · rename_i h0; rw [if_neg h0]
      split at h
      · rename_i h1; rw [if_pos h1]; exact hk _ _ h
      · exact h.elim
  · split at h <;> (first | exact h.elim | skip)
    split at h <;> (first | exact h.elim | skip)
    rename_i h1
    rw [if_pos h1]
    exact hk _ _ h
theorem copyA_mono {sz : Nat} {d s : AV} {k k' : AV → Hp → Prop} (hk : ∀ v H', k v H' → k' v H') (h : copyA H sz d s k) : copyA H sz d s k' := by
  unfold copyA at *
  split at h <;> (first | exact h.elim | skip)
  split at h <;> (first | exact h.elim | skip)
  · split at h <;> (first | exact h.elim | skip)
    split at h <;> (first | exact h.elim | skip)
    rename_i h1
    rw [if_pos h1]
    exact hk _ _ h
  · exact hk _ _ h
theorem makeA_mono {bytes : Nat} {z : List AV} {l c : AV} {k k' : AV → Hp → Prop} (hk : ∀ v H', k v H' → k' v H') (h : makeA H bytes z l c k) : makeA H bytes z l c k' := by
  unfold makeA at *
  split at h <;> (first | exact h.elim | skip)
  split at h <;> (first | exact h.elim | skip)
  rename_i h1
  rw [if_pos h1]
  exact hk _ _ h
theorem Ex.mono {g : Nat} {args : List AV} {k k' : AV → Hp → Prop} (hk : ∀ v H', k v H' → k' v H') (h : Ex P g args k H) : Ex P g args k' H := fun ρ I w us hs hv => by
  obtain ⟨u, v, h1, h2, h3⟩ := h ρ I w us hs hv
  exact ⟨u, v, h1, h2, hk _ _ h3⟩

theorem updA_mono {t : TypeId} {m i x : AV} {k k' : Hp → Prop} (hk : ∀ H', k H' → k' H') (h : updA P H t m i x k) : updA P H t m i x k' := by
  unfold updA at *
  split at h <;> (first | exact h.elim | skip)
  split at h <;> (first | exact h.elim | skip)
  exact ⟨h.1, h.2.1, hk _ h.2.2⟩
theorem delA_mono {t : TypeId} {m i : AV} {k k' : Hp → Prop} (hk : ∀ H', k H' → k' H') (h : delA P H t m i k) : delA P H t m i k' := by
  unfold delA at *
  split at h <;> (first | exact h.elim | skip)
  · split at h <;> (first | exact h.elim | skip)
    exact ⟨h.1, h.2.1, hk _ h.2.2⟩
  · exact ⟨h.1, hk _ h.2⟩
theorem clearA_mono {m : AV} {k k' : Hp → Prop} (hk : ∀ H', k H' → k' H') (h : clearA H m k) : clearA H m k' := by
  unfold clearA at *
  split at h <;> (first | exact h.elim | skip)
  · split at h <;> (first | exact h.elim | skip)
    exact hk _ h
  · exact hk _ h
theorem rangeA_mono {t : TypeId} {x : AV} {k k' : AV → Hp → Prop} (hk : ∀ v H', k v H' → k' v H') (h : rangeA P H t x k) : rangeA P H t x k' := by
  unfold rangeA at *
  split at h <;> (first | exact h.elim | skip)
  · exact hk _ _ h
  · split at h <;> (first | exact h.elim | skip)
    exact hk _ _ h
  · exact hk _ _ h
theorem nextA_mono {x : AV} {b : Bool} {k k' : AV → Hp → Prop} (hk : ∀ v H', k v H' → k' v H') (h : nextA H x b k) : nextA H x b k' := by
  unfold nextA at *
  split at h <;> (first | exact h.elim | skip)
  split at h <;> (first | exact h.elim | skip)
  · exact ⟨fun hp => hk _ _ (h.1 hp), fun hp => hk _ _ (h.2 hp)⟩
  · exact hk _ _ h
  · split at h <;> (first | exact h.elim | skip)
    exact ⟨h.1, fun e he hn => hk _ _ (h.2.1 e he hn), fun he => hk _ _ (h.2.2 he)⟩

theorem opA_hide {o : Oper} {k : Fr → Hp → Prop} (hq : quietO P cf o = false) (ho : ∀ x ∈ o.op.operands.toList, ∀ t, x = .tmp t → t ∉ ds) (hd : ∀ t, o.dst = some t → t ∉ ds) (h : opA P N cf fr H o k) :
    opA P N cf (fr.hide ds) H o (hidK ds k) := by
  obtain ⟨dst, op, ty, pos, after, guard⟩ := o
  have es : ∀ x ∈ op.operands.toList, opS (fr.hide ds) x = opS fr x := fun x hx => opS_hide (ho x hx)
  have ev : ∀ x ∈ op.operands.toList, opV (fr.hide ds) x = opV fr x := fun x hx => opV_hide (ho x hx)
  have hd' : ∀ t, dst = some t → t ∉ ds := hd
  have pk : ∀ v H', putK N dst (.av v) fr (fun fr' => k fr' H') → putK N dst (.av v) (fr.hide ds) (fun f => hidK ds k f H') := fun v H' h => putK_hide hd' h
  clear ho hd
  cases op <;> (first | exact h.elim | (exfalso; simp [quietO] at hq; done) | skip)
  case assign x =>
    simp only [opA, effA, valS] at h ⊢
    rw [es x (by simp [Op.operands])]
    split at h
    · rename_i y hy; exact putK_hide hd' h
    · exact h.elim
  case alloc t =>
    simp only [opA, effA] at h ⊢
    split at h
    · exact newK_hide hd' h
    · exact h.elim
  case box t x =>
    simp only [opA, effA] at h ⊢
    rw [ev x (by simp [Op.operands])]
    split at h <;> (first | exact h.elim | skip)
    split at h <;> (first | exact h.elim | skip)
    rename_i h1
    rw [if_pos h1]
    exact newK_hide hd' h
  case store t ad x =>
    simp only [opA, effA] at h ⊢
    rw [es ad (by simp [Op.operands]), ev x (by simp [Op.operands])]
    split at h <;> (first | exact h.elim | skip)
    exact storeS_hide (fun f H' hf => putK_hide hd' hf) h
  case makeSlice t l c =>
    simp only [opA, effA] at h ⊢
    rw [ev l (by simp [Op.operands]), ev c (by simp [Op.operands])]
    split at h <;> (first | exact h.elim | skip)
    split at h <;> (first | exact h.elim | skip)
    split at h <;> (first | exact h.elim | skip)
    rename_i h1
    rw [if_pos h1]
    exact makeA_mono pk h
  case buildSlice t len ps =>
    have e : ∀ p ∈ ps.toList, opV (fr.hide ds) p.2 = opV fr p.2 := fun p hp => ev p.2 (by simp [Op.operands]; exact ⟨p.1, by simpa using hp⟩)
    simp only [opA, effA] at h ⊢
    rw [mapO_congr (g := fun (p : Nat × Operand) => opV fr p.2) ps.toList e]
    split at h <;> (first | exact h.elim | skip)
    split at h <;> (first | exact h.elim | skip)
    split at h <;> (first | exact h.elim | skip)
    rename_i h1
    rw [if_pos h1]
    unfold bindO at h ⊢
    split at h <;> (first | exact h.elim | skip)
    generalize cf.own.contains (dst.getD 0) = b at h ⊢
    cases b
    · exact putK_hide hd' h
    · exact putK_hide hd' h
  case makeMap t r =>
    cases r with
    | some r =>
      simp only [opA, effA] at h ⊢
      rw [ev r (by simp [Op.operands])]
      split at h <;> (first | exact h.elim | skip)
      exact putK_hide hd' h
    | none =>
      simp only [opA, effA] at h ⊢
      split at h <;> (first | exact h.elim | skip)
      exact putK_hide hd' h
  case mapUpdate t m i x =>
    simp only [opA, effA] at h ⊢
    rw [ev m (by simp [Op.operands]), ev i (by simp [Op.operands]), ev x (by simp [Op.operands])]
    split at h <;> (first | exact h.elim | skip)
    exact updA_mono (fun H' h => putK_hide hd' h) h
  case range t x =>
    simp only [opA, effA] at h ⊢
    rw [ev x (by simp [Op.operands])]
    split at h <;> (first | exact h.elim | skip)
    exact rangeA_mono pk h
  case next x b =>
    simp only [opA, effA] at h ⊢
    rw [ev x (by simp [Op.operands])]
    split at h <;> (first | exact h.elim | skip)
    exact nextA_mono pk h
  case entry x =>
    simp only [opA, effA] at h ⊢
    rw [ev x (by simp [Op.operands])]
    split at h <;> (first | exact h.elim | skip)
    split at h <;> (first | exact h.elim | skip)
    exact putK_hide hd' h
  case slice t x lo hi m =>
    cases m with
    | none => simp [quietO] at hq
    | some m => exact h.elim
  case convert s d x =>
    have e := ev x (by simp [Op.operands])
    simp only [opA, effA, valS] at h ⊢
    rw [e]
    split at h
    · split at h <;> (first | exact h.elim | skip)
      exact putK_hide hd' h
    · split at h <;> (first | exact h.elim | skip)
      split at h <;> (first | exact h.elim | skip)
      rename_i h1
      rw [if_pos h1]
      exact putK_hide hd' h
    · rename_i h1 h2
      split at h
      · rename_i y hy
        exact putK_hide hd' h
      · exact h.elim
  case call c =>
    obtain ⟨callee, ⟨args⟩, ⟨ts⟩⟩ := c
    have e : ∀ x ∈ args, opV (fr.hide ds) x = opV fr x := fun x hx => ev x (by
      cases callee <;> simp [Op.operands, Call.operands, hx])
    cases callee with
    | value f =>
      have ef := ev f (by simp [Op.operands, Call.operands])
      have h' : callA P fr H f args (fun v H' => putK N dst (.av v) fr (fun fr' => k fr' H')) := h
      show callA P (fr.hide ds) H f args (fun v H' => putK N dst (.av v) (fr.hide ds) (fun f => hidK ds k f H'))
      unfold callA at *
      rw [ef, mapO_congr (g := opV fr) args e]
      split at h' <;> (first | exact h'.elim | skip)
      split at h'
      · exact Sp.mono h' pk
      · exact Ex.mono pk h'
    | invoke r m => exact h.elim
    | builtin bi =>
      cases bi <;> (first | (exfalso; simp [quietO] at hq; done) | exact h.elim | skip)
      case append =>
        rcases args with _ | ⟨x, _ | ⟨y, _ | ⟨z, r⟩⟩⟩ <;> (first | exact h.elim | skip)
        rcases ts with _ | ⟨t, _ | ⟨tx, _ | ⟨t3, r⟩⟩⟩ <;> (first | exact h.elim | skip)
        simp only [opA, effA] at h ⊢
        rw [e x (by simp), e y (by simp)]
        split at h <;> (first | exact h.elim | skip)
        split at h <;> (first | exact h.elim | skip)
        split at h <;> (first | exact h.elim | skip)
        rename_i h1
        rw [if_pos h1]
        exact appA_mono pk h
      case delete =>
        rcases args with _ | ⟨x, _ | ⟨y, _ | ⟨z, r⟩⟩⟩ <;> (first | exact h.elim | skip)
        rcases ts with _ | ⟨t, _ | ⟨tx, _ | ⟨t3, r⟩⟩⟩ <;> (first | exact h.elim | skip)
        simp only [opA, effA] at h ⊢
        rw [e x (by simp), e y (by simp)]
        split at h <;> (first | exact h.elim | skip)
        exact delA_mono (fun H' h => putK_hide hd' h) h
      case clear =>
        rcases args with _ | ⟨x, _ | ⟨y, r⟩⟩ <;> (first | exact h.elim | skip)
        rcases ts with _ | ⟨t, _ | ⟨tx, r⟩⟩ <;> (first | exact h.elim | skip)
        simp only [opA, effA] at h ⊢
        rw [e x (by simp)]
        split at h <;> (first | exact h.elim | skip)
        exact clearA_mono (fun H' h => putK_hide hd' h) h
      case copy =>
        rcases args with _ | ⟨x, _ | ⟨y, _ | ⟨z, r⟩⟩⟩ <;> (first | exact h.elim | skip)
        rcases ts with _ | ⟨t, _ | ⟨tx, _ | ⟨t3, r⟩⟩⟩ <;> (first | exact h.elim | skip)
        simp only [opA, effA] at h ⊢
        rw [e x (by simp), e y (by simp)]
        split at h <;> (first | exact h.elim | skip)
        split at h <;> (first | exact h.elim | skip)
        split at h <;> (first | exact h.elim | skip)
        rename_i h1
        rw [if_pos h1]
        exact copyA_mono pk h

end
end Go.Mx
