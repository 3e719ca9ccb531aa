/-
  The abstract machine: slices of structures that a call lays new.
-/
import Derived.Test.YtoakdmkjlpjahaaDoorMxSf
namespace Go.Mx
open Go.RowKit
set_option linter.unusedVariables false

/-- A slice of so many elements of k cells: nil if there are none, or an object of its own, laid since. -/
def NewK (k : Nat) (H H' : Hp) (n : Nat) (cs : List AV) (v : AV) : Prop := (n = 0 ∧ cs = [] ∧ v = .v (.slice none 0 0)) ∨ (0 < n ∧ cs.length = n * k ∧ ∃ id ver tl, v = .sl id ver k 0 n ∧ H'[id]? = some (.cells ver (cs ++ tl)) ∧ H.length ≤ id)
section
variable {P : Program} {H0 H H' : Hp} {k n : Nat} {cs c : List AV} {v : AV}
theorem NewK.nil (k : Nat) (H H' : Hp) : NewK k H H' 0 [] (.v (.slice none 0 0)) := .inl ⟨rfl, rfl, rfl⟩
theorem NewK.len (h : NewK k H H' n cs v) : cs.length = n * k := by
  rcases h with ⟨rfl, rfl, _⟩ | ⟨_, h, _⟩
  · simp
  · exact h
theorem NewK.later (h : NewK k H H' n cs v) (hs : H0.length ≤ H.length) : NewK k H0 H' n cs v := by
  rcases h with h | ⟨h0, h1, id, ver, tl, h2, h3, h4⟩
  · exact .inl h
  · exact .inr ⟨h0, h1, id, ver, tl, h2, h3, Nat.le_trans hs h4⟩
theorem NewK.same {fp : List Nat} (h : NewK k H0 H n cs v) (hs : Same fp H H') (hf : ∀ id ver, v = .sl id ver k 0 n → id ∉ fp) : NewK k H0 H' n cs v := by
  rcases h with h | ⟨h0, h1, id, ver, tl, h2, h3, h4⟩
  · exact .inl h
  · exact .inr ⟨h0, h1, id, ver, tl, h2, hs.2 _ _ h3 (hf id ver h2), h4⟩
theorem NewK.lenT (h : NewK k H0 H n cs v) (H' : Hp) (e : TypeId) : lenT H' (some (.slice e)) (some v) = some (.av (.v (.int .i64 n))) := by
  rcases h with ⟨rfl, rfl, rfl⟩ | ⟨_, _, id, ver, tl, rfl, _⟩
  · rfl
  · exact lenT_sl _ _ _ _ _ _
/-- One is appended. -/
theorem NewK.app {x : Bool} {bytes : Nat} {K : AV → Hp → Prop} (h : NewK k H0 H n cs v) (hc : c.length = k) (hle : H0.length ≤ H.length) (hb : (n + 1) * bytes ≤ 140737488355328 ∧ n + 1 ≤ 4611686018427387904)
    (hq : ∀ v' H' fp, NewK k H0 H' (n + 1) (cs ++ c) v' → Same fp H H' → (∀ j ∈ fp, H0.length ≤ j ∧ ∃ ver ds, H[j]? = some (.cells ver ds)) → K v' H') : appA H k bytes v (.row x 1 c) K := by
  rcases h with ⟨rfl, rfl, rfl⟩ | ⟨h0, h1, id, ver, tl, rfl, h3, h4⟩
  · have h1 := hq (.sl H.length 0 k 0 1) (H ++ [.cells 0 c]) [] (.inr ⟨by simp, by simp [hc], H.length, 0, [], by simp, by simp, hle⟩) (Same.app _ _ _) (by simp)
    simp at hb
    simp [appA, srcA, hb, hc]
    exact h1
  · have h5 := hq (.sl id (ver + 1) k 0 (n + 1)) (H.set id (.cells (ver + 1) (cs ++ c))) [id] (.inr ⟨by omega, by rw [List.length_append, h1, hc, Nat.succ_mul], id, ver + 1, [], by simp, by rw [List.getElem?_set_self (Hp.lt h3)]; simp, h4⟩) (Same.set (by simp)) (by
      intro j hj; simp at hj; subst hj; exact ⟨h4, _, _, h3⟩)
    simp [appA, srcA, h3, hc]
    refine ⟨⟨by omega, hb.1, by omega⟩, ?_⟩
    have e : (cs ++ tl).take (n * k) = cs := by rw [← h1]; simp
    rw [e]; exact h5
/-- Some are appended. -/
theorem NewK.appM {x : Bool} {bytes m : Nat} {K : AV → Hp → Prop} (h : NewK k H0 H n cs v) (hm : 0 < m) (hc : c.length = m * k) (hle : H0.length ≤ H.length) (hb : (n + m) * bytes ≤ 140737488355328 ∧ n + m ≤ 4611686018427387904)
    (hq : ∀ v' H' fp, NewK k H0 H' (n + m) (cs ++ c) v' → Same fp H H' → (∀ j ∈ fp, H0.length ≤ j ∧ ∃ ver ds, H[j]? = some (.cells ver ds)) → K v' H') : appA H k bytes v (.row x m c) K := by
  have hm0 : m ≠ 0 := by omega
  rcases h with ⟨rfl, rfl, rfl⟩ | ⟨h0, h1, id, ver, tl, rfl, h3, h4⟩
  · have h1 := hq (.sl H.length 0 k 0 m) (H ++ [.cells 0 c]) [] (.inr ⟨by omega, by simp [hc], H.length, 0, [], by simp, by simp, hle⟩) (Same.app _ _ _) (by simp)
    simp at hb
    simp [appA, srcA, hb, hc, hm0]
    exact h1
  · have h5 := hq (.sl id (ver + 1) k 0 (n + m)) (H.set id (.cells (ver + 1) (cs ++ c))) [id] (.inr ⟨by omega, by rw [List.length_append, h1, hc, Nat.add_mul], id, ver + 1, [], by simp, by rw [List.getElem?_set_self (Hp.lt h3)]; simp, h4⟩) (Same.set (by simp)) (by
      intro j hj; simp at hj; subst hj; exact ⟨h4, _, _, h3⟩)
    simp [appA, srcA, h3, hc]
    refine ⟨⟨by omega, hb.1, by omega⟩, ?_⟩
    have e : (cs ++ tl).take (n * k) = cs := by rw [← h1]; simp
    rw [e]; exact h5
/-- It stands by value. -/
theorem Sp.newK {f : Nat} {args : List AV} {Q : AV → Hp → Prop} (h : Sp P f args (fun v H' => Same [] H H' ∧ ∃ k n cs, NewK k H H' n cs v ∧ (∀ c ∈ cs, Low 0 c) ∧ Q (.row false n cs) H) H) : Sp P f args Q H := by
  intro ρ I w us hs hv
  refine (h ρ I w us hs hv).mono ?_
  rintro e w' ⟨v, u, ρ', I', H', rfl, hm, hvr, hsame, k, n, cs, hn, hlow, hq⟩
  obtain ⟨G, rfl⟩ := hsame.grown
  have hL : Low 0 (.row false n cs) := by rw [low_row]; exact hlow
  rcases hn with ⟨rfl, rfl, rfl⟩ | ⟨h0, h1, id, ver, tl, rfl, hid, hlt⟩
  · exact ⟨_, u, _, I', H, rfl, hm.drop hs (Nat.le_refl _) hs.low, VR.cut (Wk.nil false _ _ _ hvr) (hL.mono (Nat.zero_le _)), hq⟩
  · obtain ⟨I'', hm', hk⟩ := frz_sound hm.st hid
    have hset : (H ++ G).set id .dead = H ++ G.set (id - H.length) .dead := by rw [List.set_append_right _ _ hlt]
    rw [hset] at hm'
    have hv' := hk _ _ hvr
    have e : Go.Mx.frz id ver (cs ++ tl) (.sl id ver k 0 n) = .row false n cs := by
      simp only [Go.Mx.frz, Go.Mx.frz2, Go.Mx.frz1]
      rw [if_pos ⟨trivial, trivial, by simp; omega⟩]
      rw [List.drop_zero, ← h1]; simp
    rw [e] at hv'
    exact ⟨_, u, _, I'', H, rfl, (hm.trans hm').drop hs (Nat.le_refl _) hs.low, VR.cut hv' (hL.mono (Nat.zero_le _)), hq⟩
end
end Go.Mx
