/-
  What is handed back: new objects inside it are written no more.
-/
import Derived.Test.YtoakdmkjlpjahaaDoorMxSi
namespace Go.Mx
open Go.RowKit
variable {P : Program} {H0 H H' : Hp} {k n : Nat} {cs c : List AV} {v : AV}

/-- Objects laid since H, inside a value, stand by value in the end. -/
inductive Frz (H : Hp) : AV → Hp → AV → Prop where
  | done (v : AV) (H' : Hp) : Frz H v H' v
  | wk {v v1 v2 : AV} {H' : Hp} : Wk v v1 → Frz H v1 H' v2 → Frz H v H' v2
  | step {v v2 : AV} {H' : Hp} (id ver : Nat) (cs : List AV) : H'[id]? = some (.cells ver cs) → H.length ≤ id → Frz H (Go.Mx.frz id ver cs v) (H'.set id .dead) v2 → Frz H v H' v2
theorem Frz.run {v v' : AV} (h : Frz H v H' v') : ∀ {ρ : Rho} {I : Imm} {w : World} {u : Value}, StH ρ I H' w → Same [] H H' → VR ρ I v u → ∃ I' H'', Mv ρ I H' w ρ I' H'' w ∧ Same [] H H'' ∧ VR ρ I' v' u := by
  induction h with
  | done v H' => intro ρ I w u hs hm hv; exact ⟨I, H', Mv.refl hs, hm, hv⟩
  | wk hw _ ih => intro ρ I w u hs hm hv; exact ih hs hm (hw _ _ _ hv)
  | step id ver cs hid hlt _ ih =>
    intro ρ I w u hs hm hv
    obtain ⟨I1, hm1, hk⟩ := frz_sound hs hid
    obtain ⟨I2, H2, hm2, hs2, hv2⟩ := ih hm1.st (hm.new (Same.set (fp := [id]) (by simp)) (by simpa using hlt)) (hk _ _ hv)
    exact ⟨I2, H2, hm1.trans hm2, hs2, hv2⟩
/-- What is handed back is told by value. -/
theorem Sp.frzs {f : Nat} {args : List AV} {Q : AV → Hp → Prop} (h : Sp P f args (fun v H' => Same [] H H' ∧ ∃ v', Frz H v H' v' ∧ Low 0 v' ∧ Q v' H) H) : Sp P f args Q H := by
  intro ρ I w us hs hv
  refine (h ρ I w us hs hv).mono ?_
  rintro e w' ⟨v, u, ρ', I', H', rfl, hm, hvr, hsame, v', hf, hlow, hq⟩
  obtain ⟨I2, H2, hm2, hs2, hv2⟩ := hf.run hm.st hsame hvr
  obtain ⟨G, rfl⟩ := hs2.grown
  exact ⟨_, u, _, I2, H, rfl, (hm.trans hm2).drop hs (Nat.le_refl _) hs.low, VR.cut hv2 (hlow.mono (Nat.zero_le _)), hq⟩
theorem NewK.frz (h : NewK k H H' n cs v) : Frz H v H' (.row false n cs) := by
  rcases h with ⟨rfl, rfl, rfl⟩ | ⟨h0, h1, id, ver, tl, rfl, hid, hlt⟩
  · exact .wk (Wk.nil false) (.done _ _)
  · refine .step id ver _ hid hlt ?_
    have e : Go.Mx.frz id ver (cs ++ tl) (.sl id ver k 0 n) = .row false n cs := by
      simp only [Go.Mx.frz, Go.Mx.frz2, Go.Mx.frz1]
      rw [if_pos ⟨trivial, trivial, by simp; omega⟩]
      rw [List.drop_zero, ← h1]; simp
    rw [e]; exact .done _ _
/-- Two new slices, apart, in a structure. -/
theorem NewK.frzAgg {k2 n2 : Nat} {cs2 : List AV} {v2 : AV} (h : NewK k H H' n cs v) (h2 : NewK k2 H H' n2 cs2 v2) (hne : ∀ id ver a b c id2 ver2 a2 b2 c2, v = .sl id ver a b c → v2 = .sl id2 ver2 a2 b2 c2 → id ≠ id2) : Frz H (.agg [v, v2]) H' (.agg [.row false n cs, .row false n2 cs2]) := by
  have second : ∀ H1, NewK k2 H H1 n2 cs2 v2 → Frz H (.agg [.row false n cs, v2]) H1 (.agg [.row false n cs, .row false n2 cs2]) := fun H1 hh => by
    rcases hh with ⟨rfl, rfl, rfl⟩ | ⟨h0, h1, id, ver, tl, rfl, hid, hlt⟩
    · exact .wk (v1 := .agg [.row false n cs, .row false 0 []]) (Wk.agg ⟨Wk.refl _, Wk.nil false, trivial⟩) (.done _ _)
    · refine .step id ver _ hid hlt ?_
      have e : Go.Mx.frz id ver (cs2 ++ tl) (.agg [.row false n cs, .sl id ver k2 0 n2]) = .agg [.row false n cs, .row false n2 cs2] := by
        simp only [Go.Mx.frz, Go.Mx.frz2, Go.Mx.frz1, List.map]
        rw [if_pos ⟨trivial, trivial, by simp; omega⟩]
        rw [List.drop_zero, ← h1]; simp
      rw [e]; exact .done _ _
  rcases id h with ⟨rfl, rfl, rfl⟩ | ⟨h0, h1, id, ver, tl, rfl, hid, hlt⟩
  · exact .wk (v1 := .agg [.row false 0 [], v2]) (Wk.agg ⟨Wk.nil false, Wk.refl _, trivial⟩) (second H' h2)
  · refine .step id ver _ hid hlt ?_
    have e : Go.Mx.frz id ver (cs ++ tl) (.agg [.sl id ver k 0 n, v2]) = .agg [.row false n cs, v2] := by
      have e1 : Go.Mx.frz1 id ver (cs ++ tl) (.sl id ver k 0 n) = .row false n cs := by
        simp only [Go.Mx.frz1]
        rw [if_pos ⟨trivial, trivial, by simp; omega⟩]
        rw [List.drop_zero, ← h1]; simp
      have e2 : Go.Mx.frz1 id ver (cs ++ tl) v2 = v2 := by
        rcases h2 with ⟨_, _, rfl⟩ | ⟨_, _, id2, ver2, tl2, rfl, _, _⟩
        · rfl
        · simp only [Go.Mx.frz1]
          rw [if_neg (fun hh => hne _ _ _ _ _ _ _ _ _ _ rfl rfl hh.1.symm)]
      simp only [Go.Mx.frz, Go.Mx.frz2, List.map, e1, e2]
    rw [e]
    refine second _ (h2.same (Same.set (fp := [id]) (by simp)) (fun id2 ver2 e3 => ?_))
    simp only [List.mem_singleton]
    exact fun e4 => hne _ _ _ _ _ _ _ _ _ _ rfl e3 e4.symm
/-- What is handed back is a new slice, or leads to nothing. -/
theorem Sp.newKo {f : Nat} {args : List AV} {Q : AV → Hp → Prop} (h : Sp P f args (fun v H' => Same [] H H' ∧ ((Low 0 v ∧ Q v H) ∨ ∃ k n cs, NewK k H H' n cs v ∧ (∀ c ∈ cs, Low 0 c) ∧ Q (.row false n cs) H)) H) : Sp P f args Q H := by
  refine Sp.frzs (h.mono ?_)
  rintro v H' ⟨hs, ⟨hl, hq⟩ | ⟨k, n, cs, hn, hl, hq⟩⟩
  · exact ⟨hs, v, .done _ _, hl, hq⟩
  · exact ⟨hs, _, hn.frz, by rw [low_row]; exact hl, hq⟩
end Go.Mx
