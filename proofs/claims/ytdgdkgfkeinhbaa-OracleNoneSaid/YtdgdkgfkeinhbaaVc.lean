/-
  Chapter 3: AppendSeq over Values, as the abstract machine is told of it.
-/
import Derived.Test.YtdgdkgfkeinhbaaVb
import Derived.Test.YtdgdkgfkeinhbaaMxSg
namespace Go.Proofs.Ytdgdkgfkeinhbaa
open Go.RowKit Go.Mx

/-- A slice of texts that stands by value. -/
def RowS (sv : AV) (l : List ByteArray) : Prop := (∃ x, sv = .row x l.length (l.map strV)) ∨ (sv = .v (.slice none 0 0) ∧ l = [])

theorem strs_of {ρ : Rho} {I : Imm} {H : Hp} {w : World} (hs : StH ρ I H w) {sv : AV} {l : List ByteArray} (h : RowS sv l) {u : Value} (hu : VR ρ I sv u) : Strs w.heap.size w u l := by
  rcases h with ⟨x, rfl⟩ | ⟨rfl, rfl⟩
  · cases hu with
    | row _ _ _ us a cap h1 h2 h3 h4 h5 h6 =>
      rcases h3 with ⟨h3, h7⟩ | ⟨ad, rfl, hsp, hone, arr, hi, hr⟩
      · have : l = [] := List.eq_nil_of_length_eq_zero h3
        subst this
        exact .inl ⟨a, cap, by simp, rfl⟩
      · obtain ⟨T, fz, hb⟩ := hs.imm _ _ hi
        refine .inr ⟨ad.block, ad.off, cap, ?_, (Array.getElem?_eq_some_iff.1 hb).1, fun j hj => ?_⟩
        · cases ad; simp at hsp; subst hsp; rfl
        · have hj2 : j < us.length := by rw [h1]; simpa using hj
          have e := hr j hj2
          have e2 : VR ρ I (strV l[j]) (us.getD j undef) := h2 j _ (by simp [hj])
          have e3 := e2.v_is
          rw [e3] at e
          simp [World.cell?, hb, e, List.getElem?_eq_getElem hj]
  · rw [hu.v_is]
    exact .inl ⟨none, 0, rfl, rfl⟩

theorem appendSeq_sp {H : Hp} {id : Nat} {sv : AV} {l : List ByteArray} (Q : AV → Hp → Prop) (hid : H[id]? = some (.cells 0 [sv])) (hsv : RowS sv l) (hl : l.length * 16 ≤ 140737488351232)
    (h : ∀ v H', NewR H H' (l.map strV) v → Same [] H H' → Q v H') : Sp Try.prog 38 [.v (.slice none 0 0), .fn (.func 34) [] [.ptr id 0 0]] Q H := by
  intro ρ I w us hs hv
  have hln := hv.1
  match us, hln, hv with
  | [u0, u1], _, hv =>
    have h0 : VR ρ I (.v (.slice none 0 0)) u0 := by simpa using hv.2 0 _ rfl
    have h1 : VR ρ I (.fn (.func 34) [] [.ptr id 0 0]) u1 := by simpa using hv.2 1 _ rfl
    have := h0.v_is; subst this
    cases h1 with
    | fn _ _ _ us vs k1 k2 k3 k4 =>
      have : us = [] := List.eq_nil_of_length_eq_zero k1
      subst this
      have k5 : VR ρ I (.ptr id 0 0) (vs.getD 0 undef) := k4 0 _ rfl
      match vs, k3, k5 with
      | [v0], _, k5 =>
        simp at k5
        cases k5 with
        | ptr _ _ _ lo hlo =>
          obtain ⟨_, l', e, hc⟩ := hs.obj _ _ hid
          rw [hlo] at e; simp at e; subst e
          obtain ⟨arr, T, g1, g2, g3, g4⟩ := hc
          obtain ⟨u, hu, hvr, _⟩ := g4 0 _ rfl
          have hb : lo.blk < w.heap.size := (Array.getElem?_eq_some_iff.1 g1).1
          have hcu : w.cell? ⟨lo.blk, lo.base + 0, none⟩ = some u := by simpa [World.cell?, g1] using hu
          refine (calls_of_every_depth (L := [38, 34]) (n := 3) (fun D => appendSeq_in (Fence.list [38, 34] (some D)) 3 (show 38 ∈ _ by decide) (show 34 ∈ _ by decide) rfl (Nat.le_refl _) lo.blk (lo.base + 0) u l hl w hb hcu (strs_of hs hsv hvr))).mono ?_
          rintro e w' ⟨v, rfl, hown, hnl, hbel⟩
          have hg : Gw none w w' := ⟨hbel.os, hbel.tape, hbel.output, hbel.size, fun b hlt _ => hbel.block b hlt⟩
          obtain ⟨hxl, ⟨rfl, h0⟩ | ⟨g, cap, cur, rfl, hge, hgb, hcap, _, hcs, htk⟩⟩ := hown
          · have : l = [] := List.eq_nil_of_length_eq_zero h0
            subst this
            exact ⟨_, _, ρ, I, H, rfl, Mv.junk hs hg, .v _, h _ _ (.inl ⟨rfl, rfl⟩) (Same.refl _ _)⟩
          · by_cases hnil : l = []
            · exact absurd (hnl hnil) (by simp)
            have hle : l.length ≤ cur.size := by omega
            have hob : ObR (ρ.set H.length 0 ⟨g, 0, cur.size⟩) I w' H.length (.cells 0 (l.map strV)) := ⟨fun v' hv' => by
                unfold Rho.set
                rw [if_neg (by omega)]
                exact hs.rho_none (Nat.le_refl _) v', ⟨g, 0, cur.size⟩, by simp [Rho.set], cur, 9, hgb, rfl, by simpa using hle, fun i c hc => by
                rw [List.getElem?_map] at hc
                cases hi : l[i]? with
                | none => rw [hi] at hc; simp at hc
                | some s =>
                  rw [hi] at hc; simp at hc; subst hc
                  have hlt := (List.getElem?_eq_some_iff.1 hi).1
                  refine ⟨.string s, ?_, .v _, rfl⟩
                  have e := congrArg (fun x => x[i]?) htk
                  simp only [Nat.mul_one] at e
                  rw [List.getElem?_take, if_pos hlt, List.getElem?_map, hi, Array.getElem?_toList] at e
                  simpa using e⟩
            have hm := Mv.newObj hs hg (l := ⟨g, 0, cur.size⟩) (ob := .cells 0 (l.map strV)) hge hob (by simp [blkOf, Rho.set])
            refine ⟨.sl H.length 0 1 0 l.length, _, _, I, _, rfl, hm, ?_, h _ _ (.inr ⟨by simpa using hnil, H.length, 0, [], by simp, by simp, Nat.le_refl _⟩) (Same.app _ _ _)⟩
            exact .sl H.length 0 1 0 l.length ⟨g, 0, cur.size⟩ cap (by simp [Rho.set]) hcap (by simp; omega)
end Go.Proofs.Ytdgdkgfkeinhbaa
