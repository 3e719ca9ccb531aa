/-
  Chapter 21: Between, as the abstract machine is told of it.
-/
import Derived.Test.YtaiajeomlfmegaaVb
import Derived.Test.YtaiajeomlfmegaaA
namespace Go.Proofs.Ytaiajeomlfmegaa
open Go.RowKit Go.Mx

theorem exists_rows {α : Type} (P : Nat → α → Prop) : ∀ n : Nat, (∀ j, j < n → ∃ x, P j x) → ∃ l : List α, l.length = n ∧ ∀ (j : Nat) (h : j < l.length), P j l[j]
  | 0, _ => ⟨[], rfl, fun j h => by simp at h⟩
  | n + 1, h => by
    obtain ⟨l, h1, h2⟩ := exists_rows P n (fun j hj => h j (by omega))
    obtain ⟨x, hx⟩ := h n (by omega)
    refine ⟨l ++ [x], by simp [h1], fun j hj => ?_⟩
    by_cases k : j < l.length
    · rw [List.getElem_append_left k]; exact h2 j k
    · have e : j = l.length := by simp at hj; omega
      subst e
      rw [List.getElem_append_right (by omega)]
      simp [h1, hx]

/-- How many go from x to y. -/
def cntB (x y : Int) (l : List Pk) : Nat := l.countP (fun p => decide (p.f = x ∧ p.t = y))
theorem btw_cnt (x y : Int) : ∀ (l : List Pk) (m : List Rp), m.length = l.length → (∀ (j : Nat) (h : j < l.length) (h' : j < m.length), m[j].f = l[j].f ∧ m[j].t = l[j].t) → (btw x y m).length = cntB x y l
  | [], [], _, _ => rfl
  | p :: l, [], h, _ => by simp at h
  | [], r :: m, h, _ => by simp at h
  | p :: l, r :: m, h, k => by
    have ih := btw_cnt x y l m (by simpa using h) (fun j h1 h2 => k (j + 1) (by simp; omega) (by simp; omega))
    have k0 := k 0 (by simp) (by simp)
    simp at k0
    unfold btw cntB at *
    by_cases c : p.f = x ∧ p.t = y
    · rw [List.filter_cons_of_pos (by simp [k0, c]), List.countP_cons_of_pos (by simp [c])]
      rw [List.length_cons, ih]
    · rw [List.filter_cons_of_neg (by simpa [k0] using c), List.countP_cons_of_neg (by simpa using c)]
      exact ih

theorem net_w {ρ : Rho} {I : Imm} {H : Hp} {w : World} (hs : StH ρ I H w) {a : Nat} {room : Int} {l : List Pk} {fp : List Nat} (hn : NetAt H a room l fp) {lo : Go.Mx.Loc} (hlo : ρ a 0 = some lo) :
    ∃ m : List Rp, m.length = l.length ∧ (∀ (j : Nat) (h : j < l.length) (h' : j < m.length), m[j].f = l[j].f ∧ m[j].t = l[j].t) ∧ NetW w.heap.size w lo.blk (lo.base + 0) m := by
  obtain ⟨_, ⟨rfl, h2, _⟩ | ⟨id, ver, cs, h1, h2, h3, h4, h5, _⟩⟩ := hn
  · obtain ⟨_, l', e, hc⟩ := hs.obj _ _ h2
    rw [hlo] at e; simp at e; subst e
    obtain ⟨arr, T, k1, k2, k3, k4⟩ := hc
    obtain ⟨u, hu, hv, _⟩ := k4 0 _ rfl
    have hvu := hv.v_is; subst hvu
    refine ⟨[], rfl, fun j h => by simp at h, (Array.getElem?_eq_some_iff.1 k1).1, .inl ⟨by simpa [World.cell?, k1] using hu, rfl⟩⟩
  · obtain ⟨_, l', e, hc⟩ := hs.obj _ _ h1
    rw [hlo] at e; simp at e; subst e
    obtain ⟨arr, T, k1, k2, k3, k4⟩ := hc
    obtain ⟨u, hu, hv, _⟩ := k4 0 _ rfl
    obtain ⟨_, l2, e2, hc2⟩ := hs.obj _ _ h3
    cases hv with
    | sl _ _ _ _ _ l3 cap q1 q2 q3 =>
      rw [e2] at q1; simp at q1; subst q1
      obtain ⟨arr2, T2, g1, g2, g3, g4⟩ := hc2
      have hget : ∀ (j : Nat) (h : j < l.length) (i : Nat), i < 3 → cs[j * 3 + i]? = (pkC l[j])[i]? := fun j h i hi => by
        have := cells_at h5 h
        rw [← this, List.getElem?_take, if_pos hi, List.getElem?_drop]
      obtain ⟨m, hm1, hm2⟩ := exists_rows (fun j (r : Rp) => ∀ h : j < l.length, r.f = l[j].f ∧ r.t = l[j].t ∧
          w.cell? ⟨l2.blk, l2.base + 0 + j * 3, none⟩ = some (.int .i64 r.f) ∧ w.cell? ⟨l2.blk, l2.base + 0 + j * 3 + 1, none⟩ = some (.int .i64 r.t) ∧ w.cell? ⟨l2.blk, l2.base + 0 + j * 3 + 2, none⟩ = some (.slice r.da r.dn r.dc)) l.length (fun j h => by
        obtain ⟨u0, hu0, hv0, _⟩ := g4 (j * 3 + 0) _ ((hget j h 0 (by omega)).trans rfl)
        obtain ⟨u1, hu1, hv1, _⟩ := g4 (j * 3 + 1) _ ((hget j h 1 (by omega)).trans rfl)
        obtain ⟨u2, hu2, hv2, _⟩ := g4 (j * 3 + 2) _ ((hget j h 2 (by omega)).trans rfl)
        have := hv0.v_is; subst this
        have := hv1.v_is; subst this
        cases hv2 with
        | row _ _ _ us' ad cap2 _ _ _ _ _ _ =>
          refine ⟨⟨l[j].f, l[j].t, ad, l[j].d.length, cap2⟩, fun _ => ⟨rfl, rfl, ?_, ?_, ?_⟩⟩
          · simpa [World.cell?, g1, Nat.add_assoc] using hu0
          · simpa [World.cell?, g1, Nat.add_assoc] using hu1
          · simpa [World.cell?, g1, Nat.add_assoc] using hu2)
      refine ⟨m, hm1, fun j h h' => ⟨(hm2 j h' h).1, (hm2 j h' h).2.1⟩, (Array.getElem?_eq_some_iff.1 k1).1, .inr ⟨l2.blk, l2.base + 0, cap, ?_, (Array.getElem?_eq_some_iff.1 g1).1, fun j h => (hm2 j h (by omega)).2.2⟩⟩
      rw [hm1]
      simpa [World.cell?, k1] using hu

theorem between_sp (a : Nat) (room x y : Int) (l : List Pk) (fp : List Nat) (H : Hp) (Q : AV → Hp → Prop) (hn : NetAt H a room l fp) (h : Q (.v (.int .i64 (cntB x y l))) H) :
    Sp Try.prog 23 [.ptr a 0 0, .v (.int .i64 x), .v (.int .i64 y)] Q H := by
  intro ρ I w us hs hv
  have hl := hv.1
  match us, hl, hv with
  | [u0, u1, u2], _, hv =>
    have h0 : VR ρ I (.ptr a 0 0) u0 := by simpa using hv.2 0 _ rfl
    have h1 : VR ρ I (.v (.int .i64 x)) u1 := by simpa using hv.2 1 _ rfl
    have h2 : VR ρ I (.v (.int .i64 y)) u2 := by simpa using hv.2 2 _ rfl
    have := h1.v_is; subst this
    have := h2.v_is; subst this
    cases h0 with
    | ptr _ _ _ lo hlo =>
      obtain ⟨m, hm1, hm2, hw⟩ := net_w hs hn hlo
      have hr := hn.1
      refine (calls_of_every_depth (L := [23, 29, 30, 11]) (n := 3) (fun D => between_in (Fence.list [23, 29, 30, 11] (some D)) 3 (show 23 ∈ _ by decide) (show 29 ∈ _ by decide) (show 30 ∈ _ by decide) (show 11 ∈ _ by decide) rfl (Nat.le_refl _) _ x y m (by omega) w (.inr ⟨lo.blk, lo.base + 0, rfl, hw⟩))).mono ?_
      rintro e w' ⟨rfl, hb⟩
      rw [btw_cnt x y l m hm1 hm2]
      exact ⟨_, _, ρ, I, H, rfl, Mv.junk hs ⟨hb.os, hb.tape, hb.output, hb.size, fun b hlt _ => hb.block b hlt⟩, .v _, h⟩
theorem between_nil (x y : Int) (H : Hp) (Q : AV → Hp → Prop) (h : Q (.v (.int .i64 0)) H) :
    Sp Try.prog 23 [.v (.pointer none), .v (.int .i64 x), .v (.int .i64 y)] Q H := by
  intro ρ I w us hs hv
  have hl := hv.1
  match us, hl, hv with
  | [u0, u1, u2], _, hv =>
    have h0 : VR ρ I (.v (.pointer none)) u0 := by simpa using hv.2 0 _ rfl
    have h1 : VR ρ I (.v (.int .i64 x)) u1 := by simpa using hv.2 1 _ rfl
    have h2 : VR ρ I (.v (.int .i64 y)) u2 := by simpa using hv.2 2 _ rfl
    have := h0.v_is; subst this
    have := h1.v_is; subst this
    have := h2.v_is; subst this
    refine (calls_of_every_depth (L := [23, 29, 30, 11]) (n := 3) (fun D => between_in (Fence.list [23, 29, 30, 11] (some D)) 3 (show 23 ∈ _ by decide) (show 29 ∈ _ by decide) (show 30 ∈ _ by decide) (show 11 ∈ _ by decide) rfl (Nat.le_refl _) _ x y [] (by simp) w (.inl ⟨rfl, rfl⟩))).mono ?_
    rintro e w' ⟨rfl, hb⟩
    exact ⟨_, _, ρ, I, H, rfl, Mv.junk hs ⟨hb.os, hb.tape, hb.output, hb.size, fun b hlt _ => hb.block b hlt⟩, .v _, h⟩
/-- A net of no room. -/
theorem between_zero (a : Nat) (x y : Int) (H : Hp) (Q : AV → Hp → Prop) (hn : H[a]? = some (.cells 0 [.v (.slice none 0 0), .v (.int .i64 0)])) (h : Q (.v (.int .i64 0)) H) :
    Sp Try.prog 23 [.ptr a 0 0, .v (.int .i64 x), .v (.int .i64 y)] Q H := by
  intro ρ I w us hs hv
  have hl := hv.1
  match us, hl, hv with
  | [u0, u1, u2], _, hv =>
    have h0 : VR ρ I (.ptr a 0 0) u0 := by simpa using hv.2 0 _ rfl
    have h1 : VR ρ I (.v (.int .i64 x)) u1 := by simpa using hv.2 1 _ rfl
    have h2 : VR ρ I (.v (.int .i64 y)) u2 := by simpa using hv.2 2 _ rfl
    have := h1.v_is; subst this
    have := h2.v_is; subst this
    cases h0 with
    | ptr _ _ _ lo hlo =>
      obtain ⟨_, l', e, hc⟩ := hs.obj _ _ hn
      rw [hlo] at e; simp at e; subst e
      obtain ⟨arr, T, k1, k2, k3, k4⟩ := hc
      obtain ⟨u, hu, hv, _⟩ := k4 0 _ rfl
      have hvu := hv.v_is; subst hvu
      have hw : NetW w.heap.size w lo.blk (lo.base + 0) [] := ⟨(Array.getElem?_eq_some_iff.1 k1).1, .inl ⟨by simpa [World.cell?, k1] using hu, rfl⟩⟩
      refine (calls_of_every_depth (L := [23, 29, 30, 11]) (n := 3) (fun D => between_in (Fence.list [23, 29, 30, 11] (some D)) 3 (show 23 ∈ _ by decide) (show 29 ∈ _ by decide) (show 30 ∈ _ by decide) (show 11 ∈ _ by decide) rfl (Nat.le_refl _) _ x y [] (by simp) w (.inr ⟨_, _, rfl, hw⟩))).mono ?_
      rintro e w' ⟨rfl, hb⟩
      exact ⟨_, _, ρ, I, H, rfl, Mv.junk hs ⟨hb.os, hb.tape, hb.output, hb.size, fun b hlt _ => hb.block b hlt⟩, .v _, h⟩
end Go.Proofs.Ytaiajeomlfmegaa
