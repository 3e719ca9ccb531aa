/-
  Chapter 21: how many packets go from one to another one: Between, walked.
-/
import Derived.Test.YtaiajeomlfmegaaVa
import Derived.RangeFuncBound
import Derived.RangeFuncNested
namespace Go.Proofs.Ytaiajeomlfmegaa
open Go.RowKit Go.Shelf
attribute [local go_sem] Oper.semAt_some

theorem from1_stops (F : Fence) (n : Nat) (h30 : F.fn 30) (h11 : F.fn 11) (hro : F.round = none) (hn : 1 ≤ n) (B1 B2 B3 n₀ : Nat) (p : Option Addr) (x y : Int) (ps : List Rp) (hreach : ps.length ≤ 1048576) (w : World)
    (hb1 : B1 < w.heap.size) (hb2 : B2 < w.heap.size) (hb3 : B3 < w.heap.size) (hn₀ : n₀ ≤ w.heap.size) (h1 : w.cell? ⟨B1, 0, none⟩ = some (.pointer p)) (h2 : w.cell? ⟨B2, 0, none⟩ = some (.int .i64 x)) (h3 : w.cell? ⟨B3, 0, none⟩ = some (.int .i64 y)) (hN : PtrW n₀ w p ps) :
    SeqStopsK F n Try.prog 30 #[.pointer (some ⟨B1, 0, none⟩), .pointer (some ⟨B2, 0, none⟩), .pointer (some ⟨B3, 0, none⟩)] (fun r : Rp => #[.agg #[.int .i64 r.f, .int .i64 r.t, .slice r.da r.dn r.dc]]) (Kp3 n₀ B1 B2 B3) (fun ys => ys = btw x y ps) (fun _ => True) (btw x y ps).length w := fun l J Jx W hW hJ _ hY h0 => by
  have hs := hW.size
  exact from1_in F n h30 h11 hro hn l B1 B2 B3 n₀ p x y ps hreach J Jx _ hJ hY W (by omega) (by omega) (by omega) (by omega) ((hW.cell (p := ⟨B1, 0, none⟩) hb1).trans h1) ((hW.cell (p := ⟨B2, 0, none⟩) hb2).trans h2) ((hW.cell (p := ⟨B3, 0, none⟩) hb3).trans h3) (hN.below (hW.mono hn₀)) h0

set_option maxRecDepth 100000 in
set_option maxHeartbeats 2000000 in
theorem between_in (F : Fence) (n : Nat) (h23 : F.fn 23) (h29 : F.fn 29) (h30 : F.fn 30) (h11 : F.fn 11) (hro : F.round = none) (hn : 3 ≤ n) (p : Option Addr) (x y : Int) (ps : List Rp) (hreach : ps.length ≤ 1048576) (w : World) (hN : PtrW w.heap.size w p ps) :
    CallsIn F n Try.prog 23 #[.pointer p, .int .i64 x, .int .i64 y] w fun e W' => e = .returned (.int .i64 (btw x y ps).length) ∧ Below w.heap.size w W' := by
  have hlen : (btw x y ps).length ≤ ps.length := List.length_filter_le _ _
  have h1 : 1 ≤ n := by omega
  refine callsIn_of_wp_marks Try.func23 rfl h23 ?_ hro
  simp only [Try.ntmps23, List.size_toArray, List.length_cons, List.length_nil, Nat.reduceAdd, Nat.reduceSub, Array.replicate_succ, Array.replicate_zero, List.push_toArray, List.append_toArray, List.nil_append, List.cons_append]
  gi_wp2_with (gi_at_call 29; refine (from_in F (n - 1) h29 hro _ _ _ _).mono ?_; rintro e w' ⟨rfl, hw'⟩)
  subst hw'
  obtain ⟨W0, e0⟩ : ∃ W0, W0 = w.alloc (.cells #[.int .i64 0] 3) := ⟨_, rfl⟩
  obtain ⟨W1, e1⟩ : ∃ W1, W1 = W0.alloc (.cells #[.pointer p] 24) := ⟨_, rfl⟩
  obtain ⟨W2, e2⟩ : ∃ W2, W2 = W1.alloc (.cells #[.int .i64 x] 3) := ⟨_, rfl⟩
  obtain ⟨W3, e3⟩ : ∃ W3, W3 = W2.alloc (.cells #[.int .i64 y] 3) := ⟨_, rfl⟩
  have s0 : W0.heap.size = w.heap.size + 1 := by rw [e0]; simp
  have s1 : W1.heap.size = w.heap.size + 2 := by rw [e1]; simp [s0]
  have s2 : W2.heap.size = w.heap.size + 3 := by rw [e2]; simp [s1]
  have s3 : W3.heap.size = w.heap.size + 4 := by rw [e3]; simp [s2]
  have b0 : Boxed W3 w.heap.size 3 (.int .i64 0) := by rw [e3, e2, e1, e0]; exact (((Boxed.new w 3 _).alloc _).alloc _).alloc _
  have b1 : Boxed W3 (w.heap.size + 1) 24 (.pointer p) := by rw [← s0, e3, e2, e1]; exact ((Boxed.new W0 24 _).alloc _).alloc _
  have b2 : Boxed W3 (w.heap.size + 1 + 1) 3 (.int .i64 x) := by rw [show w.heap.size + 1 + 1 = W1.heap.size from by omega, e3, e2]; exact (Boxed.new W1 3 _).alloc _
  have b3 : Boxed W3 (w.heap.size + 1 + 2) 3 (.int .i64 y) := by rw [show w.heap.size + 1 + 2 = W2.heap.size from by omega, e3]; exact Boxed.new W2 3 _
  have hB0 : Below w.heap.size w W3 := by
    rw [e3, e2, e1, e0]
    exact ((((Below.refl _ w).alloc (Nat.le_refl _) _).alloc (by simp) _).alloc (by simp; omega) _).alloc (by simp; omega) _
  rw [← e0, ← e1, ← e2, ← e3]
  clear e0 e1 e2 e3
  have hK0 : ∀ (W : World) (b : Nat) (v u : Value), b ≠ w.heap.size → W.cell? ⟨b, 0, none⟩ = some v → (W.setCell ⟨w.heap.size, 0, none⟩ u).cell? ⟨b, 0, none⟩ = some v := fun W b v u hne h => by
    have e := Below.heap_setCell W ⟨w.heap.size, 0, none⟩ u b hne
    simp only [World.cell?] at h ⊢
    rw [e]; exact h
  refine wpIn_rangeFunc_ownG hro h1 (gf := 30) (lb := #[.pointer (some ⟨w.heap.size + 1, 0, none⟩), .pointer (some ⟨w.heap.size + 1 + 1, 0, none⟩), .pointer (some ⟨w.heap.size + 1 + 2, 0, none⟩)]) rfl h30 (enters_of Try.func30 (by kernel_rfl) rfl)
    (from1_stops F (n - 1) h30 h11 hro (by omega) _ _ _ w.heap.size p x y ps hreach W3 (by omega) (by omega) (by omega) (by omega) b1.cell b2.cell b3.cell (hN.below hB0)) Kp3.trans ?kb (Below.refl _ _) (fun _ => rfl)
    (fun pre W => Boxed W w.heap.size 3 (.int .i64 pre.length) ∧ Below w.heap.size w W)
    (fun _ _ _ => False)
    (OwnFrom.and (Own.from (boxed_own w.heap.size 3 (fun pre : List Rp => .int .i64 pre.length)) _) (ownFrom_below (Nat.le_refl _) (by omega)))
    (fun _ _ _ _ _ hs _ _ => hs)
    ⟨b0, hB0⟩
    (fun r => { tmps := #[.pointer p, .int .i64 x, .int .i64 y, undef, undef, undef, .int .i64 0, .pointer (some ⟨w.heap.size, 0, none⟩), .pointer p, .int .i64 x, .int .i64 y, .func (.func 30) #[] #[.pointer (some ⟨w.heap.size + 1, 0, none⟩), .pointer (some ⟨w.heap.size + 1 + 1, 0, none⟩), .pointer (some ⟨w.heap.size + 1 + 2, 0, none⟩)], .agg #[.int .i64 r.f, .int .i64 r.t, .slice r.da r.dn r.dc], undef, undef, undef], defers := [] }) ?assign ?body ?done ?stop
  case kb =>
    intro W l o o' hl h1 h2 h3
    exact Kp3.of_below (belowK_b (w := W3) (Nat.le_refl _) W l o o' hl h1 h2 h3) (by omega) (by omega) (by omega) (by omega)
  case assign =>
    intro l x W K hK
    gi_wp2
    simpa using hK
  case body =>
    rintro l pre r W ⟨hv, hB⟩ hlt
    have hc := hv.cell
    have hf := hv.frozen
    gi_wp2
    refine ⟨KeepsFrom.of_grownBy (grownBy_setCell' W _ _) (fun j e => by cases e; omega), ⟨(Below.refl _ W).grown (grownBy_setCell' W _ _) hB.size (fun k e => by cases e; exact Nat.le_refl _), fun v h => hK0 W _ v _ (by omega) h, fun v h => hK0 W _ v _ (by omega) h, fun v h => hK0 W _ v _ (by omega) h⟩, ?_, hB.grown (grownBy_setCell' W _ _) hB.size (fun k e => by cases e; exact Nat.le_refl _)⟩
    simpa using hv.set _
  case done =>
    rintro D ys W hD rfl ⟨hv, hB⟩ hK
    have hc := hv.cell
    gi_wp2
    refine ⟨by simp, .inl ⟨_, _, rfl, run_takeDeferred hK, ?_⟩⟩
    exact ⟨_, results_tmp rfl _ _ _, rfl, hB.trans (belowK_b (w := w) (Nat.le_refl _) W D _ _ (by omega) hK rfl rfl)⟩
  case stop =>
    rintro D c pre W _ _ h _
    exact h.elim
end Go.Proofs.Ytaiajeomlfmegaa
