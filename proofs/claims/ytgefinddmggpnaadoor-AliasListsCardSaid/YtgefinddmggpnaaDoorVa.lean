/-
  Chapter 38: the places of a page, as they are handed out, and the first of them: page.up, page.some, walked.
-/
import Derived.Test.YtgefinddmggpnaaDoorProg
import Derived.RangeFuncBox
import Derived.RangeFuncLeaves
import Derived.RangeFuncBound
import Derived.RangeFuncNested
import Derived.Shelf.Abstract
import Derived.WalkKit
import Derived.OwnWalkIn
import Derived.TacticsInMore
import Derived.LoopNIn
import Derived.LoopIn
import Derived.Maps.AppendAt
import Derived.Sort.EveryDepth
namespace Go.Proofs.YtgefinddmggpnaaDoor
open Go.RowKit Go.Shelf
attribute [local go_sem] Oper.semAt_some

/-- So many are shown. -/
def ShownW (n₀ : Nat) (W : World) (sv : Value) (m : Nat) : Prop :=
  ∃ a cap, sv = .slice a m cap ∧ (m = 0 ∨ ∃ b off, a = some ⟨b, off, none⟩ ∧ b < n₀ ∧ ∀ j, j < m → W.cell? ⟨b, off + j, none⟩ = some (.bool true))
theorem ShownW.below {n₀ : Nat} {A B : World} (h : Below n₀ A B) {sv : Value} {m : Nat} : ShownW n₀ A sv m → ShownW n₀ B sv m
  | ⟨a, cap, e, h0⟩ => ⟨a, cap, e, h0.imp id (fun ⟨b, off, e1, e2, e3⟩ => ⟨b, off, e1, e2, fun j hj => (h.cell (p := ⟨b, off + j, none⟩) e2).trans (e3 j hj)⟩)⟩
def intsTo (k : Nat) : List Int := (List.range k).map (fun i : Nat => Int.ofNat i)
theorem intsTo_len (k : Nat) : (intsTo k).length = k := by simp [intsTo]
theorem intsTo_succ (k : Nat) : intsTo (k + 1) = intsTo k ++ [(k : Int)] := by unfold intsTo; rw [List.range_succ, List.map_append]; rfl

set_option maxRecDepth 100000 in
set_option maxHeartbeats 2000000 in
theorem up1_in (F : Fence) (n : Nat) (h64 : F.fn 64) (hro : F.round = none) (hn : 1 ≤ n) (l B1 B2 o1 o2 n₀ : Nat) (sv : Value) (m : Nat) (hm : m ≤ 1048576) (J Jx : List Int → World → Prop)
    (hY : ∀ pre x W, J pre W → pre.length < m → YieldAt F (n - 1) Tryd.prog l #[.int .i64 x] W fun e W' =>
      (e = .returned (.bool true) ∧ J (pre ++ [x]) W' ∧ Below n₀ W W') ∨ (e = .returned (.bool false) ∧ Jx (pre ++ [x]) W'))
    (W : World) (hb1 : B1 < n₀) (hb2 : B2 < n₀) (h1 : W.cell? ⟨B1, o1, none⟩ = some (.int .i64 0)) (h2 : W.cell? ⟨B2, o2, none⟩ = some sv) (hS : ShownW n₀ W sv m) (h0 : J [] W) :
    CallsIn F n Tryd.prog 64 #[.func (.yield l) #[] #[], .pointer (some ⟨B1, o1, none⟩), .pointer (some ⟨B2, o2, none⟩)] W fun e W' => (∃ v, e = .returned v) ∧
      ((∃ ys, ys = intsTo m ∧ J ys W') ∨ (∃ pre, True ∧ Jx pre W')) := by
  obtain ⟨a, cap, rfl, hS⟩ := hS
  refine callsIn_of_wp Tryd.func64 rfl h64 ?_ hro
  simp only [Tryd.ntmps64, List.size_toArray, List.length_cons, List.length_nil, Nat.reduceAdd, Nat.reduceSub, Array.replicate_succ, Array.replicate_zero, List.push_toArray, List.append_toArray, List.nil_append, List.cons_append]
  gi_wp2
  gi_loopw [4] (fun i wr => ∃ k : Nat, k ≤ m ∧ i = .int .i64 k ∧ J (intsTo k) wr ∧ Below n₀ W wr)
    (fun i _ => m - (intOf i).toNat)
  case atStart => exact ⟨0, Nat.zero_le _, rfl, h0, Below.refl _ _⟩
  case round =>
    obtain ⟨k, hk, rfl, hJs, hnx⟩ := hrel
    have g2 : wr.cell? ⟨B2, o2, none⟩ = _ := (hnx.cell (p := ⟨B2, o2, none⟩) hb2).trans h2
    by_cases hlt : k < m
    · rcases hS with h9 | ⟨b, off, rfl, hb, hc⟩
      · omega
      have hcell : wr.cell? ⟨b, off + k, none⟩ = some (.bool true) := (hnx.cell (p := ⟨b, off + k, none⟩) hb).trans (hc k hlt)
      obtain ⟨fn, tmps, assign, body, hy, hR⟩ := hY _ (k : Int) _ hJs (by rw [intsTo_len]; exact hlt)
      gi_wp2
      refine hR.mono ?_
      rintro e W3 (⟨rfl, hJ3, hk3⟩ | ⟨rfl, hJx3⟩)
      · gi_wp2
        go_roundw
        case rel => exact ⟨k + 1, by omega, by simp, by rw [intsTo_succ]; exact hJ3, hnx.trans hk3⟩
        case measure => simp [intOf]; omega
      · gi_wp2
        refine bodyPost_ret (results_none rfl _ _ _) rfl ?_
        exact ⟨⟨_, rfl⟩, .inr ⟨_, trivial, hJx3⟩⟩
    · obtain rfl : k = m := by omega
      gi_wp2
      go_end0
      exact ⟨⟨_, rfl⟩, .inl ⟨_, rfl, hJs⟩⟩
theorem up1_stops (F : Fence) (n : Nat) (h64 : F.fn 64) (hro : F.round = none) (hn : 1 ≤ n) (B1 B2 o1 o2 n₀ : Nat) (sv : Value) (m : Nat) (hm : m ≤ 1048576) (w : World) (hn₀ : n₀ ≤ w.heap.size)
    (hb1 : B1 < n₀) (hb2 : B2 < n₀) (h1 : w.cell? ⟨B1, o1, none⟩ = some (.int .i64 0)) (h2 : w.cell? ⟨B2, o2, none⟩ = some sv) (hS : ShownW n₀ w sv m) :
    SeqStopsK F n Tryd.prog 64 #[.pointer (some ⟨B1, o1, none⟩), .pointer (some ⟨B2, o2, none⟩)] (fun x : Int => #[Value.int .i64 x]) (Below n₀) (fun ys => ys = intsTo m) (fun _ => True) m w := fun l J Jx W hW _ _ hY h0 =>
  up1_in F n h64 hro hn l B1 B2 o1 o2 n₀ sv m hm J Jx hY W hb1 hb2 ((hW.cell (p := ⟨B1, o1, none⟩) (Nat.lt_of_lt_of_le hb1 hn₀)).trans h1) ((hW.cell (p := ⟨B2, o2, none⟩) (Nat.lt_of_lt_of_le hb2 hn₀)).trans h2) (hS.below (hW.mono hn₀)) h0
end Go.Proofs.YtgefinddmggpnaaDoor
