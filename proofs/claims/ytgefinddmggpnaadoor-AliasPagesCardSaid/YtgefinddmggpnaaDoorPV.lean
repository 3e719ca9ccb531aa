import Derived.Test.YtgefinddmggpnaaDoorProg
import Derived.RangeFuncBox
import Derived.RangeFuncLeaves
import Derived.RangeFuncBound
import Derived.RangeFuncNested
import Derived.Shelf.Abstract
import Derived.WalkKit
import Derived.OwnWalkIn
import Derived.TacticsInMore
import Derived.LoopNIn
import Derived.LoopIn
import Derived.Maps.AppendAt
import Derived.Sort.EveryDepth
/-
  Chapter 38: the places of a page, as they are handed out, and the first of them: page.up, page.some, walked.
-/
namespace Go.Proofs.YtgefinddmggpnaaDoor
open Go.RowKit Go.Shelf
attribute [local go_sem] Oper.semAt_some

/-- So many are shown. -/
def ShownW (n₀ : Nat) (W : World) (sv : Value) (m : Nat) : Prop :=
  ∃ a cap, sv = .slice a m cap ∧ (m = 0 ∨ ∃ b off, a = some ⟨b, off, none⟩ ∧ b < n₀ ∧ ∀ j, j < m → W.cell? ⟨b, off + j, none⟩ = some (.bool true))
theorem ShownW.below {n₀ : Nat} {A B : World} (h : Below n₀ A B) {sv : Value} {m : Nat} : ShownW n₀ A sv m → ShownW n₀ B sv m
  | ⟨a, cap, e, h0⟩ => ⟨a, cap, e, h0.imp id (fun ⟨b, off, e1, e2, e3⟩ => ⟨b, off, e1, e2, fun j hj => (h.cell (p := ⟨b, off + j, none⟩) e2).trans (e3 j hj)⟩)⟩
def intsTo (k : Nat) : List Int := (List.range k).map (fun i : Nat => Int.ofNat i)
theorem intsTo_len (k : Nat) : (intsTo k).length = k := by simp [intsTo]
theorem intsTo_succ (k : Nat) : intsTo (k + 1) = intsTo k ++ [(k : Int)] := by unfold intsTo; rw [List.range_succ, List.map_append]; rfl

set_option maxRecDepth 100000 in
set_option maxHeartbeats 2000000 in
theorem up1_in (F : Fence) (n : Nat) (h64 : F.fn 64) (hro : F.round = none) (hn : 1 ≤ n) (l B1 B2 o1 o2 n₀ : Nat) (sv : Value) (m : Nat) (hm : m ≤ 1048576) (J Jx : List Int → World → Prop)
    (hY : ∀ pre x W, J pre W → pre.length < m → YieldAt F (n - 1) Tryd.prog l #[.int .i64 x] W fun e W' =>
      (e = .returned (.bool true) ∧ J (pre ++ [x]) W' ∧ Below n₀ W W') ∨ (e = .returned (.bool false) ∧ Jx (pre ++ [x]) W'))
    (W : World) (hb1 : B1 < n₀) (hb2 : B2 < n₀) (h1 : W.cell? ⟨B1, o1, none⟩ = some (.int .i64 0)) (h2 : W.cell? ⟨B2, o2, none⟩ = some sv) (hS : ShownW n₀ W sv m) (h0 : J [] W) :
    CallsIn F n Tryd.prog 64 #[.func (.yield l) #[] #[], .pointer (some ⟨B1, o1, none⟩), .pointer (some ⟨B2, o2, none⟩)] W fun e W' => (∃ v, e = .returned v) ∧
      ((∃ ys, ys = intsTo m ∧ J ys W') ∨ (∃ pre, True ∧ Jx pre W')) := by
  obtain ⟨a, cap, rfl, hS⟩ := hS
  refine callsIn_of_wp Tryd.func64 rfl h64 ?_ hro
  simp only [Tryd.ntmps64, List.size_toArray, List.length_cons, List.length_nil, Nat.reduceAdd, Nat.reduceSub, Array.replicate_succ, Array.replicate_zero, List.push_toArray, List.append_toArray, List.nil_append, List.cons_append]
  gi_wp2
  gi_loopw [4] (fun i wr => ∃ k : Nat, k ≤ m ∧ i = .int .i64 k ∧ J (intsTo k) wr ∧ Below n₀ W wr)
    (fun i _ => m - (intOf i).toNat)
  case atStart => exact ⟨0, Nat.zero_le _, rfl, h0, Below.refl _ _⟩
  case round =>
    obtain ⟨k, hk, rfl, hJs, hnx⟩ := hrel
    have g2 : wr.cell? ⟨B2, o2, none⟩ = _ := (hnx.cell (p := ⟨B2, o2, none⟩) hb2).trans h2
    by_cases hlt : k < m
    · rcases hS with h9 | ⟨b, off, rfl, hb, hc⟩
      · omega
      have hcell : wr.cell? ⟨b, off + k, none⟩ = some (.bool true) := (hnx.cell (p := ⟨b, off + k, none⟩) hb).trans (hc k hlt)
      obtain ⟨fn, tmps, assign, body, hy, hR⟩ := hY _ (k : Int) _ hJs (by rw [intsTo_len]; exact hlt)
      gi_wp2
      refine hR.mono ?_
      rintro e W3 (⟨rfl, hJ3, hk3⟩ | ⟨rfl, hJx3⟩)
      · gi_wp2
        go_roundw
        case rel => exact ⟨k + 1, by omega, by simp, by rw [intsTo_succ]; exact hJ3, hnx.trans hk3⟩
        case measure => simp [intOf]; omega
      · gi_wp2
        refine bodyPost_ret (results_none rfl _ _ _) rfl ?_
        exact ⟨⟨_, rfl⟩, .inr ⟨_, trivial, hJx3⟩⟩
    · obtain rfl : k = m := by omega
      gi_wp2
      go_end0
      exact ⟨⟨_, rfl⟩, .inl ⟨_, rfl, hJs⟩⟩
theorem up1_stops (F : Fence) (n : Nat) (h64 : F.fn 64) (hro : F.round = none) (hn : 1 ≤ n) (B1 B2 o1 o2 n₀ : Nat) (sv : Value) (m : Nat) (hm : m ≤ 1048576) (w : World) (hn₀ : n₀ ≤ w.heap.size)
    (hb1 : B1 < n₀) (hb2 : B2 < n₀) (h1 : w.cell? ⟨B1, o1, none⟩ = some (.int .i64 0)) (h2 : w.cell? ⟨B2, o2, none⟩ = some sv) (hS : ShownW n₀ w sv m) :
    SeqStopsK F n Tryd.prog 64 #[.pointer (some ⟨B1, o1, none⟩), .pointer (some ⟨B2, o2, none⟩)] (fun x : Int => #[Value.int .i64 x]) (Below n₀) (fun ys => ys = intsTo m) (fun _ => True) m w := fun l J Jx W hW _ _ hY h0 =>
  up1_in F n h64 hro hn l B1 B2 o1 o2 n₀ sv m hm J Jx hY W hb1 hb2 ((hW.cell (p := ⟨B1, o1, none⟩) (Nat.lt_of_lt_of_le hb1 hn₀)).trans h1) ((hW.cell (p := ⟨B2, o2, none⟩) (Nat.lt_of_lt_of_le hb2 hn₀)).trans h2) (hS.below (hW.mono hn₀)) h0
end Go.Proofs.YtgefinddmggpnaaDoor

/-
  Chapter 38: the first places of a page: page.some, walked, where the places end before the limit.
-/
namespace Go.Proofs.YtgefinddmggpnaaDoor
open Go.RowKit Go.Shelf
attribute [local go_sem] Oper.semAt_some

theorem results_cells2 {fn : Func} {p u : Tmp} {ty tu : TypeId} (h : fn.results = #[.cell p ty, .cell u tu]) (tmps : Array Value) (P : Program) (w : World) :
    (results fn tmps).run P w =
      ((asAddr (tmps.getD p undef)).run P w).andThen fun a w₁ => ((loadVar ty a).run P w₁).andThen fun v w₂ => ((asAddr (tmps.getD u undef)).run P w₂).andThen fun b w₃ => ((loadVar tu b).run P w₃).andThen fun v2 w₄ => .ok (.tuple #[v, v2]) w₄ := by
  simp only [results, h]
  simp [Sem.run_bind, Result.andThen]
theorem info3 : (Tryd.prog.info? 3).map (fun i => (i.zero, i.size, i.bytes)) = some (some (.int .i64 0), 1, 8) := by kernel_rfl
def encI (l : List Int) : List Value := l.map (fun x => Value.int .i64 x)
/-- 'out = append(out, ..)' where the row lies behind n₁, the box behind n₀: what lies in other boxes below n₁ lies on. -/
theorem appended2 {W w1 : World} {n₀ n₁ B : Nat} {t e : TypeId} {size : Nat} {v v' : Value} {k m : Nat} {xs ys : List Value} {tmp : Obj}
    (hv : Boxed W B t v) (hte : t ≠ e) (hrow : W.ownsRow n₁ e size v k xs) (h01 : n₀ ≤ n₁) (hn₀ : n₀ ≤ W.heap.size) (hB : n₀ ≤ B)
    (hown' : w1.ownsRow n₁ e size v' m ys) (hgrow : (W.alloc tmp).grownBy w1 v.ownBlock) :
    Boxed w1 B t v ∧ Boxed (w1.setCell ⟨B, 0, none⟩ v') B t v' ∧ (w1.setCell ⟨B, 0, none⟩ v').ownsRow n₁ e size v' m ys ∧ KeepsOthers W (w1.setCell ⟨B, 0, none⟩ v') ∧ Below n₀ W (w1.setCell ⟨B, 0, none⟩ v') ∧
      ∀ B' t' u, B' ≠ B → B' < n₁ → Boxed W B' t' u → Boxed (w1.setCell ⟨B, 0, none⟩ v') B' t' u := by
  have hv1 : Boxed w1 B t v := (hv.alloc tmp).kept hgrow (hv.not_row hte hrow)
  refine ⟨hv1, hv1.set v', hown'.kept (grownBy_setCell' w1 B v') (.inr (hv1.not_row hte hown').symm), ?_, ?_, fun B' t' u hne hlt hb => ?_⟩
  · refine ((KeepsOthers.alloc W tmp).trans (KeepsOthers.of_grownBy hgrow fun j o ej hj => ?_)).trans (KeepsOthers.setCell _ _ _)
    rcases (hrow.alloc tmp).2 with ⟨rfl, _⟩ | ⟨g, cap, cur, rfl, _, hgb, _⟩
    · simp [Value.ownBlock] at ej
    · obtain rfl : g = j := by simpa [Value.ownBlock] using ej
      rw [hgb] at hj; cases hj; rfl
  · refine (((Below.refl n₀ W).alloc hn₀ tmp).grown hgrow (by simp; omega) fun j ej => ?_).setCell (p := ⟨B, 0, none⟩) hB v'
    rcases hrow.2 with ⟨rfl, _⟩ | ⟨g, cap, cur, rfl, hb, _, _⟩
    · simp [Value.ownBlock] at ej
    · obtain rfl : g = j := by simpa [Value.ownBlock] using ej
      exact Nat.le_trans h01 hb
  · refine ((hb.alloc tmp).kept hgrow (fun ej => ?_)).other hne v'
    rcases hrow.2 with ⟨rfl, _⟩ | ⟨g, cap, cur, rfl, hb2, _, _⟩
    · simp [Value.ownBlock] at ej
    · obtain rfl : B' = g := by simpa [Value.ownBlock] using ej
      omega
set_option maxRecDepth 100000 in
set_option maxHeartbeats 2000000 in
theorem some_in (F : Fence) (n : Nat) (h39 : F.fn 39) (h64 : F.fn 64) (hro : F.round = none) (hn : 3 ≤ n) (B1 B2 o1 o2 : Nat) (sv : Value) (m : Nat) (hm : m ≤ 100000) (lim : Int) (hlim : (m : Int) < lim) (w : World)
    (hb1 : B1 < w.heap.size) (hb2 : B2 < w.heap.size) (c1 : w.cell? ⟨B1, o1, none⟩ = some (.int .i64 0)) (c2 : w.cell? ⟨B2, o2, none⟩ = some sv) (hS : ShownW w.heap.size w sv m) :
    CallsIn F n Tryd.prog 39 #[.func (.func 64) #[] #[.pointer (some ⟨B1, o1, none⟩), .pointer (some ⟨B2, o2, none⟩)], .int .i64 lim] w fun e W' => ∃ v, e = .returned (.tuple #[v, .bool false]) ∧ W'.ownsRow (w.heap.size + 4) 3 1 v m (encI (intsTo m)) ∧ (v = .slice none 0 0 ↔ intsTo m = []) ∧ Below w.heap.size w W' := by
  have h1 : 1 ≤ n := by omega
  obtain ⟨i0, hi, hz0, hz1, hz2⟩ := info_parts info3
  refine callsIn_of_wp_marks Tryd.func39 rfl h39 ?_ hro
  simp only [Tryd.ntmps39, List.size_toArray, List.length_cons, List.length_nil, Nat.reduceAdd, Nat.reduceSub, Array.replicate_succ, Array.replicate_zero, List.push_toArray, List.append_toArray, List.nil_append, List.cons_append]
  gi_wp2
  obtain ⟨W0, e0⟩ : ∃ W0, W0 = w.alloc (.cells #[.int .i64 lim] 3) := ⟨_, rfl⟩
  obtain ⟨W1, e1⟩ : ∃ W1, W1 = W0.alloc (.cells #[.slice none 0 0] 61) := ⟨_, rfl⟩
  obtain ⟨W2, e2⟩ : ∃ W2, W2 = W1.alloc (.cells #[.bool false] 4) := ⟨_, rfl⟩
  obtain ⟨W3, e3⟩ : ∃ W3, W3 = W2.alloc (.cells #[.slice none 0 0] 61) := ⟨_, rfl⟩
  have s0 : W0.heap.size = w.heap.size + 1 := by rw [e0]; simp
  have s1 : W1.heap.size = w.heap.size + 2 := by rw [e1]; simp [s0]
  have s2 : W2.heap.size = w.heap.size + 3 := by rw [e2]; simp [s1]
  have s3 : W3.heap.size = w.heap.size + 4 := by rw [e3]; simp [s2]
  have b0 : Boxed W3 w.heap.size 3 (.int .i64 lim) := by rw [e3, e2, e1, e0]; exact (((Boxed.new w 3 _).alloc _).alloc _).alloc _
  have b1 : Boxed W3 (w.heap.size + 1) 61 (.slice none 0 0) := by rw [← s0, e3, e2, e1]; exact ((Boxed.new W0 61 _).alloc _).alloc _
  have b2 : Boxed W3 (w.heap.size + 2) 4 (.bool false) := by rw [show w.heap.size + 2 = W1.heap.size from by omega, e3, e2]; exact (Boxed.new W1 4 _).alloc _
  have b3 : Boxed W3 (w.heap.size + 3) 61 (.slice none 0 0) := by rw [show w.heap.size + 3 = W2.heap.size from by omega, e3]; exact Boxed.new W2 61 _
  have hB0 : Below w.heap.size w W3 := by
    rw [e3, e2, e1, e0]
    exact ((((Below.refl _ w).alloc (Nat.le_refl _) _).alloc (by simp) _).alloc (by simp; omega) _).alloc (by simp; omega) _
  have a1 : w.heap.size + 1 + 1 = w.heap.size + 2 := by omega
  rw [← e0, ← e1, ← e2, ← e3]
  clear e0 e1 e2 e3
  refine wpIn_rangeFunc_ownG hro h1 (gf := 64) (lb := #[.pointer (some ⟨B1, o1, none⟩), .pointer (some ⟨B2, o2, none⟩)]) rfl h64 (enters_of Tryd.func64 (by kernel_rfl) rfl)
    (up1_stops F (n - 1) h64 hro (by omega) B1 B2 o1 o2 w.heap.size sv m (by omega) W3 (by omega) hb1 hb2 ((hB0.cell (p := ⟨B1, o1, none⟩) hb1).trans c1) ((hB0.cell (p := ⟨B2, o2, none⟩) hb2).trans c2) (hS.below hB0)) belowK_t (belowK_b (by omega)) (Below.refl _ _) (fun _ => rfl)
    (fun pre W => ((∃ v, Boxed W (w.heap.size + 3) 61 v ∧ W.ownsRow (w.heap.size + 4) 3 1 v pre.length (encI pre) ∧ (v = .slice none 0 0 ↔ pre = [])) ∧ Below w.heap.size w W) ∧ (Boxed W w.heap.size 3 (.int .i64 lim) ∧ Boxed W (w.heap.size + 1) 61 (.slice none 0 0)) ∧ Boxed W (w.heap.size + 2) 4 (.bool false))
    (fun _ _ _ => False)
    (OwnFrom.and (OwnFrom.and (Own.from (holdsRow_own (w.heap.size + 4) (w.heap.size + 3) 61 3 1 (fun pre : List Int => pre.length) (fun pre => encI pre) (fun pre v => v = .slice none 0 0 ↔ pre = [])) _) (ownFrom_below (Nat.le_refl _) (by omega)))
      (OwnFrom.and (OwnFrom.and (Own.from (boxed_own w.heap.size 3 (fun _ : List Int => .int .i64 lim)) _) (Own.from (boxed_own (w.heap.size + 1) 61 (fun _ : List Int => .slice none 0 0)) _)) (Own.from (boxed_own (w.heap.size + 2) 4 (fun _ : List Int => .bool false)) _)))
    (fun _ _ _ _ _ hs _ _ => hs)
    ⟨⟨⟨_, b3, World.ownsRow_nil _ _ _ _, by simp⟩, hB0⟩, ⟨b0, b1⟩, b2⟩
    (fun x => { tmps := #[.func (.func 64) #[] #[.pointer (some ⟨B1, o1, none⟩), .pointer (some ⟨B2, o2, none⟩)], .int .i64 lim, undef, .pointer (some ⟨w.heap.size, 0, none⟩), .pointer (some ⟨w.heap.size + 1, 0, none⟩), .pointer (some ⟨w.heap.size + 2, 0, none⟩), .pointer (some ⟨w.heap.size + 2 + 1, 0, none⟩), .int .i64 x, .func (.func 64) #[] #[.pointer (some ⟨B1, o1, none⟩), .pointer (some ⟨B2, o2, none⟩)], .int .i64 x, undef, undef, undef, undef, undef, undef, undef, undef, undef, undef], defers := [] }) ?assign ?body ?done ?stop
  case assign =>
    intro l x W K hK
    gi_wp2
    exact hK
  case body =>
    rintro l pre x W ⟨⟨⟨v, hv, hrow, hnil⟩, hB⟩, ⟨q0, q1⟩, q2⟩ hlt
    have hc := hv.cell
    have hWs : w.heap.size + 4 ≤ W.heap.size := hv.lt
    gi_wp2_with (gi_at_builtin; refine wpListIn_append_own _ rfl _ _ 61 rfl (w.heap.size + 4) 3 i0 (.int .i64 0) 1 8 Tryd.underlying61 hi hz0 hz1 hz2 rfl (by decide) _ _ _ rfl (hrow.alloc _) ⟨W.heap.size, 0, none⟩ 1 1 [.int .i64 x] rfl rfl (cell_one_new _ _ _) (by simp [Value.oneCell']) (by simp only [maxLen]; omega) (by omega) (by simp; omega) ?_; intro v' w1 hown' hgrow _; obtain ⟨g', cap', rfl⟩ := ownsRow_succ hown'; obtain ⟨hv1, hv2, hr2, hk2, hb2, ho2⟩ := appended2 hv (by decide) hrow (Nat.le_add_right _ 4) hB.size (Nat.le_add_right _ 3) hown' hgrow; have hc1 := hv1.cell; have hf1 := hv1.frozen; have q0' := ho2 _ _ _ (by omega) (by omega) q0; have q1' := ho2 _ _ _ (by omega) (by omega) q1; have q2' := ho2 _ _ _ (by omega) (by omega) q2; have hc2 := hv2.cell; have hq0 := q0'.cell)
    exact ⟨hk2.from _, hb2, ⟨⟨⟨_, hv2, by simpa [encI] using hr2, by simp⟩, hB.trans hb2⟩, ⟨q0', q1'⟩, q2'⟩⟩
  case done =>
    rintro D ys W hD rfl ⟨⟨⟨v, hv, hrow, hnil⟩, hB⟩, ⟨q0, q1⟩, q2⟩ hK
    have hc := hv.cell
    have hc1 := q1.cell
    have hf1 := q1.frozen
    have hf2 := q2.frozen
    have hc2 := q2.cell
    have hsh : ∃ a k cap, v = .slice a k cap := by
      rcases hrow.2 with ⟨rfl, _⟩ | ⟨g, cap, cur, rfl, _⟩
      · exact ⟨_, _, _, rfl⟩
      · exact ⟨_, _, _, rfl⟩
    obtain ⟨a, k, cap, rfl⟩ := hsh
    gi_wp2
    obtain ⟨W4, e4⟩ : ∃ W4, W4 = W.setCell ⟨w.heap.size + 1, 0, none⟩ (.slice a k cap) := ⟨_, rfl⟩
    obtain ⟨W5, e5⟩ : ∃ W5, W5 = W4.setCell ⟨w.heap.size + 2, 0, none⟩ (.bool false) := ⟨_, rfl⟩
    have hDs : w.heap.size + 4 ≤ D := by omega
    have g4 : W.grownBy W4 (some (w.heap.size + 1)) := by rw [e4]; exact grownBy_setCell' _ _ _
    have g5 : W4.grownBy W5 (some (w.heap.size + 2)) := by rw [e5]; exact grownBy_setCell' _ _ _
    have r1 : Boxed W5 (w.heap.size + 1) 61 (.slice a k cap) := by rw [e5, e4]; exact (q1.set _).other (by omega) _
    have r2 : Boxed W5 (w.heap.size + 2) 4 (.bool false) := by rw [e5, e4]; exact (q2.other (by omega) _).set _
    have nrow : ∀ j, j < w.heap.size + 4 → some j ≠ (Value.slice a k cap).ownBlock := fun j hj e => by
      rcases hrow.2 with ⟨e9, _⟩ | ⟨g, cap9, cur, e9, hb9, _⟩
      · cases e9; simp [Value.ownBlock] at e
      · cases e9
        obtain rfl : j = g := by simpa [Value.ownBlock] using e
        omega
    have row5 : W5.ownsRow (w.heap.size + 4) 3 1 (.slice a k cap) (intsTo m).length (encI (intsTo m)) := (hrow.kept g4 (.inr (nrow _ (by omega)).symm)).kept g5 (.inr (nrow _ (by omega)).symm)
    have k4 : W4.heap[D]? = some (.deferred (some [])) := (g4.block D (Array.getElem?_eq_some_iff.1 hK).1 (fun e => by cases e; omega)).trans hK
    have k5 : W5.heap[D]? = some (.deferred (some [])) := (g5.block D (Array.getElem?_eq_some_iff.1 k4).1 (fun e => by cases e; omega)).trans k4
    have hB5 : Below w.heap.size w W5 := (hB.grown g4 hB.size (fun j e => by cases e; omega)).grown g5 (hB.grown g4 hB.size (fun j e => by cases e; omega)).size (fun j e => by cases e; omega)
    rw [← e4, ← e5]
    refine ⟨by simp, .inl ⟨_, _, rfl, run_takeDeferred k5, ?_⟩⟩
    have r1' : (W5.putObj D (.deferred none)).cell? ⟨w.heap.size + 1, 0, none⟩ = some (.slice a k cap) := Boxed.cell (t := 61) ((World.putObj_heap_other (by omega)).trans r1)
    have r2' : (W5.putObj D (.deferred none)).cell? ⟨w.heap.size + 2, 0, none⟩ = some (.bool false) := Boxed.cell (t := 4) ((World.putObj_heap_other (by omega)).trans r2)
    refine ⟨.tuple #[.slice a k cap, .bool false], ?_, .slice a k cap, rfl, by have := ownsRow_putObj row5 (.deferred none) k5 rfl; rwa [intsTo_len] at this, hnil, hB5.trans (belowK_b (w := w) (Nat.le_refl _) W5 D _ _ (by omega) k5 rfl rfl)⟩
    clear e4 e5
    have r2'' : (W5.putObj D (.deferred none)).cell? ⟨w.heap.size + 1 + 1, 0, none⟩ = some (.bool false) := r2'
    generalize W5.putObj D (.deferred none) = W6 at r1' r2' r2'' ⊢
    rw [results_cells2 rfl]
    go_simp
  case stop =>
    rintro D c pre W _ _ h _
    exact h.elim
end Go.Proofs.YtgefinddmggpnaaDoor

/-
  Chapter 38: the places of a page from any place on, as they are handed out: page.up, walked.
-/
namespace Go.Proofs.YtgefinddmggpnaaDoor
open Go.RowKit Go.Shelf
attribute [local go_sem] Oper.semAt_some

/-- So many numbers from a on. -/
def intsFrom (a k : Nat) : List Int := (List.range k).map (fun i : Nat => Int.ofNat (a + i))
theorem intsFrom_len (a k : Nat) : (intsFrom a k).length = k := by simp [intsFrom]
theorem intsFrom_succ (a k : Nat) : intsFrom a (k + 1) = intsFrom a k ++ [((a + k : Nat) : Int)] := by unfold intsFrom; rw [List.range_succ, List.map_append]; rfl

set_option maxRecDepth 100000 in
set_option maxHeartbeats 2000000 in
theorem up2_in (F : Fence) (n : Nat) (h64 : F.fn 64) (hro : F.round = none) (hn : 1 ≤ n) (l B1 B2 o1 o2 n₀ : Nat) (sv : Value) (a0 m : Nat) (ham : a0 ≤ m) (hm : m ≤ 1048576) (J Jx : List Int → World → Prop)
    (hY : ∀ pre x W, J pre W → pre.length < m - a0 → YieldAt F (n - 1) Tryd.prog l #[.int .i64 x] W fun e W' =>
      (e = .returned (.bool true) ∧ J (pre ++ [x]) W' ∧ Below n₀ W W') ∨ (e = .returned (.bool false) ∧ Jx (pre ++ [x]) W'))
    (W : World) (hb1 : B1 < n₀) (hb2 : B2 < n₀) (h1 : W.cell? ⟨B1, o1, none⟩ = some (.int .i64 (a0 : Int))) (h2 : W.cell? ⟨B2, o2, none⟩ = some sv) (hS : ShownW n₀ W sv m) (h0 : J [] W) :
    CallsIn F n Tryd.prog 64 #[.func (.yield l) #[] #[], .pointer (some ⟨B1, o1, none⟩), .pointer (some ⟨B2, o2, none⟩)] W fun e W' => (∃ v, e = .returned v) ∧
      ((∃ ys, ys = intsFrom a0 (m - a0) ∧ J ys W') ∨ (∃ pre, (∃ k, k ≤ m - a0 ∧ pre = intsFrom a0 k) ∧ Jx pre W')) := by
  obtain ⟨a, cap, rfl, hS⟩ := hS
  refine callsIn_of_wp Tryd.func64 rfl h64 ?_ hro
  simp only [Tryd.ntmps64, List.size_toArray, List.length_cons, List.length_nil, Nat.reduceAdd, Nat.reduceSub, Array.replicate_succ, Array.replicate_zero, List.push_toArray, List.append_toArray, List.nil_append, List.cons_append]
  gi_wp2
  gi_loopw [4] (fun i wr => ∃ k : Nat, k ≤ m ∧ a0 ≤ k ∧ i = .int .i64 k ∧ J (intsFrom a0 (k - a0)) wr ∧ Below n₀ W wr)
    (fun i _ => m - (intOf i).toNat)
  case atStart => exact ⟨a0, ham, Nat.le_refl _, rfl, by rw [Nat.sub_self]; exact h0, Below.refl _ _⟩
  case round =>
    obtain ⟨k, hk, hak, rfl, hJs, hnx⟩ := hrel
    have g2 : wr.cell? ⟨B2, o2, none⟩ = _ := (hnx.cell (p := ⟨B2, o2, none⟩) hb2).trans h2
    by_cases hlt : k < m
    · rcases hS with h9 | ⟨b, off, rfl, hb, hc⟩
      · omega
      have hcell : wr.cell? ⟨b, off + k, none⟩ = some (.bool true) := (hnx.cell (p := ⟨b, off + k, none⟩) hb).trans (hc k hlt)
      obtain ⟨fn, tmps, assign, body, hy, hR⟩ := hY _ (k : Int) _ hJs (by rw [intsFrom_len]; omega)
      gi_wp2
      have esc : intsFrom a0 (k - a0) ++ [(k : Int)] = intsFrom a0 (k + 1 - a0) := by
        rw [show k + 1 - a0 = (k - a0) + 1 by omega, intsFrom_succ, show a0 + (k - a0) = k by omega]
      rw [esc] at hR
      refine hR.mono ?_
      rintro e W3 (⟨rfl, hJ3, hk3⟩ | ⟨rfl, hJx3⟩)
      · gi_wp2
        go_roundw
        case rel => exact ⟨k + 1, by omega, by omega, by simp, hJ3, hnx.trans hk3⟩
        case measure => simp [intOf]; omega
      · gi_wp2
        refine bodyPost_ret (results_none rfl _ _ _) rfl ?_
        exact ⟨⟨_, rfl⟩, .inr ⟨_, ⟨_, by omega, rfl⟩, hJx3⟩⟩
    · obtain rfl : k = m := by omega
      gi_wp2
      go_end0
      exact ⟨⟨_, rfl⟩, .inl ⟨_, rfl, hJs⟩⟩
theorem up2_stops (F : Fence) (n : Nat) (h64 : F.fn 64) (hro : F.round = none) (hn : 1 ≤ n) (B1 B2 o1 o2 n₀ : Nat) (sv : Value) (a0 m : Nat) (ham : a0 ≤ m) (hm : m ≤ 1048576) (w : World) (hn₀ : n₀ ≤ w.heap.size)
    (hb1 : B1 < n₀) (hb2 : B2 < n₀) (h1 : w.cell? ⟨B1, o1, none⟩ = some (.int .i64 (a0 : Int))) (h2 : w.cell? ⟨B2, o2, none⟩ = some sv) (hS : ShownW n₀ w sv m) :
    SeqStopsK F n Tryd.prog 64 #[.pointer (some ⟨B1, o1, none⟩), .pointer (some ⟨B2, o2, none⟩)] (fun x : Int => #[Value.int .i64 x]) (Below n₀) (fun ys => ys = intsFrom a0 (m - a0)) (fun pre => ∃ k, k ≤ m - a0 ∧ pre = intsFrom a0 k) (m - a0) w := fun l J Jx W hW _ _ hY h0 =>
  up2_in F n h64 hro hn l B1 B2 o1 o2 n₀ sv a0 m ham hm J Jx hY W hb1 hb2 ((hW.cell (p := ⟨B1, o1, none⟩) (Nat.lt_of_lt_of_le hb1 hn₀)).trans h1) ((hW.cell (p := ⟨B2, o2, none⟩) (Nat.lt_of_lt_of_le hb2 hn₀)).trans h2) (hS.below (hW.mono hn₀)) h0
end Go.Proofs.YtgefinddmggpnaaDoor

/-
  Chapter 38: the places of a page from any place on: page.some, walked, wherever it ends.
-/
namespace Go.Proofs.YtgefinddmggpnaaDoor
open Go.RowKit Go.Shelf
attribute [local go_sem] Oper.semAt_some

/-- What lies in boxes below n₁ lies on where a row behind n₁ has grown. -/
theorem kept2 {W w1 : World} {n₁ : Nat} {e : TypeId} {size : Nat} {v : Value} {k : Nat} {xs : List Value} {tmp : Obj}
    (hrow : W.ownsRow n₁ e size v k xs) (hgrow : (W.alloc tmp).grownBy w1 v.ownBlock) {B' : Nat} {t' : TypeId} {u : Value} (hlt : B' < n₁) (hb : Boxed W B' t' u) : Boxed w1 B' t' u := by
  refine (hb.alloc tmp).kept hgrow (fun ej => ?_)
  rcases hrow.2 with ⟨rfl, _⟩ | ⟨g, cap, cur, rfl, hb2, _, _⟩
  · simp [Value.ownBlock] at ej
  · obtain rfl : B' = g := by simpa [Value.ownBlock] using ej
    omega
set_option maxRecDepth 100000 in
set_option maxHeartbeats 2000000 in
theorem some2_in (F : Fence) (n : Nat) (h39 : F.fn 39) (h64 : F.fn 64) (hro : F.round = none) (hn : 3 ≤ n) (B1 B2 o1 o2 : Nat) (sv : Value) (a0 m : Nat) (ham : a0 ≤ m) (hm : m ≤ 100000) (lim : Int) (hlim : 1 ≤ lim) (w : World)
    (hb1 : B1 < w.heap.size) (hb2 : B2 < w.heap.size) (c1 : w.cell? ⟨B1, o1, none⟩ = some (.int .i64 (a0 : Int))) (c2 : w.cell? ⟨B2, o2, none⟩ = some sv) (hS : ShownW w.heap.size w sv m) :
    CallsIn F n Tryd.prog 39 #[.func (.func 64) #[] #[.pointer (some ⟨B1, o1, none⟩), .pointer (some ⟨B2, o2, none⟩)], .int .i64 lim] w fun e W' => ∃ (v : Value) (k : Nat) (b : Bool), e = .returned (.tuple #[v, .bool b]) ∧ W'.ownsRow (w.heap.size + 4) 3 1 v k (encI (intsFrom a0 k)) ∧ (v = .slice none 0 0 ↔ intsFrom a0 k = []) ∧ ((b = false ∧ k = m - a0 ∧ (k : Int) < lim) ∨ (b = true ∧ (k : Int) = lim ∧ k ≤ m - a0)) ∧ Below w.heap.size w W' := by
  have h1 : 1 ≤ n := by omega
  obtain ⟨i0, hi, hz0, hz1, hz2⟩ := info_parts info3
  refine callsIn_of_wp_marks Tryd.func39 rfl h39 ?_ hro
  simp only [Tryd.ntmps39, List.size_toArray, List.length_cons, List.length_nil, Nat.reduceAdd, Nat.reduceSub, Array.replicate_succ, Array.replicate_zero, List.push_toArray, List.append_toArray, List.nil_append, List.cons_append]
  gi_wp2
  obtain ⟨W0, e0⟩ : ∃ W0, W0 = w.alloc (.cells #[.int .i64 lim] 3) := ⟨_, rfl⟩
  obtain ⟨W1, e1⟩ : ∃ W1, W1 = W0.alloc (.cells #[.slice none 0 0] 61) := ⟨_, rfl⟩
  obtain ⟨W2, e2⟩ : ∃ W2, W2 = W1.alloc (.cells #[.bool false] 4) := ⟨_, rfl⟩
  obtain ⟨W3, e3⟩ : ∃ W3, W3 = W2.alloc (.cells #[.slice none 0 0] 61) := ⟨_, rfl⟩
  have s0 : W0.heap.size = w.heap.size + 1 := by rw [e0]; simp
  have s1 : W1.heap.size = w.heap.size + 2 := by rw [e1]; simp [s0]
  have s2 : W2.heap.size = w.heap.size + 3 := by rw [e2]; simp [s1]
  have s3 : W3.heap.size = w.heap.size + 4 := by rw [e3]; simp [s2]
  have b0 : Boxed W3 w.heap.size 3 (.int .i64 lim) := by rw [e3, e2, e1, e0]; exact (((Boxed.new w 3 _).alloc _).alloc _).alloc _
  have b1 : Boxed W3 (w.heap.size + 1) 61 (.slice none 0 0) := by rw [← s0, e3, e2, e1]; exact ((Boxed.new W0 61 _).alloc _).alloc _
  have b2 : Boxed W3 (w.heap.size + 2) 4 (.bool false) := by rw [show w.heap.size + 2 = W1.heap.size from by omega, e3, e2]; exact (Boxed.new W1 4 _).alloc _
  have b3 : Boxed W3 (w.heap.size + 3) 61 (.slice none 0 0) := by rw [show w.heap.size + 3 = W2.heap.size from by omega, e3]; exact Boxed.new W2 61 _
  have hB0 : Below w.heap.size w W3 := by
    rw [e3, e2, e1, e0]
    exact ((((Below.refl _ w).alloc (Nat.le_refl _) _).alloc (by simp) _).alloc (by simp; omega) _).alloc (by simp; omega) _
  have a1 : w.heap.size + 1 + 1 = w.heap.size + 2 := by omega
  rw [← e0, ← e1, ← e2, ← e3]
  clear e0 e1 e2 e3
  refine wpIn_rangeFunc_ownG hro h1 (gf := 64) (lb := #[.pointer (some ⟨B1, o1, none⟩), .pointer (some ⟨B2, o2, none⟩)]) rfl h64 (enters_of Tryd.func64 (by kernel_rfl) rfl)
    (up2_stops F (n - 1) h64 hro (by omega) B1 B2 o1 o2 w.heap.size sv a0 m ham (by omega) W3 (by omega) hb1 hb2 ((hB0.cell (p := ⟨B1, o1, none⟩) hb1).trans c1) ((hB0.cell (p := ⟨B2, o2, none⟩) hb2).trans c2) (hS.below hB0)) belowK_t (belowK_b (by omega)) (Below.refl _ _) (fun _ => rfl)
    (fun pre W => ((∃ v, Boxed W (w.heap.size + 3) 61 v ∧ W.ownsRow (w.heap.size + 4) 3 1 v pre.length (encI pre) ∧ ((v = .slice none 0 0 ↔ pre = []) ∧ (pre.length : Int) < lim)) ∧ Below w.heap.size w W) ∧ (Boxed W w.heap.size 3 (.int .i64 lim) ∧ Boxed W (w.heap.size + 1) 61 (.slice none 0 0)) ∧ Boxed W (w.heap.size + 2) 4 (.bool false))
    (fun c pre W => ((∃ v, Boxed W (w.heap.size + 1) 61 v ∧ W.ownsRow (w.heap.size + 4) 3 1 v pre.length (encI pre) ∧ (c = .ret ∧ (v = .slice none 0 0 ↔ pre = []) ∧ (pre.length : Int) = lim)) ∧ Below w.heap.size w W) ∧ Boxed W (w.heap.size + 2) 4 (.bool true))
    (OwnFrom.and (OwnFrom.and (Own.from (holdsRow_own (w.heap.size + 4) (w.heap.size + 3) 61 3 1 (fun pre : List Int => pre.length) (fun pre => encI pre) (fun pre v => (v = .slice none 0 0 ↔ pre = []) ∧ (pre.length : Int) < lim)) _) (ownFrom_below (Nat.le_refl _) (by omega)))
      (OwnFrom.and (OwnFrom.and (Own.from (boxed_own w.heap.size 3 (fun _ : List Int => .int .i64 lim)) _) (Own.from (boxed_own (w.heap.size + 1) 61 (fun _ : List Int => .slice none 0 0)) _)) (Own.from (boxed_own (w.heap.size + 2) 4 (fun _ : List Int => .bool false)) _)))
    (fun c => OwnFrom.and (OwnFrom.and (Own.from (holdsRow_own (w.heap.size + 4) (w.heap.size + 1) 61 3 1 (fun pre : List Int => pre.length) (fun pre => encI pre) (fun pre v => c = .ret ∧ (v = .slice none 0 0 ↔ pre = []) ∧ (pre.length : Int) = lim)) _) (ownFrom_below (Nat.le_refl _) (by omega))) (Own.from (boxed_own (w.heap.size + 2) 4 (fun _ : List Int => .bool true)) _))
    ⟨⟨⟨_, b3, World.ownsRow_nil _ _ _ _, by simp, by simp; omega⟩, hB0⟩, ⟨b0, b1⟩, b2⟩
    (fun x => { tmps := #[.func (.func 64) #[] #[.pointer (some ⟨B1, o1, none⟩), .pointer (some ⟨B2, o2, none⟩)], .int .i64 lim, undef, .pointer (some ⟨w.heap.size, 0, none⟩), .pointer (some ⟨w.heap.size + 1, 0, none⟩), .pointer (some ⟨w.heap.size + 2, 0, none⟩), .pointer (some ⟨w.heap.size + 2 + 1, 0, none⟩), .int .i64 x, .func (.func 64) #[] #[.pointer (some ⟨B1, o1, none⟩), .pointer (some ⟨B2, o2, none⟩)], .int .i64 x, undef, undef, undef, undef, undef, undef, undef, undef, undef, undef], defers := [] }) ?assign ?body ?done ?stop
  case assign =>
    intro l x W K hK
    gi_wp2
    exact hK
  case body =>
    rintro l pre x W ⟨⟨⟨v, hv, hrow, hnil, hlen⟩, hB⟩, ⟨q0, q1⟩, q2⟩ hlt
    have hc := hv.cell
    have hWs : w.heap.size + 4 ≤ W.heap.size := hv.lt
    by_cases hend : ((pre.length + 1 : Nat) : Int) = lim
    · gi_wp2_with (gi_at_builtin; refine wpListIn_append_own _ rfl _ _ 61 rfl (w.heap.size + 4) 3 i0 (.int .i64 0) 1 8 Tryd.underlying61 hi hz0 hz1 hz2 rfl (by decide) _ _ _ rfl (hrow.alloc _) ⟨W.heap.size, 0, none⟩ 1 1 [.int .i64 x] rfl rfl (cell_one_new _ _ _) (by simp [Value.oneCell']) (by simp only [maxLen]; omega) (by omega) (by simp; omega) ?_; intro v' w1 hown' hgrow _; obtain ⟨g', cap', rfl⟩ := ownsRow_succ hown'; obtain ⟨hv1, hv2, hr2, hk2, hb2, ho2⟩ := appended2 hv (by decide) hrow (Nat.le_add_right _ 4) hB.size (Nat.le_add_right _ 3) hown' hgrow; have hc1 := hv1.cell; have hf1 := hv1.frozen; have q0' := ho2 _ _ _ (by omega) (by omega) q0; have q1' := ho2 _ _ _ (by omega) (by omega) q1; have q2' := ho2 _ _ _ (by omega) (by omega) q2; have hc2 := hv2.cell; have hq0 := q0'.cell; have k1 := kept2 hrow hgrow (B' := w.heap.size + 1) (by omega) q1; have k2 := kept2 hrow hgrow (B' := w.heap.size + 2) (by omega) q2; have hf3 := k1.frozen; have hc3 := k1.cell; have hf4 := k2.frozen; have hc4 := k2.cell)
      have nrow : ∀ j, j < w.heap.size + 4 → some j ≠ (Value.slice (some ⟨g', 0, none⟩) (pre.length + 1) cap').ownBlock := fun j hj e => by
        rcases hr2.2 with ⟨e9, _⟩ | ⟨g, cap9, cur, e9, hb9, _⟩
        · cases e9
        · cases e9
          obtain rfl : j = g' := by simpa [Value.ownBlock] using e
          omega
      generalize hvv : Value.slice (some ⟨g', 0, none⟩) (pre.length + 1) cap' = vv at *
      generalize w1.setCell ⟨w.heap.size + 3, 0, none⟩ vv = W4 at *
      have g5 := grownBy_setCell' W4 (w.heap.size + 1) vv
      have g6 := grownBy_setCell' (W4.setCell ⟨w.heap.size + 1, 0, none⟩ vv) (w.heap.size + 2) (.bool true)
      have hs4 := (hB.trans hb2).size
      have hB5 := (hB.trans hb2).grown g5 hs4 (fun j e => by cases e; omega)
      have hB6 := hB5.grown g6 hB5.size (fun j e => by cases e; omega)
      have hr6 := (hr2.kept g5 (.inr (nrow _ (by omega)).symm)).kept g6 (.inr (nrow _ (by omega)).symm)
      refine ⟨((hk2.trans (KeepsOthers.setCell _ _ _)).trans (KeepsOthers.setCell _ _ _)).from _, ⟨⟨vv, (q1'.set vv).other (by omega) _, by simpa [encI] using hr6, rfl, ?_, ?_⟩, hB6⟩, (q2'.other (by omega) _).set _⟩
      · rw [← hvv]; simp
      · simpa using hend
    · gi_wp2_with (gi_at_builtin; refine wpListIn_append_own _ rfl _ _ 61 rfl (w.heap.size + 4) 3 i0 (.int .i64 0) 1 8 Tryd.underlying61 hi hz0 hz1 hz2 rfl (by decide) _ _ _ rfl (hrow.alloc _) ⟨W.heap.size, 0, none⟩ 1 1 [.int .i64 x] rfl rfl (cell_one_new _ _ _) (by simp [Value.oneCell']) (by simp only [maxLen]; omega) (by omega) (by simp; omega) ?_; intro v' w1 hown' hgrow _; obtain ⟨g', cap', rfl⟩ := ownsRow_succ hown'; obtain ⟨hv1, hv2, hr2, hk2, hb2, ho2⟩ := appended2 hv (by decide) hrow (Nat.le_add_right _ 4) hB.size (Nat.le_add_right _ 3) hown' hgrow; have hc1 := hv1.cell; have hf1 := hv1.frozen; have q0' := ho2 _ _ _ (by omega) (by omega) q0; have q1' := ho2 _ _ _ (by omega) (by omega) q1; have q2' := ho2 _ _ _ (by omega) (by omega) q2; have hc2 := hv2.cell; have hq0 := q0'.cell)
      exact ⟨hk2.from _, hb2, ⟨⟨⟨_, hv2, by simpa [encI] using hr2, by simp, by simp; omega⟩, hB.trans hb2⟩, ⟨q0', q1'⟩, q2'⟩⟩
  case done =>
    rintro D ys W hD rfl ⟨⟨⟨v, hv, hrow, hnil, hlen⟩, hB⟩, ⟨q0, q1⟩, q2⟩ hK
    rw [intsFrom_len] at hlen
    have hc := hv.cell
    have hc1 := q1.cell
    have hf1 := q1.frozen
    have hf2 := q2.frozen
    have hc2 := q2.cell
    have hsh : ∃ a k cap, v = .slice a k cap := by
      rcases hrow.2 with ⟨rfl, _⟩ | ⟨g, cap, cur, rfl, _⟩
      · exact ⟨_, _, _, rfl⟩
      · exact ⟨_, _, _, rfl⟩
    obtain ⟨a, k, cap, rfl⟩ := hsh
    gi_wp2
    obtain ⟨W4, e4⟩ : ∃ W4, W4 = W.setCell ⟨w.heap.size + 1, 0, none⟩ (.slice a k cap) := ⟨_, rfl⟩
    obtain ⟨W5, e5⟩ : ∃ W5, W5 = W4.setCell ⟨w.heap.size + 2, 0, none⟩ (.bool false) := ⟨_, rfl⟩
    have hDs : w.heap.size + 4 ≤ D := by omega
    have g4 : W.grownBy W4 (some (w.heap.size + 1)) := by rw [e4]; exact grownBy_setCell' _ _ _
    have g5 : W4.grownBy W5 (some (w.heap.size + 2)) := by rw [e5]; exact grownBy_setCell' _ _ _
    have r1 : Boxed W5 (w.heap.size + 1) 61 (.slice a k cap) := by rw [e5, e4]; exact (q1.set _).other (by omega) _
    have r2 : Boxed W5 (w.heap.size + 2) 4 (.bool false) := by rw [e5, e4]; exact (q2.other (by omega) _).set _
    have nrow : ∀ j, j < w.heap.size + 4 → some j ≠ (Value.slice a k cap).ownBlock := fun j hj e => by
      rcases hrow.2 with ⟨e9, _⟩ | ⟨g, cap9, cur, e9, hb9, _⟩
      · cases e9; simp [Value.ownBlock] at e
      · cases e9
        obtain rfl : j = g := by simpa [Value.ownBlock] using e
        omega
    have row5 : W5.ownsRow (w.heap.size + 4) 3 1 (.slice a k cap) (intsFrom a0 (m - a0)).length (encI (intsFrom a0 (m - a0))) := (hrow.kept g4 (.inr (nrow _ (by omega)).symm)).kept g5 (.inr (nrow _ (by omega)).symm)
    have k4 : W4.heap[D]? = some (.deferred (some [])) := (g4.block D (Array.getElem?_eq_some_iff.1 hK).1 (fun e => by cases e; omega)).trans hK
    have k5 : W5.heap[D]? = some (.deferred (some [])) := (g5.block D (Array.getElem?_eq_some_iff.1 k4).1 (fun e => by cases e; omega)).trans k4
    have hB5 : Below w.heap.size w W5 := (hB.grown g4 hB.size (fun j e => by cases e; omega)).grown g5 (hB.grown g4 hB.size (fun j e => by cases e; omega)).size (fun j e => by cases e; omega)
    rw [← e4, ← e5]
    refine ⟨by simp, .inl ⟨_, _, rfl, run_takeDeferred k5, ?_⟩⟩
    have r1' : (W5.putObj D (.deferred none)).cell? ⟨w.heap.size + 1, 0, none⟩ = some (.slice a k cap) := Boxed.cell (t := 61) ((World.putObj_heap_other (by omega)).trans r1)
    have r2' : (W5.putObj D (.deferred none)).cell? ⟨w.heap.size + 2, 0, none⟩ = some (.bool false) := Boxed.cell (t := 4) ((World.putObj_heap_other (by omega)).trans r2)
    refine ⟨.tuple #[.slice a k cap, .bool false], ?_, .slice a k cap, m - a0, .inl ⟨rfl, by have := ownsRow_putObj row5 (.deferred none) k5 rfl; rwa [intsFrom_len] at this, hnil, ⟨rfl, hlen⟩, hB5.trans (belowK_b (w := w) (Nat.le_refl _) W5 D _ _ (by omega) k5 rfl rfl)⟩⟩
    clear e4 e5
    have r2'' : (W5.putObj D (.deferred none)).cell? ⟨w.heap.size + 1 + 1, 0, none⟩ = some (.bool false) := r2'
    generalize W5.putObj D (.deferred none) = W6 at r1' r2' r2'' ⊢
    rw [results_cells2 rfl]
    go_simp
  case stop =>
    rintro D c pre W hD ⟨k, hk, rfl⟩ ⟨⟨⟨v, hv, hrow, rfl, hnil, hlen⟩, hB⟩, q2⟩ hK
    rw [intsFrom_len] at hlen
    have r1 := hv.cell
    have hDs : w.heap.size + 4 ≤ D := by omega
    gi_wp2
    refine ⟨by simp, .inl ⟨_, _, rfl, run_takeDeferred hK, ?_⟩⟩
    have r1' : (W.putObj D (.deferred none)).cell? ⟨w.heap.size + 1, 0, none⟩ = some v := Boxed.cell (t := 61) ((World.putObj_heap_other (by omega)).trans hv)
    have r2' : (W.putObj D (.deferred none)).cell? ⟨w.heap.size + 2, 0, none⟩ = some (.bool true) := Boxed.cell (t := 4) ((World.putObj_heap_other (by omega)).trans q2)
    have hfin : Below w.heap.size w (W.putObj D (.deferred none)) := hB.trans (belowK_b (w := w) (Nat.le_refl _) W D _ _ (by omega) hK rfl rfl)
    have hrow2 : (W.putObj D (.deferred none)).ownsRow (w.heap.size + 4) 3 1 v k (encI (intsFrom a0 k)) := by have := ownsRow_putObj hrow (.deferred none) hK rfl; rwa [intsFrom_len] at this
    refine ⟨.tuple #[v, .bool true], ?_, v, k, .inr ⟨rfl, hrow2, hnil, ⟨hlen, hk⟩, hfin⟩⟩
    clear hfin hrow2
    have r2'' : (W.putObj D (.deferred none)).cell? ⟨w.heap.size + 1 + 1, 0, none⟩ = some (.bool true) := r2'
    generalize W.putObj D (.deferred none) = W6 at r1' r2' r2'' ⊢
    rw [results_cells2 rfl]
    go_simp
end Go.Proofs.YtgefinddmggpnaaDoor
