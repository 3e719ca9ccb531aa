/-
  Chapter 21: the packets from one to another one, walked as they are handed out.
-/
import Derived.Test.YtaiajeomlfmegaaProg
import Derived.RangeFuncBox
import Derived.RangeFuncLeaves
import Derived.Shelf.Abstract
import Derived.WalkKit
import Derived.OwnWalkIn
import Derived.TacticsInMore
import Derived.LoopNIn
import Derived.LoopIn
import Derived.Sort.EveryDepth
namespace Go.Proofs.Ytaiajeomlfmegaa
open Go.RowKit Go.Shelf
attribute [local go_sem] Oper.semAt_some

/-- What a packet's cells hold. -/
structure Rp where
  f : Int
  t : Int
  da : Option Addr
  dn : Nat
  dc : Nat
/-- The net at this address holds these, in blocks below; or there are none. -/
def NetW (n₀ : Nat) (W : World) (A o : Nat) (l : List Rp) : Prop :=
  A < n₀ ∧ ((W.cell? ⟨A, o, none⟩ = some (.slice none 0 0) ∧ l = []) ∨
    ∃ b off cap, W.cell? ⟨A, o, none⟩ = some (.slice (some ⟨b, off, none⟩) l.length cap) ∧ b < n₀ ∧ ∀ (j : Nat) (h : j < l.length),
      W.cell? ⟨b, off + j * 3, none⟩ = some (.int .i64 l[j].f) ∧ W.cell? ⟨b, off + j * 3 + 1, none⟩ = some (.int .i64 l[j].t) ∧ W.cell? ⟨b, off + j * 3 + 2, none⟩ = some (.slice l[j].da l[j].dn l[j].dc))
theorem NetW.below {n₀ : Nat} {A B : World} (h : Below n₀ A B) {a o : Nat} {l : List Rp} : NetW n₀ A a o l → NetW n₀ B a o l
  | ⟨ha, .inl ⟨e, h0⟩⟩ => ⟨ha, .inl ⟨(h.cell (p := ⟨a, o, none⟩) ha).trans e, h0⟩⟩
  | ⟨ha, .inr ⟨b, off, cap, e, hb, hc⟩⟩ => ⟨ha, .inr ⟨b, off, cap, (h.cell (p := ⟨a, o, none⟩) ha).trans e, hb, fun j hj =>
      ⟨(h.cell (p := ⟨b, off + j * 3, none⟩) hb).trans (hc j hj).1, (h.cell (p := ⟨b, off + j * 3 + 1, none⟩) hb).trans (hc j hj).2.1, (h.cell (p := ⟨b, off + j * 3 + 2, none⟩) hb).trans (hc j hj).2.2⟩⟩⟩
theorem NetW.mono {n₀ n₁ : Nat} (h : n₀ ≤ n₁) {W : World} {a o : Nat} {l : List Rp} : NetW n₀ W a o l → NetW n₁ W a o l
  | ⟨ha, .inl k⟩ => ⟨Nat.lt_of_lt_of_le ha h, .inl k⟩
  | ⟨ha, .inr ⟨b, off, cap, e, hb, hc⟩⟩ => ⟨Nat.lt_of_lt_of_le ha h, .inr ⟨b, off, cap, e, Nat.lt_of_lt_of_le hb h, hc⟩⟩

/-- The net that is pointed to, or none. -/
def PtrW (n₀ : Nat) (W : World) (p : Option Addr) (l : List Rp) : Prop := (p = none ∧ l = []) ∨ ∃ A o, p = some ⟨A, o, none⟩ ∧ NetW n₀ W A o l
theorem PtrW.below {n₀ : Nat} {A B : World} (h : Below n₀ A B) {p : Option Addr} {l : List Rp} : PtrW n₀ A p l → PtrW n₀ B p l
  | .inl k => .inl k
  | .inr ⟨a, o, e, k⟩ => .inr ⟨a, o, e, k.below h⟩

set_option maxHeartbeats 1000000 in
theorem len_in (F : Fence) (n : Nat) (h11 : F.fn 11) (hro : F.round = none) (n₀ : Nat) (p : Option Addr) (l : List Rp) (w : World) (hN : PtrW n₀ w p l) :
    CallsIn F n Try.prog 11 #[.pointer p] w fun e w' => e = .returned (.int .i64 l.length) ∧ w' = w := by
  refine callsIn_of_wp Try.func11 rfl h11 ?_ hro
  simp only [Try.ntmps11, List.size_toArray, List.length_cons, List.length_nil, Nat.reduceAdd, Nat.reduceSub, Array.replicate_succ, Array.replicate_zero, List.push_toArray, List.append_toArray, List.nil_append, List.cons_append]
  obtain ⟨rfl, rfl⟩ | ⟨A, o, rfl, ha, ⟨e, rfl⟩ | ⟨b, off, cap, e, hb, hc⟩⟩ := hN
  · gi_wp2
    go_ret
    exact ⟨rfl, rfl⟩
  · gi_wp2
    go_ret
    exact ⟨rfl, rfl⟩
  · gi_wp2
    go_ret
    exact ⟨rfl, rfl⟩

set_option maxHeartbeats 1000000 in
theorem from_in (F : Fence) (n : Nat) (h29 : F.fn 29) (hro : F.round = none) (p : Option Addr) (x y : Int) (w : World) :
    CallsIn F n Try.prog 29 #[.pointer p, .int .i64 x, .int .i64 y] w fun e w' => e = .returned (.func (.func 30) #[] #[.pointer (some ⟨w.heap.size, 0, none⟩), .pointer (some ⟨w.heap.size + 1, 0, none⟩), .pointer (some ⟨w.heap.size + 2, 0, none⟩)]) ∧
      w' = ((w.alloc (.cells #[.pointer p] 24)).alloc (.cells #[.int .i64 x] 3)).alloc (.cells #[.int .i64 y] 3) := by
  refine callsIn_of_wp Try.func29 rfl h29 ?_ hro
  simp only [Try.ntmps29, List.size_toArray, List.length_cons, List.length_nil, Nat.reduceAdd, Nat.reduceSub, Array.replicate_succ, Array.replicate_zero, List.push_toArray, List.append_toArray, List.nil_append, List.cons_append]
  gi_wp2
  go_ret
  exact ⟨rfl, rfl⟩

/-- The ones that go from x to y. -/
def btw (x y : Int) (l : List Rp) : List Rp := l.filter (fun r => decide (r.f = x ∧ r.t = y))
theorem btw_take (x y : Int) (l : List Rp) {k : Nat} (hk : k < l.length) : btw x y (l.take (k + 1)) = if l[k].f = x ∧ l[k].t = y then btw x y (l.take k) ++ [l[k]] else btw x y (l.take k) := by
  rw [List.take_succ_eq_append_getElem hk]
  unfold btw
  rw [List.filter_append]
  by_cases h : l[k].f = x ∧ l[k].t = y
  · rw [if_pos h, List.filter_cons_of_pos (by simpa using h)]; rfl
  · rw [if_neg h, List.filter_cons_of_neg (by simpa using h)]; simp
theorem btw_len (x y : Int) (l : List Rp) (k : Nat) : (btw x y (l.take k)).length ≤ (btw x y l).length := by
  have h := List.take_append_drop k l
  have : (btw x y (l.take k)).length + (btw x y (l.drop k)).length = (btw x y l).length := by
    conv => rhs; rw [← h]
    unfold btw
    rw [List.filter_append, List.length_append]
  omega
theorem btw_lt (x y : Int) (l : List Rp) {k : Nat} (hk : k < l.length) (h : l[k].f = x ∧ l[k].t = y) : (btw x y (l.take k)).length < (btw x y l).length := by
  have h1 := btw_len x y l (k + 1)
  rw [btw_take x y l hk, if_pos h] at h1
  simp at h1; omega

/-- What was below stays, and what these three boxes hold. -/
def Kp3 (n₀ B1 B2 B3 : Nat) (A B : World) : Prop := Below n₀ A B ∧ (∀ v, A.cell? ⟨B1, 0, none⟩ = some v → B.cell? ⟨B1, 0, none⟩ = some v) ∧ (∀ v, A.cell? ⟨B2, 0, none⟩ = some v → B.cell? ⟨B2, 0, none⟩ = some v) ∧ (∀ v, A.cell? ⟨B3, 0, none⟩ = some v → B.cell? ⟨B3, 0, none⟩ = some v)
theorem Kp3.refl (n₀ B1 B2 B3 : Nat) (A : World) : Kp3 n₀ B1 B2 B3 A A := ⟨Below.refl _ _, fun _ h => h, fun _ h => h, fun _ h => h⟩
theorem Kp3.trans {n₀ B1 B2 B3 : Nat} {A B C : World} (h : Kp3 n₀ B1 B2 B3 A B) (k : Kp3 n₀ B1 B2 B3 B C) : Kp3 n₀ B1 B2 B3 A C :=
  ⟨h.1.trans k.1, fun v e => k.2.1 v (h.2.1 v e), fun v e => k.2.2.1 v (h.2.2.1 v e), fun v e => k.2.2.2 v (h.2.2.2 v e)⟩
theorem Kp3.of_below {n₀ B1 B2 B3 m : Nat} {A B : World} (h : Below m A B) (h0 : n₀ ≤ m) (h1 : B1 < m) (h2 : B2 < m) (h3 : B3 < m) : Kp3 n₀ B1 B2 B3 A B :=
  ⟨h.mono h0, fun _ e => (h.cell (p := ⟨B1, 0, none⟩) h1).trans e, fun _ e => (h.cell (p := ⟨B2, 0, none⟩) h2).trans e, fun _ e => (h.cell (p := ⟨B3, 0, none⟩) h3).trans e⟩

set_option maxRecDepth 100000 in
set_option maxHeartbeats 2000000 in
theorem from1_in (F : Fence) (n : Nat) (h30 : F.fn 30) (h11 : F.fn 11) (hro : F.round = none) (hn : 1 ≤ n) (l B1 B2 B3 n₀ : Nat) (p : Option Addr) (x y : Int) (ps : List Rp) (hreach : ps.length ≤ 1048576) (J Jx : List Rp → World → Prop) (Bj : Nat) (hJ : AbidesFrom Bj J)
    (hY : ∀ pre r W, J pre W → pre.length < (btw x y ps).length → YieldAt F (n - 1) Try.prog l #[.agg #[.int .i64 r.f, .int .i64 r.t, .slice r.da r.dn r.dc]] W fun e W' =>
      (e = .returned (.bool true) ∧ J (pre ++ [r]) W' ∧ Kp3 n₀ B1 B2 B3 W W') ∨ (e = .returned (.bool false) ∧ Jx (pre ++ [r]) W'))
    (W : World) (hb1 : B1 < W.heap.size) (hb2 : B2 < W.heap.size) (hb3 : B3 < W.heap.size) (hn₀ : n₀ ≤ W.heap.size) (h1 : W.cell? ⟨B1, 0, none⟩ = some (.pointer p)) (h2 : W.cell? ⟨B2, 0, none⟩ = some (.int .i64 x)) (h3 : W.cell? ⟨B3, 0, none⟩ = some (.int .i64 y)) (hN : PtrW n₀ W p ps) (h0 : J [] W) :
    CallsIn F n Try.prog 30 #[.func (.yield l) #[] #[], .pointer (some ⟨B1, 0, none⟩), .pointer (some ⟨B2, 0, none⟩), .pointer (some ⟨B3, 0, none⟩)] W fun e W' => (∃ v, e = .returned v) ∧
      ((∃ ys, ys = btw x y ps ∧ J ys W') ∨ (∃ pre, True ∧ Jx pre W')) := by
  refine callsIn_of_wp Try.func30 rfl h30 ?_ hro
  simp only [Try.ntmps30, List.size_toArray, List.length_cons, List.length_nil, Nat.reduceAdd, Nat.reduceSub, Array.replicate_succ, Array.replicate_zero, List.push_toArray, List.append_toArray, List.nil_append, List.cons_append]
  gi_wp2_with (gi_at_call 11; refine (len_in F (n - 1) h11 hro n₀ p ps _ hN).mono ?_; rintro e w' ⟨rfl, hw'⟩)
  subst w'
  gi_loopw [9] (fun i wr => ∃ k : Nat, k ≤ ps.length ∧ i = .int .i64 k ∧ J (btw x y (ps.take k)) wr ∧ Kp3 n₀ B1 B2 B3 W wr)
    (fun i _ => ps.length - (intOf i).toNat)
  case atStart => exact ⟨0, Nat.zero_le _, rfl, h0, Kp3.refl _ _ _ _ _⟩
  case round =>
    obtain ⟨k, hk, rfl, hJs, hnx⟩ := hrel
    have g1 : wr.cell? ⟨B1, 0, none⟩ = _ := hnx.2.1 _ h1
    have g2 : wr.cell? ⟨B2, 0, none⟩ = _ := hnx.2.2.1 _ h2
    have g3 : wr.cell? ⟨B3, 0, none⟩ = _ := hnx.2.2.2 _ h3
    have hN' := hN.below hnx.1
    have hsz := hnx.1.size
    by_cases hlt : k < ps.length
    · obtain ⟨rfl, hz⟩ | ⟨A, o, rfl, ha, ⟨e, hz⟩ | ⟨b, off, cap, e, hb, hc⟩⟩ := hN'
      · subst hz; simp at hlt
      · subst hz; simp at hlt
      obtain ⟨c1, c2, c3⟩ := hc k hlt
      have htk := btw_take x y ps hlt
      have hlen := btw_lt x y ps hlt
      clear hc
      generalize ps[k] = r at c1 c2 c3 htk hlen
      obtain ⟨pf, pt, da, dn, dc⟩ := r
      simp only at c1 c2 c3 htk hlen
      have hJp : J (btw x y (ps.take k)) (wr.alloc (.cells #[.int .i64 pf, .int .i64 pt, .slice da dn dc] 33)) := hJ _ _ _ none hJs (World.grownBy_alloc _ _ none) (fun r e => by cases e)
      have hBa : Kp3 n₀ B1 B2 B3 wr (wr.alloc (.cells #[.int .i64 pf, .int .i64 pt, .slice da dn dc] 33)) := Kp3.of_below ((Below.refl _ _).alloc (Nat.le_refl _) _) (by omega) (by omega) (by omega) (by omega)
      have g2' := hBa.2.2.1 _ g2
      have g3' := hBa.2.2.2 _ g3
      by_cases hm : pf = x ∧ pt = y
      · have hlen := hlen hm
        rw [if_pos hm] at htk
        obtain ⟨rfl, rfl⟩ := hm
        obtain ⟨fn, tmps, assign, body, hy, hR⟩ := hY _ ⟨pf, pt, da, dn, dc⟩ _ hJp hlen
        gi_wp2
        refine hR.mono ?_
        rintro e W3 (⟨rfl, hJ3, hk3⟩ | ⟨rfl, hJx3⟩)
        · gi_wp2
          go_roundw
          case rel => exact ⟨k + 1, by omega, by simp, by rw [htk]; exact hJ3, hnx.trans (hBa.trans hk3)⟩
          case measure => simp [intOf]; omega
        · gi_wp2
          refine bodyPost_ret (results_none rfl _ _ _) rfl ?_
          exact ⟨⟨_, rfl⟩, .inr ⟨_, trivial, hJx3⟩⟩
      · rw [if_neg hm] at htk
        by_cases hf : pf = x
        · have ht : pt ≠ y := fun h => hm ⟨hf, h⟩
          subst hf
          gi_wp2
          refine ⟨(fun f e => nomatch e), ?_⟩
          gi_wp2
          go_roundw
          case rel => exact ⟨k + 1, by omega, by simp, by rw [htk]; exact hJp, hnx.trans hBa⟩
          case measure => simp [intOf]; omega
        · gi_wp2
          refine ⟨(fun f e => nomatch e), ?_⟩
          gi_wp2
          go_roundw
          case rel => exact ⟨k + 1, by omega, by simp, by rw [htk]; exact hJp, hnx.trans hBa⟩
          case measure => simp [intOf]; omega
    · obtain rfl : k = ps.length := by omega
      rw [List.take_length] at hJs
      gi_wp2
      go_end0
      exact ⟨⟨_, rfl⟩, .inl ⟨_, rfl, hJs⟩⟩
end Go.Proofs.Ytaiajeomlfmegaa
