import Derived.Test.YtdgdkgfkeinhbaaProg
import Derived.RangeFuncBox
import Derived.RangeFuncLeaves
import Derived.Shelf.Abstract
import Derived.WalkKit
import Derived.OwnWalkIn
import Derived.TacticsInMore
import Derived.LoopNIn
import Derived.LoopIn
import Derived.Sort.EncStr
import Derived.Maps.AppendAt
import Derived.RangeFuncBound
import Derived.Sort.OwnSorted
import Derived.Sort.EveryDepth
import Derived.Shelf.Sort.AssemblysIn
import Derived.Shelf.Slices.In.SortNone
import Derived.Test.YtdgdkgfkeinhbaaMxSg
/-
  Chapter 3: the library's slices.Values over texts, and slices.AppendSeq, Collect, Sorted of it, walked.
-/
namespace Go.Proofs.Ytdgdkgfkeinhbaa
open Go.RowKit Go.Shelf
attribute [local go_sem] Oper.semAt_some

/-- What has come when so many rounds are over. -/
def upto {α : Type} (f : Nat → α) (k : Nat) : List α := (List.range k).map f
theorem upto_succ {α : Type} (f : Nat → α) (k : Nat) : upto f (k + 1) = upto f k ++ [f k] := by simp [upto, List.range_succ]
theorem upto_length {α : Type} (f : Nat → α) (k : Nat) : (upto f k).length = k := by simp [upto]
theorem upto_all (zs : List ByteArray) : upto (fun j => zs[j]?.getD ByteArray.empty) zs.length = zs := by
  apply List.ext_getElem
  · simp [upto]
  · intro i h1 h2
    simp [upto, h2]
theorem upto_take (zs : List ByteArray) {k : Nat} (hk : k ≤ zs.length) : upto (fun j => zs[j]?.getD ByteArray.empty) k = zs.take k := by
  apply List.ext_getElem
  · simp [upto, hk]
  · intro i h1 h2
    have : i < zs.length := by simp [upto] at h1; omega
    simp [upto, this]

set_option maxRecDepth 100000 in
set_option maxHeartbeats 2000000 in
theorem values1_in (F : Fence) (n : Nat) (h7 : F.fn 34) (hro : F.round = none) (hn : 1 ≤ n) (l Bs bo n₀ b off len cap : Nat) (zs : List ByteArray) (hreach : len * 16 ≤ 140737488351232) (hb : b < n₀) (J Jx : List ByteArray → World → Prop)
    (hY : ∀ pre x W, J pre W → pre.length < len → YieldAt F (n - 1) Try.prog l #[.string x] W fun e W' =>
      (e = .returned (.bool true) ∧ J (pre ++ [x]) W' ∧ Below n₀ W W') ∨ (e = .returned (.bool false) ∧ Jx (pre ++ [x]) W'))
    (W : World) (hBs : W.cell? ⟨Bs, bo, none⟩ = some (.slice (some ⟨b, off, none⟩) len cap)) (hc : ∀ j, j < len → W.cell? ⟨b, off + j, none⟩ = some (.string (zs[j]?.getD ByteArray.empty))) (h0 : J [] W) :
    CallsIn F n Try.prog 34 #[.func (.yield l) #[] #[], .pointer (some ⟨Bs, bo, none⟩)] W fun e W' => (∃ v, e = .returned v) ∧
      ((∃ ys, ys = upto (fun j => zs[j]?.getD ByteArray.empty) len ∧ J ys W') ∨ (∃ pre, (∃ k, k ≤ len ∧ pre = upto (fun j => zs[j]?.getD ByteArray.empty) k) ∧ Jx pre W')) := by
  refine callsIn_of_wp Try.func34 rfl h7 ?_ hro
  simp only [Try.ntmps34, List.size_toArray, List.length_cons, List.length_nil, Nat.reduceAdd, Nat.reduceSub, Array.replicate_succ, Array.replicate_zero, List.push_toArray, List.append_toArray, List.nil_append, List.cons_append]
  gi_wp2
  gi_loopw [7] (fun i wr => ∃ k : Nat, k ≤ len ∧ i = .int .i64 k ∧ J (upto (fun j => zs[j]?.getD ByteArray.empty) k) wr ∧ Below n₀ W wr)
    (fun i _ => len - (intOf i).toNat)
  case atStart => exact ⟨0, Nat.zero_le _, rfl, h0, Below.refl _ _⟩
  case round =>
    obtain ⟨k, hk, rfl, hJs, hnx⟩ := hrel
    have hcx : k < len → wr.cell? ⟨b, off + k, none⟩ = some (.string (zs[k]?.getD ByteArray.empty)) := fun h => (hnx.cell (p := ⟨b, off + k, none⟩) hb).trans (hc k h)
    by_cases hlt : k < len
    · obtain ⟨fn, tmps, assign, body, hy, hR⟩ := hY _ (zs[k]?.getD ByteArray.empty) wr hJs (by rw [upto_length]; exact hlt)
      have hcx' := hcx hlt
      gi_wp2
      refine hR.mono ?_
      rintro e W3 (⟨rfl, hJ3, hk3⟩ | ⟨rfl, hJx3⟩)
      · gi_wp2
        go_roundw
        case rel => exact ⟨k + 1, by omega, by simp, by rw [upto_succ]; exact hJ3, hnx.trans hk3⟩
        case measure => simp [intOf]; omega
      · gi_wp2
        refine bodyPost_ret (results_none rfl _ _ _) rfl ?_
        exact ⟨⟨_, rfl⟩, .inr ⟨_, ⟨k + 1, by omega, (upto_succ _ _).symm⟩, hJx3⟩⟩
    · obtain rfl : k = len := by omega
      gi_wp2
      go_end0
      exact ⟨⟨_, rfl⟩, .inl ⟨_, rfl, hJs⟩⟩

/-- The slice's value holds these texts, in a block below; or there are none. -/
def Strs (n₀ : Nat) (W : World) (sv : Value) (zs : List ByteArray) : Prop :=
  (∃ a cap, sv = .slice a 0 cap ∧ zs = []) ∨ ∃ b off cap, sv = .slice (some ⟨b, off, none⟩) zs.length cap ∧ b < n₀ ∧ ∀ j, j < zs.length → W.cell? ⟨b, off + j, none⟩ = some (.string (zs[j]?.getD ByteArray.empty))
theorem Strs.below {n₀ : Nat} {A B : World} (h : Below n₀ A B) {sv : Value} {zs : List ByteArray} : Strs n₀ A sv zs → Strs n₀ B sv zs
  | .inl e => .inl e
  | .inr ⟨b, off, cap, e, hb, hc⟩ => .inr ⟨b, off, cap, e, hb, fun j hj => (h.cell (p := ⟨b, off + j, none⟩) hb).trans (hc j hj)⟩

set_option maxRecDepth 100000 in
set_option maxHeartbeats 1000000 in
theorem values1_nil_in (F : Fence) (n : Nat) (h7 : F.fn 34) (hro : F.round = none) (l Bs bo : Nat) (J : List ByteArray → World → Prop) (W : World) (a : Option Addr) (cap : Nat) (hBs : W.cell? ⟨Bs, bo, none⟩ = some (.slice a 0 cap)) (h0 : J [] W) :
    CallsIn F n Try.prog 34 #[.func (.yield l) #[] #[], .pointer (some ⟨Bs, bo, none⟩)] W fun e W' => (∃ v, e = .returned v) ∧ J [] W' := by
  refine callsIn_of_wp Try.func34 rfl h7 ?_ hro
  simp only [Try.ntmps34, List.size_toArray, List.length_cons, List.length_nil, Nat.reduceAdd, Nat.reduceSub, Array.replicate_succ, Array.replicate_zero, List.push_toArray, List.append_toArray, List.nil_append, List.cons_append]
  gi_wp2
  gi_loopw [7] (fun i wr => i = .int .i64 0 ∧ J [] wr) (fun _ _ => 0)
  case atStart => exact ⟨rfl, h0⟩
  case round =>
    obtain ⟨rfl, hJs⟩ := hrel
    gi_wp2
    go_end0
    exact ⟨⟨_, rfl⟩, hJs⟩

theorem values_stops (F : Fence) (n : Nat) (h7 : F.fn 34) (hro : F.round = none) (hn : 1 ≤ n) (Bs bo n₀ : Nat) (sv : Value) (zs : List ByteArray) (hreach : zs.length * 16 ≤ 140737488351232) (w : World) (hBs : Bs < w.heap.size) (hn₀ : n₀ ≤ w.heap.size)
    (hc : w.cell? ⟨Bs, bo, none⟩ = some sv) (hI : Strs n₀ w sv zs) :
    SeqStopsK F n Try.prog 34 #[.pointer (some ⟨Bs, bo, none⟩)] (fun x : ByteArray => #[Value.string x]) (Below n₀) (fun ys => ys = zs) (fun pre => pre <+: zs) zs.length w := fun l J Jx W hW _ _ hY h0 => by
  have hc' := (hW.cell (p := ⟨Bs, bo, none⟩) hBs).trans hc
  rcases hI.below (hW.mono hn₀) with ⟨a, cap, rfl, rfl⟩ | ⟨b, off, cap, rfl, hb, hcs⟩
  · exact (values1_nil_in F n h7 hro l Bs bo J W a cap hc' h0).mono fun e W' ⟨he, hj⟩ => ⟨he, .inl ⟨_, rfl, hj⟩⟩
  · refine (values1_in F n h7 hro hn l Bs bo n₀ b off zs.length cap zs hreach hb J Jx hY W hc' hcs h0).mono ?_
    rintro e W' ⟨he, ⟨ys, rfl, hj⟩ | ⟨pre, ⟨k, hk, rfl⟩, hj⟩⟩
    · exact ⟨he, .inl ⟨_, upto_all zs, hj⟩⟩
    · exact ⟨he, .inr ⟨_, by rw [upto_take zs hk]; exact List.take_prefix _ _, hj⟩⟩
end Go.Proofs.Ytdgdkgfkeinhbaa

/-
  Chapter 3: the library's AppendSeq, Collect and Sorted of the texts of a slice.
-/
namespace Go.Proofs.Ytdgdkgfkeinhbaa
open Go.RowKit Go.Shelf
attribute [local go_sem] Oper.semAt_some

set_option maxRecDepth 100000 in
set_option maxHeartbeats 2000000 in
theorem appendSeq_in (F : Fence) (n : Nat) (h38 : F.fn 38) (h34 : F.fn 34) (hro : F.round = none) (hn : 3 ≤ n) (Bs bo : Nat) (sv : Value) (zs : List ByteArray) (hreach : zs.length * 16 ≤ 140737488351232) (w : World) (hBs : Bs < w.heap.size)
    (hcB : w.cell? ⟨Bs, bo, none⟩ = some sv) (hI : Strs w.heap.size w sv zs) :
    CallsIn F n Try.prog 38 #[.slice none 0 0, .func (.func 34) #[] #[.pointer (some ⟨Bs, bo, none⟩)]] w fun e W' => ∃ v, e = .returned v ∧ W'.ownsRow w.heap.size 9 1 v zs.length (zs.map Value.string) ∧ (zs = [] → v = .slice none 0 0) ∧ Below w.heap.size w W' := by
  have h1 : 1 ≤ n := by omega
  have hml : zs.length ≤ maxLen := by unfold maxLen; omega
  obtain ⟨i0, hi, hz0, hz1, hz2⟩ := info_parts (show (Try.prog.info? 9).map (fun i => (i.zero, i.size, i.bytes)) = some (some (Value.string ⟨#[]⟩), 1, 16) from by kernel_rfl)
  refine callsIn_of_wp_marks Try.func38 rfl h38 ?_ hro
  simp only [Try.ntmps38, List.size_toArray, List.length_cons, List.length_nil, Nat.reduceAdd, Nat.reduceSub, Array.replicate_succ, Array.replicate_zero, List.push_toArray, List.append_toArray, List.nil_append, List.cons_append]
  gi_wp2
  have bO := Boxed.new w 22 (.slice none 0 0)
  have hB0 : Below w.heap.size w (w.alloc (.cells #[.slice none 0 0] 22)) := (Below.refl _ w).alloc (Nat.le_refl _) _
  refine wpIn_rangeFunc_ownG hro h1 (gf := 34) (lb := #[.pointer (some ⟨Bs, bo, none⟩)]) rfl h34 (enters_of Try.func34 (by kernel_rfl) rfl)
    (values_stops F (n - 1) h34 hro (by omega) Bs bo w.heap.size sv zs hreach _ (by simp; omega) (by simp) ((hB0.cell (p := ⟨Bs, bo, none⟩) hBs).trans hcB) (hI.below hB0)) belowK_t (belowK_b (by simp)) (Below.refl _ _) (fun _ => rfl)
    (fun pre W => (∃ v, Boxed W w.heap.size 22 v ∧ W.ownsRow w.heap.size 9 1 v pre.length (pre.map Value.string) ∧ (pre = [] → v = .slice none 0 0)) ∧ Below w.heap.size w W)
    (fun _ _ _ => False)
    (OwnFrom.and (Own.from (holdsRow_own w.heap.size w.heap.size 22 9 1 (fun pre : List ByteArray => pre.length) (fun pre => pre.map Value.string) (fun pre v => pre = [] → v = .slice none 0 0)) _) (ownFrom_below (Nat.le_refl _) (by simp)))
    (fun _ _ _ _ _ hs _ _ => hs)
    ⟨⟨_, bO, World.ownsRow_nil _ _ _ _, fun _ => rfl⟩, hB0⟩
    (fun x => { tmps := #[.slice none 0 0, .func (.func 34) #[] #[.pointer (some ⟨Bs, bo, none⟩)], .pointer (some ⟨w.heap.size, 0, none⟩), undef, .slice none 0 0, .string x, .func (.func 34) #[] #[.pointer (some ⟨Bs, bo, none⟩)], .string x, undef, undef, undef, undef, undef], defers := [] }) ?assign ?body ?done ?stop
  case assign =>
    intro l x W K hK
    gi_wp2
    exact hK
  case body =>
    rintro l pre x W ⟨⟨v, hv, hrow, _⟩, hB⟩ hlt
    have hc := hv.cell
    gi_wp2_with (gi_at_builtin; refine wpListIn_append_own _ rfl _ _ 22 rfl w.heap.size 9 i0 (.string ⟨#[]⟩) 1 16 Try.underlying22 hi hz0 hz1 hz2 rfl (by decide) _ _ _ rfl (hrow.alloc _) ⟨W.heap.size, 0, none⟩ 1 1 [.string x] rfl rfl (cell_one_new _ _ _) (by simp [Value.oneCell']) (by omega) (by omega) (by have := hB.size; simp; omega) ?_; intro v' w1 hown' hgrow _; obtain ⟨g', cap', rfl⟩ := ownsRow_succ hown'; obtain ⟨hv1, hv2, hr2, hk2, hb2⟩ := hv.appended (by decide) hrow hB.size (Nat.le_refl _) hown' hgrow; have hc1 := hv1.cell; have hf1 := hv1.frozen)
    exact ⟨hk2.from _, hb2, ⟨_, hv2, by simpa using hr2, fun e => by simp at e⟩, hB.trans hb2⟩
  case done =>
    rintro D ys W hD rfl ⟨⟨v, hv, hrow, hnil⟩, hB⟩ hK
    have hc := hv.cell
    gi_wp2
    refine ⟨by simp, .inl ⟨_, _, rfl, run_takeDeferred hK, ?_⟩⟩
    exact ⟨_, results_tmp rfl _ _ _, v, rfl, ownsRow_putObj hrow _ hK rfl, hnil, hB.trans (belowK_b (w := w) (Nat.le_refl _) W D _ _ (by simp at hD; omega) hK rfl rfl)⟩
  case stop =>
    rintro D c pre W _ _ h _
    exact h.elim
end Go.Proofs.Ytdgdkgfkeinhbaa

/-
  Chapter 3: AppendSeq over Values, as the abstract machine is told of it.
-/
namespace Go.Proofs.Ytdgdkgfkeinhbaa
open Go.RowKit Go.Mx

/-- A slice of texts that stands by value. -/
def RowS (sv : AV) (l : List ByteArray) : Prop := (∃ x, sv = .row x l.length (l.map strV)) ∨ (sv = .v (.slice none 0 0) ∧ l = [])

theorem strs_of {ρ : Rho} {I : Imm} {H : Hp} {w : World} (hs : StH ρ I H w) {sv : AV} {l : List ByteArray} (h : RowS sv l) {u : Value} (hu : VR ρ I sv u) : Strs w.heap.size w u l := by
  rcases h with ⟨x, rfl⟩ | ⟨rfl, rfl⟩
  · cases hu with
    | row _ _ _ us a cap h1 h2 h3 h4 h5 h6 =>
      rcases h3 with ⟨h3, h7⟩ | ⟨ad, rfl, hsp, hone, arr, hi, hr⟩
      · have : l = [] := List.eq_nil_of_length_eq_zero h3
        subst this
        exact .inl ⟨a, cap, by simp, rfl⟩
      · obtain ⟨T, fz, hb⟩ := hs.imm _ _ hi
        refine .inr ⟨ad.block, ad.off, cap, ?_, (Array.getElem?_eq_some_iff.1 hb).1, fun j hj => ?_⟩
        · cases ad; simp at hsp; subst hsp; rfl
        · have hj2 : j < us.length := by rw [h1]; simpa using hj
          have e := hr j hj2
          have e2 : VR ρ I (strV l[j]) (us.getD j undef) := h2 j _ (by simp [hj])
          have e3 := e2.v_is
          rw [e3] at e
          simp [World.cell?, hb, e, List.getElem?_eq_getElem hj]
  · rw [hu.v_is]
    exact .inl ⟨none, 0, rfl, rfl⟩

theorem appendSeq_sp {H : Hp} {id : Nat} {sv : AV} {l : List ByteArray} (Q : AV → Hp → Prop) (hid : H[id]? = some (.cells 0 [sv])) (hsv : RowS sv l) (hl : l.length * 16 ≤ 140737488351232)
    (h : ∀ v H', NewR H H' (l.map strV) v → Same [] H H' → Q v H') : Sp Try.prog 38 [.v (.slice none 0 0), .fn (.func 34) [] [.ptr id 0 0]] Q H := by
  intro ρ I w us hs hv
  have hln := hv.1
  match us, hln, hv with
  | [u0, u1], _, hv =>
    have h0 : VR ρ I (.v (.slice none 0 0)) u0 := by simpa using hv.2 0 _ rfl
    have h1 : VR ρ I (.fn (.func 34) [] [.ptr id 0 0]) u1 := by simpa using hv.2 1 _ rfl
    have := h0.v_is; subst this
    cases h1 with
    | fn _ _ _ us vs k1 k2 k3 k4 =>
      have : us = [] := List.eq_nil_of_length_eq_zero k1
      subst this
      have k5 : VR ρ I (.ptr id 0 0) (vs.getD 0 undef) := k4 0 _ rfl
      match vs, k3, k5 with
      | [v0], _, k5 =>
        simp at k5
        cases k5 with
        | ptr _ _ _ lo hlo =>
          obtain ⟨_, l', e, hc⟩ := hs.obj _ _ hid
          rw [hlo] at e; simp at e; subst e
          obtain ⟨arr, T, g1, g2, g3, g4⟩ := hc
          obtain ⟨u, hu, hvr, _⟩ := g4 0 _ rfl
          have hb : lo.blk < w.heap.size := (Array.getElem?_eq_some_iff.1 g1).1
          have hcu : w.cell? ⟨lo.blk, lo.base + 0, none⟩ = some u := by simpa [World.cell?, g1] using hu
          refine (calls_of_every_depth (L := [38, 34]) (n := 3) (fun D => appendSeq_in (Fence.list [38, 34] (some D)) 3 (show 38 ∈ _ by decide) (show 34 ∈ _ by decide) rfl (Nat.le_refl _) lo.blk (lo.base + 0) u l hl w hb hcu (strs_of hs hsv hvr))).mono ?_
          rintro e w' ⟨v, rfl, hown, hnl, hbel⟩
          have hg : Gw none w w' := ⟨hbel.os, hbel.tape, hbel.output, hbel.size, fun b hlt _ => hbel.block b hlt⟩
          obtain ⟨hxl, ⟨rfl, h0⟩ | ⟨g, cap, cur, rfl, hge, hgb, hcap, _, hcs, htk⟩⟩ := hown
          · have : l = [] := List.eq_nil_of_length_eq_zero h0
            subst this
            exact ⟨_, _, ρ, I, H, rfl, Mv.junk hs hg, .v _, h _ _ (.inl ⟨rfl, rfl⟩) (Same.refl _ _)⟩
          · by_cases hnil : l = []
            · exact absurd (hnl hnil) (by simp)
            have hle : l.length ≤ cur.size := by omega
            have hob : ObR (ρ.set H.length 0 ⟨g, 0, cur.size⟩) I w' H.length (.cells 0 (l.map strV)) := ⟨fun v' hv' => by
                unfold Rho.set
                rw [if_neg (by omega)]
                exact hs.rho_none (Nat.le_refl _) v', ⟨g, 0, cur.size⟩, by simp [Rho.set], cur, 9, hgb, rfl, by simpa using hle, fun i c hc => by
                rw [List.getElem?_map] at hc
                cases hi : l[i]? with
                | none => rw [hi] at hc; simp at hc
                | some s =>
                  rw [hi] at hc; simp at hc; subst hc
                  have hlt := (List.getElem?_eq_some_iff.1 hi).1
                  refine ⟨.string s, ?_, .v _, rfl⟩
                  have e := congrArg (fun x => x[i]?) htk
                  simp only [Nat.mul_one] at e
                  rw [List.getElem?_take, if_pos hlt, List.getElem?_map, hi, Array.getElem?_toList] at e
                  simpa using e⟩
            have hm := Mv.newObj hs hg (l := ⟨g, 0, cur.size⟩) (ob := .cells 0 (l.map strV)) hge hob (by simp [blkOf, Rho.set])
            refine ⟨.sl H.length 0 1 0 l.length, _, _, I, _, rfl, hm, ?_, h _ _ (.inr ⟨by simpa using hnil, H.length, 0, [], by simp, by simp, Nat.le_refl _⟩) (Same.app _ _ _)⟩
            exact .sl H.length 0 1 0 l.length ⟨g, 0, cur.size⟩ cap (by simp [Rho.set]) hcap (by simp; omega)
end Go.Proofs.Ytdgdkgfkeinhbaa
