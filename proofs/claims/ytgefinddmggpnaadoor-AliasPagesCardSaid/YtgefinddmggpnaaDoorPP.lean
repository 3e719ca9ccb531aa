import Derived.Test.YtgefinddmggpnaaDoorProg
import Derived.Shelf.SlSortCmp.NoneTotal
import Derived.Test.YtgefinddmggpnaaDoorPA
import Derived.Test.YtgefinddmggpnaaDoorMxSh
import Derived.Test.YtgefinddmggpnaaDoorMxSi
namespace Go.Proofs.YtgefinddmggpnaaDoor
def laySortF_ren : Go.Shelf.Ren := ⟨fun | 6 => 20 | 15 => 35 | 14 => 34 | 28 => 62 | 29 => 63 | 20 => 54 | 21 => 55 | 22 => 56 | 23 => 57 | 24 => 58 | 25 => 59 | 26 => 60 | 27 => 61 | 46 => 81 | 47 => 82 | 48 => 83 | 49 => 84 | 50 => 85 | 57 => 93 | n => n, fun | 22 => 26 | 24 => 30 | 25 => 60 | 3 => 3 | 39 => 78 | 0 => 0 | 53 => 108 | 55 => 110 | 4 => 4 | 46 => 101 | 45 => 100 | 50 => 105 | 5 => 5 | 9 => 9 | 66 => 123 | 70 => 127 | 76 => 131 | 77 => 132 | n => n, fun n => n⟩
theorem laySortF : Go.Proofs.SlLaysF0.n6 Tryd.prog laySortF_ren := { mixed := by kernel_rfl, f6 := ⟨ "slices.SortFunc[[]agora/api.Place,agora/api.Place]", of_decide_eq_true (by kernel_rfl), Tryd.func20.trans (congrArg some (by kernel_rfl))⟩, f14 := ⟨ "slices.pdqsortCmpFunc[agora/api.Place]", of_decide_eq_true (by kernel_rfl), Tryd.func34.trans (congrArg some (by kernel_rfl))⟩, f15 := Tryd.func35.trans (congrArg some (by kernel_rfl)), f20 := ⟨ "slices.insertionSortCmpFunc[agora/api.Place]", of_decide_eq_true (by kernel_rfl), Tryd.func54.trans (congrArg some (by kernel_rfl))⟩, f21 := ⟨ "slices.heapSortCmpFunc[agora/api.Place]", of_decide_eq_true (by kernel_rfl), Tryd.func55.trans (congrArg some (by kernel_rfl))⟩, f22 := ⟨ "slices.breakPatternsCmpFunc[agora/api.Place]", of_decide_eq_true (by kernel_rfl), Tryd.func56.trans (congrArg some (by kernel_rfl))⟩, f23 := ⟨ "slices.choosePivotCmpFunc[agora/api.Place]", of_decide_eq_true (by kernel_rfl), Tryd.func57.trans (congrArg some (by kernel_rfl))⟩, f24 := ⟨ "slices.reverseRangeCmpFunc[agora/api.Place]", of_decide_eq_true (by kernel_rfl), Tryd.func58.trans (congrArg some (by kernel_rfl))⟩, f25 := ⟨ "slices.partialInsertionSortCmpFunc[agora/api.Place]", of_decide_eq_true (by kernel_rfl), Tryd.func59.trans (congrArg some (by kernel_rfl))⟩, f26 := ⟨ "slices.partitionEqualCmpFunc[agora/api.Place]", of_decide_eq_true (by kernel_rfl), Tryd.func60.trans (congrArg some (by kernel_rfl))⟩, f27 := ⟨ "slices.partitionCmpFunc[agora/api.Place]", of_decide_eq_true (by kernel_rfl), Tryd.func61.trans (congrArg some (by kernel_rfl))⟩, f28 := Tryd.func62.trans (congrArg some (by kernel_rfl)), f29 := Tryd.func63.trans (congrArg some (by kernel_rfl)), f46 := ⟨ "slices.siftDownCmpFunc[agora/api.Place]", of_decide_eq_true (by kernel_rfl), Tryd.func81.trans (congrArg some (by kernel_rfl))⟩, f47 := Tryd.func82.trans (congrArg some (by kernel_rfl)), f48 := Tryd.func83.trans (congrArg some (by kernel_rfl)), f49 := ⟨ "slices.medianAdjacentCmpFunc[agora/api.Place]", of_decide_eq_true (by kernel_rfl), Tryd.func84.trans (congrArg some (by kernel_rfl))⟩, f50 := ⟨ "slices.medianCmpFunc[agora/api.Place]", of_decide_eq_true (by kernel_rfl), Tryd.func85.trans (congrArg some (by kernel_rfl))⟩, f57 := ⟨ "slices.order2CmpFunc[agora/api.Place]", of_decide_eq_true (by kernel_rfl), Tryd.func93.trans (congrArg some (by kernel_rfl))⟩, t0 := Tryd.underlying0, a0 := Tryd.isAgg0, z0 := Tryd.sizeOf0, v0 := Tryd.zeroValue0, t3 := Tryd.underlying3, a3 := Tryd.isAgg3, z3 := Tryd.sizeOf3, v3 := Tryd.zeroValue3, t4 := Tryd.underlying4, a4 := Tryd.isAgg4, z4 := Tryd.sizeOf4, v4 := Tryd.zeroValue4, t5 := Tryd.underlying5, a5 := Tryd.isAgg5, z5 := Tryd.sizeOf5, v5 := Tryd.zeroValue5, t9 := Tryd.underlying9, a9 := Tryd.isAgg9, z9 := Tryd.sizeOf9, v9 := Tryd.zeroValue9, t22 := Tryd.underlying26, a22 := Tryd.isAgg26, z22 := Tryd.sizeOf26, v22 := Tryd.zeroValue26, t25 := Tryd.underlying60, a25 := Tryd.isAgg60, z25 := Tryd.sizeOf60, v25 := Tryd.zeroValue60, t39 := Tryd.underlying78, a39 := Tryd.isAgg78, z39 := Tryd.sizeOf78, v39 := Tryd.zeroValue78, t45 := Tryd.underlying100, a45 := Tryd.isAgg100, z45 := Tryd.sizeOf100, v45 := Tryd.zeroValue100, t46 := Tryd.underlying101, a46 := Tryd.isAgg101, z46 := Tryd.sizeOf101, v46 := Tryd.zeroValue101, t50 := Tryd.underlying105, a50 := Tryd.isAgg105, z50 := Tryd.sizeOf105, v50 := Tryd.zeroValue105, t53 := Tryd.underlying108, a53 := Tryd.isAgg108, z53 := Tryd.sizeOf108, v53 := Tryd.zeroValue108, t55 := Tryd.underlying110, a55 := Tryd.isAgg110, z55 := Tryd.sizeOf110, v55 := Tryd.zeroValue110, t66 := Tryd.underlying123, a66 := Tryd.isAgg123, z66 := Tryd.sizeOf123, v66 := Tryd.zeroValue123, t70 := Tryd.underlying127, a70 := Tryd.isAgg127, z70 := Tryd.sizeOf127, v70 := Tryd.zeroValue127, t76 := Tryd.underlying131, a76 := Tryd.isAgg131, z76 := Tryd.sizeOf131, v76 := Tryd.zeroValue131, t77 := Tryd.underlying132, a77 := Tryd.isAgg132, z77 := Tryd.sizeOf132, v77 := Tryd.zeroValue132 }
end Go.Proofs.YtgefinddmggpnaaDoor

namespace Go.Proofs.YtgefinddmggpnaaDoor
open Go.Mx
set_option linter.unusedVariables false
set_option linter.unusedSimpArgs false
set_option maxRecDepth 100000

/-! ### The order of places -/
def txl (s : ByteArray) : List UInt8 := s.toList
theorem txl_inj {s t : ByteArray} : s.toList = t.toList ↔ s = t := by rw [tl_inj]
theorem lt_tri {a b : ByteArray} (h : a ≠ b) : txl a < txl b ∨ txl b < txl a := by
  by_cases h1 : txl a < txl b
  · exact .inl h1
  · by_cases h2 : txl b < txl a
    · exact .inr h2
    · exact absurd (txl_inj.1 (List.le_antisymm (List.not_lt.1 h2) (List.not_lt.1 h1))) h
def cmpStr (a b : ByteArray) : Int := if txl a < txl b then -1 else if txl b < txl a then 1 else 0
def cmpZ (a b : Int) : Int := if a < b then -1 else if b < a then 1 else 0
def cmpP (x y : Pl) : Int := if cmpZ y.n x.n ≠ 0 then cmpZ y.n x.n else cmpStr x.rm y.rm
def encP (p : Pl) : List Value := [.string p.al, .string p.rm, .string p.nm, .int .i64 p.n]
theorem encP_cells (p : Pl) : cellsOfK encP p = plC p := rfl
theorem cmpStr_lt {a b : ByteArray} : cmpStr a b < 0 ↔ txl a < txl b := by
  unfold cmpStr; split
  · simp [*]
  · split <;> simp [*]
theorem cmpP_lt {x y : Pl} : Go.Proofs.ltOf cmpP x y = true ↔ y.n < x.n ∨ (x.n = y.n ∧ txl x.rm < txl y.rm) := by
  show decide (cmpP x y < 0) = true ↔ _
  rw [decide_eq_true_iff]
  unfold cmpP cmpZ
  by_cases h1 : y.n < x.n
  · simp [h1]
  · by_cases h2 : x.n < y.n
    · simp [h1, h2]; intro e; omega
    · have : x.n = y.n := by omega
      simp [this, cmpStr_lt]
theorem cmpP_nlt {x y : Pl} : Go.Proofs.ltOf cmpP x y = false ↔ x.n < y.n ∨ (x.n = y.n ∧ ¬ txl x.rm < txl y.rm) := by
  rw [← Bool.not_eq_true, cmpP_lt]
  by_cases h1 : y.n < x.n
  · simp [h1]; constructor
    · omega
    · intro e; omega
  · by_cases h2 : x.n < y.n
    · simp [h1, h2]; intro e; omega
    · have : x.n = y.n := by omega
      simp [this]
theorem swoP : Go.Sort.SWO (Go.Proofs.ltOf cmpP) where
  irrefl x := by rw [cmpP_nlt]; exact .inr ⟨rfl, List.lt_irrefl _⟩
  trans x y z h1 h2 := by
    rw [cmpP_lt] at *
    rcases h1 with a | ⟨a, b⟩ <;> rcases h2 with c | ⟨c, d⟩
    · exact .inl (by omega)
    · exact .inl (by omega)
    · exact .inl (by omega)
    · exact .inr ⟨a.trans c, List.lt_trans b d⟩
  ntrans x y z h1 h2 := by
    rw [cmpP_nlt] at *
    rcases h1 with a | ⟨a, b⟩ <;> rcases h2 with c | ⟨c, d⟩
    · exact .inl (by omega)
    · exact .inl (by omega)
    · exact .inl (by omega)
    · exact .inr ⟨a.trans c, List.not_lt.2 (List.le_trans (List.not_lt.1 d) (List.not_lt.1 b))⟩
theorem enters21 : ∀ args w, (callFunc 21 args).run Tryd.prog w = .ok (.enter 21 args) w := enters_of Tryd.func21 (by kernel_rfl) rfl
instance : Inhabited Pl := ⟨⟨⟨#[]⟩, ⟨#[]⟩, ⟨#[]⟩, 0⟩⟩
/-- An empty pattern finds all. -/
theorem fits_sp (p : Pl) (H : Hp) (Q : AV → Hp → Prop) (h : Q (.v (.bool true)) H) : Sp Tryd.prog 19 [.agg (plC p), .v (.string ⟨#[]⟩)] Q H := by
  refine Sp.body [] ⟨[2], [], []⟩ [] mo Tryd.func19 rfl (Nat.le_of_ble_eq_true rfl) (by kernel_rfl) ?_
  simp [ev_seq, ev_ret, ev_region2, evOps_nil, evOps_cons, opG_none, opG_some, opJ, opU_ff, isU_bool, opA_move, opA_assign, opA_pick, opA_bin, opA_box, putO_some, putH_lt, putV_lt, condB_true, binT_some, binA, avO_some, pickT, boxT, strOp, opS, opV, Go.Mx.look, fr0, argSlots, seqK, Fr.known, Fr.newBox, dropBp, retK, retA, resA, mapO, cellsA_agg, okPart_agg, newK, orO_some, eqT_some, tk9, plC]
  exact h
end Go.Proofs.YtgefinddmggpnaaDoor

namespace Go.Proofs.YtgefinddmggpnaaDoor
open Go.Mx
set_option linter.unusedVariables false
set_option linter.unusedSimpArgs false
set_option maxRecDepth 100000

theorem mul64_sp (n : Nat) (H : Hp) (Q : AV → Hp → Prop) (hn : n ≤ 100000) (h : Q (.tup [.v (.int .u64 0), .v (.int .u64 n)]) H) : Sp Tryd.prog 66 [.v (.int .u64 1), .v (.int .u64 n)] Q H := by
  refine Sp.body [] ⟨[], [], []⟩ [] mo Tryd.func66 rfl (Nat.le_of_ble_eq_true rfl) (by kernel_rfl) ?_
  have a1 : andI .u64 1 4294967295 = 1 := by rw [andI_u64 1 _ 32 (by omega) (by rfl) (by omega)]; rfl
  have s1 : shrI .u64 1 32 = 0 := by rw [show (32 : Int) = ((32 : Nat) : Int) from rfl, shrI_eq _ _ _ (by decide)]; rfl
  have an : andI .u64 (n : Int) 4294967295 = n := by rw [andI_u64 _ _ 32 (by omega) (by rfl) (by omega)]; omega
  have sn : shrI .u64 (n : Int) 32 = 0 := by rw [show (32 : Int) = ((32 : Nat) : Int) from rfl, shrI_eq _ _ _ (by decide)]; omega
  have a0 : andI .u64 0 4294967295 = 0 := by rw [andI_u64 0 _ 32 (by omega) (by rfl) (by omega)]; rfl
  have s0 : shrI .u64 0 32 = 0 := by rw [show (32 : Int) = ((32 : Nat) : Int) from rfl, shrI_eq _ _ _ (by decide)]; rfl
  have wn : IntKind.u64.wrap (n : Int) = n := wr_u64 (by omega)
  have w0 : IntKind.u64.wrap 0 = 0 := wr_u64 (by omega)
  simp [ev_seq, ev_ret, ev_region2, evOps_nil, evOps_cons, opG_none, opA_move, opA_assign, opA_bin, putO_some, putH_lt, binT_some, binA, avO_some, io_add, io_mul, io_shr, io_and, opS, opV, Go.Mx.look, fr0, argSlots, seqK, retK, retA, resA, mapO, orO_some, eqT_some, a1, s1, an, sn, a0, s0, wn, w0]
  exact h
theorem mul_sp (n : Nat) (H : Hp) (Q : AV → Hp → Prop) (hn : n ≤ 100000) (h : Q (.tup [.v (.int .u64 0), .v (.int .u64 n)]) H) : Sp Tryd.prog 41 [.v (.int .u64 1), .v (.int .u64 n)] Q H := by
  refine Sp.body [] ⟨[], [], []⟩ [] mo Tryd.func41 rfl (Nat.le_of_ble_eq_true rfl) (by kernel_rfl) ?_
  simp [ev_skip, ev_seq, ev_cond2, ev_region2, evOps_nil, evOps_cons, opG_none, opA_move, opA_assign, opA_call, putO_some, putH_lt, condB_false, opS, opV, Go.Mx.look, fr0, argSlots, seqK, Fr.known, mapO, callA, ok66]
  refine mul64_sp n H _ hn ?_
  simp [ev_seq, ev_ret, ev_region2, evOps_nil, evOps_cons, opG_none, opA_move, opA_assign, opA_extract, putO_some, putH_lt, putC_lt, extractT, opS, opV, Go.Mx.look, seqK, retK, retA, resA, mapO, extractA]
  exact h
def trues (n m : Nat) : List AV := List.replicate m (.v (.bool true)) ++ List.replicate (n - m) (.v (.bool false))
theorem set_last (H : Hp) (o o' : Ob) : (H ++ [o]).set H.length o' = H ++ [o'] := by rw [List.set_append_right _ _ (Nat.le_refl _)]; simp
theorem copy_one {H : Hp} {X X' : List AV} {src : AV} {m : Nat} {ys : List AV} {n off : Nat} {k : AV → Hp → Prop} (hsrc : srcA (H ++ [.cells 0 X]) 1 src = some (m, ys)) (hle : off + n ≤ X.length) (hX : splice X off (ys.take (min m n)) = X')
    (h : k (.v (.int .i64 (min m n : Nat))) (H ++ [.cells 0 X'])) : copyA (H ++ [.cells 0 X]) 1 (.sl H.length 0 1 off n) src k := by
  unfold copyA
  rw [hsrc]
  have e : (H ++ [Ob.cells 0 X])[H.length]? = some (.cells 0 X) := by simp
  simp only [e]
  rw [if_pos ⟨trivial, trivial, by omega⟩, set_last, Nat.mul_one, hX]
  exact h
theorem trues_len {n m : Nat} (h : m ≤ n) : (trues n m).length = n := by simp [trues]; omega
theorem trues_take {n m : Nat} : (trues n m).take m = List.replicate m (.v (.bool true)) := by
  unfold trues
  rw [List.take_append_of_le_length (by simp), List.take_of_length_le (by simp)]
theorem trues_splice {n m k : Nat} (h : m + k ≤ n) : splice (trues n m) m (List.replicate k (.v (.bool true))) = trues n (m + k) := by
  unfold splice
  rw [trues_take, List.length_replicate]
  unfold trues
  rw [List.drop_append, List.drop_of_length_le (by simp), List.length_replicate, List.drop_replicate, List.nil_append, List.replicate_append_replicate]
  rw [show n - m - (m + k - m) = n - (m + k) by omega]
set_option maxHeartbeats 1000000 in
theorem repeat_sp (n : Nat) (H : Hp) (Q : AV → Hp → Prop) (hn : n ≤ 100000) (h : ∀ H', Same [] H H' → Q (.row false n (List.replicate n (.v (.bool true)))) H') : Sp Tryd.prog 26 [.row true 1 [.v (.bool true)], .v (.int .i64 n)] Q H := by
  refine Sp.frz ?_
  refine Sp.body [(8, ⟨[7, 8], [], []⟩)] ⟨[], [], pl26⟩ tb26 mo Tryd.func26 rfl (Nat.le_of_ble_eq_true rfl) (by kernel_rfl) ?_
  have w1 : IntKind.u64.wrap 1 = 1 := wr_u64 (by omega)
  have wn : IntKind.u64.wrap (n : Int) = n := wr_u64 (by omega)
  have wi : IntKind.i64.wrap (n : Int) = n := wr_i64 (by omega)
  have hn0 : ¬ ((n : Int) < 0) := by omega
  have hn1 : ¬ ((9223372036854775807 : Int) < (n : Int)) := by omega
  simp [ev_skip, ev_seq, ev_cond2, ev_region2, evOps_nil, evOps_cons, opG_none, opA_move, opA_assign, opA_bin, opA_len, opA_call, opA_convert, putO_some, putH_lt, condB_false, binT_some, binA, avO_some, lenT_row, convV, convT, io_lss, opS, opV, Go.Mx.look, fr0, argSlots, seqK, Fr.known, mapO, convInt, callA, orO_some, eqT_some, tk3, Tryd.underlying3, Tryd.underlying64, Tryd.underlying78, ok41, pl26, w1, wn, hn0]
  refine mul_sp n H _ hn ?_
  simp [ev_skip, ev_seq, ev_cond2, ev_region2, evOps_nil, evOps_cons, opG_none, opG_some, opJ, opU_ff, isU_bool, opK_eq, opA_move, opA_assign, opA_pick, opA_bin, opA_extract, opA_makeSlice, opA_copy, opA_convert, putO_some, putH_lt, putC_lt, condB_false, binT_some, binA, avO_some, pickT, extractT, makeSliceT, copyT, convV, convT, io_gtr, opS, opV, Go.Mx.look, seqK, Fr.known, convInt, extractA, makeA, srcTy, orO_some, eqT_some, Tryd.underlying3, sz4, by4, ze4, st64, Tryd.underlying64, tk78, Tryd.underlying78, wi, hn1]
  refine ⟨⟨by omega, by omega⟩, ?_⟩
  have t0 : trues n 0 = List.replicate n (.v (.bool false)) := by simp [trues]
  rw [← t0]
  refine copy_one (m := 1) (ys := [.v (.bool true)]) (X' := trues n (0 + min 1 n)) (by simp [srcA]) (by rw [trues_len (by omega)]; omega) ?_ ?_
  · have : [AV.v (.bool true)].take (min 1 n) = List.replicate (min 1 n) (.v (.bool true)) := by
      rcases Nat.eq_zero_or_pos n with h0 | h0
      · subst h0; rfl
      · rw [show min 1 n = 1 by omega]; rfl
    rw [this]
    exact trues_splice (by omega)
  simp [ev_seq, ev_block, ev_loop, loopK, evOps_nil, evOps_cons, opG_none, opA_assign, putO_some, putH_lt, putC_lt, opS, opV, Go.Mx.look, seqK, mapO, headK, getV, getB, chkP, firstReg]
  refine LoopC.intro (fun q xs _ H2 => ∃ m : Nat, m ≤ n ∧ (1 ≤ m ∨ n = 0) ∧ q = n - m ∧ xs = [.sl H.length 0 1 0 n, .v (.int .i64 m)] ∧ H2 = H ++ [.cells 0 (trues n m)]) (n - min 1 n) ⟨min 1 n, by omega, by omega, by omega, by simp, by simp⟩ ?_
  rintro q xs bs H2 ⟨m, hm, hm1, rfl, rfl, rfl⟩
  simp [ev_skip, ev_seq, ev_cond2, ev_block, ev_exit, ev_ret, ev_region2, evOps_nil, evOps_cons, opG_none, opA_move, opA_assign, opA_bin, opA_len, opA_slice, putO_some, putH_lt, binT_some, binA, avO_some, lenT_sl, bndT, sliceT, io_lss, opS, opV, Go.Mx.look, seqK, blockK, Fr.known, retK, retA, resA, mapO, sliceA, mkFr, slotsOf, ptrsOf, boxesOf, orO_some, eqT_some, ev_draw, drawK, evP_q, opAt_some, tk3, sz4, Tryd.underlying64]
  refine ⟨fun hlt => ?_, fun hge => ?_⟩
  · have hlt : m < n := by omega
    have e1 : sliceSl 1 H.length 0 1 0 n (m : Int) (n : Int) = some (.sl H.length 0 1 m (n - m)) := by
      unfold sliceSl
      rw [if_pos rfl, if_pos (by omega), if_pos (by omega)]
      have a1 : 0 + (m : Int).toNat * 1 = m := by simp
      have a2 : ((n : Int) - (m : Int)).toNat = n - m := by omega
      rw [a1, a2]
    have e2 : sliceSl 1 H.length 0 1 0 n 0 (m : Int) = some (.sl H.length 0 1 0 m) := by
      unfold sliceSl
      rw [if_pos rfl, if_pos (by omega), if_pos (by omega)]
      simp
    have wk : IntKind.i64.wrap ((m : Int) + ((min m (n - m) : Nat) : Int)) = ((m + min m (n - m) : Nat) : Int) := by rw [wr_i64 (by omega)]; omega
    simp [opG_none, opA_move, opA_copy, opA_slice, putO_some, putH_lt, copyT, bndT, sliceT, opS, opV, Go.Mx.look, sliceA, srcTy, evP_q, evP_s, opAt_some, sz4, st64, Tryd.underlying64, e1, e2]
    refine copy_one (m := m) (ys := List.replicate m (.v (.bool true))) (X' := trues n (m + min m (n - m))) ?_ (by rw [trues_len hm]; omega) ?_ ?_
    · simp [srcA, trues_take]
      rw [trues_len hm]; exact hm
    · have : (List.replicate m (AV.v (.bool true))).take (min m (n - m)) = List.replicate (min m (n - m)) (.v (.bool true)) := by rw [List.take_replicate]; congr 1; omega
      rw [this]
      exact trues_splice (by omega)
    simp [opG_none, opA_assign, opA_bin, putO_some, putH_lt, putC_lt, binT_some, binA, avO_some, io_add, opS, opV, Go.Mx.look, seqK, blockK, mapO, headK, getV, getB, chkP, orO_some, eqT_some, evP_nil, evP_q, evP_s, opAt_some, chkK_eq, sameV_some, sameO_some, allQ_nil, allQ_cons, valQ_none, valS_move, tk3, wk]
    exact ⟨n - (m + min m (n - m)), by omega, m + min m (n - m), by omega, by omega, by omega, by simp, by simp⟩
  · obtain rfl : m = n := by omega
    have tn : trues m m = List.replicate m (.v (.bool true)) := by simp [trues]
    rw [tn]
    refine ⟨H.length, 0, List.replicate m (.v (.bool true)), by simp, ?_⟩
    have e : frz H.length 0 (List.replicate m (.v (.bool true))) (.sl H.length 0 1 0 m) = .row false m (List.replicate m (.v (.bool true))) := by
      simp [frz, frz2, frz1]
    rw [e, set_last]
    exact h _ (Same.app _ _ _)
end Go.Proofs.YtgefinddmggpnaaDoor
