import Derived.Test.YtgefinddmggpnaaDoorProg
import Derived.Shelf.SlSortCmp.NoneTotal
import Derived.Test.YtgefinddmggpnaaDoorPA
import Derived.Test.YtgefinddmggpnaaDoorMxSh
import Derived.Test.YtgefinddmggpnaaDoorMxSi
namespace Go.Proofs.YtgefinddmggpnaaDoor
def laySortF_ren : Go.Shelf.Ren := ⟨fun | 6 => 20 | 15 => 35 | 14 => 34 | 28 => 62 | 29 => 63 | 20 => 54 | 21 => 55 | 22 => 56 | 23 => 57 | 24 => 58 | 25 => 59 | 26 => 60 | 27 => 61 | 46 => 81 | 47 => 82 | 48 => 83 | 49 => 84 | 50 => 85 | 57 => 93 | n => n, fun | 22 => 26 | 24 => 30 | 25 => 60 | 3 => 3 | 39 => 78 | 0 => 0 | 53 => 108 | 55 => 110 | 4 => 4 | 46 => 101 | 45 => 100 | 50 => 105 | 5 => 5 | 9 => 9 | 66 => 123 | 70 => 127 | 76 => 131 | 77 => 132 | n => n, fun n => n⟩
theorem laySortF : Go.Proofs.SlLaysF0.n6 Tryd.prog laySortF_ren := { mixed := by kernel_rfl, f6 := ⟨ "slices.SortFunc[[]agora/api.Place,agora/api.Place]", of_decide_eq_true (by kernel_rfl), Tryd.func20.trans (congrArg some (by kernel_rfl))⟩, f14 := ⟨ "slices.pdqsortCmpFunc[agora/api.Place]", of_decide_eq_true (by kernel_rfl), Tryd.func34.trans (congrArg some (by kernel_rfl))⟩, f15 := Tryd.func35.trans (congrArg some (by kernel_rfl)), f20 := ⟨ "slices.insertionSortCmpFunc[agora/api.Place]", of_decide_eq_true (by kernel_rfl), Tryd.func54.trans (congrArg some (by kernel_rfl))⟩, f21 := ⟨ "slices.heapSortCmpFunc[agora/api.Place]", of_decide_eq_true (by kernel_rfl), Tryd.func55.trans (congrArg some (by kernel_rfl))⟩, f22 := ⟨ "slices.breakPatternsCmpFunc[agora/api.Place]", of_decide_eq_true (by kernel_rfl), Tryd.func56.trans (congrArg some (by kernel_rfl))⟩, f23 := ⟨ "slices.choosePivotCmpFunc[agora/api.Place]", of_decide_eq_true (by kernel_rfl), Tryd.func57.trans (congrArg some (by kernel_rfl))⟩, f24 := ⟨ "slices.reverseRangeCmpFunc[agora/api.Place]", of_decide_eq_true (by kernel_rfl), Tryd.func58.trans (congrArg some (by kernel_rfl))⟩, f25 := ⟨ "slices.partialInsertionSortCmpFunc[agora/api.Place]", of_decide_eq_true (by kernel_rfl), Tryd.func59.trans (congrArg some (by kernel_rfl))⟩, f26 := ⟨ "slices.partitionEqualCmpFunc[agora/api.Place]", of_decide_eq_true (by kernel_rfl), Tryd.func60.trans (congrArg some (by kernel_rfl))⟩, f27 := ⟨ "slices.partitionCmpFunc[agora/api.Place]", of_decide_eq_true (by kernel_rfl), Tryd.func61.trans (congrArg some (by kernel_rfl))⟩, f28 := Tryd.func62.trans (congrArg some (by kernel_rfl)), f29 := Tryd.func63.trans (congrArg some (by kernel_rfl)), f46 := ⟨ "slices.siftDownCmpFunc[agora/api.Place]", of_decide_eq_true (by kernel_rfl), Tryd.func81.trans (congrArg some (by kernel_rfl))⟩, f47 := Tryd.func82.trans (congrArg some (by kernel_rfl)), f48 := Tryd.func83.trans (congrArg some (by kernel_rfl)), f49 := ⟨ "slices.medianAdjacentCmpFunc[agora/api.Place]", of_decide_eq_true (by kernel_rfl), Tryd.func84.trans (congrArg some (by kernel_rfl))⟩, f50 := ⟨ "slices.medianCmpFunc[agora/api.Place]", of_decide_eq_true (by kernel_rfl), Tryd.func85.trans (congrArg some (by kernel_rfl))⟩, f57 := ⟨ "slices.order2CmpFunc[agora/api.Place]", of_decide_eq_true (by kernel_rfl), Tryd.func93.trans (congrArg some (by kernel_rfl))⟩, t0 := Tryd.underlying0, a0 := Tryd.isAgg0, z0 := Tryd.sizeOf0, v0 := Tryd.zeroValue0, t3 := Tryd.underlying3, a3 := Tryd.isAgg3, z3 := Tryd.sizeOf3, v3 := Tryd.zeroValue3, t4 := Tryd.underlying4, a4 := Tryd.isAgg4, z4 := Tryd.sizeOf4, v4 := Tryd.zeroValue4, t5 := Tryd.underlying5, a5 := Tryd.isAgg5, z5 := Tryd.sizeOf5, v5 := Tryd.zeroValue5, t9 := Tryd.underlying9, a9 := Tryd.isAgg9, z9 := Tryd.sizeOf9, v9 := Tryd.zeroValue9, t22 := Tryd.underlying26, a22 := Tryd.isAgg26, z22 := Tryd.sizeOf26, v22 := Tryd.zeroValue26, t25 := Tryd.underlying60, a25 := Tryd.isAgg60, z25 := Tryd.sizeOf60, v25 := Tryd.zeroValue60, t39 := Tryd.underlying78, a39 := Tryd.isAgg78, z39 := Tryd.sizeOf78, v39 := Tryd.zeroValue78, t45 := Tryd.underlying100, a45 := Tryd.isAgg100, z45 := Tryd.sizeOf100, v45 := Tryd.zeroValue100, t46 := Tryd.underlying101, a46 := Tryd.isAgg101, z46 := Tryd.sizeOf101, v46 := Tryd.zeroValue101, t50 := Tryd.underlying105, a50 := Tryd.isAgg105, z50 := Tryd.sizeOf105, v50 := Tryd.zeroValue105, t53 := Tryd.underlying108, a53 := Tryd.isAgg108, z53 := Tryd.sizeOf108, v53 := Tryd.zeroValue108, t55 := Tryd.underlying110, a55 := Tryd.isAgg110, z55 := Tryd.sizeOf110, v55 := Tryd.zeroValue110, t66 := Tryd.underlying123, a66 := Tryd.isAgg123, z66 := Tryd.sizeOf123, v66 := Tryd.zeroValue123, t70 := Tryd.underlying127, a70 := Tryd.isAgg127, z70 := Tryd.sizeOf127, v70 := Tryd.zeroValue127, t76 := Tryd.underlying131, a76 := Tryd.isAgg131, z76 := Tryd.sizeOf131, v76 := Tryd.zeroValue131, t77 := Tryd.underlying132, a77 := Tryd.isAgg132, z77 := Tryd.sizeOf132, v77 := Tryd.zeroValue132 }
end Go.Proofs.YtgefinddmggpnaaDoor

namespace Go.Proofs.YtgefinddmggpnaaDoor
open Go.Mx
set_option linter.unusedVariables false
set_option linter.unusedSimpArgs false
set_option linter.unnecessarySimpa false
set_option maxRecDepth 100000

/-! ### The order of places -/
def txl (s : ByteArray) : List UInt8 := s.toList
theorem txl_inj {s t : ByteArray} : s.toList = t.toList ↔ s = t := by rw [tl_inj]
theorem lt_tri {a b : ByteArray} (h : a ≠ b) : txl a < txl b ∨ txl b < txl a := by
  by_cases h1 : txl a < txl b
  · exact .inl h1
  · by_cases h2 : txl b < txl a
    · exact .inr h2
    · exact absurd (txl_inj.1 (List.le_antisymm (List.not_lt.1 h2) (List.not_lt.1 h1))) h
def cmpStr (a b : ByteArray) : Int := if txl a < txl b then -1 else if txl b < txl a then 1 else 0
def cmpZ (a b : Int) : Int := if a < b then -1 else if b < a then 1 else 0
def cmpP (x y : Pl) : Int := if cmpZ y.n x.n ≠ 0 then cmpZ y.n x.n else cmpStr x.rm y.rm
def encP (p : Pl) : List Value := [.string p.al, .string p.rm, .string p.nm, .int .i64 p.n]
theorem encP_cells (p : Pl) : cellsOfK encP p = plC p := rfl
theorem cmpStr_lt {a b : ByteArray} : cmpStr a b < 0 ↔ txl a < txl b := by
  unfold cmpStr; split
  · simp [*]
  · split <;> simp [*]
theorem cmpP_lt {x y : Pl} : Go.Proofs.ltOf cmpP x y = true ↔ y.n < x.n ∨ (x.n = y.n ∧ txl x.rm < txl y.rm) := by
  show decide (cmpP x y < 0) = true ↔ _
  rw [decide_eq_true_iff]
  unfold cmpP cmpZ
  by_cases h1 : y.n < x.n
  · simp [h1]
  · by_cases h2 : x.n < y.n
    · simp [h1, h2]; intro e; omega
    · have : x.n = y.n := by omega
      simp [this, cmpStr_lt]
theorem cmpP_nlt {x y : Pl} : Go.Proofs.ltOf cmpP x y = false ↔ x.n < y.n ∨ (x.n = y.n ∧ ¬ txl x.rm < txl y.rm) := by
  rw [← Bool.not_eq_true, cmpP_lt]
  by_cases h1 : y.n < x.n
  · simp [h1]; constructor
    · omega
    · intro e; omega
  · by_cases h2 : x.n < y.n
    · simp [h1, h2]; intro e; omega
    · have : x.n = y.n := by omega
      simp [this]
theorem swoP : Go.Sort.SWO (Go.Proofs.ltOf cmpP) where
  irrefl x := by rw [cmpP_nlt]; exact .inr ⟨rfl, List.lt_irrefl _⟩
  trans x y z h1 h2 := by
    rw [cmpP_lt] at *
    rcases h1 with a | ⟨a, b⟩ <;> rcases h2 with c | ⟨c, d⟩
    · exact .inl (by omega)
    · exact .inl (by omega)
    · exact .inl (by omega)
    · exact .inr ⟨a.trans c, List.lt_trans b d⟩
  ntrans x y z h1 h2 := by
    rw [cmpP_nlt] at *
    rcases h1 with a | ⟨a, b⟩ <;> rcases h2 with c | ⟨c, d⟩
    · exact .inl (by omega)
    · exact .inl (by omega)
    · exact .inl (by omega)
    · exact .inr ⟨a.trans c, List.not_lt.2 (List.le_trans (List.not_lt.1 d) (List.not_lt.1 b))⟩
theorem enters21 : ∀ args w, (callFunc 21 args).run Tryd.prog w = .ok (.enter 21 args) w := enters_of Tryd.func21 (by kernel_rfl) rfl
instance : Inhabited Pl := ⟨⟨⟨#[]⟩, ⟨#[]⟩, ⟨#[]⟩, 0⟩⟩
/-- An empty pattern finds all. -/
theorem fits_sp (p : Pl) (H : Hp) (Q : AV → Hp → Prop) (h : Q (.v (.bool true)) H) : Sp Tryd.prog 19 [.agg (plC p), .v (.string ⟨#[]⟩)] Q H := by
  refine Sp.body [] ⟨[2], [], []⟩ [] mo Tryd.func19 rfl (Nat.le_of_ble_eq_true rfl) (by kernel_rfl) ?_
  simp [ev_seq, ev_ret, ev_region2, evOps_nil, evOps_cons, opG_none, opG_some, opJ, opU_ff, isU_bool, opA_move, opA_assign, opA_pick, opA_bin, opA_box, putO_some, putH_lt, putV_lt, condB_true, binT_some, binA, avO_some, pickT, boxT, strOp, opS, opV, Go.Mx.look, fr0, argSlots, seqK, Fr.known, Fr.newBox, dropBp, retK, retA, resA, mapO, cellsA_agg, okPart_agg, newK, orO_some, eqT_some, tk9, plC]
  exact h
end Go.Proofs.YtgefinddmggpnaaDoor
