import Derived.Test.YtoakdmkjlpjahaaDoorPA
import Derived.Test.YtoakdmkjlpjahaaDoorMxP
import Derived.Test.YtoakdmkjlpjahaaDoorProg
import Derived.Shelf.Strings.BuilderRune
import Derived.Shelf.Strings.BuilderF
import Derived.WalkKit
namespace Go.Proofs.YtoakdmkjlpjahaaDoor
open Go.Mx
set_option linter.unusedVariables false
set_option linter.unusedSimpArgs false
set_option linter.unnecessarySimpa false
set_option maxRecDepth 100000

/-- Is a rune that takes so many bytes a word's letter? -/
def letB (c n : Nat) : Bool := (decide (97 ≤ c) && decide (c ≤ 122)) || (decide (48 ≤ c) && decide (c ≤ 57)) || decide (c = 95) || (decide (128 ≤ c) && !(decide (c = 65533) && decide (n = 1)))
theorem letter_sp (c n : Nat) (H : Hp) : Sp Tryd.prog 42 [.v (.int .i32 (c : Int)), .v (.int .i64 (n : Int))] (fun v H' => v = .v (.bool (letB c n)) ∧ H' = H) H := by
  refine Sp.body [] ⟨[], [], []⟩ [] mo Tryd.func42 rfl (Nat.le_of_ble_eq_true rfl) (by kernel_rfl) ?_
  have e1 : ((c : Int) = 65533) = (c = 65533) := by apply propext; omega
  have e2 : ((n : Int) = 1) = (n = 1) := by apply propext; omega
  have e3 : ((c : Int) = 95) = (c = 95) := by apply propext; omega
  by_cases h1 : 97 ≤ c ∧ c ≤ 122
  · have : letB c n = true := by simp [letB, h1.1, h1.2]
    rw [this]
    have a1 : (97 : Int) ≤ (c : Int) := by omega
    have a2 : (c : Int) ≤ 122 := by omega
    simp [ev_seq, ev_ret, ev_region2, evOps_nil, evOps_cons, opG_none, opG_some, opJ, opU_true, opU_ft, opU_ff, isU_undef, isU_bool, opK_eq, opA_move, opA_assign, opA_pick, opA_bin, putO_some, putH_lt, putV_lt, condB_true, binT_some, binA, avO_some, pickT, io_leq, io_geq, opS, opV, Go.Mx.look, fr0, argSlots, seqK, Fr.known, retK, retA, resA, mapO, orO_some, eqT_some, tk21, a1, a2]
  by_cases h2 : 48 ≤ c ∧ c ≤ 57
  · have : letB c n = true := by simp [letB, h2.1, h2.2]
    rw [this]
    have a1 : ¬ (97 : Int) ≤ (c : Int) := by omega
    have a2 : (48 : Int) ≤ (c : Int) := by omega
    have a3 : (c : Int) ≤ 57 := by omega
    simp [ev_seq, ev_ret, ev_region2, evOps_nil, evOps_cons, opG_none, opG_some, opJ, opU_true, opU_ft, opU_ff, isU_undef, isU_bool, opK_eq, opA_move, opA_assign, opA_pick, opA_bin, putO_some, putH_lt, putV_lt, condB_true, condB_false, binT_some, binA, avO_some, pickT, io_leq, io_geq, opS, opV, Go.Mx.look, fr0, argSlots, seqK, Fr.known, retK, retA, resA, mapO, orO_some, eqT_some, tk21, a1, a2, a3]
  have h0 : letB c n = (decide (c = 95) || (decide (128 ≤ c) && !(decide (c = 65533) && decide (n = 1)))) := by
    have a1 : (decide (97 ≤ c) && decide (c ≤ 122)) = false := by simp; omega
    have a2 : (decide (48 ≤ c) && decide (c ≤ 57)) = false := by simp; omega
    unfold letB; rw [a1, a2]; simp
  rw [h0]
  have k1 : ((97 : Int) ≤ (c : Int) → ¬ (c : Int) ≤ 122) := by omega
  have k2 : ((48 : Int) ≤ (c : Int) → ¬ (c : Int) ≤ 57) := by omega
  by_cases g1 : (97 : Int) ≤ (c : Int)
  · have g2 : ¬ (c : Int) ≤ 122 := by omega
    have g3 : (48 : Int) ≤ (c : Int) := by omega
    have g4 : ¬ (c : Int) ≤ 57 := by omega
    have g5 : ¬ c = 95 := by omega
    by_cases g6 : 128 ≤ c
    · have g7 : (128 : Int) ≤ (c : Int) := by omega
      by_cases g8 : c = 65533 <;> by_cases g9 : n = 1 <;> simp [ev_seq, ev_ret, ev_region2, evOps_nil, evOps_cons, opG_none, opG_some, opJ, opU_ft, opU_ff, isU_bool, opK_eq, opA_move, opA_assign, opA_pick, opA_bin, opA_un, putO_some, putH_lt, putV_lt, condB_true, condB_false, CondP_false, binT_some, binA, avO_some, pickT, unT, io_eql, io_leq, io_geq, opS, opV, Go.Mx.look, fr0, argSlots, seqK, Fr.known, retK, retA, resA, mapO, unA, orO_some, eqT_some, tk3, tk21, g1, g2, g3, g4, g5, g6, g7, g8, g9, e1, e2, e3]
    · have g7 : ¬ (128 : Int) ≤ (c : Int) := by omega
      simp [ev_seq, ev_ret, ev_region2, evOps_nil, evOps_cons, opG_none, opG_some, opJ, opU_true, opU_ft, opU_ff, isU_undef, isU_bool, opK_eq, opA_move, opA_assign, opA_pick, opA_bin, putO_some, putH_lt, putV_lt, condB_true, condB_false, CondP_false, binT_some, binA, avO_some, pickT, io_eql, io_leq, io_geq, opS, opV, Go.Mx.look, fr0, argSlots, seqK, Fr.known, retK, retA, resA, mapO, orO_some, eqT_some, tk21, g1, g2, g3, g4, g5, g6, g7, e3]
  · have g6 : ¬ 128 ≤ c := by omega
    have g7 : ¬ (128 : Int) ≤ (c : Int) := by omega
    by_cases g3 : (48 : Int) ≤ (c : Int)
    · have g4 : ¬ (c : Int) ≤ 57 := by omega
      by_cases g5 : c = 95 <;> simp [ev_seq, ev_ret, ev_region2, evOps_nil, evOps_cons, opG_none, opG_some, opJ, opU_true, opU_ft, opU_ff, isU_undef, isU_bool, opK_eq, opA_move, opA_assign, opA_pick, opA_bin, putO_some, putH_lt, putV_lt, condB_true, condB_false, CondP_false, binT_some, binA, avO_some, pickT, io_eql, io_leq, io_geq, opS, opV, Go.Mx.look, fr0, argSlots, seqK, Fr.known, retK, retA, resA, mapO, orO_some, eqT_some, tk21, g1, g3, g4, g5, g6, g7, e3]
    · have g5 : ¬ c = 95 := by omega
      simp [ev_seq, ev_ret, ev_region2, evOps_nil, evOps_cons, opG_none, opG_some, opJ, opU_true, opU_ft, opU_ff, isU_undef, isU_bool, opK_eq, opA_move, opA_assign, opA_pick, opA_bin, putO_some, putH_lt, putV_lt, condB_false, CondP_false, binT_some, binA, avO_some, pickT, io_eql, io_geq, opS, opV, Go.Mx.look, fr0, argSlots, seqK, Fr.known, retK, retA, resA, mapO, orO_some, eqT_some, tk21, g1, g3, g5, g6, g7, e3]

/-! ### The same in the model's own words -/
theorem letter_calls (c n : Nat) (w : World) : Calls Tryd.prog 42 #[.int .i32 (c : Int), .int .i64 (n : Int)] w fun e w' => e = .returned (.bool (letB c n)) ∧ Go.RowKit.Below w.heap.size w w' := by
  refine (letter_sp c n [] rho0 (immOf w) w [_, _] (stH0 w) (VRs.cons (.v _) (VRs.cons (.v _) VRs.nil))).mono ?_
  rintro e w' ⟨v, u, ρ', I', H', rfl, hm, hvr, rfl, rfl⟩
  cases hvr
  exact ⟨rfl, hm.fw.below (fun b hb => by rintro ⟨id, o, h1, h2⟩; simp at h1)⟩
/-- The two tables alone. -/
def tabsH : Hp := [.tab 0 firstT, .tab 1 acceptT]
theorem tb_tabs : Tb tabsH := ⟨rfl, rfl⟩
theorem decode_calls (l : List UInt8) (w : World) (hT : Tabs (immOf w) tabsH) : Calls Tryd.prog 41 #[.string (tx l)] w fun e w' => e = .returned (.tuple #[.int .i32 ((dec l).1 : Nat), .int .i64 ((dec l).2 : Nat)]) ∧ Go.RowKit.Below w.heap.size w w' := by
  refine (decode_sp l tabsH tb_tabs rho0 (immOf w) w [_] (stT0 w hT) (VRs.cons (.v _) VRs.nil)).mono ?_
  rintro e w' ⟨v, u, ρ', I', H', rfl, hm, hvr, rfl, rfl⟩
  refine ⟨?_, hm.fw.below (fun b hb => by rintro ⟨id, o, h1, h2⟩; rw [hT.blk h1] at h2; simp at h2)⟩
  cases hvr with
  | tup _ us hl hus =>
    match us, hl with
    | [u0, u1], _ =>
      have h0 : VR ρ' I' (.v (.int .i32 ((dec l).1 : Nat))) u0 := by simpa using hus 0 _ rfl
      have h1 : VR ρ' I' (.v (.int .i64 ((dec l).2 : Nat))) u1 := by simpa using hus 1 _ rfl
      rw [h0.v_is, h1.v_is]
end Go.Proofs.YtoakdmkjlpjahaaDoor

namespace Go.Proofs.YtoakdmkjlpjahaaDoor
def layAR_ren : Go.Shelf.Ren := ⟨fun | 242 => 62 | 278 => 77 | n => n, fun | 72 => 82 | 37 => 80 | 21 => 21 | 51 => 112 | 4 => 4 | 5 => 5 | 46 => 92 | n => n, fun n => n⟩
theorem layAR : Go.Proofs.Lays.n242 Tryd.prog layAR_ren := { mixed := by kernel_rfl, f242 := Tryd.func62.trans (congrArg some (by kernel_rfl)), f278 := Tryd.func77.trans (congrArg some (by kernel_rfl)), t4 := Tryd.underlying4, a4 := Tryd.isAgg4, z4 := Tryd.sizeOf4, v4 := Tryd.zeroValue4, t5 := Tryd.underlying5, a5 := Tryd.isAgg5, z5 := Tryd.sizeOf5, v5 := Tryd.zeroValue5, t21 := Tryd.underlying21, a21 := Tryd.isAgg21, z21 := Tryd.sizeOf21, v21 := Tryd.zeroValue21, t37 := Tryd.underlying80, a37 := Tryd.isAgg80, z37 := Tryd.sizeOf80, v37 := Tryd.zeroValue80, t46 := Tryd.underlying92, a46 := Tryd.isAgg92, z46 := Tryd.sizeOf92, v46 := Tryd.zeroValue92, t51 := Tryd.underlying112, a51 := Tryd.isAgg112, z51 := Tryd.sizeOf112, v51 := Tryd.zeroValue112 }
def layLen_ren : Go.Shelf.Ren := ⟨fun | 170 => 44 | n => n, fun | 70 => 79 | 3 => 3 | 0 => 0 | 72 => 82 | 37 => 80 | 5 => 5 | n => n, fun n => n⟩
theorem layLen : Go.Proofs.Lays.n170 Tryd.prog layLen_ren := { mixed := by kernel_rfl, f170 := Tryd.func44.trans (congrArg some (by kernel_rfl)), t0 := Tryd.underlying0, a0 := Tryd.isAgg0, z0 := Tryd.sizeOf0, v0 := Tryd.zeroValue0, t3 := Tryd.underlying3, a3 := Tryd.isAgg3, z3 := Tryd.sizeOf3, v3 := Tryd.zeroValue3, t37 := Tryd.underlying80, a37 := Tryd.isAgg80, z37 := Tryd.sizeOf80, v37 := Tryd.zeroValue80, t70 := Tryd.underlying79, a70 := Tryd.isAgg79, z70 := Tryd.sizeOf79, v70 := Tryd.zeroValue79, t72 := Tryd.underlying82, a72 := Tryd.isAgg82, z72 := Tryd.sizeOf82, v72 := Tryd.zeroValue82 }
def layStr_ren : Go.Shelf.Ren := ⟨fun | 169 => 45 | n => n, fun | 70 => 79 | 9 => 9 | 0 => 0 | 72 => 82 | 37 => 80 | 127 => 101 | 3 => 3 | 5 => 5 | n => n, fun n => n⟩
theorem layStr : Go.Proofs.Lays.n169 Tryd.prog layStr_ren := { mixed := by kernel_rfl, f169 := Tryd.func45.trans (congrArg some (by kernel_rfl)), t0 := Tryd.underlying0, a0 := Tryd.isAgg0, z0 := Tryd.sizeOf0, v0 := Tryd.zeroValue0, t3 := Tryd.underlying3, a3 := Tryd.isAgg3, z3 := Tryd.sizeOf3, v3 := Tryd.zeroValue3, t9 := Tryd.underlying9, a9 := Tryd.isAgg9, z9 := Tryd.sizeOf9, v9 := Tryd.zeroValue9, t37 := Tryd.underlying80, a37 := Tryd.isAgg80, z37 := Tryd.sizeOf80, v37 := Tryd.zeroValue80, t70 := Tryd.underlying79, a70 := Tryd.isAgg79, z70 := Tryd.sizeOf79, v70 := Tryd.zeroValue79, t72 := Tryd.underlying82, a72 := Tryd.isAgg82, z72 := Tryd.sizeOf82, v72 := Tryd.zeroValue82, t127 := Tryd.underlying101, a127 := Tryd.isAgg101, z127 := Tryd.sizeOf101, v127 := Tryd.zeroValue101 }
open Go.RowKit Go.Shelf
set_option linter.unusedVariables false
set_option maxRecDepth 100000
theorem extraAR : Builder.Extra Tryd.prog layAR_ren where
  sizeBuilder := by kernel_rfl
  liesBuilder := by kernel_rfl
  t5 := Tryd.underlying5
  a5 := Tryd.isAgg5
  z5 := Tryd.sizeOf5
  v5 := Tryd.zeroValue5
  infoByte := by kernel_rfl
  cellsByte := by kernel_rfl
  sizeByte := by kernel_rfl
  neB5 := by decide
theorem extraStr : Builder.Extra Tryd.prog layStr_ren where
  sizeBuilder := by kernel_rfl
  liesBuilder := by kernel_rfl
  t5 := Tryd.underlying5
  a5 := Tryd.isAgg5
  z5 := Tryd.sizeOf5
  v5 := Tryd.zeroValue5
  infoByte := by kernel_rfl
  cellsByte := by kernel_rfl
  sizeByte := by kernel_rfl
  neB5 := by decide

/-! ### copyCheck, WriteRune, Reset, walked -/
theorem copy_fresh (b : Nat) (w : World) (h0 : w.cell? ⟨b, 0, none⟩ = some (.pointer none)) (hsh : w.shape? b = some (82, 2)) (hfz : w.frozen? ⟨b, 0, none⟩ = false) :
    Calls Tryd.prog 61 #[.pointer (some ⟨b, 0, none⟩)] w fun e w' => e = .returned (.tuple #[]) ∧ w' = w.setCell ⟨b, 0, none⟩ (.pointer (some ⟨b, 0, none⟩)) := by
  obtain ⟨j, hj, hjs⟩ := Option.map_eq_some_iff.1 extraAR.sizeBuilder
  go_enter Tryd.func61, Tryd.ntmps61
  go_wp2
  rw [Lib.run_to_unsafe w ⟨b, 0, none⟩ Tryd.underlying79 Tryd.underlying119 hj (by rw [hjs]; decide) hsh (Nat.zero_lt_succ 1)]
  simp only [Result.andThen]
  rw [Oper.upon_value]
  go_wp2
  rw [run_callFunc_extern Tryd.func76 (by kernel_rfl) (by kernel_rfl) (by kernel_rfl) (e := Extern.AbiNoEscape.same) (by kernel_rfl)]
  rw [Lib.run_noEscape]
  simp only [Result.andThen]
  rw [Oper.upon_value]
  go_wp2
  rw [Lib.run_from_unsafe w ⟨b, 0, none⟩ Tryd.underlying119 Tryd.underlying79 hj hsh extraAR.liesBuilder]
  simp only [Result.andThen]
  rw [Oper.upon_value]
  go_wp2
  go_end0
  exact ⟨rfl, rfl⟩
theorem copy_used (b : Nat) (w : World) (h0 : w.cell? ⟨b, 0, none⟩ = some (.pointer (some ⟨b, 0, none⟩))) :
    Calls Tryd.prog 61 #[.pointer (some ⟨b, 0, none⟩)] w fun e w' => e = .returned (.tuple #[]) ∧ w' = w := by
  go_enter Tryd.func61, Tryd.ntmps61
  go_wp2
  obtain ⟨j, hj, _⟩ := Option.map_eq_some_iff.1 extraAR.sizeBuilder
  rw [Lib.run_neq_ptr_same w ⟨b, 0, none⟩ Tryd.underlying79 hj]
  simp only [Result.andThen]
  rw [Oper.upon_value]
  go_wp2
  go_end0
  exact ⟨rfl, rfl⟩
/-- copyCheck: behind it the builder is used; all else is as it was. -/
theorem copy_calls (B b : Nat) (bs : List Value) (w : World) (h : Lib.IsBuilderF 82 5 B b bs w) :
    Calls Tryd.prog 61 #[.pointer (some ⟨b, 0, none⟩)] w fun e w' => e = .returned (.tuple #[]) ∧ Lib.BuilderAtF 82 5 B b (.pointer (some ⟨b, 0, none⟩)) bs w' ∧ Below B w w' ∧ Lib.OthersKept 5 (some b) w w' := by
  rcases h with h | h
  · obtain ⟨hB, v, hb, hown, hne⟩ := h
    have hlt : b < w.heap.size := (Array.getElem?_eq_some_iff.1 hb).1
    refine (copy_fresh b w (by rw [Lib.cell_of_heap hb]; rfl) (by simp [World.shape?, hb]) (Lib.frozen_of_heap hb 0)).mono ?_
    rintro e w' ⟨rfl, rfl⟩
    have h' : Lib.BuilderAtF 82 5 B b (.pointer none) bs w := ⟨hB, v, hb, hown, hne⟩
    exact ⟨rfl, h'.used _, (Below.refl B w).setCell (p := ⟨b, 0, none⟩) hB _, (Lib.OthersKept.refl 5 (some b) w).setCell ⟨b, 0, none⟩ rfl _⟩
  · refine (copy_used b w ?_).mono ?_
    · obtain ⟨hB, v, hb, hown, hne⟩ := h
      rw [Lib.cell_of_heap hb]; rfl
    · rintro e w' ⟨rfl, rfl⟩
      exact ⟨rfl, h, Below.refl _ _, Lib.OthersKept.refl _ _ _⟩
/-- A slice of one's own bytes is a slice. -/
theorem own_slice {w : World} {B : Nat} {v : Value} {n : Nat} {xs : List Value} (h : w.ownsRowF B 5 1 v n xs) : ∃ ao cap, v = .slice ao n cap := by
  rcases h.2 with ⟨hv, h0⟩ | ⟨g, cap, cur, fz, hv, _⟩
  · exact ⟨none, 0, by rw [hv, h0]⟩
  · exact ⟨_, _, hv⟩
/-- WriteRune: the rune's bytes stand behind; the builder is used; all else that is no row of bytes is as it was. -/
theorem write_calls (B b : Nat) (bs : List Value) (r : Int) (hr : -2147483648 ≤ r ∧ r ≤ 2147483647) (w : World) (h : Lib.IsBuilderF 82 5 B b bs w) (hlen : bs.length + 4 ≤ 140737488355328) (hBw : B ≤ w.heap.size) :
    Calls Tryd.prog 43 #[.pointer (some ⟨b, 0, none⟩), .int .i32 r] w fun e w' => (∃ v, e = .returned v) ∧ Lib.IsBuilderF 82 5 B b (bs ++ Lib.runeCells r) w' ∧ Below B w w' ∧ Lib.OthersKept 5 (some b) w w' := by
  have hk4 := Lib.runeCells_le r
  go_enter Tryd.func43, Tryd.ntmps43
  go_wp2_with (go_at_call 61; refine (copy_calls B b bs _ h).mono ?_)
  rintro e w1 ⟨rfl, h1, hb1, hk1⟩
  obtain ⟨hB, v, hbk, hown, hne⟩ := h1
  obtain ⟨ao, cap, rfl⟩ := own_slice hown
  have c1 : w1.cell? ⟨b, 1, none⟩ = some (.slice ao bs.length cap) := by rw [Lib.cell_of_heap hbk]; rfl
  have hs1 := hb1.size
  go_wp2_with (go_at_call 62; refine (Any.utf8_AppendRune_own layAR extraAR B _ bs.length bs r hr.1 hr.2 _ hown hlen (by omega)).mono ?_)
  rintro e w2 ⟨v', rfl, hown', o, hgrow⟩
  have hlt : b < w1.heap.size := (Array.getElem?_eq_some_iff.1 hbk).1
  have hb2 : w2.heap[b]? = some (.cells #[.pointer (some ⟨b, 0, none⟩), .slice ao bs.length cap] 82 (0, 0)) := by
    rw [hgrow.block b (by simp; omega) (fun e => hne e.symm), Lib.alloc_old w1 _ b hlt]
    exact hbk
  have d1 : w2.cell? ⟨b, 1, none⟩ = some (.slice ao bs.length cap) := by rw [Lib.cell_of_heap hb2]; rfl
  have f1 : w2.frozen? ⟨b, 1, none⟩ = false := Lib.frozen_of_heap hb2 1
  obtain ⟨ao', cap', rfl⟩ := own_slice hown'
  go_wp2
  go_ret2
  refine ⟨?_, ?_, ?_, ?_⟩
  · exact ⟨_, rfl⟩
  · exact .inr (Lib.BuilderAtF.put (T := 82) (e := 5) hB hb2 (bs' := bs ++ Lib.runeCells r) (by rw [List.length_append]; exact hown') (by decide))
  · exact ((hb1.alloc (by omega) _).grown hgrow (by simp; omega) (fun k hk => (hown.lt k hk).1)).setCell (p := ⟨b, 1, none⟩) hB _
  · exact ((hk1.alloc _).grown hgrow (Lib.ownsRowF_kind (hown.alloc _))).setCell ⟨b, 1, none⟩ rfl _
/-- Reset: the builder is as new. -/
theorem reset_calls (B b : Nat) (bs : List Value) (w : World) (h : Lib.IsBuilderF 82 5 B b bs w) :
    Calls Tryd.prog 46 #[.pointer (some ⟨b, 0, none⟩)] w fun e w' => (∃ v, e = .returned v) ∧ Lib.IsBuilderF 82 5 B b [] w' ∧ Below B w w' ∧ Lib.OthersKept 5 (some b) w w' := by
  obtain ⟨p, hp⟩ : ∃ p, Lib.BuilderAtF 82 5 B b p bs w := h.elim (fun x => ⟨_, x⟩) (fun x => ⟨_, x⟩)
  have c0 := hp.cell0
  have f0 := hp.frozen0
  obtain ⟨hB, v, hb1, hown, hne⟩ := hp.used (.pointer none)
  have c1 : (w.setCell ⟨b, 0, none⟩ (.pointer none)).cell? ⟨b, 1, none⟩ = some v := by rw [Lib.cell_of_heap hb1]; rfl
  have f1 : (w.setCell ⟨b, 0, none⟩ (.pointer none)).frozen? ⟨b, 1, none⟩ = false := Lib.frozen_of_heap hb1 1
  go_enter Tryd.func46, Tryd.ntmps46
  go_wp2
  go_end0
  refine ⟨⟨_, rfl⟩, ?_, ?_, ?_⟩
  · exact .inl (Lib.BuilderAtF.put (T := 82) (e := 5) hB hb1 (bs' := []) (World.ownsRowF_nil _ _ _ _) (by decide))
  · exact ((Below.refl B w).setCell (p := ⟨b, 0, none⟩) hB _).setCell (p := ⟨b, 1, none⟩) hB _
  · exact ((Lib.OthersKept.refl 5 (some b) w).setCell ⟨b, 0, none⟩ rfl _).setCell ⟨b, 1, none⟩ rfl _
end Go.Proofs.YtoakdmkjlpjahaaDoor

namespace Go.Proofs.YtoakdmkjlpjahaaDoor
open Go.RowKit Go.Shelf
open Go.Mx (tx Tabs immOf tx_size tx_data tx_list extract_tx tx_of)
set_option linter.unusedVariables false

/-! ### The words of a text -/
/-- A word, and whether a star follows. -/
abbrev W2 := List UInt8 × Bool
def lowC (c : Nat) : Nat := if 65 ≤ c ∧ c ≤ 90 then c + 32 else c
def splF (l : List UInt8) : Nat → Nat → List UInt8 → List W2 → List W2
  | 0, _, _, acc => acc
  | f + 1, pos, cur, acc => if pos ≤ l.length then
      (if pos < l.length ∧ letB (lowC (dec (l.drop pos)).1) (dec (l.drop pos)).2 = true then splF l f (pos + max 1 (dec (l.drop pos)).2) (cur ++ Lib.encodeRune (lowC (dec (l.drop pos)).1)) acc
      else if cur = [] then splF l f (pos + max 1 (dec (l.drop pos)).2) cur acc
      else splF l f (pos + max 1 (dec (l.drop pos)).2) [] (acc ++ [(cur, decide (lowC (dec (l.drop pos)).1 = 42))]))
    else acc
def splL (l : List UInt8) : List W2 := splF l (l.length + 1) 0 [] []
def encW (ws : List W2) : List Value := ws.flatMap fun w => [.string (tx w.1), .bool w.2]
theorem encW_len (ws : List W2) : (encW ws).length = ws.length * 2 := by
  induction ws with
  | nil => rfl
  | cons w ws ih => simp [encW] at ih ⊢; omega
theorem encW_snoc (ws : List W2) (w : W2) : encW (ws ++ [w]) = encW ws ++ [.string (tx w.1), .bool w.2] := by simp [encW]
theorem dec_bnd (l : List UInt8) : (dec l).1 ≤ 1114111 ∧ (dec l).2 ≤ 4 := by
  cases l with
  | nil => simp [dec]
  | cons c l =>
    rw [dec_cons]
    have h := UInt8.toNat_lt c
    unfold Go.Lib.decodeN
    (repeat' split) <;> simp only <;> omega
theorem bld_below {B b : Nat} {bs : List Value} {w w' : World} (h : Lib.IsBuilderF 82 5 B b bs w) (hb : Below w.heap.size w w') : Lib.IsBuilderF 82 5 B b bs w' := by
  have key : ∀ p, Lib.BuilderAtF 82 5 B b p bs w → Lib.BuilderAtF 82 5 B b p bs w' := by
    rintro p ⟨hB, v, h1, h2, h3⟩
    have hk : ∀ k o, w.heap[k]? = some o → w'.heap[k]? = some o := fun k o hk => (hb.block k (Array.getElem?_eq_some_iff.1 hk).1).trans hk
    refine ⟨hB, v, hk _ _ h1, ⟨h2.1, ?_⟩, h3⟩
    rcases h2.2 with h | ⟨g, cap, cur, fz, hv, hg, hh, rest⟩
    · exact .inl h
    · exact .inr ⟨g, cap, cur, fz, hv, hg, hk _ _ hh, rest⟩
  exact h.elim (fun x => .inl (key _ x)) (fun x => .inr (key _ x))
theorem row_below {B : Nat} {v : Value} {n : Nat} {xs : List Value} {w w' : World} (h : w.ownsRow B 56 2 v n xs) (hb : Below w.heap.size w w') : w'.ownsRow B 56 2 v n xs := by
  refine ⟨h.1, ?_⟩
  rcases h.2 with h | ⟨g, cap, cur, hv, hg, hh, rest⟩
  · exact .inl h
  · exact .inr ⟨g, cap, cur, hv, hg, (hb.block g (Array.getElem?_eq_some_iff.1 hh).1).trans hh, rest⟩
theorem row_others {B b : Nat} {v : Value} {n : Nat} {xs : List Value} {w w' : World} (h : w.ownsRow B 56 2 v n xs) (hne : v.ownBlock ≠ some b) (hb : Lib.OthersKept 5 (some b) w w') : w'.ownsRow B 56 2 v n xs := by
  refine ⟨h.1, ?_⟩
  rcases h.2 with h | ⟨g, cap, cur, rfl, hg, hh, rest⟩
  · exact .inl h
  · exact .inr ⟨g, cap, cur, rfl, hg, hb g _ hh (by simpa [Value.ownBlock] using hne) (by intro c fz e; cases e), rest⟩
theorem tabs_below {B : Nat} {w w' : World} (h : Tabs (immOf w) tabsH) (h2 : 2 ≤ B) (hb : Below B w w') : Tabs (immOf w') tabsH := by
  have key : ∀ g arr, g < 2 → immOf w g = some arr → immOf w' g = some arr := fun g arr hg hi => by
    have : w'.heap[g]? = w.heap[g]? := hb.block g (by omega)
    unfold immOf at hi ⊢; rw [this]; exact hi
  intro id o ho
  match id, ho with
  | 0, ho =>
    rcases h 0 o ho with e | ⟨us, e, h1, h3, arr, h4, h5⟩
    · exact .inl e
    · exact .inr ⟨us, e, h1, h3, arr, key 0 arr (by omega) h4, h5⟩
  | 1, ho =>
    rcases h 1 o ho with e | ⟨us, e, h1, h3, arr, h4, h5⟩
    · exact .inl e
    · exact .inr ⟨us, e, h1, h3, arr, key 1 arr (by omega) h4, h5⟩
  | n + 2, ho => simp [tabsH] at ho
theorem tabs_size {w : World} (h : Tabs (immOf w) tabsH) : 2 ≤ w.heap.size := by
  rcases h 1 _ rfl with e | ⟨us, e, h1, h3, arr, h4, h5⟩
  · cases e
  · unfold immOf at h4
    split at h4
    · rename_i hh; have := (Array.getElem?_eq_some_iff.1 hh).1; simp only at this; omega
    · simp at h4
theorem info56 : (Tryd.prog.info? 56).map (fun i => (i.zero, i.size, i.bytes)) = some (some (.agg #[.string ⟨#[]⟩, .bool false]), 2, 24) := by kernel_rfl

theorem bld_grown {B b B' : Nat} {bs : List Value} {v : Value} {n : Nat} {xs : List Value} {w w' : World} (h : Lib.IsBuilderF 82 5 B b bs w) (hr : w.ownsRow B' 56 2 v n xs) (hg : w.grownBy w' v.ownBlock) : Lib.IsBuilderF 82 5 B b bs w' := by
  have hk : ∀ (k : Nat) (cs : Array Value) (e : TypeId) (fz : Nat × Nat), e ≠ (56 : Nat) → w.heap[k]? = some (Obj.cells cs e fz) → w'.heap[k]? = some (Obj.cells cs e fz) := by
    intro k cs e fz he hk
    rw [hg.block k (Array.getElem?_eq_some_iff.1 hk).1 (fun e1 => ?_)]
    · exact hk
    · rcases hr.2 with ⟨rfl, _⟩ | ⟨g, cap, cur, rfl, _, hh, _⟩
      · simp [Value.ownBlock] at e1
      · simp only [Value.ownBlock, Option.some.injEq] at e1
        subst e1
        rw [hk] at hh; simp at hh; exact he hh.2.1
  have key : ∀ p, Lib.BuilderAtF 82 5 B b p bs w → Lib.BuilderAtF 82 5 B b p bs w' := by
    rintro p ⟨hB, v, h1, h2, h3⟩
    refine ⟨hB, v, hk _ _ _ _ (by decide) h1, ⟨h2.1, ?_⟩, h3⟩
    rcases h2.2 with h | ⟨g, cap, cur, fz, hv, hg, hh, rest⟩
    · exact .inl h
    · exact .inr ⟨g, cap, cur, fz, hv, hg, hk _ _ _ _ (by decide) hh, rest⟩
  exact h.elim (fun x => .inl (key _ x)) (fun x => .inr (key _ x))
theorem row_ne {B b : Nat} {v : Value} {n : Nat} {xs : List Value} {w : World} (h : w.ownsRow B 56 2 v n xs) (hb : b < B) : v.ownBlock ≠ some b := by
  rcases h.2 with ⟨rfl, _⟩ | ⟨g, cap, cur, rfl, hg, _⟩
  · simp [Value.ownBlock]
  · simp only [Value.ownBlock, ne_eq, Option.some.injEq]; omega
theorem cell_two_new (W : World) (a b : Value) (t : TypeId) : ∀ j u, ([a, b] : List Value)[j]? = some u → (W.alloc (.cells #[a, b] t)).cell? ((⟨W.heap.size, 0, none⟩ : Addr).add j) = some u := by
  intro j u h
  have hadd : (⟨W.heap.size, 0, none⟩ : Addr).add j = ⟨W.heap.size, j, none⟩ := by unfold Addr.add; split <;> simp_all
  rw [hadd, Lib.cell_of_heap (heap_alloc_new W _)]
  match j, h with
  | 0, h => simpa using h
  | 1, h => simpa using h
  | j + 2, h => simp at h
theorem enc_le (c : Nat) : (Lib.encodeRune (c : Int)).length ≤ 4 := by
  have h := (Lib.runeCells_le (c : Int)).2
  rwa [Lib.runeCells_length] at h
theorem row_some {B : Nat} {v : Value} {n : Nat} {xs : List Value} {w : World} (h : w.ownsRow B 56 2 v (n + 1) xs) : v ≠ .slice none 0 0 := by
  rcases h.2 with ⟨_, h0⟩ | ⟨g, cap, cur, rfl, hg, _⟩
  · omega
  · simp
set_option maxRecDepth 1000000 in
set_option maxHeartbeats 8000000 in
theorem split_calls (l : List UInt8) (hl : l.length ≤ 100000) (w : World) (hT : Tabs (immOf w) tabsH) :
    Calls Tryd.prog 26 #[.string (tx l)] w fun e w' => ∃ v, e = .returned v ∧ w'.ownsRow (w.heap.size + 1) 56 2 v (splL l).length (encW (splL l)) ∧ (v = .slice none 0 0 ↔ splL l = []) ∧ Below w.heap.size w w' := by
  obtain ⟨i0, hi, hz0, hz1, hz2⟩ := info_parts info56
  have h2 := tabs_size hT
  go_enter Tryd.func26, Tryd.ntmps26
  go_wp2
  go_loopw [3, 5] (fun out at_ wr => ∃ (pos fuel : Nat) (cur : List UInt8) (acc : List W2), at_ = .int .i64 pos ∧ wr.ownsRow (w.heap.size + 1) 56 2 out acc.length (encW acc) ∧ (out = .slice none 0 0 ↔ acc = []) ∧ Lib.IsBuilderF 82 5 w.heap.size w.heap.size (Lib.byteCells cur) wr ∧ Below w.heap.size w wr ∧ splF l fuel pos cur acc = splL l ∧ l.length + 1 ≤ pos + fuel ∧ cur.length ≤ 4 * pos ∧ acc.length ≤ pos ∧ pos ≤ l.length + 5) (fun _ at_ wr => l.length + 5 - (intOf at_).toNat)
  case atStart =>
    refine ⟨0, l.length + 1, [], [], rfl, World.ownsRow_nil _ _ _ _, by simp, Lib.IsBuilderF.of (Lib.fresh_isBuilder 82 5 w), ?_, rfl, by omega, by simp, by simp, by omega⟩
    exact (Below.refl _ w).alloc (Nat.le_refl _) _
  case round =>
    obtain ⟨pos, fuel, cur, acc, rfl, hrow, hnil, hI, hbw, hall, hfu, hcl, hal, hpl⟩ := hrel
    by_cases hp : pos ≤ l.length
    · have hdec := decode_calls (l.drop pos) wr (tabs_below hT h2 hbw)
      have hex : (tx l).extract pos (tx l).size = tx (l.drop pos) := by rw [extract_tx, tx_size, List.take_of_length_le (by rw [List.length_drop]; omega)]
      have hpc : pos ≤ (tx l).size := by rw [tx_size]; exact hp
      obtain ⟨hc0, hn0⟩ := dec_bnd (l.drop pos)
      obtain ⟨f, rfl⟩ : ∃ f, fuel = f + 1 := ⟨fuel - 1, by omega⟩
      simp only [splF] at hall
      rw [if_pos hp] at hall
      generalize hd : dec (l.drop pos) = d at hdec hc0 hn0 hall
      obtain ⟨c, n⟩ := d
      simp only at hdec hc0 hn0 hall
      have hmx : ((pos : Int) + max 1 (n : Int)) = ((pos + max 1 n : Nat) : Int) := by omega
      by_cases hlow : 65 ≤ c ∧ c ≤ 90
      · have hlc : lowC c = c + 32 := by unfold lowC; rw [if_pos hlow]
        rw [hlc] at hall
        have hl1 : (65 : Int) ≤ (c : Int) := by omega
        have hl2 : (c : Int) ≤ 90 := by omega
        have w32 : IntKind.i32.wrap ((c : Int) + 32) = ((c + 32 : Nat) : Int) := by rw [Go.Mx.wr_i32 (by omega)]; omega
        by_cases hps : pos < (tx l).size
        · cases hlet : letB (c + 32 : Nat) n with
          | true =>
            rw [if_pos ⟨by rw [tx_size] at hps; exact hps, hlet⟩] at hall
            go_wp2_with (first | (go_at_call 41; refine hdec.mono ?_; rintro e W1 ⟨rfl, hb1⟩) | (go_at_call 42; refine (letter_calls (c + 32 : Nat) n _).mono ?_; rw [hlet]; rintro e W2 ⟨rfl, hb2⟩))
            have hb2' := hb1.trans (hb2.mono hb1.size)
            have hI2 := bld_below hI hb2'
            have hrow2 := row_below hrow hb2'
            have hbw2 := hbw.trans (hb2'.mono hbw.size)
            have hw := write_calls w.heap.size w.heap.size (Lib.byteCells cur) ((c + 32 : Nat) : Int) (by omega) W2 hI2 (by rw [Lib.byteCells_length]; omega) hbw2.size
            go_wp2_with (go_at_call 43; refine hw.mono ?_; rintro e W3 ⟨⟨v3, rfl⟩, hI3, hb3, hk3⟩)
            have hrow3 := row_others hrow2 (row_ne hrow2 (Nat.lt_succ_self _)) hk3
            have hle := enc_le (c + 32 : Nat)
            have hbw3 := hbw2.trans hb3
            have hI3' : Lib.IsBuilderF 82 5 w.heap.size w.heap.size (Lib.byteCells (cur ++ Lib.encodeRune ((c + 32 : Nat) : Nat))) W3 := by rw [Lib.byteCells_append, Lib.byteCells_encodeRune]; exact hI3
            go_roundw
            case rel => exact ⟨pos + max 1 n, f, cur ++ Lib.encodeRune ((c + 32 : Nat) : Nat), acc, congrArg (Value.int .i64) (by omega), hrow3, hnil, hI3', hbw3, hall, by omega, by rw [List.length_append]; omega, by omega, by omega⟩
            case measure => simp only [intOf]; omega
          | false =>
            rw [if_neg (fun h => by rw [hlet] at h; simp at h)] at hall
            by_cases hcur : cur = []
            · rw [if_pos hcur] at hall
              have hcl0 : cur.length = 0 := by rw [hcur]; rfl
              go_wp2_with (first | (go_at_call 41; refine hdec.mono ?_; rintro e W1 ⟨rfl, hb1⟩) | (go_at_call 42; refine (letter_calls (c + 32 : Nat) n _).mono ?_; rw [hlet]; rintro e W2 ⟨rfl, hb2⟩))
              have hb2' := hb1.trans (hb2.mono hb1.size)
              have hI2 := bld_below hI hb2'
              have hrow2 := row_below hrow hb2'
              have hbw2 := hbw.trans (hb2'.mono hbw.size)
              have hlenc : Calls Tryd.prog 44 #[.pointer (some ⟨w.heap.size, 0, none⟩)] W2 fun e w' => e = .returned (.int .i64 (Lib.byteCells cur).length) ∧ w' = W2 := Any.Builder_Len_f layLen _ _ _ _ hI2
              rw [Lib.byteCells_length] at hlenc
              go_wp2_with (go_at_call 44; refine hlenc.mono ?_; rintro e w' ⟨rfl, rfl⟩)
              go_roundw
              case rel => exact ⟨pos + max 1 n, f, cur, acc, congrArg (Value.int .i64) (by omega), hrow2, hnil, hI2, hbw2, hall, by omega, by omega, by omega, by omega⟩
              case measure => simp only [intOf]; omega
            · rw [if_neg hcur] at hall
              have hpos : 0 < cur.length := List.length_pos_iff.2 hcur
              go_wp2_with (first | (go_at_call 41; refine hdec.mono ?_; rintro e W1 ⟨rfl, hb1⟩) | (go_at_call 42; refine (letter_calls (c + 32 : Nat) n _).mono ?_; rw [hlet]; rintro e W2 ⟨rfl, hb2⟩))
              have hb2' := hb1.trans (hb2.mono hb1.size)
              have hI2 := bld_below hI hb2'
              have hrow2 := row_below hrow hb2'
              have hbw2 := hbw.trans (hb2'.mono hbw.size)
              have hlenc : Calls Tryd.prog 44 #[.pointer (some ⟨w.heap.size, 0, none⟩)] W2 fun e w' => e = .returned (.int .i64 (Lib.byteCells cur).length) ∧ w' = W2 := Any.Builder_Len_f layLen _ _ _ _ hI2
              rw [Lib.byteCells_length] at hlenc
              have hstr : Calls Tryd.prog 45 #[.pointer (some ⟨w.heap.size, 0, none⟩)] W2 fun e w' => e = .returned (.string (tx cur)) ∧ (Lib.IsBuilderF 82 5 w.heap.size w.heap.size (Lib.byteCells cur) w' ∧ Below w.heap.size W2 w' ∧ Lib.OthersKept 5 (some w.heap.size) W2 w') := Any.Builder_String_any_k layStr extraStr _ _ _ _ hI2 hbw2.size
              have hb42 : decide ((c + 32 : Nat) = 42) = (((c : Int) + 32) == 42) := by rw [Bool.eq_iff_iff]; simp; omega
              go_wp2_with (first | (go_at_call 44; refine hlenc.mono ?_; rintro e w' ⟨rfl, rfl⟩) | (go_at_call 45; refine hstr.mono ?_; rintro e W3 ⟨rfl, hI3, hb3, hk3⟩; have hrow3 := row_others hrow2 (row_ne hrow2 (Nat.lt_succ_self _)) hk3; have hbw3 := hbw2.trans hb3; have hs3 := hbw3.size) | (at_builtin; refine wpList_append_own _ rfl _ _ 53 rfl (w.heap.size + 1) 56 i0 (.agg #[.string ⟨#[]⟩, .bool false]) 2 24 Tryd.underlying53 hi hz0 hz1 hz2 rfl (by decide) _ _ _ rfl (hrow3.alloc _) ⟨W3.heap.size, 0, none⟩ 1 1 [.string (tx cur), .bool (((c : Int) + 32) == 42)] rfl rfl (cell_two_new _ _ _ _) (by simp [Value.oneCell']) (by simp only [maxLen]; omega) (by omega) (by simp; omega) ?_; intro v' W4 hown4 hgrow hnil4; have hI4 := bld_grown (hI3.alloc _) (hrow3.alloc _) hgrow; have hb4 := (hbw3.alloc (by omega) _).grown hgrow (by simp; omega) (fun k hk => by have := (hrow3.lt k hk).1; omega)) | (go_at_call 46; refine (reset_calls _ _ _ _ hI4).mono ?_; rintro e W5 ⟨⟨v5, rfl⟩, hI5, hb5, hk5⟩))
              have hrow5 := row_others hown4 (row_ne hown4 (Nat.lt_succ_self _)) hk5
              have hbw5 := hb4.trans hb5
              have hrow5' : W5.ownsRow (w.heap.size + 1) 56 2 v' (acc ++ [(cur, decide ((c + 32 : Nat) = 42))]).length (encW (acc ++ [(cur, decide ((c + 32 : Nat) = 42))])) := by
                rw [encW_snoc, hb42, List.length_append]
                exact hrow5
              have hnil5 : v' = .slice none 0 0 ↔ acc ++ [(cur, decide ((c + 32 : Nat) = 42))] = [] := by
                have := row_some hrow5
                simp [this]
              go_roundw
              case rel => exact ⟨pos + max 1 n, f, [], acc ++ [(cur, decide ((c + 32 : Nat) = 42))], congrArg (Value.int .i64) (by omega), hrow5', hnil5, hI5, hbw5, hall, by omega, by simp, by rw [List.length_append]; simp; omega, by omega⟩
              case measure => simp only [intOf]; omega
        · rw [if_neg (fun h => hps (by rw [tx_size]; exact h.1))] at hall
          by_cases hcur : cur = []
          · rw [if_pos hcur] at hall
            have hcl0 : cur.length = 0 := by rw [hcur]; rfl
            go_wp2_with (go_at_call 41; refine hdec.mono ?_; rintro e W2 ⟨rfl, hb2'⟩)
            have hI2 := bld_below hI hb2'
            have hrow2 := row_below hrow hb2'
            have hbw2 := hbw.trans (hb2'.mono hbw.size)
            have hlenc : Calls Tryd.prog 44 #[.pointer (some ⟨w.heap.size, 0, none⟩)] W2 fun e w' => e = .returned (.int .i64 (Lib.byteCells cur).length) ∧ w' = W2 := Any.Builder_Len_f layLen _ _ _ _ hI2
            rw [Lib.byteCells_length] at hlenc
            go_wp2_with (go_at_call 44; refine hlenc.mono ?_; rintro e w' ⟨rfl, rfl⟩)
            go_roundw
            case rel => exact ⟨pos + max 1 n, f, cur, acc, congrArg (Value.int .i64) (by omega), hrow2, hnil, hI2, hbw2, hall, by omega, by omega, by omega, by omega⟩
            case measure => simp only [intOf]; omega
          · rw [if_neg hcur] at hall
            have hpos : 0 < cur.length := List.length_pos_iff.2 hcur
            go_wp2_with (go_at_call 41; refine hdec.mono ?_; rintro e W2 ⟨rfl, hb2'⟩)
            have hI2 := bld_below hI hb2'
            have hrow2 := row_below hrow hb2'
            have hbw2 := hbw.trans (hb2'.mono hbw.size)
            have hlenc : Calls Tryd.prog 44 #[.pointer (some ⟨w.heap.size, 0, none⟩)] W2 fun e w' => e = .returned (.int .i64 (Lib.byteCells cur).length) ∧ w' = W2 := Any.Builder_Len_f layLen _ _ _ _ hI2
            rw [Lib.byteCells_length] at hlenc
            have hstr : Calls Tryd.prog 45 #[.pointer (some ⟨w.heap.size, 0, none⟩)] W2 fun e w' => e = .returned (.string (tx cur)) ∧ (Lib.IsBuilderF 82 5 w.heap.size w.heap.size (Lib.byteCells cur) w' ∧ Below w.heap.size W2 w' ∧ Lib.OthersKept 5 (some w.heap.size) W2 w') := Any.Builder_String_any_k layStr extraStr _ _ _ _ hI2 hbw2.size
            have hb42 : decide ((c + 32 : Nat) = 42) = (((c : Int) + 32) == 42) := by rw [Bool.eq_iff_iff]; simp; omega
            go_wp2_with (first | (go_at_call 44; refine hlenc.mono ?_; rintro e w' ⟨rfl, rfl⟩) | (go_at_call 45; refine hstr.mono ?_; rintro e W3 ⟨rfl, hI3, hb3, hk3⟩; have hrow3 := row_others hrow2 (row_ne hrow2 (Nat.lt_succ_self _)) hk3; have hbw3 := hbw2.trans hb3; have hs3 := hbw3.size) | (at_builtin; refine wpList_append_own _ rfl _ _ 53 rfl (w.heap.size + 1) 56 i0 (.agg #[.string ⟨#[]⟩, .bool false]) 2 24 Tryd.underlying53 hi hz0 hz1 hz2 rfl (by decide) _ _ _ rfl (hrow3.alloc _) ⟨W3.heap.size, 0, none⟩ 1 1 [.string (tx cur), .bool (((c : Int) + 32) == 42)] rfl rfl (cell_two_new _ _ _ _) (by simp [Value.oneCell']) (by simp only [maxLen]; omega) (by omega) (by simp; omega) ?_; intro v' W4 hown4 hgrow hnil4; have hI4 := bld_grown (hI3.alloc _) (hrow3.alloc _) hgrow; have hb4 := (hbw3.alloc (by omega) _).grown hgrow (by simp; omega) (fun k hk => by have := (hrow3.lt k hk).1; omega)) | (go_at_call 46; refine (reset_calls _ _ _ _ hI4).mono ?_; rintro e W5 ⟨⟨v5, rfl⟩, hI5, hb5, hk5⟩))
            have hrow5 := row_others hown4 (row_ne hown4 (Nat.lt_succ_self _)) hk5
            have hbw5 := hb4.trans hb5
            have hrow5' : W5.ownsRow (w.heap.size + 1) 56 2 v' (acc ++ [(cur, decide ((c + 32 : Nat) = 42))]).length (encW (acc ++ [(cur, decide ((c + 32 : Nat) = 42))])) := by
              rw [encW_snoc, hb42, List.length_append]
              exact hrow5
            have hnil5 : v' = .slice none 0 0 ↔ acc ++ [(cur, decide ((c + 32 : Nat) = 42))] = [] := by
              have := row_some hrow5
              simp [this]
            go_roundw
            case rel => exact ⟨pos + max 1 n, f, [], acc ++ [(cur, decide ((c + 32 : Nat) = 42))], congrArg (Value.int .i64) (by omega), hrow5', hnil5, hI5, hbw5, hall, by omega, by simp, by rw [List.length_append]; simp; omega, by omega⟩
            case measure => simp only [intOf]; omega
      · have hlc : lowC c = c := by unfold lowC; rw [if_neg hlow]
        rw [hlc] at hall
        by_cases hps : pos < (tx l).size
        · by_cases h65 : (65 : Int) ≤ (c : Int)
          · have h90 : ¬ (c : Int) ≤ 90 := by omega
            cases hlet : letB c n with
            | true =>
              rw [if_pos ⟨by rw [tx_size] at hps; exact hps, hlet⟩] at hall
              go_wp2_with (first | (go_at_call 41; refine hdec.mono ?_; rintro e W1 ⟨rfl, hb1⟩) | (go_at_call 42; refine (letter_calls c n _).mono ?_; rw [hlet]; rintro e W2 ⟨rfl, hb2⟩))
              have hb2' := hb1.trans (hb2.mono hb1.size)
              have hI2 := bld_below hI hb2'
              have hrow2 := row_below hrow hb2'
              have hbw2 := hbw.trans (hb2'.mono hbw.size)
              have hw := write_calls w.heap.size w.heap.size (Lib.byteCells cur) (c : Int) (by omega) W2 hI2 (by rw [Lib.byteCells_length]; omega) hbw2.size
              go_wp2_with (go_at_call 43; refine hw.mono ?_; rintro e W3 ⟨⟨v3, rfl⟩, hI3, hb3, hk3⟩)
              have hrow3 := row_others hrow2 (row_ne hrow2 (Nat.lt_succ_self _)) hk3
              have hle := enc_le c
              have hbw3 := hbw2.trans hb3
              have hI3' : Lib.IsBuilderF 82 5 w.heap.size w.heap.size (Lib.byteCells (cur ++ Lib.encodeRune (c : Nat))) W3 := by rw [Lib.byteCells_append, Lib.byteCells_encodeRune]; exact hI3
              go_roundw
              case rel => exact ⟨pos + max 1 n, f, cur ++ Lib.encodeRune (c : Nat), acc, congrArg (Value.int .i64) (by omega), hrow3, hnil, hI3', hbw3, hall, by omega, by rw [List.length_append]; omega, by omega, by omega⟩
              case measure => simp only [intOf]; omega
            | false =>
              rw [if_neg (fun h => by rw [hlet] at h; simp at h)] at hall
              by_cases hcur : cur = []
              · rw [if_pos hcur] at hall
                have hcl0 : cur.length = 0 := by rw [hcur]; rfl
                go_wp2_with (first | (go_at_call 41; refine hdec.mono ?_; rintro e W1 ⟨rfl, hb1⟩) | (go_at_call 42; refine (letter_calls c n _).mono ?_; rw [hlet]; rintro e W2 ⟨rfl, hb2⟩))
                have hb2' := hb1.trans (hb2.mono hb1.size)
                have hI2 := bld_below hI hb2'
                have hrow2 := row_below hrow hb2'
                have hbw2 := hbw.trans (hb2'.mono hbw.size)
                have hlenc : Calls Tryd.prog 44 #[.pointer (some ⟨w.heap.size, 0, none⟩)] W2 fun e w' => e = .returned (.int .i64 (Lib.byteCells cur).length) ∧ w' = W2 := Any.Builder_Len_f layLen _ _ _ _ hI2
                rw [Lib.byteCells_length] at hlenc
                go_wp2_with (go_at_call 44; refine hlenc.mono ?_; rintro e w' ⟨rfl, rfl⟩)
                go_roundw
                case rel => exact ⟨pos + max 1 n, f, cur, acc, congrArg (Value.int .i64) (by omega), hrow2, hnil, hI2, hbw2, hall, by omega, by omega, by omega, by omega⟩
                case measure => simp only [intOf]; omega
              · rw [if_neg hcur] at hall
                have hpos : 0 < cur.length := List.length_pos_iff.2 hcur
                go_wp2_with (first | (go_at_call 41; refine hdec.mono ?_; rintro e W1 ⟨rfl, hb1⟩) | (go_at_call 42; refine (letter_calls c n _).mono ?_; rw [hlet]; rintro e W2 ⟨rfl, hb2⟩))
                have hb2' := hb1.trans (hb2.mono hb1.size)
                have hI2 := bld_below hI hb2'
                have hrow2 := row_below hrow hb2'
                have hbw2 := hbw.trans (hb2'.mono hbw.size)
                have hlenc : Calls Tryd.prog 44 #[.pointer (some ⟨w.heap.size, 0, none⟩)] W2 fun e w' => e = .returned (.int .i64 (Lib.byteCells cur).length) ∧ w' = W2 := Any.Builder_Len_f layLen _ _ _ _ hI2
                rw [Lib.byteCells_length] at hlenc
                have hstr : Calls Tryd.prog 45 #[.pointer (some ⟨w.heap.size, 0, none⟩)] W2 fun e w' => e = .returned (.string (tx cur)) ∧ (Lib.IsBuilderF 82 5 w.heap.size w.heap.size (Lib.byteCells cur) w' ∧ Below w.heap.size W2 w' ∧ Lib.OthersKept 5 (some w.heap.size) W2 w') := Any.Builder_String_any_k layStr extraStr _ _ _ _ hI2 hbw2.size
                have hb42 : decide (c = 42) = ((c : Int) == 42) := by rw [Bool.eq_iff_iff]; simp; omega
                go_wp2_with (first | (go_at_call 44; refine hlenc.mono ?_; rintro e w' ⟨rfl, rfl⟩) | (go_at_call 45; refine hstr.mono ?_; rintro e W3 ⟨rfl, hI3, hb3, hk3⟩; have hrow3 := row_others hrow2 (row_ne hrow2 (Nat.lt_succ_self _)) hk3; have hbw3 := hbw2.trans hb3; have hs3 := hbw3.size) | (at_builtin; refine wpList_append_own _ rfl _ _ 53 rfl (w.heap.size + 1) 56 i0 (.agg #[.string ⟨#[]⟩, .bool false]) 2 24 Tryd.underlying53 hi hz0 hz1 hz2 rfl (by decide) _ _ _ rfl (hrow3.alloc _) ⟨W3.heap.size, 0, none⟩ 1 1 [.string (tx cur), .bool ((c : Int) == 42)] rfl rfl (cell_two_new _ _ _ _) (by simp [Value.oneCell']) (by simp only [maxLen]; omega) (by omega) (by simp; omega) ?_; intro v' W4 hown4 hgrow hnil4; have hI4 := bld_grown (hI3.alloc _) (hrow3.alloc _) hgrow; have hb4 := (hbw3.alloc (by omega) _).grown hgrow (by simp; omega) (fun k hk => by have := (hrow3.lt k hk).1; omega)) | (go_at_call 46; refine (reset_calls _ _ _ _ hI4).mono ?_; rintro e W5 ⟨⟨v5, rfl⟩, hI5, hb5, hk5⟩))
                have hrow5 := row_others hown4 (row_ne hown4 (Nat.lt_succ_self _)) hk5
                have hbw5 := hb4.trans hb5
                have hrow5' : W5.ownsRow (w.heap.size + 1) 56 2 v' (acc ++ [(cur, decide (c = 42))]).length (encW (acc ++ [(cur, decide (c = 42))])) := by
                  rw [encW_snoc, hb42, List.length_append]
                  exact hrow5
                have hnil5 : v' = .slice none 0 0 ↔ acc ++ [(cur, decide (c = 42))] = [] := by
                  have := row_some hrow5
                  simp [this]
                go_roundw
                case rel => exact ⟨pos + max 1 n, f, [], acc ++ [(cur, decide (c = 42))], congrArg (Value.int .i64) (by omega), hrow5', hnil5, hI5, hbw5, hall, by omega, by simp, by rw [List.length_append]; simp; omega, by omega⟩
                case measure => simp only [intOf]; omega
          · cases hlet : letB c n with
            | true =>
              rw [if_pos ⟨by rw [tx_size] at hps; exact hps, hlet⟩] at hall
              go_wp2_with (first | (go_at_call 41; refine hdec.mono ?_; rintro e W1 ⟨rfl, hb1⟩) | (go_at_call 42; refine (letter_calls c n _).mono ?_; rw [hlet]; rintro e W2 ⟨rfl, hb2⟩))
              have hb2' := hb1.trans (hb2.mono hb1.size)
              have hI2 := bld_below hI hb2'
              have hrow2 := row_below hrow hb2'
              have hbw2 := hbw.trans (hb2'.mono hbw.size)
              have hw := write_calls w.heap.size w.heap.size (Lib.byteCells cur) (c : Int) (by omega) W2 hI2 (by rw [Lib.byteCells_length]; omega) hbw2.size
              go_wp2_with (go_at_call 43; refine hw.mono ?_; rintro e W3 ⟨⟨v3, rfl⟩, hI3, hb3, hk3⟩)
              have hrow3 := row_others hrow2 (row_ne hrow2 (Nat.lt_succ_self _)) hk3
              have hle := enc_le c
              have hbw3 := hbw2.trans hb3
              have hI3' : Lib.IsBuilderF 82 5 w.heap.size w.heap.size (Lib.byteCells (cur ++ Lib.encodeRune (c : Nat))) W3 := by rw [Lib.byteCells_append, Lib.byteCells_encodeRune]; exact hI3
              go_roundw
              case rel => exact ⟨pos + max 1 n, f, cur ++ Lib.encodeRune (c : Nat), acc, congrArg (Value.int .i64) (by omega), hrow3, hnil, hI3', hbw3, hall, by omega, by rw [List.length_append]; omega, by omega, by omega⟩
              case measure => simp only [intOf]; omega
            | false =>
              rw [if_neg (fun h => by rw [hlet] at h; simp at h)] at hall
              by_cases hcur : cur = []
              · rw [if_pos hcur] at hall
                have hcl0 : cur.length = 0 := by rw [hcur]; rfl
                go_wp2_with (first | (go_at_call 41; refine hdec.mono ?_; rintro e W1 ⟨rfl, hb1⟩) | (go_at_call 42; refine (letter_calls c n _).mono ?_; rw [hlet]; rintro e W2 ⟨rfl, hb2⟩))
                have hb2' := hb1.trans (hb2.mono hb1.size)
                have hI2 := bld_below hI hb2'
                have hrow2 := row_below hrow hb2'
                have hbw2 := hbw.trans (hb2'.mono hbw.size)
                have hlenc : Calls Tryd.prog 44 #[.pointer (some ⟨w.heap.size, 0, none⟩)] W2 fun e w' => e = .returned (.int .i64 (Lib.byteCells cur).length) ∧ w' = W2 := Any.Builder_Len_f layLen _ _ _ _ hI2
                rw [Lib.byteCells_length] at hlenc
                go_wp2_with (go_at_call 44; refine hlenc.mono ?_; rintro e w' ⟨rfl, rfl⟩)
                go_roundw
                case rel => exact ⟨pos + max 1 n, f, cur, acc, congrArg (Value.int .i64) (by omega), hrow2, hnil, hI2, hbw2, hall, by omega, by omega, by omega, by omega⟩
                case measure => simp only [intOf]; omega
              · rw [if_neg hcur] at hall
                have hpos : 0 < cur.length := List.length_pos_iff.2 hcur
                go_wp2_with (first | (go_at_call 41; refine hdec.mono ?_; rintro e W1 ⟨rfl, hb1⟩) | (go_at_call 42; refine (letter_calls c n _).mono ?_; rw [hlet]; rintro e W2 ⟨rfl, hb2⟩))
                have hb2' := hb1.trans (hb2.mono hb1.size)
                have hI2 := bld_below hI hb2'
                have hrow2 := row_below hrow hb2'
                have hbw2 := hbw.trans (hb2'.mono hbw.size)
                have hlenc : Calls Tryd.prog 44 #[.pointer (some ⟨w.heap.size, 0, none⟩)] W2 fun e w' => e = .returned (.int .i64 (Lib.byteCells cur).length) ∧ w' = W2 := Any.Builder_Len_f layLen _ _ _ _ hI2
                rw [Lib.byteCells_length] at hlenc
                have hstr : Calls Tryd.prog 45 #[.pointer (some ⟨w.heap.size, 0, none⟩)] W2 fun e w' => e = .returned (.string (tx cur)) ∧ (Lib.IsBuilderF 82 5 w.heap.size w.heap.size (Lib.byteCells cur) w' ∧ Below w.heap.size W2 w' ∧ Lib.OthersKept 5 (some w.heap.size) W2 w') := Any.Builder_String_any_k layStr extraStr _ _ _ _ hI2 hbw2.size
                have hb42 : decide (c = 42) = ((c : Int) == 42) := by rw [Bool.eq_iff_iff]; simp; omega
                go_wp2_with (first | (go_at_call 44; refine hlenc.mono ?_; rintro e w' ⟨rfl, rfl⟩) | (go_at_call 45; refine hstr.mono ?_; rintro e W3 ⟨rfl, hI3, hb3, hk3⟩; have hrow3 := row_others hrow2 (row_ne hrow2 (Nat.lt_succ_self _)) hk3; have hbw3 := hbw2.trans hb3; have hs3 := hbw3.size) | (at_builtin; refine wpList_append_own _ rfl _ _ 53 rfl (w.heap.size + 1) 56 i0 (.agg #[.string ⟨#[]⟩, .bool false]) 2 24 Tryd.underlying53 hi hz0 hz1 hz2 rfl (by decide) _ _ _ rfl (hrow3.alloc _) ⟨W3.heap.size, 0, none⟩ 1 1 [.string (tx cur), .bool ((c : Int) == 42)] rfl rfl (cell_two_new _ _ _ _) (by simp [Value.oneCell']) (by simp only [maxLen]; omega) (by omega) (by simp; omega) ?_; intro v' W4 hown4 hgrow hnil4; have hI4 := bld_grown (hI3.alloc _) (hrow3.alloc _) hgrow; have hb4 := (hbw3.alloc (by omega) _).grown hgrow (by simp; omega) (fun k hk => by have := (hrow3.lt k hk).1; omega)) | (go_at_call 46; refine (reset_calls _ _ _ _ hI4).mono ?_; rintro e W5 ⟨⟨v5, rfl⟩, hI5, hb5, hk5⟩))
                have hrow5 := row_others hown4 (row_ne hown4 (Nat.lt_succ_self _)) hk5
                have hbw5 := hb4.trans hb5
                have hrow5' : W5.ownsRow (w.heap.size + 1) 56 2 v' (acc ++ [(cur, decide (c = 42))]).length (encW (acc ++ [(cur, decide (c = 42))])) := by
                  rw [encW_snoc, hb42, List.length_append]
                  exact hrow5
                have hnil5 : v' = .slice none 0 0 ↔ acc ++ [(cur, decide (c = 42))] = [] := by
                  have := row_some hrow5
                  simp [this]
                go_roundw
                case rel => exact ⟨pos + max 1 n, f, [], acc ++ [(cur, decide (c = 42))], congrArg (Value.int .i64) (by omega), hrow5', hnil5, hI5, hbw5, hall, by omega, by simp, by rw [List.length_append]; simp; omega, by omega⟩
                case measure => simp only [intOf]; omega
        · by_cases h65 : (65 : Int) ≤ (c : Int)
          · have h90 : ¬ (c : Int) ≤ 90 := by omega
            rw [if_neg (fun h => hps (by rw [tx_size]; exact h.1))] at hall
            by_cases hcur : cur = []
            · rw [if_pos hcur] at hall
              have hcl0 : cur.length = 0 := by rw [hcur]; rfl
              go_wp2_with (go_at_call 41; refine hdec.mono ?_; rintro e W2 ⟨rfl, hb2'⟩)
              have hI2 := bld_below hI hb2'
              have hrow2 := row_below hrow hb2'
              have hbw2 := hbw.trans (hb2'.mono hbw.size)
              have hlenc : Calls Tryd.prog 44 #[.pointer (some ⟨w.heap.size, 0, none⟩)] W2 fun e w' => e = .returned (.int .i64 (Lib.byteCells cur).length) ∧ w' = W2 := Any.Builder_Len_f layLen _ _ _ _ hI2
              rw [Lib.byteCells_length] at hlenc
              go_wp2_with (go_at_call 44; refine hlenc.mono ?_; rintro e w' ⟨rfl, rfl⟩)
              go_roundw
              case rel => exact ⟨pos + max 1 n, f, cur, acc, congrArg (Value.int .i64) (by omega), hrow2, hnil, hI2, hbw2, hall, by omega, by omega, by omega, by omega⟩
              case measure => simp only [intOf]; omega
            · rw [if_neg hcur] at hall
              have hpos : 0 < cur.length := List.length_pos_iff.2 hcur
              go_wp2_with (go_at_call 41; refine hdec.mono ?_; rintro e W2 ⟨rfl, hb2'⟩)
              have hI2 := bld_below hI hb2'
              have hrow2 := row_below hrow hb2'
              have hbw2 := hbw.trans (hb2'.mono hbw.size)
              have hlenc : Calls Tryd.prog 44 #[.pointer (some ⟨w.heap.size, 0, none⟩)] W2 fun e w' => e = .returned (.int .i64 (Lib.byteCells cur).length) ∧ w' = W2 := Any.Builder_Len_f layLen _ _ _ _ hI2
              rw [Lib.byteCells_length] at hlenc
              have hstr : Calls Tryd.prog 45 #[.pointer (some ⟨w.heap.size, 0, none⟩)] W2 fun e w' => e = .returned (.string (tx cur)) ∧ (Lib.IsBuilderF 82 5 w.heap.size w.heap.size (Lib.byteCells cur) w' ∧ Below w.heap.size W2 w' ∧ Lib.OthersKept 5 (some w.heap.size) W2 w') := Any.Builder_String_any_k layStr extraStr _ _ _ _ hI2 hbw2.size
              have hb42 : decide (c = 42) = ((c : Int) == 42) := by rw [Bool.eq_iff_iff]; simp; omega
              go_wp2_with (first | (go_at_call 44; refine hlenc.mono ?_; rintro e w' ⟨rfl, rfl⟩) | (go_at_call 45; refine hstr.mono ?_; rintro e W3 ⟨rfl, hI3, hb3, hk3⟩; have hrow3 := row_others hrow2 (row_ne hrow2 (Nat.lt_succ_self _)) hk3; have hbw3 := hbw2.trans hb3; have hs3 := hbw3.size) | (at_builtin; refine wpList_append_own _ rfl _ _ 53 rfl (w.heap.size + 1) 56 i0 (.agg #[.string ⟨#[]⟩, .bool false]) 2 24 Tryd.underlying53 hi hz0 hz1 hz2 rfl (by decide) _ _ _ rfl (hrow3.alloc _) ⟨W3.heap.size, 0, none⟩ 1 1 [.string (tx cur), .bool ((c : Int) == 42)] rfl rfl (cell_two_new _ _ _ _) (by simp [Value.oneCell']) (by simp only [maxLen]; omega) (by omega) (by simp; omega) ?_; intro v' W4 hown4 hgrow hnil4; have hI4 := bld_grown (hI3.alloc _) (hrow3.alloc _) hgrow; have hb4 := (hbw3.alloc (by omega) _).grown hgrow (by simp; omega) (fun k hk => by have := (hrow3.lt k hk).1; omega)) | (go_at_call 46; refine (reset_calls _ _ _ _ hI4).mono ?_; rintro e W5 ⟨⟨v5, rfl⟩, hI5, hb5, hk5⟩))
              have hrow5 := row_others hown4 (row_ne hown4 (Nat.lt_succ_self _)) hk5
              have hbw5 := hb4.trans hb5
              have hrow5' : W5.ownsRow (w.heap.size + 1) 56 2 v' (acc ++ [(cur, decide (c = 42))]).length (encW (acc ++ [(cur, decide (c = 42))])) := by
                rw [encW_snoc, hb42, List.length_append]
                exact hrow5
              have hnil5 : v' = .slice none 0 0 ↔ acc ++ [(cur, decide (c = 42))] = [] := by
                have := row_some hrow5
                simp [this]
              go_roundw
              case rel => exact ⟨pos + max 1 n, f, [], acc ++ [(cur, decide (c = 42))], congrArg (Value.int .i64) (by omega), hrow5', hnil5, hI5, hbw5, hall, by omega, by simp, by rw [List.length_append]; simp; omega, by omega⟩
              case measure => simp only [intOf]; omega
          · rw [if_neg (fun h => hps (by rw [tx_size]; exact h.1))] at hall
            by_cases hcur : cur = []
            · rw [if_pos hcur] at hall
              have hcl0 : cur.length = 0 := by rw [hcur]; rfl
              go_wp2_with (go_at_call 41; refine hdec.mono ?_; rintro e W2 ⟨rfl, hb2'⟩)
              have hI2 := bld_below hI hb2'
              have hrow2 := row_below hrow hb2'
              have hbw2 := hbw.trans (hb2'.mono hbw.size)
              have hlenc : Calls Tryd.prog 44 #[.pointer (some ⟨w.heap.size, 0, none⟩)] W2 fun e w' => e = .returned (.int .i64 (Lib.byteCells cur).length) ∧ w' = W2 := Any.Builder_Len_f layLen _ _ _ _ hI2
              rw [Lib.byteCells_length] at hlenc
              go_wp2_with (go_at_call 44; refine hlenc.mono ?_; rintro e w' ⟨rfl, rfl⟩)
              go_roundw
              case rel => exact ⟨pos + max 1 n, f, cur, acc, congrArg (Value.int .i64) (by omega), hrow2, hnil, hI2, hbw2, hall, by omega, by omega, by omega, by omega⟩
              case measure => simp only [intOf]; omega
            · rw [if_neg hcur] at hall
              have hpos : 0 < cur.length := List.length_pos_iff.2 hcur
              go_wp2_with (go_at_call 41; refine hdec.mono ?_; rintro e W2 ⟨rfl, hb2'⟩)
              have hI2 := bld_below hI hb2'
              have hrow2 := row_below hrow hb2'
              have hbw2 := hbw.trans (hb2'.mono hbw.size)
              have hlenc : Calls Tryd.prog 44 #[.pointer (some ⟨w.heap.size, 0, none⟩)] W2 fun e w' => e = .returned (.int .i64 (Lib.byteCells cur).length) ∧ w' = W2 := Any.Builder_Len_f layLen _ _ _ _ hI2
              rw [Lib.byteCells_length] at hlenc
              have hstr : Calls Tryd.prog 45 #[.pointer (some ⟨w.heap.size, 0, none⟩)] W2 fun e w' => e = .returned (.string (tx cur)) ∧ (Lib.IsBuilderF 82 5 w.heap.size w.heap.size (Lib.byteCells cur) w' ∧ Below w.heap.size W2 w' ∧ Lib.OthersKept 5 (some w.heap.size) W2 w') := Any.Builder_String_any_k layStr extraStr _ _ _ _ hI2 hbw2.size
              have hb42 : decide (c = 42) = ((c : Int) == 42) := by rw [Bool.eq_iff_iff]; simp; omega
              go_wp2_with (first | (go_at_call 44; refine hlenc.mono ?_; rintro e w' ⟨rfl, rfl⟩) | (go_at_call 45; refine hstr.mono ?_; rintro e W3 ⟨rfl, hI3, hb3, hk3⟩; have hrow3 := row_others hrow2 (row_ne hrow2 (Nat.lt_succ_self _)) hk3; have hbw3 := hbw2.trans hb3; have hs3 := hbw3.size) | (at_builtin; refine wpList_append_own _ rfl _ _ 53 rfl (w.heap.size + 1) 56 i0 (.agg #[.string ⟨#[]⟩, .bool false]) 2 24 Tryd.underlying53 hi hz0 hz1 hz2 rfl (by decide) _ _ _ rfl (hrow3.alloc _) ⟨W3.heap.size, 0, none⟩ 1 1 [.string (tx cur), .bool ((c : Int) == 42)] rfl rfl (cell_two_new _ _ _ _) (by simp [Value.oneCell']) (by simp only [maxLen]; omega) (by omega) (by simp; omega) ?_; intro v' W4 hown4 hgrow hnil4; have hI4 := bld_grown (hI3.alloc _) (hrow3.alloc _) hgrow; have hb4 := (hbw3.alloc (by omega) _).grown hgrow (by simp; omega) (fun k hk => by have := (hrow3.lt k hk).1; omega)) | (go_at_call 46; refine (reset_calls _ _ _ _ hI4).mono ?_; rintro e W5 ⟨⟨v5, rfl⟩, hI5, hb5, hk5⟩))
              have hrow5 := row_others hown4 (row_ne hown4 (Nat.lt_succ_self _)) hk5
              have hbw5 := hb4.trans hb5
              have hrow5' : W5.ownsRow (w.heap.size + 1) 56 2 v' (acc ++ [(cur, decide (c = 42))]).length (encW (acc ++ [(cur, decide (c = 42))])) := by
                rw [encW_snoc, hb42, List.length_append]
                exact hrow5
              have hnil5 : v' = .slice none 0 0 ↔ acc ++ [(cur, decide (c = 42))] = [] := by
                have := row_some hrow5
                simp [this]
              go_roundw
              case rel => exact ⟨pos + max 1 n, f, [], acc ++ [(cur, decide (c = 42))], congrArg (Value.int .i64) (by omega), hrow5', hnil5, hI5, hbw5, hall, by omega, by simp, by rw [List.length_append]; simp; omega, by omega⟩
              case measure => simp only [intOf]; omega
    · have hpc : ¬ (pos : Int) ≤ (l.length : Int) := by omega
      have hsz := tx_size l
      have hacc : acc = splL l := by
        rw [← hall]
        cases fuel with
        | zero => rfl
        | succ f => simp only [splF]; rw [if_neg hp]
      go_wp2
      go_ret
      rw [← hacc]
      exact ⟨_, rfl, hrow, hnil, hbw⟩
end Go.Proofs.YtoakdmkjlpjahaaDoor
