import Derived.Test.YtdgdkgfkeinhbaaFa
import Derived.Test.YtdgdkgfkeinhbaaMxS
import Derived.Lib.Bytealg
import Derived.Lib.IndexLaws
namespace Go.Proofs.Ytdgdkgfkeinhbaa.P
open Go.Mx
set_option linter.unusedVariables false
set_option linter.unusedSimpArgs false

theorem wr64 {x : Int} (h : -9223372036854775808 ≤ x ∧ x ≤ 9223372036854775807) : IntKind.i64.wrap x = x := by
  unfold IntKind.wrap
  simp [IntKind.bits, IntKind.signed]
  split <;> omega

def sizeB (n : Int) : Int := if n ≤ 0 then 0 else 4 * (n / 3) + (if 0 < n % 3 then n % 3 + 1 else 0)

theorem size_sp (n : Int) (H : Hp) (Q : AV → Hp → Prop) (hn : n < 1099511627776) (h : Q (.v (.int .i64 (sizeB n))) H) :
    Sp Try.prog 41 [.v (.int .i64 n)] Q H := by
  refine Sp.body [] ⟨[], [], []⟩ [] mo Try.func41 rfl (Nat.le_of_ble_eq_true rfl) (by kernel_rfl) ?_
  simp [ev_skip, ev_seq, ev_cond2, ev_ret, ev_region2, evOps_nil, evOps_cons, opG_none, opA_move, opA_assign, opA_bin, putO_some, putH_lt, binT_some, binA, avO_some, io_add, io_mul, io_quo, io_rem, io_leq, io_gtr, opS, opV, Go.Mx.look, fr0, argSlots, seqK, Fr.known, retK, retA, resA, mapO, orO_some, eqT_some, tk3]
  unfold sizeB at h
  refine ⟨fun h0 => by rwa [if_pos h0] at h, fun h0 => ?_⟩
  rw [if_neg (by omega)] at h
  have e1 : n.tdiv 3 = n / 3 := Int.tdiv_eq_ediv_of_nonneg (by omega)
  have e2 : n.tmod 3 = n % 3 := Int.tmod_eq_emod_of_nonneg (by omega)
  rw [e1, e2, wr64 (x := n / 3) (by omega), wr64 (x := 4 * (n / 3)) (by omega), wr64 (x := n % 3 + 1) (by omega), wr64 (by omega), wr64 (by omega)]
  refine ⟨fun h1 => by rwa [if_pos h1] at h, fun h1 => ?_⟩
  rw [if_neg (by omega)] at h
  have : n % 3 = 0 := by omega
  rwa [this]

end Go.Proofs.Ytdgdkgfkeinhbaa.P

namespace Go.Proofs.Ytdgdkgfkeinhbaa.P
open Go.Mx
set_option linter.unusedVariables false
set_option linter.unusedSimpArgs false

def alpha : ByteArray := ⟨#[65, 66, 67, 68, 69, 70, 71, 72, 73, 74, 75, 76, 77, 78, 79, 80, 81, 82, 83, 84, 85, 86, 87, 88, 89, 90, 97, 98, 99, 100, 101, 102, 103, 104, 105, 106, 107, 108, 109, 110, 111, 112, 113, 114, 115, 116, 117, 118, 119, 120, 121, 122, 48, 49, 50, 51, 52, 53, 54, 55, 56, 57, 43, 47]⟩
def letter (n : Nat) : UInt8 := alpha.data.getD n 0

theorem alpha_at (k : IntKind) (i : Int) (h : 0 ≤ i ∧ i < 64) :
    indexStr (.v (.string ⟨#[65, 66, 67, 68, 69, 70, 71, 72, 73, 74, 75, 76, 77, 78, 79, 80, 81, 82, 83, 84, 85, 86, 87, 88, 89, 90, 97, 98, 99, 100, 101, 102, 103, 104, 105, 106, 107, 108, 109, 110, 111, 112, 113, 114, 115, 116, 117, 118, 119, 120, 121, 122, 48, 49, 50, 51, 52, 53, 54, 55, 56, 57, 43, 47]⟩)) (.v (.int k i)) = some (u8A (letter i.toNat)) := by
  have hs : i.toNat < alpha.size := by have : alpha.size = 64 := by decide
                                       omega
  show indexStr (.v (.string alpha)) (.v (.int k i)) = _
  simp only [indexStr]
  rw [dif_pos ⟨h.1, hs⟩]
  unfold u8A letter
  have : alpha.data.getD i.toNat 0 = alpha[i.toNat]'hs := by
    rw [Array.getD_eq_getD_getElem?, Array.getElem?_eq_getElem (by exact hs)]
    rfl
  rw [this]

/-- Four letters of three bytes. -/
def quad (n : Nat) : List UInt8 := [letter (n / 262144 % 64), letter (n / 4096 % 64), letter (n / 64 % 64), letter (n % 64)]
theorem quad_length (n : Nat) : (quad n).length = 4 := rfl
def encB : List UInt8 → List UInt8
  | [] => []
  | [a] => (quad (a.toNat * 65536)).take 2
  | [a, b] => (quad (a.toNat * 65536 + b.toNat * 256)).take 3
  | a :: b :: c :: r => quad (a.toNat * 65536 + b.toNat * 256 + c.toNat) ++ encB r

theorem encB_length : ∀ (l : List UInt8), ((encB l).length : Int) = sizeB l.length
  | [] => by simp [encB, sizeB]
  | [a] => by simp [encB, quad, sizeB]
  | [a, b] => by simp [encB, quad, sizeB]
  | a :: b :: c :: r => by
    have ih := encB_length r
    have e : (encB (a :: b :: c :: r)).length = 4 + (encB r).length := by simp [encB, quad]; omega
    rw [e]
    simp only [List.length_cons]
    unfold sizeB at ih ⊢
    generalize r.length = m at ih ⊢
    by_cases h1 : (m : Int) ≤ 0
    · rw [if_pos h1] at ih
      rw [if_neg (by omega)]
      split <;> omega
    · rw [if_neg h1] at ih
      rw [if_neg (by omega)]
      split <;> split at ih <;> omega

def n3 (r : List UInt8) : Nat := (r.getD 0 0).toNat * 65536 + (r.getD 1 0).toNat * 256 + (r.getD 2 0).toNat
theorem encB_step {r : List UInt8} (h : 0 < r.length) : encB r = (quad (n3 r)).take (min r.length 3 + 1) ++ encB (r.drop 3) := by
  rcases r with _ | ⟨a, _ | ⟨b, _ | ⟨c, r⟩⟩⟩
  · simp at h
  · simp [encB, n3, quad]
  · simp [encB, n3, quad]
  · simp [encB, n3, quad]
theorem copy3 (r : List UInt8) : splice [AV.v (.int .u8 0), .v (.int .u8 0), .v (.int .u8 0)] 0 (List.take (min r.length 3) (List.map u8A r)) = [u8A (r.getD 0 0), u8A (r.getD 1 0), u8A (r.getD 2 0)] := by
  rcases r with _ | ⟨a, _ | ⟨b, _ | ⟨c, r⟩⟩⟩
  · rfl
  · rfl
  · rfl
  · rw [show min (a :: b :: c :: r).length 3 = 3 from by simp]; rfl

def encKeeps : List (Nat × Keep) := [(2, ⟨[0, 3], [], []⟩), (7, ⟨[0, 3, 5, 6, 32, 33], [], []⟩)]

set_option maxHeartbeats 4000000 in
theorem enc_sp (bs : List UInt8) (x : Bool) (n : Nat) (H : Hp) (Q : AV → Hp → Prop) (hn : n = bs.length) (hl : bs.length ≤ 100000) (h : Q (.v (.string ⟨(encB bs).toArray⟩)) H) :
    Sp Try.prog 35 [.row x n (bs.map u8A)] Q H := by
  subst hn
  refine Sp.clean ?_
  refine Sp.body encKeeps ⟨[], [], []⟩ [] mo Try.func35 rfl (Nat.le_of_ble_eq_true rfl) (by kernel_rfl) ?_
  simp [ev_seq, ev_region2, evOps_nil, evOps_cons, opG_none, opA_move, opA_assign, opA_len, opA_call, putO_some, putH_lt, lenT_row, opS, opV, Go.Mx.look, fr0, argSlots, seqK, mapO, callA, Try.underlying28, ok41, encKeeps]
  refine size_sp _ _ _ (by omega) ?_
  have hsz : 0 ≤ sizeB bs.length ∧ sizeB bs.length ≤ 140000 := by unfold sizeB; split <;> (try split) <;> omega
  simp [ev_seq, ev_block, ev_loop, loopK, evOps_nil, evOps_cons, opG_none, opA_assign, opA_makeSlice, putO_some, putH_lt, putC_lt, makeSliceT, opS, opV, Go.Mx.look, seqK, mapO, headK, getV, getB, chkP, firstReg, makeA, sz5, by5, ze5, Try.underlying28]
  refine ⟨⟨by omega, by omega, by omega⟩, ?_⟩
  refine LoopC.intro (fun n xs _ H' => ∃ (x : Bool) (r out : List UInt8) (ver : Nat) (G : Hp), n = r.length ∧ r.length ≤ bs.length ∧ out ++ encB r = encB bs ∧ xs = [.row x r.length (r.map u8A), .sl H.length ver 1 0 out.length] ∧ H' = H ++ .cells ver (out.map u8A) :: G) bs.length
    ⟨x, bs, [], 0, [], rfl, Nat.le_refl _, rfl, rfl, rfl⟩ ?_
  rintro n xs bx H' ⟨x, r, out, ver, G, rfl, hr, ho, rfl, rfl⟩
  have hol : out.length ≤ 140000 := by
    have h1 := encB_length bs
    rw [← ho, List.length_append] at h1
    omega
  simp [ev_skip, ev_seq, ev_cond2, ev_block, ev_exit, ev_ret, ev_region2, ev_loop, loopK, evOps_nil, evOps_cons, opG_none, opA_move, opA_assign, opA_bin, opA_load, opA_indexAddr, opA_len, opA_alloc, opA_copy, opA_convert, opA_slice, putO_some, putH_lt, putC_lt, binT_some, binA, avO_some, loadT, lenT_row, indexAddrT, allocT, copyT, convV, convT, bndT, sliceT, io_add, io_shl, io_or, io_gtr, opS, opV, Go.Mx.look, seqK, blockK, Fr.known, retK, retA, resA, mapO, convInt, strOf, partA, loadA, loadS, plusS, indexArrA, sliceArr, newK, headK, getV, getB, chkP, mkFr, slotsOf, ptrsOf, boxesOf, firstReg, copyA, srcA, srcTy, orO_some, eqT_some, tk3, sz5, ag5, Try.underlying5, Try.underlying9, st28, Try.underlying28, ze77, Try.underlying77, copy3, u8A]
  refine ⟨fun hr0 => ?_, fun hr0 => ?_⟩
  · have ha := (r.getD 0 0).toNat_lt
    have hb := (r.getD 1 0).toNat_lt
    have hc := (r.getD 2 0).toNat_lt
    have hr0' := encB_step hr0
    have hcat : out ++ ((quad (n3 r)).take (min r.length 3 + 1) ++ encB (r.drop 3)) = encB bs := by rw [← hr0', ho]
    refine LoopC.intro (fun n xs _ H' => ∃ (i ver : Nat) (G : Hp), i ≤ min r.length 3 + 1 ∧ n = min r.length 3 + 1 - i ∧ xs = [.row x r.length (r.map u8A), .sl H.length ver 1 0 (out.length + i), .v (.int .i64 (min r.length 3 : Nat)), .v (.int .u64 (n3 r : Nat)), .v (.int .i64 (min r.length 3 + 1 : Nat)), .v (.int .i64 i)] ∧ H' = H ++ .cells ver ((out ++ (quad (n3 r)).take i).map u8A) :: G) (min r.length 3 + 1)
      ⟨0, ver, _, by omega, rfl, ?_, by simp; rfl⟩ ?_
    · have e : ∀ x : UInt8, IntKind.u64.wrap (x.toNat : Int) = x.toNat := fun x => wr_u64 (by have := x.toNat_lt; omega)
      simp only [List.cons.injEq, AV.v.injEq, Value.int.injEq, true_and, and_true]
      simp [e]
      refine ⟨?_, wr_i64 (by omega)⟩
      have e1 : shlI .u64 ((r.getD 0 0).toNat : Int) 16 = (r.getD 0 0).toNat * 65536 := by rw [show (16 : Int) = ((16 : Nat) : Int) from rfl, shlI_eq _ _ _ (by decide)]; exact wr_u64 (by omega)
      have e2 : shlI .u64 ((r.getD 1 0).toNat : Int) 8 = (r.getD 1 0).toNat * 256 := by rw [show (8 : Int) = ((8 : Nat) : Int) from rfl, shlI_eq _ _ _ (by decide)]; exact wr_u64 (by omega)
      simp at e1 e2 ha hb hc
      have e3 : orI .u64 ((r[0]?.getD 0).toNat * 65536) ((r[1]?.getD 0).toNat * 256) = (r[0]?.getD 0).toNat * 65536 + (r[1]?.getD 0).toNat * 256 := orI_u64 _ _ 16 (r[0]?.getD 0).toNat (by omega) (by omega) (by omega) (by omega) (by decide)
      rw [e1, e2, e3]
      rw [orI_u64 _ _ 8 ((r[0]?.getD 0).toNat * 256 + (r[1]?.getD 0).toNat) (by omega) (by omega) (by omega) (by omega) (by decide)]
      simp [n3]
    · rintro n xs bx H' ⟨i, ver, G, hi, rfl, rfl, rfl⟩
      rcases Nat.lt_or_ge i (min r.length 3 + 1) with hlt | hge
      · have hc1 : ((i : Int) < ((min r.length 3 : Nat) : Int) + 1) := by omega
        have hi4 : i < 4 := by omega
        have hw1 : IntKind.i64.wrap (6 * (i : Int)) = 6 * i := wr_i64 (by omega)
        have hw2 : IntKind.i64.wrap (18 - 6 * (i : Int)) = 18 - 6 * i := wr_i64 (by omega)
        have hw3 : 6 * (i : Int) ≤ 18 := by omega
        have hn : n3 r < 16777216 := by unfold n3; omega
        have hq : andI .u64 (shrI .u64 (n3 r : Int) (18 - 6 * (i : Int))) 63 = ((n3 r / 2 ^ (18 - 6 * i) % 64 : Nat) : Int) := by
          rw [show (18 - 6 * (i : Int)) = ((18 - 6 * i : Nat) : Int) from by omega, shrI_eq _ _ _ (by simp [IntKind.bits]; omega)]
          have e : (n3 r : Int) / 2 ^ (18 - 6 * i) = ((n3 r / 2 ^ (18 - 6 * i) : Nat) : Int) := by simp
          rw [e, andI_u64 _ _ 6 ⟨Int.natCast_nonneg _, by have := Nat.div_le_self (n3 r) (2 ^ (18 - 6 * i)); omega⟩ (by decide) (by decide)]
          simp
        have hal : indexStr (.v (.string ⟨#[65, 66, 67, 68, 69, 70, 71, 72, 73, 74, 75, 76, 77, 78, 79, 80, 81, 82, 83, 84, 85, 86, 87, 88, 89, 90, 97, 98, 99, 100, 101, 102, 103, 104, 105, 106, 107, 108, 109, 110, 111, 112, 113, 114, 115, 116, 117, 118, 119, 120, 121, 122, 48, 49, 50, 51, 52, 53, 54, 55, 56, 57, 43, 47]⟩)) (.v (.int .u64 (andI .u64 (shrI .u64 (n3 r : Int) (18 - 6 * (i : Int))) 63))) = some (u8A (letter (n3 r / 2 ^ (18 - 6 * i) % 64))) := by
          rw [hq, alpha_at _ _ ⟨by omega, by omega⟩]; rfl
        simp [ev_skip, ev_seq, ev_cond2, ev_block, ev_region2, evOps_nil, evOps_cons, opG_none, opA_move, opA_assign, opA_bin, opA_index, opA_buildSlice, opA_append, putO_some, putH_lt, putC_lt, condB_true, binT_some, binA, avO_some, indexT, buildSliceT, appendT, io_add, io_sub, io_mul, io_shr, io_and, io_lss, opS, opV, Go.Mx.look, seqK, blockK, Fr.known, mapO, fillA, headK, getV, getB, chkP, mkFr, slotsOf, ptrsOf, boxesOf, bindO, appA, srcA, srcTy, okPart_u8, cellsA_u8, orO_some, eqT_some, tk3, sz5, by5, ze5, Try.underlying9, st28, Try.underlying28, hc1, hw1, hw2, hw3, hal, quad_length]
        clear hal
        refine ⟨⟨by omega, by omega, by omega⟩, min r.length 3 + 1 - (i + 1), by omega, i + 1, by omega, rfl, ver + 1, ⟨⟨rfl, by omega⟩, wr_i64 (by omega)⟩, rfl, ?_⟩
        rw [List.take_of_length_le (by simp [quad_length]; omega), List.append_assoc]
        congr 1
        clear hq hw1 hw2 hw3
        have h4 : i = 0 ∨ i = 1 ∨ i = 2 ∨ i = 3 := by omega
        rcases h4 with rfl | rfl | rfl | rfl <;> simp [quad]
      · have hc1 : ¬ ((i : Int) < ((min r.length 3 : Nat) : Int) + 1) := by omega
        have hsl : sliceRow 1 x r.length (r.map u8A) ((min r.length 3 : Nat) : Int) (r.length : Int) = some (.row false (r.drop 3).length ((r.drop 3).map u8A)) := by
          unfold sliceRow
          rw [if_pos ⟨by omega, by omega, by omega⟩]
          have e : ((r.length : Int) - ((min r.length 3 : Nat) : Int)).toNat = r.length - 3 := by omega
          rw [e]
          simp
          rcases Nat.lt_or_ge r.length 3 with h3 | h3
          · rw [Nat.min_eq_left (by omega)]; rw [show r.length - 3 = 0 from by omega, List.drop_eq_nil_of_le (by simp), List.drop_eq_nil_of_le (by simp; omega)]; simp
          · rw [Nat.min_eq_right h3, List.take_of_length_le (by simp)]
        have hi' : i = min r.length 3 + 1 := by omega
        subst hi'
        simp [ev_seq, ev_cond2, ev_exit, ev_region2, evOps_nil, evOps_cons, opG_none, opA_move, opA_assign, opA_bin, opA_slice, putO_some, putH_lt, condB_false, binT_some, binA, avO_some, bndT, sliceT, io_lss, opS, opV, Go.Mx.look, seqK, blockK, Fr.known, mapO, sliceA, headK, getV, getB, chkP, mkFr, slotsOf, ptrsOf, boxesOf, orO_some, eqT_some, tk3, sz5, Try.underlying28, hsl]
        refine ⟨(r.drop 3).length, by simp; omega, r.drop 3, rfl, by simp; omega, out ++ (quad (n3 r)).take (min r.length 3 + 1), ?_, ver, ⟨⟨by simp, by simp⟩, rfl, by simp [quad_length]; omega⟩, rfl, by simp⟩
        rw [List.append_assoc]; exact hcat
  · subst hr0
    simp [encB] at ho
    simp [ho]
    exact h
end Go.Proofs.Ytdgdkgfkeinhbaa.P

namespace Go.Proofs.Ytdgdkgfkeinhbaa.P
open Go.Mx
set_option linter.unusedVariables false
set_option linter.unusedSimpArgs false

def numB (c : UInt8) : Int := Lib.indexByte alpha.data.toList c
theorem numB_ge (c : UInt8) : -1 ≤ numB c := Lib.indexByte_ge _ _
theorem numB_lt (c : UInt8) : numB c < 64 := by
  rcases (by omega : numB c < 0 ∨ 0 ≤ numB c) with h | h
  · omega
  · obtain ⟨n, hn⟩ := Int.eq_ofNat_of_zero_le h
    have := (Lib.indexByte_some (l := alpha.data.toList) (c := c) (o := n) hn).1
    have h2 := (List.getElem?_eq_some_iff.1 this).1
    have h3 : alpha.data.toList.length = 64 := by decide
    omega

def dstep (st : List UInt8 × Nat × Nat) (c : UInt8) : List UInt8 × Nat × Nat :=
  let b := st.2.1 * 64 + (numB c).toNat
  let n := st.2.2 + 6
  if 8 ≤ n then (st.1 ++ [UInt8.ofNat (b / 2 ^ (n - 8))], b % 2 ^ (n - 8), n - 8) else (st.1, b, n)
def bad : List UInt8 → Option Nat
  | [] => none
  | c :: r => if numB c < 0 then some 0 else (bad r).map (· + 1)
theorem bad_none : ∀ (l : List UInt8), (∀ c ∈ l, 0 ≤ numB c) → bad l = none
  | [], _ => rfl
  | c :: r, h => by
    unfold bad
    rw [if_neg (by have := h c (by simp); omega), bad_none r (fun x hx => h x (by simp [hx]))]
    rfl
theorem bad_some : ∀ (l : List UInt8) (i : Nat) (c : UInt8), (∀ j, j < i → ∀ d, l[j]? = some d → 0 ≤ numB d) → l[i]? = some c → numB c < 0 → bad l = some i
  | [], i, c, _, h, _ => by simp at h
  | d :: r, 0, c, _, h, hc => by simp at h; subst h; simp [bad, hc]
  | d :: r, i + 1, c, ha, h, hc => by
    unfold bad
    have h0 := ha 0 (by omega) d rfl
    rw [if_neg (by omega), bad_some r i c (fun j hj e he => ha (j + 1) (by omega) e (by simpa using he)) (by simpa using h) hc]
    rfl

def decB (l : List UInt8) : List UInt8 × Int × Int :=
  match bad l with
  | some i => ([], 20, i)
  | none => if l.length % 4 = 1 then ([], 22, l.length) else
    let st := l.foldl dstep ([], 0, 0)
    if st.2.1 = 0 then (st.1, 0, 0) else ([], 21, l.length - 1)

theorem num_letter_all : ∀ v : Fin 64, numB (letter v.val) = v.val := by decide +kernel
theorem num_letter {v : Nat} (h : v < 64) : numB (letter v) = v := num_letter_all ⟨v, h⟩
theorem letter_num {c : UInt8} (h : 0 ≤ numB c) : letter (numB c).toNat = c := by
  obtain ⟨n, hn⟩ := Int.eq_ofNat_of_zero_le h
  have := (Lib.indexByte_some (l := alpha.data.toList) (c := c) (o := n) hn).1
  rw [hn]
  unfold letter
  rw [Array.getD_eq_getD_getElem?]
  have h2 : alpha.data[n]? = some c := by simpa using this
  simp [h2]

theorem fold_pre (o : List UInt8) : ∀ (l : List UInt8) (p : List UInt8) (b m : Nat), l.foldl dstep (o ++ p, b, m) = (o ++ (l.foldl dstep (p, b, m)).1, (l.foldl dstep (p, b, m)).2)
  | [], p, b, m => rfl
  | c :: l, p, b, m => by
    simp only [List.foldl_cons]
    by_cases h : 8 ≤ m + 6
    · have e1 : ∀ q, dstep (q, b, m) c = (q ++ [UInt8.ofNat ((b * 64 + (numB c).toNat) / 2 ^ (m + 6 - 8))], (b * 64 + (numB c).toNat) % 2 ^ (m + 6 - 8), m + 6 - 8) := fun q => by simp only [dstep, if_pos h]
      rw [e1, e1, List.append_assoc, fold_pre o l]
    · have e1 : ∀ q, dstep (q, b, m) c = (q, b * 64 + (numB c).toNat, m + 6) := fun q => by simp only [dstep, if_neg h]
      rw [e1, e1, fold_pre o l]

/-- Four letters are read. -/
theorem fold4 (c1 c2 c3 c4 : UInt8) (r : List UInt8) (v1 v2 v3 v4 : Nat) (h1 : (numB c1).toNat = v1) (h2 : (numB c2).toNat = v2) (h3 : (numB c3).toNat = v3) (h4 : (numB c4).toNat = v4) :
    (c1 :: c2 :: c3 :: c4 :: r).foldl dstep ([], 0, 0) = r.foldl dstep ([UInt8.ofNat ((v1 * 64 + v2) / 16), UInt8.ofNat (((v1 * 64 + v2) % 16 * 64 + v3) / 4), UInt8.ofNat (((v1 * 64 + v2) % 16 * 64 + v3) % 4 * 64 + v4)], 0, 0) := by
  simp [dstep, h1, h2, h3, h4, Nat.mod_one]
theorem fold2 (c1 c2 : UInt8) (v1 v2 : Nat) (h1 : (numB c1).toNat = v1) (h2 : (numB c2).toNat = v2) :
    [c1, c2].foldl dstep ([], 0, 0) = ([UInt8.ofNat ((v1 * 64 + v2) / 16)], (v1 * 64 + v2) % 16, 4) := by
  simp [dstep, h1, h2]
theorem fold3 (c1 c2 c3 : UInt8) (v1 v2 v3 : Nat) (h1 : (numB c1).toNat = v1) (h2 : (numB c2).toNat = v2) (h3 : (numB c3).toNat = v3) :
    [c1, c2, c3].foldl dstep ([], 0, 0) = ([UInt8.ofNat ((v1 * 64 + v2) / 16), UInt8.ofNat (((v1 * 64 + v2) % 16 * 64 + v3) / 4)], ((v1 * 64 + v2) % 16 * 64 + v3) % 4, 2) := by
  simp [dstep, h1, h2, h3]

theorem ofNat_eq {a : UInt8} {n : Nat} (h : n = a.toNat) : UInt8.ofNat n = a := by
  subst h; simp

theorem num_all : ∀ (bs : List UInt8), ∀ c ∈ encB bs, 0 ≤ numB c := by
  have hq : ∀ n, ∀ c ∈ quad n, 0 ≤ numB c := by
    intro n c hc
    simp only [quad, List.mem_cons, List.not_mem_nil, or_false] at hc
    rcases hc with rfl | rfl | rfl | rfl <;> rw [num_letter (Nat.mod_lt _ (by decide))] <;> omega
  intro bs
  induction bs using encB.induct with
  | case1 => simp [encB]
  | case2 a => intro c hc; exact hq _ c (List.mem_of_mem_take hc)
  | case3 a b => intro c hc; exact hq _ c (List.mem_of_mem_take hc)
  | case4 a b c r ih =>
    intro x hx
    simp only [encB, List.mem_append] at hx
    rcases hx with hx | hx
    · exact hq _ x hx
    · exact ih x hx

theorem fold_enc (bs : List UInt8) : ∃ m, (encB bs).foldl dstep ([], 0, 0) = (bs, 0, m) := by
  have nl : ∀ n, (numB (letter (n % 64))).toNat = n % 64 := fun n => by rw [num_letter (Nat.mod_lt _ (by decide))]; rfl
  induction bs using encB.induct with
  | case1 => exact ⟨0, rfl⟩
  | case2 a =>
    have ha := a.toNat_lt
    simp only [encB, quad, List.take_succ_cons, List.take_zero]
    rw [fold2 _ _ _ _ (nl _) (nl _)]
    refine ⟨4, ?_⟩
    rw [ofNat_eq (a := a) (by omega), show (a.toNat * 65536 / 262144 % 64 * 64 + a.toNat * 65536 / 4096 % 64) % 16 = 0 from by omega]
  | case3 a b =>
    have ha := a.toNat_lt
    have hb := b.toNat_lt
    simp only [encB, quad, List.take_succ_cons, List.take_zero]
    rw [fold3 _ _ _ _ _ _ (nl _) (nl _) (nl _)]
    refine ⟨2, ?_⟩
    rw [ofNat_eq (a := a) (by omega), ofNat_eq (a := b) (by omega)]
    congr 2
    omega
  | case4 a b c r ih =>
    have ha := a.toNat_lt
    have hb := b.toNat_lt
    have hc := c.toNat_lt
    obtain ⟨m, ih⟩ := ih
    refine ⟨m, ?_⟩
    simp only [encB, quad, List.cons_append, List.nil_append]
    rw [fold4 _ _ _ _ _ _ _ _ _ (nl _) (nl _) (nl _) (nl _)]
    rw [ofNat_eq (a := a) (by omega), ofNat_eq (a := b) (by omega), ofNat_eq (a := c) (by omega)]
    have := fold_pre [a, b, c] (encB r) [] 0 0
    rw [List.append_nil] at this
    rw [this, ih]
    rfl

theorem dec_enc (bs : List UInt8) : decB (encB bs) = (bs, 0, 0) := by
  obtain ⟨m, hm⟩ := fold_enc bs
  have hl := encB_length bs
  unfold decB
  rw [bad_none _ (num_all bs)]
  simp only
  rw [if_neg (by unfold sizeB at hl; split at hl <;> (try split at hl) <;> omega), hm]
  rfl


/-- Other bytes, other letters. -/
theorem encB_inj {x y : List UInt8} (h : encB x = encB y) : x = y := by
  have h1 := dec_enc x
  rw [h, dec_enc y] at h1
  simpa using (congrArg Prod.fst h1).symm
end Go.Proofs.Ytdgdkgfkeinhbaa.P

namespace Go.Proofs.Ytdgdkgfkeinhbaa.P
open Go.Mx
set_option linter.unusedVariables false
set_option linter.unusedSimpArgs false

def iA (n : Nat) : AV := .v (.int .i64 n)
def bits8 (b : UInt8) : List Nat := (List.range 8).map (fun j => b.toNat / 2 ^ (7 - j) % 2)
def bitsB (bs : List UInt8) : List Nat := bs.flatMap bits8
theorem bits8_length (b : UInt8) : (bits8 b).length = 8 := by simp [bits8]
theorem bitsB_length (bs : List UInt8) : (bitsB bs).length = 8 * bs.length := by
  induction bs with
  | nil => rfl
  | cons b bs ih => simp [bitsB, bits8_length] at ih ⊢; omega
theorem bits8_take (b : UInt8) (j : Nat) (h : j < 8) : (bits8 b).take (j + 1) = (bits8 b).take j ++ [b.toNat / 2 ^ (7 - j) % 2] := by
  rw [List.take_add_one]
  congr 1
  simp [bits8, h]
theorem bitsB_take (bs : List UInt8) (i : Nat) (b : UInt8) (h : bs[i]? = some b) : bitsB (bs.take (i + 1)) = bitsB (bs.take i) ++ bits8 b := by
  rw [List.take_add_one, h]
  simp [bitsB]

def bitsKeeps : List (Nat × Keep) := [(3, ⟨[0, 3, 4], [], []⟩), (6, ⟨[0, 3, 4, 5], [], []⟩)]

set_option maxHeartbeats 4000000 in
theorem bits_sp (bs : List UInt8) (x : Bool) (n : Nat) (H : Hp) (Q : AV → Hp → Prop) (hn : n = bs.length) (hl : bs.length ≤ 100000) (h : ∀ v H', OutG H ((bitsB bs).map iA) v H' → Q v H') :
    Sp Try.prog 42 [.row x n (bs.map u8A)] Q H := by
  subst hn
  refine Sp.body bitsKeeps ⟨[], [], []⟩ [] mo Try.func42 rfl (Nat.le_of_ble_eq_true rfl) (by kernel_rfl) ?_
  simp [ev_seq, ev_block, ev_region2, ev_loop, loopK, evOps_nil, evOps_cons, opG_none, opA_assign, putO_some, putH_lt, opS, opV, Go.Mx.look, fr0, argSlots, seqK, mapO, headK, getV, getB, chkP, firstReg, bitsKeeps]
  refine LoopC.intro (fun n xs _ H2 => ∃ (i : Nat) (v : AV), i ≤ bs.length ∧ n = bs.length - i ∧ xs = [.row x bs.length (bs.map u8A), v, .v (.int .i64 i)] ∧ OutG H ((bitsB (bs.take i)).map iA) v H2) bs.length
    ⟨0, _, by omega, rfl, rfl, .inl ⟨rfl, rfl, rfl⟩⟩ ?_
  rintro n xs bx H2 ⟨i, v, hi, rfl, rfl, hO⟩
  rcases Nat.lt_or_ge i bs.length with hlt | hge
  · have hc1 : (i : Int) < (bs.length : Int) := by omega
    obtain ⟨b, hb⟩ : ∃ b, bs[i]? = some b := ⟨_, List.getElem?_eq_getElem hlt⟩
    have hb8 := b.toNat_lt
    have hwi : IntKind.i64.wrap ((i : Int) + 1) = (i : Int) + 1 := wr_i64 (by omega)
    simp [ev_skip, ev_seq, ev_cond2, ev_block, ev_region2, ev_loop, loopK, evOps_nil, evOps_cons, opG_none, opA_move, opA_assign, opA_bin, opA_len, putO_some, putH_lt, condB_true, binT_some, binA, avO_some, lenT_row, io_lss, opS, opV, Go.Mx.look, seqK, Fr.known, mapO, headK, getV, getB, chkP, mkFr, slotsOf, ptrsOf, boxesOf, firstReg, orO_some, eqT_some, tk3, Try.underlying28, hc1]
    refine LoopC.intro (fun n xs _ H2 => ∃ (j : Nat) (v : AV), j ≤ 8 ∧ n = 8 - j ∧ xs = [.row x bs.length (bs.map u8A), v, .v (.int .i64 i), .v (.int .i64 (7 - (j : Int)))] ∧ OutG H ((bitsB (bs.take i) ++ (bits8 b).take j).map iA) v H2) 8
      ⟨0, v, by omega, rfl, rfl, by simpa using hO⟩ ?_
    clear hO
    rintro n xs bx H3 ⟨j, v, hj, rfl, rfl, hO⟩
    rcases Nat.lt_or_ge j 8 with hlt8 | hge8
    · have hc2 : (j : Int) ≤ 7 := by omega
      obtain ⟨q, hq⟩ : ∃ q, q = b.toNat / 2 ^ (7 - j) % 2 := ⟨_, rfl⟩
      have e1 : andI .u8 (shrI .u8 (b.toNat : Int) (7 - (j : Int))) 1 = (q : Int) := by
        rw [show (7 - (j : Int)) = ((7 - j : Nat) : Int) from by omega, shrI_eq _ _ _ (by simp [IntKind.bits]; omega)]
        have e : (b.toNat : Int) / 2 ^ (7 - j) = ((b.toNat / 2 ^ (7 - j) : Nat) : Int) := by simp
        rw [e, andI_u8 _ _ 1 ⟨Int.natCast_nonneg _, by have := Nat.div_le_self b.toNat (2 ^ (7 - j)); omega⟩ (by decide) (by decide), hq]
        simp
      have e2 : IntKind.i64.wrap (q : Int) = q := wr_i64 (by omega)
      have e3 : IntKind.i64.wrap (7 - (j : Int) - 1) = 7 - ((j : Int) + 1) := by rw [wr_i64 (by omega)]; omega
      have htk : (bits8 b).take (j + 1) = (bits8 b).take j ++ [q] := by rw [hq]; exact bits8_take b j hlt8
      have hbl := bitsB_length (bs.take i)
      rw [List.length_take] at hbl
      simp [ev_skip, ev_seq, ev_cond2, ev_block, ev_region2, evOps_nil, evOps_cons, opG_none, opA_move, opA_bin, opA_load, opA_indexAddr, opA_buildSlice, opA_append, opA_convert, putO_some, putH_lt, condB_true, binT_some, binA, avO_some, loadT, indexAddrT, buildSliceT, appendT, convV, convT, io_shr, io_and, io_geq, opS, opV, Go.Mx.look, seqK, Fr.known, mapO, convInt, cellsA_v, okPart_v, Value.oneCell', partA, loadA, loadS, indexAddrA, fillA, mkFr, slotsOf, ptrsOf, boxesOf, bindO, srcTy, orO_some, eqT_some, sz3, tk3, by3, ze3, Try.underlying3, sz5, ag5, tk5, Try.underlying5, Try.underlying28, st78, Try.underlying78, hc1, hc2, hb, u8A, e1, e2]
      refine appA_out hO ?_ ?_
      · simp; rw [hbl, bits8_length]; omega
      intro v' H4 hO'
      simp [ev_region2, evOps_nil, evOps_cons, opG_none, opA_move, opA_assign, opA_bin, putO_some, putH_lt, putC_lt, binT_some, binA, avO_some, io_sub, opS, opV, Go.Mx.look, seqK, blockK, mapO, headK, getV, getB, chkP, orO_some, eqT_some, tk3, e3]
      have hO2 : OutG H ((bitsB (bs.take i) ++ (bits8 b).take (j + 1)).map iA) v' H4 := by
        rw [htk, ← List.append_assoc, List.map_append]
        exact hO'
      refine ⟨8 - (j + 1), by omega, j + 1, by omega, rfl, _, ⟨rfl, by omega⟩, by simpa using hO2⟩
    · have hj8 : j = 8 := by omega
      subst hj8
      simp [ev_seq, ev_cond2, ev_exit, ev_region2, evOps_nil, evOps_cons, opG_none, opA_move, opA_assign, opA_bin, putO_some, putH_lt, condB_false, binT_some, binA, avO_some, io_add, io_geq, opS, opV, Go.Mx.look, seqK, blockK, Fr.known, mapO, headK, getV, getB, chkP, mkFr, slotsOf, ptrsOf, boxesOf, orO_some, eqT_some, tk3, hwi]
      refine ⟨bs.length - (i + 1), by omega, i + 1, by omega, rfl, _, ⟨rfl, by omega⟩, ?_⟩
      rw [bitsB_take bs i b hb]
      rwa [List.take_of_length_le (l := bits8 b) (by rw [bits8_length]; omega)] at hO
  · have hc1 : ¬ ((i : Int) < (bs.length : Int)) := by omega
    simp [ev_seq, ev_cond2, ev_exit, ev_ret, ev_region2, evOps_nil, evOps_cons, opG_none, opA_move, opA_assign, opA_bin, opA_len, putO_some, putH_lt, condB_false, binT_some, binA, avO_some, lenT_row, io_lss, opS, opV, Go.Mx.look, seqK, blockK, Fr.known, retK, retA, resA, mapO, mkFr, slotsOf, ptrsOf, boxesOf, orO_some, eqT_some, tk3, Try.underlying28, hc1]
    refine h _ _ ?_
    rwa [List.take_of_length_le hge] at hO

end Go.Proofs.Ytdgdkgfkeinhbaa.P

namespace Go.Proofs.Ytdgdkgfkeinhbaa.P
open Go.Mx
set_option linter.unusedVariables false
set_option linter.unusedSimpArgs false

theorem letter_sp (v : Nat) (hv : v < 64) (H : Hp) (Q : AV → Hp → Prop) (h : Q (u8A (letter v)) H) : Sp Try.prog 43 [.v (.int .i64 v)] Q H := by
  refine Sp.body [] ⟨[], [], []⟩ [] mo Try.func43 rfl (Nat.le_of_ble_eq_true rfl) (by kernel_rfl) ?_
  have := alpha_at .i64 v ⟨by omega, by omega⟩
  simp [ev_seq, ev_ret, ev_region2, evOps_nil, evOps_cons, opG_none, opA_move, opA_assign, opA_index, putO_some, putH_lt, indexT, opS, opV, Go.Mx.look, fr0, argSlots, seqK, retK, retA, resA, mapO, Try.underlying9, this]
  exact h

def vals (l : List Nat) : Nat := l.foldl (fun a b => 2 * a + b) 0
theorem vals_snoc (l : List Nat) (b : Nat) : vals (l ++ [b]) = 2 * vals l + b := by simp [vals]
theorem vals_acc : ∀ (l : List Nat) (a : Nat), (∀ b ∈ l, b < 2) → l.foldl (fun a b => 2 * a + b) a < (a + 1) * 2 ^ l.length
  | [], a, _ => by simp
  | b :: l, a, h => by
    have hb := h b (by simp)
    have ih := vals_acc l (2 * a + b) (fun x hx => h x (by simp [hx]))
    simp only [List.foldl_cons, List.length_cons, Nat.pow_succ]
    refine Nat.lt_of_lt_of_le ih ?_
    have : (2 * a + b + 1) * 2 ^ l.length ≤ ((a + 1) * 2) * 2 ^ l.length := Nat.mul_le_mul_right _ (by omega)
    refine Nat.le_trans this ?_
    rw [Nat.mul_assoc, Nat.mul_comm 2]
    exact Nat.le_refl _
theorem vals_lt (l : List Nat) (h : ∀ b ∈ l, b < 2) : vals l < 2 ^ l.length := by
  have := vals_acc l 0 h
  simpa [vals] using this

/-- Letters of six bits each. -/
def chunk6 : List Nat → List UInt8
  | a :: b :: c :: d :: e :: f :: r => letter (vals [a, b, c, d, e, f]) :: chunk6 r
  | _ => []
theorem chunk6_take (P : List Nat) (h : 6 ≤ P.length) : chunk6 P = letter (vals (P.take 6)) :: chunk6 (P.drop 6) := by
  match P, h with
  | a :: b :: c :: d :: e :: f :: r, _ => rfl

theorem bitsB_lt (bs : List UInt8) : ∀ b ∈ bitsB bs, b < 2 := by
  intro b hb
  simp only [bitsB, List.mem_flatMap, bits8, List.mem_map] at hb
  obtain ⟨_, _, j, _, rfl⟩ := hb
  exact Nat.mod_lt _ (by decide)

set_option maxHeartbeats 4000000 in
theorem chunk_enc (bs : List UInt8) : ∀ j, (8 * bs.length + j) % 6 = 0 → j < 6 → chunk6 (bitsB bs ++ List.replicate j 0) = encB bs := by
  induction bs using encB.induct with
  | case1 => intro j h hj; simp at h; have : j = 0 := by omega
             subst this; rfl
  | case2 a =>
    intro j h hj
    have ha := a.toNat_lt
    simp at h
    have : j = 4 := by omega
    subst this
    simp [bitsB, bits8, List.range, List.range.loop, List.replicate, chunk6, vals, encB, quad]
    refine ⟨?_, ?_⟩ <;> exact congrArg letter (by omega)
  | case3 a b =>
    intro j h hj
    have ha := a.toNat_lt
    have hb := b.toNat_lt
    simp at h
    have : j = 2 := by omega
    subst this
    simp [bitsB, bits8, List.range, List.range.loop, List.replicate, chunk6, vals, encB, quad]
    refine ⟨?_, ?_, ?_⟩ <;> exact congrArg letter (by omega)
  | case4 a b c r ih =>
    intro j h hj
    have ha := a.toNat_lt
    have hb := b.toNat_lt
    have hc := c.toNat_lt
    have hr := ih j (by simp at h; omega) hj
    rw [show bitsB (a :: b :: c :: r) = bits8 a ++ (bits8 b ++ (bits8 c ++ bitsB r)) from by simp [bitsB]]
    simp only [encB, ← hr]
    simp [bits8, List.range, List.range.loop, chunk6, vals, quad]
    refine ⟨?_, ?_, ?_, ?_⟩ <;> exact congrArg letter (by omega)

end Go.Proofs.Ytdgdkgfkeinhbaa.P

namespace Go.Proofs.Ytdgdkgfkeinhbaa.P
open Go.Mx
set_option linter.unusedVariables false
set_option linter.unusedSimpArgs false

def refKeeps : List (Nat × Keep) := [(2, ⟨[3], [], []⟩), (6, ⟨[3, 4, 5], [], []⟩), (10, ⟨[3, 4, 5, 6, 7], [], []⟩)]

theorem tmod_nat (n m : Nat) : ((n : Int)).tmod (m : Int) = ((n % m : Nat) : Int) := rfl

set_option maxHeartbeats 4000000 in
theorem ref_sp (bs : List UInt8) (x : Bool) (n : Nat) (H : Hp) (Q : AV → Hp → Prop) (hn : n = bs.length) (hl : bs.length ≤ 100000) (h : Q (.v (.string ⟨(encB bs).toArray⟩)) H) :
    Sp Try.prog 37 [.row x n (bs.map u8A)] Q H := by
  refine Sp.clean ?_
  refine Sp.body refKeeps ⟨[], [], []⟩ [] mo Try.func37 rfl (Nat.le_of_ble_eq_true rfl) (by kernel_rfl) ?_
  simp [ev_seq, ev_region2, evOps_nil, evOps_cons, opG_none, opA_move, opA_assign, opA_call, putO_some, putH_lt, opS, opV, Go.Mx.look, fr0, argSlots, seqK, mapO, callA, ok42, refKeeps]
  refine bits_sp bs x n H _ hn hl ?_
  intro v H1 hO1
  simp [ev_seq, ev_block, ev_loop, loopK, evOps_nil, evOps_cons, opG_none, opA_assign, putO_some, putH_lt, putC_lt, opS, opV, Go.Mx.look, seqK, mapO, headK, getV, getB, chkP, firstReg]
  have hbl := bitsB_length bs
  refine LoopC.intro (fun n xs _ H2 => ∃ (j : Nat) (v : AV), j < 6 ∧ n = 6 - j ∧ (∀ i, i < j → (8 * bs.length + i) % 6 ≠ 0) ∧ xs = [v] ∧ OutG H ((bitsB bs ++ List.replicate j 0).map iA) v H2) 6
    ⟨0, v, by omega, rfl, fun i hi => by omega, rfl, by simpa using hO1⟩ ?_
  clear hO1 v H1
  rintro n1 xs bx H1 ⟨j, v, hj, rfl, hjn, rfl, hO1⟩
  have hlv := hO1.len
  have hlen : ((bitsB bs ++ List.replicate j 0).map iA).length = 8 * bs.length + j := by simp [hbl]
  rw [hlen] at hlv
  have htm : (((8 * bs.length + j : Nat) : Int)).tmod 6 = (((8 * bs.length + j) % 6 : Nat) : Int) := tmod_nat _ 6
  obtain ⟨L, hL⟩ : ∃ L, L = 8 * bs.length + j := ⟨_, rfl⟩
  rw [← hL] at hlv htm
  have hlT : lenT H1 (some (.slice 3)) (some v) = some (.av (.v (.int .i64 L))) := by
    rcases hO1 with ⟨_, rfl, _⟩ | ⟨_, ver, rfl, _⟩ <;> (simp only [lenA] at hlv; simp only [lenT, lenA, hlv]; rfl)
  by_cases h6 : L % 6 = 0
  · have h6' : ((L % 6 : Nat) : Int) = 0 := by omega
    simp [ev_seq, ev_cond2, ev_block, ev_exit, ev_region2, ev_loop, loopK, evOps_nil, evOps_cons, opG_none, opA_move, opA_assign, opA_bin, opA_len, putO_some, putH_lt, condB_false, binT_some, binA, avO_some, io_rem, io_neq, opS, opV, Go.Mx.look, seqK, blockK, Fr.known, mapO, headK, getV, getB, chkP, mkFr, slotsOf, ptrsOf, boxesOf, firstReg, orO_some, eqT_some, tk3, Try.underlying78, hlT, htm, h6]
    have hch : chunk6 (bitsB bs ++ List.replicate j 0) = encB bs := chunk_enc bs j (by omega) hj
    have hPlt : ∀ b ∈ bitsB bs ++ List.replicate j 0, b < 2 := by
      intro b hb
      rcases List.mem_append.1 hb with hb | hb
      · exact bitsB_lt bs b hb
      · have := (List.mem_replicate.1 hb).2; omega
    have hPl : (bitsB bs ++ List.replicate j 0).length = L := by simp [hbl, hL]
    generalize bitsB bs ++ List.replicate j 0 = P at hO1 hlen hch hPlt hPl
    refine LoopC.intro (fun n xs _ H2 => ∃ (t : Nat) (out : List UInt8) (v4 : AV), t ≤ L ∧ t % 6 = 0 ∧ out.length ≤ t ∧ n = L - t ∧ out ++ chunk6 (P.drop t) = encB bs ∧ xs = [v, v4, .v (.int .i64 t)] ∧ OutG H1 (out.map u8A) v4 H2) L
      ⟨0, [], _, by omega, by omega, by simp, rfl, by simpa using hch, rfl, OutG.nil _⟩ ?_
    rintro n2 xs bx H2 ⟨t, out, v4, ht, ht6, hol, rfl, hout, rfl, hO2⟩
    have hlT2 : lenT H2 (some (.slice 3)) (some v) = some (.av (.v (.int .i64 L))) := by
      rcases hO1 with ⟨_, rfl, _⟩ | ⟨_, ver, rfl, _⟩ <;> (simp only [lenA] at hlv; simp only [lenT, lenA, hlv]; rfl)
    rcases Nat.lt_or_ge t L with hlt | hge
    · have hc1 : (t : Int) < (L : Int) := by omega
      have hget : ∃ ver, v = .sl H.length ver 1 0 P.length ∧ H1 = H ++ [.cells ver (P.map iA)] := by
        rcases hO1 with ⟨h0, _, _⟩ | ⟨_, ver, rfl, h1⟩
        · simp at h0; subst h0; simp at hPl; omega
        · exact ⟨ver, by simp, h1⟩
      obtain ⟨ver, hv, hH1⟩ := hget
      have hH2 : H2[H.length]? = some (.cells ver (P.map iA)) := by
        rcases hO2 with ⟨_, _, rfl⟩ | ⟨_, ver2, _, rfl⟩ <;> rw [hH1] <;> simp
      simp [ev_skip, ev_seq, ev_cond2, ev_block, ev_region2, ev_loop, loopK, evOps_nil, evOps_cons, opG_none, opA_move, opA_assign, opA_bin, opA_len, putO_some, putH_lt, condB_true, binT_some, binA, avO_some, io_lss, opS, opV, Go.Mx.look, seqK, Fr.known, mapO, headK, getV, getB, chkP, mkFr, slotsOf, ptrsOf, boxesOf, firstReg, orO_some, eqT_some, tk3, Try.underlying78, hlT2, hc1]
      have hwt : IntKind.i64.wrap ((t : Int) + 6) = (t : Int) + 6 := wr_i64 (by omega)
      refine LoopC.intro (fun n xs _ H3 => ∃ j : Nat, j ≤ 6 ∧ n = 6 - j ∧ xs = [v, v4, .v (.int .i64 t), .v (.int .i64 (vals ((P.drop t).take j))), .v (.int .i64 j)] ∧ H3 = H2) 6 ⟨0, by omega, rfl, by simp [vals], rfl⟩ ?_
      rintro n3 xs bx H3 ⟨j2, hj2, rfl, rfl, rfl⟩
      have hvl : vals ((P.drop t).take j2) < 64 := by
        have h1 := vals_lt ((P.drop t).take j2) (fun b hb => hPlt b (List.mem_of_mem_drop (List.mem_of_mem_take hb)))
        have h2 : ((P.drop t).take j2).length ≤ 6 := by rw [List.length_take]; omega
        have h3 : 2 ^ ((P.drop t).take j2).length ≤ 2 ^ 6 := Nat.pow_le_pow_right (by decide) h2
        omega
      rcases Nat.lt_or_ge j2 6 with hlt2 | hge2
      · have hc2 : (j2 : Int) < 6 := by omega
        obtain ⟨b, hb⟩ : ∃ b, P[t + j2]? = some b := ⟨_, List.getElem?_eq_getElem (by omega)⟩
        have hb2 : b < 2 := hPlt b (List.mem_of_getElem? hb)
        have hsn : vals ((P.drop t).take (j2 + 1)) = 2 * vals ((P.drop t).take j2) + b := by
          rw [List.take_add_one, List.getElem?_drop, hb]; exact vals_snoc _ _
        generalize vals ((P.drop t).take j2) = a at hvl hsn
        have e1 : IntKind.i64.wrap (2 * (a : Int)) = 2 * a := wr_i64 (by omega)
        have e2 : IntKind.i64.wrap ((t : Int) + j2) = ((t + j2 : Nat) : Int) := by rw [wr_i64 (by omega)]; omega
        have e3 : IntKind.i64.wrap (2 * (a : Int) + b) = 2 * a + b := wr_i64 (by omega)
        have e4 : IntKind.i64.wrap ((j2 : Int) + 1) = j2 + 1 := wr_i64 (by omega)
        have hc3 : 0 ≤ (t : Int) + j2 := by omega
        have hc4 : (t : Int) + j2 < (P.length : Int) := by omega
        have htn : ((t : Int) + (j2 : Int)).toNat = t + j2 := by omega
        subst hv
        simp [ev_skip, ev_seq, ev_cond2, ev_block, ev_region2, evOps_nil, evOps_cons, opG_none, opA_move, opA_assign, opA_bin, opA_load, opA_indexAddr, putO_some, putH_lt, condB_true, binT_some, binA, avO_some, loadT, indexAddrT, io_add, io_mul, io_lss, opS, opV, Go.Mx.look, seqK, blockK, Fr.known, mapO, partA, loadA, loadS, indexAddrA, headK, getV, getB, chkP, mkFr, slotsOf, ptrsOf, boxesOf, orO_some, eqT_some, sz3, ag3, tk3, Try.underlying78, hc2, e1, e2, e4, hc3, hc4, htn, hH2, hb, iA, e3]
        refine ⟨6 - (j2 + 1), by omega, j2 + 1, by omega, rfl, ?_, by omega⟩
        rw [hsn]; omega
      · have hj6 : j2 = 6 := by omega
        subst hj6
        have hck := chunk6_take (P.drop t) (by simp; omega)
        rw [List.drop_drop] at hck
        generalize vals ((P.drop t).take 6) = a at hvl hck
        simp [ev_seq, ev_cond2, ev_exit, ev_region2, evOps_nil, evOps_cons, opG_none, opA_move, opA_bin, opA_call, putO_some, putH_lt, condB_false, binT_some, binA, avO_some, io_lss, opS, opV, Go.Mx.look, seqK, blockK, Fr.known, mapO, callA, mkFr, slotsOf, ptrsOf, boxesOf, orO_some, eqT_some, tk3, ok43]
        refine letter_sp a hvl _ _ ?_
        simp [evOps_cons, opG_none, opA_buildSlice, opA_append, putH_lt, putC_lt, buildSliceT, appendT, opS, opV, Go.Mx.look, mapO, fillA, bindO, srcTy, okPart_u8, cellsA_u8, sz5, by5, ze5, st28, Try.underlying28]
        refine appA_out hO2 ?_ ?_
        · simp; omega
        intro v' H4 hO'
        simp [ev_region2, evOps_nil, evOps_cons, opG_none, opA_move, opA_assign, opA_bin, putO_some, putH_lt, putC_lt, binT_some, binA, avO_some, io_add, opS, opV, Go.Mx.look, seqK, blockK, mapO, headK, getV, getB, chkP, orO_some, eqT_some, tk3, hwt]
        refine ⟨L - (t + 6), by omega, t + 6, by omega, by omega, out ++ [letter a], by simp; omega, rfl, ?_, _, ⟨rfl, by omega⟩, by simpa using hO'⟩
        rw [List.append_assoc, ← hout, hck]; rfl
    · have hc1 : ¬ ((t : Int) < (L : Int)) := by omega
      have hstr := hO2.str
      have hdr : P.drop t = [] := List.drop_eq_nil_of_le (by omega)
      rw [hdr] at hout
      simp [chunk6] at hout
      subst hout
      have hG : ∃ G, H2 = H ++ G := by
        rcases hO1 with ⟨_, _, rfl⟩ | ⟨_, ver, _, rfl⟩ <;> rcases hO2 with ⟨_, _, rfl⟩ | ⟨_, ver2, _, rfl⟩ <;> simp
      simp [ev_seq, ev_cond2, ev_exit, ev_ret, ev_region2, evOps_nil, evOps_cons, opG_none, opA_move, opA_assign, opA_bin, opA_len, opA_convert, putO_some, putH_lt, condB_false, binT_some, binA, avO_some, convV, convT, io_lss, opS, opV, Go.Mx.look, seqK, blockK, Fr.known, retK, retA, resA, mapO, mkFr, slotsOf, ptrsOf, boxesOf, orO_some, eqT_some, tk3, Try.underlying5, Try.underlying9, Try.underlying28, Try.underlying78, hlT2, hc1, hstr]
      exact ⟨hG, h⟩
  · have h6i : ¬ ((L : Int) % 6 = 0) := by omega
    simp [ev_skip, ev_seq, ev_cond2, ev_block, ev_region2, evOps_nil, evOps_cons, opG_none, opA_move, opA_bin, opA_len, opA_buildSlice, opA_append, putO_some, putH_lt, CondP_true, binT_some, binA, avO_some, buildSliceT, appendT, io_rem, io_neq, opS, opV, Go.Mx.look, seqK, Fr.known, mapO, cellsA_v, okPart_v, Value.oneCell', fillA, mkFr, slotsOf, ptrsOf, boxesOf, bindO, srcTy, orO_some, eqT_some, sz3, tk3, by3, ze3, st78, Try.underlying78, hlT, htm, h6i]
    refine appA_out hO1 ?_ ?_
    · rw [hlen]; omega
    intro v' H4 hO'
    simp [evOps_nil, evOps_cons, opG_none, opA_assign, putO_some, putH_lt, putC_lt, opS, opV, Go.Mx.look, seqK, blockK, mapO, headK, getV, getB, chkP]
    have hj5 : j + 1 < 6 := by
      rcases Nat.lt_or_ge (j + 1) 6 with h | h
      · exact h
      · exfalso
        have h3 : bs.length % 3 = 0 ∨ bs.length % 3 = 1 ∨ bs.length % 3 = 2 := by omega
        rcases h3 with h3 | h3 | h3
        · exact hjn 0 (by omega) (by omega)
        · exact hjn 4 (by omega) (by omega)
        · exact hjn 2 (by omega) (by omega)
    refine ⟨6 - (j + 1), by omega, j + 1, hj5, rfl, fun i hi => ?_, ?_⟩
    · rcases Nat.lt_or_ge i j with h1 | h1
      · exact hjn i h1
      · have : i = j := by omega
        subst this; omega
    · rw [List.replicate_succ', ← List.append_assoc]
      simpa [iA] using hO'

end Go.Proofs.Ytdgdkgfkeinhbaa.P
