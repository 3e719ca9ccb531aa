/-
  The abstract machine: how a law's arguments are read, whatever numbers, texts, slices, structures and arrays they are made of.
-/
import Derived.Test.YtoakdmkjlpjahaaDoorMxSa
import Derived.ChangeArms
import Derived.SizedLaws
namespace Go.Mx
open Go.RowKit
set_option linter.unusedVariables false

/-- The fields lie one behind the other, from here on, up to there. -/
def tidyF (P : Program) (chk : TypeId → Bool) : Nat → List Field → Nat → Bool
  | off, [], total => Nat.beq off total
  | off, f :: r, total => Nat.beq f.offset off && chk f.type && tidyF P chk (off + P.cellsOf f.type) r total
/-- A type that is read. -/
def tidyT (P : Program) : Nat → TypeId → Bool
  | 0, _ => false
  | m + 1, t => match P.underlying t with
    | some (.int _) => Nat.beq (P.cellsOf t) 1
    | some .bool => Nat.beq (P.cellsOf t) 1
    | some .string => Nat.beq (P.cellsOf t) 1
    | some (.slice e) => Nat.blt 0 (P.cellsOf e) && tidyT P m e && Nat.beq (P.cellsOf t) 1
    | some (.struct fs) => tidyF P (tidyT P m) 0 fs.toList (P.cellsOf t)
    | some (.array n e) => tidyT P m e && Nat.beq (P.cellsOf t) (n * P.cellsOf e)
    | _ => false

/-- What is read at a type. -/
inductive Shp (P : Program) : TypeId → List AV → Prop where
  | int {t : TypeId} {k : IntKind} {n : Int} : P.underlying t = some (.int k) → (Lit.int k n).wf = true → Shp P t [.v (.int k n)]
  | bool {t : TypeId} {b : Bool} : P.underlying t = some .bool → Shp P t [.v (.bool b)]
  | str {t : TypeId} {s : ByteArray} : P.underlying t = some .string → s.size ≤ 140737488351232 → Shp P t [.v (.string s)]
  | slice {t e : TypeId} (n : Nat) (ads : Nat → List AV) : P.underlying t = some (.slice e) → n * P.bytesOf e ≤ 140737488351232 → (∀ i, i < n → Shp P e (ads i)) → Shp P t [.row false n ((List.range n).flatMap ads)]
  | struct {t : TypeId} {fs : Array Field} (ps : Nat → List AV) : P.underlying t = some (.struct fs) → (∀ i f, fs[i]? = some f → Shp P f.type (ps i)) → Shp P t ((List.range fs.size).flatMap ps)
  | array {t : TypeId} {m : Nat} {e : TypeId} (ads : Nat → List AV) : P.underlying t = some (.array m e) → (∀ i, i < m → Shp P e (ads i)) → Shp P t ((List.range m).flatMap ads)

section
variable {H : Type} {enc : TypeId × Value → H} {P : Program} {w : World} {base : Nat} {held : Bool} {ρ : Rho}

theorem trod_array {fuel n : Nat} {e t : TypeId} {spare : Nat → Bool} {cs : List Value} {x : DataW H × List MemPlace} (ht : P.underlying t = some (.array n e)) (h : DataW.trod enc P w base spare held fuel t cs = some x) :
    ∃ (xs : List (DataW H × List MemPlace)) (m : Nat), fuel = m + 1 ∧ x = (.agg (xs.map (·.1)), xs.flatMap (·.2)) ∧ cs.length = P.cellsOf t ∧ xs.length = n ∧
      ∀ i, i < n → DataW.trod enc P w base spare held m e ((cs.drop (i * P.cellsOf e)).take (P.cellsOf e)) = xs[i]? := by
  cases fuel with
  | zero => simp [DataW.trod] at h
  | succ m =>
    unfold DataW.trod at h
    rw [ht] at h
    split at h <;> simp_all
    obtain ⟨hl, xs, hp, hd⟩ := h
    exact ⟨xs, hd.symm, by simpa using mapM_some_length hp, fun i hi => mapM_some_get hp i i (by simp [hi])⟩

theorem flat_succ {α : Type} (f : Nat → List α) (k : Nat) : (List.range (k + 1)).flatMap f = (List.range k).flatMap f ++ f k := by rw [List.range_succ]; simp
theorem flat_front {α : Type} (f : Nat → List α) (k : Nat) : (List.range (k + 1)).flatMap f = f 0 ++ (List.range k).flatMap (fun i => f (i + 1)) := by
  rw [List.range_succ_eq_map, List.flatMap_cons, List.flatMap_map]

/-- Parts of one width, one behind the other. -/
theorem parts_even {I : Imm} {c n : Nat} {us : List Value} {ads : Nat → List AV} (h : ∀ i, i < n → VRs ρ I (ads i) ((us.drop (i * c)).take c)) : ∀ k, k ≤ n → VRs ρ I ((List.range k).flatMap ads) (us.take (k * c))
  | 0, _ => by simpa using VRs.nil
  | k + 1, hk => by
    rw [flat_succ, Nat.succ_mul, List.take_add]
    exact (parts_even h k (by omega)).append (h k (by omega))

theorem parts_fields {I : Imm} {cs : List Value} {chk : TypeId → Bool} : ∀ (l : List Field) (off : Nat), tidyF P chk off l cs.length = true →
    (∀ f ∈ l, ∃ as, VRs ρ I as ((cs.drop f.offset).take (P.cellsOf f.type)) ∧ Shp P f.type as) →
    ∃ ps : Nat → List AV, VRs ρ I ((List.range l.length).flatMap ps) (cs.drop off) ∧ ∀ (i : Nat) (f : Field), l[i]? = some f → Shp P f.type (ps i)
  | [], off, ht, h => by
    simp only [tidyF] at ht
    have := Nat.eq_of_beq_eq_true ht
    exact ⟨fun _ => [], by rw [this, List.drop_of_length_le (Nat.le_refl _)]; exact VRs.nil, fun i f hf => by simp at hf⟩
  | f :: r, off, ht, h => by
    simp only [tidyF, Bool.and_eq_true] at ht
    obtain ⟨⟨h1, h2⟩, h3⟩ := ht
    have e1 := Nat.eq_of_beq_eq_true h1
    obtain ⟨as, ha, hs⟩ := h f (by simp)
    obtain ⟨ps, hp, hq⟩ := parts_fields r _ h3 (fun g hg => h g (by simp [hg]))
    refine ⟨fun i => match i with | 0 => as | i + 1 => ps i, ?_, fun i g hg => ?_⟩
    · rw [List.length_cons, flat_front]
      have := ha.append hp
      rw [e1, ← List.drop_drop, List.take_append_drop] at this
      exact this
    · cases i with
      | zero => simp at hg; subst hg; exact hs
      | succ i => exact hq i g (by simpa using hg)

theorem cell_imm {a : Addr} {c : Value} (h : w.cell? a = some c) : a.spot = none ∧ ∃ arr, immOf w a.block = some arr ∧ arr[a.off]? = some c := by
  unfold World.cell? at h
  split at h <;> simp at h
  rename_i arr T fz hb
  refine ⟨by cases hs : a.spot with | none => rfl | some s => rw [hs] at h; simp at h, arr, by simp [immOf, hb], ?_⟩
  cases hs : a.spot with
  | none => rw [hs] at h; simpa using h
  | some s => rw [hs] at h; simp at h

theorem add_none {b o n : Nat} : (Addr.mk b o none).add n = ⟨b, o + n, none⟩ := by
  unfold Addr.add
  split
  · rename_i h; subst h; rfl
  · rfl

theorem weights_all {e : TypeId} : ∀ {l : List (DataW H)} {d : DataW H} {n : Nat}, d ∈ l → n ∈ d.weights P e → n ∈ DataW.weightsAll P e l
  | [], d, n, hd, _ => by simp at hd
  | x :: l, d, n, hd, hn => by
    simp only [DataW.weightsAll, List.mem_append]
    rcases List.mem_cons.1 hd with rfl | hd
    · exact .inl hn
    · exact .inr (weights_all hd hn)

/-- What is walked is read; the world's cells are memory that nobody writes. -/
theorem trod_read : ∀ (fuel m : Nat) (t : TypeId) (cs : List Value) (x : DataW H × List MemPlace), tidyT P m t = true → DataW.trod enc P w base (fun _ => true) held fuel t cs = some x → (∀ n ∈ x.1.weights P t, n ≤ reachBytes) →
    ∃ as, VRs rho0 (immOf w) as cs ∧ Shp P t as ∧ (∀ u ∈ cs, u.oneCell' = true) := by
  intro fuel
  induction fuel with
  | zero => intro m t cs x _ h _; simp [DataW.trod] at h
  | succ fuel ih =>
    intro m t cs x hm h hwt
    cases m with
    | zero => simp [tidyT] at hm
    | succ m =>
    simp only [tidyT] at hm
    split at hm <;> (first | (simp at hm; done) | skip)
    · rename_i k ht
      obtain ⟨n, rfl, _, hw⟩ := DataW.trod_int ht h
      exact ⟨_, VRs.cons (.v _) VRs.nil, .int ht hw, by simp [Value.oneCell']⟩
    · rename_i ht
      obtain ⟨b, rfl, _⟩ := DataW.trod_bool ht h
      exact ⟨_, VRs.cons (.v _) VRs.nil, .bool ht, by simp [Value.oneCell']⟩
    · rename_i ht
      obtain ⟨s, rfl, rfl, _⟩ := DataW.trod_string ht h
      have hw : s.size ≤ 140737488351232 := by
        have := hwt s.data.toList.length (by simp [DataW.weights])
        simpa [reachBytes] using this
      exact ⟨_, VRs.cons (.v _) VRs.nil, .str ht hw, by simp [Value.oneCell']⟩
    · -- a slice
      rename_i e ht
      simp only [Bool.and_eq_true] at hm
      obtain ⟨⟨hc0, hte⟩, _⟩ := hm
      have hc : 0 < P.cellsOf e := by have h0 := hc0; simp [Nat.blt] at h0; omega
      rcases DataW.trod_slice ht h with ⟨rfl, _⟩ | ⟨a, len, cap, elems, rest, n, hf, rfl, hxe, hb, hl, hmax, hlen, hel, hsp, _⟩
      · refine ⟨[.row false 0 []], VRs.cons (.row false 0 [] [] none 0 rfl (fun i c hc => by simp at hc) (.inl ⟨rfl, rfl⟩) (by simp) (Nat.le_refl _) (by simp)) VRs.nil, ?_, by simp [Value.oneCell']⟩
        exact .slice 0 (fun _ => []) ht (by simp) (fun i hi => by omega)
      · obtain rfl : fuel = n := by omega
        subst hxe
        have first : 0 < cap → ∃ c, w.cell? a = some c := by
          intro hcap
          have hx : ∃ y, (w.cells? base (a.add (0 * P.cellsOf e)) (P.cellsOf e)).bind (DataW.trod enc P w base (fun _ => true) held fuel e) = some y := by
            rcases Nat.eq_zero_or_pos len with h0 | h0
            · have := (hsp rfl).2 0 (by omega)
              rw [h0, Nat.zero_add] at this
              have hr : 0 < rest.length := by rw [(hsp rfl).1]; omega
              exact ⟨_, this.trans (List.getElem?_eq_getElem hr)⟩
            · exact ⟨_, (hel 0 h0).trans (List.getElem?_eq_getElem (by omega))⟩
          obtain ⟨y, hy⟩ := hx
          rw [Nat.zero_mul, Option.bind_eq_some_iff] at hy
          obtain ⟨c1, h1, _⟩ := hy
          obtain ⟨_, h2, h3⟩ := World.cells?_some h1
          have := h3 0 hc
          have ea : (a.add 0).add 0 = a := by simp [Addr.add]
          rw [ea] at this
          exact ⟨_, this.trans (List.getElem?_eq_getElem (by omega))⟩
        have hspot : a.spot = none ∨ cap = 0 := by
          rcases Nat.eq_zero_or_pos cap with h0 | h0
          · exact .inr h0
          · obtain ⟨c, hc'⟩ := first h0
            exact .inl (cell_imm hc').1
        rcases Nat.eq_zero_or_pos len with h0 | h0
        · subst h0
          refine ⟨[.row false 0 []], VRs.cons (.row false 0 [] [] (some a) cap rfl (fun i c hc => by simp at hc) (.inl ⟨rfl, rfl⟩) (fun ad had => by simp at had; subst had; exact hspot) (Nat.zero_le _) (by simp)) VRs.nil, ?_, by simp [Value.oneCell']⟩
          exact .slice 0 (fun _ => []) ht (by simp) (fun i hi => by omega)
        · obtain ⟨c0, hc0'⟩ := first (by omega)
          obtain ⟨hs0, arr, harr, _⟩ := cell_imm hc0'
          obtain ⟨b, off, sp⟩ := a
          simp only at hs0; subst hs0
          simp only at harr
          have each : ∀ i, i < len → ∃ as, VRs rho0 (immOf w) as ((((arr.toList.drop off).take (len * P.cellsOf e)).drop (i * P.cellsOf e)).take (P.cellsOf e)) ∧ Shp P e as ∧
              (∀ u ∈ (((arr.toList.drop off).take (len * P.cellsOf e)).drop (i * P.cellsOf e)).take (P.cellsOf e), u.oneCell' = true) ∧ off + i * P.cellsOf e + P.cellsOf e ≤ arr.size := by
            intro i hi
            have hy := (hel i hi).trans (List.getElem?_eq_getElem (by omega))
            rw [Option.bind_eq_some_iff, add_none] at hy
            obtain ⟨ci, h1, h2⟩ := hy
            obtain ⟨_, h3, h4⟩ := World.cells?_some h1
            have hle : i * P.cellsOf e + P.cellsOf e ≤ len * P.cellsOf e := by
              rw [← Nat.succ_mul]; exact Nat.mul_le_mul_right _ hi
            have hcell : ∀ j, j < P.cellsOf e → arr[off + i * P.cellsOf e + j]? = ci[j]? := by
              intro j hj
              have h5 := h4 j hj
              rw [add_none, List.getElem?_eq_getElem (by omega)] at h5
              obtain ⟨_, arr', h6, h7⟩ := cell_imm h5
              simp only at h6 h7
              rw [harr] at h6
              simp at h6; subst h6
              rw [h7, List.getElem?_eq_getElem (by omega)]
            have hsz : off + i * P.cellsOf e + P.cellsOf e ≤ arr.size := by
              have := hcell (P.cellsOf e - 1) (by omega)
              rw [List.getElem?_eq_getElem (by omega)] at this
              have := (Array.getElem?_eq_some_iff.1 this).1
              omega
            have hci : (((arr.toList.drop off).take (len * P.cellsOf e)).drop (i * P.cellsOf e)).take (P.cellsOf e) = ci := by
              apply List.ext_getElem?
              intro j
              rw [List.getElem?_take]
              split
              · rename_i hj
                rw [List.getElem?_drop, List.getElem?_take, if_pos (by omega), List.getElem?_drop, Array.getElem?_toList, ← hcell j hj]
                congr 1; omega
              · rename_i hj
                rw [List.getElem?_eq_none (by omega)]
            rw [hci]
            obtain ⟨as, h8, h9, h10⟩ := ih m e ci _ hte h2 (fun n hn => hwt n (by
              simp only [DataW.weights, ht, List.mem_cons, List.mem_append]
              exact .inr (.inl (weights_all (List.mem_map.2 ⟨_, List.getElem_mem (by omega : i < elems.length), rfl⟩) hn))))
            exact ⟨as, h8, h9, h10, hsz⟩
          let ads : Nat → List AV := fun i => if hi : i < len then Classical.choose (each i hi) else []
          have hads : ∀ i, i < len → VRs rho0 (immOf w) (ads i) ((((arr.toList.drop off).take (len * P.cellsOf e)).drop (i * P.cellsOf e)).take (P.cellsOf e)) ∧ Shp P e (ads i) := by
            intro i hi
            have := Classical.choose_spec (each i hi)
            simp only [ads, dif_pos hi]
            exact ⟨this.1, this.2.1⟩
          have hv := parts_even (ρ := rho0) (I := immOf w) (c := P.cellsOf e) (n := len) (us := (arr.toList.drop off).take (len * P.cellsOf e)) (ads := ads) (fun i hi => (hads i hi).1) len (Nat.le_refl _)
          rw [List.take_take, Nat.min_self] at hv
          have hsz : off + len * P.cellsOf e ≤ arr.size := by
            obtain ⟨_, _, _, _, h4⟩ := each (len - 1) (by omega)
            have : (len - 1) * P.cellsOf e + P.cellsOf e = len * P.cellsOf e := by rw [← Nat.succ_mul]; congr 1; omega
            omega
          have hlw : len * P.bytesOf e ≤ 140737488351232 := by
            have h1 := hwt ((elems.length + rest.length) * P.bytesOf e) (by simp [DataW.weights, ht])
            have h2 : len * P.bytesOf e ≤ (elems.length + rest.length) * P.bytesOf e := Nat.mul_le_mul_right _ (by omega)
            exact Nat.le_trans h2 (by simpa [reachBytes] using h1)
          refine ⟨[.row false len ((List.range len).flatMap ads)], VRs.cons (.row false len _ ((arr.toList.drop off).take (len * P.cellsOf e)) (some ⟨b, off, none⟩) cap hv.1 hv.2 (.inr ⟨_, rfl, rfl, ?_, arr, harr, ?_⟩) (fun ad had => by simp at had; subst had; exact .inl rfl) hl (by simp)) VRs.nil, .slice len ads ht hlw (fun i hi => (hads i hi).2), by simp [Value.oneCell']⟩
          · intro u hu
            obtain ⟨j, hj⟩ := List.getElem?_of_mem hu
            have hjl : j < len * P.cellsOf e := by
              have := (List.getElem?_eq_some_iff.1 hj).1
              simp at this; omega
            have hdm : j / P.cellsOf e < len := Nat.div_lt_of_lt_mul (by rwa [Nat.mul_comm])
            obtain ⟨_, _, _, ho, _⟩ := each (j / P.cellsOf e) hdm
            refine ho u (List.mem_of_getElem? (i := j % P.cellsOf e) ?_)
            rw [List.getElem?_take, if_pos (Nat.mod_lt _ hc), List.getElem?_drop, Nat.div_add_mod', hj]
          · intro i hi
            rw [List.getD_eq_getElem?_getD, List.getElem?_take]
            have hil : i < len * P.cellsOf e := by simp at hi; omega
            rw [if_pos hil, List.getElem?_drop, Array.getElem?_toList, Array.getElem?_eq_getElem (by show off + i < arr.size; omega)]
            rfl
    · -- a structure
      rename_i fs ht
      obtain ⟨xs, n, hf, hxe, hl, hxl, hfs⟩ := DataW.trod_struct ht h
      subst hxe
      obtain rfl : fuel = n := by omega
      rw [← hl] at hm
      have each : ∀ f ∈ fs.toList, tidyT P m f.type = true → ∃ as, VRs rho0 (immOf w) as ((cs.drop f.offset).take (P.cellsOf f.type)) ∧ Shp P f.type as ∧ (∀ u ∈ (cs.drop f.offset).take (P.cellsOf f.type), u.oneCell' = true) := by
        intro f hf htf
        obtain ⟨i, hi⟩ := List.getElem?_of_mem hf
        have hi' : fs[i]? = some f := by simpa using hi
        have hlt := (Array.getElem?_eq_some_iff.1 hi').1
        have := (hfs i f hi').trans (List.getElem?_eq_getElem (by omega))
        refine ih m f.type _ _ htf this (fun n hn => hwt n ?_)
        simp only [DataW.weights, ht]
        exact DataW.weights_mem_each (j := i) (by rw [List.getElem?_map, hi]; rfl) (by rw [List.getElem?_map, List.getElem?_eq_getElem (by omega)]; rfl) n hn
      have hchk : ∀ (l : List Field) (off : Nat), tidyF P (tidyT P m) off l cs.length = true → (∀ f ∈ l, tidyT P m f.type = true) ∧ ∀ j, off ≤ j → j < cs.length → ∃ f ∈ l, f.offset ≤ j ∧ j < f.offset + P.cellsOf f.type := by
        intro l
        induction l with
        | nil =>
          intro off ho
          have := Nat.eq_of_beq_eq_true ho
          exact ⟨fun f hf => by simp at hf, fun j h1 h2 => by omega⟩
        | cons f r ihl =>
          intro off ho
          simp only [tidyF, Bool.and_eq_true] at ho
          have e1 := Nat.eq_of_beq_eq_true ho.1.1
          obtain ⟨k1, k2⟩ := ihl _ ho.2
          refine ⟨fun g hg => ?_, fun j h1 h2 => ?_⟩
          · rcases List.mem_cons.1 hg with rfl | hg
            · exact ho.1.2
            · exact k1 g hg
          · rcases Nat.lt_or_ge j (off + P.cellsOf f.type) with h3 | h3
            · exact ⟨f, by simp, by omega, by omega⟩
            · obtain ⟨g, hg, h4⟩ := k2 j h3 h2
              exact ⟨g, by simp [hg], h4⟩
      obtain ⟨hc1, hc2⟩ := hchk _ _ hm
      obtain ⟨ps, hp, hq⟩ := parts_fields (ρ := rho0) (I := immOf w) fs.toList 0 hm (fun f hf => by
        obtain ⟨as, h1, h2, _⟩ := each f hf (hc1 f hf)
        exact ⟨as, h1, h2⟩)
      refine ⟨_, by simpa using hp, .struct ps ht (fun i f hf => hq i f (by simpa using hf)), fun u hu => ?_⟩
      obtain ⟨j, hj⟩ := List.getElem?_of_mem hu
      have hjl := (List.getElem?_eq_some_iff.1 hj).1
      obtain ⟨f, hf, h1, h2⟩ := hc2 j (Nat.zero_le _) hjl
      obtain ⟨_, _, _, ho⟩ := each f hf (hc1 f hf)
      refine ho u (List.mem_of_getElem? (i := j - f.offset) ?_)
      rw [List.getElem?_take, if_pos (by omega), List.getElem?_drop, ← hj]
      congr 1; omega
    · -- an array
      rename_i n e ht
      simp only [Bool.and_eq_true] at hm
      have ec := Nat.eq_of_beq_eq_true hm.2
      obtain ⟨xs, k, hf, hxe, hl, hxl, hxs⟩ := trod_array ht h
      subst hxe
      obtain rfl : fuel = k := by omega
      have each : ∀ i, i < n → ∃ as, VRs rho0 (immOf w) as ((cs.drop (i * P.cellsOf e)).take (P.cellsOf e)) ∧ Shp P e as ∧ (∀ u ∈ (cs.drop (i * P.cellsOf e)).take (P.cellsOf e), u.oneCell' = true) := fun i hi =>
        ih m e _ _ hm.1 ((hxs i hi).trans (List.getElem?_eq_getElem (by omega))) (fun n hn => hwt n (by
          simp only [DataW.weights, ht]
          exact weights_all (List.mem_map.2 ⟨_, List.getElem_mem (by omega : i < xs.length), rfl⟩) hn))
      let ads : Nat → List AV := fun i => if hi : i < n then Classical.choose (each i hi) else []
      have hads : ∀ i, i < n → VRs rho0 (immOf w) (ads i) ((cs.drop (i * P.cellsOf e)).take (P.cellsOf e)) ∧ Shp P e (ads i) := by
        intro i hi
        have := Classical.choose_spec (each i hi)
        simp only [ads, dif_pos hi]
        exact ⟨this.1, this.2.1⟩
      have hv := parts_even (ρ := rho0) (I := immOf w) (c := P.cellsOf e) (n := n) (us := cs) (ads := ads) (fun i hi => (hads i hi).1) n (Nat.le_refl _)
      rw [← ec, ← hl, List.take_of_length_le (Nat.le_refl _)] at hv
      refine ⟨_, hv, .array ads ht (fun i hi => (hads i hi).2), fun u hu => ?_⟩
      obtain ⟨j, hj⟩ := List.getElem?_of_mem hu
      have hjl := (List.getElem?_eq_some_iff.1 hj).1
      rw [hl, ec] at hjl
      have hc : 0 < P.cellsOf e := Nat.pos_of_ne_zero (fun h0 => by rw [h0] at hjl; simp at hjl)
      have hdm : j / P.cellsOf e < n := Nat.div_lt_of_lt_mul (by rwa [Nat.mul_comm])
      obtain ⟨_, _, _, ho⟩ := each (j / P.cellsOf e) hdm
      refine ho u (List.mem_of_getElem? (i := j % P.cellsOf e) ?_)
      rw [List.getElem?_take, if_pos (Nat.mod_lt _ hc), List.getElem?_drop, Nat.div_add_mod', hj]

/-- Parts, one by one, as a list of what they tell. -/
theorem shp_list {α : Type} {f : α → List AV} {p : α → Prop} {ads : Nat → List AV} : ∀ n : Nat, (∀ i, i < n → ∃ x, ads i = f x ∧ p x) → ∃ l : List α, l.length = n ∧ (List.range n).flatMap ads = l.flatMap f ∧ ∀ x ∈ l, p x
  | 0, _ => ⟨[], rfl, rfl, by simp⟩
  | n + 1, h => by
    obtain ⟨l, h1, h2, h3⟩ := shp_list n (fun i hi => h i (by omega))
    obtain ⟨x, hx, hp⟩ := h n (by omega)
    refine ⟨l ++ [x], by simp [h1], by rw [flat_succ, h2, hx]; simp, fun y hy => ?_⟩
    rcases List.mem_append.1 hy with hy | hy
    · exact h3 y hy
    · simp at hy; subst hy; exact hp

section
variable {t : TypeId} {as : List AV}
theorem shp_int {k : IntKind} (ht : P.underlying t = some (.int k)) (h : Shp P t as) : ∃ n, as = [.v (.int k n)] ∧ (Lit.int k n).wf = true := by
  cases h with
  | int h1 hw => rw [ht] at h1; simp at h1; subst h1; exact ⟨_, rfl, hw⟩
  | bool h1 | str h1 _ | slice _ _ h1 _ _ | struct _ h1 _ | array _ h1 _ => rw [ht] at h1; simp at h1
theorem shp_bool (ht : P.underlying t = some .bool) (h : Shp P t as) : ∃ b, as = [.v (.bool b)] := by
  cases h with
  | bool h1 => exact ⟨_, rfl⟩
  | int h1 _ | str h1 _ | slice _ _ h1 _ _ | struct _ h1 _ | array _ h1 _ => rw [ht] at h1; simp at h1
theorem shp_str (ht : P.underlying t = some .string) (h : Shp P t as) : ∃ s, as = [.v (.string s)] ∧ s.size ≤ 140737488351232 := by
  cases h with
  | str h1 hs => exact ⟨_, rfl, hs⟩
  | int h1 _ | bool h1 | slice _ _ h1 _ _ | struct _ h1 _ | array _ h1 _ => rw [ht] at h1; simp at h1
theorem shp_slice {e : TypeId} (ht : P.underlying t = some (.slice e)) (h : Shp P t as) : ∃ (n : Nat) (ads : Nat → List AV), as = [.row false n ((List.range n).flatMap ads)] ∧ n * P.bytesOf e ≤ 140737488351232 ∧ ∀ i, i < n → Shp P e (ads i) := by
  cases h with
  | slice n ads h1 hn ha => rw [ht] at h1; simp at h1; subst h1; exact ⟨n, ads, rfl, hn, ha⟩
  | int h1 _ | bool h1 | str h1 _ | struct _ h1 _ | array _ h1 _ => rw [ht] at h1; simp at h1
theorem shp_struct {fs : Array Field} (ht : P.underlying t = some (.struct fs)) (h : Shp P t as) : ∃ ps : Nat → List AV, as = (List.range fs.size).flatMap ps ∧ ∀ i f, fs[i]? = some f → Shp P f.type (ps i) := by
  cases h with
  | struct ps h1 hp => rw [ht] at h1; simp at h1; subst h1; exact ⟨ps, rfl, hp⟩
  | int h1 _ | bool h1 | str h1 _ | slice _ _ h1 _ _ | array _ h1 _ => rw [ht] at h1; simp at h1
theorem shp_array {m : Nat} {e : TypeId} (ht : P.underlying t = some (.array m e)) (h : Shp P t as) : ∃ ads : Nat → List AV, as = (List.range m).flatMap ads ∧ ∀ i, i < m → Shp P e (ads i) := by
  cases h with
  | array ads h1 ha => rw [ht] at h1; simp at h1; obtain ⟨rfl, rfl⟩ := h1; exact ⟨ads, rfl, ha⟩
  | int h1 _ | bool h1 | str h1 _ | slice _ _ h1 _ _ | struct _ h1 _ => rw [ht] at h1; simp at h1
/-- A slice of what is told like this. -/
theorem shp_rows {α : Type} {f : α → List AV} {p : α → Prop} {e : TypeId} (ht : P.underlying t = some (.slice e)) (hf : ∀ as, Shp P e as → ∃ x, as = f x ∧ p x) (h : Shp P t as) : ∃ l : List α, as = [.row false l.length (l.flatMap f)] ∧ l.length * P.bytesOf e ≤ 140737488351232 ∧ ∀ x ∈ l, p x := by
  obtain ⟨n, ads, rfl, hn, ha⟩ := shp_slice ht h
  obtain ⟨l, h1, h2, h3⟩ := shp_list n (fun i hi => hf _ (ha i hi))
  subst h1
  exact ⟨l, by rw [h2], hn, h3⟩

/-- An argument that is a slice. -/
theorem arg_slice {a : Option Addr} {len cap : Nat} {d : DataW H} {ps : List MemPlace} {ts : List TypeId} {ds : List (DataW H)} (j : Nat) (hsz : (DataW.weightsEach P ts ds).all (· ≤ reachBytes) = true) (hj : ts[j]? = some t) (hd : ds[j]? = some d) (m : Nat) (hm : tidyT P m t = true) (h : DataW.Trod enc P w base (fun _ => true) held t (.slice a len cap) d ps) :
    ∃ x, VR rho0 (immOf w) x (.slice a len cap) ∧ Shp P t [x] := by
  obtain ⟨fuel, hf⟩ := h
  obtain ⟨as, h1, h2, _⟩ := trod_read fuel m t _ _ hm hf (fun n hn => by simpa using List.all_eq_true.1 hsz n (DataW.weights_mem_each hj hd n hn))
  have hc : (Value.slice a len cap).cells.toList = [.slice a len cap] := rfl
  rw [hc] at h1
  match as, h1.1 with
  | [x], _ => exact ⟨x, h1.2 0 x rfl, h2⟩
/-- An argument that is a structure, or an array. -/
theorem arg_agg {cs : Array Value} {d : DataW H} {ps : List MemPlace} {ts : List TypeId} {ds : List (DataW H)} (j : Nat) (hsz : (DataW.weightsEach P ts ds).all (· ≤ reachBytes) = true) (hj : ts[j]? = some t) (hd : ds[j]? = some d) (m : Nat) (hm : tidyT P m t = true) (h : DataW.Trod enc P w base (fun _ => true) held t (.agg cs) d ps) :
    ∃ as, VR rho0 (immOf w) (.agg as) (.agg cs) ∧ Shp P t as := by
  obtain ⟨fuel, hf⟩ := h
  obtain ⟨as, h1, h2, h3⟩ := trod_read fuel m t _ _ hm hf (fun n hn => by simpa using List.all_eq_true.1 hsz n (DataW.weights_mem_each hj hd n hn))
  have hc : (Value.agg cs).cells.toList = cs.toList := rfl
  rw [hc] at h1 h3
  have e : Value.agg cs = .agg cs.toList.toArray := by simp
  rw [e]
  exact ⟨as, .agg as cs.toList h1.1 h1.2 h3, h2⟩
end
end
end Go.Mx
