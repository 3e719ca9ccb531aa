/-
  The abstract machine: the operations that change no memory: the model's yield what is told.
-/
import Derived.Test.YtoakdmkjlpjahaaDoorMxE
namespace Go.Mx
open Go.RowKit
set_option linter.unusedVariables false

section
variable {P : Program} {N : Nat} {fr : Fr} {H : Hp} {ρ : Rho} {I : Imm} {β : Nat → Option Nat} {a : Act} {w : World}

theorem opV_some {x : Operand} {y : AV} (h : opS fr x = some (.av y)) : opV fr x = some y := by simp [opV, h]
theorem opS_of_opV {x : Operand} {y : AV} (h : opV fr x = some y) : opS fr x = some (.av y) := by
  unfold opV at h; split at h
  · rename_i z hz; simp at h; subst h; exact hz
  · simp at h

/-! #### strings of bytes -/
theorem bytes_run : ∀ (cs : List AV) (us : List Value) (bs : List UInt8) (s0 : ByteArray), VRs ρ I cs us → bytesOf cs = some bs →
    (forIn (m := Sem) us s0 (fun c r => match c with
      | .int .u8 n => pure (ForInStep.yield (r.push (UInt8.ofNat n.toNat)))
      | _ => do
        (stuck "bytesToString: byte expected" : Sem PUnit)
        pure (ForInStep.yield r))).run P w = .ok ⟨(s0.data.toList ++ bs).toArray⟩ w
  | [], us, bs, s0, hv, h => by
    have : us = [] := by have := hv.1; simpa using this
    subst this
    simp [bytesOf] at h; subst h
    simp
  | c :: cs, us, bs, s0, hv, h => by
    cases us with
    | nil => have := hv.1; simp at this
    | cons u us =>
      simp only [bytesOf] at h
      split at h <;> simp at h
      subst h
      rename_i b bs' hb hbs
      have hu : VR ρ I c u := by simpa using hv.2 0 c rfl
      unfold byteOf at hb
      split at hb <;> simp at hb
      subst hb
      cases hu
      have hv' : VRs ρ I cs us := by simpa using hv.drop 1
      rw [List.forIn_cons]
      simp only [Sem.run_bind, Sem.run_pure, Result.andThen_ok]
      rw [bytes_run cs us bs' _ hv' hbs]
      simp

theorem strOf_sound (hs : Sim N ρ I β fr H a w) {x r : AV} {v : Value} (hx : VR ρ I x v) (h : strOf H x = some r) : ∃ u, (Conv.bytesToString v).run P w = .ok u w ∧ VR ρ I r u := by
  unfold strOf at h
  split at h
  · cases hx; simp at h; subst h; exact ⟨_, rfl, .v _⟩
  · rename_i xx n cs
    split at h <;> simp at h
    rename_i hlen
    obtain ⟨bs, hbs, rfl⟩ := h
    cases hx with
    | row _ _ _ us ad cap h1 h2 h3 h4 h5 h6 =>
      have hv : VRs ρ I cs us := ⟨h1, h2⟩
      rcases h3 with ⟨rfl, rfl⟩ | ⟨ad', rfl, hrd⟩
      · have : cs = [] := by simpa using h1.symm
        subst this
        simp [bytesOf] at hbs; subst hbs
        cases ad with
        | none => exact ⟨_, rfl, .v _⟩
        | some ad => refine ⟨_, ?_, .v _⟩; simp [Conv.bytesToString, loadCells, loadCellsFrom]; rfl
      · have hl := run_loadCells_list (P := P) w ad' us (fun j v hj => by
          have h0 : ad'.spot = none := hrd.1
          obtain ⟨blk, off, spot⟩ := ad'
          simp only at h0; subst h0
          rw [Addr.add_mid]; exact hrd.cell hs.heap.imm hj)
        rw [h1, hlen] at hl
        refine ⟨_, ?_, .v _⟩
        simp only [Conv.bytesToString, Sem.run_bind, hl, Result.andThen_ok]
        have := bytes_run (P := P) (w := w) cs us bs .empty hv hbs
        simp only [List.forIn_toArray, Sem.run_pure]
        exact congrArg (fun r => Result.andThen r (fun (s : ByteArray) w' => Result.ok (Value.string s) w')) this
  · rename_i id ver sz off n
    split at h <;> simp at h
    rename_i ver' cs hob
    obtain ⟨⟨rfl, hle⟩, bs, hbs, rfl⟩ := h
    cases hx with
    | sl _ _ _ _ _ l cap hl hn hcap hmx =>
      obtain ⟨_, l', hl', hcell⟩ := hs.heap.obj _ _ hob
      rw [hl] at hl'; simp at hl'; subst hl'
      obtain ⟨us, hv, ho, hc⟩ := hcell.list
      have hlen : ((us.drop off).take n).length = n := by simp [hv.1]; omega
      have hll := run_loadCells_list (P := P) w ⟨l.blk, l.base + off, none⟩ ((us.drop off).take n) (fun j v hj => by
        rw [Addr.add_mid, Nat.add_assoc]
        refine hc _ _ ?_
        rw [List.getElem?_take] at hj
        split at hj
        · rwa [List.getElem?_drop] at hj
        · simp at hj)
      rw [hlen] at hll
      refine ⟨_, ?_, .v _⟩
      simp only [Conv.bytesToString, Sem.run_bind, hll, Result.andThen_ok]
      have := bytes_run (P := P) (w := w) _ _ bs .empty ((hv.drop off).take n) hbs
      simp only [List.forIn_toArray, Sem.run_pure]
      exact congrArg (fun r => Result.andThen r (fun (s : ByteArray) w' => Result.ok (Value.string s) w')) this
  · simp at h

/-! #### parts of texts and slices -/
theorem bound_run {k : IntKind} {i : Int} {y : Nat} {code : BoundsCode} (h0 : 0 ≤ i) (h1 : i ≤ y) : (Instr.sliceBound (.int k i) y code).run P w = .ok i.toNat w := by
  simp [Instr.sliceBound, asIntOf, h0, h1]

theorem sliceStr_sound {s : ByteArray} {lo hi : Option AV} {r : AV} {t : TypeId} {lv hv : Option Value} (ht : P.underlying t = some .string)
    (hlo : ∀ x, lo = some x → ∃ v, lv = some v ∧ VR ρ I x v) (hlo' : lo = none → lv = none) (hhi : ∀ x, hi = some x → ∃ v, hv = some v ∧ VR ρ I x v) (hhi' : hi = none → hv = none)
    (h : sliceA 0 (.v (.string s)) lo hi = some r) : ∃ u, (Instr.sliceAt t (.string s) lv hv none).run P w = .ok u w ∧ VR ρ I r u := by
  have key : ∀ (l h' : Int), sliceStr s l h' = some r → 0 ≤ l ∧ l ≤ h' ∧ h' ≤ s.size ∧ r = .v (.string (s.extract l.toNat h'.toNat)) := by
    intro l h' hh
    unfold sliceStr at hh
    split at hh <;> simp at hh
    rename_i hc
    exact ⟨hc.1, hc.2.1, hc.2.2, hh.symm⟩
  have go : (Instr.sliceAt t (.string s) lv hv none).run P w = (Instr.slice t (.string s) lv hv none).run P w := by
    simp only [Instr.sliceAt, Sem.run_bind, run_underlying ht, Result.andThen_ok]
  simp only [sliceA] at h
  split at h
  · obtain ⟨h1, h2, h3, rfl⟩ := key _ _ h
    rw [hlo' rfl, hhi' rfl] at go
    refine ⟨_, ?_, .v _⟩
    rw [hlo' rfl, hhi' rfl, go]
    simp [Instr.slice, run_underlying ht, Instr.sliceBounds]
  · rename_i k l
    obtain ⟨h1, h2, h3, rfl⟩ := key _ _ h
    obtain ⟨v, rfl, hv'⟩ := hlo _ rfl
    cases hv'
    rw [hhi' rfl] at go
    refine ⟨_, ?_, .v _⟩
    rw [hhi' rfl, go]
    simp [Instr.slice, run_underlying ht, Instr.sliceBounds, bound_run h1 h2]
  · rename_i k h'
    obtain ⟨h1, h2, h3, rfl⟩ := key _ _ h
    obtain ⟨v, rfl, hv'⟩ := hhi _ rfl
    cases hv'
    rw [hlo' rfl] at go
    refine ⟨_, ?_, .v _⟩
    rw [hlo' rfl, go]
    simp [Instr.slice, run_underlying ht, Instr.sliceBounds, bound_run h2 h3]
  · rename_i k l k' h'
    obtain ⟨h1, h2, h3, rfl⟩ := key _ _ h
    obtain ⟨v, rfl, hv'⟩ := hlo _ rfl
    cases hv'
    obtain ⟨v, rfl, hv'⟩ := hhi _ rfl
    cases hv'
    refine ⟨_, ?_, .v _⟩
    rw [go]
    have e : l ≤ (h'.toNat : Int) := by omega
    simp [Instr.slice, run_underlying ht, Instr.sliceBounds, bound_run (Int.le_trans h1 h2) h3, bound_run h1 e]
  · simp at h

theorem index_sound {t : TypeId} {x y r : AV} {u v : Value} (ht : P.underlying t = some .string) (hx : VR ρ I x u) (hy : VR ρ I y v) (h : indexStr x y = some r) :
    ∃ z, (Instr.index t u v).run P w = .ok z w ∧ VR ρ I r z := by
  unfold indexStr at h
  split at h
  · split at h <;> simp at h
    subst h
    rename_i hh
    cases hx; cases hy
    refine ⟨_, ?_, .v _⟩
    have e : ∀ (s : ByteArray) (i : Nat) (hi : i < s.size), s[i]? = some s[i] := fun s i hi => by simp [hi]
    simp [Instr.index, asIntOf, run_underlying ht, hh.1, hh.2]
  · simp at h

theorem indexAddr_sound {t e : TypeId} {s : Nat} {x y r : AV} {u v : Value} (ht : P.underlying t = some (.slice e)) (hz : szT P e = some s) (hx : VR ρ I x u) (hy : VR ρ I y v) (h : indexAddrA s x y = some r) :
    ∃ z, (Instr.indexAt t u v).run P w = .ok z w ∧ VR ρ I r z := by
  unfold indexAddrA at h
  split at h
  · rename_i xx n cs k i
    split at h <;> simp at h
    subst h
    rename_i hi
    cases hy
    cases hx with
    | row _ _ _ us ad cap h1 h2 h3 h4 h5 h6 =>
      rcases h3 with ⟨rfl, _⟩ | ⟨ad', rfl, hrd⟩
      · exfalso; omega
      · refine ⟨_, ?_, .rp cs us ad' _ h1 h2 hrd⟩
        have h0 : ad'.spot = none := hrd.1
        obtain ⟨blk, off, spot⟩ := ad'
        simp only at h0; subst h0
        have hi2 : i < (n : Int) := hi.2
        simp [Instr.indexAt, asIntOf, run_underlying ht, hi.1, hi2, szT_run hz, Addr.add_mid]
  · rename_i id ver s' off n k i
    split at h <;> simp at h
    subst h
    rename_i hi
    cases hy
    cases hx with
    | sl _ _ _ _ _ l cap hl hn hcap hmx =>
      refine ⟨.pointer (some ⟨l.blk, l.base + (off + i.toNat * s), none⟩), ?_, .ptr id ver _ l hl⟩
      have hi2 : i < (n : Int) := hi.2
      simp [Instr.indexAt, asIntOf, run_underlying ht, hi.1, hi2, szT_run hz, Addr.add_mid, Nat.add_assoc]
  · simp at h

theorem indexArr_sound {t e : TypeId} {s n : Nat} {x : SV} {y : AV} {r : SV} {u v : Value} (ht : P.underlying t = some (.array n e)) (hz : szT P e = some s) (hx : SVR ρ I β x u) (hy : VR ρ I y v) (h : indexArrA s n x y = some r) :
    ∃ z, (Instr.indexAt t u v).run P w = .ok z w ∧ SVR ρ I β r z := by
  unfold indexArrA at h
  split at h
  · rename_i k i
    split at h <;> (first | (exfalso; simp at h; done) | skip)
    rename_i hi
    cases hy
    obtain ⟨ad, rfl, hr⟩ := plus_sound hx h
    refine ⟨_, ?_, hr⟩
    have hi2 : i < (n : Int) := hi.2
    simp [Instr.indexAt, asIntOf, run_underlying ht, hi.1, hi2, szT_run hz, Instr.sureAddr]
  · simp at h

theorem indexTab_sound {t e : TypeId} {s n : Nat} {x : SV} {y : AV} {r : SV} {u v : Value} (hst : StH ρ I H w) (ht : P.underlying t = some (.array n e)) (hz : szT P e = some s) (hx : SVR ρ I β x u) (hy : VR ρ I y v) (h : indexTabA H s n x y = some r) :
    ∃ z, (Instr.indexAt t u v).run P w = .ok z w ∧ SVR ρ I β r z := by
  unfold indexTabA at h
  split at h
  · rename_i g k i
    split at h <;> (first | (exfalso; simp at h; done) | skip)
    rename_i hi
    simp only [Option.map_eq_some_iff] at h
    obtain ⟨us, hus, rfl⟩ := h
    unfold tabO at hus
    split at hus <;> (first | (exfalso; simp at hus; done) | skip)
    rename_i g' us' he
    split at hus <;> simp at hus
    rename_i hg
    subst hg; subst hus
    have hrd : Rd I ⟨g', 0, none⟩ us' := hst.obj _ _ he
    simp only [SVR] at hx
    cases hx
    cases hy
    refine ⟨.pointer (some ⟨g', 0 + i.toNat * s, none⟩), ?_, .rp (us'.map .v) us' ⟨g', 0, none⟩ _ (by simp) (fun j c hc => ?_) hrd⟩
    · have hi2 : i < (n : Int) := hi.2
      simp [Instr.indexAt, asIntOf, run_underlying ht, hi.1, hi2, szT_run hz, Instr.sureAddr, Addr.add_mid]
    · simp only [List.getElem?_map, Option.map_eq_some_iff] at hc
      obtain ⟨z, hz, rfl⟩ := hc
      rw [List.getD_eq_getElem?_getD, hz]
      exact .v _
  · exact indexArr_sound ht hz hx hy h

theorem sliceSl_sound {t e : TypeId} {s : Nat} {x r : AV} {lo hi : Option AV} {u : Value} {lv hv : Option Value} (ht : P.underlying t = some (.slice e)) (hz : szT P e = some s) (hnstr : ∀ z, x ≠ .v (.string z)) (hx : VR ρ I x u)
    (hlo : ∀ x, lo = some x → ∃ v, lv = some v ∧ VR ρ I x v) (hlo' : lo = none → lv = none) (hhi : ∀ x, hi = some x → ∃ v, hv = some v ∧ VR ρ I x v) (hhi' : hi = none → hv = none)
    (h : sliceA s x lo hi = some r) : ∃ z, (Instr.sliceAt t u lv hv none).run P w = .ok z w ∧ VR ρ I r z := by
  have run : ∀ (ad : Option Addr) (n cap : Nat) (l h' : Int), 0 ≤ l → l ≤ h' → h' ≤ n → n ≤ cap → (lo = none ∧ l = 0 ∨ ∃ k, lo = some (.v (.int k l))) → (hi = none ∧ h' = n ∨ ∃ k, hi = some (.v (.int k h'))) →
      (Instr.sliceAt t (.slice ad n cap) lv hv none).run P w = .ok (.slice (if cap = l.toNat then ad else ad.map (·.add (l.toNat * s))) (h' - l).toNat (cap - l.toNat)) w := by
    intro ad n cap l h' h0 h1 h2 h3 hl hh
    have go : (Instr.sliceAt t (.slice ad n cap) lv hv none).run P w = (Instr.slice t (.slice ad n cap) lv hv none).run P w := by
      simp only [Instr.sliceAt, Sem.run_bind, run_underlying ht, Result.andThen_ok]
    have hc : h' ≤ (cap : Int) := by omega
    have e1 : l ≤ (h'.toNat : Int) := by omega
    have e2 : (h' - l).toNat = h'.toNat - l.toNat := by omega
    rw [go]
    rcases hl with ⟨hl, rfl⟩ | ⟨k, hl⟩ <;> rcases hh with ⟨hh, rfl⟩ | ⟨k', hh⟩
    · rw [hlo' hl, hhi' hh]
      simp [Instr.slice, run_underlying ht, Instr.sliceBounds, szT_run hz]
    · rw [hlo' hl]
      obtain ⟨v, rfl, hv'⟩ := hhi _ hh
      cases hv'
      simp [Instr.slice, run_underlying ht, Instr.sliceBounds, bound_run (Int.le_trans h0 h1) hc, szT_run hz]
    · rw [hhi' hh]
      obtain ⟨v, rfl, hv'⟩ := hlo _ hl
      cases hv'
      simp [Instr.slice, run_underlying ht, Instr.sliceBounds, bound_run h0 h1, szT_run hz]
      omega
    · obtain ⟨v, rfl, hv'⟩ := hlo _ hl
      cases hv'
      obtain ⟨v, rfl, hv'⟩ := hhi _ hh
      cases hv'
      simp [Instr.slice, run_underlying ht, Instr.sliceBounds, bound_run (Int.le_trans h0 h1) hc, bound_run h0 e1, szT_run hz, e2]
  have rowcase : ∀ (xx : Bool) (n : Nat) (cs : List AV) (l h' : Int), x = .row xx n cs → sliceRow s xx n cs l h' = some r → (lo = none ∧ l = 0 ∨ ∃ k, lo = some (.v (.int k l))) → (hi = none ∧ h' = n ∨ ∃ k, hi = some (.v (.int k h'))) →
      ∃ z, (Instr.sliceAt t u lv hv none).run P w = .ok z w ∧ VR ρ I r z := by
    intro xx n cs l h' hxe hh hl hhh
    subst hxe
    unfold sliceRow at hh
    split at hh <;> simp at hh
    subst hh
    rename_i hc
    cases hx with
    | row _ _ _ us ad cap h1 h2 h3 h4 h5 h6 =>
      refine ⟨_, run ad n cap l h' hc.1 hc.2.1 hc.2.2 h5 hl hhh, ?_⟩
      have hv : VRs ρ I cs us := ⟨h1, h2⟩
      have hv' := (hv.drop (l.toNat * s)).take ((h' - l).toNat * s)
      refine .row false _ _ ((us.drop (l.toNat * s)).take ((h' - l).toNat * s)) _ _ hv'.1 hv'.2 ?_ ?_ (by omega) (by simp)
      · rcases h3 with ⟨rfl, rfl⟩ | ⟨ad', rfl, hrd⟩
        · exact .inl ⟨by omega, by simp⟩
        · by_cases hcl : cap = l.toNat
          · left
            refine ⟨by omega, ?_⟩
            have : (h' - l).toNat = 0 := by omega
            simp [this]
          · right
            rw [if_neg hcl]
            have h0 : ad'.spot = none := hrd.1
            obtain ⟨blk, off, spot⟩ := ad'
            simp only at h0; subst h0
            exact ⟨_, rfl, by show Rd I (Addr.add ⟨blk, off, none⟩ _) _; rw [Addr.add_mid]; exact (hrd.drop _).take _⟩
      · intro ad' hh
        split at hh
        · rename_i hcl; right; omega
        · cases ad with
          | none => simp at hh
          | some ad0 =>
            rcases h4 _ rfl with h0 | h0
            · left
              obtain ⟨blk, off, spot⟩ := ad0
              simp only at h0; subst h0
              simp [Addr.add_mid] at hh; subst hh; rfl
            · right; omega
  have slcase : ∀ (id ver s' off n : Nat) (l h' : Int), x = .sl id ver s' off n → sliceSl s id ver s' off n l h' = some r → (lo = none ∧ l = 0 ∨ ∃ k, lo = some (.v (.int k l))) → (hi = none ∧ h' = n ∨ ∃ k, hi = some (.v (.int k h'))) →
      ∃ z, (Instr.sliceAt t u lv hv none).run P w = .ok z w ∧ VR ρ I r z := by
    intro id ver s' off n l h' hxe hh hl hhh
    subst hxe
    unfold sliceSl at hh
    split at hh <;> simp at hh
    rename_i he
    subst he
    obtain ⟨hc, hh⟩ := hh
    cases hx with
    | sl _ _ _ _ _ lc cap hlc hn hcap hmx =>
      refine ⟨_, run _ n cap l h' hc.1 hc.2.1 hc.2.2 hn hl hhh, ?_⟩
      split at hh <;> simp at hh <;> subst hh
      · rename_i hln
        have : cap ≠ l.toNat := by omega
        rw [if_neg this]
        simp only [Option.map_some, Addr.add_mid, Nat.add_assoc]
        refine .sl id ver _ _ _ lc _ hlc (by omega) ?_ (Nat.le_trans (Nat.sub_le _ _) hmx)
        have e : cap = (cap - l.toNat) + l.toNat := by omega
        have : cap * s' = (cap - l.toNat) * s' + l.toNat * s' := by rw [← Nat.add_mul, ← e]
        omega
      · rename_i hln
        have e0 : (h' - l).toNat = 0 := by omega
        rw [e0]
        refine .row false 0 [] [] _ _ rfl (fun i c hc => by simp at hc) (.inl ⟨rfl, rfl⟩) ?_ (by omega) (by simp)
        intro ad' hh
        split at hh
        · simp at hh; subst hh; exact .inl rfl
        · simp [Addr.add_mid] at hh; subst hh; exact .inl rfl
  unfold sliceA at h
  split at h
  · rename_i z; exact absurd rfl (hnstr z)
  · rename_i xx n cs
    split at h
    · rename_i k l; exact rowcase xx n cs l n rfl h (.inr ⟨k, rfl⟩) (.inl ⟨rfl, rfl⟩)
    · rename_i k h'; exact rowcase xx n cs 0 h' rfl h (.inl ⟨rfl, rfl⟩) (.inr ⟨k, rfl⟩)
    · rename_i k l k' h'; exact rowcase xx n cs l h' rfl h (.inr ⟨k, rfl⟩) (.inr ⟨k', rfl⟩)
    · simp at h
  · rename_i id ver s' off n
    split at h
    · rename_i k l; exact slcase id ver s' off n l n rfl h (.inr ⟨k, rfl⟩) (.inl ⟨rfl, rfl⟩)
    · rename_i k h'; exact slcase id ver s' off n 0 h' rfl h (.inl ⟨rfl, rfl⟩) (.inr ⟨k, rfl⟩)
    · rename_i k l k' h'; exact slcase id ver s' off n l h' rfl h (.inr ⟨k, rfl⟩) (.inr ⟨k', rfl⟩)
    · simp at h
  · cases hx
    split at h
    · rename_i k l
      split at h <;> simp at h
      subst h
      rename_i hl; subst hl
      have := run none 0 0 0 0 (by omega) (by omega) (by omega) (by omega) (.inr ⟨k, rfl⟩) (.inl ⟨rfl, rfl⟩)
      exact ⟨_, by simpa using this, .v _⟩
    · rename_i k h'
      split at h <;> simp at h
      subst h
      rename_i hl; subst hl
      have := run none 0 0 0 0 (by omega) (by omega) (by omega) (by omega) (.inl ⟨rfl, rfl⟩) (.inr ⟨k, rfl⟩)
      exact ⟨_, by simpa using this, .v _⟩
    · simp at h
  · simp at h

end
end Go.Mx
