/-
  The abstract machine: 'valS' is sound.
-/
import Derived.Test.YtoakdmkjlpjahaaDoorMxG
namespace Go.Mx
open Go.RowKit
set_option linter.unusedVariables false
set_option linter.unusedSimpArgs false

section
variable {P : Program} {N : Nat} {fr : Fr} {H : Hp} {ρ : Rho} {I : Imm} {β : Nat → Option Nat} {a : Act} {w : World}

theorem getObj_map {r : Nat} {es : Array MapEntry} {clock : Nat} (hb : w.heap[r]? = some (.map es clock)) : (getObj r).run P w = .ok (.map es clock) w := by simp [getObj, Sem.run, hb]
theorem mapM_run {α γ : Type} {f : α → Sem γ} {g : α → Option γ} (hf : ∀ x y, g x = some y → (f x).run P w = .ok y w) : ∀ {xs : List α} {ys : List γ}, mapO g xs = some ys → (xs.mapM f).run P w = .ok ys w
  | [], ys, h => by simp [mapO] at h; subst h; rfl
  | x :: xs, ys, h => by
    simp only [mapO] at h
    split at h <;> simp at h
    subst h
    rename_i y ys' hy hys
    simp [List.mapM_cons, hf x y hy, mapM_run hf hys]
theorem VR.v_inv {y u : Value} (h : VR ρ I (.v y) u) : u = y := by cases h; rfl
theorem run_value {S : Sem Value} {u : Value} {w' : World} (h : S.run P w = .ok u w') {X : Sem Next} (hX : X = (do pure (Next.value (← S)))) : X.run P w = .ok (.value u) w' := by rw [hX]; exact run_v h

theorem max_sound {x y r : AV} {u v : Value} (hx : VR ρ I x u) (hy : VR ρ I y v) (h : maxA x y = some r) (ts : Array TypeId) (ty : TypeId) : ∃ z, (Builtin.max_ ts ty #[u, v]).run P w = .ok z w ∧ VR ρ I r z := by
  unfold maxA at h
  split at h
  · cases hx; cases hy
    split at h <;> simp at h
    subst h
    exact ⟨_, rfl, .v _⟩
  · simp at h
theorem min_sound {x y r : AV} {u v : Value} (hx : VR ρ I x u) (hy : VR ρ I y v) (h : minA x y = some r) (ts : Array TypeId) (ty : TypeId) : ∃ z, (Builtin.min_ ts ty #[u, v]).run P w = .ok z w ∧ VR ρ I r z := by
  unfold minA at h
  split at h
  · cases hx; cases hy
    split at h <;> simp at h
    subst h
    exact ⟨_, rfl, .v _⟩
  · simp at h

theorem optV {lo : Option Operand} (hs : Sim N ρ I β fr H a w) (hok : ∀ x, lo = some x → (opV fr x).isSome = true) :
    (∀ x, lo.map (fun y => (opV fr y).getD (.v undef)) = some x → ∃ v, lo.map a.eval = some v ∧ VR ρ I x v) ∧ (lo.map (fun y => (opV fr y).getD (.v undef)) = none → lo.map a.eval = none) := by
  cases lo with
  | none => exact ⟨fun x hx => by simp at hx, fun _ => rfl⟩
  | some y =>
    refine ⟨fun x hx => ?_, fun h => by simp at h⟩
    simp at hx; subst hx
    refine ⟨_, rfl, ?_⟩
    have := hok y rfl
    cases hv : opV fr y with
    | none => rw [hv] at this; simp at this
    | some z => exact opV_sound hs hv

theorem lenA_sound {x r : AV} {u : Value} (hx : VR ρ I x u) (h : lenA x = some r) (h1 : ∀ s, x ≠ .v (.string s)) (h2 : ∀ m, x ≠ .v (.map m)) {t e : TypeId} (ht : P.underlying t = some (.slice e)) (ts : Array TypeId) (h0 : ts[0]? = some t) (ty : TypeId) :
    ∃ z, (Builtin.len_ ts ty #[u]).run P w = .ok z w ∧ VR ρ I r z := by
  unfold lenA at h
  split at h <;> simp at h <;> subst h
  · exact absurd rfl (h1 _)
  · cases hx; exact ⟨_, by simp [Builtin.len_, h0, run_underlying ht, goInt], .v _⟩
  · cases hx; exact ⟨_, by simp [Builtin.len_, h0, run_underlying ht, goInt], .v _⟩
  · cases hx; exact ⟨_, by simp [Builtin.len_, h0, run_underlying ht, goInt], .v _⟩
  · exact absurd rfl (h2 _)

theorem valS_sound (hs : Sim N ρ I β fr H a w) {o : Oper} {x : SV} (h : valS P fr H o = some x) : ∃ u, (execOp a.eval o).run P w = .ok (.value u) w ∧ SVR ρ I β x u := by
  obtain ⟨dst, op, ty, pos, after, guard⟩ := o
  unfold valS at h
  simp only at h
  split at h
  · exact ⟨_, rfl, opS_sound hs h⟩
  · exact ⟨_, rfl, opS_sound hs h⟩
  · -- pick
    rename_i c p q
    split at h
    · rename_i t hc
      have hv := opS_sound hs hc
      have he : a.eval c = .bool t := by generalize a.eval c = u at hv; cases hv; rfl
      split at h
      · exact ⟨_, by simp [execOp, he, asBool], opS_sound hs h⟩
      · exact ⟨_, by simp [execOp, he, asBool], opS_sound hs h⟩
    · simp at h
  · -- binOp
    rename_i op t p q yt
    split at h
    · rename_i xa ya hxa hya
      split at h
      · rename_i r hr
        simp at h; subst h
        obtain ⟨u, hu, rfl⟩ := binA_sound P w op t p q (opV_sound hs hxa) (opV_sound hs hya) hr
        exact ⟨u, run_v hu, .v _⟩
      · simp only [Option.map_eq_some_iff] at h
        obtain ⟨r, hr, rfl⟩ := h
        obtain ⟨u, hu, hv⟩ := eqAgg_sound p q (opV_sound hs hxa) (opV_sound hs hya) hr
        exact ⟨u, run_v hu, hv⟩
    · simp at h
  · -- lookup
    rename_i t m i ok
    split at h
    · rename_i xa ya hxa hya
      simp only [Option.map_eq_some_iff] at h
      obtain ⟨r, hr, rfl⟩ := h
      obtain ⟨u, hu, hv⟩ := lookV_sound hs.heap (opV_sound hs hxa) (opV_sound hs hya) hr
      exact ⟨u, run_v hu, hv⟩
    · simp at h
  · -- unOp
    rename_i op t p
    split at h
    · rename_i xa hxa
      simp only [Option.map_eq_some_iff] at h
      obtain ⟨r, hr, rfl⟩ := h
      have hv := opV_sound hs hxa
      unfold unA at hr
      split at hr
      · split at hr <;> simp at hr
        subst hr
        exact ⟨_, by simp [execOp, Op.unary, hv.v_inv], .v _⟩
      · split at hr <;> simp at hr
        subst hr
        exact ⟨_, by simp [execOp, Op.unary, Op.intArith, hv.v_inv], .v _⟩
      · simp at hr
    · simp at h
  · -- convert
    rename_i src dst' p
    have cv : ∀ {u}, (convert src dst' (a.eval p)).run P w = .ok u w → (execOp a.eval ⟨dst, .convert src dst' p, ty, pos, after, guard⟩).run P w = .ok (.value u) w := fun h => run_v h
    split at h
    · rename_i ds k xa hs1 hs2 hxa
      simp only [Option.map_eq_some_iff] at h
      obtain ⟨r, hr, rfl⟩ := h
      have hv := opV_sound hs hxa
      unfold convInt at hr
      split at hr <;> simp at hr
      subst hr
      exact ⟨_, cv (by simp [convert, run_underlying hs1, run_underlying hs2, hv.v_inv, Conv.intToInt]), .v _⟩
    · rename_i e xa hs1 hs2 hxa
      split at h <;> (first | (exfalso; simp at h; done) | skip)
      rename_i he
      simp only [Option.map_eq_some_iff] at h
      obtain ⟨r, hr, rfl⟩ := h
      have hv := opV_sound hs hxa
      obtain ⟨u, hu, hru⟩ := strOf_sound (P := P) hs hv hr
      refine ⟨u, cv ?_, hru⟩
      have hsl : ∃ ad n c, a.eval p = .slice ad n c := by
        generalize a.eval p = v at hv
        unfold strOf at hr
        split at hr
        · cases hv; exact ⟨_, _, _, rfl⟩
        · cases hv; exact ⟨_, _, _, rfl⟩
        · cases hv; exact ⟨_, _, _, rfl⟩
        · simp at hr
      obtain ⟨ad, n, c, hev⟩ := hsl
      rw [hev] at hu ⊢
      simp [convert, run_underlying hs1, run_underlying hs2, run_underlying he, hu]
    · rename_i ds xa hneg hs1 hs2 hxa
      simp only [Option.map_eq_some_iff] at h
      obtain ⟨r, hr, rfl⟩ := h
      have hv := opV_sound hs hxa
      unfold convStr at hr
      split at hr <;> simp at hr <;> subst hr
      · exact ⟨_, cv (by simp [convert, run_underlying hs1, run_underlying hs2, hv.v_inv, Conv.intToString]), .v _⟩
      · exact ⟨_, cv (by simp [convert, run_underlying hs1, run_underlying hs2, hv.v_inv]), .v _⟩
    · simp at h
  · -- extract
    rename_i p i
    split at h
    · rename_i xa hxa
      simp only [Option.map_eq_some_iff] at h
      obtain ⟨r, hr, rfl⟩ := h
      have hv := opV_sound hs hxa
      unfold extractA at hr
      split at hr
      · generalize hev : a.eval p = v at hv
        cases hv with
        | tup vs us h1 h2 =>
          obtain ⟨u, hu, hru⟩ := VRs.get ⟨h1, h2⟩ hr
          exact ⟨u, run_v (by rw [hev]; simp [Instr.extract, hu]), hru⟩
      · simp only [Option.map_eq_some_iff] at hr
        obtain ⟨u, hu, rfl⟩ := hr
        exact ⟨u, run_v (by rw [hv.v_inv]; simp [Instr.extract, hu]), .v _⟩
      · simp at hr
    · simp at h
  · -- field
    rename_i t p f
    split at h
    · rename_i fs xa ht hxa
      split at h
      · rename_i fd hfd
        split at h
        · rename_i g s hg hz
          simp only [Option.map_eq_some_iff] at h
          obtain ⟨r, hr, rfl⟩ := h
          have hv := opV_sound hs hxa
          unfold fieldA at hr
          split at hr
          · generalize hev : a.eval p = v at hv
            cases hv with
            | agg cs us h1 h2 h3 =>
              obtain ⟨u, hu, hru⟩ := part_sound (P := P) (w := w) hg hz ⟨h1, h2⟩ h3 hr
              exact ⟨u, run_v (by rw [hev]; simp [Instr.field, run_underlying ht, hfd, asAgg, hu]), hru⟩
          · simp at hr
        · simp at h
      · simp at h
    · simp at h
  · -- load
    rename_i t p
    split at h
    · rename_i g s xa hg hz hxa
      simp only [Option.map_eq_some_iff] at h
      obtain ⟨r, hr, rfl⟩ := h
      obtain ⟨u, hu, hru⟩ := load_sound (P := P) hs hg hz (opS_sound hs hxa) hr
      exact ⟨u, run_v hu, hru⟩
    · simp at h
  · -- slice
    rename_i t p lo hi
    split at h
    · rename_i z ht hxa
      simp only [Option.map_eq_some_iff] at h
      obtain ⟨r, hr, rfl⟩ := h
      have hv : VR ρ I _ _ := opS_sound hs hxa
      obtain ⟨l1, l2⟩ := optV (lo := lo) hs (fun y hy => by
        subst hy
        cases ho : opV fr y with
        | some q => rfl
        | none => simp [ho, sliceA, undef] at hr)
      obtain ⟨h1, h2⟩ := optV (lo := hi) hs (fun y hy => by
        subst hy
        cases ho : opV fr y with
        | some q => rfl
        | none => simp [ho, sliceA, undef] at hr)
      obtain ⟨u, hu, hru⟩ := sliceStr_sound (P := P) (w := w) ht l1 l2 h1 h2 hr
      exact ⟨u, run_v (by rw [hv.v_inv]; exact hu), hru⟩
    · rename_i e xa ht hxa
      split at h
      · rename_i s hz
        have hv : VR ρ I xa (a.eval p) := opS_sound hs hxa
        have hns : ∀ z, xa ≠ .v (.string z) := by rintro z rfl; simp at h
        replace h : (sliceA s xa (lo.map (fun y => (opV fr y).getD (.v undef))) (hi.map (fun y => (opV fr y).getD (.v undef)))).map SV.av = some x := by
          split at h
          · simp at h
          · exact h
        simp only [Option.map_eq_some_iff] at h
        obtain ⟨r, hr, rfl⟩ := h
        obtain ⟨l1, l2⟩ := optV (lo := lo) hs (fun y hy => by
          subst hy
          cases ho : opV fr y with
          | some q => rfl
          | none =>
            exfalso
            simp only [Option.map_some, ho, Option.getD_none] at hr
            unfold sliceA undef at hr
            split at hr <;> (try (split at hr)) <;> simp_all)
        obtain ⟨h1, h2⟩ := optV (lo := hi) hs (fun y hy => by
          subst hy
          cases ho : opV fr y with
          | some q => rfl
          | none =>
            exfalso
            simp only [Option.map_some, ho, Option.getD_none] at hr
            unfold sliceA undef at hr
            split at hr <;> (try (split at hr)) <;> simp_all)
        obtain ⟨u, hu, hru⟩ := sliceSl_sound (P := P) (w := w) ht hz hns hv l1 l2 h1 h2 hr
        exact ⟨u, run_v hu, hru⟩
      · simp at h
    · rename_i n e xa ht hxa
      split at h
      · rename_i s hlo hhi hz
        simp only [Option.map_eq_some_iff] at h
        obtain ⟨r, hr, rfl⟩ := h
        have hv : VR ρ I xa (a.eval p) := opS_sound hs hxa
        unfold sliceArr at hr
        split at hr
        · split at hr <;> simp at hr
          rename_i hob
          obtain ⟨⟨rfl, hle, hn, hn2⟩, rfl⟩ := hr
          generalize hev : a.eval p = v at hv
          cases hv with
          | ptr _ _ _ l hl =>
            obtain ⟨_, l', hl', arr, T, hb, hsz, hcl, _⟩ := hs.heap.obj _ _ hob
            rw [hl] at hl'; simp at hl'; subst hl'
            refine ⟨.slice (some ⟨l.blk, l.base + _, none⟩) n n, run_v ?_, .sl _ _ _ _ _ l n hl (Nat.le_refl _) (by omega) (Nat.le_trans hn2 (by decide))⟩
            rw [hev]
            simp [Instr.sliceAt, run_underlying ht, Instr.sureAddr, Instr.sliceBounds, szT_run hz, Addr.add]
        · simp at hr
      · simp at h
    · simp at h
  · -- index
    rename_i t p i
    split at h
    · rename_i xa ya ht hxa hya
      simp only [Option.map_eq_some_iff] at h
      obtain ⟨r, hr, rfl⟩ := h
      obtain ⟨u, hu, hru⟩ := index_sound (P := P) (w := w) ht (opV_sound hs hxa) (opV_sound hs hya) hr
      exact ⟨u, run_v hu, hru⟩
    · rename_i n e cs k j ht hxa hya
      split at h
      · rename_i g s hg hz
        split at h <;> (first | (exfalso; simp at h; done) | skip)
        rename_i hj
        simp only [Option.map_eq_some_iff] at h
        obtain ⟨r, hr, rfl⟩ := h
        have hv := opV_sound hs hxa
        have hvi := (opV_sound hs hya).v_inv
        generalize hev : a.eval p = v at hv
        cases hv with
        | agg cs us h1 h2 h3 =>
          obtain ⟨u, hu, hru⟩ := part_sound (P := P) (w := w) hg hz ⟨h1, h2⟩ h3 hr
          have hj2 : j < (n : Int) := hj.2
          exact ⟨u, run_v (by rw [hev, hvi]; simp [Instr.index, asIntOf, run_underlying ht, hj.1, hj2, szT_run hz, hu]), hru⟩
      · simp at h
    · simp at h
  · -- indexAddr
    rename_i t p i
    split at h
    · rename_i e xa ya ht hxa hya
      split at h
      · rename_i s hz
        simp only [Option.map_eq_some_iff] at h
        obtain ⟨r, hr, rfl⟩ := h
        obtain ⟨u, hu, hru⟩ := indexAddr_sound (P := P) (w := w) ht hz (opS_sound hs hxa) (opV_sound hs hya) hr
        exact ⟨u, run_v hu, hru⟩
      · simp at h
    · rename_i n e xa ya ht hxa hya
      split at h
      · rename_i s hz
        obtain ⟨u, hu, hru⟩ := indexTab_sound (P := P) (w := w) hs.heap ht hz (opS_sound hs hxa) (opV_sound hs hya) h
        exact ⟨u, run_v hu, hru⟩
      · simp at h
    · simp at h
  · -- fieldAddr
    rename_i t p f
    split at h
    · rename_i fs xa ht hxa
      split at h
      · rename_i fd hfd
        split at h
        · rename_i s hz
          obtain ⟨ad, hev, hr⟩ := plus_sound (opS_sound hs hxa) h
          exact ⟨_, run_v (by rw [hev]; simp [Instr.fieldAt, run_underlying ht, hfd, Instr.sureAddr, fieldPlace, szT_run hz]), hr⟩
        · simp at h
      · simp at h
    · simp at h
  · -- nilCheck
    rename_i p
    split at h
    · rename_i xa hxa
      have hv := opS_sound hs hxa
      unfold nilCheckS at h
      split at h <;> simp at h <;> subst h
      · generalize hev : a.eval p = v at hv
        cases hv with
        | rp _ us ad _ h1 h2 h3 => exact ⟨_, by simp [execOp, hev], .rp _ us ad _ h1 h2 h3⟩
      · generalize hev : a.eval p = v at hv
        cases hv with
        | ptr _ _ _ l hl => exact ⟨_, by simp [execOp, hev], .ptr _ _ _ l hl⟩
      · obtain ⟨b, hb, hev⟩ := hv
        exact ⟨_, by simp [execOp, hev], ⟨b, hb, rfl⟩⟩
    · simp at h
  · -- makeFunc
    rename_i fn first captured
    split at h
    · rename_i xs ys hxs hys
      simp at h; subst h
      have h1 := mapO_vrs hs hxs
      have h2 := mapO_vrs hs hys
      refine ⟨_, run_v rfl, ?_⟩
      have e1 : first.map a.eval = (first.toList.map a.eval).toArray := by apply Array.ext'; simp
      have e2 : captured.map a.eval = (captured.toList.map a.eval).toArray := by apply Array.ext'; simp
      rw [e1, e2]
      exact .fn fn xs ys _ _ h1.1 h1.2 h2.1 h2.2
    · simp at h
  · -- build
    rename_i t parts
    split at h
    · rename_i i fs hi ht
      split at h
      · rename_i z pl hzz hpl
        split at h
        · rename_i ps hone hps
          simp only [Option.map_eq_some_iff] at h
          obtain ⟨cs, hcs, rfl⟩ := h
          obtain ⟨hl, hget⟩ := mapO_get hps
          have hplaces : (fs.mapM fun f => (do pure (f.offset, ← sizeOf f.type) : Sem (Nat × Nat))).run P w = .ok pl.toArray w := by
            have := mapM_run (P := P) (w := w) (f := fun f : Field => (do pure (f.offset, ← sizeOf f.type) : Sem (Nat × Nat))) (g := fun f : Field => (szT P f.type).map fun s => (f.offset, s)) (fun x y hxy => by
              simp only [Option.map_eq_some_iff] at hxy
              obtain ⟨s, hs', rfl⟩ := hxy
              simp [szT_run hs']) hpl
            rw [← Array.toArray_toList (xs := fs), List.mapM_toArray, Sem.run_map, this]
            rfl
          have hz1 : (zeroValue t).run P w = .ok z w := by simp [zeroValue, typeInfo, hi, hzz]
          have hv0 : VRs ρ I (z.cells.toList.map .v) z.cells.toList := VRs.of_get (by simp) (fun i c u hc hu => by simp [hu] at hc; subst hc; exact .v u)
          obtain ⟨arr', hf, hva, hoa⟩ := fill_sound (fun j => pl.toArray[j]?) ps ((parts.map (fun (q : Nat × Operand) => (q.1, a.eval q.2))).toList) (z.cells.toList.map .v) z.cells cs hv0
            (fun u hu => by simpa using (List.all_eq_true.1 hone) u hu) (by simp [hl]) (fun j p hp => by
              obtain ⟨q, hq, hqf⟩ := hget j p hp
              split at hqf <;> simp at hqf
              rename_i pq xa hpq hxa
              subst hqf
              refine ⟨(q.1, a.eval q.2), by simp [hq], ?_, opV_sound hs hxa⟩
              simpa using hpq) hcs
          refine ⟨.agg arr', run_v ?_, ?_⟩
          · simp only [Instr.build, Sem.run_bind, hz1, run_underlying ht, hplaces, Result.andThen_ok]
            have hf' : Instr.fill (fun x => pl.toArray[x]?) z.cells (parts.map fun (x : Nat × Operand) => match x with | (i, x) => (i, a.eval x)).toList = some arr' := hf
            simp only [hf']
            rfl
          · have e : arr' = arr'.toList.toArray := by simp
            rw [e]
            exact .agg cs _ hva.1 hva.2 hoa
        · simp at h
      · simp at h
    · rename_i i n e hi ht
      split at h
      · rename_i z pl hzz hpl
        simp only [Option.map_eq_some_iff] at hpl
        obtain ⟨sz, hsz, rfl⟩ := hpl
        split at h
        · rename_i ps hone hps
          simp only [Option.map_eq_some_iff] at h
          obtain ⟨cs, hcs, rfl⟩ := h
          obtain ⟨hl, hget⟩ := mapO_get hps
          have hz1 : (zeroValue t).run P w = .ok z w := by simp [zeroValue, typeInfo, hi, hzz]
          have hv0 : VRs ρ I (z.cells.toList.map .v) z.cells.toList := VRs.of_get (by simp) (fun i c u hc hu => by simp [hu] at hc; subst hc; exact .v u)
          obtain ⟨arr', hf, hva, hoa⟩ := fill_sound (fun j => some (j * sz, sz)) ps ((parts.map (fun (q : Nat × Operand) => (q.1, a.eval q.2))).toList) (z.cells.toList.map .v) z.cells cs hv0
            (fun u hu => by simpa using (List.all_eq_true.1 hone) u hu) (by simp [hl]) (fun j p hp => by
              obtain ⟨q, hq, hqf⟩ := hget j p hp
              split at hqf <;> simp at hqf
              rename_i pq xa hpq hxa
              subst hqf
              refine ⟨(q.1, a.eval q.2), by simp [hq], ?_, opV_sound hs hxa⟩
              simp only [List.getElem?_map, Option.map_eq_some_iff] at hpq
              obtain ⟨k, hk, rfl⟩ := hpq
              obtain ⟨_, hk2⟩ := List.getElem?_eq_some_iff.1 hk
              simp at hk2
              subst hk2; rfl) hcs
          refine ⟨.agg arr', run_v ?_, ?_⟩
          · simp only [Instr.build, Sem.run_bind, hz1, run_underlying ht, szT_run hsz, Result.andThen_ok]
            have hf' : Instr.fill (fun j => some (j * sz, sz)) z.cells (parts.map fun (x : Nat × Operand) => match x with | (i, x) => (i, a.eval x)).toList = some arr' := hf
            simp only [hf']
            rfl
          · have e : arr' = arr'.toList.toArray := by simp
            rw [e]
            exact .agg cs _ hva.1 hva.2 hoa
        · simp at h
      · simp at h
    · simp at h
  · -- call
    rename_i c
    obtain ⟨callee, args, argTypes⟩ := c
    simp only at h
    split at h
    · rename_i p t ts hargs hts
      have ha : args = #[p] := by apply Array.ext'; simpa using hargs
      have ht0 : argTypes[0]? = some t := by rw [← Array.getElem?_toList, hts]; rfl
      have go : ∀ {u}, (Builtin.len_ argTypes ty #[a.eval p]).run P w = .ok u w → (execOp a.eval ⟨dst, .call ⟨.builtin .len, args, argTypes⟩, ty, pos, after, guard⟩).run P w = .ok (.value u) w := by
        intro u hu
        subst ha
        simp [execOp, resolve, invoke, builtin, hu]
      split at h
      · rename_i xa ht hxa
        split at h <;> simp at h
        subst h
        have hv := opV_sound hs hxa
        exact ⟨_, go (by rw [hv.v_inv]; simp [Builtin.len_, ht0, run_underlying ht, goInt]), .v _⟩
      · rename_i e xa ht hxa
        have hv := opV_sound hs hxa
        split at h
        · simp at h
        · simp at h
        · rename_i hh1 hh2
          simp only [Option.map_eq_some_iff] at h
          obtain ⟨r, hr, rfl⟩ := h
          obtain ⟨u, hu, hru⟩ := lenA_sound (P := P) (w := w) hv hr (fun s e => hh1 s e) (fun m e => hh2 m e) ht argTypes ht0 ty
          exact ⟨u, go hu, hru⟩
      · rename_i kt et xa ht hxa
        have hv := opV_sound hs hxa
        split at h
        · rename_i id
          simp only [lenM] at h
          split at h <;> simp at h
          subst h
          rename_i es clock hob
          generalize hev : a.eval p = v at hv go
          cases hv with
          | mp _ l hl =>
            obtain ⟨_, l', ms, hl', hb, hent⟩ := hs.heap.obj _ _ hob
            rw [hl] at hl'; simp at hl'; subst hl'
            have hlen : ms.size = es.length := by have := hent.1; simpa using this
            exact ⟨_, go (by simp [Builtin.len_, ht0, run_underlying ht, getObj_map hb, goInt, hlen]), .v _⟩
        · simp at h; subst h
          exact ⟨_, go (by rw [hv.v_inv]; simp [Builtin.len_, ht0, run_underlying ht, goInt]), .v _⟩
        · simp at h
      · rename_i n e xa ht hxa
        simp at h; subst h
        exact ⟨_, go (by simp [Builtin.len_, ht0, run_underlying ht, goInt]), .v _⟩
      · simp at h
    · rename_i p q hargs
      have ha : args = #[p, q] := by apply Array.ext'; simpa using hargs
      subst ha
      split at h
      · rename_i xa ya hxa hya
        simp only [Option.map_eq_some_iff] at h
        obtain ⟨r, hr, rfl⟩ := h
        obtain ⟨u, hu, hru⟩ := max_sound (P := P) (w := w) (opV_sound hs hxa) (opV_sound hs hya) hr argTypes ty
        exact ⟨u, by simp [execOp, resolve, invoke, builtin, hu], hru⟩
      · simp at h
    · rename_i p q hargs
      have ha : args = #[p, q] := by apply Array.ext'; simpa using hargs
      subst ha
      split at h
      · rename_i xa ya hxa hya
        simp only [Option.map_eq_some_iff] at h
        obtain ⟨r, hr, rfl⟩ := h
        obtain ⟨u, hu, hru⟩ := min_sound (P := P) (w := w) (opV_sound hs hxa) (opV_sound hs hya) hr argTypes ty
        exact ⟨u, by simp [execOp, resolve, invoke, builtin, hu], hru⟩
      · simp at h
    · simp at h
  · simp at h
end
end Go.Mx
