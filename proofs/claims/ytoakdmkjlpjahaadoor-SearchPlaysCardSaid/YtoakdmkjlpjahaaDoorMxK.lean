/-
  The abstract machine: slices that are made, appended to, copied into; texts as bytes.
-/
import Derived.Test.YtoakdmkjlpjahaaDoorMxJ
import Derived.Deep.AppendSrc
namespace Go.Mx
open Go.RowKit
set_option linter.unusedVariables false
set_option linter.unusedSimpArgs false

/-- What a slice or a text holds: how many elements, and the cells. -/
def srcA (H : Hp) (sz : Nat) : AV → Option (Nat × List AV)
  | .v (.slice none 0 0) => some (0, [])
  | .v (.string s) => if sz = 1 then some (s.size, s.data.toList.map u8A) else none
  | .row _ n cs => if cs.length = n * sz then some (n, cs) else none
  | .sl id ver s off n => match H[id]? with
    | some (.cells v cs) => if v = ver ∧ s = sz ∧ off + n * sz ≤ cs.length then some (n, (cs.drop off).take (n * sz)) else none
    | _ => none
  | _ => none

/-- append: 'd' is what is appended to. -/
def appA (H : Hp) (sz bytes : Nat) (d s : AV) (k : AV → Hp → Prop) : Prop :=
  match srcA H sz s with
  | some (m, ys) => match d with
    | .v (.slice none 0 0) => if m = 0 then k d H else if m * bytes ≤ 140737488355328 ∧ m ≤ 4611686018427387904 then k (.sl H.length 0 sz 0 m) (H ++ [.cells 0 ys]) else False
    | .row true n cs => if cs.length = n * sz then (if m = 0 then k d H else if (n + m) * bytes ≤ 140737488355328 ∧ n + m ≤ 4611686018427387904 then k (.sl H.length 0 sz 0 (n + m)) (H ++ [.cells 0 (cs ++ ys)]) else False) else False
    | .sl id ver s' off n => match H[id]? with
      | some (.cells v cs) => if v = ver ∧ s' = sz ∧ off + n * sz ≤ cs.length ∧ (n + m) * bytes ≤ 140737488355328 ∧ n + m ≤ 4611686018427387904 then k (.sl id (ver + 1) sz 0 (n + m)) (H.set id (.cells (ver + 1) ((cs.drop off).take (n * sz) ++ ys))) else False
      | _ => False
    | _ => False
  | none => False

/-- copy. -/
def copyA (H : Hp) (sz : Nat) (d s : AV) (k : AV → Hp → Prop) : Prop :=
  match srcA H sz s with
  | some (m, ys) => match d with
    | .sl id ver s' off n => match H[id]? with
      | some (.cells v cs) => if v = ver ∧ s' = sz ∧ off + n * sz ≤ cs.length then k (.v (.int .i64 (min m n : Nat))) (H.set id (.cells ver (splice cs off (ys.take (min m n * sz))))) else False
      | _ => False
    | .row _ 0 _ => k (.v (.int .i64 0)) H
    | _ => False
  | none => False

/-- So many times. -/
def repeatL {α : Type} (n : Nat) (z : List α) : List α := (List.replicate n z).flatten
theorem repeatL_length {α : Type} (n : Nat) (z : List α) : (repeatL n z).length = n * z.length := by simp [repeatL]
theorem repeatL_succ {α : Type} (n : Nat) (z : List α) : repeatL (n + 1) z = z ++ repeatL n z := by simp [repeatL, List.replicate_succ]
theorem repeatL_get {α : Type} (n : Nat) (z : List α) (i : Nat) (h : i < n * z.length) : (repeatL n z)[i]? = z[i % z.length]? := by
  induction n generalizing i with
  | zero => simp at h
  | succ n ih =>
    rw [repeatL_succ]
    rcases Nat.lt_or_ge i z.length with h1 | h1
    · rw [List.getElem?_append_left h1, Nat.mod_eq_of_lt h1]
    · rw [List.getElem?_append_right h1, ih _ (by rw [Nat.succ_mul] at h; omega), Nat.mod_eq_sub_mod h1]
@[simp] theorem repeatL_one {α : Type} (n : Nat) (z : α) : repeatL n [z] = List.replicate n z := by
  induction n with
  | zero => rfl
  | succ n ih => rw [repeatL_succ, ih]; rfl

def zerosT (P : Program) (t : TypeId) : Option (List AV) := match P.info? t with
  | some i => match i.zero with
    | some z => if z.cells.toList.all Value.oneCell' = true then some (z.cells.toList.map .v) else none
    | none => none
  | none => none

/-- make([]T, len, cap) ('z': an element's zero). -/
def makeA (H : Hp) (bytes : Nat) (z : List AV) (l c : AV) (k : AV → Hp → Prop) : Prop :=
  match l, c with
  | .v (.int _ l), .v (.int _ c) => if 0 ≤ l ∧ l ≤ c ∧ c ≤ 4611686018427387904 ∧ bytes * c.toNat ≤ 140737488355328 then k (.sl H.length 0 z.length 0 l.toNat) (H ++ [.cells 0 (repeatL l.toNat z)]) else False
  | _, _ => False

section
variable {P : Program} {N : Nat} {fr : Fr} {H : Hp} {ρ : Rho} {I : Imm} {β : Nat → Option Nat} {a : Act} {w w' : World}

theorem zerosT_spec {t : TypeId} {zs : List AV} (h : zerosT P t = some zs) : ∃ i z, P.info? t = some i ∧ i.zero = some z ∧ zs = z.cells.toList.map .v ∧ ∀ u ∈ z.cells.toList, u.oneCell' = true := by
  unfold zerosT at h
  split at h <;> (first | (exfalso; simp at h; done) | skip)
  rename_i i hi
  split at h <;> (first | (exfalso; simp at h; done) | skip)
  rename_i z hz
  split at h <;> simp at h
  rename_i hall
  exact ⟨i, z, hi, hz, h.symm, List.all_eq_true.1 hall⟩
theorem vrs_lit (us : List Value) : VRs ρ I (us.map .v) us := VRs.of_get (by simp) (fun i c u hc hu => by simp [hu] at hc; subst hc; exact .v u)

/-- What a heap-changing operation must show, told by the heap alone. -/
def DoesH (ρ : Rho) (I : Imm) (H : Hp) (w w' : World) (u : Value) (k : AV → Hp → Prop) : Prop :=
  ∃ x H' ρ' I', Mv ρ I H w ρ' I' H' w' ∧ VR ρ' I' x u ∧ k x H'

theorem src_sound (hs : StH ρ I H w) {sz : Nat} {tx : TypeId} {x : AV} {v : Value} {m : Nat} {ys : List AV} (hk : (∃ e', P.underlying tx = some (.slice e')) ∧ (∀ s, x ≠ .v (.string s)) ∨ P.underlying tx = some .string ∧ ∃ s, x = .v (.string s))
    (hx : VR ρ I x v) (h : srcA H sz x = some (m, ys)) : ∃ us, Src P sz tx v m us w ∧ VRs ρ I ys us ∧ ∀ m', m' ≤ m → (Builtin.firstCells sz m' v).run P w = .ok (us.take (m' * sz)).toArray w := by
  unfold srcA at h
  split at h
  · simp at h; obtain ⟨rfl, rfl⟩ := h
    rcases hk with ⟨⟨e', hk⟩, _⟩ | ⟨_, s, hk⟩
    · cases hx; exact ⟨[], Src.ofNil w hk 0, VRs.nil, fun m' hm => by simp [Builtin.firstCells]⟩
    · simp at hk
  · rename_i s
    split at h <;> simp at h
    obtain ⟨rfl, rfl⟩ := h
    rename_i hsz; subst hsz
    rcases hk with ⟨_, hk⟩ | ⟨hk, _⟩
    · exact absurd rfl (hk s)
    · cases hx
      exact ⟨byteCells s, Src.ofString w hk s, VRs.of_get (by simp [byteCells]) (fun i c u hc hu => by
        simp only [byteCells, List.getElem?_map, Option.map_eq_some_iff] at hc hu
        obtain ⟨b, hb, rfl⟩ := hc
        obtain ⟨b', hb', rfl⟩ := hu
        rw [hb] at hb'; simp at hb'; subst hb'
        exact .v _), fun m' hm => by
          simp only [Builtin.firstCells, Sem.run_pure]
          congr 1
          apply Array.ext'
          simp [byteCells, List.map_take, ByteArray.data_extract, List.extract_eq_take_drop]⟩
  · rename_i xx n cs
    split at h <;> simp at h
    obtain ⟨rfl, rfl⟩ := h
    rename_i hl
    rcases hk with ⟨⟨e', hk⟩, _⟩ | ⟨_, s, hk⟩
    · cases hx with
      | row _ _ _ us ad cap h1 h2 h3 h4 h5 h6 =>
        rcases h3 with ⟨rfl, rfl⟩ | ⟨ad', rfl, hrd⟩
        · have : cs = [] := by simpa using h1.symm
          subst this
          cases ad with
          | none => exact ⟨[], ⟨.inl ⟨e', hk⟩, fun _ => rfl, run_firstCells_none w sz 0 0 cap, run_firstCells_none w.drew sz 0 0 cap, by simp, fun _ h => by cases h⟩, VRs.nil, fun m' hm => by simp [Builtin.firstCells]⟩
          | some ad => exact ⟨[], Src.ofSlice w hk ad 0 cap [] (by simp) (fun j u hj => by simp at hj) (fun _ h => by cases h), VRs.nil, fun m' hm => by
            have : m' = 0 := by omega
            subst this; simp [Builtin.firstCells, loadCells, loadCellsFrom]⟩
        · have h0 : ad'.spot = none := hrd.1
          obtain ⟨blk, off, spot⟩ := ad'
          simp only at h0; subst h0
          exact ⟨us, Src.ofSlice w hk _ n cap us (by rw [h1, hl]) (fun j u hj => by rw [Addr.add_mid]; exact hrd.cell hs.imm hj) hrd.2.1, ⟨h1, h2⟩, fun m' hm => by
            have hmm : m' * sz ≤ n * sz := Nat.mul_le_mul_right _ hm
            exact run_firstCells_some w sz m' _ n cap _ (by rw [List.length_take, h1, hl]; omega) (fun j u hj => by
              rw [Addr.add_mid]; refine hrd.cell hs.imm ?_
              rw [List.getElem?_take] at hj
              split at hj
              · exact hj
              · simp at hj)⟩
    · simp at hk
  · rename_i id ver s off n
    split at h <;> simp at h
    rename_i v' cs hob
    obtain ⟨⟨rfl, rfl, hle⟩, rfl, rfl⟩ := h
    rcases hk with ⟨⟨e', hk⟩, _⟩ | ⟨_, s, hk⟩
    · cases hx with
      | sl _ _ _ _ _ l cap hl hn hcap hmx =>
        obtain ⟨_, l', hl', hcell⟩ := hs.obj _ _ hob
        rw [hl] at hl'; simp at hl'; subst hl'
        obtain ⟨us, hv, ho, hc⟩ := hcell.list
        have hcc : ∀ (j : Nat) (u : Value), ((us.drop off).take (n * s))[j]? = some u → w.cell? ((⟨l.blk, l.base + off, none⟩ : Addr).add j) = some u := by
          intro j u hj
          rw [Addr.add_mid, Nat.add_assoc]
          refine hc _ _ ?_
          rw [List.getElem?_take] at hj
          split at hj
          · rwa [List.getElem?_drop] at hj
          · simp at hj
        have hlen : ((us.drop off).take (n * s)).length = n * s := by simp [hv.1]; omega
        refine ⟨(us.drop off).take (n * s), Src.ofSlice w hk _ n cap _ hlen hcc (fun u hu => ho u (List.mem_of_mem_drop (List.mem_of_mem_take hu))), (hv.drop off).take _, fun m' hm => ?_⟩
        have hmm : m' * s ≤ n * s := Nat.mul_le_mul_right _ hm
        exact run_firstCells_some w s m' _ n cap _ (by rw [List.length_take, hlen]; omega) (fun j u hj => by
          refine hcc _ _ ?_
          rw [List.getElem?_take] at hj
          split at hj
          · exact hj
          · simp at hj)
    · simp at hk
  · simp at h

theorem zeroCells_one {z : Array Value} {n : Nat} (h : ∀ u ∈ z.toList, u.oneCell' = true) : ∀ u ∈ (Builtin.zeroCells z n).toList, u.oneCell' = true := by
  intro u hu
  unfold Builtin.zeroCells at hu
  simp only [Array.toList_map, List.mem_map, Array.mem_toList_iff] at hu
  obtain ⟨i, hi, rfl⟩ := hu
  rcases Nat.eq_zero_or_pos z.size with h0 | h0
  · simp [h0] at hi
  · have hlt : i % z.size < z.size := Nat.mod_lt _ h0
    rw [getElem!_pos z (i % z.size) hlt]
    exact h _ (by simp)

theorem Rho.set_self (ρ : Rho) (id ver : Nat) (l : Loc) : (ρ.set id ver l) id ver = some l := by unfold Rho.set; rw [if_pos ⟨rfl, rfl⟩]
/-- A new row behind a draw: a new object. -/
theorem newRow_does (hs : StH ρ I H w) {e : TypeId} {z : Value} {cs : List AV} {us : List Value} {sz M : Nat} {k : AV → Hp → Prop} (hv : VRs ρ I cs us) (ho : ∀ u ∈ us, u.oneCell' = true) (hz : ∀ u ∈ z.cells.toList, u.oneCell' = true)
    (hzsz : z.cells.size = sz) (hl : us.length = M * sz) (hM : M ≤ 4611686018427387904) (old : Nat) (hk : k (.sl H.length 0 sz 0 M) (H ++ [.cells 0 cs])) :
    DoesH ρ I H w (w.drew.alloc (.cells (us.toArray ++ Builtin.zeroCells z.cells (grownCap w M old e - M)) e)) (.slice (some ⟨w.heap.size, 0, none⟩) M (grownCap w M old e)) k := by
  have hm1 := Mv.junk hs (Gw.drew w)
  have hge := grownCap_ge w M old e
  have hsz : (us.toArray ++ Builtin.zeroCells z.cells (grownCap w M old e - M)).size = grownCap w M old e * sz := by
    simp only [Array.size_append, List.size_toArray, size_zeroCells, hzsz, hl, ← Nat.add_mul]
    congr 1; omega
  have hm2 := Mv.newCells (T := e) (arr := us.toArray ++ Builtin.zeroCells z.cells (grownCap w M old e - M)) hm1.st (cs := cs) (by
      have : (us.toArray ++ Builtin.zeroCells z.cells (grownCap w M old e - M)).toList.take cs.length = us := by
        rw [Array.toList_append, List.take_append_of_le_length (by simp [hv.1])]
        simp [← hv.1]
      rw [this]; exact hv) (by simp [← hv.1]) (by
      intro u hu
      rw [Array.toList_append] at hu
      rcases List.mem_append.1 hu with hu | hu
      · exact ho u (by simpa using hu)
      · exact zeroCells_one hz u hu)
  refine ⟨_, _, _, I, hm1.trans hm2, ?_, hk⟩
  exact .sl H.length 0 sz 0 M _ _ (Rho.set_self _ _ _ _) hge (by show 0 + 0 + grownCap w M old e * sz ≤ (us.toArray ++ Builtin.zeroCells z.cells (grownCap w M old e - M)).size; rw [hsz]; omega) (grownCap_le_maxLen w M old e (Nat.le_trans hM (by decide)))

theorem app_sound (hs : StH ρ I H w) {t tx ty e : TypeId} {i : TypeInfo} {z : Value} {sz : Nat} {d x : AV} {vd vx : Value} {k : AV → Hp → Prop} (ht : P.underlying t = some (.slice e))
    (hk : (∃ e', P.underlying tx = some (.slice e')) ∧ (∀ s, x ≠ .v (.string s)) ∨ P.underlying tx = some .string ∧ ∃ s, x = .v (.string s))
    (hi : P.info? e = some i) (hsz : i.size = sz) (hz : i.zero = some z) (hzsz : z.cells.size = sz) (hzo : ∀ u ∈ z.cells.toList, u.oneCell' = true)
    (hd : VR ρ I d vd) (hx : VR ρ I x vx) (h : appA H sz i.bytes d x k) :
    ∃ u w', (Builtin.append_ #[t, tx] ty #[vd, vx]).run P w = .ok u w' ∧ DoesH ρ I H w w' u k := by
  unfold appA at h
  split at h <;> (first | exact h.elim | skip)
  rename_i m ys hsrc
  obtain ⟨us, hS, hys, _⟩ := src_sound (P := P) hs hk hx hsrc
  subst hsz
  have empty : m = 0 → ∀ (base : Option Addr) (n cap : Nat), n ≤ cap → (Builtin.append_ #[t, tx] ty #[.slice base n cap, vx]).run P w = .ok (.slice base n cap) w := by
    intro h0 base n cap hle
    subst h0
    have hus : us = [] := by have := hS.newsLen; simpa using this
    subst hus
    have hc := hS.cells
    rcases hS.kind with ⟨e', hk'⟩ | hk' <;> cases base <;> simp [Builtin.append_, run_underlying ht, run_underlying hk', sizeOf, typeInfo, hi, hS.len, hc, hle, storeCells]
  split at h
  · cases hd
    split at h
    · rename_i h0
      exact ⟨_, w, empty h0 none 0 0 (Nat.le_refl _), _, H, ρ, I, Mv.refl hs, .v _, h⟩
    · split at h <;> (first | exact h.elim | skip)
      rename_i h0 hb
      have hr := run_append_grow_src (P := P) w t tx ty e i z ht hi hz none 0 0 [] (by simp [Builtin.firstCells]) vx m us hS (by omega) (by omega) (growslice_fits (by omega) (by simpa using hb.1))
      simp only [Nat.zero_add, List.nil_append] at hr
      exact ⟨_, _, hr, newRow_does hs hys hS.one hzo hzsz hS.newsLen hb.2 0 h⟩
  · rename_i n cs
    split at h <;> (first | exact h.elim | skip)
    rename_i hl
    cases hd with
    | row _ _ _ vs ad cap h1 h2 h3 h4 h5 h6 =>
      have hcap : cap = n := h6 rfl
      subst hcap
      split at h
      · rename_i h0
        exact ⟨_, w, empty h0 ad cap cap (Nat.le_refl _), _, H, ρ, I, Mv.refl hs, .row true cap cs vs ad cap h1 h2 h3 h4 h5 h6, h⟩
      · split at h <;> (first | exact h.elim | skip)
        rename_i h0 hb
        have hv : VRs ρ I cs vs := ⟨h1, h2⟩
        have hvo : ∀ u ∈ vs, u.oneCell' = true := by
          rcases h3 with ⟨_, rfl⟩ | ⟨ad', _, hrd⟩
          · intro u hu; cases hu
          · exact hrd.2.1
        have hold : (Builtin.firstCells i.size cap (.slice ad cap cap)).run P w.drew = .ok vs.toArray w.drew := by
          rcases h3 with ⟨rfl, rfl⟩ | ⟨ad', rfl, hrd⟩
          · cases ad <;> simp [Builtin.firstCells, loadCells, loadCellsFrom]
          · have h0 : ad'.spot = none := hrd.1
            obtain ⟨blk, off, spot⟩ := ad'
            simp only at h0; subst h0
            exact run_firstCells_some w.drew i.size cap _ cap cap vs (by rw [h1, hl]) (fun j u hj => by rw [Addr.add_mid]; simpa using hrd.cell hs.imm hj)
        have hr := run_append_grow_src (P := P) w t tx ty e i z ht hi hz ad cap cap vs hold vx m us hS (by omega) (by omega) (growslice_fits (by omega) hb.1)
        exact ⟨_, _, hr, newRow_does hs (hv.append hys) (fun u hu => by rcases List.mem_append.1 hu with hu | hu; exact hvo u hu; exact hS.one u hu) hzo hzsz (by rw [List.length_append, h1, hl, hS.newsLen, Nat.add_mul]) hb.2 cap h⟩
  · rename_i id ver s' off n
    split at h <;> (first | exact h.elim | skip)
    rename_i v' cs hob
    split at h <;> (first | exact h.elim | skip)
    rename_i hc
    obtain ⟨rfl, rfl, hle, hb1, hb2⟩ := hc
    cases hd with
    | sl _ _ _ _ _ l cap hl hn hcap hmx =>
      obtain ⟨hver, l', hl', hcell⟩ := hs.obj _ _ hob
      rw [hl] at hl'; simp at hl'; subst hl'
      obtain ⟨vs, hv, ho, hcl⟩ := hcell.list
      have hvn := (hv.drop off).take (n * i.size)
      have hvl : ((vs.drop off).take (n * i.size)).length = n * i.size := by simp [hv.1]; omega
      have hvo : ∀ u ∈ (vs.drop off).take (n * i.size), u.oneCell' = true := fun u hu => ho u (List.mem_of_mem_drop (List.mem_of_mem_take hu))
      have hcells : ∀ (j : Nat) (u : Value), ((vs.drop off).take (n * i.size))[j]? = some u → w.cell? ((⟨l.blk, l.base + off, none⟩ : Addr).add j) = some u := by
        intro j u hj
        rw [Addr.add_mid, Nat.add_assoc]
        refine hcl _ _ ?_
        rw [List.getElem?_take] at hj
        split at hj
        · rwa [List.getElem?_drop] at hj
        · simp at hj
      by_cases hroom : n + m ≤ cap
      · -- in its place
        obtain ⟨arr, T, hh, hsz, hcl3, hcl4⟩ := hcell
        have hmul : n * i.size + m * i.size ≤ cap * i.size := by rw [← Nat.add_mul]; exact Nat.mul_le_mul_right _ hroom
        have hrun := run_storeCells_at P l.blk (l.base + off + n * i.size) T us 0 arr w hh (by rw [hS.newsLen]; omega) hS.one
        have hrun' : (Builtin.append_ #[t, tx] ty #[.slice (some ⟨l.blk, l.base + off, none⟩) n cap, vx]).run P w = .ok (.slice (some ⟨l.blk, l.base + off, none⟩) (n + m) cap) (w.setRow l.blk (arr.toList.take (l.base + off + n * i.size + 0) ++ us ++ arr.toList.drop (l.base + off + n * i.size + 0 + us.length)).toArray) := by
          rcases hS.kind with ⟨e', hk'⟩ | hk' <;> simp [Builtin.append_, run_underlying ht, run_underlying hk', sizeOf, typeInfo, hi, hS.len, hroom, hS.cells, Addr.add_mid, hrun]
        have hsp : (arr.toList.take (l.base + off + n * i.size + 0) ++ us ++ arr.toList.drop (l.base + off + n * i.size + 0 + us.length)) = splice arr.toList (l.base + off + n * i.size) us := rfl
        rw [hsp] at hrun'
        have hal : arr.toList.length = l.size := by simpa using hsz
        have hfit : l.base + off + n * i.size + us.length ≤ arr.toList.length := by rw [hal, hS.newsLen]; omega
        refine ⟨_, _, hrun', .sl id (v' + 1) i.size 0 (n + m), _, ρ.set id (v' + 1) ⟨l.blk, l.base + off, l.size⟩, I, ?_, ?_, h⟩
        · refine Mv.write hs hob (by simp [blkOf, hl]) (Gw.setRow w l.blk _) (Ext.set (hver _ (Nat.lt_succ_self _))) (fun id' v hne => by simp [Rho.set, hne]) (b1 := l.blk) (.inl rfl) ⟨fun v hv' => ?_, ⟨l.blk, l.base + off, l.size⟩, by simp [Rho.set], _, T, setRow_heap w l.blk arr _ T (0, 0) hh, ?_, ?_, fun j c hj => ?_⟩ (by simp [blkOf, Rho.set])
          · unfold Rho.set
            rw [if_neg (by omega)]
            exact hver v (by omega)
          · rw [List.size_toArray, splice_length hfit]; exact hal
          · simp only [List.length_append, List.length_take, List.length_drop, hys.1.symm, hS.newsLen]
            omega
          · have hext : Ext ρ I (ρ.set id (v' + 1) ⟨l.blk, l.base + off, l.size⟩) I := Ext.set (hver _ (Nat.lt_succ_self _))
            rw [List.getElem?_toArray, splice_get hfit]
            have hcsl : ((cs.drop off).take (n * i.size)).length = n * i.size := by rw [← hvn.1, hvl]
            rcases Nat.lt_or_ge j (n * i.size) with hj1 | hj1
            · rw [List.getElem?_append_left (by rw [hcsl]; exact hj1)] at hj
              rw [if_neg (by simp; omega)]
              rw [List.getElem?_take, if_pos hj1, List.getElem?_drop] at hj
              obtain ⟨u, hu, hvr, huo⟩ := hcl4 _ _ hj
              exact ⟨u, by rw [Array.getElem?_toList]; rw [← hu]; congr 1; simp; omega, hvr.ext hext, huo⟩
            · rw [List.getElem?_append_right (by rw [hcsl]; exact hj1), hcsl] at hj
              obtain ⟨u, hu, hvr⟩ := hys.get hj
              have hlt := (List.getElem?_eq_some_iff.1 hu).1
              refine ⟨u, ?_, hvr.ext hext, hS.one u (List.mem_of_getElem? hu)⟩
              rw [if_pos (by simp; omega), ← hu]
              congr 1; simp; omega
        · exact .sl id (v' + 1) i.size 0 (n + m) ⟨l.blk, l.base + off, l.size⟩ cap (by simp [Rho.set]) hroom (by simp; omega) hmx
      · -- a new row
        have hr := run_append_grow_src (P := P) w t tx ty e i z ht hi hz (some ⟨l.blk, l.base + off, none⟩) n cap _ (run_firstCells_some w.drew i.size n _ n cap _ hvl (fun j u hj => by simpa using hcells j u hj)) vx m us hS (by omega) (by omega) (growslice_fits (by omega) hb1)
        have hm1 := Mv.junk hs (Gw.drew w)
        have hge := grownCap_ge w (n + m) cap e
        have hext : Ext ρ I (ρ.set id (v' + 1) ⟨w.heap.size, 0, (((vs.drop off).take (n * i.size) ++ us).toArray ++ Builtin.zeroCells z.cells (grownCap w (n + m) cap e - (n + m))).size⟩) I := Ext.set (hver _ (Nat.lt_succ_self _))
        refine ⟨_, _, hr, .sl id (v' + 1) i.size 0 (n + m), _, ρ.set id (v' + 1) ⟨w.heap.size, 0, (((vs.drop off).take (n * i.size) ++ us).toArray ++ Builtin.zeroCells z.cells (grownCap w (n + m) cap e - (n + m))).size⟩, I, ?_, ?_, h⟩
        · refine Mv.write (b0 := l.blk) hs hob (by simp [blkOf, hl]) (((Gw.drew w).trans (Gw.alloc w.drew _)).weaken) hext (fun id' v hne => by simp [Rho.set, hne]) (b1 := w.heap.size) (.inr (Nat.le_refl _)) ⟨fun v hv' => ?_, _, Rho.set_self _ _ _ _, _, e, heap_alloc_new w.drew _, rfl, ?_, fun j c hj => ?_⟩ (by simp [blkOf, Rho.set_self])
          · unfold Rho.set
            rw [if_neg (by omega)]
            exact hver v (by omega)
          · have e1 := (hvn.append hys).1
            simp only [Array.size_append, List.size_toArray, e1]
            omega
          · obtain ⟨u, hu, hvr⟩ := (hvn.append hys).get hj
            have hlt := (List.getElem?_eq_some_iff.1 hu).1
            refine ⟨u, ?_, hvr.ext hext, ?_⟩
            · rw [Nat.zero_add, Array.getElem?_append_left (by rw [List.size_toArray]; exact hlt), List.getElem?_toArray]; exact hu
            · rcases List.mem_append.1 (List.mem_of_getElem? hu) with hu | hu
              · exact hvo u hu
              · exact hS.one u hu
        · refine .sl id (v' + 1) i.size 0 (n + m) _ _ (Rho.set_self _ _ _ _) hge ?_ (grownCap_le_maxLen w (n + m) cap e (Nat.le_trans hb2 (by decide)))
          simp only [Array.size_append, List.size_toArray, size_zeroCells, List.length_append, hvl, hS.newsLen, hzsz, ← Nat.add_mul]
          rw [show n + m + (grownCap w (n + m) cap e - (n + m)) = grownCap w (n + m) cap e from by omega]
          omega
  · exact h.elim

end
end Go.Mx
