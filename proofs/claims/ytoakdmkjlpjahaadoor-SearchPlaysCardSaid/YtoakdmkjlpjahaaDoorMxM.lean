/-
  The abstract machine: one operation that is no call.
-/
import Derived.Test.YtoakdmkjlpjahaaDoorMxLa
namespace Go.Mx
open Go.RowKit
set_option linter.unusedVariables false
set_option linter.unusedSimpArgs false

/-- What an operation yields goes into its slot. -/
def putK (N : Nat) (d : Option Nat) (x : SV) (fr : Fr) (k : Fr → Prop) : Prop :=
  match d with
  | none => k fr
  | some t => if t < N then k { fr with slots := (t, x) :: fr.slots } else False

/-- A new variable: a local box, or an object. -/
def newK (N : Nat) (loc : Bool) (d : Option Nat) (cs : List AV) (fr : Fr) (H : Hp) (k : Fr → Hp → Prop) : Prop :=
  match d with
  | none => False
  | some t => if t < N then (match loc with
    | true => k { (fr.newBox t cs) with slots := (t, .bp t 0) :: (fr.newBox t cs).slots } H
    | false => k { fr with slots := (t, .av (.ptr H.length 0 0)) :: fr.slots } (H ++ [.cells 0 cs])) else False

def isStrTy (P : Program) (t : TypeId) : Option Bool := match P.underlying t with
  | some .string => some true
  | some (.slice _) => some false
  | _ => none

/-- The texts and the slices that are appended, copied: by their type. -/
def srcTy (P : Program) (t : TypeId) (x : AV) : Bool := match isStrTy P t, x with
  | some true, .v (.string _) => true
  | some false, .v (.string _) => false
  | some false, _ => true
  | _, _ => false

/-- The steps of a plan (for a region that draws its order): a quiet operation; another one, with the quiet ones that are looked at again behind it, and those that stand ahead of it. -/
inductive Stp where
  | q (i : Nat)
  | s (i : Nat) (chk : List Nat) (bef : List Nat)

/-- What is chosen of a function: whose boxes are local; whose literals of slices are objects. -/
structure Cfg where
  loc : List Nat
  own : List Nat
  plans : List (Nat × List Stp) := []

/-- One operation that is no call. -/
def effA (P : Program) (N : Nat) (cf : Cfg) (fr : Fr) (H : Hp) (o : Oper) (k : Fr → Hp → Prop) : Prop :=
  match o.op with
  | .alloc t => match zerosT P t with
    | some zs => newK N (cf.loc.contains (o.dst.getD 0)) o.dst zs fr H k
    | none => False
  | .box t x => match opV fr x with
    | some a => if okPart a = true then newK N (cf.loc.contains (o.dst.getD 0)) o.dst (cellsA a) fr H k else False
    | none => False
  | .store t ad x => match szT P t, opS fr ad, opV fr x with
    | some s, some a, some y => storeS fr H s a y (fun fr' H' => putK N o.dst .un fr' (fun fr'' => k fr'' H'))
    | _, _, _ => False
  | .buildSlice t len parts => match P.underlying t with
    | some (.slice e) => match zerosT P e, szT P e, mapO (fun (p : Nat × Operand) => opV fr p.2) parts.toList with
      | some zs, some s, some ys => if zs.length = s ∧ len * s ≤ 16777216 ∧ len ≤ 16777216 then
          bindO (fillA (repeatL len zs) ((parts.toList.zip ys).map fun q => (q.1.1 * s, s, q.2))) fun cs => match cf.own.contains (o.dst.getD 0) with
          | true => putK N o.dst (.av (.sl H.length 0 s 0 len)) fr (fun fr' => k fr' (H ++ [.cells 0 cs]))
          | false => putK N o.dst (.av (.row true len cs)) fr (fun fr' => k fr' H) else False
      | _, _, _ => False
    | _ => False
  | .makeSlice t l c => match P.underlying t with
    | some (.slice e) => match zerosT P e, szT P e, (P.info? e).map (·.bytes), opV fr l, opV fr c with
      | some zs, some s, some b, some x, some y => if s = zs.length then makeA H b zs x y (fun v H' => putK N o.dst (.av v) fr (fun fr' => k fr' H')) else False
      | _, _, _, _, _ => False
    | _ => False
  | .call { callee := .builtin .append, args := ⟨[d, s]⟩, argTypes := ⟨[t, tx]⟩ } => match P.underlying t with
    | some (.slice e) => match zerosT P e, szT P e, (P.info? e).map (·.bytes), opV fr d, opV fr s with
      | some zs, some sz, some b, some x, some y => if zs.length = sz ∧ srcTy P tx y = true then appA H sz b x y (fun v H' => putK N o.dst (.av v) fr (fun fr' => k fr' H')) else False
      | _, _, _, _, _ => False
    | _ => False
  | .call { callee := .builtin .copy, args := ⟨[d, s]⟩, argTypes := ⟨[t, tx]⟩ } => match P.underlying t with
    | some (.slice e) => match szT P e, opV fr d, opV fr s with
      | some sz, some x, some y => if srcTy P tx y = true then copyA H sz x y (fun v H' => putK N o.dst (.av v) fr (fun fr' => k fr' H')) else False
      | _, _, _ => False
    | _ => False
  | .convert src dst x => match P.underlying src, P.underlying dst, opV fr x with
    | some .string, some (.slice e), some (.v (.string s)) => match P.underlying e with
      | some (.int .u8) => putK N o.dst (.av (.row false s.size (s.data.toList.map u8A))) fr (fun fr' => k fr' H)
      | _ => False
    | some (.slice _), some (.slice e), some (.sl id ver sz off n) => match P.underlying e, H[id]? with
      | some (.int .u8), some (.cells v cs) => if src = dst ∧ v = ver ∧ off = 0 ∧ n = cs.length then putK N o.dst (.av (.row false n cs)) fr (fun fr' => k fr' (H.set id .dead)) else False
      | _, _ => False
    | _, _, _ => match valS P fr H o with
      | some x => putK N o.dst x fr (fun fr' => k fr' H)
      | none => False
  | .makeMap t none => match P.underlying t with
    | some (.map _ _) => putK N o.dst (.av (.mp H.length)) fr (fun fr' => k fr' (H ++ [.map [] 0]))
    | _ => False
  | .makeMap t (some x) => match P.underlying t, opV fr x with
    | some (.map _ _), some (.v (.int _ _)) => putK N o.dst (.av (.mp H.length)) fr (fun fr' => k fr' (H ++ [.map [] 0]))
    | _, _ => False
  | .mapUpdate t m i x => match opV fr m, opV fr i, opV fr x with
    | some a, some b, some c => updA P H t a b c (fun H' => putK N o.dst .un fr (fun fr' => k fr' H'))
    | _, _, _ => False
  | .call { callee := .builtin .delete, args := ⟨[m, i]⟩, argTypes := ⟨[t, ti]⟩ } => match opV fr m, opV fr i with
    | some a, some b => delA P H t a b (fun H' => putK N o.dst (.av (.tup [])) fr (fun fr' => k fr' H'))
    | _, _ => False
  | .call { callee := .builtin .clear, args := ⟨[m]⟩, argTypes := ⟨[t]⟩ } => match P.underlying t, opV fr m with
    | some (.map _ _), some a => clearA H a (fun H' => putK N o.dst (.av (.tup [])) fr (fun fr' => k fr' H'))
    | _, _ => False
  | .range t x => match opV fr x with
    | some a => rangeA P H t a (fun v H' => putK N o.dst (.av v) fr (fun fr' => k fr' H'))
    | none => False
  | .next x isStr => match opV fr x with
    | some a => nextA H a isStr (fun v H' => putK N o.dst (.av v) fr (fun fr' => k fr' H'))
    | none => False
  | .entry x => match opV fr x with
    | some a => match entryA H a with
      | some v => putK N o.dst (.av v) fr (fun fr' => k fr' H)
      | none => False
    | none => False
  | _ => match valS P fr H o with
    | some x => putK N o.dst x fr (fun fr' => k fr' H)
    | none => False

section
variable {P : Program} {N : Nat} {fr : Fr} {H : Hp} {ρ : Rho} {I : Imm} {β : Nat → Option Nat} {a : Act} {w w' : World} {o : Oper} {k : Fr → Hp → Prop} {cf : Cfg}

theorem Sim.put (hs : Sim N ρ I β fr H a w) {t : Nat} {x : SV} {u : Value} (ht : t < N) (hx : SVR ρ I β x u) : Sim N ρ I β { fr with slots := (t, x) :: fr.slots } H (a.put (some t) u) w where
  heap := hs.heap
  defers := hs.defers
  size := by simp [Act.put, hs.size]
  slot s y hy := by
    simp only [look] at hy
    simp only [Act.put, Array.getD_eq_getD_getElem?]
    split at hy
    · rename_i e; subst e
      simp at hy; subst hy
      rw [Array.getElem?_setIfInBounds_self_of_lt (by rw [hs.size]; exact ht)]
      exact hx
    · rename_i e
      rw [Array.getElem?_setIfInBounds_ne e]
      have := hs.slot s y hy
      rwa [Array.getD_eq_getD_getElem?] at this
  box := hs.box
  binj := hs.binj

theorem Sim.putK (hs : Sim N ρ I β fr H a w) {d : Option Nat} {x : SV} {u : Value} {k : Fr → Prop} (hx : SVR ρ I β x u) (h : putK N d x fr k) :
    ∃ fr', Sim N ρ I β fr' H (a.put d u) w ∧ OwnF ρ β fr' H = OwnF ρ β fr H ∧ k fr' := by
  unfold Mx.putK at h
  split at h
  · exact ⟨fr, hs, rfl, h⟩
  · split at h <;> (first | exact h.elim | skip)
    rename_i t ht
    exact ⟨_, hs.put ht hx, rfl, h⟩

/-- Out of what a run yields. -/
theorem Opp.of_run (h : ∀ ρ I β a w, Sim N ρ I β fr H a w → ∃ u w', ((execOp a.eval o).run P w = .ok (.value u) w' ∨ (execOp a.eval o).run P w = .ok .skip w' ∧ u = undef) ∧
      ∃ fr' H' ρ' I' β' x, MvF (OwnF ρ β fr H) ρ I w (OwnF ρ' β' fr' H') ρ' I' w' ∧ Sim N ρ' I' β' fr' H' a w' ∧ SVR ρ' I' β' x u ∧ Mx.putK N o.dst x fr' (fun fr'' => k fr'' H')) : Opp P N o k fr H := by
  intro ρ I β a w hs Q
  obtain ⟨u, w', hr, fr', H', ρ', I', β', x, h1, h2, h3, h4⟩ := h ρ I β a w hs
  obtain ⟨fr'', h5, h6, h7⟩ := h2.putK h3 h4
  have goal : ∃ fr1 H1 ρ1 I1 β1, MvF (OwnF ρ β fr H) ρ I w (OwnF ρ1 β1 fr1 H1) ρ1 I1 w' ∧ Sim N ρ1 I1 β1 fr1 H1 (a.put o.dst u) w' ∧ k fr1 H1 := ⟨fr'', H', ρ', I', β', by rw [h6]; exact h1, h5, h7⟩
  unfold Oper.wp
  rcases hr with hr | ⟨hr, rfl⟩
  · rw [hr]; exact goal
  · rw [hr]; exact goal

/-- Where the heap alone has moved. -/
theorem Opp.of_heap (h : ∀ ρ I β a w, Sim N ρ I β fr H a w → ∃ u w', (execOp a.eval o).run P w = .ok (.value u) w' ∧ DoesH ρ I H w w' u (fun v H' => Mx.putK N o.dst (.av v) fr (fun fr' => k fr' H'))) : Opp P N o k fr H := by
  refine Opp.of_run fun ρ I β a w hs => ?_
  obtain ⟨u, w', hr, x, H', ρ', I', hm, hv, hk⟩ := h ρ I β a w hs
  obtain ⟨h1, h2⟩ := hs.move hm
  exact ⟨u, w', .inl hr, fr, H', ρ', I', β, .av x, h2, h1, hv, hk⟩

theorem Opp.of_val (h : match valS P fr H o with | some x => Mx.putK N o.dst x fr (fun fr' => k fr' H) | none => False) : Opp P N o k fr H := by
  refine Opp.of_run fun ρ I β a w hs => ?_
  split at h <;> (first | exact h.elim | skip)
  rename_i x hx
  obtain ⟨u, hu, hv⟩ := valS_sound hs hx
  exact ⟨u, w, .inl hu, fr, H, ρ, I, β, x, MvF.refl _ _ _ _, hs, hv, h⟩

theorem newK_sound (hs : Sim N ρ I β fr H a w) {b : Bool} {d : Option Nat} {cs : List AV} {arr : Array Value} {T : TypeId} (hv : VRs ρ I cs arr.toList) (ho : ∀ u ∈ arr.toList, u.oneCell' = true) (h : newK N b d cs fr H k) :
    ∃ fr' H' ρ' I' β' x, MvF (OwnF ρ β fr H) ρ I w (OwnF ρ' β' fr' H') ρ' I' (w.alloc (.cells arr T)) ∧ Sim N ρ' I' β' fr' H' a (w.alloc (.cells arr T)) ∧ SVR ρ' I' β' x (.pointer (some ⟨w.heap.size, 0, none⟩)) ∧
      Mx.putK N d x fr' (fun fr'' => k fr'' H') := by
  unfold newK at h
  split at h <;> (first | exact h.elim | skip)
  rename_i t
  split at h <;> (first | exact h.elim | skip)
  rename_i ht
  split at h
  · obtain ⟨β', h1, h2, h3⟩ := hs.newBox t (T := T) hv ho
    exact ⟨_, H, ρ, I, β', .bp t 0, h2, h1, ⟨_, h3, rfl⟩, by simp only [Mx.putK]; rw [if_pos ht]; exact h⟩
  · have hm := Mv.newCells (T := T) hs.heap (cs := cs) (arr := arr) (by rw [← hv.1, List.take_length]; exact hv) (by have := hv.1; simp at this; omega) ho
    obtain ⟨h1, h2⟩ := hs.move hm
    exact ⟨fr, _, _, I, β, .av (.ptr H.length 0 0), h2, h1, .ptr H.length 0 0 _ (Rho.set_self _ _ _ _), by simp only [Mx.putK]; rw [if_pos ht]; exact h⟩

theorem srcTy_spec {t : TypeId} {x : AV} (h : srcTy P t x = true) : (∃ e', P.underlying t = some (.slice e')) ∧ (∀ s, x ≠ .v (.string s)) ∨ P.underlying t = some .string ∧ ∃ s, x = .v (.string s) := by
  unfold srcTy at h
  split at h
  · rename_i s hst; refine .inr ⟨?_, s, rfl⟩
    unfold isStrTy at hst; split at hst <;> simp at hst
    assumption
  · simp at h
  · rename_i x' hst hns
    refine .inl ⟨?_, fun s e => hns s e⟩
    unfold isStrTy at hst; split at hst <;> simp at hst
    rename_i e' he; exact ⟨e', he⟩
  · simp at h

/-- Marks on a block. -/
theorem Gw.freeze (w : World) (ad : Addr) (n : Nat) : Gw (some ad.block) w (w.freeze ad n) := by
  unfold World.freeze
  split
  · exact (Gw.refl w).weaken
  · refine ⟨rfl, rfl, rfl, by simp, fun b hb hn => ?_⟩
    simp only [Array.getElem?_modify]
    rw [if_neg (by intro e; exact hn (by rw [e]))]
theorem freeze_block {w : World} {b off n : Nat} {arr : Array Value} {T : TypeId} {fz : Nat × Nat} (h : w.heap[b]? = some (.cells arr T fz)) : ∃ fz', (w.freeze ⟨b, off, none⟩ n).heap[b]? = some (.cells arr T fz') := by
  unfold World.freeze
  split
  · exact ⟨fz, h⟩
  · simp only [Array.getElem?_modify, if_true, h, Option.map_some]
    obtain ⟨lo, hi⟩ := fz
    exact ⟨_, rfl⟩

theorem zeros_arr (z : Array Value) (n : Nat) : ((Array.range (n * z.size)).map fun j => (if n * z.size = 0 then (#[] : Array Value) else z)[j % (if n * z.size = 0 then (#[] : Array Value) else z).size]!).toList = repeatL n z.toList := by
  apply List.ext_getElem?
  intro j
  rcases Nat.lt_or_ge j (n * z.size) with hj | hj
  · have hp : 0 < z.size := by
      rcases Nat.eq_zero_or_pos z.size with h0 | h0
      · rw [h0] at hj; simp at hj
      · exact h0
    have hne : ¬ (n * z.size = 0) := by omega
    have hlt : j % z.size < z.size := Nat.mod_lt _ hp
    rw [repeatL_get _ _ _ (by simpa using hj), Array.getElem?_toList]
    simp only [hne, if_false, Array.getElem?_map, Array.getElem?_range, hj, if_true, Option.map_some, Array.length_toList, Array.getElem?_toList]
    rw [getElem!_pos z _ hlt, Array.getElem?_eq_getElem hlt]
  · rw [List.getElem?_eq_none (by simpa using hj), List.getElem?_eq_none (by rw [repeatL_length]; simpa using hj)]
theorem repeatL_map {α γ : Type} (f : α → γ) (n : Nat) (z : List α) : repeatL n (z.map f) = (repeatL n z).map f := by
  induction n with
  | zero => rfl
  | succ n ih => rw [repeatL_succ, repeatL_succ, List.map_append, ih]
theorem mem_repeatL {α : Type} {n : Nat} {z : List α} {x : α} (h : x ∈ repeatL n z) : x ∈ z := by
  induction n with
  | zero => simp [repeatL] at h
  | succ n ih => rw [repeatL_succ] at h; rcases List.mem_append.1 h with h | h; exact h; exact ih h

theorem fillA_length : ∀ {ps : List (Nat × Nat × AV)} {cells r : List AV}, fillA cells ps = some r → r.length = cells.length
  | [], cells, r, h => by simp [fillA] at h; subst h; rfl
  | (off, size, x) :: ps, cells, r, h => by
    simp only [fillA] at h
    split at h <;> (first | (exfalso; simp at h; done) | skip)
    rename_i hc
    rw [fillA_length h]
    simp; omega

theorem effA_sound (h : effA P N cf fr H o k) : Opp P N o k fr H := by
  obtain ⟨dst, op, ty, pos, after, guard⟩ := o
  unfold effA at h
  simp only at h
  split at h
  · -- alloc
    rename_i t
    split at h <;> (first | exact h.elim | skip)
    rename_i zs hz
    obtain ⟨i, z, hi, hzz, rfl, ho⟩ := zerosT_spec hz
    refine Opp.of_run fun ρ I β a w hs => ?_
    refine ⟨_, _, .inl (run_v (u := .pointer (some ⟨w.heap.size, 0, none⟩)) (w' := w.alloc (.cells z.cells t)) ?_), newK_sound hs (vrs_lit z.cells.toList) ho h⟩
    simp [Instr.alloc, zeroValue, typeInfo, hi, hzz, newVar, newRow]
  · -- box
    rename_i t x
    split at h <;> (first | exact h.elim | skip)
    rename_i xa hxa
    split at h <;> (first | exact h.elim | skip)
    rename_i hok
    refine Opp.of_run fun ρ I β a w hs => ?_
    obtain ⟨hv, ho⟩ := cells_vr (opV_sound hs hxa) hok
    refine ⟨_, _, .inl (run_v (u := .pointer (some ⟨w.heap.size, 0, none⟩)) (w' := w.alloc (.cells (a.eval x).cells t)) ?_), newK_sound hs hv ho h⟩
    rfl
  · -- store
    rename_i t ad x
    split at h <;> (first | exact h.elim | skip)
    rename_i s xa ya hz hxa hya
    refine Opp.of_run fun ρ I β a w hs => ?_
    obtain ⟨w', hr, fr', H', ρ', I', β', h1, h2, h3⟩ := storeS_sound (P := P) hs hz (opS_sound hs hxa) (opV_sound hs hya) h
    exact ⟨undef, w', .inr ⟨by simp [execOp, hr], rfl⟩, fr', H', ρ', I', β', .un, h1, h2, trivial, h3⟩
  · -- buildSlice
    rename_i t len parts
    split at h <;> (first | exact h.elim | skip)
    rename_i e ht
    split at h <;> (first | exact h.elim | skip)
    rename_i zs s ys hz hsz hys
    split at h <;> (first | exact h.elim | skip)
    rename_i hc
    obtain ⟨rfl, hlim, hlen2⟩ := hc
    simp only [bindO] at h
    split at h <;> (first | exact h.elim | skip)
    rename_i cs hcs
    obtain ⟨i, z, hi, hzz, rfl, ho⟩ := zerosT_spec hz
    refine Opp.of_heap fun ρ I β a w hs => ?_
    have hisz : i.size = z.cells.size := by simpa [szT, hi] using hsz
    simp only [List.length_map, Array.length_toList] at hcs hlim
    obtain ⟨hyl, hyg⟩ := mapO_get hys
    obtain ⟨arr', hf, hva, hoa⟩ := fill_sound (ρ := ρ) (I := I) (fun j => some (j * z.cells.size, z.cells.size)) _ ((parts.map (fun (q : Nat × Operand) => (q.1, a.eval q.2))).toList) _ ((Array.range (len * z.cells.size)).map fun j => (if len * z.cells.size = 0 then (#[] : Array Value) else z.cells)[j % (if len * z.cells.size = 0 then (#[] : Array Value) else z.cells).size]!) cs
      (by rw [zeros_arr, repeatL_map]; exact vrs_lit _) (by rw [zeros_arr]; exact fun u hu => ho u (mem_repeatL hu)) (by simp [hyl]) (fun j p hp => by
        simp only [List.getElem?_map, Option.map_eq_some_iff] at hp
        obtain ⟨⟨q, y⟩, hq, rfl⟩ := hp
        obtain ⟨hq1, hq2⟩ := List.getElem?_zip_eq_some.1 hq
        obtain ⟨q', hq', hqf⟩ := hyg j y hq2
        simp only at hq1
        rw [hq1] at hq'; simp at hq'; subst hq'
        have hq1' : parts[j]? = some q := by simpa using hq1
        exact ⟨(q.1, a.eval q.2), by simp [hq1'], rfl, opV_sound hs hqf⟩) hcs
    have hlen : arr'.size = cs.length := by have := hva.1; simpa using this
    have hrun : (Instr.buildSlice t len (parts.map fun (x : Nat × Operand) => match x with | (i, x) => (i, a.eval x))).run P w = .ok (.slice (some ⟨w.heap.size, 0, none⟩) len len) (w.alloc (.cells arr' e)) := by
      have hf' : Instr.fill (fun i => some (i * z.cells.size, z.cells.size)) ((Array.range (len * z.cells.size)).map fun j => (if len * z.cells.size = 0 then (#[] : Array Value) else z.cells)[j % (if len * z.cells.size = 0 then (#[] : Array Value) else z.cells).size]!) (parts.map fun (x : Nat × Operand) => match x with | (i, x) => (i, a.eval x)).toList = some arr' := hf
      by_cases hn : len * z.cells.size = 0
      · simp only [hn, if_true] at hf'
        have hno : ¬ (16777216 < 0) := by omega
        simp [Instr.buildSlice, run_underlying ht, sizeOf, typeInfo, hi, hisz, hn, newRow]
        simp only [List.toArray_range, Array.toList_map] at hf'
        first | (rw [hf']; rfl) | (simp at hf'; simp [hf'])
      · simp only [hn, if_false] at hf'
        have hno : ¬ (16777216 < len * z.cells.size) := by omega
        simp [Instr.buildSlice, run_underlying ht, sizeOf, typeInfo, hi, hisz, hn, hno, newRow, zeroValue, hzz]
        first | (rw [hf']; rfl) | (simp at hf'; simp [hf'])
    split at h
    · rename_i hown
      have hm := Mv.newCells (T := e) (arr := arr') hs.heap (cs := cs) (by rw [← hva.1, List.take_length]; exact hva) (by omega) hoa
      refine ⟨.slice (some ⟨w.heap.size, 0, none⟩) len len, w.alloc (.cells arr' e), run_v hrun, .sl H.length 0 z.cells.size 0 len, _, _, I, hm, .sl H.length 0 _ 0 len _ len (Rho.set_self _ _ _ _) (Nat.le_refl _) ?_ (Nat.le_trans hlen2 (by decide)), by simpa using h⟩
      have hfl := fillA_length hcs
      rw [repeatL_length] at hfl
      simp only [List.length_map, Array.length_toList] at hfl
      show 0 + 0 + len * z.cells.size ≤ arr'.size
      omega
    · refine ⟨.slice (some ⟨w.heap.size, 0, none⟩) len len, w.alloc (.cells arr' e), run_v hrun, .row true len cs, H, ρ, I.set w.heap.size arr', Mv.newImm hs.heap (Gw.alloc w _) (Nat.le_refl _) (heap_alloc_new w _), ?_, h⟩
      exact .row true len cs arr'.toList _ len hva.1 (fun j c hc => (hva.2 j c hc).ext (Ext.imm (hs.heap.imm_none (Nat.le_refl _)))) (.inr ⟨_, rfl, rfl, hoa, arr', by simp [Imm.set], fun j hj => by
        simp only [Nat.zero_add]
        have : j < arr'.size := by simpa using hj
        rw [List.getD_eq_getElem?_getD, Array.getElem?_toList, Array.getElem?_eq_getElem this]; rfl⟩) (fun ad e' => by simp at e'; subst e'; exact .inl rfl) (Nat.le_refl _) (fun _ => rfl)
  · -- makeSlice
    rename_i t l c
    split at h <;> (first | exact h.elim | skip)
    rename_i e ht
    split at h <;> (first | exact h.elim | skip)
    rename_i zs s b xa ya hz hsz hb hxa hya
    split at h <;> (first | exact h.elim | skip)
    rename_i hl; subst hl
    refine Opp.of_heap fun ρ I β a w hs => ?_
    obtain ⟨u, w', hr, hd⟩ := make_sound (P := P) hs.heap ht hz hsz hb (opV_sound hs hxa) (opV_sound hs hya) h
    exact ⟨u, w', run_v hr, hd⟩
  · -- append
    rename_i d s t tx
    split at h <;> (first | exact h.elim | skip)
    rename_i e ht
    split at h <;> (first | exact h.elim | skip)
    rename_i zs sz b xa ya hz hsz hb hxa hya
    split at h <;> (first | exact h.elim | skip)
    rename_i hc
    obtain ⟨hl, hsrc⟩ := hc
    subst hl
    obtain ⟨i, z, hi, hzz, rfl, ho⟩ := zerosT_spec hz
    refine Opp.of_heap fun ρ I β a w hs => ?_
    have hbi : i.bytes = b := by simpa [hi] using hb
    subst hbi
    have hisz : i.size = z.cells.size := by simpa [szT, hi] using hsz
    simp only [List.length_map, Array.length_toList] at h
    obtain ⟨u, w', hr, hd⟩ := app_sound (P := P) (ty := ty) hs.heap ht (srcTy_spec hsrc) hi hisz hzz rfl ho (opV_sound hs hxa) (opV_sound hs hya) h
    exact ⟨u, w', by simp [execOp, resolve, invoke, builtin, hr], hd⟩
  · -- copy
    rename_i d s t tx
    split at h <;> (first | exact h.elim | skip)
    rename_i e ht
    split at h <;> (first | exact h.elim | skip)
    rename_i sz xa ya hsz hxa hya
    split at h <;> (first | exact h.elim | skip)
    rename_i hsrc
    refine Opp.of_heap fun ρ I β a w hs => ?_
    obtain ⟨u, w', hr, hd⟩ := copy_sound (P := P) (ty := ty) hs.heap ht (srcTy_spec hsrc) hsz (opV_sound hs hxa) (opV_sound hs hya) h
    exact ⟨u, w', by simp [execOp, resolve, invoke, builtin, hr], hd⟩
  · -- convert
    rename_i src dst' x
    split at h
    · rename_i e s hs1 hs2 hxa
      split at h <;> (first | exact h.elim | skip)
      rename_i he
      refine Opp.of_heap fun ρ I β a w hs => ?_
      have hv := (opV_sound hs hxa).v_inv
      let arr : Array Value := s.data.map (fun b => Value.int .u8 b.toNat) ++ Array.replicate (Question.cut (.appendCap s.size 0 e) (w.tape w.drawn (.appendCap s.size 0 e)) - s.size) (.int .u8 0)
      have hcap : s.size ≤ Question.cut (.appendCap s.size 0 e) (w.tape w.drawn (.appendCap s.size 0 e)) := by simp [Question.cut]
      have hb : ((w.drew.alloc (.cells arr e))).heap[w.heap.size]? = some (.cells arr e (0, 0)) := heap_alloc_new w.drew _
      obtain ⟨fz, hfz⟩ := freeze_block (off := arr.size) (n := 1) hb
      have hg : Gw none w ((w.drew.alloc (.cells arr e)).freeze ⟨w.heap.size, arr.size, none⟩ 1) :=
        Gw.fresh ((((Gw.drew w).trans (Gw.alloc w.drew _)).weaken).trans (Gw.freeze _ ⟨w.heap.size, arr.size, none⟩ 1)) (Nat.le_refl _)
      refine ⟨.slice (some ⟨w.heap.size, 0, none⟩) s.size (Question.cut (.appendCap s.size 0 e) (w.tape w.drawn (.appendCap s.size 0 e))), _, run_v ?_, _, H, ρ, I.set w.heap.size arr, Mv.newImm hs.heap hg (Nat.le_refl _) hfz, ?_, h⟩
      · rw [hv]
        have hsh : (w.drew.alloc (.cells arr e)).shape? w.heap.size = some (e, arr.size) := by unfold World.shape?; rw [hb]
        have hsh' : (w.drew.alloc (.cells arr e)).shape? w.drew.heap.size = some (e, arr.size) := hsh
        have hch : (choose (.appendCap s.size 0 e)).run P w = .ok (Question.cut (.appendCap s.size 0 e) (w.tape w.drawn (.appendCap s.size 0 e))) w.drew := rfl
        have hnew : (newObj (.cells arr e)).run P w.drew = .ok w.heap.size (w.drew.alloc (.cells arr e)) := rfl
        simp only [convert, Sem.run_bind, run_underlying hs1, run_underlying hs2, run_underlying he, Result.andThen_ok, Conv.stringToBytes, hch, newRow, markStringish, Sem.run_pure]
        have harr : s.data.map (fun b => Value.int .u8 b.toNat) ++ Array.replicate (Question.cut (.appendCap s.size 0 e) (w.tape w.drawn (.appendCap s.size 0 e)) - s.size) (.int .u8 0) = arr := rfl
        simp only [harr, hnew, Result.andThen_ok, run_shape, hsh, run_freeze]
      · have hl : (s.data.toList.map fun b => Value.int .u8 b.toNat).length = s.size := by simp
        refine .row false s.size _ (s.data.toList.map fun b => Value.int .u8 b.toNat) _ _ (by simp) (VRs.of_get (by simp) (fun i c u hc hu => ?_)).2 (.inr ⟨_, rfl, rfl, fun u hu => ?_, arr, by simp [Imm.set], fun j hj => ?_⟩) (fun ad e' => by simp at e'; subst e'; exact .inl rfl) hcap (by simp)
        · simp only [List.getElem?_map, Option.map_eq_some_iff] at hc hu
          obtain ⟨b, hb1, rfl⟩ := hc
          obtain ⟨b', hb2, rfl⟩ := hu
          rw [hb1] at hb2; simp at hb2; subst hb2
          exact .v _
        · obtain ⟨_, _, rfl⟩ := List.mem_map.1 hu; rfl
        · rw [hl] at hj
          have hj' : j < s.data.size := hj
          simp only [Nat.zero_add, arr]
          rw [Array.getElem?_append_left (by simpa using hj'), List.getD_eq_getElem?_getD]
          simp only [Array.getElem?_map, List.getElem?_map, Array.getElem?_toList, Array.getElem?_eq_getElem hj', Option.map_some, Option.getD_some]
    · rename_i e0 e id ver sz off n hs1 hs2 hxa
      split at h <;> (first | exact h.elim | skip)
      rename_i v cs he hob
      split at h <;> (first | exact h.elim | skip)
      rename_i hc
      obtain ⟨rfl, rfl, rfl, rfl⟩ := hc
      refine Opp.of_heap fun ρ I β a w hs => ?_
      have hv := opV_sound hs hxa
      generalize hev : a.eval x = u at hv
      cases hv with
      | sl _ _ _ _ _ l cap hl hn hcap hmx =>
        obtain ⟨hver, l', hl', hcell⟩ := hs.heap.obj _ _ hob
        rw [hl] at hl'; simp at hl'; subst hl'
        obtain ⟨us, hvs, ho, hcl⟩ := hcell.list
        obtain ⟨arr, T, h1, h2, h3, h4⟩ := hcell
        obtain ⟨fz, hfz⟩ := freeze_block (off := arr.size) (n := 1) h1
        have hm := Mv.freeze hs.heap hob hl (Gw.freeze w ⟨l.blk, arr.size, none⟩ 1) hfz
        refine ⟨.slice (some ⟨l.blk, l.base + 0, none⟩) cs.length cap, _, run_v ?_, .row false cs.length cs, _, ρ, _, hm, ?_, h⟩
        · rw [hev]
          have hsh : w.shape? l.blk = some (T, arr.size) := by unfold World.shape?; rw [h1]
          simp [convert, run_underlying hs2, run_underlying he, markStringish, hsh]
        · have hvs' : VRs ρ (I.set l.blk arr) cs us := hvs.ext hm.ext
          refine .row false cs.length cs us _ cap hvs'.1 hvs'.2 (.inr ⟨_, rfl, rfl, ho, arr, by simp [Imm.set], fun j hj => ?_⟩) (fun ad e' => by simp at e'; subst e'; exact .inl rfl) hn (by simp)
          have hu := List.getElem?_eq_getElem hj
          have := hcl j _ hu
          rw [List.getD_eq_getElem?_getD, hu]
          simpa [World.cell?, h1] using this
    · exact Opp.of_val h
  · -- makeMap
    rename_i t
    split at h <;> (first | exact h.elim | skip)
    rename_i kt et ht
    refine Opp.of_heap fun ρ I β a w hs => ?_
    have hm : Mv ρ I H w (ρ.set H.length 0 ⟨w.heap.size, 0, 0⟩) I (H ++ [.map [] 0]) (w.alloc (.map #[] 0)) := by
      refine Mv.newObj hs.heap (Gw.alloc w _) (Nat.le_refl _) ⟨fun v hv => ?_, ⟨w.heap.size, 0, 0⟩, #[], Rho.set_self _ _ _ _, heap_alloc_new w _, rfl, fun i e he => by simp at he⟩ (by simp [blkOf, Rho.set_self])
      unfold Rho.set
      rw [if_neg (by omega)]
      exact hs.heap.rho_none (Nat.le_refl _) v
    exact ⟨.map (some w.heap.size), _, run_v (by simp [Instr.makeMap]), _, _, _, I, hm, .mp H.length _ (Rho.set_self _ _ _ _), h⟩
  · -- makeMap with a hint
    rename_i t x
    split at h <;> (first | exact h.elim | skip)
    rename_i kt et kk nn ht hxa
    refine Opp.of_heap fun ρ I β a w hs => ?_
    have hev := (opV_sound hs hxa).v_inv
    have hm : Mv ρ I H w (ρ.set H.length 0 ⟨w.heap.size, 0, 0⟩) I (H ++ [.map [] 0]) (w.alloc (.map #[] 0)) := by
      refine Mv.newObj hs.heap (Gw.alloc w _) (Nat.le_refl _) ⟨fun v hv => ?_, ⟨w.heap.size, 0, 0⟩, #[], Rho.set_self _ _ _ _, heap_alloc_new w _, rfl, fun i e he => by simp at he⟩ (by simp [blkOf, Rho.set_self])
      unfold Rho.set
      rw [if_neg (by omega)]
      exact hs.heap.rho_none (Nat.le_refl _) v
    exact ⟨.map (some w.heap.size), _, run_v (by simp [Instr.makeMap, run_underlying ht, hev, asInt, asIntOf]), _, _, _, I, hm, .mp H.length _ (Rho.set_self _ _ _ _), h⟩
  · -- mapUpdate
    rename_i t m i x
    split at h <;> (first | exact h.elim | skip)
    rename_i xa ya za hxa hya hza
    refine Opp.of_run fun ρ I β a w hs => ?_
    obtain ⟨w', H', hr, hm, hk⟩ := upd_sound hs.heap (opV_sound hs hxa) (opV_sound hs hya) (opV_sound hs hza) h
    obtain ⟨h1, h2⟩ := hs.move hm
    exact ⟨undef, w', .inr ⟨by simp [execOp, hr], rfl⟩, fr, H', ρ, I, β, .un, h2, h1, trivial, hk⟩
  · -- delete
    rename_i m i t ti
    split at h <;> (first | exact h.elim | skip)
    rename_i xa ya hxa hya
    refine Opp.of_heap fun ρ I β a w hs => ?_
    obtain ⟨w', H', hr, hm, hk⟩ := del_sound (ty := ty) (ts := #[t, ti]) (t := t) hs.heap rfl (opV_sound hs hxa) (opV_sound hs hya) h
    exact ⟨_, w', by simp [execOp, resolve, invoke, builtin, hr], _, H', ρ, I, hm, .tup [] [] rfl (fun i c hc => by simp at hc), hk⟩
  · -- clear
    rename_i m t
    split at h <;> (first | exact h.elim | skip)
    rename_i kt et xa ht hxa
    refine Opp.of_heap fun ρ I β a w hs => ?_
    obtain ⟨w', H', hr, hm, hk⟩ := clear_sound (ty := ty) (ts := #[t]) (t := t) hs.heap rfl ht (opV_sound hs hxa) h
    exact ⟨_, w', by simp [execOp, resolve, invoke, builtin, hr], _, H', ρ, I, hm, .tup [] [] rfl (fun i c hc => by simp at hc), hk⟩
  · -- range
    rename_i t x
    split at h <;> (first | exact h.elim | skip)
    rename_i xa hxa
    refine Opp.of_heap fun ρ I β a w hs => ?_
    obtain ⟨u, w', hr, hd⟩ := range_sound (P := P) hs.heap (opV_sound hs hxa) h
    exact ⟨u, w', run_v hr, hd⟩
  · -- next
    rename_i x isStr
    split at h <;> (first | exact h.elim | skip)
    rename_i xa hxa
    refine Opp.of_heap fun ρ I β a w hs => ?_
    obtain ⟨u, w', hr, hd⟩ := next_sound (P := P) (ty := ty) hs.heap (opV_sound hs hxa) h
    exact ⟨u, w', run_v hr, hd⟩
  · -- entry
    rename_i x
    split at h <;> (first | exact h.elim | skip)
    rename_i xa hxa
    split at h <;> (first | exact h.elim | skip)
    rename_i r hr
    refine Opp.of_run fun ρ I β a w hs => ?_
    obtain ⟨u, hu, hv⟩ := entry_sound (P := P) hs.heap (opV_sound hs hxa) hr
    exact ⟨u, w, .inl (run_v hu), fr, H, ρ, I, β, .av r, MvF.refl _ _ _ _, hs, hv, h⟩
  · exact Opp.of_val h
end
end Go.Mx
