/-
  The abstract machine: regions that draw their order: which operations change no memory, and that they do what is told.
-/
import Derived.Test.YtoakdmkjlpjahaaDoorMxN
import Derived.Orders
namespace Go.Mx
open Go.RowKit
set_option linter.unusedVariables false
set_option linter.unusedSimpArgs false

/-- An operation that changes no memory that one knows of, and is no assignment (a text's bytes lie in memory that is new, and that nobody writes). -/
def quietO (P : Program) (cf : Cfg) (o : Oper) : Bool := match o.op with
  | .buildSlice _ _ _ => !(cf.own.contains (o.dst.getD 0))
  | .move _ => true
  | .pick _ _ _ => true
  | .binOp _ _ _ _ _ => true
  | .unOp _ _ _ => true
  | .extract _ _ => true
  | .field _ _ _ => true
  | .load _ _ => true
  | .slice _ _ _ _ none => true
  | .index _ _ _ => true
  | .indexAddr _ _ _ => true
  | .fieldAddr _ _ _ => true
  | .nilCheck _ => true
  | .lookup _ _ _ _ => true
  | .makeFunc _ _ _ => true
  | .build _ _ => true
  | .convert s d _ => match P.underlying s, P.underlying d with
    | some .string, some (.slice e) => (match P.underlying e with
      | some (.int .u8) => true
      | _ => false)
    | _, some (.slice _) => false
    | _, _ => true
  | .call { callee := .builtin .len, args := _, argTypes := _ } => true
  | .call { callee := .builtin .max, args := _, argTypes := _ } => true
  | .call { callee := .builtin .min, args := _, argTypes := _ } => true
  | _ => false

section
variable {P : Program} {N : Nat} {cf : Cfg} {fr : Fr} {H : Hp} {ρ : Rho} {I : Imm} {β : Nat → Option Nat} {a : Act} {w w' : World}

/-- A text's bytes: new memory that nobody writes. -/
theorem textBytes_run (hs : Sim N ρ I β fr H a w) {src dst : TypeId} {x : Operand} {e : TypeId} {s : ByteArray} (hs1 : P.underlying src = some .string) (hs2 : P.underlying dst = some (.slice e)) (he : P.underlying e = some (.int .u8)) (hxa : opV fr x = some (.v (.string s))) :
    ∃ u w' I', (convert src dst (a.eval x)).run P w = .ok u w' ∧ Mv ρ I H w ρ I' H w' ∧ VR ρ I' (.row false s.size (s.data.toList.map u8A)) u := by
  have hv := (opV_sound hs hxa).v_inv
  let arr : Array Value := s.data.map (fun b => Value.int .u8 b.toNat) ++ Array.replicate (Question.cut (.appendCap s.size 0 e) (w.tape w.drawn (.appendCap s.size 0 e)) - s.size) (.int .u8 0)
  have hcap : s.size ≤ Question.cut (.appendCap s.size 0 e) (w.tape w.drawn (.appendCap s.size 0 e)) := by simp [Question.cut]
  have hb : ((w.drew.alloc (.cells arr e))).heap[w.heap.size]? = some (.cells arr e (0, 0)) := heap_alloc_new w.drew _
  obtain ⟨fz, hfz⟩ := freeze_block (off := arr.size) (n := 1) hb
  have hg : Gw none w ((w.drew.alloc (.cells arr e)).freeze ⟨w.heap.size, arr.size, none⟩ 1) :=
    Gw.fresh ((((Gw.drew w).trans (Gw.alloc w.drew _)).weaken).trans (Gw.freeze _ ⟨w.heap.size, arr.size, none⟩ 1)) (Nat.le_refl _)
  refine ⟨.slice (some ⟨w.heap.size, 0, none⟩) s.size (Question.cut (.appendCap s.size 0 e) (w.tape w.drawn (.appendCap s.size 0 e))), _, I.set w.heap.size arr, ?_, Mv.newImm hs.heap hg (Nat.le_refl _) hfz, ?_⟩
  · rw [hv]
    have hsh : (w.drew.alloc (.cells arr e)).shape? w.heap.size = some (e, arr.size) := by unfold World.shape?; rw [hb]
    have hsh' : (w.drew.alloc (.cells arr e)).shape? w.drew.heap.size = some (e, arr.size) := hsh
    have hch : (choose (.appendCap s.size 0 e)).run P w = .ok (Question.cut (.appendCap s.size 0 e) (w.tape w.drawn (.appendCap s.size 0 e))) w.drew := rfl
    have hnew : (newObj (.cells arr e)).run P w.drew = .ok w.heap.size (w.drew.alloc (.cells arr e)) := rfl
    simp only [convert, Sem.run_bind, run_underlying hs1, run_underlying hs2, run_underlying he, Result.andThen_ok, Conv.stringToBytes, hch, newRow, markStringish, Sem.run_pure]
    have harr : s.data.map (fun b => Value.int .u8 b.toNat) ++ Array.replicate (Question.cut (.appendCap s.size 0 e) (w.tape w.drawn (.appendCap s.size 0 e)) - s.size) (.int .u8 0) = arr := rfl
    simp only [harr, hnew, Result.andThen_ok, run_shape, hsh, run_freeze]
  · have hl : (s.data.toList.map fun b => Value.int .u8 b.toNat).length = s.size := by simp
    refine .row false s.size _ (s.data.toList.map fun b => Value.int .u8 b.toNat) _ _ (by simp) (VRs.of_get (by simp) (fun i c u hc hu => ?_)).2 (.inr ⟨_, rfl, rfl, fun u hu => ?_, arr, by simp [Imm.set], fun j hj => ?_⟩) (fun ad e' => by simp at e'; subst e'; exact .inl rfl) hcap (by simp)
    · simp only [List.getElem?_map, Option.map_eq_some_iff] at hc hu
      obtain ⟨b, hb1, rfl⟩ := hc
      obtain ⟨b', hb2, rfl⟩ := hu
      rw [hb1] at hb2; simp at hb2; subst hb2
      exact .v _
    · obtain ⟨_, _, rfl⟩ := List.mem_map.1 hu; rfl
    · rw [hl] at hj
      have hj' : j < s.data.size := hj
      simp only [Nat.zero_add, arr]
      rw [Array.getElem?_append_left (by simpa using hj'), List.getD_eq_getElem?_getD]
      simp only [Array.getElem?_map, List.getElem?_map, Array.getElem?_toList, Array.getElem?_eq_getElem hj', Option.map_some, Option.getD_some]

/-- A literal of a slice, by value. -/
noncomputable def rowV (P : Program) (fr : Fr) (t : TypeId) (len : Nat) (parts : Array (Nat × Operand)) : Option SV := match P.underlying t with
  | some (.slice e) => match zerosT P e, szT P e, mapO (fun (p : Nat × Operand) => opV fr p.2) parts.toList with
    | some zs, some s, some ys => if zs.length = s ∧ len * s ≤ 16777216 ∧ len ≤ 16777216 then (match fillA (repeatL len zs) ((parts.toList.zip ys).map fun q => (q.1.1 * s, s, q.2)) with
      | some cs => some (.av (.row true len cs))
      | none => none) else none
    | _, _, _ => none
  | _ => none
theorem rowV_sound (hs : Sim N ρ I β fr H a w) {o : Oper} {t : TypeId} {len : Nat} {parts : Array (Nat × Operand)} (ho : o.op = .buildSlice t len parts) {x : SV} (h : rowV P fr t len parts = some x) : ∃ u w' I', (execOp a.eval o).run P w = .ok (.value u) w' ∧ Mv ρ I H w ρ I' H w' ∧ SVR ρ I' β x u := by
  obtain ⟨dst, op, ty, pos, after, guard⟩ := o
  simp only at ho; subst ho
  unfold rowV at h
  split at h <;> (first | (exfalso; simp at h; done) | skip)
  rename_i e ht
  split at h <;> (first | (exfalso; simp at h; done) | skip)
  rename_i zs s ys hz hsz hys
  split at h <;> (first | (exfalso; simp at h; done) | skip)
  rename_i hc
  obtain ⟨rfl, hlim⟩ := hc
  split at h <;> (first | (exfalso; simp at h; done) | skip)
  rename_i cs hcs
  simp at h; subst h
  obtain ⟨i, z, hi, hzz, rfl, ho⟩ := zerosT_spec hz
  have hisz : i.size = z.cells.size := by simpa [szT, hi] using hsz
  simp only [List.length_map, Array.length_toList] at hcs hlim
  obtain ⟨hyl, hyg⟩ := mapO_get hys
  obtain ⟨arr', hf, hva, hoa⟩ := fill_sound (ρ := ρ) (I := I) (fun j => some (j * z.cells.size, z.cells.size)) _ ((parts.map (fun (q : Nat × Operand) => (q.1, a.eval q.2))).toList) _ ((Array.range (len * z.cells.size)).map fun j => (if len * z.cells.size = 0 then (#[] : Array Value) else z.cells)[j % (if len * z.cells.size = 0 then (#[] : Array Value) else z.cells).size]!) cs
    (by rw [zeros_arr, repeatL_map]; exact vrs_lit _) (by rw [zeros_arr]; exact fun u hu => ho u (mem_repeatL hu)) (by simp [hyl]) (fun j p hp => by
      simp only [List.getElem?_map, Option.map_eq_some_iff] at hp
      obtain ⟨⟨q, y⟩, hq, rfl⟩ := hp
      obtain ⟨hq1, hq2⟩ := List.getElem?_zip_eq_some.1 hq
      obtain ⟨q', hq', hqf⟩ := hyg j y hq2
      simp only at hq1
      rw [hq1] at hq'; simp at hq'; subst hq'
      have hq1' : parts[j]? = some q := by simpa using hq1
      exact ⟨(q.1, a.eval q.2), by simp [hq1'], rfl, opV_sound hs hqf⟩) hcs
  have hlen : arr'.size = cs.length := by have := hva.1; simpa using this
  have hrun : (Instr.buildSlice t len (parts.map fun (x : Nat × Operand) => match x with | (i, x) => (i, a.eval x))).run P w = .ok (.slice (some ⟨w.heap.size, 0, none⟩) len len) (w.alloc (.cells arr' e)) := by
    have hf' : Instr.fill (fun i => some (i * z.cells.size, z.cells.size)) ((Array.range (len * z.cells.size)).map fun j => (if len * z.cells.size = 0 then (#[] : Array Value) else z.cells)[j % (if len * z.cells.size = 0 then (#[] : Array Value) else z.cells).size]!) (parts.map fun (x : Nat × Operand) => match x with | (i, x) => (i, a.eval x)).toList = some arr' := hf
    by_cases hn : len * z.cells.size = 0
    · simp only [hn, if_true] at hf'
      have hno : ¬ (16777216 < 0) := by omega
      simp [Instr.buildSlice, run_underlying ht, sizeOf, typeInfo, hi, hisz, hn, newRow]
      simp only [List.toArray_range, Array.toList_map] at hf'
      first | (rw [hf']; rfl) | (simp at hf'; simp [hf'])
    · simp only [hn, if_false] at hf'
      have hno : ¬ (16777216 < len * z.cells.size) := by omega
      simp [Instr.buildSlice, run_underlying ht, sizeOf, typeInfo, hi, hisz, hn, hno, newRow, zeroValue, hzz]
      first | (rw [hf']; rfl) | (simp at hf'; simp [hf'])
  refine ⟨.slice (some ⟨w.heap.size, 0, none⟩) len len, w.alloc (.cells arr' e), I.set w.heap.size arr', run_v hrun, Mv.newImm hs.heap (Gw.alloc w _) (Nat.le_refl _) (heap_alloc_new w _), ?_⟩
  exact .row true len cs arr'.toList _ len hva.1 (fun j c hc => (hva.2 j c hc).ext (Ext.imm (hs.heap.imm_none (Nat.le_refl _)))) (.inr ⟨_, rfl, rfl, hoa, arr', by simp [Imm.set], fun j hj => by
    simp only [Nat.zero_add]
    have : j < arr'.size := by simpa using hj
    rw [List.getD_eq_getElem?_getD, Array.getElem?_toList, Array.getElem?_eq_getElem this]; rfl⟩) (fun ad e' => by simp at e'; subst e'; exact .inl rfl) (Nat.le_refl _) (fun _ => rfl)

/-- What an operation is worth; a text's bytes too, and a literal of a slice. -/
noncomputable def valC (P : Program) (fr : Fr) (H : Hp) (o : Oper) : Option SV := match o.op with
  | .buildSlice t len parts => rowV P fr t len parts
  | .convert src dst x => match P.underlying src, P.underlying dst, opV fr x with
    | some .string, some (.slice e), some (.v (.string s)) => (match P.underlying e with
      | some (.int .u8) => some (.av (.row false s.size (s.data.toList.map u8A)))
      | _ => none)
    | _, _, _ => valS P fr H o
  | _ => valS P fr H o
theorem valC_sound (hs : Sim N ρ I β fr H a w) {o : Oper} {x : SV} (h : valC P fr H o = some x) : ∃ u w' I', (execOp a.eval o).run P w = .ok (.value u) w' ∧ Mv ρ I H w ρ I' H w' ∧ SVR ρ I' β x u := by
  have old : valS P fr H o = some x → ∃ u w' I', (execOp a.eval o).run P w = .ok (.value u) w' ∧ Mv ρ I H w ρ I' H w' ∧ SVR ρ I' β x u := fun h => by
    obtain ⟨u, h1, h2⟩ := valS_sound (P := P) hs h
    exact ⟨u, w, I, h1, Mv.refl hs.heap, h2⟩
  unfold valC at h
  split at h
  · rename_i t len parts ho
    exact rowV_sound hs ho h
  · rename_i src dst y ho
    split at h
    · rename_i e s hs1 hs2 hxa
      split at h <;> (first | (exfalso; simp at h; done) | skip)
      rename_i he
      simp at h; subst h
      obtain ⟨u, w', I', h1, h2, h3⟩ := textBytes_run (P := P) hs hs1 hs2 he hxa
      obtain ⟨dst', op, ty, pos, after, guard⟩ := o
      simp only at ho; subst ho
      exact ⟨u, w', I', run_v h1, h2, h3⟩
    · exact old h
  · exact old h

/-- What an operation is worth now, its guard looked at ('g': what its guard's slot holds). -/
noncomputable def valQ (P : Program) (ops : Array Oper) (fr : Fr) (H : Hp) (o : Oper) : Option SV := match o.guard with
  | none => valC P fr H o
  | some (j, want) => match (ops[j]?).bind (·.dst) with
    | some s => match isU (look s fr.slots) with
      | true => some (.av (.v undef))
      | false => match look s fr.slots with
        | some (.av (.v (.bool b))) => if b = want then valC P fr H o else some (.av (.v undef))
        | _ => none
    | none => none

/-- It would yield this now. -/
def YieldsW (P : Program) (ops : Array Oper) (o : Oper) (v : Value) (a : Act) (w w' : World) : Prop :=
  (Region.wanted o (yielded ops a.tmps) = true ∧ (execOp a.eval o).run P w = .ok (.value v) w') ∨ (Region.wanted o (yielded ops a.tmps) = false ∧ v = undef ∧ w' = w)

theorem yielded_of {ops : Array Oper} {j s : Nat} {b : Bool} (hs : Sim N ρ I β fr H a w) (hj : (ops[j]?).bind (·.dst) = some s) (hb : look s fr.slots = some (.av (.v (.bool b)))) : yielded ops a.tmps j = some b := by
  have hv : VR ρ I _ _ := hs.slot s _ hb
  have hu := hv.v_inv
  unfold yielded
  rw [hj]
  rw [Array.getD_eq_getD_getElem?] at hu
  cases hx : a.tmps[s]? with
  | none => rw [hx] at hu; simp [undef] at hu
  | some v => rw [hx] at hu; simp at hu; subst hu; simp [hx]

theorem valQ_sound {ops : Array Oper} (hs : Sim N ρ I β fr H a w) {o : Oper} {x : SV} (h : valQ P ops fr H o = some x) : ∃ u w' I', YieldsW P ops o u a w w' ∧ Mv ρ I H w ρ I' H w' ∧ SVR ρ I' β x u := by
  unfold valQ at h
  split at h
  · rename_i hg
    obtain ⟨u, w', I', h1, hm, h2⟩ := valC_sound (P := P) hs h
    exact ⟨u, w', I', .inl ⟨by simp [Region.wanted, hg], h1⟩, hm, h2⟩
  · rename_i j want hg
    split at h <;> (first | (exfalso; simp at h; done) | skip)
    rename_i s hj
    split at h
    · rename_i hu
      simp at h; subst h
      have hv : VR ρ I _ _ := hs.slot s _ (isU_eq hu)
      have he := hv.v_inv
      refine ⟨undef, w, I, .inr ⟨?_, rfl, rfl⟩, Mv.refl hs.heap, .v _⟩
      have hy : yielded ops a.tmps j = none := by
        unfold yielded
        rw [hj]
        rw [Array.getD_eq_getD_getElem?] at he
        cases hx : a.tmps[s]? with
        | none => simp [hx]
        | some v => rw [hx] at he; simp at he; subst he; simp [hx, undef]
      simp [Region.wanted, hg, hy]
    split at h <;> (first | (exfalso; simp at h; done) | skip)
    rename_i b hb
    have hy := yielded_of hs hj hb
    split at h
    · rename_i he
      obtain ⟨u, w', I', h1, hm, h2⟩ := valC_sound (P := P) hs h
      exact ⟨u, w', I', .inl ⟨by simp [Region.wanted, hg, hy, he], h1⟩, hm, h2⟩
    · rename_i he
      simp at h; subst h
      exact ⟨undef, w, I, .inr ⟨by simp [Region.wanted, hg, hy, he], rfl, rfl⟩, Mv.refl hs.heap, .v _⟩

/-- The values that are known ahead. -/
def puts (a : Act) : List (Option Nat × Value) → Act
  | [] => a
  | (d, u) :: r => (puts a r).put d u


/-- An operation that looks at none of the slots, and writes none. -/
def farFrom (ops : Array Oper) (d : Option Nat) (o : Oper) : Prop := (∀ t, d = some t → t ∉ o.looksAt ops) ∧ (∀ t, d = some t → o.dst ≠ some t)
def noSel (o : Oper) : Prop := ∀ cs b, o.op ≠ .select cs b

theorem wpOp_back {ops : Array Oper} {Q : Exit → Act → World → Prop} {j : Nat} {oj : Oper} {d : Option Nat} {v : Value} {K : Act → World → Prop} (hj : ops[j]? = some oj) (hf : farFrom ops d oj) (hs : noSel oj)
    (hQ : ∀ c a w, Q (.panic c) (a.put d v) w → Q (.panic c) a w) (h : wpOp P ops Q j K (a.put d v) w) : wpOp P ops Q j (fun a' w' => K (a'.put d v) w') a w := by
  let oi : Oper := ⟨d, .assign (.const v), 0, "", #[], none⟩
  have hy : Yields P ops oi v a := .inl ⟨rfl, fun w => rfl⟩
  have hap : oi.apart ops oj = true := by
    have hl : oi.looksAt ops = [] := rfl
    unfold Oper.apart
    rw [hl]
    cases hd : d with
    | none => simp [oi, hd]; cases oj.dst <;> simp
    | some t =>
      have h1 := hf.1 t hd
      have h2 := hf.2 t hd
      simp only [oi, hd]
      cases ho : oj.dst with
      | none => simp [h1]
      | some e => rw [ho] at h2; simp [h1]; intro he; exact h2 (by rw [he])
  exact wpOp_mono (fun a' w' h => h.2) (wpOp_put (oi := oi) hj hap (fun cs b => by simp [oi]) hs hQ hy h)

theorem wpOp_backs {ops : Array Oper} {Q : Exit → Act → World → Prop} {j : Nat} {oj : Oper} (hj : ops[j]? = some oj) (hs : noSel oj) (hQ : ∀ c a w, ¬ Q (.panic c) a w) :
    ∀ (hid : List (Option Nat × Value)) (K : Act → World → Prop) (a : Act), (∀ p ∈ hid, farFrom ops p.1 oj) → wpOp P ops Q j K (puts a hid) w → wpOp P ops Q j (fun a' w' => K (puts a' hid) w') a w
  | [], K, a, _, h => h
  | (d, u) :: r, K, a, hf, h => by
    have h1 := wpOp_back hj (hf (d, u) (by simp)) hs (fun c a w hp => absurd hp (hQ c _ w)) h
    exact wpOp_backs hj hs hQ r (fun a' w' => K (a'.put d u) w') a (fun p hp => hf p (by simp [hp])) h1

/-- What an operation would yield does not hang on slots that it does not look at. -/
theorem YieldsW.put {ops : Array Oper} {o : Oper} {v u : Value} {d : Option Nat} (hs : noSel o) (hf : ∀ t, d = some t → t ∉ o.looksAt ops) : YieldsW P ops o v (a.put d u) w w' ↔ YieldsW P ops o v a w w' := by
  unfold YieldsW
  rw [execOp_put o hs a d u hf, wanted_put o a d u hf]
theorem YieldsW.puts {ops : Array Oper} {o : Oper} {v : Value} (hs : noSel o) : ∀ (hid : List (Option Nat × Value)), (∀ p ∈ hid, ∀ t, p.1 = some t → t ∉ o.looksAt ops) → (YieldsW P ops o v (puts a hid) w w' ↔ YieldsW P ops o v a w w')
  | [], _ => Iff.rfl
  | (d, u) :: r, hf => (YieldsW.put hs (hf (d, u) (by simp))).trans (YieldsW.puts hs r (fun p hp => hf p (by simp [hp])))

theorem YieldsW.wpOp {ops : Array Oper} {Q : Exit → Act → World → Prop} {i : Nat} {o : Oper} {v : Value} {K : Act → World → Prop} (hi : ops[i]? = some o) (hy : YieldsW P ops o v a w w') (h : K (a.put o.dst v) w') : Go.wpOp P ops Q i K a w := by
  unfold Go.wpOp
  simp only [hi]
  rcases hy with ⟨hw, hv⟩ | ⟨hw, rfl, rfl⟩
  · simp only [hw, if_true, Oper.wp, hv, Oper.upon]; exact .inl h
  · simp only [hw, Bool.false_eq_true, if_false]; exact h

/-- Values in slots that differ are put in any order. -/
theorem puts_put : ∀ (hid : List (Option Nat × Value)) (d : Option Nat) (v : Value), (∀ p ∈ hid, ∀ t, d = some t → p.1 ≠ some t) → puts (a.put d v) hid = (puts a hid).put d v
  | [], d, v, _ => rfl
  | (e, u) :: r, d, v, h => by
    have h1 := h (e, u) (by simp)
    simp only [puts]
    rw [puts_put r d v (fun p hp => h p (by simp [hp]))]
    exact Act.put_comm _ v u (fun t ht => by exact h1 t ht)

end
end Go.Mx
