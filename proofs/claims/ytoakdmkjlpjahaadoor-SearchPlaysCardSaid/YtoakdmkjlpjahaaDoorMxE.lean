/-
  The abstract machine: the operations that change no memory, by the program's types.
-/
import Derived.Test.YtoakdmkjlpjahaaDoorMxKa
import Derived.ChangeKeysEq
import Derived.Deep.MidRow
namespace Go.Mx
open Go.RowKit
set_option linter.unusedVariables false

def szT (P : Program) (t : TypeId) : Option Nat := (P.info? t).map (·.size)
def aggT (P : Program) (t : TypeId) : Option Bool := match P.underlying t with
  | some (.struct _) => some true
  | some (.array _ _) => some true
  | some _ => some false
  | none => none

def unA (op : UnOp) : AV → Option AV
  | .v (.bool b) => match op with | .not => some (.v (.bool (!b))) | _ => none
  | .v (.int k n) => match op with | .neg => some (.v (.int k (k.wrap (0 - n)))) | _ => none
  | _ => none

def convInt (k : IntKind) : AV → Option AV
  | .v (.int _ n) => some (.v (.int k (k.wrap n)))
  | _ => none
def convStr : AV → Option AV
  | .v (.int _ n) => some (.v (.string (Utf8.encode n)))
  | .v (.string s) => some (.v (.string s))
  | _ => none

/-- It may be a part: one cell, or a struct. -/
def okPart : AV → Bool
  | .agg _ => true
  | x => oneA x
/-- The parts of a struct that is built: where each goes. -/
def fillA (cells : List AV) : List (Nat × Nat × AV) → Option (List AV)
  | [] => some cells
  | (off, size, x) :: rest =>
    if (cellsA x).length = size ∧ off + size ≤ cells.length ∧ okPart x = true then fillA (cells.take off ++ cellsA x ++ cells.drop (off + size)) rest else none

def mapO {α β : Type} (f : α → Option β) : List α → Option (List β)
  | [] => some []
  | x :: xs => match f x, mapO f xs with
    | some y, some ys => some (y :: ys)
    | _, _ => none

def maxA : AV → AV → Option AV
  | .v (.int k x), .v (.int k' y) => if k = k' then some (.v (.int k (if y > x then y else x))) else none
  | _, _ => none
def minA : AV → AV → Option AV
  | .v (.int k x), .v (.int k' y) => if k = k' then some (.v (.int k (if y < x then y else x))) else none
  | _, _ => none

/-- x[lo:hi] of an array's address (len elements of sz cells). -/
def sliceArr (H : Hp) (sz len : Nat) (x : AV) : Option AV :=
  match x with
  | .ptr id ver off => match H[id]? with
    | some (.cells ver' cs) => if ver = ver' ∧ off + len * sz ≤ cs.length ∧ 0 < len ∧ len ≤ 16777216 then some (.sl id ver sz off len) else none
    | _ => none
  | _ => none

/-- What an operation yields that changes no memory. -/
noncomputable def valS (P : Program) (fr : Fr) (H : Hp) (o : Oper) : Option SV :=
  match o.op with
  | .move x => opS fr x
  | .assign x => opS fr x
  | .pick c a b => match opS fr c with
    | some (.av (.v (.bool t))) => match t with
      | true => opS fr a
      | false => opS fr b
    | _ => none
  | .binOp op t x y _ => match opV fr x, opV fr y with
    | some a, some b => match binA (tkOf P t) op a b with
      | some r => some (.av r)
      | none => (eqAgg P t op a b).map .av
    | _, _ => none
  | .lookup t m i ok => match opV fr m, opV fr i with
    | some a, some b => (lookV P H t a b ok).map .av
    | _, _ => none
  | .unOp op _ x => match opV fr x with
    | some a => (unA op a).map .av
    | none => none
  | .convert src dst x => match P.underlying src, P.underlying dst, opV fr x with
    | some _, some (.int k), some a => (convInt k a).map .av
    | some (.slice e), some .string, some a => match P.underlying e with
      | some (.int .u8) => (strOf H a).map .av
      | _ => none
    | some _, some .string, some a => (convStr a).map .av
    | _, _, _ => none
  | .extract x i => match opV fr x with
    | some a => (extractA a i).map .av
    | none => none
  | .field t x f => match P.underlying t, opV fr x with
    | some (.struct fs), some a => match fs[f]? with
      | some fd => match aggT P fd.type, szT P fd.type with
        | some g, some s => (fieldA g fd.offset s a).map .av
        | _, _ => none
      | none => none
    | _, _ => none
  | .load t x => match aggT P t, szT P t, opS fr x with
    | some g, some s, some a => (loadS fr H g s a).map .av
    | _, _, _ => none
  | .slice t x lo hi none => match P.underlying t, opS fr x with
    | some .string, some (.av (.v (.string s))) => (sliceA 0 (.v (.string s)) (lo.map (fun y => (opV fr y).getD (.v undef))) (hi.map (fun y => (opV fr y).getD (.v undef)))).map .av
    | some (.slice e), some (.av a) => match szT P e with
      | some s => (match a with
        | .v (.string _) => none
        | a => (sliceA s a (lo.map (fun y => (opV fr y).getD (.v undef))) (hi.map (fun y => (opV fr y).getD (.v undef)))).map .av)
      | none => none
    | some (.array n e), some (.av a) => match lo, hi, szT P e with
      | none, none, some s => (sliceArr H s n a).map .av
      | _, _, _ => none
    | _, _ => none
  | .index t x i => match P.underlying t, opV fr x, opV fr i with
    | some .string, some a, some b => (indexStr a b).map .av
    | some (.array n e), some (.agg cs), some (.v (.int _ j)) => match aggT P e, szT P e with
      | some g, some s => if 0 ≤ j ∧ j < n then (partA g (j.toNat * s) s cs).map .av else none
      | _, _ => none
    | _, _, _ => none
  | .indexAddr t x i => match P.underlying t, opS fr x, opV fr i with
    | some (.slice e), some (.av a), some b => match szT P e with
      | some s => (indexAddrA s a b).map .av
      | none => none
    | some (.array n e), some a, some b => match szT P e with
      | some s => indexTabA H s n a b
      | none => none
    | _, _, _ => none
  | .fieldAddr t x f => match P.underlying t, opS fr x with
    | some (.struct fs), some a => match fs[f]? with
      | some fd => match szT P fd.type with
        | some (s + 1) => plusS fd.offset a
        | _ => none
      | none => none
    | _, _ => none
  | .nilCheck x => match opS fr x with
    | some a => nilCheckS a
    | none => none
  | .makeFunc fn first captured => match mapO (opV fr) first.toList, mapO (opV fr) captured.toList with
    | some xs, some ys => some (.av (.fn fn xs ys))
    | _, _ => none
  | .build t parts => match P.info? t, P.underlying t with
    | some i, some (.struct fs) => match i.zero, mapO (fun (f : Field) => (szT P f.type).map fun s => (f.offset, s)) fs.toList with
      | some z, some pl => match z.cells.toList.all Value.oneCell', mapO (fun (p : Nat × Operand) => match pl[p.1]?, opV fr p.2 with
          | some q, some a => some (q.1, q.2, a)
          | _, _ => none) parts.toList with
        | true, some ps => (fillA (z.cells.toList.map .v) ps).map fun cs => .av (.agg cs)
        | _, _ => none
      | _, _ => none
    | some i, some (.array n e) => match i.zero, (szT P e).map (fun s => (List.range n).map fun i => (i * s, s)) with
      | some z, some pl => match z.cells.toList.all Value.oneCell', mapO (fun (p : Nat × Operand) => match pl[p.1]?, opV fr p.2 with
          | some q, some a => some (q.1, q.2, a)
          | _, _ => none) parts.toList with
        | true, some ps => (fillA (z.cells.toList.map .v) ps).map fun cs => .av (.agg cs)
        | _, _ => none
      | _, _ => none
    | _, _ => none
  | .call c => match c.callee, c.args.toList, c.argTypes.toList with
    | .builtin .len, [x], t :: _ => match P.underlying t, opV fr x with
      | some .string, some a => (match a with | .v (.string s) => some (.av (.v (.int .i64 s.size))) | _ => none)
      | some (.slice _), some a => (match a with | .v (.string _) => none | .v (.map _) => none | a => (lenA a).map .av)
      | some (.map _ _), some a => (match a with | .mp id => (lenM H (.mp id)).map .av | .v (.map none) => some (.av (.v (.int .i64 0))) | _ => none)
      | some (.array n _), some _ => some (.av (.v (.int .i64 n)))
      | _, _ => none
    | .builtin .max, [x, y], _ => match opV fr x, opV fr y with
      | some a, some b => (maxA a b).map .av
      | _, _ => none
    | .builtin .min, [x, y], _ => match opV fr x, opV fr y with
      | some a, some b => (minA a b).map .av
      | _, _ => none
    | _, _, _ => none
  | _ => none

section
variable {P : Program} {N : Nat} {fr : Fr} {H : Hp} {ρ : Rho} {I : Imm} {β : Nat → Option Nat} {a : Act} {w : World}

theorem run_v {S : Sem Value} {u : Value} {w' : World} (h : S.run P w = .ok u w') : ((do pure (Next.value (← S))) : Sem Next).run P w = .ok (.value u) w' := by simp [h]
theorem szT_run {t : TypeId} {s : Nat} (h : szT P t = some s) : (sizeOf t).run P w = .ok s w := by
  unfold szT at h
  cases hi : P.info? t with
  | none => simp [hi] at h
  | some i => simp [hi] at h; simp [sizeOf, typeInfo, hi, h]
theorem aggT_run {t : TypeId} {g : Bool} (h : aggT P t = some g) : (isAgg t).run P w = .ok g w := by
  unfold aggT at h
  split at h <;> simp at h <;> subst h <;> rename_i hd <;> simp only [isAgg, Sem.run_bind, run_underlying hd, Result.andThen_ok] <;> first | rfl | skip

/-- Cells in line, read at a place. -/
theorem run_loadVar_at {t : TypeId} {g : Bool} {s off b o : Nat} {cs : List AV} {us : List Value} {x : AV} (hg : aggT P t = some g) (hs : szT P t = some s)
    (hv : VRs ρ I cs us) (ho : ∀ u ∈ us, u.oneCell' = true) (hc : ∀ (i : Nat) (u : Value), us[i]? = some u → w.cell? ⟨b, o + i, none⟩ = some u) (h : partA g off s cs = some x) :
    ∃ u, (loadVar t ⟨b, o + off, none⟩).run P w = .ok u w ∧ VR ρ I x u := by
  cases g with
  | true =>
    simp only [partA] at h
    split at h <;> simp at h
    subst h
    rename_i hle
    have hl : ((us.drop off).take s).length = s := by simp [hv.1]; omega
    refine ⟨.agg ((us.drop off).take s).toArray, ?_, .agg _ _ ?_ ?_ ?_⟩
    · have := run_loadCells_list (P := P) w ⟨b, o + off, none⟩ ((us.drop off).take s) (fun j v hj => by
        rw [Addr.add_mid, Nat.add_assoc]
        refine hc _ _ ?_
        rw [List.getElem?_take] at hj
        split at hj
        · rwa [List.getElem?_drop] at hj
        · simp at hj)
      rw [hl] at this
      simp only [loadVar, Sem.run_bind, aggT_run hg, Result.andThen_ok, if_true, szT_run hs, this, Sem.run_pure]
    · exact ((hv.drop off).take s).1
    · exact ((hv.drop off).take s).2
    · intro u hu; exact ho u (List.mem_of_mem_drop (List.mem_of_mem_take hu))
  | false =>
    simp only [partA] at h
    obtain ⟨u, hu, hx⟩ := hv.get h
    refine ⟨u, ?_, hx⟩
    simp only [loadVar, Sem.run_bind, aggT_run hg, Result.andThen_ok, Bool.false_eq_true, if_false]
    simp [hc off u hu]

theorem CellsR.list {blk base size : Nat} {cs : List AV} (h : CellsR ρ I w blk base size cs) :
    ∃ us : List Value, VRs ρ I cs us ∧ (∀ u ∈ us, u.oneCell' = true) ∧ ∀ (i : Nat) (u : Value), us[i]? = some u → w.cell? ⟨blk, base + i, none⟩ = some u := by
  obtain ⟨arr, T, h1, h2, h3, h4⟩ := h
  have hl : ((arr.toList.drop base).take cs.length).length = cs.length := by simp; omega
  have hget : ∀ i, i < cs.length → ((arr.toList.drop base).take cs.length)[i]? = arr[base + i]? := fun i hi => by
    rw [List.getElem?_take, if_pos hi, List.getElem?_drop, Array.getElem?_toList]
  refine ⟨(arr.toList.drop base).take cs.length, VRs.of_get hl ?_, ?_, ?_⟩
  · intro i c u hc hu
    have hi := (List.getElem?_eq_some_iff.1 hc).1
    obtain ⟨u', hu', hv, _⟩ := h4 i c hc
    rw [hget i hi, hu'] at hu
    simp at hu; subst hu; exact hv
  · intro u hu
    obtain ⟨i, hu⟩ := List.getElem?_of_mem hu
    have hi : i < cs.length := by have := (List.getElem?_eq_some_iff.1 hu).1; rw [hl] at this; exact this
    obtain ⟨u', hu', _, ho⟩ := h4 i _ (List.getElem?_eq_getElem hi)
    rw [hget i hi, hu'] at hu
    simp at hu; subst hu; exact ho
  · intro i u hu
    have hi : i < cs.length := by have := (List.getElem?_eq_some_iff.1 hu).1; rw [hl] at this; exact this
    rw [hget i hi] at hu
    simp [World.cell?, h1, hu]

theorem load_sound (hs : Sim N ρ I β fr H a w) {t : TypeId} {g : Bool} {s : Nat} {x : SV} {r : AV} {v : Value} (hg : aggT P t = some g) (hz : szT P t = some s) (hx : SVR ρ I β x v) (h : loadS fr H g s x = some r) :
    ∃ u, (Instr.loadAt t v).run P w = .ok u w ∧ VR ρ I r u := by
  cases x with
  | un => simp [loadS] at h
  | bp t' off =>
    obtain ⟨b, hb, rfl⟩ := hx
    simp only [loadS] at h
    split at h <;> (first | (exfalso; simp at h; done) | skip)
    rename_i cs hcs
    obtain ⟨b', hb', hcell, _, _⟩ := hs.box t' cs hcs
    rw [hb] at hb'; simp at hb'; subst hb'
    obtain ⟨us, hv, ho, hc⟩ := hcell.list
    obtain ⟨u, hu, hr⟩ := run_loadVar_at (o := 0) (b := b) hg hz hv ho (fun i u hi => hc i u hi) h
    refine ⟨u, ?_, hr⟩
    have e0 : 0 + off = off := Nat.zero_add off
    rw [e0] at hu
    exact hu
  | av x =>
    simp only [loadS] at h
    unfold loadA at h
    split at h
    · cases hx with
      | rp cs us ad off h1 h2 h3 =>
        obtain ⟨u, hu, hr⟩ := run_loadVar_at (P := P) (w := w) (o := ad.off) (b := ad.block) hg hz (⟨h1, h2⟩ : VRs ρ I _ us) (by obtain ⟨_, ho, _⟩ := h3; exact ho) (fun i u hi => h3.cell hs.heap.imm hi) h
        exact ⟨u, by simpa [Instr.loadAt, Instr.sureAddr] using hu, hr⟩
    · cases hx with
      | ptr _ _ _ l hl =>
        split at h <;> simp at h
        rename_i ver' cs' hob
        obtain ⟨rfl, h⟩ := h
        obtain ⟨_, l', hl', hcell⟩ := hs.heap.obj _ _ hob
        rw [hl] at hl'; simp at hl'; subst hl'
        obtain ⟨us, hv, ho, hc⟩ := hcell.list
        obtain ⟨u, hu, hr⟩ := run_loadVar_at (o := l.base) (b := l.blk) hg hz hv ho (fun i u hi => hc i u hi) h
        exact ⟨u, by simpa [Instr.loadAt, Instr.sureAddr] using hu, hr⟩
    · simp at h

theorem plus_sound {x y : SV} {k : Nat} {v : Value} (hx : SVR ρ I β x v) (h : plusS k x = some y) : ∃ ad, v = .pointer (some ad) ∧ SVR ρ I β y (.pointer (some (ad.add k))) := by
  unfold plusS at h
  split at h <;> simp at h <;> subst h
  · cases hx with
    | rp _ us ad _ h1 h2 h3 => exact ⟨_, rfl, by rw [Addr.add_mid, Nat.add_assoc]; exact .rp _ us ad _ h1 h2 h3⟩
  · cases hx with
    | ptr _ _ _ l hl => exact ⟨_, rfl, by rw [Addr.add_mid, Nat.add_assoc]; exact .ptr _ _ _ l hl⟩
  · obtain ⟨b, hb, rfl⟩ := hx
    exact ⟨_, rfl, by rw [Addr.add_mid]; exact ⟨b, hb, rfl⟩⟩

theorem mapO_get {α β' : Type} {f : α → Option β'} : ∀ {xs : List α} {ys : List β'}, mapO f xs = some ys → ys.length = xs.length ∧ ∀ (i : Nat) (y : β'), ys[i]? = some y → ∃ x, xs[i]? = some x ∧ f x = some y
  | [], ys, h => by simp [mapO] at h; subst h; exact ⟨rfl, fun i y hy => by simp at hy⟩
  | x :: xs, ys, h => by
    simp only [mapO] at h
    split at h <;> simp at h
    subst h
    rename_i y ys' hy hys
    obtain ⟨h1, h2⟩ := mapO_get hys
    refine ⟨by simp [h1], fun i z hz => ?_⟩
    cases i with
    | zero => simp at hz; subst hz; exact ⟨x, rfl, hy⟩
    | succ i => obtain ⟨x', hx', hf⟩ := h2 i z (by simpa using hz); exact ⟨x', by simpa using hx', hf⟩
theorem mapO_vrs (hs : Sim N ρ I β fr H a w) {xs : List Operand} {ys : List AV} (h : mapO (opV fr) xs = some ys) : VRs ρ I ys (xs.map a.eval) := by
  obtain ⟨h1, h2⟩ := mapO_get h
  refine VRs.of_get (by simp [h1]) fun i c u hc hu => ?_
  obtain ⟨x, hx, hf⟩ := h2 i c hc
  simp [hx] at hu; subst hu
  exact opV_sound hs hf
end
end Go.Mx
