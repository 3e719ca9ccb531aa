/-
  The abstract machine: operations that change no memory: what they yield, and that the model's do.
-/
import Derived.Test.YtoakdmkjlpjahaaDoorMxB
namespace Go.Mx
open Go.RowKit
set_option linter.unusedVariables false

/-- What a program of the model's yields without looking at memory. -/
def runP (P : Program) {α : Type} : Sem α → Option α
  | .pure a => some a
  | .program k => runP P (k P)
  | _ => none
theorem runP_sound {P : Program} {α : Type} {e : Sem α} {x : α} {w : World} (h : runP P e = some x) : e.run P w = .ok x w := by
  induction e with
  | pure a => simp only [runP, Option.some.injEq] at h; subst h; rfl
  | program k ih => exact ih P h
  | _ => simp [runP] at h

@[simp] def bindO {α : Type} (o : Option α) (k : α → Prop) : Prop := match o with | some x => k x | none => False

/-! ### Lists of related values -/
section
variable {ρ : Rho} {I : Imm}
theorem VRs.get {cs : List AV} {us : List Value} (h : VRs ρ I cs us) {i : Nat} {c : AV} (hc : cs[i]? = some c) : ∃ u, us[i]? = some u ∧ VR ρ I c u := by
  have hi : i < us.length := by have := (List.getElem?_eq_some_iff.1 hc).1; rw [h.1]; exact this
  refine ⟨us[i], List.getElem?_eq_getElem hi, ?_⟩
  have := h.2 i c hc
  rwa [List.getD_eq_getElem?_getD, List.getElem?_eq_getElem hi] at this
theorem VRs.nil : VRs ρ I [] [] := ⟨rfl, fun i c hc => by simp at hc⟩
theorem VRs.cons {c : AV} {u : Value} {cs : List AV} {us : List Value} (h : VR ρ I c u) (hs : VRs ρ I cs us) : VRs ρ I (c :: cs) (u :: us) := by
  refine ⟨by simp [hs.1], fun i x hx => ?_⟩
  cases i with
  | zero => simp at hx; subst hx; simpa using h
  | succ i => simpa using hs.2 i x (by simpa using hx)
theorem VRs.of_get {cs : List AV} {us : List Value} (hl : us.length = cs.length) (h : ∀ (i : Nat) (c : AV) (u : Value), cs[i]? = some c → us[i]? = some u → VR ρ I c u) : VRs ρ I cs us := by
  refine ⟨hl, fun i c hc => ?_⟩
  have hi : i < us.length := by have := (List.getElem?_eq_some_iff.1 hc).1; omega
  rw [List.getD_eq_getElem?_getD, List.getElem?_eq_getElem hi]
  exact h i c _ hc (List.getElem?_eq_getElem hi)
theorem VRs.append {cs ds : List AV} {us vs : List Value} (h : VRs ρ I cs us) (k : VRs ρ I ds vs) : VRs ρ I (cs ++ ds) (us ++ vs) := by
  refine VRs.of_get (by simp [h.1, k.1]) fun i c u hc hu => ?_
  rcases Nat.lt_or_ge i cs.length with hi | hi
  · rw [List.getElem?_append_left hi] at hc
    rw [List.getElem?_append_left (by rw [h.1]; exact hi)] at hu
    obtain ⟨u', hu', hv⟩ := h.get hc
    rw [hu] at hu'; simp at hu'; subst hu'; exact hv
  · rw [List.getElem?_append_right hi] at hc
    rw [List.getElem?_append_right (by rw [h.1]; exact hi), h.1] at hu
    obtain ⟨u', hu', hv⟩ := k.get hc
    rw [hu] at hu'; simp at hu'; subst hu'; exact hv
theorem VRs.drop {cs : List AV} {us : List Value} (h : VRs ρ I cs us) (n : Nat) : VRs ρ I (cs.drop n) (us.drop n) := by
  refine VRs.of_get (by simp [h.1]) fun i c u hc hu => ?_
  rw [List.getElem?_drop] at hc hu
  obtain ⟨u', hu', hv⟩ := h.get hc
  rw [hu] at hu'; simp at hu'; subst hu'; exact hv
theorem VRs.take {cs : List AV} {us : List Value} (h : VRs ρ I cs us) (n : Nat) : VRs ρ I (cs.take n) (us.take n) := by
  refine VRs.of_get (by simp [h.1]) fun i c u hc hu => ?_
  rw [List.getElem?_take] at hc hu
  split at hc
  · rename_i hi
    rw [if_pos hi] at hu
    obtain ⟨u', hu', hv⟩ := h.get hc
    rw [hu] at hu'; simp at hu'; subst hu'; exact hv
  · simp at hc

/-- The cells of a memory that nobody writes. -/
theorem Rd.cell {w : World} {a : Addr} {us : List Value} (h : Rd I a us) (himm : ∀ b arr, I b = some arr → ∃ T fz, w.heap[b]? = some (.cells arr T fz)) {i : Nat} {u : Value} (hu : us[i]? = some u) :
    w.cell? ⟨a.block, a.off + i, none⟩ = some u := by
  obtain ⟨h0, ho, arr, h1, h2⟩ := h
  obtain ⟨T, fz, hb⟩ := himm _ _ h1
  have hi := (List.getElem?_eq_some_iff.1 hu).1
  have := h2 i hi
  rw [List.getD_eq_getElem?_getD, hu] at this
  simp [World.cell?, hb, this]
theorem Rd.drop {a : Addr} {us : List Value} (h : Rd I a us) (k : Nat) : Rd I ⟨a.block, a.off + k, none⟩ (us.drop k) := by
  obtain ⟨h0, ho, arr, h1, h2⟩ := h
  refine ⟨rfl, fun u hu => ho u (List.mem_of_mem_drop hu), arr, h1, fun i hi => ?_⟩
  have := h2 (k + i) (by simp at hi; omega)
  simp only [List.getD_eq_getElem?_getD, List.getElem?_drop] at this ⊢
  rw [← this]; congr 1; omega
theorem Rd.take {a : Addr} {us : List Value} (h : Rd I a us) (k : Nat) : Rd I a (us.take k) := by
  obtain ⟨h0, ho, arr, h1, h2⟩ := h
  refine ⟨h0, fun u hu => ho u (List.mem_of_mem_take hu), arr, h1, fun i hi => ?_⟩
  have hi' : i < k ∧ i < us.length := by simp at hi; omega
  have := h2 i hi'.2
  simp only [List.getD_eq_getElem?_getD, List.getElem?_take] at this ⊢
  rw [if_pos hi'.1]; exact this
end

/-! ### What operations yield, told without the program -/
def int64 (n : Int) : AV := .v (.int .i64 n)

def lenA : AV → Option AV
  | .v (.string s) => some (.v (.int .i64 s.size))
  | .v (.slice _ n _) => some (.v (.int .i64 n))
  | .row _ n _ => some (.v (.int .i64 n))
  | .sl _ _ _ _ n => some (.v (.int .i64 n))
  | .v (.map none) => some (.v (.int .i64 0))
  | _ => none

def lenM (H : Hp) : AV → Option AV
  | .mp id => match H[id]? with
    | some (.map es _) => some (.v (.int .i64 es.length))
    | _ => none
  | x => lenA x

/-- The cells of a value. -/
def cellsA : AV → List AV
  | .agg cs => cs
  | x => [x]
/-- It is no struct, no array, no tuple. -/
def oneA : AV → Bool
  | .agg _ => false
  | .tup _ => false
  | .v x => x.oneCell'
  | _ => true

def pickA (c a b : Option AV) : Option AV := match c with
  | some (.v (.bool t)) => match t with
    | true => a
    | false => b
  | _ => none

def extractA (t : AV) (i : Nat) : Option AV := match t with
  | .tup vs => vs[i]?
  | .v (.tuple vs) => (vs[i]?).map .v
  | _ => none

/-- Part of a struct or an array: 'agg': the part is one itself. -/
def partA (agg : Bool) (off sz : Nat) (cs : List AV) : Option AV :=
  match agg with
  | true => if off + sz ≤ cs.length then some (.agg ((cs.drop off).take sz)) else none
  | false => cs[off]?

def fieldA (agg : Bool) (off sz : Nat) : AV → Option AV
  | .agg cs => partA agg off sz cs
  | _ => none

/-- Memory is read. -/
def loadA (H : Hp) (agg : Bool) (sz : Nat) : AV → Option AV
  | .rp cs off => partA agg off sz cs
  | .ptr id ver off => match H[id]? with
    | some (.cells ver' cs) => if ver = ver' then partA agg off sz cs else none
    | _ => none
  | _ => none

def loadS (fr : Fr) (H : Hp) (agg : Bool) (sz : Nat) : SV → Option AV
  | .av x => loadA H agg sz x
  | .bp t off => match look t fr.boxes with
    | some cs => partA agg off sz cs
    | none => none
  | .un => none

/-- An address, so many cells on. -/
def plusS (k : Nat) : SV → Option SV
  | .av (.rp cs off) => some (.av (.rp cs (off + k)))
  | .av (.ptr id ver off) => some (.av (.ptr id ver (off + k)))
  | .bp t off => some (.bp t (off + k))
  | _ => none

/-- 'indexAddr' of a slice. -/
def indexAddrA (sz : Nat) : AV → AV → Option AV
  | .row _ n cs, .v (.int _ i) => if 0 ≤ i ∧ i < n then some (.rp cs (i.toNat * sz)) else none
  | .sl id ver _ off n, .v (.int _ i) => if 0 ≤ i ∧ i < n then some (.ptr id ver (off + i.toNat * sz)) else none
  | _, _ => none

/-- 'indexAddr' of an array's address. -/
def indexArrA (sz len : Nat) (x : SV) : AV → Option SV
  | .v (.int _ i) => if 0 ≤ i ∧ i < len then plusS (i.toNat * sz) x else none
  | _ => none

/-- The cells of a table that the heap holds: table g stands at place g. -/
def tabO (g : Nat) : Option Ob → Option (List Value)
  | some (.tab g' us) => if g' = g then some us else none
  | _ => none
/-- 'indexAddr' of a table's address. -/
def indexTabA (H : Hp) (sz len : Nat) (x : SV) (y : AV) : Option SV := match x, y with
  | .av (.v (.pointer (some ⟨g, 0, none⟩))), .v (.int _ i) => if 0 ≤ i ∧ i < len then (tabO g H[g]?).map fun us => .av (.rp (us.map .v) (i.toNat * sz)) else none
  | x, y => indexArrA sz len x y

/-- A byte of a text. -/
def indexStr : AV → AV → Option AV
  | .v (.string s), .v (.int _ i) => if h : 0 ≤ i ∧ i.toNat < s.size then some (.v (.int .u8 (s[i.toNat]'h.2).toNat)) else none
  | _, _ => none

/-- 'nilCheck' of an address. -/
def nilCheckS : SV → Option SV
  | .av (.rp cs off) => some (.av (.rp cs off))
  | .av (.ptr id ver off) => some (.av (.ptr id ver off))
  | .bp t off => some (.bp t off)
  | _ => none

def asI : AV → Option Int
  | .v (.int _ i) => some i
  | _ => none

/-- A text's part. -/
def sliceStr (s : ByteArray) (l h : Int) : Option AV := if 0 ≤ l ∧ l ≤ h ∧ h ≤ s.size then some (.v (.string (s.extract l.toNat h.toNat))) else none

/-- A slice's part. -/
def sliceRow (sz : Nat) (x : Bool) (n : Nat) (cs : List AV) (l h : Int) : Option AV :=
  if 0 ≤ l ∧ l ≤ h ∧ h ≤ n then some (.row false (h - l).toNat ((cs.drop (l.toNat * sz)).take ((h - l).toNat * sz))) else none
def sliceSl (sz : Nat) (id ver s off n : Nat) (l h : Int) : Option AV :=
  if s = sz then (if 0 ≤ l ∧ l ≤ h ∧ h ≤ n then (if l < n then some (.sl id ver sz (off + l.toNat * sz) (h - l).toNat) else some (.row false 0 [])) else none) else none

/-- x[lo:hi] of a text or a slice ('sz': a slice's element). -/
def sliceA (sz : Nat) (x : AV) (lo hi : Option AV) : Option AV :=
  match x with
  | .v (.string s) => match lo, hi with
    | none, none => sliceStr s 0 s.size
    | some (.v (.int _ l)), none => sliceStr s l s.size
    | none, some (.v (.int _ h)) => sliceStr s 0 h
    | some (.v (.int _ l)), some (.v (.int _ h)) => sliceStr s l h
    | _, _ => none
  | .row x n cs => match lo, hi with
    | some (.v (.int _ l)), none => sliceRow sz x n cs l n
    | none, some (.v (.int _ h)) => sliceRow sz x n cs 0 h
    | some (.v (.int _ l)), some (.v (.int _ h)) => sliceRow sz x n cs l h
    | _, _ => none
  | .sl id ver s off n => match lo, hi with
    | some (.v (.int _ l)), none => sliceSl sz id ver s off n l n
    | none, some (.v (.int _ h)) => sliceSl sz id ver s off n 0 h
    | some (.v (.int _ l)), some (.v (.int _ h)) => sliceSl sz id ver s off n l h
    | _, _ => none
  | .v (.slice none 0 0) => match lo, hi with
    | some (.v (.int _ l)), none => if l = 0 then some (.v (.slice none 0 0)) else none
    | none, some (.v (.int _ h)) => if h = 0 then some (.v (.slice none 0 0)) else none
    | _, _ => none
  | _ => none

/-- Bytes as values, and back. -/
def u8A (b : UInt8) : AV := .v (.int .u8 b.toNat)
def byteOf : AV → Option UInt8
  | .v (.int .u8 n) => some (UInt8.ofNat n.toNat)
  | _ => none
def bytesOf : List AV → Option (List UInt8)
  | [] => some []
  | c :: cs => match byteOf c, bytesOf cs with
    | some b, some bs => some (b :: bs)
    | _, _ => none
@[simp] theorem bytesOf_u8 (bs : List UInt8) : bytesOf (bs.map u8A) = some bs := by
  induction bs with
  | nil => rfl
  | cons b bs ih => simp [bytesOf, byteOf, u8A, ih]

/-- string(b). -/
def strOf (H : Hp) : AV → Option AV
  | .v (.slice none _ _) => some (.v (.string .empty))
  | .row _ n cs => if cs.length = n then (bytesOf cs).map fun bs => .v (.string ⟨bs.toArray⟩) else none
  | .sl id ver sz off n => match H[id]? with
    | some (.cells ver' cs) => if ver = ver' ∧ off + n ≤ cs.length then (bytesOf ((cs.drop off).take n)).map fun bs => .v (.string ⟨bs.toArray⟩) else none
    | _ => none
  | _ => none

/-- What '==' of a type goes by. -/
inductive TK where
  | num | bool | str | ptr | map | func | slice | agg | other

/-- References held against nil: they are equal, or not. -/
def eqRef : TK → AV → AV → Option Bool
  | .ptr, .ptr _ _ _, .v (.pointer none) => some false
  | .ptr, .v (.pointer none), .ptr _ _ _ => some false
  | .ptr, .rp _ _, .v (.pointer none) => some false
  | .ptr, .v (.pointer none), .v (.pointer none) => some true
  | .map, .mp _, .v (.map none) => some false
  | .map, .v (.map none), .mp _ => some false
  | .map, .v (.map none), .v (.map none) => some true
  | .func, .fn _ _ _, .v .nilFunc => some false
  | .slice, .sl _ _ _ _ _, .v (.slice none _ _) => some false
  | .slice, .row _ (_ + 1) _, .v (.slice none _ _) => some false
  | .slice, .v (.slice none _ _), .v (.slice none _ _) => some true
  | .bool, .v (.bool a), .v (.bool b) => some (a == b)
  | _, _, _ => none

/-- Sums of texts. -/
def addStr (a b : ByteArray) : Option AV := if a.size + b.size ≤ 4611686018427387904 then some (.v (.string (a ++ b))) else none

/-- Structs and arrays held against one another, cell by cell. -/
def eqCell : AV → AV → Option Bool
  | .v (.int k a), .v (.int k' b) => if k = k' then some (a == b) else none
  | .v (.bool a), .v (.bool b) => some (a == b)
  | .v (.string a), .v (.string b) => some (a == b)
  | _, _ => none
def eqCells : List AV → List AV → Option Bool
  | [], [] => some true
  | a :: as, b :: bs => match eqCell a b, eqCells as bs with
    | some x, some y => some (x && y)
    | _, _ => none
  | _, _ => none

end Go.Mx
