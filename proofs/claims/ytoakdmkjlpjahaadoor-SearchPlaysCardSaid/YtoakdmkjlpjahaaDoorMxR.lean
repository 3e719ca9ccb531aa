/-
  The abstract machine: each kind of operation as one step.
-/
import Derived.Test.YtoakdmkjlpjahaaDoorMxQ
namespace Go.Mx
open Go.RowKit
set_option linter.unusedVariables false
set_option linter.unusedSimpArgs false

theorem emod_le {x : Int} (h : 0 ≤ x) (m : Nat) : x % 2 ^ m ≤ x := by
  obtain ⟨n, rfl⟩ := Int.eq_ofNat_of_zero_le h
  have := Nat.mod_le n (2 ^ m)
  have e : ((n : Int) % 2 ^ m) = ((n % 2 ^ m : Nat) : Int) := by simp
  rw [e]; omega
def shlI (k : IntKind) (a b : Int) : Int := k.wrap (a * 2 ^ (min b.toNat k.bits))
def shrI (k : IntKind) (a b : Int) : Int := a.fdiv (2 ^ (min b.toNat k.bits))
def andI (k : IntKind) (a b : Int) : Int := k.wrap ((BitVec.ofInt k.bits a &&& BitVec.ofInt k.bits b).toNat : Int)
def andNotI (k : IntKind) (a b : Int) : Int := k.wrap ((BitVec.ofInt k.bits a &&& ~~~ BitVec.ofInt k.bits b).toNat : Int)
def orI (k : IntKind) (a b : Int) : Int := k.wrap ((BitVec.ofInt k.bits a ||| BitVec.ofInt k.bits b).toNat : Int)
def xorI (k : IntKind) (a b : Int) : Int := k.wrap ((BitVec.ofInt k.bits a ^^^ BitVec.ofInt k.bits b).toNat : Int)
theorem shrI_eq (k : IntKind) (a : Int) (s : Nat) (h : s ≤ k.bits) : shrI k a s = a / 2 ^ s := by
  unfold shrI
  rw [show ((s : Int)).toNat = s from rfl, Nat.min_eq_left h]
  exact Int.fdiv_eq_ediv_of_nonneg _ (Int.le_of_lt (Int.pow_pos (by decide)))
theorem shlI_eq (k : IntKind) (a : Int) (s : Nat) (h : s ≤ k.bits) : shlI k a s = k.wrap (a * 2 ^ s) := by
  unfold shlI
  rw [show ((s : Int)).toNat = s from rfl, Nat.min_eq_left h]
theorem andI_u64 (x y : Int) (m : Nat) (h : 0 ≤ x ∧ x < 18446744073709551616) (hy : y = 2 ^ m - 1) (hm : m ≤ 64) : andI .u64 x y = x % 2 ^ m := by
  unfold andI
  show IntKind.u64.wrap ((BitVec.ofInt 64 x &&& BitVec.ofInt 64 y).toNat : Int) = _
  rw [bv_mask m (by simpa using h) hy hm]
  have := Int.emod_nonneg x (b := 2 ^ m) (Int.ne_of_gt (Int.pow_pos (by decide)))
  have h2 : x % 2 ^ m ≤ x := emod_le h.1 m
  exact wr_u64 ⟨this, by omega⟩
theorem orI_u64 (x y : Int) (m : Nat) (q : Int) (hx : x = q * 2 ^ m) (h0 : 0 ≤ q) (hn : x + y < 18446744073709551616) (hy : 0 ≤ y ∧ y < 2 ^ m) (hm : m ≤ 64) : orI .u64 x y = x + y := by
  unfold orI
  show IntKind.u64.wrap ((BitVec.ofInt 64 x ||| BitVec.ofInt 64 y).toNat : Int) = _
  have hx0 : 0 ≤ x := by rw [hx]; exact Int.mul_nonneg h0 (Int.le_of_lt (Int.pow_pos (by decide)))
  rw [bv_or m q hx h0 (by simp; omega) hy hm]
  exact wr_u64 ⟨by omega, by omega⟩
theorem andI_i64 (x y : Int) (m : Nat) (h : 0 ≤ x ∧ x < 9223372036854775808) (hy : y = 2 ^ m - 1) (hm : m ≤ 64) : andI .i64 x y = x % 2 ^ m := by
  unfold andI
  show IntKind.i64.wrap ((BitVec.ofInt 64 x &&& BitVec.ofInt 64 y).toNat : Int) = _
  rw [bv_mask m (by simp; omega) hy hm]
  have := Int.emod_nonneg x (b := 2 ^ m) (Int.ne_of_gt (Int.pow_pos (by decide)))
  have h2 : x % 2 ^ m ≤ x := emod_le h.1 m
  exact wr_i64 ⟨by omega, by omega⟩
theorem andI_u8 (x y : Int) (m : Nat) (h : 0 ≤ x ∧ x < 256) (hy : y = 2 ^ m - 1) (hm : m ≤ 8) : andI .u8 x y = x % 2 ^ m := by
  unfold andI
  show IntKind.u8.wrap ((BitVec.ofInt 8 x &&& BitVec.ofInt 8 y).toNat : Int) = _
  rw [bv_mask m (by simpa using h) hy hm]
  have := Int.emod_nonneg x (b := 2 ^ m) (Int.ne_of_gt (Int.pow_pos (by decide)))
  have h2 : x % 2 ^ m ≤ x := emod_le h.1 m
  exact wr_u8 ⟨this, by omega⟩
/-- An operation, behind its guard. -/
def opK (P : Program) (N : Nat) (cf : Cfg) (o : Oper) (k : Fr → Hp → Prop) (fr : Fr) (H : Hp) : Prop := opA P N cf fr H o k
/-- An operation that its guard keeps from running. -/
def putV (N : Nat) (d : Option Nat) (k : Fr → Hp → Prop) (fr : Fr) (H : Hp) : Prop := putK N d (.av (.v undef)) fr (fun fr' => k fr' H)
def putH (N : Nat) (d : Option Nat) (x : SV) (fr : Fr) (H : Hp) (k : Fr → Hp → Prop) : Prop := putK N d x fr (fun fr' => k fr' H)
def putC (N : Nat) (d : Option Nat) (fr : Fr) (k : Fr → Hp → Prop) (v : AV) (H : Hp) : Prop := putK N d (.av v) fr (fun fr' => k fr' H)
def putU (N : Nat) (d : Option Nat) (k : Fr → Hp → Prop) (fr : Fr) (H : Hp) : Prop := putK N d .un fr (fun fr' => k fr' H)
def putO (N : Nat) (d : Option Nat) (x : Option SV) (fr : Fr) (H : Hp) (k : Fr → Hp → Prop) : Prop := match x with
  | some x => putH N d x fr H k
  | none => False
def condB (fr : Fr) (H : Hp) (x : Operand) (A B : Fr → Hp → Prop) (v : Option SV) : Prop := match v with
  | some (.av (.v (.bool b))) => Cond b (A (fr.known x true) H) (B (fr.known x false) H)
  | _ => False
/-- One operation, its guard looked at. -/
def opU (P : Program) (N : Nat) (cf : Cfg) (fr : Fr) (H : Hp) (o : Oper) (want : Bool) (s : Nat) (k : Fr → Hp → Prop) (u : Bool) : Prop := match u, want with
  | true, _ => putV N o.dst k fr H
  | false, true => condB fr H (.tmp s) (opK P N cf o k) (putV N o.dst k) (look s fr.slots)
  | false, false => condB fr H (.tmp s) (putV N o.dst k) (opK P N cf o k) (look s fr.slots)
theorem opU_true (P : Program) (N : Nat) (cf : Cfg) (fr : Fr) (H : Hp) (o : Oper) (want : Bool) (s : Nat) (k : Fr → Hp → Prop) : opU P N cf fr H o want s k true = putV N o.dst k fr H := by cases want <;> rfl
theorem opU_ft (P : Program) (N : Nat) (cf : Cfg) (fr : Fr) (H : Hp) (o : Oper) (s : Nat) (k : Fr → Hp → Prop) : opU P N cf fr H o true s k false = condB fr H (.tmp s) (opK P N cf o k) (putV N o.dst k) (look s fr.slots) := rfl
theorem opU_ff (P : Program) (N : Nat) (cf : Cfg) (fr : Fr) (H : Hp) (o : Oper) (s : Nat) (k : Fr → Hp → Prop) : opU P N cf fr H o false s k false = condB fr H (.tmp s) (putV N o.dst k) (opK P N cf o k) (look s fr.slots) := rfl
theorem isU_undef : isU (some (.av (.v undef))) = true := rfl
theorem isU_bool (b : Bool) : isU (some (.av (.v (.bool b)))) = false := rfl
def opJ (P : Program) (N : Nat) (cf : Cfg) (fr : Fr) (H : Hp) (o : Oper) (want : Bool) (s : Option Nat) (k : Fr → Hp → Prop) : Prop := match s with
  | some s => opU P N cf fr H o want s k (isU (look s fr.slots))
  | none => False
def avOf : Option SV → Option AV
  | some (.av a) => some a
  | _ => none
def avO (x : Option AV) : Option SV := x.map .av
def binT (k : TK) (op : BinOp) (x y : Option AV) : Option SV := match x, y with
  | some a, some b => (binA k op a b).map .av
  | _, _ => none
def pickT (c : Option SV) (a b : Option SV) : Option SV := match c with
  | some (.av (.v (.bool t))) => match t with
    | true => a
    | false => b
  | _ => none
def unT (op : UnOp) (x : Option AV) : Option SV := match x with
  | some a => (unA op a).map .av
  | none => none
def extractT (i : Nat) (x : Option AV) : Option SV := match x with
  | some a => (extractA a i).map .av
  | none => none
def loadT (fr : Fr) (H : Hp) (g : Option Bool) (s : Option Nat) (x : Option SV) : Option SV := match g, s, x with
  | some g, some s, some a => (loadS fr H g s a).map .av
  | _, _, _ => none
def nilCheckT (x : Option SV) : Option SV := match x with
  | some a => nilCheckS a
  | none => none
def lenT (H : Hp) (t : Option TypeDesc) (x : Option AV) : Option SV := match t, x with
  | some .string, some a => (match a with | .v (.string s) => some (.av (.v (.int .i64 s.size))) | _ => none)
  | some (.slice _), some a => (match a with | .v (.string _) => none | .v (.map _) => none | a => (lenA a).map .av)
  | some (.map _ _), some a => (match a with | .mp id => (lenM H (.mp id)).map .av | .v (.map none) => some (.av (.v (.int .i64 0))) | _ => none)
  | some (.array n _), some _ => some (.av (.v (.int .i64 n)))
  | _, _ => none
def maxT (x y : Option AV) : Option SV := match x, y with
  | some a, some b => (maxA a b).map .av
  | _, _ => none
def minT (x y : Option AV) : Option SV := match x, y with
  | some a, some b => (minA a b).map .av
  | _, _ => none
def fieldT (P : Program) (f : Nat) (t : Option TypeDesc) (x : Option AV) : Option SV := match t, x with
  | some (.struct fs), some a => match fs[f]? with
    | some fd => match aggT P fd.type, szT P fd.type with
      | some g, some s => (fieldA g fd.offset s a).map .av
      | _, _ => none
    | none => none
  | _, _ => none
def fieldAddrT (P : Program) (f : Nat) (t : Option TypeDesc) (x : Option SV) : Option SV := match t, x with
  | some (.struct fs), some a => match fs[f]? with
    | some fd => match szT P fd.type with
      | some (s + 1) => plusS fd.offset a
      | _ => none
    | none => none
  | _, _ => none
def indexT (P : Program) (t : Option TypeDesc) (x i : Option AV) : Option SV := match t, x, i with
  | some .string, some a, some b => (indexStr a b).map .av
  | some (.array n e), some (.agg cs), some (.v (.int _ j)) => match aggT P e, szT P e with
    | some g, some s => if 0 ≤ j ∧ j < n then (partA g (j.toNat * s) s cs).map .av else none
    | _, _ => none
  | _, _, _ => none
def indexAddrT (P : Program) (H : Hp) (t : Option TypeDesc) (x : Option SV) (i : Option AV) : Option SV := match t, x, i with
  | some (.slice e), some (.av a), some b => match szT P e with
    | some s => (indexAddrA s a b).map .av
    | none => none
  | some (.array n e), some a, some b => match szT P e with
    | some s => indexTabA H s n a b
    | none => none
  | _, _, _ => none

def allocT (N : Nat) (loc : Bool) (d : Option Nat) (fr : Fr) (H : Hp) (k : Fr → Hp → Prop) (z : Option (List AV)) : Prop := match z with
  | some zs => newK N loc d zs fr H k
  | none => False
def boxT (N : Nat) (loc : Bool) (d : Option Nat) (fr : Fr) (H : Hp) (k : Fr → Hp → Prop) (x : Option AV) : Prop := match x with
  | some a => if okPart a = true then newK N loc d (cellsA a) fr H k else False
  | none => False
def storeT (N : Nat) (d : Option Nat) (fr : Fr) (H : Hp) (k : Fr → Hp → Prop) (s : Option Nat) (a : Option SV) (x : Option AV) : Prop := match s, a, x with
  | some s, some a, some y => storeS fr H s a y (putU N d k)
  | _, _, _ => False
def buildSliceT (P : Program) (N : Nat) (own : Bool) (d : Option Nat) (fr : Fr) (H : Hp) (k : Fr → Hp → Prop) (len : Nat) (parts : List (Nat × Operand)) (t : Option TypeDesc) : Prop := match t with
  | some (.slice e) => match zerosT P e, szT P e, mapO (fun (p : Nat × Operand) => opV fr p.2) parts with
    | some zs, some s, some ys => if zs.length = s ∧ len * s ≤ 16777216 ∧ len ≤ 16777216 then
        bindO (fillA (repeatL len zs) ((parts.zip ys).map fun q => (q.1.1 * s, s, q.2))) fun cs => match own with
        | true => putH N d (.av (.sl H.length 0 s 0 len)) fr (H ++ [.cells 0 cs]) k
        | false => putH N d (.av (.row true len cs)) fr H k else False
    | _, _, _ => False
  | _ => False
def makeSliceT (P : Program) (N : Nat) (d : Option Nat) (fr : Fr) (H : Hp) (k : Fr → Hp → Prop) (t : Option TypeDesc) (l c : Option AV) : Prop := match t with
  | some (.slice e) => match zerosT P e, szT P e, (P.info? e).map (·.bytes), l, c with
    | some zs, some s, some b, some x, some y => if s = zs.length then makeA H b zs x y (putC N d fr k) else False
    | _, _, _, _, _ => False
  | _ => False
def appendT (P : Program) (N : Nat) (d : Option Nat) (fr : Fr) (H : Hp) (k : Fr → Hp → Prop) (tx : TypeId) (t : Option TypeDesc) (x y : Option AV) : Prop := match t with
  | some (.slice e) => match zerosT P e, szT P e, (P.info? e).map (·.bytes), x, y with
    | some zs, some sz, some b, some x, some y => if zs.length = sz ∧ srcTy P tx y = true then appA H sz b x y (putC N d fr k) else False
    | _, _, _, _, _ => False
  | _ => False
def copyT (P : Program) (N : Nat) (d : Option Nat) (fr : Fr) (H : Hp) (k : Fr → Hp → Prop) (tx : TypeId) (t : Option TypeDesc) (x y : Option AV) : Prop := match t with
  | some (.slice e) => match szT P e, x, y with
    | some sz, some x, some y => if srcTy P tx y = true then copyA H sz x y (putC N d fr k) else False
    | _, _, _ => False
  | _ => False
def convV (P : Program) (H : Hp) (s d : Option TypeDesc) (x : Option AV) : Option SV := match s, d, x with
  | some _, some (.int k), some a => (convInt k a).map .av
  | some (.slice e), some .string, some a => match P.underlying e with
    | some (.int .u8) => (strOf H a).map .av
    | _ => none
  | some _, some .string, some a => (convStr a).map .av
  | _, _, _ => none
def convC (P : Program) (H : Hp) (s d : Option TypeDesc) (x : Option AV) : Option SV := match s, d, x with
  | some .string, some (.slice e), some (.v (.string s)) => (match P.underlying e with
    | some (.int .u8) => some (.av (.row false s.size (s.data.toList.map u8A)))
    | _ => none)
  | _, _, _ => convV P H s d x
def convT (P : Program) (N : Nat) (dd : Option Nat) (fr : Fr) (H : Hp) (k : Fr → Hp → Prop) (src dst : TypeId) (s d : Option TypeDesc) (x : Option AV) : Prop := match s, d, x with
  | some .string, some (.slice e), some (.v (.string s)) => match P.underlying e with
    | some (.int .u8) => putH N dd (.av (.row false s.size (s.data.toList.map u8A))) fr H k
    | _ => False
  | some (.slice _), some (.slice e), some (.sl id ver sz off n) => match P.underlying e, H[id]? with
    | some (.int .u8), some (.cells v cs) => if src = dst ∧ v = ver ∧ off = 0 ∧ n = cs.length then putH N dd (.av (.row false n cs)) fr (H.set id .dead) k else False
    | _, _ => False
  | _, _, _ => putO N dd (convV P H s d x) fr H k
def makeMapT (N : Nat) (d : Option Nat) (fr : Fr) (H : Hp) (k : Fr → Hp → Prop) (t : Option TypeDesc) : Prop := match t with
  | some (.map _ _) => putH N d (.av (.mp H.length)) fr (H ++ [.map [] 0]) k
  | _ => False
def bndT (fr : Fr) (x : Option Operand) : Option AV := x.map (fun y => (opV fr y).getD (.v undef))
def sliceT (P : Program) (H : Hp) (t : Option TypeDesc) (x : Option SV) (lo hi : Option AV) : Option SV := match t, x with
  | some .string, some (.av (.v (.string s))) => (sliceA 0 (.v (.string s)) lo hi).map .av
  | some (.slice e), some (.av a) => match szT P e with
    | some s => (match a with
      | .v (.string _) => none
      | a => (sliceA s a lo hi).map .av)
    | none => none
  | some (.array n e), some (.av a) => match lo, hi, szT P e with
    | none, none, some s => (sliceArr H s n a).map .av
    | _, _, _ => none
  | _, _ => none
def fnT (f : Fn) (xs ys : Option (List AV)) : Option SV := match xs, ys with
  | some xs, some ys => some (.av (.fn f xs ys))
  | _, _ => none
def buildT (P : Program) (fr : Fr) (parts : List (Nat × Operand)) (i : Option TypeInfo) (t : Option TypeDesc) : Option SV := match i, t with
  | some i, some (.struct fs) => match i.zero, mapO (fun (f : Field) => (szT P f.type).map fun s => (f.offset, s)) fs.toList with
    | some z, some pl => match z.cells.toList.all Value.oneCell', mapO (fun (p : Nat × Operand) => match pl[p.1]?, opV fr p.2 with
        | some q, some a => some (q.1, q.2, a)
        | _, _ => none) parts with
      | true, some ps => (fillA (z.cells.toList.map .v) ps).map fun cs => .av (.agg cs)
      | _, _ => none
    | _, _ => none
  | some i, some (.array n e) => match i.zero, (szT P e).map (fun s => (List.range n).map fun i => (i * s, s)) with
    | some z, some pl => match z.cells.toList.all Value.oneCell', mapO (fun (p : Nat × Operand) => match pl[p.1]?, opV fr p.2 with
        | some q, some a => some (q.1, q.2, a)
        | _, _ => none) parts with
      | true, some ps => (fillA (z.cells.toList.map .v) ps).map fun cs => .av (.agg cs)
      | _, _ => none
    | _, _ => none
  | _, _ => none

theorem bytesOf_nil : bytesOf [] = some [] := rfl
theorem bytesOf_one (b : UInt8) (r : List AV) : bytesOf (u8A b :: r) = (bytesOf r).map (b :: ·) := by
  simp only [bytesOf, u8A, byteOf]
  cases bytesOf r <;> simp
theorem repeatL_0 {α : Type} (z : List α) : repeatL 0 z = [] := rfl
theorem repeatL_1 {α : Type} (z : List α) : repeatL 1 z = z := by simp [repeatL]
theorem repeatL_2 {α : Type} (z : List α) : repeatL 2 z = z ++ z := by simp [repeatL, List.replicate]
theorem repeatL_3 {α : Type} (z : List α) : repeatL 3 z = z ++ (z ++ z) := by simp [repeatL, List.replicate]
theorem repeatL_4 {α : Type} (z : List α) : repeatL 4 z = z ++ (z ++ (z ++ z)) := by simp [repeatL, List.replicate]
/-- Where a structure's fields lie, and how wide they are. -/
def offsT (P : Program) (t : TypeId) : Option (List (Nat × Nat)) := match P.underlying t with
  | some (.struct fs) => mapO (fun (f : Field) => (szT P f.type).map fun s => (f.offset, s)) fs.toList
  | some (.array n e) => (szT P e).map (fun s => (List.range n).map fun i => (i * s, s))
  | _ => none
def partsZ (fr : Fr) (pl : List (Nat × Nat)) : List (Nat × Operand) → Option (List (Nat × Nat × AV))
  | [] => some []
  | (i, x) :: r => match pl[i]?, opV fr x, partsZ fr pl r with
    | some q, some a, some l => some ((q.1, q.2, a) :: l)
    | _, _, _ => none
def aggO (x : Option (List AV)) : Option SV := match x with
  | some cs => some (.av (.agg cs))
  | none => none
def fillO (z : List AV) (ps : Option (List (Nat × Nat × AV))) : Option SV := match ps with
  | some ps => aggO (fillA z ps)
  | none => none
def buildZ (fr : Fr) (parts : List (Nat × Operand)) (z : Option (List AV)) (pl : Option (List (Nat × Nat))) : Option SV := match z, pl with
  | some z, some pl => fillO z (partsZ fr pl parts)
  | _, _ => none
theorem partsZ_eq (fr : Fr) (pl : List (Nat × Nat)) : ∀ l : List (Nat × Operand), mapO (fun (p : Nat × Operand) => match pl[p.1]?, opV fr p.2 with
        | some q, some a => some (q.1, q.2, a)
        | _, _ => none) l = partsZ fr pl l
  | [] => rfl
  | (i, x) :: r => by
    simp only [mapO, partsZ, partsZ_eq fr pl r]
    cases pl[i]? <;> cases opV fr x <;> cases partsZ fr pl r <;> rfl
theorem buildT_eq (P : Program) (fr : Fr) (parts : List (Nat × Operand)) (t : TypeId) : buildT P fr parts (P.info? t) (P.underlying t) = buildZ fr parts (zerosT P t) (offsT P t) := by
  simp only [buildT, zerosT, offsT]
  cases P.info? t with
  | none => rfl
  | some i =>
    cases P.underlying t with
    | none => simp [buildZ]
    | some td =>
      cases td <;> (first | (simp [buildZ]; done) | skip)
      · rename_i n e
        simp only []
        cases i.zero with
        | none => simp [buildZ]
        | some z =>
          simp only [partsZ_eq]
          cases (szT P e).map (fun s => (List.range n).map fun i => (i * s, s)) with
          | none => simp [buildZ]
          | some pl =>
            simp only [buildZ, fillO]
            cases hz : z.cells.toList.all Value.oneCell' with
            | false => simp
            | true =>
              simp only [if_true]
              cases partsZ fr pl parts with
              | none => rfl
              | some ps => simp only [aggO]; cases fillA (z.cells.toList.map .v) ps <;> rfl
      · rename_i fs
        simp only []
        cases i.zero with
        | none => simp [buildZ]
        | some z =>
          simp only [partsZ_eq]
          cases mapO (fun (f : Field) => (szT P f.type).map fun s => (f.offset, s)) fs.toList with
          | none => simp [buildZ]
          | some pl =>
            simp only [buildZ, fillO]
            cases hz : z.cells.toList.all Value.oneCell' with
            | false => simp
            | true =>
              simp only [if_true]
              cases partsZ fr pl parts with
              | none => rfl
              | some ps => simp only [aggO]; cases fillA (z.cells.toList.map .v) ps <;> rfl

def orO (x y : Option SV) : Option SV := match x with
  | some a => some a
  | none => y
theorem orO_some (a : SV) (y : Option SV) : orO (some a) y = some a := rfl
theorem orO_none (y : Option SV) : orO none y = y := rfl
noncomputable def eqT (P : Program) (t : TypeId) (op : BinOp) (x y : Option AV) : Option SV := match x, y with
  | some a, some b => avO (eqAgg P t op a b)
  | _, _ => none
theorem eqT_some (P : Program) (t : TypeId) (op : BinOp) (a b : AV) : eqT P t op (some a) (some b) = avO (eqAgg P t op a b) := rfl
noncomputable def lookT (P : Program) (H : Hp) (t : TypeId) (ok : Bool) (x y : Option AV) : Option SV := match x, y with
  | some a, some b => avO (lookV P H t a b ok)
  | _, _ => none
theorem lookT_some (P : Program) (H : Hp) (t : TypeId) (ok : Bool) (a b : AV) : lookT P H t ok (some a) (some b) = avO (lookV P H t a b ok) := rfl
def updT (P : Program) (H : Hp) (t : TypeId) (k : Hp → Prop) (x y z : Option AV) : Prop := match x, y, z with
  | some a, some b, some c => updA P H t a b c k
  | _, _, _ => False
theorem updT_some (P : Program) (H : Hp) (t : TypeId) (k : Hp → Prop) (a b c : AV) : updT P H t k (some a) (some b) (some c) = updA P H t a b c k := rfl
def delT (P : Program) (H : Hp) (t : TypeId) (k : Hp → Prop) (x y : Option AV) : Prop := match x, y with
  | some a, some b => delA P H t a b k
  | _, _ => False
theorem delT_some (P : Program) (H : Hp) (t : TypeId) (k : Hp → Prop) (a b : AV) : delT P H t k (some a) (some b) = delA P H t a b k := rfl
def clearT (H : Hp) (k : Hp → Prop) (t : Option TypeDesc) (x : Option AV) : Prop := match t, x with
  | some (.map _ _), some a => clearA H a k
  | _, _ => False
theorem clearT_some (H : Hp) (k : Hp → Prop) (kt et : TypeId) (a : AV) : clearT H k (some (.map kt et)) (some a) = clearA H a k := rfl
def rangeT (P : Program) (H : Hp) (t : TypeId) (k : AV → Hp → Prop) (x : Option AV) : Prop := match x with
  | some a => rangeA P H t a k
  | none => False
theorem rangeT_some (P : Program) (H : Hp) (t : TypeId) (k : AV → Hp → Prop) (a : AV) : rangeT P H t k (some a) = rangeA P H t a k := rfl
def nextT (H : Hp) (b : Bool) (k : AV → Hp → Prop) (x : Option AV) : Prop := match x with
  | some a => nextA H a b k
  | none => False
theorem nextT_some (H : Hp) (b : Bool) (k : AV → Hp → Prop) (a : AV) : nextT H b k (some a) = nextA H a b k := rfl
def entryT (H : Hp) (x : Option AV) : Option SV := match x with
  | some a => avO (entryA H a)
  | none => none
theorem entryT_some (H : Hp) (a : AV) : entryT H (some a) = avO (entryA H a) := rfl
def makeMapH (N : Nat) (d : Option Nat) (fr : Fr) (H : Hp) (k : Fr → Hp → Prop) (t : Option TypeDesc) (x : Option AV) : Prop := match t, x with
  | some (.map _ _), some (.v (.int _ _)) => putH N d (.av (.mp H.length)) fr (H ++ [.map [] 0]) k
  | _, _ => False

section
variable {P : Program} {N : Nat} {cf : Cfg} {fr : Fr} {H : Hp} {k : Fr → Hp → Prop} {d : Option Nat} {ty : TypeId} {pos : String} {af : Array Edge} {g : Option (Nat × Bool)}

theorem opA_move (x : Operand) : opA P N cf fr H ⟨d, .move x, ty, pos, af, g⟩ k = putO N d (opS fr x) fr H k := (rfl)
theorem opA_assign (x : Operand) : opA P N cf fr H ⟨d, .assign x, ty, pos, af, g⟩ k = putO N d (opS fr x) fr H k := (rfl)
theorem opA_pick (c a b : Operand) : opA P N cf fr H ⟨d, .pick c a b, ty, pos, af, g⟩ k = putO N d (pickT (opS fr c) (opS fr a) (opS fr b)) fr H k := (rfl)
theorem binT_or (x y : Option AV) (t : TypeId) (op : BinOp) : (match x, y with
    | some a, some b => match binA (tkOf P t) op a b with
      | some r => some (SV.av r)
      | none => (eqAgg P t op a b).map .av
    | _, _ => none) = orO (binT (tkOf P t) op x y) (eqT P t op x y) := by
  cases x with
  | none => cases y <;> rfl
  | some a => cases y with
    | none => rfl
    | some b =>
      simp only [binT, eqT]
      cases binA (tkOf P t) op a b with
      | some r => rfl
      | none => cases eqAgg P t op a b <;> rfl
theorem opA_bin (op : BinOp) (t t2 : TypeId) (x y : Operand) : opA P N cf fr H ⟨d, .binOp op t x y t2, ty, pos, af, g⟩ k = putO N d (orO (binT (tkOf P t) op (opV fr x) (opV fr y)) (eqT P t op (opV fr x) (opV fr y))) fr H k := by
  rw [← binT_or]; rfl
theorem opA_lookup (t : TypeId) (x i : Operand) (ok : Bool) : opA P N cf fr H ⟨d, .lookup t x i ok, ty, pos, af, g⟩ k = putO N d (lookT P H t ok (opV fr x) (opV fr i)) fr H k := by
  unfold lookT
  show putO N d _ fr H k = _
  simp only [valS]
  cases opV fr x <;> cases opV fr i <;> rfl
theorem opA_makeMap2 (t : TypeId) (x : Operand) : opA P N cf fr H ⟨d, .makeMap t (some x), ty, pos, af, g⟩ k = makeMapH N d fr H k (P.underlying t) (opV fr x) := (rfl)
theorem opA_upd (t : TypeId) (m i x : Operand) : opA P N cf fr H ⟨d, .mapUpdate t m i x, ty, pos, af, g⟩ k = updT P H t (putU N d k fr) (opV fr m) (opV fr i) (opV fr x) := (rfl)
theorem opA_delete (t ti : TypeId) (m i : Operand) : opA P N cf fr H ⟨d, .call ⟨.builtin .delete, #[m, i], #[t, ti]⟩, ty, pos, af, g⟩ k = delT P H t (putC N d fr k (.tup [])) (opV fr m) (opV fr i) := (rfl)
theorem opA_clear (t : TypeId) (m : Operand) : opA P N cf fr H ⟨d, .call ⟨.builtin .clear, #[m], #[t]⟩, ty, pos, af, g⟩ k = clearT H (putC N d fr k (.tup [])) (P.underlying t) (opV fr m) := (rfl)
theorem opA_range (t : TypeId) (x : Operand) : opA P N cf fr H ⟨d, .range t x, ty, pos, af, g⟩ k = rangeT P H t (putC N d fr k) (opV fr x) := (rfl)
theorem opA_next (x : Operand) (b : Bool) : opA P N cf fr H ⟨d, .next x b, ty, pos, af, g⟩ k = nextT H b (putC N d fr k) (opV fr x) := (rfl)
theorem opA_entry (x : Operand) : opA P N cf fr H ⟨d, .entry x, ty, pos, af, g⟩ k = putO N d (entryT H (opV fr x)) fr H k := by
  simp only [opA, effA, entryT, putO]
  cases opV fr x with
  | none => rfl
  | some a => simp only [avO]; cases entryA H a <;> rfl
theorem opA_un (op : UnOp) (t : TypeId) (x : Operand) : opA P N cf fr H ⟨d, .unOp op t x, ty, pos, af, g⟩ k = putO N d (unT op (opV fr x)) fr H k := (rfl)
theorem opA_extract (i : Nat) (x : Operand) : opA P N cf fr H ⟨d, .extract x i, ty, pos, af, g⟩ k = putO N d (extractT i (opV fr x)) fr H k := (rfl)
theorem opA_field (t : TypeId) (x : Operand) (f : Nat) : opA P N cf fr H ⟨d, .field t x f, ty, pos, af, g⟩ k = putO N d (fieldT P f (P.underlying t) (opV fr x)) fr H k := (rfl)
theorem opA_load (t : TypeId) (x : Operand) : opA P N cf fr H ⟨d, .load t x, ty, pos, af, g⟩ k = putO N d (loadT fr H (aggT P t) (szT P t) (opS fr x)) fr H k := (rfl)
theorem opA_index (t : TypeId) (x i : Operand) : opA P N cf fr H ⟨d, .index t x i, ty, pos, af, g⟩ k = putO N d (indexT P (P.underlying t) (opV fr x) (opV fr i)) fr H k := (rfl)
theorem opA_indexAddr (t : TypeId) (x i : Operand) : opA P N cf fr H ⟨d, .indexAddr t x i, ty, pos, af, g⟩ k = putO N d (indexAddrT P H (P.underlying t) (opS fr x) (opV fr i)) fr H k := (rfl)
theorem opA_fieldAddr (t : TypeId) (x : Operand) (f : Nat) : opA P N cf fr H ⟨d, .fieldAddr t x f, ty, pos, af, g⟩ k = putO N d (fieldAddrT P f (P.underlying t) (opS fr x)) fr H k := (rfl)
theorem opA_nilCheck (x : Operand) : opA P N cf fr H ⟨d, .nilCheck x, ty, pos, af, g⟩ k = putO N d (nilCheckT (opS fr x)) fr H k := (rfl)
theorem opA_len (x : Operand) (t : TypeId) : opA P N cf fr H ⟨d, .call ⟨.builtin .len, #[x], #[t]⟩, ty, pos, af, g⟩ k = putO N d (lenT H (P.underlying t) (opV fr x)) fr H k := (rfl)
theorem opA_call (f : Operand) (args : List Operand) (ts : Array TypeId) : opA P N cf fr H ⟨d, .call ⟨.value f, args.toArray, ts⟩, ty, pos, af, g⟩ k = callA P fr H f args (putC N d fr k) := (rfl)

theorem opA_max (x y : Operand) (ts : Array TypeId) : opA P N cf fr H ⟨d, .call ⟨.builtin .max, #[x, y], ts⟩, ty, pos, af, g⟩ k = putO N d (maxT (opV fr x) (opV fr y)) fr H k := (rfl)
theorem opA_min (x y : Operand) (ts : Array TypeId) : opA P N cf fr H ⟨d, .call ⟨.builtin .min, #[x, y], ts⟩, ty, pos, af, g⟩ k = putO N d (minT (opV fr x) (opV fr y)) fr H k := (rfl)
theorem opA_alloc (t : TypeId) : opA P N cf fr H ⟨d, .alloc t, ty, pos, af, g⟩ k = allocT N (cf.loc.contains (d.getD 0)) d fr H k (zerosT P t) := (rfl)
theorem opA_box (t : TypeId) (x : Operand) : opA P N cf fr H ⟨d, .box t x, ty, pos, af, g⟩ k = boxT N (cf.loc.contains (d.getD 0)) d fr H k (opV fr x) := (rfl)
theorem opA_store (t : TypeId) (ad x : Operand) : opA P N cf fr H ⟨d, .store t ad x, ty, pos, af, g⟩ k = storeT N d fr H k (szT P t) (opS fr ad) (opV fr x) := (rfl)
theorem opA_buildSlice (t : TypeId) (len : Nat) (parts : Array (Nat × Operand)) : opA P N cf fr H ⟨d, .buildSlice t len parts, ty, pos, af, g⟩ k = buildSliceT P N (cf.own.contains (d.getD 0)) d fr H k len parts.toList (P.underlying t) := (rfl)
theorem opA_makeSlice (t : TypeId) (l c : Operand) : opA P N cf fr H ⟨d, .makeSlice t l c, ty, pos, af, g⟩ k = makeSliceT P N d fr H k (P.underlying t) (opV fr l) (opV fr c) := (rfl)
theorem opA_append (x y : Operand) (t tx : TypeId) : opA P N cf fr H ⟨d, .call ⟨.builtin .append, #[x, y], #[t, tx]⟩, ty, pos, af, g⟩ k = appendT P N d fr H k tx (P.underlying t) (opV fr x) (opV fr y) := (rfl)
theorem opA_copy (x y : Operand) (t tx : TypeId) : opA P N cf fr H ⟨d, .call ⟨.builtin .copy, #[x, y], #[t, tx]⟩, ty, pos, af, g⟩ k = copyT P N d fr H k tx (P.underlying t) (opV fr x) (opV fr y) := (rfl)
theorem opA_convert (src dst : TypeId) (x : Operand) : opA P N cf fr H ⟨d, .convert src dst x, ty, pos, af, g⟩ k = convT P N d fr H k src dst (P.underlying src) (P.underlying dst) (opV fr x) := (rfl)
theorem opA_makeMap (t : TypeId) : opA P N cf fr H ⟨d, .makeMap t none, ty, pos, af, g⟩ k = makeMapT N d fr H k (P.underlying t) := (rfl)
theorem opA_slice (t : TypeId) (x : Operand) (lo hi : Option Operand) : opA P N cf fr H ⟨d, .slice t x lo hi none, ty, pos, af, g⟩ k = putO N d (sliceT P H (P.underlying t) (opS fr x) (bndT fr lo) (bndT fr hi)) fr H k := by
  cases lo <;> cases hi <;> first | rfl | skip
  simp only [opA, effA, valS, sliceT, bndT, Option.map_none, putO]
  cases P.underlying t with
  | none => rfl
  | some td => cases td <;> (first | rfl | skip) <;> cases opS fr x with
    | none => rfl
    | some sv => cases sv <;> (first | rfl | skip) <;> (rename_i av; cases av <;> first | rfl | (simp; done) | (simp; generalize szT P _ = z; cases z <;> first | (simp; done) | (simp; generalize Option.map SV.av _ = q; cases q <;> first | (simp; done) | (simp; rfl) | rfl)) | (rename_i vv; cases vv <;> first | rfl | (simp; done) | (simp; generalize szT P _ = z; cases z <;> first | (simp; done) | (simp; generalize Option.map SV.av _ = q; cases q <;> first | (simp; done) | (simp; rfl) | rfl))))
theorem opA_makeFunc (f : Fn) (xs ys : Array Operand) : opA P N cf fr H ⟨d, .makeFunc f xs ys, ty, pos, af, g⟩ k = putO N d (fnT f (mapO (opV fr) xs.toList) (mapO (opV fr) ys.toList)) fr H k := (rfl)
theorem opA_build (t : TypeId) (parts : Array (Nat × Operand)) : opA P N cf fr H ⟨d, .build t parts, ty, pos, af, g⟩ k = putO N d (buildZ fr parts.toList (zerosT P t) (offsT P t)) fr H k := by rw [← buildT_eq]; rfl

theorem cellsA_v (x : Value) : cellsA (.v x) = [.v x] := rfl
theorem cellsA_agg (cs : List AV) : cellsA (.agg cs) = cs := rfl
theorem cellsA_row (x : Bool) (n : Nat) (cs : List AV) : cellsA (.row x n cs) = [.row x n cs] := rfl
theorem cellsA_sl (a b c d e : Nat) : cellsA (.sl a b c d e) = [.sl a b c d e] := rfl
theorem cellsA_ptr (a b c : Nat) : cellsA (.ptr a b c) = [.ptr a b c] := rfl
theorem cellsA_rp (cs : List AV) (c : Nat) : cellsA (.rp cs c) = [.rp cs c] := rfl
theorem cellsA_mp (a : Nat) : cellsA (.mp a) = [.mp a] := rfl
theorem cellsA_fn (f : Fn) (a b : List AV) : cellsA (.fn f a b) = [.fn f a b] := rfl
theorem okPart_v (x : Value) : okPart (.v x) = x.oneCell' := rfl
theorem okPart_agg (cs : List AV) : okPart (.agg cs) = true := rfl
theorem okPart_row (x : Bool) (n : Nat) (cs : List AV) : okPart (.row x n cs) = true := rfl
theorem okPart_sl (a b c d e : Nat) : okPart (.sl a b c d e) = true := rfl
theorem okPart_ptr (a b c : Nat) : okPart (.ptr a b c) = true := rfl
theorem okPart_rp (cs : List AV) (c : Nat) : okPart (.rp cs c) = true := rfl
theorem okPart_mp (a : Nat) : okPart (.mp a) = true := rfl
theorem okPart_fn (f : Fn) (a b : List AV) : okPart (.fn f a b) = true := rfl
theorem lenT_str (s : ByteArray) : lenT H (some .string) (some (.v (.string s))) = some (.av (.v (.int .i64 s.size))) := rfl
theorem lenT_row (e : TypeId) (x : Bool) (n : Nat) (cs : List AV) : lenT H (some (.slice e)) (some (.row x n cs)) = some (.av (.v (.int .i64 n))) := rfl
theorem lenT_sl (e : TypeId) (a b c d n : Nat) : lenT H (some (.slice e)) (some (.sl a b c d n)) = some (.av (.v (.int .i64 n))) := rfl
theorem lenT_nil (e : TypeId) (a : Option Addr) (n c : Nat) : lenT H (some (.slice e)) (some (.v (.slice a n c))) = some (.av (.v (.int .i64 n))) := rfl
theorem lenT_arr (e : TypeId) (n : Nat) (x : AV) : lenT H (some (.array n e)) (some x) = some (.av (.v (.int .i64 n))) := rfl
theorem lenT_mp (k e : TypeId) (m : Nat) : lenT H (some (.map k e)) (some (.mp m)) = (lenM H (.mp m)).map .av := rfl
theorem lenT_nomp (k e : TypeId) : lenT H (some (.map k e)) (some (.v (.map none))) = some (.av (.v (.int .i64 0))) := rfl
theorem okPart_u8 (b : UInt8) : okPart (u8A b) = true := rfl
theorem cellsA_u8 (b : UInt8) : cellsA (u8A b) = [u8A b] := rfl
theorem opG_none {all : Array Oper} {o : Oper} : opG P N cf all fr H o none k = opA P N cf fr H o k := (rfl)
theorem putO_some (x : SV) : putO N d (some x) fr H k = putH N d x fr H k := (rfl)
theorem putH_lt (t : Nat) (x : SV) (h : t < N) : putH N (some t) x fr H k = k { fr with slots := (t, x) :: fr.slots } H := by simp [putH, putK, h]
theorem putH_none (x : SV) : putH N none x fr H k = k fr H := (rfl)
theorem putC_lt (t : Nat) (x : AV) (h : t < N) : putC N (some t) fr k x H = k { fr with slots := (t, .av x) :: fr.slots } H := by simp [putC, putK, h]
theorem putC_none (x : AV) : putC N none fr k x H = k fr H := (rfl)
theorem putU_lt (t : Nat) (h : t < N) : putU N (some t) k fr H = k { fr with slots := (t, .un) :: fr.slots } H := by simp [putU, putK, h]
theorem putU_none : putU N none k fr H = k fr H := (rfl)
theorem putV_lt (t : Nat) (h : t < N) : putV N (some t) k fr H = k { fr with slots := (t, .av (.v undef)) :: fr.slots } H := by simp [putV, putK, h]
theorem putV_none : putV N none k fr H = k fr H := (rfl)
theorem opK_eq (o : Oper) : opK P N cf o k fr H = opA P N cf fr H o k := (rfl)
theorem opG_some {all : Array Oper} {o : Oper} (j : Nat) (want : Bool) : opG P N cf all fr H o (some (j, want)) k = opJ P N cf fr H o want ((all[j]?).bind (·.dst)) k := by
  simp only [opG, opJ]
  cases (all[j]?).bind (·.dst) with
  | none => rfl
  | some s =>
    simp only [opU, guardA]
    cases isU (look s fr.slots) <;> cases want <;> rfl
/-- A branching that is not decided yet. -/
def CondP (p : Prop) (fr : Fr) (H : Hp) (x : Operand) (A B : Fr → Hp → Prop) : Prop := (p → A (fr.known x true) H) ∧ (¬ p → B (fr.known x false) H)
theorem condB_true (x : Operand) (A B : Fr → Hp → Prop) : condB fr H x A B (some (.av (.v (.bool true)))) = A (fr.known x true) H := (rfl)
theorem condB_false (x : Operand) (A B : Fr → Hp → Prop) : condB fr H x A B (some (.av (.v (.bool false)))) = B (fr.known x false) H := (rfl)
@[simp low] theorem condB_open (x : Operand) (b : Bool) (A B : Fr → Hp → Prop) : condB fr H x A B (some (.av (.v (.bool b)))) = CondP (b = true) fr H x A B := by
  cases b <;> simp [condB, Cond, CondP]
theorem CondP_true (x : Operand) (A B : Fr → Hp → Prop) : CondP True fr H x A B = A (fr.known x true) H := by simp [CondP]
theorem CondP_false (x : Operand) (A B : Fr → Hp → Prop) : CondP False fr H x A B = B (fr.known x false) H := by simp [CondP]
@[simp low] theorem CondP_open (p : Prop) (x : Operand) (A B : Fr → Hp → Prop) : CondP p fr H x A B = ((p → A (fr.known x true) H) ∧ (¬ p → B (fr.known x false) H)) := (rfl)
theorem ev_cond2 {ann : List (Nat × Keep)} {K : Exit → Fr → Hp → Prop} (c : Operand) (x y : Code) : evI P N cf ann (.cond c x y) K fr H = condB fr H c (evI P N cf ann x K) (evI P N cf ann y K) (opS fr c) := by rw [ev_cond]; rfl
theorem ev_region2 {ann : List (Nat × Keep)} {K : Exit → Fr → Hp → Prop} (id : Nat) (ops : Array Oper) : evI P N cf ann (.region id ops false) K fr H = evOpsI P N cf ops ops.toList (K .normal) fr H := by rw [ev_region]
theorem binT_some (t : TK) (op : BinOp) (x y : AV) : binT t op (some x) (some y) = avO (binA t op x y) := (rfl)
theorem binA_int (t : TK) (op : BinOp) (k k' : IntKind) (a b : Int) : binA t op (.v (.int k a)) (.v (.int k' b)) = intOp op k a k' b := (rfl)
theorem binA_str (t : TK) (op : BinOp) (a b : ByteArray) : binA t op (.v (.string a)) (.v (.string b)) = strOp op a b := (rfl)
theorem binA_eqb (a b : Bool) : binA .bool .eql (.v (.bool a)) (.v (.bool b)) = some (.v (.bool (a == b))) := (rfl)
theorem binA_neb (a b : Bool) : binA .bool .neq (.v (.bool a)) (.v (.bool b)) = some (.v (.bool (!(a == b)))) := (rfl)
theorem avO_none : avO none = none := (rfl)
theorem avO_some (x : AV) : avO (some x) = some (.av x) := (rfl)
theorem pickT_true (a b : Option SV) : pickT (some (.av (.v (.bool true)))) a b = a := (rfl)
theorem pickT_false (a b : Option SV) : pickT (some (.av (.v (.bool false)))) a b = b := (rfl)
theorem io_add (k : IntKind) (a b : Int) : intOp .add k a k b = some (.v (.int k (k.wrap (a + b)))) := by simp [intOp]
theorem io_sub (k : IntKind) (a b : Int) : intOp .sub k a k b = some (.v (.int k (k.wrap (a - b)))) := by simp [intOp]
theorem io_mul (k : IntKind) (a b : Int) : intOp .mul k a k b = some (.v (.int k (k.wrap (a * b)))) := by simp [intOp]
theorem io_quo (k : IntKind) (a b : Int) (h : b ≠ 0) : intOp .quo k a k b = some (.v (.int k (k.wrap (a.tdiv b)))) := by simp [intOp, h]
theorem io_rem (k : IntKind) (a b : Int) (h : b ≠ 0) : intOp .rem k a k b = some (.v (.int k (a.tmod b))) := by simp [intOp, h]
theorem io_shl (k k' : IntKind) (a b : Int) (h : 0 ≤ b) : intOp .shl k a k' b = some (.v (.int k (shlI k a b))) := by simp [intOp, shlI, Int.not_lt.2 h]
theorem io_shr (k k' : IntKind) (a b : Int) (h : 0 ≤ b) : intOp .shr k a k' b = some (.v (.int k (shrI k a b))) := by simp [intOp, shrI, Int.not_lt.2 h]
theorem io_andNot (k : IntKind) (a b : Int) : intOp .andNot k a k b = some (.v (.int k (andNotI k a b))) := by simp [intOp, andNotI]
theorem io_and (k : IntKind) (a b : Int) : intOp .and k a k b = some (.v (.int k (andI k a b))) := by simp [intOp, andI]
theorem io_or (k : IntKind) (a b : Int) : intOp .or k a k b = some (.v (.int k (orI k a b))) := by simp [intOp, orI]
theorem io_xor (k : IntKind) (a b : Int) : intOp .xor k a k b = some (.v (.int k (xorI k a b))) := by simp [intOp, xorI]
theorem io_eql (k : IntKind) (a b : Int) : intOp .eql k a k b = some (.v (.bool (a == b))) := by simp [intOp]
theorem io_neq (k : IntKind) (a b : Int) : intOp .neq k a k b = some (.v (.bool (a != b))) := by simp [intOp]
theorem io_lss (k : IntKind) (a b : Int) : intOp .lss k a k b = some (.v (.bool (decide (a < b)))) := by simp [intOp]
theorem io_leq (k : IntKind) (a b : Int) : intOp .leq k a k b = some (.v (.bool (decide (a ≤ b)))) := by simp [intOp]
theorem io_gtr (k : IntKind) (a b : Int) : intOp .gtr k a k b = some (.v (.bool (decide (a > b)))) := by simp [intOp]
theorem io_geq (k : IntKind) (a b : Int) : intOp .geq k a k b = some (.v (.bool (decide (a ≥ b)))) := by simp [intOp]
theorem opS_tmp (t : Nat) : opS fr (.tmp t) = look t fr.slots := (rfl)
theorem opS_global (g : Nat) : opS fr (.global g) = some (.av (.v (.pointer (some ⟨g, 0, none⟩)))) := (rfl)
theorem opS_const (v : Value) : opS fr (.const v) = some (.av (.v v)) := (rfl)
theorem opV_tmp (t : Nat) : opV fr (.tmp t) = avOf (look t fr.slots) := (rfl)
theorem opV_const (v : Value) : opV fr (.const v) = some (.v v) := (rfl)
theorem look_eq {α : Type} (t : Nat) (x : α) (r : List (Nat × α)) : look t ((t, x) :: r) = some x := by simp [look]
theorem look_ne {α : Type} (t s : Nat) (x : α) (r : List (Nat × α)) (h : s ≠ t) : look t ((s, x) :: r) = look t r := by simp [look, h]
theorem seqK_n (next : Fr → Hp → Prop) (K : Exit → Fr → Hp → Prop) : seqK next K .normal fr H = next fr H := (rfl)
theorem seqK_r (next : Fr → Hp → Prop) (K : Exit → Fr → Hp → Prop) : seqK next K .ret fr H = K .ret fr H := (rfl)
theorem seqK_e (next : Fr → Hp → Prop) (K : Exit → Fr → Hp → Prop) (id : Nat) : seqK next K (.exit id) fr H = K (.exit id) fr H := (rfl)
theorem blockK_n (K : Exit → Fr → Hp → Prop) (id : Nat) : blockK id K .normal fr H = K .normal fr H := (rfl)
theorem noGotoK_n (K : Exit → Fr → Hp → Prop) : noGotoK K .normal fr H = K .normal fr H := (rfl)
theorem noGotoK_r (K : Exit → Fr → Hp → Prop) : noGotoK K .ret fr H = K .ret fr H := (rfl)
theorem noGotoK_e (K : Exit → Fr → Hp → Prop) (id : Nat) : noGotoK K (.exit id) fr H = K (.exit id) fr H := (rfl)
theorem blockK_r (K : Exit → Fr → Hp → Prop) (id : Nat) : blockK id K .ret fr H = K .ret fr H := (rfl)

/-! ### What is looked at again in a region that draws its order -/
def sameV (x y : Option SV) : Prop := match x, y with
  | some a, some b => a = b
  | _, _ => False
theorem sameV_some (a b : SV) : sameV (some a) (some b) = (a = b) := (rfl)
def sameO (P : Program) (ops : Array Oper) (fr : Fr) (H : Hp) (o : Option Oper) : Prop := match o with
  | some o => match o.dst with
    | some d => sameV (valQ P ops fr H o) (look d fr.slots)
    | none => False
  | none => False
theorem sameO_some {ops : Array Oper} {t : Nat} {op : Op} : sameO P ops fr H (some ⟨some t, op, ty, pos, af, g⟩) = sameV (valQ P ops fr H ⟨some t, op, ty, pos, af, g⟩) (look t fr.slots) := (rfl)
theorem sameV_iff (x y : Option SV) : (∃ v, x = some v ∧ y = some v) = sameV x y := by
  cases x <;> cases y <;> simp [sameV]
  exact eq_comm
theorem allQ_nil {ops : Array Oper} : allQ P ops fr H [] = True := (rfl)
theorem allQ_cons {ops : Array Oper} (j : Nat) (r : List Nat) : allQ P ops fr H (j :: r) = (sameO P ops fr H ops[j]? ∧ allQ P ops fr H r) := by
  simp only [allQ, sameQ, sameO, sameV_iff]
  cases ops[j]? with
  | none => rfl
  | some o => cases h : o.dst <;> simp only [h]
noncomputable def valU (P : Program) (fr : Fr) (H : Hp) (o : Oper) (want : Bool) (x : Option SV) (u : Bool) : Option SV := match u with
  | true => some (.av (.v undef))
  | false => match x with
    | some (.av (.v (.bool b))) => if b = want then valC P fr H o else some (.av (.v undef))
    | _ => none
theorem valU_true (o : Oper) (want : Bool) (x : Option SV) : valU P fr H o want x true = some (.av (.v undef)) := (rfl)
theorem valU_false (o : Oper) (want b : Bool) : valU P fr H o want (some (.av (.v (.bool b)))) false = if b = want then valC P fr H o else some (.av (.v undef)) := (rfl)
noncomputable def valG (P : Program) (fr : Fr) (H : Hp) (o : Oper) (want : Bool) (x : Option SV) : Option SV := match x with
  | some (.av (.v (.bool b))) => if b = want then valC P fr H o else some (.av (.v undef))
  | _ => none
theorem valG_some (o : Oper) (want b : Bool) : valG P fr H o want (some (.av (.v (.bool b)))) = if b = want then valC P fr H o else some (.av (.v undef)) := (rfl)
noncomputable def valJ (P : Program) (fr : Fr) (H : Hp) (o : Oper) (want : Bool) (s : Option Nat) : Option SV := match s with
  | some s => valU P fr H o want (look s fr.slots) (isU (look s fr.slots))
  | none => none
theorem valQ_none {ops : Array Oper} {op : Op} : valQ P ops fr H ⟨d, op, ty, pos, af, none⟩ = valC P fr H ⟨d, op, ty, pos, af, none⟩ := (rfl)
theorem valQ_some {ops : Array Oper} {op : Op} (j : Nat) (want : Bool) : valQ P ops fr H ⟨d, op, ty, pos, af, some (j, want)⟩ = valJ P fr H ⟨d, op, ty, pos, af, some (j, want)⟩ want ((ops[j]?).bind (·.dst)) := by
  simp only [valQ, valJ]
  cases (ops[j]?).bind (·.dst) with
  | none => rfl
  | some s =>
    simp only [valU]
    cases isU (look s fr.slots) <;> rfl
theorem valS_move (x : Operand) : valC P fr H ⟨d, .move x, ty, pos, af, g⟩ = opS fr x := (rfl)
theorem valS_pick (c a b : Operand) : valC P fr H ⟨d, .pick c a b, ty, pos, af, g⟩ = pickT (opS fr c) (opS fr a) (opS fr b) := (rfl)
theorem valS_bin (op : BinOp) (t t2 : TypeId) (x y : Operand) : valC P fr H ⟨d, .binOp op t x y t2, ty, pos, af, g⟩ = orO (binT (tkOf P t) op (opV fr x) (opV fr y)) (eqT P t op (opV fr x) (opV fr y)) := by
  rw [← binT_or]; rfl
theorem valS_lookup (t : TypeId) (x i : Operand) (ok : Bool) : valC P fr H ⟨d, .lookup t x i ok, ty, pos, af, g⟩ = lookT P H t ok (opV fr x) (opV fr i) := by
  unfold lookT
  simp only [valC, valS]
  cases opV fr x <;> cases opV fr i <;> rfl
theorem valS_un (op : UnOp) (t : TypeId) (x : Operand) : valC P fr H ⟨d, .unOp op t x, ty, pos, af, g⟩ = unT op (opV fr x) := (rfl)
theorem valS_extract (i : Nat) (x : Operand) : valC P fr H ⟨d, .extract x i, ty, pos, af, g⟩ = extractT i (opV fr x) := (rfl)
theorem valS_field (t : TypeId) (x : Operand) (f : Nat) : valC P fr H ⟨d, .field t x f, ty, pos, af, g⟩ = fieldT P f (P.underlying t) (opV fr x) := (rfl)
theorem valS_load (t : TypeId) (x : Operand) : valC P fr H ⟨d, .load t x, ty, pos, af, g⟩ = loadT fr H (aggT P t) (szT P t) (opS fr x) := (rfl)
theorem valS_index (t : TypeId) (x i : Operand) : valC P fr H ⟨d, .index t x i, ty, pos, af, g⟩ = indexT P (P.underlying t) (opV fr x) (opV fr i) := (rfl)
theorem valS_indexAddr (t : TypeId) (x i : Operand) : valC P fr H ⟨d, .indexAddr t x i, ty, pos, af, g⟩ = indexAddrT P H (P.underlying t) (opS fr x) (opV fr i) := (rfl)
theorem valS_fieldAddr (t : TypeId) (x : Operand) (f : Nat) : valC P fr H ⟨d, .fieldAddr t x f, ty, pos, af, g⟩ = fieldAddrT P f (P.underlying t) (opS fr x) := (rfl)
theorem valS_nilCheck (x : Operand) : valC P fr H ⟨d, .nilCheck x, ty, pos, af, g⟩ = nilCheckT (opS fr x) := (rfl)
theorem valS_len (x : Operand) (t : TypeId) : valC P fr H ⟨d, .call ⟨.builtin .len, #[x], #[t]⟩, ty, pos, af, g⟩ = lenT H (P.underlying t) (opV fr x) := (rfl)
theorem valS_max (x y : Operand) (ts : Array TypeId) : valC P fr H ⟨d, .call ⟨.builtin .max, #[x, y], ts⟩, ty, pos, af, g⟩ = maxT (opV fr x) (opV fr y) := (rfl)
theorem valS_min (x y : Operand) (ts : Array TypeId) : valC P fr H ⟨d, .call ⟨.builtin .min, #[x, y], ts⟩, ty, pos, af, g⟩ = minT (opV fr x) (opV fr y) := (rfl)
theorem valS_makeFunc (f : Fn) (xs ys : Array Operand) : valC P fr H ⟨d, .makeFunc f xs ys, ty, pos, af, g⟩ = fnT f (mapO (opV fr) xs.toList) (mapO (opV fr) ys.toList) := (rfl)
theorem valS_build (t : TypeId) (parts : Array (Nat × Operand)) : valC P fr H ⟨d, .build t parts, ty, pos, af, g⟩ = buildZ fr parts.toList (zerosT P t) (offsT P t) := by rw [← buildT_eq]; rfl
/-- A literal of a slice, by value. -/
def rowF (len : Nat) (x : Option (List AV)) : Option SV := match x with
  | some cs => some (.av (.row true len cs))
  | none => none
noncomputable def rowT (P : Program) (fr : Fr) (len : Nat) (parts : List (Nat × Operand)) (t : Option TypeDesc) : Option SV := match t with
  | some (.slice e) => match zerosT P e, szT P e, mapO (fun (p : Nat × Operand) => opV fr p.2) parts with
    | some zs, some s, some ys => if zs.length = s ∧ len * s ≤ 16777216 ∧ len ≤ 16777216 then rowF len (fillA (repeatL len zs) ((parts.zip ys).map fun q => (q.1.1 * s, s, q.2))) else none
    | _, _, _ => none
  | _ => none
theorem valS_buildSlice (t : TypeId) (len : Nat) (parts : Array (Nat × Operand)) : valC P fr H ⟨d, .buildSlice t len parts, ty, pos, af, g⟩ = rowT P fr len parts.toList (P.underlying t) := (rfl)
theorem valS_convert (src dst : TypeId) (x : Operand) : valC P fr H ⟨d, .convert src dst x, ty, pos, af, g⟩ = convC P H (P.underlying src) (P.underlying dst) (opV fr x) := by
  unfold valC convC
  simp only
  split
  · rename_i e s h1 h2 h3
    simp only [h1, h2, h3]
    cases P.underlying e with
    | none => rfl
    | some td => cases td <;> first | rfl | (rename_i k; cases k <;> rfl)
  · rename_i n
    split
    · rename_i e s h1 h2 h3
      exact absurd h3 (n e s h1 h2)
    · rfl
theorem valS_slice (t : TypeId) (x : Operand) (lo hi : Option Operand) : valC P fr H ⟨d, .slice t x lo hi none, ty, pos, af, g⟩ = sliceT P H (P.underlying t) (opS fr x) (bndT fr lo) (bndT fr hi) := by
  cases lo <;> cases hi <;> first | rfl | skip
  simp only [valC, valS, sliceT, bndT, Option.map_none]
  cases P.underlying t with
  | none => rfl
  | some td => cases td <;> (first | rfl | skip) <;> cases opS fr x with
    | none => rfl
    | some sv => cases sv <;> (first | rfl | skip) <;> (rename_i av; cases av <;> first | rfl | (simp; done) | (simp; generalize szT P _ = z; cases z <;> first | (simp; done) | (simp; generalize Option.map SV.av _ = q; cases q <;> first | (simp; done) | (simp; rfl) | rfl)) | (rename_i vv; cases vv <;> first | rfl | (simp; done) | (simp; generalize szT P _ = z; cases z <;> first | (simp; done) | (simp; generalize Option.map SV.av _ = q; cases q <;> first | (simp; done) | (simp; rfl) | rfl))))
end

end Go.Mx
