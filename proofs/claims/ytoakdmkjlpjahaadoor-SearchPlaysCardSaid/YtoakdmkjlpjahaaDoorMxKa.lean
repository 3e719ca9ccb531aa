/-
  The abstract machine: keys of maps, what a map's entries tell, equality of structures and arrays.
-/
import Derived.Test.YtoakdmkjlpjahaaDoorMxD
import Derived.MapKept
import Derived.DeepKeys5
namespace Go.Mx
open Go.RowKit
set_option linter.unusedVariables false

/-! ### Keys -/
def plainD : TypeDesc → Bool
  | .int _ => true
  | .string => true
  | .bool => true
  | _ => false

/-- Cells that lead to no memory. -/
def flatV : List AV → Option (List Value)
  | [] => some []
  | .v x :: r => match flatV r with
    | some l => some (x :: l)
    | none => none
  | _ :: _ => none

/-- A type made of plain ones, whose values are compared, and are keys. -/
structure AggKey (P : Program) (t : TypeId) : Prop where
  law : WideMaps.KeyLaw P t
  deep : ∃ m, m ≤ 10000 ∧ P.keyTypeAt m t = true
  wide : (match P.underlying t with | some (.array _ _) | some (.struct _) => true | _ => false) = true
  guard : P.eqGuardType P.depth t = false
theorem AggKey.of {P : Program} {t : TypeId} (hl : laidOutB P = true) (hs : P.types.size + 2 ≤ 10000) (hr : t < P.types.size) (hk : P.keyType t = true)
    (hw : (match P.underlying t with | some (.array _ _) | some (.struct _) => true | _ => false) = true) (hg : P.eqGuardType P.depth t = false) : AggKey P t :=
  ⟨deep_law_gate hl hs hr hk hw, ⟨P.types.size + 1, by omega, hk⟩, hw, hg⟩

/-- A value that is found among keys of this type. -/
def KGood (P : Program) (t : TypeId) (a : AV) : Prop :=
  (∃ d x, P.underlying t = some d ∧ plainD d = true ∧ a = .v x ∧ MapKept.IsKey d x) ∨
  (AggKey P t ∧ ∃ cs us l, a = .agg cs ∧ flatV cs = some us ∧ keyOf P t (.agg us.toArray) = some l)
def GoodV (P : Program) (t : TypeId) (v : Value) : Prop :=
  (∃ d, P.underlying t = some d ∧ plainD d = true ∧ MapKept.IsKey d v) ∨ (AggKey P t ∧ ∃ l, keyOf P t v = some l)

theorem KGood.str {P : Program} {t : TypeId} (h : P.underlying t = some .string) (s : ByteArray) : KGood P t (.v (.string s)) := .inl ⟨_, _, h, rfl, rfl, trivial⟩
theorem KGood.int {P : Program} {t : TypeId} {k : IntKind} (h : P.underlying t = some (.int k)) (n : Int) : KGood P t (.v (.int k n)) := .inl ⟨_, _, h, rfl, rfl, rfl⟩
theorem KGood.bool {P : Program} {t : TypeId} (h : P.underlying t = some .bool) (b : Bool) : KGood P t (.v (.bool b)) := .inl ⟨_, _, h, rfl, rfl, trivial⟩
theorem KGood.agg {P : Program} {t : TypeId} {cs : List AV} {us : List Value} (h : AggKey P t) (hf : flatV cs = some us) (hk : (keyOf P t (.agg us.toArray)).isSome = true) : KGood P t (.agg cs) := by
  obtain ⟨l, hl⟩ := Option.isSome_iff_exists.1 hk
  exact .inr ⟨h, cs, us, l, rfl, hf, hl⟩

section
variable {P : Program} {ρ : Rho} {I : Imm} {w : World} {t : TypeId}

theorem VR.v_is {x u : Value} (h : VR ρ I (.v x) u) : u = x := by cases h; rfl
theorem flatV_vrs : ∀ {cs : List AV} {us vs : List Value}, flatV cs = some us → VRs ρ I cs vs → vs = us
  | [], us, vs, h, hv => by
    simp [flatV] at h; subst h
    have := hv.1; simpa using this
  | c :: cs, us, vs, h, hv => by
    cases c <;> simp only [flatV] at h <;> (first | (exfalso; simp at h; done) | skip)
    rename_i x
    split at h <;> simp at h
    rename_i l hl
    subst h
    match vs, hv.1 with
    | v :: vs, _ =>
      have h0 := hv.2 0 _ rfl
      have hr : VRs ρ I cs vs := ⟨by have := hv.1; simpa using this, fun i c hc => by simpa using hv.2 (i + 1) c (by simpa using hc)⟩
      have e : v = x := by simpa using h0.v_is
      rw [flatV_vrs hl hr, e]
theorem flatV_inj : ∀ {cs ds : List AV} {us : List Value}, flatV cs = some us → flatV ds = some us → cs = ds
  | [], ds, us, h, k => by
    simp [flatV] at h; subst h
    cases ds with
    | nil => rfl
    | cons d ds => cases d <;> simp only [flatV] at k <;> (first | (exfalso; simp at k; done) | (split at k <;> simp at k))
  | c :: cs, ds, us, h, k => by
    cases c <;> simp only [flatV] at h <;> (first | (exfalso; simp at h; done) | skip)
    split at h <;> simp at h
    rename_i x _ l hl
    subst h
    cases ds with
    | nil => simp [flatV] at k
    | cons d ds =>
      cases d <;> simp only [flatV] at k <;> (first | (exfalso; simp at k; done) | skip)
      split at k <;> simp at k
      rename_i l' hl'
      obtain ⟨rfl, rfl⟩ := k
      rw [flatV_inj hl hl']

theorem plain_wide {d : TypeDesc} (h : P.underlying t = some d) (hp : plainD d = true) (hw : (match P.underlying t with | some (.array _ _) | some (.struct _) => true | _ => false) = true) : False := by
  rw [h] at hw
  cases d <;> simp [plainD] at hp hw

theorem KGood.value {a : AV} (h : KGood P t a) : ∃ x, GoodV P t x ∧ (∀ ρ I u, VR ρ I a u → u = x) ∧ ∀ b, KGood P t b → ((∀ ρ I u, VR ρ I b u → u = x) → True) := by
  rcases h with ⟨d, x, h1, h2, rfl, h3⟩ | ⟨ha, cs, us, l, rfl, hf, hk⟩
  · exact ⟨x, .inl ⟨d, h1, h2, h3⟩, fun ρ I u hu => by simpa using hu.v_is, fun _ _ _ => trivial⟩
  · refine ⟨.agg us.toArray, .inr ⟨ha, l, hk⟩, fun ρ I u hu => ?_, fun _ _ _ => trivial⟩
    cases hu with
    | agg _ vs h1 h2 h3 => rw [flatV_vrs hf ⟨h1, h2⟩]

/-- Of two keys: the values are the same just if what is told of them is. -/
theorem KGood.same {a b : AV} {u v : Value} (ha : KGood P t a) (hb : KGood P t b) (hu : VR ρ I a u) (hv : VR ρ I b v) : u = v ↔ a = b := by
  constructor
  · intro e
    subst e
    rcases ha with ⟨d, x, h1, h2, rfl, h3⟩ | ⟨ha, cs, us, l, rfl, hf, hk⟩ <;> rcases hb with ⟨d', x', h1', h2', rfl, h3'⟩ | ⟨hb, cs', us', l', rfl, hf', hk'⟩
    · have e1 := hu.v_is; have e2 := hv.v_is; rw [← e1, ← e2]
    · exact (plain_wide h1 h2 hb.wide).elim
    · exact (plain_wide h1' h2' ha.wide).elim
    · cases hu with
      | agg _ vs h1 h2 h3 =>
        have e1 := flatV_vrs hf ⟨h1, h2⟩
        have e2 : vs = us' := by
          generalize hx : Value.agg vs.toArray = x at hv
          cases hv with
          | agg _ vs' k1 k2 k3 =>
            have := flatV_vrs hf' ⟨k1, k2⟩
            injection hx with hx
            have : vs = vs' := by simpa using congrArg Array.toList hx
            simp_all
        rw [← e1] at hf; rw [← e2] at hf'
        rw [flatV_inj hf hf']
  · intro e
    subst e
    obtain ⟨x, _, hx, _⟩ := ha.value
    rw [hx _ _ _ hu, hx _ _ _ hv]

theorem KGood.good {a : AV} {u : Value} (ha : KGood P t a) (hu : VR ρ I a u) : GoodV P t u := by
  obtain ⟨x, hg, hx, _⟩ := ha.value
  rw [hx _ _ _ hu]; exact hg

theorem find_key (w : World) {x : Value} (hx : GoodV P t x) (ms : List MapEntry) (hall : ∀ m ∈ ms, GoodV P t m.key) :
    ((Instr.findKey t x ms).run P w = .ok none w ∧ ∀ m ∈ ms, m.key ≠ x) ∨ ∃ j m, (Instr.findKey t x ms).run P w = .ok (some (j, m.val)) w ∧ ms[j]? = some m ∧ m.key = x := by
  rcases hx with ⟨d, h1, h2, h3⟩ | ⟨ha, l, hl⟩
  · have hks : ∀ m ∈ ms, MapKept.IsKey d m.key := fun m hm => by
      rcases hall m hm with ⟨d', h1', h2', h3'⟩ | ⟨hb, _⟩
      · rw [h1] at h1'; simp at h1'; subst h1'; exact h3'
      · exact (plain_wide h1 h2 hb.wide).elim
    rcases MapKept.findNow_spec h3 ms 0 hks with ⟨h4, h5⟩ | ⟨j, e, h4, h5, h6⟩
    · exact .inl ⟨MapKept.run_findKey h1 h4, h5⟩
    · exact .inr ⟨j, e, by rw [MapKept.run_findKey h1 h4, Nat.zero_add], h5, h6⟩
  · refine ha.law.find w hl ms (fun m hm => ?_)
    rcases hall m hm with ⟨d', h1', h2', h3'⟩ | ⟨hb, l', hl'⟩
    · exact (plain_wide h1' h2' ha.wide).elim
    · exact ⟨l', hl'⟩
theorem check_key (w : World) (em : Bool) {x : Value} (hx : GoodV P t x) : (Instr.checkKey em 10000 t x).run P w = .ok () w := by
  rcases hx with ⟨d, h1, h2, h3⟩ | ⟨ha, l, hl⟩
  · exact MapKept.run_checkKey h1 h3 em 9999
  · exact ha.law.check w em hl
theorem stays_key (w : World) {x : Value} (hx : GoodV P t x) : (Instr.keyThatStays x x).run P w = .ok x w := by
  rcases hx with ⟨d, h1, h2, h3⟩ | ⟨ha, l, hl⟩
  · exact MapKept.run_keyThatStays h3
  · exact ha.law.stays w hl

/-! ### Entries -/
open Classical in
/-- What a map tells of a key. -/
noncomputable def lookE (key : AV) : List (Nat × AV × AV) → Option AV
  | [] => none
  | e :: r => if e.2.1 = key then some e.2.2 else lookE key r
/-- A map's entries, as they are. -/
structure MapOk (P : Program) (t : TypeId) (es : List (Nat × AV × AV)) (clock : Nat) : Prop where
  good : ∀ e ∈ es, KGood P t e.2.1
  keys : (es.map (·.2.1)).Nodup
  born : ∀ e ∈ es, e.1 < clock
  stamps : (es.map (·.1)).Nodup
theorem MapOk.nil (P : Program) (t : TypeId) (c : Nat) : MapOk P t [] c := ⟨by simp, by simp, by simp, by simp⟩

theorem lookE_none {key : AV} : ∀ {es : List (Nat × AV × AV)}, (∀ e ∈ es, e.2.1 ≠ key) → lookE key es = none
  | [], _ => rfl
  | e :: r, h => by
    unfold lookE
    rw [if_neg (h e (by simp))]
    exact lookE_none (fun x hx => h x (by simp [hx]))
theorem lookE_at {key : AV} : ∀ {es : List (Nat × AV × AV)} {j : Nat} {e : Nat × AV × AV}, (es.map (·.2.1)).Nodup → es[j]? = some e → e.2.1 = key → lookE key es = some e.2.2
  | [], j, e, _, h, _ => by simp at h
  | x :: r, 0, e, _, h, hk => by simp at h; subst h; unfold lookE; rw [if_pos hk]
  | x :: r, j + 1, e, hn, h, hk => by
    have hn' : x.2.1 ∉ r.map (·.2.1) ∧ (r.map (·.2.1)).Nodup := by simpa using hn
    have h' : r[j]? = some e := by simpa using h
    unfold lookE
    rw [if_neg (fun e2 => hn'.1 (by rw [e2, ← hk]; exact List.mem_map.2 ⟨e, List.mem_of_getElem? h', rfl⟩))]
    exact lookE_at hn'.2 h' hk
theorem lookE_mem {key v : AV} : ∀ {es : List (Nat × AV × AV)}, lookE key es = some v → ∃ e ∈ es, e.2.1 = key ∧ e.2.2 = v
  | [], h => by simp [lookE] at h
  | x :: r, h => by
    unfold lookE at h
    split at h
    · rename_i hk; simp at h; exact ⟨x, by simp, hk, h⟩
    · obtain ⟨e, he, h2⟩ := lookE_mem h; exact ⟨e, by simp [he], h2⟩

open Classical in
noncomputable def putE (key val : AV) (es : List (Nat × AV × AV)) (clock : Nat) : List (Nat × AV × AV) :=
  if ∃ e ∈ es, e.2.1 = key then es.map (fun e => if e.2.1 = key then (e.1, key, val) else e) else es ++ [(clock, key, val)]
open Classical in
noncomputable def putC' (key : AV) (es : List (Nat × AV × AV)) (clock : Nat) : Nat := if ∃ e ∈ es, e.2.1 = key then clock else clock + 1
open Classical in
noncomputable def delE (key : AV) (es : List (Nat × AV × AV)) : List (Nat × AV × AV) := es.filter (fun e => decide (e.2.1 ≠ key))

theorem MapOk.put {es : List (Nat × AV × AV)} {clock : Nat} (h : MapOk P t es clock) {key : AV} (hk : KGood P t key) (val : AV) : MapOk P t (putE key val es clock) (putC' key es clock) := by
  classical
  unfold putE putC'
  split
  · have e1 : (es.map (fun e => if e.2.1 = key then (e.1, key, val) else e)).map (·.2.1) = es.map (·.2.1) := by
      rw [List.map_map]; apply List.map_congr_left; intro e _; simp only [Function.comp]; split <;> simp_all
    have e2 : (es.map (fun e => if e.2.1 = key then (e.1, key, val) else e)).map (·.1) = es.map (·.1) := by
      rw [List.map_map]; apply List.map_congr_left; intro e _; simp only [Function.comp]; split <;> rfl
    refine ⟨fun e he => ?_, by rw [e1]; exact h.keys, fun e he => ?_, by rw [e2]; exact h.stamps⟩
    · obtain ⟨x, hx, rfl⟩ := List.mem_map.1 he
      split
      · exact hk
      · exact h.good x hx
    · obtain ⟨x, hx, rfl⟩ := List.mem_map.1 he
      split
      · exact h.born x hx
      · exact h.born x hx
  · rename_i hno
    refine ⟨fun e he => ?_, ?_, fun e he => ?_, ?_⟩
    · rcases List.mem_append.1 he with he | he
      · exact h.good e he
      · simp at he; subst he; exact hk
    · rw [List.map_append, List.nodup_append]
      refine ⟨h.keys, by simp, fun a ha b hb e => ?_⟩
      obtain ⟨x, hx, rfl⟩ := List.mem_map.1 ha
      simp at hb; subst hb
      exact hno ⟨x, hx, e⟩
    · rcases List.mem_append.1 he with he | he
      · exact Nat.lt_succ_of_lt (h.born e he)
      · simp at he; subst he; exact Nat.lt_succ_self _
    · rw [List.map_append, List.nodup_append]
      refine ⟨h.stamps, by simp, fun a ha b hb e => ?_⟩
      obtain ⟨x, hx, rfl⟩ := List.mem_map.1 ha
      simp at hb; subst hb
      have := h.born x hx
      omega
theorem MapOk.sub {es fs : List (Nat × AV × AV)} {clock : Nat} (h : MapOk P t es clock) (hs : fs.Sublist es) : MapOk P t fs clock :=
  ⟨fun e he => h.good e (hs.subset he), (hs.map _).nodup h.keys, fun e he => h.born e (hs.subset he), (hs.map _).nodup h.stamps⟩
theorem MapOk.del {es : List (Nat × AV × AV)} {clock : Nat} (h : MapOk P t es clock) (key : AV) : MapOk P t (delE key es) clock := h.sub List.filter_sublist

theorem lookE_app {key : AV} (x : Nat × AV × AV) : ∀ es : List (Nat × AV × AV), lookE key (es ++ [x]) = match lookE key es with | some v => some v | none => lookE key [x]
  | [] => rfl
  | e :: r => by
    rw [List.cons_append]
    unfold lookE
    split
    · rfl
    · exact lookE_app x r

open Classical in
theorem lookE_map {key val k : AV} (hk : k ≠ key) : ∀ es : List (Nat × AV × AV), lookE k (es.map (fun e => if e.2.1 = key then (e.1, key, val) else e)) = lookE k es
  | [] => rfl
  | x :: r => by
    rw [List.map_cons]
    unfold lookE
    by_cases hx : x.2.1 = key
    · rw [if_pos hx, if_neg (fun e => hk e.symm), if_neg (fun e => hk (by rw [← e, hx]))]
      exact lookE_map hk r
    · rw [if_neg hx]
      split
      · rfl
      · exact lookE_map hk r
open Classical in
theorem lookE_map_self {key val : AV} : ∀ es : List (Nat × AV × AV), (∃ e ∈ es, e.2.1 = key) → lookE key (es.map (fun e => if e.2.1 = key then (e.1, key, val) else e)) = some val
  | [], h => by obtain ⟨e, he, _⟩ := h; simp at he
  | x :: r, h => by
    rw [List.map_cons]
    unfold lookE
    by_cases hx : x.2.1 = key
    · rw [if_pos hx, if_pos rfl]
    · rw [if_neg hx, if_neg hx]
      obtain ⟨e, he, hk⟩ := h
      rcases List.mem_cons.1 he with rfl | he
      · exact absurd hk hx
      · exact lookE_map_self r ⟨e, he, hk⟩
open Classical in
theorem lookE_put {es : List (Nat × AV × AV)} {clock : Nat} {key val k : AV} : lookE k (putE key val es clock) = if k = key then some val else lookE k es := by
  unfold putE
  split
  · rename_i hex
    by_cases hk : k = key
    · subst hk; rw [if_pos rfl, lookE_map_self es hex]
    · rw [if_neg hk, lookE_map hk]
  · rename_i hno
    rw [lookE_app]
    by_cases hk : k = key
    · subst hk
      rw [if_pos rfl, lookE_none (fun e he hke => hno ⟨e, he, hke⟩)]
      simp [lookE]
    · rw [if_neg hk]
      have : lookE k [(clock, key, val)] = none := lookE_none (by intro e he; simp at he; subst he; exact fun e => hk e.symm)
      rw [this]
      cases lookE k es <;> rfl
open Classical in
theorem lookE_del {key k : AV} : ∀ es : List (Nat × AV × AV), lookE k (delE key es) = if k = key then none else lookE k es
  | [] => by simp [delE, lookE]
  | x :: r => by
    have ih := lookE_del (key := key) (k := k) r
    unfold delE at ih ⊢
    by_cases hx : x.2.1 = key
    · rw [List.filter_cons_of_neg (by simpa using hx), ih]
      by_cases hk : k = key
      · rw [if_pos hk, if_pos hk]
      · rw [if_neg hk, if_neg hk]
        conv => rhs; unfold lookE
        rw [if_neg (fun e => hk (by rw [← e, hx]))]
    · rw [List.filter_cons_of_pos (by simpa using hx)]
      conv => lhs; unfold lookE
      rw [ih]
      by_cases hk : k = key
      · subst hk
        rw [if_neg hx]; simp
      · rw [if_neg hk, if_neg hk]
        conv => rhs; unfold lookE

/-! ### What a type's zero is, what a look-up tells -/
def zeroA (P : Program) (t : TypeId) : Option AV := match (P.info? t).bind (·.zero) with
  | some (.agg arr) => if arr.toList.all Value.oneCell' = true then some (.agg (arr.toList.map .v)) else none
  | some z => some (.v z)
  | none => none
theorem zeroA_run {z : AV} (h : zeroA P t = some z) : ∃ u, (zeroValue t).run P w = .ok u w ∧ VR ρ I z u := by
  unfold zeroA at h
  cases hi : P.info? t with
  | none => rw [hi] at h; simp at h
  | some i =>
    rw [hi] at h
    simp only [Option.bind_some] at h
    have run : ∀ u, i.zero = some u → (zeroValue t).run P w = .ok u w := fun u hz => by simp [zeroValue, typeInfo, hi, hz]
    split at h
    · rename_i arr hz
      split at h <;> simp at h
      rename_i hall
      subst h
      refine ⟨_, run _ hz, ?_⟩
      have e : Value.agg arr = .agg arr.toList.toArray := by simp
      rw [e]
      exact .agg _ arr.toList (by simp) (fun i c hc => by
        rw [List.getElem?_map] at hc
        rw [List.getD_eq_getElem?_getD]
        cases hx : arr.toList[i]? with
        | none => rw [hx] at hc; simp at hc
        | some u => rw [hx] at hc; simp at hc; subst hc; exact .v _) (fun u hu => by simpa using (List.all_eq_true.1 hall) u hu)
    · rename_i z hne hz
      simp at h; subst h
      exact ⟨_, run _ hz, .v _⟩
    · simp at h

def valOf (P : Program) (et : TypeId) (ok : Bool) (r : Option AV) : Option AV := match r with
  | some v => some (if ok then .tup [v, .v (.bool true)] else v)
  | none => match zeroA P et with
    | some z => some (if ok then .tup [z, .v (.bool false)] else z)
    | none => none
open Classical in
/-- A look-up. -/
noncomputable def lookV (P : Program) (H : Hp) (t : TypeId) (m key : AV) (ok : Bool) : Option AV := match P.underlying t, m with
  | some (.map kt et), .mp id => match H[id]? with
    | some (.map es clock) => if MapOk P kt es clock ∧ KGood P kt key then valOf P et ok (lookE key es) else none
    | _ => none
  | some (.map kt et), .v (.map none) => if KGood P kt key then valOf P et ok none else none
  | _, _ => none

/-- What is found, at both. -/
theorem find_ent {es : List (Nat × AV × AV)} {clock : Nat} {ms : List MapEntry} {key : AV} {u : Value} (w : World) (hE : EntR ρ I es ms) (hok : MapOk P t es clock) (hk : KGood P t key) (hv : VR ρ I key u) :
    ((Instr.findKey t u ms).run P w = .ok none w ∧ ∀ e ∈ es, e.2.1 ≠ key) ∨
    ∃ j e m, (Instr.findKey t u ms).run P w = .ok (some (j, m.val)) w ∧ es[j]? = some e ∧ ms[j]? = some m ∧ e.2.1 = key ∧ m.key = u ∧ m.born = e.1 ∧ VR ρ I e.2.2 m.val := by
  have hall : ∀ m ∈ ms, GoodV P t m.key := fun m hm => by
    obtain ⟨i, hi⟩ := List.getElem?_of_mem hm
    have hlt := (List.getElem?_eq_some_iff.1 hi).1
    rw [hE.1] at hlt
    obtain ⟨m', h1, h2, h3, h4⟩ := hE.2 i _ (List.getElem?_eq_getElem hlt)
    rw [hi] at h1; simp at h1; subst h1
    exact (hok.good _ (List.getElem_mem hlt)).good h3
  rcases find_key w (hk.good hv) ms hall with ⟨h1, h2⟩ | ⟨j, m, h1, h2, h3⟩
  · refine .inl ⟨h1, fun e he hke => ?_⟩
    obtain ⟨i, hi⟩ := List.getElem?_of_mem he
    obtain ⟨m, h4, h5, h6, h7⟩ := hE.2 i e hi
    exact h2 m (List.mem_of_getElem? h4) (((hok.good e he).same hk h6 hv).2 hke)
  · right
    have hlt := (List.getElem?_eq_some_iff.1 h2).1
    rw [hE.1] at hlt
    obtain ⟨m', h4, h5, h6, h7⟩ := hE.2 j _ (List.getElem?_eq_getElem hlt)
    rw [h2] at h4; simp at h4; subst h4
    exact ⟨j, _, m, h1, List.getElem?_eq_getElem hlt, h2, ((hok.good _ (List.getElem_mem hlt)).same hk h6 hv).1 h3, h3, h5, h7⟩

theorem lookV_sound {m key r : AV} {um uk : Value} {ok : Bool} {H : Hp} (hs : StH ρ I H w) (hm : VR ρ I m um) (hk : VR ρ I key uk) (h : lookV P H t m key ok = some r) :
    ∃ u, (Instr.lookup t um uk ok).run P w = .ok u w ∧ VR ρ I r u := by
  have zero : ∀ {et : TypeId}, valOf P et ok none = some r → ∃ z, (zeroValue et).run P w = .ok z w ∧ VR ρ I r (if ok then .tuple #[z, .bool false] else z) := by
    intro et hz
    simp only [valOf] at hz
    split at hz <;> simp at hz
    rename_i z hz0
    obtain ⟨u, hu, hv⟩ := zeroA_run (P := P) (ρ := ρ) (I := I) (w := w) hz0
    refine ⟨u, hu, ?_⟩
    subst hz
    cases ok with
    | false => simpa using hv
    | true =>
      simp only [if_true]
      exact .tup _ [u, .bool false] rfl (fun i c hc => by
        match i, hc with
        | 0, hc => simp at hc; subst hc; exact hv
        | 1, hc => simp at hc; subst hc; exact .v _)
  unfold lookV at h
  split at h <;> (first | (exfalso; simp at h; done) | skip)
  · rename_i kt et id ht
    split at h <;> (first | (exfalso; simp at h; done) | skip)
    rename_i es clock hob
    split at h <;> (first | (exfalso; simp at h; done) | skip)
    rename_i hc
    obtain ⟨hok, hkg⟩ := hc
    cases hm with
    | mp _ l hl =>
      obtain ⟨_, l', ms, hl', hb, hent⟩ := hs.obj _ _ hob
      rw [hl] at hl'; simp at hl'; subst hl'
      have hget : (getObj l.blk).run P w = .ok (.map ms clock) w := MapKept.run_getObj_map hb
      rcases find_ent w hent hok hkg hk with ⟨h1, h2⟩ | ⟨j, e, mm, h1, h2, h3, h4, h5, h6, h7⟩
      · rw [lookE_none h2] at h
        obtain ⟨z, hz, hv⟩ := zero h
        exact ⟨_, by simp [Instr.lookup, run_underlying ht, hget, check_key w _ (hkg.good hk), h1, hz], hv⟩
      · rw [lookE_at hok.keys h2 h4] at h
        simp only [valOf, Option.some.injEq] at h
        refine ⟨if ok then .tuple #[mm.val, .bool true] else mm.val, by simp [Instr.lookup, run_underlying ht, hget, check_key w _ (hkg.good hk), h1], ?_⟩
        subst h
        cases ok with
        | false => simpa using h7
        | true =>
          simp only [if_true]
          exact .tup _ [mm.val, .bool true] rfl (fun i c hc => by
            match i, hc with
            | 0, hc => simp at hc; subst hc; exact h7
            | 1, hc => simp at hc; subst hc; exact .v _)
  · rename_i kt et ht
    split at h <;> (first | (exfalso; simp at h; done) | skip)
    rename_i hkg
    have hmv := hm.v_is
    obtain ⟨z, hz, hv⟩ := zero h
    refine ⟨_, ?_, hv⟩
    rw [hmv]
    have hf : (Instr.findKey kt uk []).run P w = .ok none w := by
      rcases find_key (P := P) w (hkg.good hk) [] (by simp) with ⟨h1, _⟩ | ⟨j, m, _, h2, _⟩
      · exact h1
      · simp at h2
    simp [Instr.lookup, run_underlying ht, check_key w _ (hkg.good hk), hf, hz]

/-! ### Equality of structures and arrays -/
open Classical in
noncomputable def eqAgg (P : Program) (t : TypeId) (op : BinOp) (x y : AV) : Option AV := match x, y with
  | .agg cs, .agg ds => if KGood P t (.agg cs) ∧ KGood P t (.agg ds) then (match op with
    | .eql => some (.v (.bool (decide (cs = ds))))
    | .neq => some (.v (.bool (!decide (cs = ds))))
    | _ => none) else none
  | _, _ => none
theorem eqAgg_sound {op : BinOp} {x y r : AV} {u v : Value} (xo yo : Operand) (hx : VR ρ I x u) (hy : VR ρ I y v) (h : eqAgg P t op x y = some r) :
    ∃ z, (do eqGuard op t xo yo u v; binOp op t u v : Sem Value).run P w = .ok z w ∧ VR ρ I r z := by
  classical
  unfold eqAgg at h
  split at h <;> (first | (exfalso; simp at h; done) | skip)
  rename_i cs ds
  split at h <;> (first | (exfalso; simp at h; done) | skip)
  rename_i hk
  obtain ⟨hkx, hky⟩ := hk
  have hsame := hkx.same hky hx hy
  have hgx := hkx.good hx
  have hgy := hky.good hy
  have hagg : ∀ {c : List AV} {u : Value}, VR ρ I (.agg c) u → ∃ a, u = .agg a := fun h => by cases h; exact ⟨_, rfl⟩
  obtain ⟨au, rfl⟩ := hagg hx
  obtain ⟨av, rfl⟩ := hagg hy
  rcases hgx with ⟨d, h1, h2, h3⟩ | ⟨ha, l, hl⟩
  · exfalso; cases d <;> simp_all [MapKept.IsKey]
  rcases hgy with ⟨d, h1, h2, h3⟩ | ⟨_, l', hl'⟩
  · exfalso; cases d <;> simp_all [MapKept.IsKey]
  obtain ⟨m, hm, hdeep⟩ := ha.deep
  obtain ⟨b, hb, hiff⟩ := run_equal_deep (P := P) w hm hdeep ha.wide hl hl'
  have hbe : b = decide (cs = ds) := by
    have : b = true ↔ cs = ds := by
      rw [hiff]
      constructor
      · intro e; subst e
        have := ha.law.inj hl hl'
        have h2 := hsame.1 this
        injection h2
      · intro e; subst e
        have := hsame.2 rfl
        rw [this, hl'] at hl
        exact (Option.some.inj hl).symm
    by_cases hcd : cs = ds
    · rw [this.2 hcd]; simp [hcd]
    · cases b with
      | true => exact absurd (this.1 rfl) hcd
      | false => simp [hcd]
  have hg : ∀ o : BinOp, (eqGuard o t xo yo (.agg au) (.agg av)).run P w = .ok () w := by
    intro o
    unfold eqGuard
    have hp : (program).run P w = .ok P w := rfl
    cases o <;> simp [hp, ha.guard]
  subst hbe
  cases op <;> simp at h <;> subst h
  · refine ⟨.bool (decide (cs = ds)), ?_, .v _⟩
    simp only [Sem.run_bind, hg, Result.andThen_ok, binOp, hb, Sem.run_pure]
  · refine ⟨.bool (!decide (cs = ds)), ?_, .v _⟩
    simp only [Sem.run_bind, hg, Result.andThen_ok, binOp, hb, Sem.run_pure]
end
end Go.Mx
