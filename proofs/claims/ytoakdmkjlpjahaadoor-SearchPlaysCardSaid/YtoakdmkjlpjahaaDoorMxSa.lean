/-
  The abstract machine: what is told by value behind a call; what a call leaves as it was.
-/
import Derived.Test.YtoakdmkjlpjahaaDoorMxS
namespace Go.Mx
open Go.RowKit
set_option linter.unusedVariables false

/-! ### A slice inside what is handed back is written no more -/
def frz1 (id ver : Nat) (cs : List AV) : AV → AV
  | .sl i v sz off n => if i = id ∧ v = ver ∧ off + n * sz ≤ cs.length then .row false n ((cs.drop off).take (n * sz)) else .sl i v sz off n
  | x => x
def frz2 (id ver : Nat) (cs : List AV) : AV → AV
  | .agg l => .agg (l.map (frz1 id ver cs))
  | x => frz1 id ver cs x
def frz (id ver : Nat) (cs : List AV) : AV → AV
  | .tup l => .tup (l.map (frz2 id ver cs))
  | x => frz2 id ver cs x

section
variable {P : Program} {H : Hp} {ρ : Rho} {I : Imm} {w w' : World}

theorem frz_sound (hs : StH ρ I H w) {id ver : Nat} {cs : List AV} (hid : H[id]? = some (.cells ver cs)) :
    ∃ I', Mv ρ I H w ρ I' (H.set id .dead) w ∧ ∀ x u, VR ρ I x u → VR ρ I' (frz id ver cs x) u := by
  obtain ⟨hver, l, hl, hcell⟩ := hs.obj _ _ hid
  have hI : I l.blk = none := hs.apart id _ _ hid (by simp [blkOf, hl])
  obtain ⟨arr, T, h1, h2, h3, h4⟩ := hcell
  have hm := Mv.freeze hs hid hl (Gw.refl w).weaken h1
  refine ⟨_, hm, ?_⟩
  have one : ∀ x u, VR ρ I x u → VR ρ (I.set l.blk arr) (frz1 id ver cs x) u := by
    intro x u hv
    cases hv with
    | sl i v sz off n l' cap hl' hn hcap hmx =>
      simp only [frz1]
      split
      · rename_i hc
        obtain ⟨rfl, rfl, hle⟩ := hc
        rw [hl] at hl'; simp at hl'; subst hl'
        have hget : ∀ (i : Nat) (c : AV), ((cs.drop off).take (n * sz))[i]? = some c → ∃ u, ((arr.toList.drop (l.base + off)).take (n * sz))[i]? = some u ∧ VR ρ I c u ∧ u.oneCell' = true := by
          intro i c hc
          rw [List.getElem?_take] at hc
          split at hc <;> simp at hc
          rename_i hi
          obtain ⟨u, hu, hv, ho⟩ := h4 (off + i) c hc
          refine ⟨u, ?_, hv, ho⟩
          rw [List.getElem?_take, if_pos hi, List.getElem?_drop, ← hu]
          simp [Nat.add_assoc]
        have hlen : ((arr.toList.drop (l.base + off)).take (n * sz)).length = ((cs.drop off).take (n * sz)).length := by simp [h2]; omega
        refine .row false n _ ((arr.toList.drop (l.base + off)).take (n * sz)) _ cap hlen (fun i c hc => ?_) ?_ (fun ad h => by simp at h; subst h; exact .inl rfl) hn (by simp)
        · obtain ⟨u, hu, hv, _⟩ := hget i c hc
          rw [List.getD_eq_getElem?_getD, hu]
          exact hv.ext hm.ext
        · right
          refine ⟨_, rfl, rfl, fun u hu => ?_, arr, by simp [Imm.set], fun i hi => ?_⟩
          · obtain ⟨i, hi⟩ := List.getElem?_of_mem hu
            have hlt := (List.getElem?_eq_some_iff.1 hi).1
            rw [hlen] at hlt
            obtain ⟨u', hu', _, ho⟩ := hget i _ (List.getElem?_eq_getElem hlt)
            rw [hi] at hu'; simp at hu'; subst hu'; exact ho
          · rw [List.getD_eq_getElem?_getD, List.getElem?_eq_getElem hi]
            simp [List.getElem_take, List.getElem_drop]
      · exact (VR.sl i v sz off n l' cap hl' hn hcap hmx).ext hm.ext
    | v => exact .v _
    | row x n cs' us a cap h1 h2 h3 h4 h5 h6 => exact (VR.row x n cs' us a cap h1 h2 h3 h4 h5 h6).ext hm.ext
    | ptr i v off l h => exact (VR.ptr i v off l h).ext hm.ext
    | rp cs' us ad off h1 h2 h3 => exact (VR.rp cs' us ad off h1 h2 h3).ext hm.ext
    | mp i l h => exact (VR.mp i l h).ext hm.ext
    | it i l h => exact (VR.it i l h).ext hm.ext
    | fn f xs ys us vs h1 h2 h3 h4 => exact (VR.fn f xs ys us vs h1 h2 h3 h4).ext hm.ext
    | agg cs' us h1 h2 h3 => exact (VR.agg cs' us h1 h2 h3).ext hm.ext
    | tup cs' us h1 h2 => exact (VR.tup cs' us h1 h2).ext hm.ext
  have two : ∀ x u, VR ρ I x u → VR ρ (I.set l.blk arr) (frz2 id ver cs x) u := by
    intro x u hv
    cases x <;> (first | exact one _ u hv | skip)
    rename_i l'
    cases hv with
    | agg _ us h1 h2 h3 =>
      refine .agg _ us (by simpa using h1) (fun i c hc => ?_) h3
      rw [List.getElem?_map] at hc
      cases hg : l'[i]? with
      | none => rw [hg] at hc; simp at hc
      | some c' => rw [hg] at hc; simp at hc; subst hc; exact one _ _ (h2 i c' hg)
  intro x u hv
  cases x <;> (first | exact two _ u hv | skip)
  rename_i l'
  cases hv with
  | tup _ us h1 h2 =>
    refine .tup _ us (by simpa using h1) (fun i c hc => ?_)
    rw [List.getElem?_map] at hc
    cases hg : l'[i]? with
    | none => rw [hg] at hc; simp at hc
    | some c' => rw [hg] at hc; simp at hc; subst hc; exact two _ _ (h2 i c' hg)

/-- An object inside what is handed back is written no more. -/
theorem Sp.frz {f : Nat} {args : List AV} {Q : AV → Hp → Prop} (h : Sp P f args (fun v H' => ∃ id ver cs, H'[id]? = some (.cells ver cs) ∧ Q (frz id ver cs v) (H'.set id .dead)) H) : Sp P f args Q H := by
  intro ρ I w us hs hv
  refine (h ρ I w us hs hv).mono ?_
  rintro e w' ⟨v, u, ρ', I', H', rfl, hm, hvr, id, ver, cs, hid, hq⟩
  obtain ⟨I'', hm', hv'⟩ := frz_sound hm.st hid
  exact ⟨_, u, _, I'', _, rfl, hm.trans hm', hv' _ _ hvr, hq⟩

/-- One of several ways. -/
theorem Sp.orE {f : Nat} {args : List AV} {Q Q' : AV → Hp → Prop} (h : Sp P f args (fun v H' => Q v H' ∨ Q' v H') H) (k : ∀ v H', Q' v H' → Q v H') : Sp P f args Q H := h.mono (fun v H' hq => hq.elim id (k v H'))
end

/-! ### What stays as it was -/
/-- All objects but these are as they were; none is gone. -/
def Same (fp : List Nat) (H H' : Hp) : Prop := H.length ≤ H'.length ∧ ∀ j o, H[j]? = some o → j ∉ fp → H'[j]? = some o
theorem Same.refl (fp : List Nat) (H : Hp) : Same fp H H := ⟨Nat.le_refl _, fun j o h _ => h⟩
theorem Same.trans {fp fp' : List Nat} {H H' H'' : Hp} (h : Same fp H H') (k : Same fp' H' H'') (hf : ∀ j ∈ fp', j ∈ fp ∨ H.length ≤ j) : Same fp H H'' := by
  refine ⟨Nat.le_trans h.1 k.1, fun j o hj hn => k.2 j o (h.2 j o hj hn) (fun hm => ?_)⟩
  rcases hf j hm with h1 | h1
  · exact hn h1
  · have := (List.getElem?_eq_some_iff.1 hj).1; omega
theorem Same.app (fp : List Nat) (H G : Hp) : Same fp H (H ++ G) := ⟨by simp, fun j o h _ => by rw [List.getElem?_append_left (List.getElem?_eq_some_iff.1 h).1]; exact h⟩
theorem Same.set {fp : List Nat} {H : Hp} {j : Nat} {o : Ob} (h : j ∈ fp) : Same fp H (H.set j o) := ⟨by simp, fun i o' hi hn => by
  have hne : j ≠ i := fun e => hn (by rw [← e]; exact h)
  rw [List.getElem?_set_ne hne]; exact hi⟩
theorem Same.wide {fp fp' : List Nat} {H H' : Hp} (h : Same fp H H') (hf : ∀ j ∈ fp, j ∈ fp') : Same fp' H H' := ⟨h.1, fun j o hj hn => h.2 j o hj (fun hm => hn (hf j hm))⟩
theorem Same.grown {H H' : Hp} (h : Same [] H H') : ∃ G, H' = H ++ G := by
  refine ⟨H'.drop H.length, ?_⟩
  have : H'.take H.length = H := by
    apply List.ext_getElem?
    intro i
    rw [List.getElem?_take]
    split
    · rename_i hi
      have := h.2 i _ (List.getElem?_eq_getElem hi) (by simp)
      rw [this, List.getElem?_eq_getElem hi]
    · rename_i hi
      rw [List.getElem?_eq_none (by omega)]
  conv => lhs; rw [← List.take_append_drop H.length H', this]
theorem Same.new {fp : List Nat} {H H' H'' : Hp} (h : Same [] H H') (k : Same fp H' H'') (hf : ∀ j ∈ fp, H.length ≤ j) : Same [] H H'' := h.trans k (fun j hj => .inr (hf j hj))
theorem Hp.lt {H : Hp} {j : Nat} {o : Ob} (h : H[j]? = some o) : j < H.length := (List.getElem?_eq_some_iff.1 h).1

/-! ### What a caller hands over may be told less exactly -/
/-- Place by place. -/
def Wks : List AV → List AV → Prop
  | [], [] => True
  | a :: l, b :: r => Wk a b ∧ Wks l r
  | _, _ => False
theorem Wks.refl : ∀ l, Wks l l
  | [] => trivial
  | a :: l => ⟨Wk.refl a, Wks.refl l⟩
theorem Wks.len : ∀ {l r : List AV}, Wks l r → r.length = l.length
  | [], [], _ => rfl
  | a :: l, b :: r, h => by simp [Wks.len h.2]
  | [], _ :: _, h => h.elim
  | _ :: _, [], h => h.elim
theorem Wks.get : ∀ {l r : List AV}, Wks l r → ∀ {i : Nat} {b : AV}, r[i]? = some b → ∃ a, l[i]? = some a ∧ Wk a b
  | [], [], _, i, b, hb => by simp at hb
  | a :: l, b :: r, h, 0, b', hb => by simp at hb; subst hb; exact ⟨a, rfl, h.1⟩
  | a :: l, b :: r, h, i + 1, b', hb => by simpa using Wks.get h.2 (by simpa using hb)
  | [], _ :: _, h, _, _, _ => h.elim
  | _ :: _, [], h, _, _, _ => h.elim
theorem Wk.agg {l r : List AV} (h : Wks l r) : Wk (.agg l) (.agg r) := fun ρ I u hu => by
  cases hu with
  | agg _ us h1 h2 h3 =>
    refine .agg r us (by rw [h.len]; exact h1) (fun i c hc => ?_) h3
    obtain ⟨a, ha, hw⟩ := h.get hc
    exact hw _ _ _ (h2 i a ha)
theorem Sp.argW {P : Program} {H : Hp} {f : Nat} {args args' : List AV} {Q : AV → Hp → Prop} (hw : Wks args args') (h : Sp P f args' Q H) : Sp P f args Q H := by
  intro ρ I w us hs hv
  refine h ρ I w us hs ⟨by rw [hw.len]; exact hv.1, fun i c hc => ?_⟩
  obtain ⟨a, ha, hw'⟩ := hw.get hc
  exact hw' _ _ _ (hv.2 i a ha)

/-- Bytes: by value, or none. -/
def BytesV (d : AV) (bs : List UInt8) : Prop := (∃ x, d = .row x bs.length (bs.map u8A)) ∨ (d = .v (.slice none 0 0) ∧ bs = [])
theorem BytesV.wk {d : AV} {bs : List UInt8} (h : BytesV d bs) : Wk d (.row false bs.length (bs.map u8A)) := by
  rcases h with ⟨x, rfl⟩ | ⟨rfl, rfl⟩
  · exact Wk.row
  · exact Wk.nil false

/-! ### Rows of structures -/
theorem flat_len {α : Type} {f : α → List AV} {n : Nat} (hn : ∀ x, (f x).length = n) : ∀ l : List α, (l.flatMap f).length = l.length * n
  | [] => by simp
  | x :: l => by rw [List.flatMap_cons, List.length_append, flat_len hn l, hn, List.length_cons, Nat.succ_mul]; omega
theorem flat_sub {α : Type} {f : α → List AV} {n : Nat} (hn : ∀ x, (f x).length = n) {x : α} : ∀ (l : List α) (i : Nat), l[i]? = some x → ((l.flatMap f).drop (i * n)).take n = f x
  | [], i, h => by simp at h
  | y :: l, 0, h => by
    simp at h; subst h
    rw [List.flatMap_cons, Nat.zero_mul, List.drop_zero, List.take_append_of_le_length (by rw [hn]; omega), List.take_of_length_le (by rw [hn]; omega)]
  | y :: l, i + 1, h => by
    rw [List.flatMap_cons, Nat.succ_mul, List.drop_append, List.drop_of_length_le (by rw [hn]; omega), List.nil_append, hn, Nat.add_sub_cancel]
    exact flat_sub hn l i (by simpa using h)
theorem flat_get {α : Type} {f : α → List AV} {n : Nat} (hn : ∀ x, (f x).length = n) {x : α} {l : List α} {i : Nat} (h : l[i]? = some x) (j : Nat) (hj : j < n) : (l.flatMap f)[i * n + j]? = (f x)[j]? := by
  rw [← flat_sub hn l i h, List.getElem?_take, if_pos hj, List.getElem?_drop]
theorem flat_get0 {α : Type} {f : α → List AV} {n : Nat} (hn : ∀ x, (f x).length = n) {x : α} {l : List α} {i : Nat} (h : l[i]? = some x) (hj : 0 < n) : (l.flatMap f)[i * n]? = (f x)[0]? := flat_get hn h 0 hj
theorem flat_le {α : Type} {f : α → List AV} {n : Nat} (hn : ∀ x, (f x).length = n) {x : α} {l : List α} {i : Nat} (h : l[i]? = some x) : i * n + n ≤ (l.flatMap f).length := by
  rw [flat_len hn]
  have hi := (List.getElem?_eq_some_iff.1 h).1
  calc i * n + n = (i + 1) * n := (Nat.succ_mul i n).symm
    _ ≤ l.length * n := Nat.mul_le_mul_right n hi
theorem flat_take {α : Type} {f : α → List AV} {n : Nat} (hn : ∀ x, (f x).length = n) : ∀ (k : Nat) (l : List α), (l.flatMap f).take (k * n) = (l.take k).flatMap f
  | 0, l => by simp
  | k + 1, [] => by simp
  | k + 1, x :: l => by
    rw [List.flatMap_cons, List.take_succ_cons, List.flatMap_cons, ← flat_take hn k l, Nat.succ_mul, List.take_append, List.take_of_length_le (by rw [hn]; omega), hn, Nat.add_sub_cancel]
theorem flat_drop {α : Type} {f : α → List AV} {n : Nat} (hn : ∀ x, (f x).length = n) : ∀ (k : Nat) (l : List α), (l.flatMap f).drop (k * n) = (l.drop k).flatMap f
  | 0, l => by simp
  | k + 1, [] => by simp
  | k + 1, x :: l => by
    rw [List.flatMap_cons, List.drop_succ_cons, ← flat_drop hn k l, Nat.succ_mul, List.drop_append, List.drop_of_length_le (by rw [hn]; omega), List.nil_append, hn, Nat.add_sub_cancel]
end Go.Mx
