import Derived.Test.YtaiajeomlfmegaaS
namespace Go.Proofs.Ytaiajeomlfmegaa
open Go.Mx
set_option linter.unusedVariables false
set_option linter.unusedSimpArgs false

/-! What each deed does, told at once for both ways. -/
def sendN (room : Int) (l : List Pk) (p : Pk) : List Pk := if (l.length : Int) < room then l ++ [p] else l
def codeN (room : Int) (l : List Pk) : Int := if (l.length : Int) < room then 0 else 3
def atP (l : List Pk) (i : Int) : Pk := (l[(placeN l.length i).toNat]?).getD ⟨0, 0, []⟩
def hasB (l : List Pk) : Bool := !l.isEmpty
def delN (l : List Pk) (i : Int) : List Pk := if l = [] then [] else l.eraseIdx (placeN l.length i).toNat
def dblN (room : Int) (l : List Pk) (i : Int) : List Pk := if l = [] ∨ room ≤ l.length then l else l ++ [atP l i]
def dblB (room : Int) (l : List Pk) : Bool := decide (¬ (l = [] ∨ room ≤ l.length))
theorem atP_nil (i : Int) : atP [] i = ⟨0, 0, []⟩ := rfl
theorem hasB_no {l : List Pk} (h : l = []) : hasB l = false := by subst h; rfl
theorem hasB_yes {l : List Pk} (h : l ≠ []) : hasB l = true := by cases l <;> simp_all [hasB]
theorem atP_some {l : List Pk} {i : Int} {p : Pk} (h : l[(placeN l.length i).toNat]? = some p) : atP l i = p := by simp [atP, h]

theorem at_j (a : Nat) (room i : Int) (l : List Pk) (fp : List Nat) (H : Hp) (Q : AV → Hp → Prop) (hn : NetAt H a room l fp) (hs : ∀ p ∈ l, p.d.length ≤ 1048585)
    (h : ∀ d, BytesV d (atP l i).d → Q (.tup [.agg [.v (.int .i64 (atP l i).f), .v (.int .i64 (atP l i).t), d], .v (.bool (hasB l))]) H) : Sp Try.prog 13 [.ptr a 0 0, .v (.int .i64 i)] Q H :=
  at_sp a room i l fp H Q hn hs (fun h0 => by subst h0; exact h _ (.inr ⟨rfl, rfl⟩)) (fun p h0 hp => by
    have := h _ (.inl ⟨false, rfl⟩); rw [atP_some hp, hasB_yes h0] at this; exact this)
theorem rat_j (a : Nat) (room i : Int) (l : List Pk) (fp : List Nat) (H : Hp) (Q : AV → Hp → Prop) (hn : RefAt H a room l fp) (hs : ∀ p ∈ l, p.d.length ≤ 1048585)
    (h : ∀ d, BytesV d (atP l i).d → Q (.tup [.agg [.v (.int .i64 (atP l i).f), .v (.int .i64 (atP l i).t), d], .v (.bool (hasB l))]) H) : Sp Try.prog 22 [.ptr a 0 0, .v (.int .i64 i)] Q H :=
  rat_sp a room i l fp H Q hn hs (fun h0 => by subst h0; exact h _ (.inr ⟨rfl, rfl⟩)) (fun p h0 hp => by
    have := h _ (.inl ⟨false, rfl⟩); rw [atP_some hp, hasB_yes h0] at this; exact this)
theorem send_j (a : Nat) (room : Int) (l : List Pk) (fp : List Nat) (x y : Int) (d : AV) (bs : List UInt8) (H : Hp) (Q : AV → Hp → Prop) (hn : NetAt H a room l fp) (hd : BytesV d bs) (hz : bs.length ≤ 1048585)
    (h : ∀ H' fp', NetAt H' a room (sendN room l ⟨x, y, bs⟩) fp' → Same fp H H' → (∀ j ∈ fp', j ∈ fp ∨ H.length ≤ j) → Q (.v (.int .i64 (codeN room l))) H') : Sp Try.prog 9 [.ptr a 0 0, .agg [.v (.int .i64 x), .v (.int .i64 y), d]] Q H :=
  send_sp a room l fp x y d bs H Q hn hd hz (fun h3 => by
    have hc : ¬ (l.length : Int) < room := by omega
    have := h H fp; simp only [sendN, codeN, if_neg hc] at this; exact this hn (Same.refl _ _) (fun _ => .inl)) (fun hc H' fp' k1 k2 k3 => by
    have := h H' fp'; simp only [sendN, codeN, if_pos hc] at this; exact this k1 k2 k3)
theorem rsend_j (a : Nat) (room : Int) (l : List Pk) (fp : List Nat) (x y : Int) (d : AV) (bs : List UInt8) (H : Hp) (Q : AV → Hp → Prop) (hn : RefAt H a room l fp) (hd : BytesV d bs) (hz : bs.length ≤ 1048585)
    (h : ∀ H' fp', RefAt H' a room (sendN room l ⟨x, y, bs⟩) fp' → Same fp H H' → (∀ j ∈ fp', j ∈ fp ∨ H.length ≤ j) → Q (.v (.int .i64 (codeN room l))) H') : Sp Try.prog 19 [.ptr a 0 0, .agg [.v (.int .i64 x), .v (.int .i64 y), d]] Q H :=
  rsend_sp a room l fp x y d bs H Q hn hd hz (fun h3 => by
    have hc : ¬ (l.length : Int) < room := by omega
    have := h H fp; simp only [sendN, codeN, if_neg hc] at this; exact this hn (Same.refl _ _) (fun _ => .inl)) (fun hc H' fp' k1 k2 k3 => by
    have := h H' fp'; simp only [sendN, codeN, if_pos hc] at this; exact this k1 k2 k3)
theorem deliver_j (a : Nat) (room i : Int) (l : List Pk) (fp : List Nat) (H : Hp) (Q : AV → Hp → Prop) (hn : NetAt H a room l fp) (hs : ∀ p ∈ l, p.d.length ≤ 1048585)
    (h : ∀ d H', BytesV d (atP l i).d → NetAt H' a room (delN l i) fp → Same fp H H' → Q (.tup [.agg [.v (.int .i64 (atP l i).f), .v (.int .i64 (atP l i).t), d], .v (.bool (hasB l))]) H') : Sp Try.prog 10 [.ptr a 0 0, .v (.int .i64 i)] Q H :=
  deliver_sp a room i l fp H Q hn hs (fun h0 => by subst h0; exact h _ H (.inr ⟨rfl, rfl⟩) hn (Same.refl _ _)) (fun p h0 hp H' k1 k2 => by
    have := h _ H' (.inl ⟨false, rfl⟩); rw [atP_some hp, hasB_yes h0, delN, if_neg h0] at this; exact this k1 k2)
theorem rdeliver_j (a : Nat) (room i : Int) (l : List Pk) (fp : List Nat) (H : Hp) (Q : AV → Hp → Prop) (hn : RefAt H a room l fp) (hs : ∀ p ∈ l, p.d.length ≤ 1048585)
    (h : ∀ d H' fp', BytesV d (atP l i).d → RefAt H' a room (delN l i) fp' → Same fp H H' → (∀ j ∈ fp', j ∈ fp ∨ H.length ≤ j) → Q (.tup [.agg [.v (.int .i64 (atP l i).f), .v (.int .i64 (atP l i).t), d], .v (.bool (hasB l))]) H') : Sp Try.prog 20 [.ptr a 0 0, .v (.int .i64 i)] Q H :=
  rdeliver_sp a room i l fp H Q hn hs (fun h0 => by subst h0; exact h _ H fp (.inr ⟨rfl, rfl⟩) hn (Same.refl _ _) (fun _ => .inl)) (fun p h0 hp H' fp' k1 k2 k3 => by
    have := h _ H' fp' (.inl ⟨false, rfl⟩); rw [atP_some hp, hasB_yes h0, delN, if_neg h0] at this; exact this k1 k2 k3)
theorem lose_j (a : Nat) (room i : Int) (l : List Pk) (fp : List Nat) (H : Hp) (Q : AV → Hp → Prop) (hn : NetAt H a room l fp) (hs : ∀ p ∈ l, p.d.length ≤ 1048585)
    (h : ∀ H', NetAt H' a room (delN l i) fp → Same fp H H' → Q (.v (.bool (hasB l))) H') : Sp Try.prog 15 [.ptr a 0 0, .v (.int .i64 i)] Q H :=
  lose_sp a room i l fp H Q hn hs (fun h0 => by subst h0; exact h H hn (Same.refl _ _)) (fun p h0 hp H' k1 k2 => by
    have := h H'; rw [hasB_yes h0, delN, if_neg h0] at this; exact this k1 k2)
theorem double_j (a : Nat) (room i : Int) (l : List Pk) (fp : List Nat) (H : Hp) (Q : AV → Hp → Prop) (hn : NetAt H a room l fp) (hs : ∀ p ∈ l, p.d.length ≤ 1048585)
    (h : ∀ H' fp', NetAt H' a room (dblN room l i) fp' → Same fp H H' → (∀ j ∈ fp', j ∈ fp ∨ H.length ≤ j) → Q (.v (.bool (dblB room l))) H') : Sp Try.prog 17 [.ptr a 0 0, .v (.int .i64 i)] Q H :=
  double_sp a room i l fp H Q hn hs (fun h0 => by
    have := h H fp; simp only [dblN, dblB, if_pos h0, h0, not_true, decide_false] at this; exact this hn (Same.refl _ _) (fun _ => .inl)) (fun p h0 hr hp H' fp' k1 k2 k3 => by
    have hc : ¬ (l = [] ∨ room ≤ l.length) := by rintro (h | h); exact h0 h; omega
    have := h H' fp'; simp only [dblN, dblB, if_neg hc, hc, not_false_iff, decide_true, atP_some hp] at this; exact this k1 k2 k3)
theorem rdouble_j (a : Nat) (room i : Int) (l : List Pk) (fp : List Nat) (H : Hp) (Q : AV → Hp → Prop) (hn : RefAt H a room l fp) (hs : ∀ p ∈ l, p.d.length ≤ 1048585)
    (h : ∀ H' fp', RefAt H' a room (dblN room l i) fp' → Same fp H H' → (∀ j ∈ fp', j ∈ fp ∨ H.length ≤ j) → Q (.v (.bool (dblB room l))) H') : Sp Try.prog 21 [.ptr a 0 0, .v (.int .i64 i)] Q H :=
  rdouble_sp a room i l fp H Q hn hs (fun h0 => by
    have := h H fp; simp only [dblN, dblB, if_pos h0, h0, not_true, decide_false] at this; exact this hn (Same.refl _ _) (fun _ => .inl)) (fun p h0 hr hp H' fp' k1 k2 k3 => by
    have hc : ¬ (l = [] ∨ room ≤ l.length) := by rintro (h | h); exact h0 h; omega
    have := h H' fp'; simp only [dblN, dblB, if_neg hc, hc, not_false_iff, decide_true, atP_some hp] at this; exact this k1 k2 k3)
theorem RefAt.rows {H : Hp} {b : Nat} {room : Int} {l : List Pk} {fp : List Nat} (h : RefAt H b room l fp) : ∃ sv, H[b]? = some (.cells 0 [.v (.int .i64 room), sv]) ∧ ∀ H, lenT H (some (TypeDesc.slice 33)) (some sv) = some (.av (.v (.int .i64 l.length))) := by
  obtain ⟨h0, ⟨rfl, h2, rfl⟩ | ⟨id, ver, cs, h1, h2, h3, h4, h5, rfl⟩⟩ := h
  · exact ⟨_, h2, fun _ => rfl⟩
  · exact ⟨_, h1, fun _ => rfl⟩
/-- Both nets, apart, holding the same; nothing is too long. -/
def Two (H : Hp) (room : Int) (l : List Pk) (fa fb : List Nat) : Prop := NetAt H 0 room l fa ∧ RefAt H 1 room l fb ∧ (∀ j ∈ fa, j ∉ fb) ∧ (∀ p ∈ l, p.d.length ≤ 200) ∧ (∀ j ∈ fa, j < H.length) ∧ (∀ j ∈ fb, j < H.length)
theorem atP_sz {l : List Pk} (h : ∀ p ∈ l, p.d.length ≤ 200) (i : Int) : (atP l i).d.length ≤ 200 := by
  unfold atP
  cases e : l[(placeN l.length i).toNat]? with
  | none => simp
  | some p => simpa using h p (List.mem_of_getElem? e)
theorem sendN_sz {l : List Pk} (h : ∀ p ∈ l, p.d.length ≤ 200) {room : Int} {q : Pk} (hq : q.d.length ≤ 200) : ∀ p ∈ sendN room l q, p.d.length ≤ 200 := by
  unfold sendN; split
  · intro p hp; rcases List.mem_append.1 hp with hp | hp
    · exact h p hp
    · simp at hp; subst hp; exact hq
  · exact h
theorem delN_sz {l : List Pk} (h : ∀ p ∈ l, p.d.length ≤ 200) {i : Int} : ∀ p ∈ delN l i, p.d.length ≤ 200 := by
  unfold delN; split
  · simp
  · exact fun p hp => h p (List.mem_of_mem_eraseIdx hp)
theorem dblN_sz {l : List Pk} (h : ∀ p ∈ l, p.d.length ≤ 200) {room i : Int} : ∀ p ∈ dblN room l i, p.d.length ≤ 200 := by
  unfold dblN; split
  · exact h
  · intro p hp; rcases List.mem_append.1 hp with hp | hp
    · exact h p hp
    · simp at hp; subst hp; exact atP_sz h i
theorem NetAt.lt {H : Hp} {a : Nat} {room : Int} {l : List Pk} {fp : List Nat} (h : NetAt H a room l fp) : ∀ j ∈ fp, j < H.length := by
  obtain ⟨h0, ⟨h1, h2, rfl⟩ | ⟨id, ver, cs, h1, h2, h3, h4, h5, rfl⟩⟩ := h
  · simpa using Hp.lt h2
  · simpa using ⟨Hp.lt h1, Hp.lt h3⟩
theorem RefAt.lt {H : Hp} {a : Nat} {room : Int} {l : List Pk} {fp : List Nat} (h : RefAt H a room l fp) : ∀ j ∈ fp, j < H.length := by
  obtain ⟨h0, ⟨h1, h2, rfl⟩ | ⟨id, ver, cs, h1, h2, h3, h4, h5, rfl⟩⟩ := h
  · simpa using Hp.lt h2
  · simpa using ⟨Hp.lt h1, Hp.lt h3⟩
/-- Both nets have done the same. -/
theorem Two.both {H H1 H2 : Hp} {room : Int} {l l' : List Pk} {fa fb fa' fb' : List Nat} (h : Two H room l fa fb) (ha : NetAt H1 0 room l' fa') (sa : Same fa H H1) (na : ∀ j ∈ fa', j ∈ fa ∨ H.length ≤ j)
    (hb : RefAt H2 1 room l' fb') (sb : Same fb H1 H2) (nb : ∀ j ∈ fb', j ∈ fb ∨ H1.length ≤ j) (hz : ∀ p ∈ l', p.d.length ≤ 200) : Two H2 room l' fa' fb' := by
  obtain ⟨_, _, hd, _, la, lb⟩ := h
  have la1 := ha.lt
  have hab : ∀ j ∈ fa', j ∉ fb := fun j hj hjb => by
    rcases na j hj with h | h
    · exact hd j h hjb
    · have := lb j hjb; omega
  refine ⟨ha.same sb hab, hb, fun j hj hjb => ?_, hz, fun j hj => Nat.lt_of_lt_of_le (la1 j hj) sb.1, hb.lt⟩
  rcases nb j hjb with h | h
  · exact hab j hj h
  · have := la1 j hj; omega
theorem Two.ref {H H1 : Hp} {room : Int} {l : List Pk} {fa fb : List Nat} (h : Two H room l fa fb) (sa : Same fa H H1) : RefAt H1 1 room l fb := h.2.1.same sa (fun j hj hja => h.2.2.1 j hja hj)
theorem Two.net {H H1 : Hp} {room : Int} {l : List Pk} {fa fb : List Nat} (h : Two H room l fa fb) (sb : Same fb H H1) : NetAt H1 0 room l fa := h.1.same sb h.2.2.1
theorem Two.both2 {H H1 H2 : Hp} {room : Int} {l l' : List Pk} {fa fb fb' : List Nat} (h : Two H room l fa fb) (ha : NetAt H2 0 room l' fa) (sa : Same fa H1 H2)
    (hb : RefAt H1 1 room l' fb') (sb : Same fb H H1) (nb : ∀ j ∈ fb', j ∈ fb ∨ H.length ≤ j) (hz : ∀ p ∈ l', p.d.length ≤ 200) : Two H2 room l' fa fb' := by
  obtain ⟨_, _, hd, _, la, lb⟩ := h
  have hab : ∀ j ∈ fa, j ∉ fb' := fun j hj hjb => by
    rcases nb j hjb with h | h
    · exact hd j hj h
    · have := la j hj; omega
  exact ⟨ha, hb.same sa (fun j hj hja => hab j hja hj), hab, hz, ha.lt, fun j hj => Nat.lt_of_lt_of_le (hb.lt j hj) sa.1⟩
end Go.Proofs.Ytaiajeomlfmegaa
