/-
  The abstract machine: whole numbers.
-/
import Derived.Test.YtoakdmkjlpjahaaDoorMxP
namespace Go.Mx
open Go.RowKit
set_option linter.unusedVariables false
set_option linter.unusedSimpArgs false

theorem wr_i64 {x : Int} (h : -9223372036854775808 ≤ x ∧ x ≤ 9223372036854775807) : IntKind.i64.wrap x = x := by
  unfold IntKind.wrap
  simp [IntKind.bits, IntKind.signed]
  split <;> omega
theorem wr_u64 {x : Int} (h : 0 ≤ x ∧ x ≤ 18446744073709551615) : IntKind.u64.wrap x = x := by
  unfold IntKind.wrap
  simp [IntKind.bits, IntKind.signed]
  omega
theorem wr_u32 {x : Int} (h : 0 ≤ x ∧ x ≤ 4294967295) : IntKind.u32.wrap x = x := by
  unfold IntKind.wrap
  simp [IntKind.bits, IntKind.signed]
  omega
theorem wr_u16 {x : Int} (h : 0 ≤ x ∧ x ≤ 65535) : IntKind.u16.wrap x = x := by
  unfold IntKind.wrap
  simp [IntKind.bits, IntKind.signed]
  omega
theorem wr_u8 {x : Int} (h : 0 ≤ x ∧ x ≤ 255) : IntKind.u8.wrap x = x := by
  unfold IntKind.wrap
  simp [IntKind.bits, IntKind.signed]
  omega
theorem wr_i32 {x : Int} (h : -2147483648 ≤ x ∧ x ≤ 2147483647) : IntKind.i32.wrap x = x := by
  unfold IntKind.wrap
  simp [IntKind.bits, IntKind.signed]
  split <;> omega
theorem wr_u8_mod (x : Int) : IntKind.u8.wrap x = x % 256 := by
  unfold IntKind.wrap
  simp [IntKind.bits, IntKind.signed]
theorem wr_u32_mod (x : Int) : IntKind.u32.wrap x = x % 4294967296 := by
  unfold IntKind.wrap
  simp [IntKind.bits, IntKind.signed]
theorem wr_u64_mod (x : Int) : IntKind.u64.wrap x = x % 18446744073709551616 := by
  unfold IntKind.wrap
  simp [IntKind.bits, IntKind.signed]
theorem wr_u16_mod (x : Int) : IntKind.u16.wrap x = x % 65536 := by
  unfold IntKind.wrap
  simp [IntKind.bits, IntKind.signed]

theorem bv_toNat {n : Nat} {x : Int} (h : 0 ≤ x ∧ x < 2 ^ n) : (BitVec.ofInt n x).toNat = x.toNat := by
  rw [BitVec.toNat_ofInt]
  congr 1
  exact Int.emod_eq_of_lt h.1 (by simpa using h.2)

/-- 'and' with a row of ones. -/
theorem bv_mask {n : Nat} {x y : Int} (k : Nat) (h : 0 ≤ x ∧ x < 2 ^ n) (hy : y = 2 ^ k - 1) (hk : k ≤ n) : (((BitVec.ofInt n x) &&& (BitVec.ofInt n y)).toNat : Int) = x % 2 ^ k := by
  obtain ⟨x, rfl⟩ := Int.eq_ofNat_of_zero_le h.1
  have hp : 1 ≤ 2 ^ k := Nat.one_le_two_pow
  have hkn : 2 ^ k ≤ 2 ^ n := Nat.pow_le_pow_right (by decide) hk
  have e2 : ∀ m : Nat, ((2 : Int) ^ m) = ((2 ^ m : Nat) : Int) := fun m => by simp
  have e : y = ((2 ^ k - 1 : Nat) : Int) := by rw [hy, e2]; omega
  subst e
  rw [BitVec.toNat_and, bv_toNat h, bv_toNat ⟨by omega, by rw [e2]; omega⟩]
  simp only [Int.toNat_natCast, Nat.and_two_pow_sub_one_eq_mod]
  simp

/-- 'or' of what does not meet. -/
theorem bv_or {n : Nat} {x y : Int} (k : Nat) (q : Int) (hx : x = q * 2 ^ k) (h0 : 0 ≤ q) (hn : x < 2 ^ n) (hy : 0 ≤ y ∧ y < 2 ^ k) (hk : k ≤ n) : (((BitVec.ofInt n x) ||| (BitVec.ofInt n y)).toNat : Int) = x + y := by
  obtain ⟨q, rfl⟩ := Int.eq_ofNat_of_zero_le h0
  obtain ⟨y, rfl⟩ := Int.eq_ofNat_of_zero_le hy.1
  have hkn : 2 ^ k ≤ 2 ^ n := Nat.pow_le_pow_right (by decide) hk
  have e2 : ∀ m : Nat, ((2 : Int) ^ m) = ((2 ^ m : Nat) : Int) := fun m => by simp
  have e : x = ((2 ^ k * q : Nat) : Int) := by rw [hx, e2, Nat.mul_comm]; simp
  subst e
  have hy2 := hy.2
  rw [e2] at hy2 hn
  have hyk : y < 2 ^ k := by omega
  rw [BitVec.toNat_or, bv_toNat ⟨by omega, by rw [e2]; exact hn⟩, bv_toNat ⟨by omega, by rw [e2]; omega⟩]
  simp only [Int.toNat_natCast]
  rw [← Nat.two_pow_add_eq_or_of_lt hyk]
  simp

@[simp] theorem take_map_self {α β : Type} (f : α → β) (l : List α) : (l.map f).take l.length = l.map f := List.take_of_length_le (by simp)
@[simp] theorem low_v (n : Nat) (x : Value) : Low n (.v x) ↔ True := ⟨fun _ => trivial, fun _ => .v x⟩
theorem Low.list {n : Nat} {cs : List AV} (h : ∀ c ∈ cs, Low n c) (i : Nat) (c : AV) (hc : cs[i]? = some c) : Low n c := h c (List.mem_of_getElem? hc)
@[simp] theorem low_row (n m : Nat) (x : Bool) (cs : List AV) : Low n (.row x m cs) ↔ ∀ c ∈ cs, Low n c := by
  refine ⟨fun h => ?_, fun h => .row x m cs (Low.list h)⟩
  cases h with
  | row _ _ _ h => intro c hc; obtain ⟨i, hi⟩ := List.getElem?_of_mem hc; exact h i c hi
@[simp] theorem low_agg (n : Nat) (cs : List AV) : Low n (.agg cs) ↔ ∀ c ∈ cs, Low n c := by
  refine ⟨fun h => ?_, fun h => .agg cs (Low.list h)⟩
  cases h with
  | agg _ h => intro c hc; obtain ⟨i, hi⟩ := List.getElem?_of_mem hc; exact h i c hi
@[simp] theorem low_tup (n : Nat) (cs : List AV) : Low n (.tup cs) ↔ ∀ c ∈ cs, Low n c := by
  refine ⟨fun h => ?_, fun h => .tup cs (Low.list h)⟩
  cases h with
  | tup _ h => intro c hc; obtain ⟨i, hi⟩ := List.getElem?_of_mem hc; exact h i c hi
@[simp] theorem low_sl (n id ver sz off m : Nat) : Low n (.sl id ver sz off m) ↔ id < n := ⟨fun h => by cases h; assumption, fun h => .sl _ _ _ _ _ h⟩
@[simp] theorem low_u8 (n : Nat) (b : UInt8) : Low n (u8A b) ↔ True := ⟨fun _ => trivial, fun _ => .v _⟩

/-- What is known of a value is told less exactly. -/
def Wk (v v' : AV) : Prop := ∀ ρ I u, VR ρ I v u → VR ρ I v' u
theorem Wk.refl (v : AV) : Wk v v := fun _ _ _ h => h
theorem Wk.nil (x : Bool) : Wk (.v (.slice none 0 0)) (.row x 0 []) := fun ρ I u h => by
  cases h
  exact .row x 0 [] [] none 0 rfl (fun i c hc => by simp at hc) (.inl ⟨rfl, rfl⟩) (by simp) (Nat.le_refl _) (by simp)
theorem Wk.row {x : Bool} {n : Nat} {cs : List AV} : Wk (.row x n cs) (.row false n cs) := fun ρ I u h => by
  cases h with
  | row _ _ _ us ad cap h1 h2 h3 h4 h5 h6 => exact .row false n cs us ad cap h1 h2 h3 h4 h5 (by simp)
theorem Wk.tup {v v' : AV} {vs : List AV} (h : Wk v v') : Wk (.tup (v :: vs)) (.tup (v' :: vs)) := fun ρ I u hu => by
  cases hu with
  | tup _ us hl hvs =>
    refine .tup _ us (by simpa using hl) (fun i c hc => ?_)
    cases i with
    | zero => simp at hc; subst hc; exact h _ _ _ (hvs 0 v rfl)
    | succ i => exact hvs (i + 1) c (by simpa using hc)
theorem Sp.weak {P : Program} {H : Hp} {f : Nat} {args : List AV} {Q : AV → Hp → Prop} (h : Sp P f args (fun v H' => ∃ v', Wk v v' ∧ Q v' H') H) : Sp P f args Q H := by
  intro ρ I w us hs hv
  refine (h ρ I w us hs hv).mono ?_
  rintro e w' ⟨v, u, ρ', I', H', rfl, hm, hvr, v', hw, hq⟩
  exact ⟨v', u, ρ', I', H', rfl, hm, hw _ _ _ hvr, hq⟩

/-- The slice that is handed back ahead of others is nil, or written no more; it stands by value, and what was laid new is forgotten. -/
def RowT (H : Hp) (Q : AV → Hp → Prop) (v : AV) (H' : Hp) : Prop :=
  (∃ vs G, v = .tup (.v (.slice none 0 0) :: vs) ∧ H' = H ++ G ∧ (∀ c ∈ vs, Low 0 c) ∧ Q (.tup (.row false 0 [] :: vs)) H) ∨
  (∃ ver sz n cs vs, v = .tup (.sl H.length ver sz 0 n :: vs) ∧ H' = H ++ [.cells ver cs] ∧ n * sz = cs.length ∧ (∀ c ∈ cs, Low 0 c) ∧ (∀ c ∈ vs, Low 0 c) ∧ Q (.tup (.row false n cs :: vs)) H)
theorem Sp.rowT {P : Program} {H : Hp} {f : Nat} {args : List AV} {Q : AV → Hp → Prop} (h : Sp P f args (RowT H Q) H) : Sp P f args Q H := by
  intro ρ I w us hs hv
  refine (h ρ I w us hs hv).mono ?_
  rintro e w' ⟨v, u, ρ', I', H', rfl, hm, hvr, ⟨vs, G, rfl, rfl, hl2, hq⟩ | ⟨ver, sz, n, cs, vs, rfl, rfl, hn, hl1, hl2, hq⟩⟩
  · refine ⟨_, u, _, I', H, rfl, hm.drop hs (Nat.le_refl _) hs.low, VR.cut ((Wk.nil false).tup _ _ _ hvr) ?_, hq⟩
    have : Low 0 (.tup (.row false 0 [] :: vs)) := by
      rw [low_tup]
      intro c hc
      rcases List.mem_cons.1 hc with rfl | hc
      · rw [low_row]; intro c hc; simp at hc
      · exact hl2 c hc
    exact this.mono (Nat.zero_le _)
  · have hid : (H ++ [Ob.cells ver cs])[H.length]? = some (.cells ver cs) := by simp
    cases hvr with
    | tup _ us hl hvs =>
      have h0 := hvs 0 _ rfl
      obtain ⟨I'', hm', hv'⟩ := freezeSl (P := P) hm.st hid (by omega) h0
      have hcs : (cs.drop 0).take (n * sz) = cs := by rw [hn]; simp
      rw [hcs] at hv'
      have hset : (H ++ [Ob.cells ver cs]).set H.length .dead = H ++ [.dead] := by simp
      rw [hset] at hm'
      refine ⟨_, _, _, I'', H, rfl, (hm.trans hm').drop hs (Nat.le_refl _) hs.low, VR.cut (.tup _ us (by simpa using hl) (fun i c hc => ?_)) ?_, hq⟩
      · cases i with
        | zero => simp at hc; subst hc; exact hv'
        | succ i => exact (hvs (i + 1) c (by simpa using hc)).ext hm'.ext
      · have : Low 0 (.tup (.row false n cs :: vs)) := by
          rw [low_tup]
          intro c hc
          rcases List.mem_cons.1 hc with rfl | hc
          · rw [low_row]; exact hl1
          · exact hl2 c hc
        exact this.mono (Nat.zero_le _)

end Go.Mx
