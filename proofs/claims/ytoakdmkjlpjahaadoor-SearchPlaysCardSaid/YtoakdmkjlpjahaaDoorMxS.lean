/-
  The abstract machine: how a law's arguments are read.
-/
import Derived.Test.YtoakdmkjlpjahaaDoorMxR
import Derived.SizedLaws
import Derived.ChangeSlices
namespace Go.Mx
open Go.RowKit
set_option linter.unusedVariables false

theorem spotOf {P : Program} {w : World} {base : Nat} {t e : TypeId} {x : Addr} {len cap : Nat} (ht : P.underlying t = some (.slice e)) (h : Value.okWide P w .any base t (.slice (some x) len cap)) : x.spot = none := by
  simp only [Value.okWide, ht, Cell.okWide, Cell.ok] at h
  exact h.2.2.2.1

/-- A slice of whole numbers, weighed. -/
theorem lenOfInts {H : Type} {enc : TypeId × Value → H} {P : Program} {W : World} {base : Nat} {spare : Nat → Bool} {held : Bool} {t e : TypeId} {k : IntKind} {a : Option Addr} {len cap : Nat} {d : DataW H} {ps : List MemPlace} {ts : List TypeId} {ds : List (DataW H)} (j : Nat)
    (hsz : (DataW.weightsEach P ts ds).all (· ≤ reachBytes) = true) (ht : ts[j]? = some t) (hd : ds[j]? = some d) (hu : P.underlying t = some (.slice e)) (he : P.underlying e = some (.int k)) (hc : P.cellsOf e = 1)
    (h : DataW.Trod enc P W base spare held t (.slice a len cap) d ps) : len * P.bytesOf e ≤ 140737488351232 := by
  obtain ⟨fuel, hf⟩ := h
  rcases Go.ChangeShapes.open_ints hu he hc hf with ⟨h0, _⟩ | ⟨ad, l, c, zs, h0, _, hle, _, hz, hx, _, _⟩ <;> simp [Value.cells] at h0 <;> obtain ⟨rfl, rfl, rfl⟩ := h0
  · omega
  · have hx1 := (Prod.mk.inj hx).1
    subst hx1
    have hw := sized_slice hsz ht hd hu
    have hsum : (Go.ChangeShapes.lits (H := H) k (zs.take len)).length + (Go.ChangeShapes.lits (H := H) k (zs.drop len)).length = zs.length := by simp [Go.ChangeShapes.lits]; omega
    rw [hsum] at hw
    refine Nat.le_trans (Nat.mul_le_mul_right _ ?_) hw
    rw [hz]; split <;> omega

theorem bytesOfInts : ∀ (zs : List Int), (∀ n ∈ zs, (Lit.int .u8 n).wf = true) → ∃ bs : List UInt8, zs = bs.map (fun b => (b.toNat : Int))
  | [], _ => ⟨[], rfl⟩
  | z :: zs, h => by
    obtain ⟨bs, rfl⟩ := bytesOfInts zs (fun n hn => h n (by simp [hn]))
    have hz := h z (by simp)
    simp [Lit.wf, IntKind.min, IntKind.max, IntKind.signed, IntKind.bits] at hz
    refine ⟨UInt8.ofNat z.toNat :: bs, ?_⟩
    simp
    omega

/-- A slice that is handed over, and that nobody writes any more. -/
theorem Sp.freezeArg {P : Program} {H : Hp} {f : Nat} {rest : List AV} {Q : AV → Hp → Prop} {id ver sz off n : Nat} {cs : List AV} (hid : H[id]? = some (.cells ver cs)) (hle : off + n * sz ≤ cs.length)
    (h : Sp P f (.row false n ((cs.drop off).take (n * sz)) :: rest) Q (H.set id .dead)) : Sp P f (.sl id ver sz off n :: rest) Q H := by
  intro ρ I w us hs hv
  have h0 := hv.2 0 _ rfl
  obtain ⟨I', hm, hv'⟩ := freezeSl (P := P) hs hid hle h0
  refine (h ρ I' w us hm.st ⟨by simpa using hv.1, fun i c hc => ?_⟩).mono ?_
  · cases i with
    | zero => simp at hc; subst hc; exact hv'
    | succ i => exact (hv.2 (i + 1) c (by simpa using hc)).ext hm.ext
  · rintro e w' ⟨v, u, ρ', I2, H', rfl, hm2, hvr, hq⟩
    exact ⟨v, u, ρ', I2, H', rfl, hm.trans hm2, hvr, hq⟩

/-- A list that is appended to: nil, or an object of its own (cells of size 1). -/
def OutG (H : Hp) (cs : List AV) (v : AV) (H' : Hp) : Prop :=
  (cs = [] ∧ v = .v (.slice none 0 0) ∧ H' = H) ∨ (cs ≠ [] ∧ ∃ ver, v = .sl H.length ver 1 0 cs.length ∧ H' = H ++ [.cells ver cs])
theorem OutG.nil (H : Hp) : OutG H [] (.v (.slice none 0 0)) H := .inl ⟨rfl, rfl, rfl⟩
theorem appA_out {H H' : Hp} {cs : List AV} {v c : AV} {x : Bool} {bytes : Nat} {k : AV → Hp → Prop} (hO : OutG H cs v H') (hb : (cs.length + 1) * bytes ≤ 140737488355328 ∧ cs.length + 1 ≤ 4611686018427387904)
    (h : ∀ v' H'', OutG H (cs ++ [c]) v' H'' → k v' H'') : appA H' 1 bytes v (.row x 1 [c]) k := by
  rcases hO with ⟨rfl, rfl, rfl⟩ | ⟨hne, ver, rfl, rfl⟩
  · have h1 := h (.sl H'.length 0 1 0 1) (H' ++ [.cells 0 [c]]) (.inr ⟨by simp, 0, by simp, by simp⟩)
    simp at hb
    simp [appA, srcA, hb]
    exact h1
  · have h1 := h (.sl H.length (ver + 1) 1 0 (cs.length + 1)) (H ++ [.cells (ver + 1) (cs ++ [c])]) (.inr ⟨by simp, ver + 1, by simp, by simp⟩)
    simp [appA, srcA]
    refine ⟨⟨hb.1, by omega⟩, by simpa using h1⟩
theorem OutG.len {H H' : Hp} {cs : List AV} {v : AV} (hO : OutG H cs v H') : lenA v = some (.v (.int .i64 cs.length)) := by
  rcases hO with ⟨rfl, rfl, rfl⟩ | ⟨hne, ver, rfl, rfl⟩ <;> simp [lenA]
theorem OutG.str {H H' : Hp} {bs : List UInt8} {v : AV} (hO : OutG H (bs.map u8A) v H') : strOf H' v = some (.v (.string ⟨bs.toArray⟩)) := by
  rcases hO with ⟨h0, rfl, rfl⟩ | ⟨hne, ver, rfl, rfl⟩
  · simp at h0; subst h0; rfl
  · simp [strOf]

theorem OutG.grown {H H' : Hp} {cs : List AV} {v : AV} (hO : OutG H cs v H') : ∃ G, H' = H ++ G := by
  rcases hO with ⟨_, _, rfl⟩ | ⟨_, ver, _, rfl⟩ <;> simp

/-- The slice that is handed back ahead of others is nil, or a list of its own; it stands by value, and what was laid new is forgotten. -/
def RowG (H : Hp) (Q : AV → Hp → Prop) (v : AV) (H' : Hp) : Prop :=
  ∃ (v0 : AV) (vs cs : List AV) (G G1 : Hp), v = .tup (v0 :: vs) ∧ H' = H ++ G ∧ ((v0 = .v (.slice none 0 0) ∧ cs = []) ∨ OutG (H ++ G1) cs v0 H') ∧ (∀ c ∈ cs, Low 0 c) ∧ (∀ c ∈ vs, Low 0 c) ∧ Q (.tup (.row false cs.length cs :: vs)) H
theorem Sp.rowG {P : Program} {H : Hp} {f : Nat} {args : List AV} {Q : AV → Hp → Prop} (h : Sp P f args (RowG H Q) H) : Sp P f args Q H := by
  intro ρ I w us hs hv
  refine (h ρ I w us hs hv).mono ?_
  rintro e w' ⟨v, u, ρ', I', H', rfl, hm, hvr, v0, vs, cs, G, G1, rfl, rfl, hc, hl1, hl2, hq⟩
  have hlow : Low H.length (.tup (.row false cs.length cs :: vs)) := by
    have : Low 0 (.tup (.row false cs.length cs :: vs)) := by
      rw [low_tup]
      intro c hc
      rcases List.mem_cons.1 hc with rfl | hc
      · rw [low_row]; exact hl1
      · exact hl2 c hc
    exact this.mono (Nat.zero_le _)
  rcases hc with ⟨h1, h2⟩ | ⟨h2, h1, _⟩ | ⟨hne, ver, rfl, hH⟩
  · subst h1 h2
    exact ⟨_, u, _, I', H, rfl, hm.drop hs (Nat.le_refl _) hs.low, VR.cut ((Wk.nil false).tup _ _ _ hvr) hlow, hq⟩
  · subst h1 h2
    exact ⟨_, u, _, I', H, rfl, hm.drop hs (Nat.le_refl _) hs.low, VR.cut ((Wk.nil false).tup _ _ _ hvr) hlow, hq⟩
  · have hid : (H ++ G)[(H ++ G1).length]? = some (.cells ver cs) := by rw [hH]; simp
    cases hvr with
    | tup _ us hl hvs =>
      have h0 := hvs 0 _ rfl
      obtain ⟨I'', hm', hv'⟩ := freezeSl (P := P) hm.st hid (by simp) h0
      have hcs : (cs.drop 0).take (cs.length * 1) = cs := by simp
      rw [hcs] at hv'
      have hset : (H ++ G).set (H ++ G1).length .dead = H ++ G.set G1.length .dead := by
        rw [List.length_append, List.set_append_right _ _ (by omega)]
        simp
      rw [hset] at hm'
      refine ⟨_, _, _, I'', H, rfl, (hm.trans hm').drop hs (Nat.le_refl _) hs.low, VR.cut (.tup _ us (by simpa using hl) (fun i c hc => ?_)) hlow, hq⟩
      cases i with
      | zero => simp at hc; subst hc; exact hv'
      | succ i => exact (hvs (i + 1) c (by simpa using hc)).ext hm'.ext

end Go.Mx
