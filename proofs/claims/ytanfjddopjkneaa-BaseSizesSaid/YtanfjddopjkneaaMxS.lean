/-
  The abstract machine: how a law's arguments are read.
-/
import Derived.Test.YtanfjddopjkneaaMxR
namespace Go.Mx
open Go.RowKit
set_option linter.unusedVariables false

theorem spotOf {P : Program} {w : World} {base : Nat} {t e : TypeId} {x : Addr} {len cap : Nat} (ht : P.underlying t = some (.slice e)) (h : Value.okWide P w .any base t (.slice (some x) len cap)) : x.spot = none := by
  simp only [Value.okWide, ht, Cell.okWide, Cell.ok] at h
  exact h.2.2.2.1

theorem bytesOfInts : ∀ (zs : List Int), (∀ n ∈ zs, (Lit.int .u8 n).wf = true) → ∃ bs : List UInt8, zs = bs.map (fun b => (b.toNat : Int))
  | [], _ => ⟨[], rfl⟩
  | z :: zs, h => by
    obtain ⟨bs, rfl⟩ := bytesOfInts zs (fun n hn => h n (by simp [hn]))
    have hz := h z (by simp)
    simp [Lit.wf, IntKind.min, IntKind.max, IntKind.signed, IntKind.bits] at hz
    refine ⟨UInt8.ofNat z.toNat :: bs, ?_⟩
    simp
    omega

end Go.Mx
