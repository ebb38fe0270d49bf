/- How LineFirst's argument reads: a slice of arrays of three bytes, as a list of such. -/
import Derived.Test.YtpdnekffippgdaaOpens
namespace Go.Proofs.Ytpdnekffippgdaa.L
open Go.RowKit Go.ChangeShapes Go.WideShapes Go.Deep Go.Proofs.YtpdnekffippgdaaW.PrintWords Go.Proofs.YtpdnekffippgdaaW.PrintLast Go.Proofs.YtpdnekffippgdaaW.PrintMore
variable {H : Type} {enc : TypeId × Value → H} {w : World}
theorem opens27q {a : Option Addr} {len cap : Nat} {d : DataW H} {ps : List MemPlace} (h : DataW.Trod enc Try.prog w 0 (fun _ => true) true 22 (.slice a len cap) d ps) : ∃ xs : List S27, xs.length = len ∧ len ≤ cap ∧ Kd.C k27 w a len xs ∧ ∀ x ∈ xs, 0 ≤ x.f1 ∧ 0 ≤ x.f2 :=
  opens_slice (z := z27) (R := k27.K w) (Q := fun x => 0 ≤ x.f1 ∧ 0 ≤ x.f2) (sz := 3) Try.underlying22 (by kernel_rfl) (fun fuel cs x h => by
    obtain ⟨zs, hl, rfl, hw⟩ := opens_array (k := .u8) Try.underlying27 Try.underlying5 (by kernel_rfl) (by kernel_rfl) h
    obtain ⟨z0, z1, z2, rfl⟩ : ∃ z0 z1 z2, zs = [z0, z1, z2] := by match zs, hl with | [z0, z1, z2], _ => exact ⟨z0, z1, z2, rfl⟩
    exact ⟨⟨z0, z1, z2⟩, k27_mk w ⟨z0, z1, z2⟩, (bounds_u8 (hw z1 (by simp))).1, (bounds_u8 (hw z2 (by simp))).1⟩) h
end Go.Proofs.Ytpdnekffippgdaa.L
