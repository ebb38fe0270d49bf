/- How an argument of four small numbers reads; no condition beyond the reading itself. -/
import Derived.Test.YthpehiecmgipmaaLx0
import Derived.OpenShut
import Derived.Deep.Slices
import Derived.Deep.Fields
import Derived.SizedLaws
import Derived.WideShapes
namespace Go.Proofs.Ythpehiecmgipmaa.L
open Go.RowKit Go.ChangeShapes Go.WideShapes Go.Deep Go.Proofs.YthpehiecmgipmaaW.PrintWords Go.Proofs.YthpehiecmgipmaaW.PrintLast Go.Proofs.YthpehiecmgipmaaW.PrintMore
section
variable {H : Type} {enc : TypeId × Value → H} {P : Program} {w : World} {r : Reach} {b0 : Nat} {t : TypeId} {v : Value}
theorem okWide_array {n : Nat} {e : TypeId} (ht : P.underlying t = some (.array n e)) (h : Value.okWide P w r b0 t v) : ∃ cs, v = .agg cs ∧ cs.size = P.cellsOf t := by
  unfold Value.okWide at h
  rw [ht] at h
  obtain ⟨cs, h1, h2, _⟩ := h
  exact ⟨cs, h1, h2⟩
/-- An array of four whole numbers. -/
theorem opens_four {e2 : TypeId} {k : IntKind} (he : P.underlying t = some (.array 4 e2)) (h2 : P.underlying e2 = some (.int k)) (hc : P.cellsOf t = 4) (hc2 : P.cellsOf e2 = 1)
    (hv : Value.okWide P w r b0 t v) {d : DataW H} {ps : List MemPlace} (h : DataW.Trod enc P w 0 (fun _ => true) true t v d ps) :
    ∃ g0 g1 g2 g3 : Int, v = .agg #[.int k g0, .int k g1, .int k g2, .int k g3] ∧ (Lit.int k g0).wf = true ∧ (Lit.int k g1).wf = true ∧ (Lit.int k g2).wf = true ∧ (Lit.int k g3).wf = true := by
  obtain ⟨cs, rfl, hsz⟩ := okWide_array he hv
  rw [hc] at hsz
  obtain ⟨c0, c1, c2, c3, rfl⟩ : ∃ c0 c1 c2 c3, cs = #[c0, c1, c2, c3] := by
    obtain ⟨l⟩ := cs
    match l, hsz with
    | [a, b, c, d], _ => exact ⟨a, b, c, d, rfl⟩
  obtain ⟨fuel, hf⟩ := h
  obtain ⟨xs, m, _, _, hl, hx, hel⟩ := DataW.trod_array he hf
  rw [hc] at hl
  have key : ∀ i, i < 4 → ∃ z, ((#[c0, c1, c2, c3] : Array Value).toList.drop i).take 1 = [.int k z] ∧ (Lit.int k z).wf = true := by
    intro i hi
    have h1 := hel i hi
    rw [hc2, Nat.mul_one] at h1
    have hi' : i < xs.length := by omega
    rw [List.getElem?_eq_getElem hi'] at h1
    obtain ⟨z, hz, _, hw⟩ := DataW.trod_int h2 h1
    exact ⟨z, by simpa [Value.cells] using hz, hw⟩
  obtain ⟨g0, e0, w0⟩ := key 0 (by decide)
  obtain ⟨g1, e1, w1⟩ := key 1 (by decide)
  obtain ⟨g2, e2, w2⟩ := key 2 (by decide)
  obtain ⟨g3, e3, w3⟩ := key 3 (by decide)
  obtain rfl : c0 = .int k g0 := by simpa using e0
  obtain rfl : c1 = .int k g1 := by simpa using e1
  obtain rfl : c2 = .int k g2 := by simpa using e2
  obtain rfl : c3 = .int k g3 := by simpa using e3
  exact ⟨g0, g1, g2, g3, rfl, w0, w1, w2, w3⟩
end
end Go.Proofs.Ythpehiecmgipmaa.L
