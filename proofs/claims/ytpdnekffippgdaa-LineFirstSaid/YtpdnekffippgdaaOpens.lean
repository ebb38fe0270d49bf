/- How arguments read: a slice of arrays of whole numbers, of structs, as a list; no condition beyond the reading itself. -/
import Derived.Test.YtpdnekffippgdaaLx0
import Derived.OpenShut
import Derived.Deep.Slices
import Derived.Deep.Fields
import Derived.SizedLaws
namespace Go.Proofs.Ytpdnekffippgdaa.L
open Go.RowKit Go.ChangeShapes Go.WideShapes Go.Deep Go.Proofs.YtpdnekffippgdaaW.PrintWords Go.Proofs.YtpdnekffippgdaaW.PrintLast Go.Proofs.YtpdnekffippgdaaW.PrintMore
section
variable {H : Type} {enc : TypeId × Value → H} {P : Program} {w : World}

/-- What holds below n of something each, in one list. -/
theorem list_of {α : Type} (n : Nat) (z : α) {p : Nat → α → Prop} (h : ∀ i, i < n → ∃ x, p i x) : ∃ xs : List α, xs.length = n ∧ ∀ i x, xs[i]? = some x → p i x := by
  classical
  refine ⟨(List.range n).map fun i => if hi : i < n then Classical.choose (h i hi) else z, by simp, fun i x hx => ?_⟩
  simp only [List.getElem?_map, Option.map_eq_some_iff] at hx
  obtain ⟨j, hj, rfl⟩ := hx
  have hlt : i < n := by
    have := (List.getElem?_eq_some_iff.1 hj).1
    simpa using this
  have e : j = i := by
    rw [List.getElem?_range hlt] at hj
    exact (Option.some.inj hj).symm
  subst e
  rw [dif_pos hlt]
  exact Classical.choose_spec (h j hlt)

/-- An array of n whole numbers. -/
theorem opens_array {n : Nat} {e e2 : TypeId} {k : IntKind} (he : P.underlying e = some (.array n e2)) (h2 : P.underlying e2 = some (.int k)) (hc : P.cellsOf e = n) (hc2 : P.cellsOf e2 = 1) {fuel : Nat} {cs : List Value} {x : DataW H × List MemPlace}
    (h : DataW.trod enc P w 0 (fun _ => true) true fuel e cs = some x) : ∃ zs : List Int, zs.length = n ∧ cs = zs.map (Value.int k) ∧ ∀ z ∈ zs, (Lit.int k z).wf = true := by
  obtain ⟨xs, m, _, _, hl, hx, hel⟩ := DataW.trod_array he h
  rw [hc] at hl
  obtain ⟨zs, hz, hp⟩ := list_of (α := Int) n 0 (p := fun i z => cs[i]? = some (Value.int k z) ∧ (Lit.int k z).wf = true) (fun i hi => by
    have h1 := hel i hi
    rw [hc2, Nat.mul_one] at h1
    have hi' : i < xs.length := by omega
    rw [List.getElem?_eq_getElem hi'] at h1
    obtain ⟨z, hz, _, hw⟩ := DataW.trod_int h2 h1
    refine ⟨z, ?_, hw⟩
    have h3 := congrArg (fun l => l[0]?) hz
    simpa [List.getElem?_take, List.getElem?_drop] using h3)
  refine ⟨zs, hz, ?_, fun z hzm => ?_⟩
  · apply List.ext_getElem?
    intro i
    by_cases hi : i < n
    · have hi' : i < zs.length := by omega
      rw [(hp i zs[i] (List.getElem?_eq_getElem hi')).1, List.getElem?_map, List.getElem?_eq_getElem hi']
      rfl
    · rw [List.getElem?_eq_none (by omega), List.getElem?_eq_none (by simp; omega)]
  · obtain ⟨i, hi, rfl⟩ := List.getElem_of_mem hzm
    exact (hp i _ (List.getElem?_eq_getElem hi)).2

/-- A slice that came in, as a list, if its elements can be read. -/
theorem opens_slice {α : Type} (z : α) {t e : TypeId} {R : α → List Value → Prop} {Q : α → Prop} {sz : Nat} (ht : P.underlying t = some (.slice e)) (hC : P.cellsOf e = sz)
    (hel : ∀ (fuel : Nat) (cs : List Value) (x : DataW H × List MemPlace), DataW.trod enc P w 0 (fun _ => true) true fuel e cs = some x → ∃ y, R y cs ∧ Q y)
    {a : Option Addr} {len cap : Nat} {d : DataW H} {ps : List MemPlace} (h : DataW.Trod enc P w 0 (fun _ => true) true t (.slice a len cap) d ps) :
    ∃ xs : List α, xs.length = len ∧ len ≤ cap ∧ ReadsRow R sz w a len xs ∧ ∀ x ∈ xs, Q x := by
  obtain ⟨fuel, hf⟩ := h
  rcases open_slice ht hf with ⟨hcs, _⟩ | ⟨x, l, c, m, n, D, Pl, hcs, _, hl, hm, hmm, _, hx⟩
  · simp [Value.cells] at hcs
    obtain ⟨rfl, rfl, rfl⟩ := hcs
    exact ⟨[], rfl, Nat.le_refl _, ⟨rfl, by omega, fun h => absurd h (by omega)⟩, by simp⟩
  · simp [Value.cells] at hcs
    obtain ⟨rfl, rfl, rfl⟩ := hcs
    simp only [if_true] at hmm
    obtain ⟨xs, hxl, hp⟩ := list_of (α := α) len z (p := fun i y => ∃ cs', w.cells? 0 (x.add (i * sz)) sz = some cs' ∧ R y cs' ∧ Q y) (fun i hi => by
      obtain ⟨cs', h1, h2⟩ := hx i (by omega)
      obtain ⟨y, hy, hq⟩ := hel _ _ _ h2
      rw [hC] at h1
      exact ⟨y, cs', h1, hy, hq⟩)
    unfold maxLen at hm
    refine ⟨xs, hxl, hl, ⟨hxl, by omega, fun _ => ⟨x, rfl, fun j p hj => ?_⟩⟩, fun y hy => ?_⟩
    · obtain ⟨cs', h1, h2, _⟩ := hp j p hj
      obtain ⟨_, hlen, hat⟩ := World.cells?_some h1
      refine ⟨cs', hlen, h2, fun i u hu => ?_⟩
      have hi : i < sz := by
        have := (List.getElem?_eq_some_iff.1 hu).1
        omega
      rw [← Go.Deep.add_add, hat i hi, hu]
    · obtain ⟨i, hi, rfl⟩ := List.getElem_of_mem hy
      obtain ⟨_, _, _, hq⟩ := hp i _ (List.getElem?_eq_getElem hi)
      exact hq
end

/-! ### this seat's -/
variable {H : Type} {enc : TypeId × Value → H} {w : World}
theorem opens39 {a : Option Addr} {len cap : Nat} {d : DataW H} {ps : List MemPlace} (h : DataW.Trod enc Try.prog w 0 (fun _ => true) true 38 (.slice a len cap) d ps) : ∃ xs : List S39, xs.length = len ∧ len ≤ cap ∧ Kd.C k39 w a len xs ∧ ∀ x ∈ xs, True :=
  opens_slice (z := z39) (R := k39.K w) (Q := fun _ => True) (sz := 2) Try.underlying38 (by kernel_rfl) (fun fuel cs x h => by
    obtain ⟨zs, hl, rfl, _⟩ := opens_array (k := .u8) Try.underlying39 Try.underlying5 (by kernel_rfl) (by kernel_rfl) h
    obtain ⟨z0, z1, rfl⟩ : ∃ z0 z1, zs = [z0, z1] := by match zs, hl with | [z0, z1], _ => exact ⟨z0, z1, rfl⟩
    exact ⟨⟨z0, z1⟩, k39_mk w ⟨z0, z1⟩, trivial⟩) h
theorem opens27 {a : Option Addr} {len cap : Nat} {d : DataW H} {ps : List MemPlace} (h : DataW.Trod enc Try.prog w 0 (fun _ => true) true 22 (.slice a len cap) d ps) : ∃ xs : List S27, xs.length = len ∧ len ≤ cap ∧ Kd.C k27 w a len xs ∧ ∀ x ∈ xs, True :=
  opens_slice (z := z27) (R := k27.K w) (Q := fun _ => True) (sz := 3) Try.underlying22 (by kernel_rfl) (fun fuel cs x h => by
    obtain ⟨zs, hl, rfl, _⟩ := opens_array (k := .u8) Try.underlying27 Try.underlying5 (by kernel_rfl) (by kernel_rfl) h
    obtain ⟨z0, z1, z2, rfl⟩ : ∃ z0 z1 z2, zs = [z0, z1, z2] := by match zs, hl with | [z0, z1, z2], _ => exact ⟨z0, z1, z2, rfl⟩
    exact ⟨⟨z0, z1, z2⟩, k27_mk w ⟨z0, z1, z2⟩, trivial⟩) h
end Go.Proofs.Ytpdnekffippgdaa.L
