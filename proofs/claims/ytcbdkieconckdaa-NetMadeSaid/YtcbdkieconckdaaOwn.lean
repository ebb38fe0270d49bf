/- The builtin clear over a stretch of a row of the call's own; no condition beyond each theorem's own. -/
import Derived.Test.YtcbdkieconckdaaWMore
import Derived.Test.YtcbdkieconckdaaWWords
import Derived.Lib.SliceRun
namespace Go.Proofs.Ytcbdkieconckdaa.Own
open Go.RowKit Go.Proofs.YtcbdkieconckdaaW.PrintWords Go.Proofs.YtcbdkieconckdaaW.PrintLast Go.Proofs.YtcbdkieconckdaaW.PrintMore

/-! ### the builtin clear over the end of a row of the call's own -/
section
variable {P : Program}
theorem zeroCells_size (z : Array Value) (n : Nat) : (Builtin.zeroCells z n).toList.length = n * z.size := by
  simp [Builtin.zeroCells]
theorem zeroCells_mem (z : Array Value) (n : Nat) (hz : 0 < z.size) : ∀ v ∈ (Builtin.zeroCells z n).toList, v ∈ z.toList := by
  intro v hv
  simp [Builtin.zeroCells] at hv
  obtain ⟨i, hi, rfl⟩ := hv
  have : i % z.size < z.size := Nat.mod_lt _ hz
  simp [this]
theorem run_clear_row (w : World) (t e ty : TypeId) (z : Value) (ht : P.underlying t = some (.slice e)) (hv : ∀ w, (zeroValue e).run P w = .ok z w) (hs : 0 < z.cells.size) (h1 : ∀ q ∈ z.cells.toList, q.oneCell' = true) (b o n c : Nat) (hn : 0 < n)
    (hc : ∀ j, j < n * z.cells.size → (w.cell? ⟨b, o + j, none⟩).isSome = true) (hf : ∀ j, j < n * z.cells.size → w.frozen? ⟨b, o + j, none⟩ = false) :
    (Builtin.clear_ #[t] ty #[.slice (some ⟨b, o, none⟩) n c]).run P w = .ok (.tuple #[]) (w.setCells b o (Builtin.zeroCells z.cells n).toList) := by
  have hst := run_storeCells_cells (P := P) b o (Builtin.zeroCells z.cells n).toList 0 w (by rw [zeroCells_size]; exact hc) (by rw [zeroCells_size]; exact hf) (by intro v hv'; exact h1 v (zeroCells_mem _ _ hs v hv'))
  simp only [Nat.add_zero] at hst
  obtain ⟨m, rfl⟩ : ∃ m, n = m + 1 := ⟨n - 1, by omega⟩
  simp [Builtin.clear_, run_underlying ht, hv, hst]
end
namespace Kd_
variable {P : Program} {ops : Array Oper} {rest : List Oper} {o : Oper} {a : Act} {Q : Exit → Act → World → Prop}
/-- A stretch behind the end of a row of the call's own is cleared: the row stays. -/
theorem R_clear {α : Type} (d : Kd α) {w0 W : World} (base : Nat) (hN : o.dst = none) (hgd : o.guard = none) (x : Operand) (t e : TypeId) (z : Value)
    (ho : o.op = .call { callee := .builtin .clear, args := #[x], argTypes := #[t] }) (ht : P.underlying t = some (.slice e)) (hv : ∀ w, (zeroValue e).run P w = .ok z w) (hz : z.cells.size = d.sz) (hs : 0 < d.sz) (h1 : ∀ q ∈ z.cells.toList, q.oneCell' = true)
    {g n cap m q c2 off : Nat} (xs : List α) (ok : Nat → Prop) (hx : a.eval x = .slice (some ⟨g, off, none⟩) q c2) (hoff : off = m * d.sz) (hm : n ≤ m) (hq : 0 < q) (hmq : m + q ≤ cap)
    (HO : d.R e W base ok (.slice (some ⟨g, 0, none⟩) n cap) xs) (HB : Below base w0 W)
    (h : ∀ w1, d.R e w1 base ok (.slice (some ⟨g, 0, none⟩) n cap) xs → Below base w0 w1 → W.grownBy w1 (some g) → wpList P ops Q rest a w1) : wpList P ops Q (o :: rest) a W := by
  subst hoff
  have hbg : base ≤ g := Kd.R_base HO g (by simp [Value.ownBlock])
  have hnx : n = xs.length := (Kd.R_reads' HO).1
  obtain ⟨k0, inner, hown, hr⟩ := HO
  obtain ⟨ho1, ho2⟩ := hown
  rcases ho2 with ⟨hv', _⟩ | ⟨g', cap', cur, hv', hb, hh, hnc, hcm, hcs, htk⟩
  · cases hv'
  injection hv' with ha _ hc
  injection ha with ha
  injection ha with hg
  subst hg; subst hc
  have hle : m * d.sz + q * d.sz ≤ cur.size := by
    rw [← Nat.add_mul, hcs]
    exact Nat.mul_le_mul_right _ hmq
  have hnm : n * d.sz ≤ m * d.sz := Nat.mul_le_mul_right _ hm
  have hrun : ∀ ty, (Builtin.clear_ #[t] ty #[.slice (some ⟨g, m * d.sz, none⟩) q c2]).run P W = .ok (.tuple #[]) (W.setCells g (m * d.sz) (Builtin.zeroCells z.cells q).toList) := fun ty =>
    run_clear_row W t e ty z ht hv (by omega) h1 g (m * d.sz) q c2 hq
      (fun j hj => by
        rw [hz] at hj
        rw [cell_of_row W g _ cur e (0, 0) hh]
        have : m * d.sz + j < cur.size := by omega
        simp [this])
      (fun j _ => blk_frozen hh _)
  have hfit : m * d.sz + (Builtin.zeroCells z.cells q).toList.length ≤ cur.size := by
    rw [zeroCells_size, hz]; exact hle
  obtain ⟨cur', h3, h4, h5⟩ := setCells_row (Builtin.zeroCells z.cells q).toList (m * d.sz) W cur hh hfit
  obtain ⟨s1, s2, s3, s4⟩ := setCells_same g (Builtin.zeroCells z.cells q).toList (m * d.sz) W
  have hgr : W.grownBy (W.setCells g (m * d.sz) (Builtin.zeroCells z.cells q).toList) (some g) :=
    ⟨s1, s2, s3, by rw [s4]; exact Nat.le_refl _, fun k _ hk => setCells_far _ _ k (fun he => hk (by rw [he]))⟩
  have hB : Below base w0 (W.setCells g (m * d.sz) (Builtin.zeroCells z.cells q).toList) := HB.trans ⟨s1, s2, s3, by rw [s4]; exact Nat.le_refl _, fun k hk => setCells_far _ _ k (by omega)⟩
  have hR : d.R e (W.setCells g (m * d.sz) (Builtin.zeroCells z.cells q).toList) base ok (.slice (some ⟨g, 0, none⟩) n cap) xs := by
    refine ⟨k0, inner, ⟨ho1, .inr ⟨g, cap, cur', by rw [hnx], hbg, h3, hnc, hcm, by rw [h4, hcs], ?_⟩⟩, hr.imp_ (fun p c hp => d.M_move (fun k hk => setCells_far _ _ k (fun he => hk.2 (by rw [he]; simp [Value.ownBlock]))) hp)⟩
    rw [← htk, h5, ← hnx, List.append_assoc, List.take_append_of_le_length (by rw [List.length_take, Array.length_toList]; omega), List.take_take, Nat.min_eq_left hnm]
  refine wpList_plain hgd fun K hK => ?_
  unfold Oper.wp execOp
  simp only [ho, resolve, invoke, builtin, Sem.run_bind, Sem.run_pure, Result.andThen_ok, List.map_toArray, List.map_cons, List.map_nil, hx, hrun]
  show K (a.put o.dst _) _
  rw [hN]
  exact hK a _ (h _ hR hB hgr)
end Kd_
end Go.Proofs.Ytcbdkieconckdaa.Own
