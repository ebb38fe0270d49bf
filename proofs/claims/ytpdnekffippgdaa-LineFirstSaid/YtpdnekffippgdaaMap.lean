/- LineFirst's map[int][2]int: what it holds, as a function of the client; look-up, store, delete, length. -/
import Derived.Test.YtpdnekffippgdaaPlain
import Derived.Maps.Own
import Derived.Maps.OwnOps
import Derived.Maps.OwnSet
import Derived.Maps.Views
namespace Go.Proofs.Ytpdnekffippgdaa.L
open Go.RowKit Go.Maps Go.Proofs.YtpdnekffippgdaaW.PrintWords Go.Proofs.YtpdnekffippgdaaW.PrintLast Go.Proofs.YtpdnekffippgdaaW.PrintMore

def i64Of : Value → Option Int
  | .int .i64 a => some a
  | _ => none
def pairOf : List Value → Option (Int × Int)
  | [x, y] => (i64Of x).bind fun a => (i64Of y).bind fun b => some (a, b)
  | _ => none
def dat (p : Int × Int) : DataW Unit := .agg [.lit (.int .i64 p.1), .lit (.int .i64 p.2)]
def val (p : Int × Int) : Value := .agg #[.int .i64 p.1, .int .i64 p.2]
/-- How an element reads: two whole numbers. -/
def pairR : Value → Option (DataW Unit × List MemPlace)
  | .agg cs => (pairOf cs.toList).bind fun p => some (dat p, [])
  | _ => none
theorem pairR_val (p : Int × Int) : pairR (val p) = some (dat p, []) := rfl
theorem i64Of_inv {v : Value} {a : Int} (h : i64Of v = some a) : v = .int .i64 a := by
  unfold i64Of at h
  split at h
  · obtain rfl := Option.some.inj h; rfl
  · cases h
theorem pairOf_inv {l : List Value} {p : Int × Int} (h : pairOf l = some p) : l = [.int .i64 p.1, .int .i64 p.2] := by
  unfold pairOf at h
  split at h
  · rename_i x y
    obtain ⟨a, ha, h⟩ := Option.bind_eq_some_iff.1 h
    obtain ⟨b, hb, h⟩ := Option.bind_eq_some_iff.1 h
    obtain rfl := Option.some.inj h
    rw [i64Of_inv ha, i64Of_inv hb]
  · cases h
theorem pairR_inv {v : Value} {p : Int × Int} {ps : List MemPlace} (h : pairR v = some (dat p, ps)) : v = val p := by
  unfold pairR at h
  split at h
  · rename_i cs
    obtain ⟨q, hq, h⟩ := Option.bind_eq_some_iff.1 h
    simp only [dat, Option.some.injEq, Prod.mk.injEq, DataW.agg.injEq, List.cons.injEq, DataW.lit.injEq, Lit.int.injEq] at h
    have h1 := h.1.1.2
    have h2 := h.1.2.1.2
    have hl := pairOf_inv hq
    have : cs = #[.int .i64 q.1, .int .i64 q.2] := by
      apply Array.toList_inj.1
      rw [hl]
    rw [this, h1, h2]
    rfl
  · cases h
theorem law34 : Keyed Try.prog 3 := int_keyed Try.underlying3
theorem zero35 (w : World) : (zeroValue 35).run Try.prog w = .ok (val (0, 0)) w := by kernel_rfl
abbrev kl (c : Int) : Lit := .int .i64 c
theorem kl_key (c : Int) : WideAt.IsKeyLit (kl c) := by simp [WideAt.IsKeyLit]
theorem kl_ne {c d : Int} (h : c ≠ d) : kl c ≠ kl d := by
  intro e
  injection e with _ e
  exact h e

/-- What the map holds for each client. -/
abbrev M3 := Int → Option (Int × Int)
def M3.up (m : M3) (c : Int) (p : Int × Int) : M3 := fun d => if d = c then some p else m d
def M3.no (m : M3) (c : Int) : M3 := fun d => if d = c then none else m d
def M3.cnt (m : M3) : Nat := (if (m 1).isSome then 1 else 0) + (if (m 2).isSome then 1 else 0) + (if (m 3).isSome then 1 else 0)
/-- Block b is the map, and holds just that. -/
def MapIs (w : World) (b n : Nat) (m : M3) : Prop := ∃ D : DataW Unit, w.ownsMap Try.prog 3 pairR b n D ∧ (∀ c, Maps.has D (kl c) = (m c).isSome) ∧ (∀ c, D.atKey (kl c) (dat (0, 0)) = dat ((m c).getD (0, 0))) ∧ Maps.size D = m.cnt
theorem MapIs.made (w : World) : MapIs (w.alloc (.map #[] 0)) w.heap.size 0 (fun _ => none) := ⟨.map [], World.ownsMap_made _ _ _ _, fun _ => rfl, fun _ => rfl, rfl⟩
theorem MapIs.kept {w w' : World} {b n : Nat} {m : M3} {row : Option Nat} (h : MapIs w b n m) (hg : w.grownBy w' row) (hne : some b ≠ row) : MapIs w' b n m := by
  obtain ⟨D, h1, h2⟩ := h
  exact ⟨D, h1.kept hg hne, h2⟩
theorem MapIs.block {w w' : World} {b n : Nat} {m : M3} (h : MapIs w b n m) (hb : w'.heap[b]? = w.heap[b]?) : MapIs w' b n m := by
  obtain ⟨D, ⟨es, clock, h0, h1⟩, h2⟩ := h
  exact ⟨D, ⟨es, clock, hb.trans h0, h1⟩, h2⟩
theorem MapIs.lt {w : World} {b n : Nat} {m : M3} (h : MapIs w b n m) : b < w.heap.size := by
  obtain ⟨D, h1, _⟩ := h
  exact h1.lt
theorem MapIs.mono {w : World} {b n n' : Nat} {m : M3} (h : MapIs w b n m) (hn : n ≤ n') : MapIs w b n' m := by
  obtain ⟨D, h1, h2⟩ := h
  exact ⟨D, h1.mono hn, h2⟩
theorem MapIs.below {w w' : World} {b n : Nat} {m : M3} (h : MapIs w b n m) (hb : Below w.heap.size w w') : MapIs w' b n m := h.block (hb.block b h.lt)
theorem cnt_up {m : M3} {c : Int} (hc : 1 ≤ c ∧ c ≤ 3) (p : Int × Int) : (m.up c p).cnt = if (m c).isSome then m.cnt else m.cnt + 1 := by
  have : c = 1 ∨ c = 2 ∨ c = 3 := by omega
  rcases this with rfl | rfl | rfl <;> simp [M3.cnt, M3.up] <;> split <;> split <;> (try split) <;> simp_all
theorem cnt_no {m : M3} {c : Int} (hc : 1 ≤ c ∧ c ≤ 3) : (m.no c).cnt + (if (m c).isSome then 1 else 0) = m.cnt := by
  have : c = 1 ∨ c = 2 ∨ c = 3 := by omega
  rcases this with rfl | rfl | rfl <;> simp [M3.cnt, M3.no] <;> omega
section
variable (w : World) {ops : Array Oper} {rest : List Oper} {o : Oper} {a : Act} {Q : Exit → Act → World → Prop}
theorem map_get (hg : o.guard = none) (m x : Operand) (hop : o.op = Op.lookup 34 m x true) (b n : Nat) (mm : M3) (hm : a.eval m = .map (some b)) (hown : MapIs w b n mm) (c : Int) (hx : a.eval x = .int .i64 c) (hw : (Lit.int .i64 c).wf = true)
    (hK : wpList Try.prog ops Q rest (a.put o.dst (.tuple #[val ((mm c).getD (0, 0)), .bool (mm c).isSome])) w) : wpList Try.prog ops Q (o :: rest) a w := by
  obtain ⟨D, h1, h2, h3, h4⟩ := hown
  refine wpList_lookup_own_ok w hg m x 34 hop 3 35 law34 Try.underlying34 pairR (zero35 w) (dat (0, 0)) [] (pairR_val (0, 0)) b n D hm h1 _ (kl c) hx (keyOf_int_mk Try.underlying3 hw) ?_
  intro v ps hv
  rw [h3 c] at hv
  rw [pairR_inv hv, h2 c]
  exact hK
theorem map_put (hg : o.guard = none) (m x v : Operand) (hop : o.op = Op.mapUpdate 34 m x v) (b n : Nat) (mm : M3) (hm : a.eval m = .map (some b)) (hown : MapIs w b n mm) (hn : n < maxLen) (c : Int) (hx : a.eval x = .int .i64 c) (hc : 1 ≤ c ∧ c ≤ 3) (p : Int × Int) (hv : a.eval v = val p)
    (hK : ∀ w', MapIs w' b (n + 1) (mm.up c p) → w.grownBy w' (some b) → wpList Try.prog ops Q rest (a.put o.dst undef) w') : wpList Try.prog ops Q (o :: rest) a w := by
  obtain ⟨D, h1, h2, h3, h4⟩ := hown
  have hw : (Lit.int .i64 c).wf = true := by simp [Lit.wf, IntKind.min, IntKind.max, IntKind.bits, IntKind.signed]; omega
  refine wpList_mapUpdate_own w hg m x v 34 hop 3 35 law34 Try.underlying34 pairR b n D hm h1 hn _ _ (kl c) hx hv (keyOf_int_mk Try.underlying3 hw) (dat p) [] (pairR_val p) ?_
  intro w' hown' hgr
  refine hK w' ⟨_, hown', fun d => ?_, fun d => ?_, ?_⟩ hgr
  · by_cases hd : d = c
    · subst hd
      rw [has_put_same h1.isMap (kl_key d)]
      simp [M3.up]
    · rw [has_put_other (kl_ne hd), h2 d]
      simp [M3.up, hd]
  · by_cases hd : d = c
    · subst hd
      rw [atKey_put_same h1.isMap (kl_key d)]
      simp [M3.up]
    · rw [atKey_put_other (kl_ne hd), h3 d]
      simp [M3.up, hd]
  · rw [size_put (h1.tidy law34), h2 c, h4, cnt_up hc]
theorem map_del (hg : o.guard = none) (m x : Operand) (hop : o.op = Op.call { callee := Callee.builtin Builtin.delete, args := #[m, x], argTypes := #[34, 3] }) (b n : Nat) (mm : M3) (hm : a.eval m = .map (some b)) (hown : MapIs w b n mm) (c : Int) (hx : a.eval x = .int .i64 c) (hc : 1 ≤ c ∧ c ≤ 3)
    (hK : ∀ w', MapIs w' b n (mm.no c) → w.grownBy w' (some b) → wpList Try.prog ops Q rest (a.put o.dst (.tuple #[])) w') : wpList Try.prog ops Q (o :: rest) a w := by
  obtain ⟨D, h1, h2, h3, h4⟩ := hown
  have hw : (Lit.int .i64 c).wf = true := by simp [Lit.wf, IntKind.min, IntKind.max, IntKind.bits, IntKind.signed]; omega
  refine wpList_delete_own w hg m x 34 3 hop 35 law34 Try.underlying34 pairR b n D hm h1 _ (kl c) hx (keyOf_int_mk Try.underlying3 hw) ?_
  intro w' hown' hgr
  refine hK w' ⟨_, hown', fun d => ?_, fun d => ?_, ?_⟩ hgr.grown
  · by_cases hd : d = c
    · subst hd
      rw [has_del_same]
      simp [M3.no]
    · rw [has_del_other (kl_ne hd), h2 d]
      simp [M3.no, hd]
  · by_cases hd : d = c
    · subst hd
      rw [atKey_del_same]
      simp [M3.no]
    · rw [atKey_del_other (kl_ne hd), h3 d]
      simp [M3.no, hd]
  · have e1 := size_del (k := kl c) (h1.tidy law34)
    rw [h2 c] at e1
    have e2 := cnt_no (m := mm) hc
    omega
theorem map_len (hg : o.guard = none) (m : Operand) (hop : o.op = Op.call { callee := Callee.builtin Builtin.len, args := #[m], argTypes := #[34] }) (b n : Nat) (mm : M3) (hm : a.eval m = .map (some b)) (hown : MapIs w b n mm)
    (hK : wpList Try.prog ops Q rest (a.put o.dst (.int .i64 mm.cnt)) w) : wpList Try.prog ops Q (o :: rest) a w := by
  obtain ⟨D, h1, h2, h3, h4⟩ := hown
  refine wpList_len_own w hg m 34 hop 3 35 Try.underlying34 pairR b n D hm h1 ?_
  rw [h4]
  exact hK
end
end Go.Proofs.Ytpdnekffippgdaa.L
