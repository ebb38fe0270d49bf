/- What line's inner functions and the library's (slices.Clone, IndexFunc, DeleteFunc at api.Wait) do, as contracts over memory; for every row of waits with fewer than 2^42 elements. -/
import Derived.Test.YtpdnekffippgdaaLx0
import Derived.WalkSpells
import Derived.Shelf.Abstract
import Derived.Lib.SliceRun
namespace Go.Proofs.Ytpdnekffippgdaa.L
open Go.RowKit Go.Proofs.YtpdnekffippgdaaW.PrintWords Go.Proofs.YtpdnekffippgdaaW.PrintLast Go.Proofs.YtpdnekffippgdaaW.PrintMore

def waits_Clone.f (l0 : List (S24)) : Option (List (S24)) := if l0.length < 4398046511104 then some l0 else none

set_option maxHeartbeats 400000 in
theorem waits_Clone.calls (A0 : Option Addr) (c0 : Nat) (l0 : List (S24)) (r : List (S24)) (w : World) (hr0 : Kd.C k24 w A0 l0.length l0) (hc0 : l0.length ≤ c0) (h : waits_Clone.f l0 = some r) :
    Calls Try.prog 14 #[.slice A0 l0.length c0] w fun e w' => ∃ v0_ : Value, e = .returned (v0_) ∧ Kd.R k24 24 w' w.heap.size (fun _ => True) v0_ r ∧ Below w.heap.size w w' := by
  unfold waits_Clone.f at h
  have hl : l0.length < 4398046511104 := by
    rcases Nat.lt_or_ge l0.length 4398046511104 with h1 | h1
    · exact h1
    · rw [if_neg (by omega)] at h; exact absurd h (by simp)
  rw [if_pos hl] at h
  obtain rfl := Option.some.inj h
  clear h
  have hq := fun (W : World) (a : Option Addr) (n c : Nat) => Lib.run_eql_slice_nil (P := Try.prog) W 26 24 a n c 0 0 Try.underlying26
  rcases A0 with _ | ad
  · have hn : l0 = [] := by
      rcases Nat.eq_zero_or_pos l0.length with h0 | h0
      · exact List.length_eq_zero_iff.1 h0
      · obtain ⟨ad, e, _⟩ := hr0.2.2 h0
        cases e
    subst hn
    clear hr0
    go_enter Try.func14, Try.ntmps14
    go_wp2
    go_ret
    exact ⟨_, rfl, Kd.R_nil _ _ _ _ _, Below.refl _ _⟩
  · have HR0 := Aside0.mk hr0
    have HC0 := Aside0.mk hc0
    clear hr0 hc0
    have HB := Aside0.mk (Below.refl w.heap.size w)
    go_enter Try.func14, Try.ntmps14
    go_wp2_with (first
      | ((with_reducible refine gate_dst (N := 5) rfl ?_); refine Kd.R_lit k24 _ 24 ?hg (N := 5) ?hd (xs := ([] : List (S24))) (inner := []) (ok := fun _ => True) (okp := fun _ => True) ?hr ?hp (fun _ hk => hk) trivial (Below.refl _ _) (Nat.le_refl _) (by simp) ?_; (case hd => rfl); (case hg => rfl); (case hr => first | (go_simp; done) | (go_simp; rfl)); (case hp => exact (Reps.none _ _)); intro v138 w12 ho13 hb hg_ hnew_; clear hg_ hnew_; have HO := Aside0.mk ho13; have HB2 := Aside0.mk hb; clear ho13 hb)
      | ((with_reducible refine gate_builtin (b := .append) (xs := #[.tmp 5, .tmp 6]) rfl ?_); at_builtin; refine Kd.R_append_rows k24 (w0 := w) w.heap.size rfl (.tmp 5) (.tmp 6) 26 24 (.agg #[(.int .i64 0), (.int .i64 0), (.int .i64 0), (.int .i64 0)]) 32 rfl Try.underlying26 info24 rfl (by decide) (by omega) v138 [] l0 _ _ _ (fun _ => True) (fun _ => False) rfl rfl ?aO ?aR (fun _ _ h => h) (fun _ h => h.elim) ?aF ?aB ?aS ?aL ?_; (case aR => exact Kd.C_below HR0.out HB2.out); (case aB => exact HB2.out); (case aF => exact (fun _ _ => trivial)); (case aO => exact HO.out); (case aS => exact below_size HB2.out); (case aL => simp; omega); intro v141 w14 ho hb hg hat; clear hg hat; have HO' := Aside0.mk ho; have HB' := Aside0.mk hb; clear ho hb))
    go_ret
    exact ⟨_, rfl, by simpa using HO'.out, HB'.out⟩

/-! ### slices.IndexFunc with one of the two closures -/
def fidx (c : Int) (l : List S24) : Int := if l.findIdx (fun x => x.f0 == c) < l.length then (l.findIdx (fun x => x.f0 == c) : Int) else -1
theorem fidx_hit {c : Int} {l : List S24} {k : Nat} (hk : k < l.length) (hp : (rd_T24 l (k : Int)).f0 = c) (hm : ∀ j, j < k → (rd_T24 l (j : Int)).f0 ≠ c) : fidx c l = k := by
  have e : ∀ j (h : j < l.length), rd_T24 l (j : Int) = l[j] := fun j h => by
    unfold rd_T24
    rw [Int.toNat_natCast, List.getD_eq_getElem?_getD, List.getElem?_eq_getElem h]; rfl
  have h1 : l.findIdx (fun x => x.f0 == c) = k := by
    rw [List.findIdx_eq hk]
    refine ⟨by rw [← e k hk]; simpa using hp, fun j hj => ?_⟩
    rw [← e j (by omega)]; simpa using hm j hj
  unfold fidx
  rw [h1, if_pos hk]
theorem fidx_miss {c : Int} {l : List S24} (hm : ∀ j, j < l.length → (rd_T24 l (j : Int)).f0 ≠ c) : fidx c l = -1 := by
  have e : ∀ j (h : j < l.length), rd_T24 l (j : Int) = l[j] := fun j h => by
    unfold rd_T24
    rw [Int.toNat_natCast, List.getD_eq_getElem?_getD, List.getElem?_eq_getElem h]; rfl
  unfold fidx
  rw [if_neg]
  intro h
  rw [List.findIdx_lt_length] at h
  obtain ⟨x, hx, hp⟩ := h
  obtain ⟨j, hj, rfl⟩ := List.getElem_of_mem hx
  exact hm j hj (by rw [e j hj]; simpa using hp)

/-- What is asked of the closure. -/
def Asks (g : Nat) (B : Nat) (c : Int) (_base : Nat) : Prop := ∀ (W : World) (x0 x1 x2 x3 : Int), W.cell? ⟨B, 0, none⟩ = some (.int .i64 c) →
    Calls Try.prog g #[.agg #[.int .i64 x0, .int .i64 x1, .int .i64 x2, .int .i64 x3], .pointer (some ⟨B, 0, none⟩)] W fun e w' => e = .returned (.bool (x0 == c)) ∧ Below W.heap.size W w'
theorem asks19 (B : Nat) (c : Int) : Asks 19 B c 0 := fun W x0 x1 x2 x3 hc => by
  have hB : B < W.heap.size := World.block_lt_of_cell? W _ hc
  have hne : B ≠ W.heap.size := by omega
  go_enter Try.func19, Try.ntmps19
  go_wp2
  go_ret
  exact ⟨rfl, (Below.refl _ _).alloc (Nat.le_refl _) _⟩
theorem asks17 (B : Nat) (c : Int) : Asks 17 B c 0 := fun W x0 x1 x2 x3 hc => by
  have hB : B < W.heap.size := World.block_lt_of_cell? W _ hc
  have hne : B ≠ W.heap.size := by omega
  go_enter Try.func17, Try.ntmps17
  go_wp2
  go_ret
  exact ⟨rfl, (Below.refl _ _).alloc (Nat.le_refl _) _⟩

set_option maxHeartbeats 2000000 in
theorem index_any (g : Nat) (B : Nat) (c : Int) (hg : Asks g B c 0) (eg : ∀ args w, (callFunc g args).run Try.prog w = .ok (.enter g args) w) (A : Option Addr) (cp : Nat) (l : List S24) (w : World)
    (hr : Kd.C k24 w A l.length l) (_hcp : l.length ≤ cp) (hc : w.cell? ⟨B, 0, none⟩ = some (.int .i64 c)) :
    Calls Try.prog 18 #[.slice A l.length cp, .func (.func g) #[] #[.pointer (some ⟨B, 0, none⟩)]] w fun e w' => e = .returned (.int .i64 (fidx c l)) ∧ Below w.heap.size w w' := by
  have hB : B < w.heap.size := World.block_lt_of_cell? w _ hc
  have hbig : l.length ≤ 9223372036854775807 := hr.2.1
  have HR := Aside0.mk hr
  have HC := Aside0.mk hc
  clear hr hc
  have hu24 := Try.underlying24
  go_enter Try.func18, Try.ntmps18
  go_wp2
  go_loopg [5, 8] l.length (fun gg _ s8 wr => ∃ kk : Nat, kk ≤ l.length ∧ l.length - kk ≤ gg ∧ s8 = .int .i64 kk ∧ Aside (Below w.heap.size w wr) ∧ Aside (∀ j, j < kk → (rd_T24 l (j : Int)).f0 ≠ c))
  case atStart => exact ⟨0, Nat.zero_le _, by omega, rfl, Below.refl _ w, fun j hj => absurd hj (Nat.not_lt_zero _)⟩
  case round =>
    obtain ⟨kk, hkk, hgg, rfl, BW, AJ⟩ := hrel
    by_cases hlt : kk < l.length
    · have hltz : (kk : Int) < (l.length : Int) := by omega
      obtain ⟨ad, e, h0, h1, h2, h3⟩ := at_T24 HR.out (kk : Int) (by omega) (by omega)
      cases e
      have hcw : wr.cell? ⟨B, 0, none⟩ = some (.int .i64 c) := (BW.out.cell (p := ⟨B, 0, none⟩) hB).trans HC.out
      have hcall := hg wr (rd_T24 l (kk : Int)).f0 (rd_T24 l (kk : Int)).f1 (rd_T24 l (kk : Int)).f2 (rd_T24 l (kk : Int)).f3 hcw
      replace h0 := (BW.out.cell (World.block_lt_of_cell? w _ h0)).trans h0
      replace h1 := (BW.out.cell (World.block_lt_of_cell? w _ h1)).trans h1
      replace h2 := (BW.out.cell (World.block_lt_of_cell? w _ h2)).trans h2
      replace h3 := (BW.out.cell (World.block_lt_of_cell? w _ h3)).trans h3
      rw [Int.toNat_natCast] at h0 h1 h2 h3
      clear hcw
      by_cases hq : (rd_T24 l (kk : Int)).f0 = c
      · have hb0 : ((rd_T24 l (kk : Int)).f0 == c) = true := beq_iff_eq.2 hq
        rw [hb0] at hcall
        have HQ := Aside0.mk hq
        have HCALL := Aside0.mk hcall
        clear hq hb0 hcall
        go_wp2_with ((with_reducible refine HCALL.out.mono ?_); rintro e w' ⟨rfl, hb'⟩)
        go_ret
        refine ⟨?_, BW.out.trans (hb'.mono BW.out.size)⟩
        rw [fidx_hit hlt HQ.out AJ.out]
        rfl
      · have hb0 : ((rd_T24 l (kk : Int)).f0 == c) = false := beq_eq_false_iff_ne.2 hq
        rw [hb0] at hcall
        have HQ := Aside0.mk hq
        have HCALL := Aside0.mk hcall
        clear hq hb0 hcall
        go_wp2_with ((with_reducible refine HCALL.out.mono ?_); rintro e w' ⟨rfl, hb'⟩)
        go_roundg (l.length - (kk + 1))
        case measure => omega
        case rel =>
          refine ⟨kk + 1, by omega, by omega, by go_num, (show Aside _ from BW.out.trans (hb'.mono BW.out.size)), (show Aside _ from fun j hj => ?_)⟩
          by_cases e : j = kk
          · subst e; exact HQ.out
          · exact AJ.out j (by omega)
    · have hltz : ¬ (kk : Int) < (l.length : Int) := by omega
      have : kk = l.length := by omega
      subst this
      go_wp2
      go_ret
      refine ⟨?_, BW.out⟩
      rw [fidx_miss AJ.out]
      rfl

def line_place.f (l0 : List (S24)) (a1 : Int) : Option (Int) := if l0.length < 4398046511104 then some (fidx a1 l0) else none
set_option maxHeartbeats 400000 in
theorem line_place.calls (A0 : Option Addr) (c0 : Nat) (l0 : List (S24)) (a1 : Int) (r : Int) (w : World) (hr0 : Kd.C k24 w A0 l0.length l0) (hc0 : l0.length ≤ c0) (h : line_place.f l0 a1 = some r) :
    Calls Try.prog 15 #[.slice A0 l0.length c0, .int .i64 a1] w fun e w' => e = .returned (.int .i64 r) ∧ Below w.heap.size w w' := by
  have er : fidx a1 l0 = r := by
    unfold line_place.f at h
    split at h
    · exact Option.some.inj h
    · exact absurd h (by simp)
  subst er
  clear h
  have eg : ∀ args w, (callFunc 19 args).run Try.prog w = .ok (.enter 19 args) w := enters_of Try.func19 (by kernel_rfl) rfl
  have hcon := index_any 19 w.heap.size a1 (asks19 _ _) eg A0 c0 l0 (w.alloc (.cells #[.int .i64 a1] 3)) (Kd.C_below hr0 ((Below.refl _ _).alloc (Nat.le_refl _) _)) hc0 (by simp)
  clear hr0
  go_enter Try.func15, Try.ntmps15
  go_wp2_with (go_at_call 18; refine hcon.mono ?_; rintro e w' ⟨rfl, hb'⟩)
  go_ret
  exact ⟨rfl, ((Below.refl _ w).alloc (Nat.le_refl _) _).trans (hb'.mono (by simp))⟩

/-! ### the builtin clear over the end of a row of the call's own -/
section
variable {P : Program}
theorem zeroCells_size (z : Array Value) (n : Nat) : (Builtin.zeroCells z n).toList.length = n * z.size := by
  simp [Builtin.zeroCells]
theorem zeroCells_mem (z : Array Value) (n : Nat) (hz : 0 < z.size) : ∀ v ∈ (Builtin.zeroCells z n).toList, v ∈ z.toList := by
  intro v hv
  simp [Builtin.zeroCells] at hv
  obtain ⟨i, hi, rfl⟩ := hv
  have : i % z.size < z.size := Nat.mod_lt _ hz
  simp [this]
theorem run_clear_row (w : World) (t e ty : TypeId) (z : Value) (ht : P.underlying t = some (.slice e)) (hv : ∀ w, (zeroValue e).run P w = .ok z w) (hs : 0 < z.cells.size) (h1 : ∀ q ∈ z.cells.toList, q.oneCell' = true) (b o n c : Nat) (hn : 0 < n)
    (hc : ∀ j, j < n * z.cells.size → (w.cell? ⟨b, o + j, none⟩).isSome = true) (hf : ∀ j, j < n * z.cells.size → w.frozen? ⟨b, o + j, none⟩ = false) :
    (Builtin.clear_ #[t] ty #[.slice (some ⟨b, o, none⟩) n c]).run P w = .ok (.tuple #[]) (w.setCells b o (Builtin.zeroCells z.cells n).toList) := by
  have hst := run_storeCells_cells (P := P) b o (Builtin.zeroCells z.cells n).toList 0 w (by rw [zeroCells_size]; exact hc) (by rw [zeroCells_size]; exact hf) (by intro v hv'; exact h1 v (zeroCells_mem _ _ hs v hv'))
  simp only [Nat.add_zero] at hst
  obtain ⟨m, rfl⟩ : ∃ m, n = m + 1 := ⟨n - 1, by omega⟩
  simp [Builtin.clear_, run_underlying ht, hv, hst]
end
namespace Kd_
variable {P : Program} {ops : Array Oper} {rest : List Oper} {o : Oper} {a : Act} {Q : Exit → Act → World → Prop}
/-- 's = s[m:]' is cleared: what is left of the row is its first m elements. -/
theorem R_clear {α : Type} (d : Kd α) {w0 W : World} (base : Nat) (hN : o.dst = none) (hgd : o.guard = none) (x : Operand) (t e : TypeId) (z : Value)
    (ho : o.op = .call { callee := .builtin .clear, args := #[x], argTypes := #[t] }) (ht : P.underlying t = some (.slice e)) (hv : ∀ w, (zeroValue e).run P w = .ok z w) (hz : z.cells.size = d.sz) (hs : 0 < d.sz) (h1 : ∀ q ∈ z.cells.toList, q.oneCell' = true)
    {g n cap m off : Nat} (xs : List α) (ok : Nat → Prop) (hx : a.eval x = .slice (some ⟨g, off, none⟩) (n - m) (cap - m)) (hoff : off = m * d.sz) (hm : m < n)
    (HO : d.R e W base ok (.slice (some ⟨g, 0, none⟩) n cap) xs) (HB : Below base w0 W)
    (h : ∀ w1, d.R e w1 base ok (.slice (some ⟨g, 0, none⟩) m cap) (xs.take m) → Below base w0 w1 → W.grownBy w1 (some g) → wpList P ops Q rest a w1) : wpList P ops Q (o :: rest) a W := by
  subst hoff
  have hbg : base ≤ g := Kd.R_base HO g (by simp [Value.ownBlock])
  have hnx : n = xs.length := (Kd.R_reads' HO).1
  have HT := Kd.R_take (m := m) HO (by omega)
  have HO' := HO
  obtain ⟨_, inner, hown, hr⟩ := HO
  obtain ⟨ho1, ho2⟩ := hown
  rcases ho2 with ⟨hv', _⟩ | ⟨g', cap', cur, hv', hb, hh, hnc, hcm, hcs, htk⟩
  · cases hv'
  injection hv' with ha _ hc
  injection ha with ha
  injection ha with hg
  subst hg; subst hc
  have hle : m * d.sz + (n - m) * d.sz ≤ cur.size := by
    rw [← Nat.add_mul, hcs]
    exact Nat.mul_le_mul_right _ (by omega)
  have hrun : ∀ ty, (Builtin.clear_ #[t] ty #[.slice (some ⟨g, m * d.sz, none⟩) (n - m) (cap - m)]).run P W = .ok (.tuple #[]) (W.setCells g (m * d.sz) (Builtin.zeroCells z.cells (n - m)).toList) := fun ty =>
    run_clear_row W t e ty z ht hv (by omega) h1 g (m * d.sz) (n - m) (cap - m) (by omega)
      (fun j hj => by
        rw [hz] at hj
        rw [cell_of_row W g _ cur e (0, 0) hh]
        have : m * d.sz + j < cur.size := by omega
        simp [this])
      (fun j _ => blk_frozen hh _)
  have hfit : m * d.sz + (Builtin.zeroCells z.cells (n - m)).toList.length ≤ cur.size := by
    rw [zeroCells_size, hz]; exact hle
  obtain ⟨cur', h3, h4, h5⟩ := setCells_row (Builtin.zeroCells z.cells (n - m)).toList (m * d.sz) W cur hh hfit
  obtain ⟨s1, s2, s3, s4⟩ := setCells_same g (Builtin.zeroCells z.cells (n - m)).toList (m * d.sz) W
  have hgr : W.grownBy (W.setCells g (m * d.sz) (Builtin.zeroCells z.cells (n - m)).toList) (some g) :=
    ⟨s1, s2, s3, by rw [s4]; exact Nat.le_refl _, fun k _ hk => setCells_far _ _ k (fun he => hk (by rw [he]))⟩
  have hB : Below base w0 (W.setCells g (m * d.sz) (Builtin.zeroCells z.cells (n - m)).toList) := HB.trans ⟨s1, s2, s3, by rw [s4]; exact Nat.le_refl _, fun k hk => setCells_far _ _ k (by omega)⟩
  have hR : d.R e (W.setCells g (m * d.sz) (Builtin.zeroCells z.cells (n - m)).toList) base ok (.slice (some ⟨g, 0, none⟩) m cap) (xs.take m) := by
    obtain ⟨k0, inner2, hown2, hr2⟩ := HT
    have hlen : (xs.take m).length = m := by rw [List.length_take]; omega
    refine ⟨k0, inner2, ⟨hown2.1, .inr ⟨g, cap, cur', by rw [hlen], hbg, h3, by rw [hlen]; omega, hcm, by rw [h4, hcs], ?_⟩⟩, hr2.imp_ (fun p c hp => d.M_move (fun k hk => setCells_far _ _ k (fun he => hk.2 (by rw [he]; simp [Value.ownBlock]))) hp)⟩
    rcases hown2.2 with ⟨hv2, _⟩ | ⟨g2, cap2, cur2, hv2, _, hh2, _, _, _, htk2⟩
    · cases hv2
    injection hv2 with ha2 _ _
    injection ha2 with ha2
    injection ha2 with hg2
    subst hg2
    rw [hh] at hh2
    injection hh2 with hh2
    injection hh2 with hcur
    subst hcur
    rw [hlen] at htk2 ⊢
    rw [← htk2, h5, List.append_assoc, List.take_append_of_le_length (by rw [List.length_take, Array.length_toList]; omega), List.take_take, Nat.min_self]
  refine wpList_plain hgd fun K hK => ?_
  unfold Oper.wp execOp
  simp only [ho, resolve, invoke, builtin, Sem.run_bind, Sem.run_pure, Result.andThen_ok, List.map_toArray, List.map_cons, List.map_nil, hx, hrun]
  show K (a.put o.dst _) _
  rw [hN]
  exact hK a _ (h _ hR hB hgr)
end Kd_

def keeps (c : Int) (x : S24) : Bool := !(x.f0 == c)
theorem rd_at {l : List S24} {j : Nat} (h : j < l.length) : rd_T24 l (j : Int) = l[j] := by
  unfold rd_T24
  rw [Int.toNat_natCast, List.getD_eq_getElem?_getD, List.getElem?_eq_getElem h]; rfl
/-- Behind j elements: i of them are kept. -/
def Done (c : Int) (l xs : List S24) (i j : Nat) : Prop := xs.take i = (l.take j).filter (keeps c) ∧ xs.drop j = l.drop j ∧ xs.length = l.length ∧ i < j ∧ j ≤ l.length
theorem Done.start {c : Int} {l : List S24} {i : Nat} (h : fidx c l = (i : Int)) : Done c l l i (i + 1) := by
  unfold fidx at h
  split at h
  case isFalse => omega
  rename_i hlt
  have hi : l.findIdx (fun x => x.f0 == c) = i := by omega
  rw [hi] at hlt
  rw [List.findIdx_eq hlt] at hi
  refine ⟨?_, rfl, rfl, by omega, by omega⟩
  rw [List.take_succ_eq_append_getElem hlt, List.filter_append]
  have h1 : (l.take i).filter (keeps c) = l.take i := by
    rw [List.filter_eq_self]
    intro x hx
    obtain ⟨j, hj, rfl⟩ := List.getElem_of_mem hx
    rw [List.length_take] at hj
    have := hi.2 j (by omega)
    rw [List.getElem_take]
    simp [keeps, this]
  have h2 : [l[i]].filter (keeps c) = [] := by simp [keeps, hi.1]
  rw [h1, h2, List.append_nil]
theorem Done.read {c : Int} {l xs : List S24} {i j : Nat} (h : Done c l xs i j) (hj : j < l.length) : rd_T24 xs (j : Int) = rd_T24 l (j : Int) := by
  have hx : j < xs.length := by rw [h.2.2.1]; exact hj
  rw [rd_at hx, rd_at hj]
  have := congrArg (fun z => z[0]?) h.2.1
  simpa [List.getElem?_drop, hx, hj] using this
theorem Done.keep {c : Int} {l xs : List S24} {i j : Nat} (h : Done c l xs i j) (hj : j < l.length) (hk : (rd_T24 l (j : Int)).f0 ≠ c) : Done c l (xs.set i (rd_T24 xs (j : Int))) (i + 1) (j + 1) := by
  have hr := h.read hj
  obtain ⟨h1, h2, h3, h4, h5⟩ := h
  rw [hr]
  refine ⟨?_, ?_, by rw [List.length_set]; exact h3, by omega, by omega⟩
  · rw [List.take_succ_eq_append_getElem (by rw [List.length_set]; omega), List.take_set_of_le (Nat.le_refl _), h1, List.getElem_set_self, List.take_succ_eq_append_getElem hj, List.filter_append, ← rd_at hj]
    have hb : keeps c (rd_T24 l (j : Int)) = true := by simp [keeps, hk]
    rw [List.filter_cons_of_pos hb]; rfl
  · rw [List.drop_set_of_lt (by omega)]
    have := congrArg (fun z => z.drop 1) h2
    simpa [List.drop_drop] using this
theorem Done.skip {c : Int} {l xs : List S24} {i j : Nat} (h : Done c l xs i j) (hj : j < l.length) (hk : (rd_T24 l (j : Int)).f0 = c) : Done c l xs i (j + 1) := by
  obtain ⟨h1, h2, h3, h4, h5⟩ := h
  refine ⟨?_, ?_, h3, by omega, by omega⟩
  · rw [List.take_succ_eq_append_getElem hj, List.filter_append, ← rd_at hj, h1]
    simp [keeps, hk]
  · have := congrArg (fun z => z.drop 1) h2
    simpa [List.drop_drop] using this
theorem Done.end_ {c : Int} {l xs : List S24} {i : Nat} (h : Done c l xs i l.length) : xs.take i = l.filter (keeps c) := by
  rw [h.1, List.take_length]
theorem keeps_all {c : Int} {l : List S24} (h : fidx c l = -1) : l.filter (keeps c) = l := by
  rw [List.filter_eq_self]
  intro x hx
  unfold fidx at h
  split at h
  · omega
  rename_i hn
  rw [List.findIdx_lt_length] at hn
  have : ¬ (x.f0 == c) = true := fun e => hn ⟨x, hx, e⟩
  simpa [keeps] using this
theorem fidx_cases (c : Int) (l : List S24) : fidx c l = -1 ∨ ∃ i : Nat, fidx c l = (i : Int) ∧ i < l.length := by
  unfold fidx
  split
  · exact .inr ⟨_, rfl, by assumption⟩
  · exact .inl rfl
theorem zero24 (w : World) : (zeroValue 24).run Try.prog w = .ok (.agg #[.int .i64 0, .int .i64 0, .int .i64 0, .int .i64 0]) w := by kernel_rfl

set_option maxHeartbeats 2000000 in
theorem delete_any (g : Nat) (B : Nat) (c : Int) (hg : Asks g B c 0) (eg : ∀ args w, (callFunc g args).run Try.prog w = .ok (.enter g args) w) (v : Value) (l : List S24) (w0 w : World) (hb0 : Below w0.heap.size w0 w)
    (ho : Kd.R k24 24 w w0.heap.size (fun _ => True) v l) (hc : w.heap[B]? = some (.cells #[.int .i64 c] 3 (0, 0))) :
    Calls Try.prog 16 #[v, .func (.func g) #[] #[.pointer (some ⟨B, 0, none⟩)]] w fun e w' => ∃ v' : Value, e = .returned v' ∧ Kd.R k24 24 w' w0.heap.size (fun _ => True) v' (l.filter (keeps c)) ∧ Below w0.heap.size w0 w' := by
  obtain ⟨A, cp, rfl, hcp, hr⟩ := Kd.R_reads ho
  have hcell : w.cell? ⟨B, 0, none⟩ = some (.int .i64 c) := (blk_cell hc 0).trans rfl
  have hbig : l.length ≤ 9223372036854775807 := hr.2.1
  have hidx := index_any g B c hg eg A cp l w hr hcp hcell
  have HI := Aside0.mk hidx
  have HO := Aside0.mk ho
  have HC := Aside0.mk hc
  have HB0 := Aside0.mk hb0
  clear hidx ho hc hcell hr hb0
  have hu24 := Try.underlying24
  rcases fidx_cases c l with hm | ⟨i0, hi0, hil⟩
  · rw [hm] at HI
    have HM := Aside0.mk hm
    clear hm
    go_enter Try.func16, Try.ntmps16
    go_wp2_with (go_at_call 18; (with_reducible refine HI.out.mono ?_); rintro e w' ⟨rfl, hb'⟩)
    go_ret
    exact ⟨_, rfl, by rw [keeps_all HM.out]; exact Kd.R_below HO.out hb', HB0.out.trans (hb'.mono HB0.out.size)⟩
  · rw [hi0] at HI
    have HM := Aside0.mk hi0
    clear hi0
    obtain ⟨gr, cp', hv, hbase, hgl, cells, hcells⟩ := Kd.R_form HO.out (by omega)
    injection hv with ha _ hce
    subst ha; subst hce
    have hne : B ≠ gr := fun e => Kd.R_ne HO.out HC.out (by decide) (by rw [e]; rfl)
    have HG := Aside0.mk (show ∀ (W : World) (x0 x1 x2 x3 : Int), W.cell? ⟨B, 0, none⟩ = some (.int .i64 c) → Calls Try.prog g #[.agg #[.int .i64 x0, .int .i64 x1, .int .i64 x2, .int .i64 x3], .pointer (some ⟨B, 0, none⟩)] W fun e w' => e = .returned (.bool (x0 == c)) ∧ Below W.heap.size W w' from hg)
    clear hcells hg cells
    go_enter Try.func16, Try.ntmps16
    go_wp2_with (go_at_call 18; (with_reducible refine HI.out.mono ?_); rintro e w1 ⟨rfl, hb1⟩)
    have HO1 := Aside0.mk (Kd.R_below HO.out hb1)
    have HC1 := Aside0.mk (blk_below HC.out hb1)
    have HB1 := Aside0.mk (HB0.out.trans (hb1.mono HB0.out.size))
    have HD := Aside0.mk (Done.start HM.out)
    clear hb1 HO HC HB0 HI HM
    go_loopg [5, 6] l.length (fun gg s5 s6 wr => ∃ (i j : Nat) (xs : List S24), s5 = .int .i64 i ∧ s6 = .int .i64 j ∧ j ≤ l.length ∧ l.length - j ≤ gg ∧ i < j ∧ Aside0 (Done c l xs i j) ∧ Aside0 (Kd.R k24 24 wr w0.heap.size (fun _ => True) (.slice (some ⟨gr, 0, none⟩) l.length cp) xs) ∧ Aside0 (wr.heap[B]? = some (.cells #[.int .i64 c] 3 (0, 0))) ∧ Aside0 (Below w0.heap.size w0 wr))
    case atStart => exact ⟨i0, i0 + 1, l, rfl, by go_num, by omega, by omega, by omega, HD, HO1, HC1, HB1⟩
    case round =>
      clear HO1 HC1 HB1 HD
      obtain ⟨i, j, xs, rfl, rfl, hjl, hgg, hij, HD, HO, HC, HB⟩ := hrel
      by_cases hlt : j < l.length
      · obtain ⟨ce, hcl, hM, hcc, hfr⟩ := Kd.R_elem HO.out z24 (j : Int) (by omega) (by omega)
        obtain rfl := k24_openM hM
        have e0 : xs.getD (j : Int).toNat z24 = rd_T24 xs (j : Int) := rfl
        rw [e0] at hcc
        have hx0 : wr.cell? ⟨gr, j * 4, none⟩ = some (.int .i64 (rd_T24 xs (j : Int)).f0) := hcc 0 _ rfl
        have hx1 : wr.cell? ⟨gr, j * 4 + 1, none⟩ = some (.int .i64 (rd_T24 xs (j : Int)).f1) := hcc 1 _ rfl
        have hx2 : wr.cell? ⟨gr, j * 4 + 2, none⟩ = some (.int .i64 (rd_T24 xs (j : Int)).f2) := hcc 2 _ rfl
        have hx3 : wr.cell? ⟨gr, j * 4 + 3, none⟩ = some (.int .i64 (rd_T24 xs (j : Int)).f3) := hcc 3 _ rfl
        clear hcc hfr hM hcl e0
        have HDr := Aside0.mk (HD.out.read hlt)
        have HHC := Aside0.mk (show (wr.alloc (.cells #[.int .i64 (rd_T24 xs (j : Int)).f0, .int .i64 (rd_T24 xs (j : Int)).f1, .int .i64 (rd_T24 xs (j : Int)).f2, .int .i64 (rd_T24 xs (j : Int)).f3] 24)).cell? ⟨B, 0, none⟩ = some (.int .i64 c) from (blk_cell (blk_alloc HC.out _) 0).trans rfl)
        by_cases hq : (rd_T24 xs (j : Int)).f0 = c
        · have hb0 : ((rd_T24 xs (j : Int)).f0 == c) = true := beq_iff_eq.2 hq
          have hcall := HG.out _ (rd_T24 xs (j : Int)).f0 (rd_T24 xs (j : Int)).f1 (rd_T24 xs (j : Int)).f2 (rd_T24 xs (j : Int)).f3 HHC.out
          rw [hb0] at hcall
          have HCALL := Aside0.mk hcall
          have HQ := Aside0.mk hq
          clear hcall hb0 hq HHC
          go_wp2_with ((with_reducible refine HCALL.out.mono ?_); rintro e w3 ⟨rfl, hb3⟩; have HB3 := Aside0.mk hb3; clear hb3)
          go_roundg (l.length - (j + 1))
          case measure => omega
          case rel =>
            have hb4 : Below wr.heap.size wr w3 := (below_alloc (Below.refl _ _) _).trans (HB3.out.mono (by simp))
            exact ⟨i, j + 1, xs, by first | rfl | trivial, by go_num, by omega, by omega, by omega, ⟨HD.out.skip hlt (by rw [← HDr.out]; exact HQ.out)⟩, ⟨Kd.R_below HO.out hb4⟩, ⟨blk_below HC.out hb4⟩, ⟨HB.out.trans (hb4.mono HB.out.size)⟩⟩
        · have hb0 : ((rd_T24 xs (j : Int)).f0 == c) = false := beq_eq_false_iff_ne.2 hq
          have hcall := HG.out _ (rd_T24 xs (j : Int)).f0 (rd_T24 xs (j : Int)).f1 (rd_T24 xs (j : Int)).f2 (rd_T24 xs (j : Int)).f3 HHC.out
          rw [hb0] at hcall
          have HCALL := Aside0.mk hcall
          have HQ := Aside0.mk hq
          clear hcall hb0 hq HHC
          obtain ⟨ce, hcl, hM, hcc, hfr⟩ := Kd.R_elem HO.out z24 (i : Int) (by omega) (by omega)
          obtain rfl := k24_openM hM
          have HCC := Aside0.mk hcc
          have HFR := Aside0.mk hfr
          have hil2 : i < l.length := by omega
          clear hcc hfr hM hcl
          go_wp2_with fail
          (with_reducible refine HCALL.out.mono ?_)
          rintro e w3 ⟨rfl, hb3⟩
          have hb4 : Below wr.heap.size wr w3 := (below_alloc (Below.refl _ _) _).trans (hb3.mono (by simp))
          have hy0 : w3.cell? ⟨wr.heap.size, 0, none⟩ = some (.int .i64 (rd_T24 xs (j : Int)).f0) := (hb3.cell (p := ⟨wr.heap.size, 0, none⟩) (by simp)).trans (by simp)
          have hy1 : w3.cell? ⟨wr.heap.size, 1, none⟩ = some (.int .i64 (rd_T24 xs (j : Int)).f1) := (hb3.cell (p := ⟨wr.heap.size, 1, none⟩) (by simp)).trans (by simp)
          have hy2 : w3.cell? ⟨wr.heap.size, 2, none⟩ = some (.int .i64 (rd_T24 xs (j : Int)).f2) := (hb3.cell (p := ⟨wr.heap.size, 2, none⟩) (by simp)).trans (by simp)
          have hy3 : w3.cell? ⟨wr.heap.size, 3, none⟩ = some (.int .i64 (rd_T24 xs (j : Int)).f3) := (hb3.cell (p := ⟨wr.heap.size, 3, none⟩) (by simp)).trans (by simp)
          have hz : ∀ k u, [(Value.int .i64 (xs.getD (i : Int).toNat z24).f0), .int .i64 (xs.getD (i : Int).toNat z24).f1, .int .i64 (xs.getD (i : Int).toNat z24).f2, .int .i64 (xs.getD (i : Int).toNat z24).f3][k]? = some u → w3.cell? ⟨gr, i * 4 + k, none⟩ = some u := fun k u hu => (hb4.cell (World.block_lt_of_cell? wr _ (HCC.out k u hu))).trans (HCC.out k u hu)
          have hz0 : w3.cell? ⟨gr, i * 4, none⟩ = some _ := hz 0 _ rfl
          have hz1 : w3.cell? ⟨gr, i * 4 + 1, none⟩ = some _ := hz 1 _ rfl
          have hz2 : w3.cell? ⟨gr, i * 4 + 2, none⟩ = some _ := hz 2 _ rfl
          have hz3 : w3.cell? ⟨gr, i * 4 + 3, none⟩ = some _ := hz 3 _ rfl
          have hf : ∀ k, w3.frozen? ⟨gr, i * 4 + k, none⟩ = false := fun k => (hb4.frozen (p := ⟨gr, i * 4 + k, none⟩) (show gr < wr.heap.size from World.block_lt_of_cell? wr ⟨gr, (i : Int).toNat * k24.sz + 0, none⟩ (HCC.out 0 _ rfl))).trans (HFR.out k)
          have hf0 : w3.frozen? ⟨gr, i * 4, none⟩ = false := hf 0
          have hf1 : w3.frozen? ⟨gr, i * 4 + 1, none⟩ = false := hf 1
          have hf2 : w3.frozen? ⟨gr, i * 4 + 2, none⟩ = false := hf 2
          have hf3 : w3.frozen? ⟨gr, i * 4 + 3, none⟩ = false := hf 3
          have HZ := Aside0.mk hz
          have HB4 := Aside0.mk hb4
          clear hb4 hb3 hz hf
          go_wp2
          go_roundg (l.length - (j + 1))
          case measure => omega
          case rel =>
            have ho4 := Kd.R_below HO.out HB4.out
            have hs := Kd.R_seg (seg := [.int .i64 (rd_T24 xs (j : Int)).f0, .int .i64 (rd_T24 xs (j : Int)).f1, .int .i64 (rd_T24 xs (j : Int)).f2, .int .i64 (rd_T24 xs (j : Int)).f3]) (j := 0) ho4 (i : Int) (by omega) (by omega) rfl HZ.out (Nat.le_refl 4) (x' := rd_T24 xs (j : Int)) (okp := fun _ => False) (k24_mkM _ _ _ _) (fun _ h => h.elim)
            have hc4 := blk_below HC.out HB4.out
            exact ⟨i + 1, j + 1, xs.set i (rd_T24 xs (j : Int)), by go_num, by go_num, by omega, by omega, by omega, ⟨HD.out.keep hlt (by rw [← HDr.out]; exact HQ.out)⟩, ⟨hs.1⟩, ⟨(hs.2.block B (blk_lt hc4) (fun e => hne (by injection e))).trans hc4⟩, ⟨(HB.out.trans (HB4.out.mono HB.out.size)).grown hs.2 (Nat.le_trans HB.out.size HB4.out.size) (fun k hk => by injection hk with hk; omega)⟩⟩
      · have : j = l.length := by omega
        subst this
        have hil3 : i < l.length := hij
        have hci : (cp == i) = false := by simp; omega
        have hci2 : ¬ cp = i := by omega
        go_wp2_with (refine Kd_.R_clear k24 (w0 := w0) w0.heap.size rfl rfl (.tmp 38) 26 24 (.agg #[.int .i64 0, .int .i64 0, .int .i64 0, .int .i64 0]) rfl Try.underlying26 zero24 rfl (by decide) (by decide) (n := l.length) (m := i) xs (fun _ => True) rfl rfl hil3 HO.out HB.out ?_; intro w5 ho5 hb5 hg5; have HO5 := Aside0.mk ho5; have HB5 := Aside0.mk hb5; clear ho5 hb5 hg5)
        go_ret
        exact ⟨_, rfl, by rw [← HD.out.end_]; exact HO5.out, HB5.out⟩
def line_Drop.f (l0 : List (S24)) (a1 : Int) : Option (List (S24)) := if l0.length < 4398046511104 then some (l0.filter (keeps a1)) else none
set_option maxHeartbeats 400000 in
theorem line_Drop.calls (A0 : Option Addr) (c0 : Nat) (l0 : List (S24)) (a1 : Int) (r : List (S24)) (w : World) (hr0 : Kd.C k24 w A0 l0.length l0) (hc0 : l0.length ≤ c0) (h : line_Drop.f l0 a1 = some r) :
    Calls Try.prog 9 #[.slice A0 l0.length c0, .int .i64 a1] w fun e w' => ∃ v0_ : Value, e = .returned (v0_) ∧ Kd.R k24 24 w' w.heap.size (fun _ => True) v0_ r ∧ Below w.heap.size w w' := by
  have hl : l0.length < 4398046511104 := by
    unfold line_Drop.f at h
    rcases Nat.lt_or_ge l0.length 4398046511104 with h1 | h1
    · exact h1
    · rw [if_neg (by omega)] at h; exact absurd h (by simp)
  have er : l0.filter (keeps a1) = r := by
    unfold line_Drop.f at h
    rw [if_pos hl] at h
    exact Option.some.inj h
  subst er
  clear h
  have eg : ∀ args w, (callFunc 17 args).run Try.prog w = .ok (.enter 17 args) w := enters_of Try.func17 (by kernel_rfl) rfl
  have hcon := waits_Clone.calls A0 c0 l0 l0 (w.alloc (.cells #[.int .i64 a1] 3)) (Kd.C_below hr0 ((Below.refl _ _).alloc (Nat.le_refl _) _)) hc0 (by unfold waits_Clone.f; rw [if_pos hl])
  have HK := Aside0.mk hcon
  have HE := Aside0.mk eg
  clear hr0 hcon eg
  go_enter Try.func9, Try.ntmps9
  go_wp2_with (first
    | (go_at_call 14; (with_reducible refine HK.out.mono ?_); rintro e w1 ⟨v1, rfl, ho1, hb1⟩; have hc1 : w1.heap[w.heap.size]? = some (.cells #[.int .i64 a1] 3 (0, 0)) := (hb1.block w.heap.size (by simp)).trans (heap_alloc_new w _); have hbw : Below w.heap.size w w1 := ((Below.refl _ w).alloc (Nat.le_refl _) _).trans (hb1.mono (by simp)); have HD := Aside0.mk (delete_any 17 w.heap.size a1 (asks17 _ _) HE.out v1 l0 w w1 hbw (Kd.R_lower ho1 (by simp)) hc1); clear ho1 hb1 hc1 hbw)
    | (go_at_call 16; (with_reducible refine HD.out.mono ?_); rintro e w2 ⟨v2, rfl, ho2, hb2⟩; have HO2 := Aside0.mk ho2; have HB2 := Aside0.mk hb2; clear ho2 hb2))
  go_ret
  exact ⟨_, rfl, HO2.out, HB2.out⟩
end Go.Proofs.Ytpdnekffippgdaa.L
