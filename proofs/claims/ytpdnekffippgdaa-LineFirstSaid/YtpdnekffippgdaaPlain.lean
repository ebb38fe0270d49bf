/- That line's functions and the reference's answer alike on rows in which each client waits once, and what LineAll and LineGone come to: plain facts about lists, no memory. -/
import Derived.Test.YtpdnekffippgdaaLx4
import Derived.Test.YtpdnekffippgdaaLx5
namespace Go.Proofs.Ytpdnekffippgdaa.L
open Go.RowKit Go.Proofs.YtpdnekffippgdaaW.PrintWords Go.Proofs.YtpdnekffippgdaaW.PrintLast Go.Proofs.YtpdnekffippgdaaW.PrintMore

theorem wrap_succ {i : Nat} (h : i < 1000000) : wrap64 ((i : Int) + 1) = ((i + 1 : Nat) : Int) := by
  unfold wrap64
  omega
theorem drop_rd {l : List S24} {i : Nat} (h : i < l.length) : l.drop i = rd_T24 l (i : Int) :: l.drop (i + 1) := by
  rw [rd_at h]
  exact List.drop_eq_getElem_cons h

/-! ### who is ahead -/
def aheadP (c f : Int) : List S24 → Bool
  | [] => false
  | x :: t => if x.f2 = f then x.f0 != c else aheadP c f t
theorem ahead_l0 (c f : Int) (l : List S24) (hl : l.length < 1000) : ∀ d k i : Nat, i + d = l.length → d < k → line_Ahead.l0 k c f l (l.length : Int) (i : Int) = some (aheadP c f (l.drop i))
  | 0, k, i, hd, hk => by
    obtain ⟨k, rfl⟩ : ∃ m, k = m + 1 := ⟨k - 1, by omega⟩
    simp only [line_Ahead.l0]
    rw [if_neg (by omega), List.drop_eq_nil_of_le (by omega)]
    rfl
  | d + 1, k, i, hd, hk => by
    obtain ⟨k, rfl⟩ : ∃ m, k = m + 1 := ⟨k - 1, by omega⟩
    simp only [line_Ahead.l0]
    rw [if_pos (by omega), if_pos (by omega), if_pos (by omega), drop_rd (by omega : i < l.length)]
    by_cases h : (rd_T24 l (i : Int)).f2 = f
    · rw [if_pos h]
      simp only [aheadP, if_pos h]
    · rw [if_neg h, wrap_succ (by omega), ahead_l0 c f l hl d k (i + 1) (by omega) (by omega)]
      simp only [aheadP, if_neg h]
theorem ahead_f (c f : Int) (l : List S24) (k : Nat) (hl : l.length < 1000) (hk : l.length < k) : line_Ahead.f k l c f = some (aheadP c f l) := by
  unfold line_Ahead.f
  exact ahead_l0 c f l hl l.length k 0 (by omega) hk
theorem refAhead_l0 (c f : Int) (l : List S24) (hl : l.length < 1000) : ∀ d k i : Nat, i + d = l.length → 2 * d < k → tenancyref13_Ahead.l0 k l c f (i : Int) = some (aheadP c f (l.drop i))
  | 0, k, i, hd, hk => by
    obtain ⟨k, rfl⟩ : ∃ m, k = m + 1 := ⟨k - 1, by omega⟩
    simp only [tenancyref13_Ahead.l0]
    rw [if_neg (by omega), List.drop_eq_nil_of_le (by omega)]
    rfl
  | d + 1, k, i, hd, hk => by
    obtain ⟨k, rfl⟩ : ∃ m, k = m + 2 := ⟨k - 2, by omega⟩
    have ih := refAhead_l0 c f l hl d k (i + 1) (by omega) (by omega)
    simp only [tenancyref13_Ahead.l0]
    rw [if_pos (by omega), if_pos (by omega), drop_rd (by omega : i < l.length)]
    simp only [tenancyref13_Ahead.j1]
    rw [if_pos (by omega : (0 : Int) ≤ i), if_pos (by omega : (i : Int) < (l.length : Int)), wrap_succ (by omega), ih]
    simp only [aheadP]
    by_cases h0 : (rd_T24 l (i : Int)).f0 = c <;> by_cases h2 : (rd_T24 l (i : Int)).f2 = f <;> simp [h0, h2]
theorem refAhead_f (c f : Int) (l : List S24) (k : Nat) (hl : l.length < 1000) (hk : 2 * l.length < k) : tenancyref13_Ahead.f k l c f = some (aheadP c f l) := by
  unfold tenancyref13_Ahead.f
  exact refAhead_l0 c f l hl l.length k 0 (by omega) hk

/-! ### who is dropped -/
theorem drop_f (l : List S24) (c : Int) (hl : l.length < 1000) : line_Drop.f l c = some (l.filter (keeps c)) := by
  unfold line_Drop.f
  rw [if_pos (by omega)]
theorem dropWait_l0 (c : Int) (l : List S24) (hl : l.length < 1000) : ∀ d k i : Nat, ∀ o : List S24, i + d = l.length → o.length ≤ i → d < k → tenancyref13_DropWait.l0 k l c o (i : Int) = some (o ++ (l.drop i).filter (keeps c))
  | 0, k, i, o, hd, ho, hk => by
    obtain ⟨k, rfl⟩ : ∃ m, k = m + 1 := ⟨k - 1, by omega⟩
    simp only [tenancyref13_DropWait.l0]
    rw [if_neg (by omega), List.drop_eq_nil_of_le (by omega)]
    simp
  | d + 1, k, i, o, hd, ho, hk => by
    obtain ⟨k, rfl⟩ : ∃ m, k = m + 1 := ⟨k - 1, by omega⟩
    simp only [tenancyref13_DropWait.l0]
    rw [if_pos (by omega), if_pos (by omega), drop_rd (by omega : i < l.length), wrap_succ (by omega)]
    by_cases h : (rd_T24 l (i : Int)).f0 = c
    · rw [if_pos h, dropWait_l0 c l hl d k (i + 1) o (by omega) (by omega) (by omega), List.filter_cons_of_neg (by simp [keeps, h])]
    · rw [if_neg h, if_pos (by omega), dropWait_l0 c l hl d k (i + 1) _ (by omega) (by simp; omega) (by omega), List.filter_cons_of_pos (by simp [keeps, h])]
      simp
theorem dropWait_f (c : Int) (l : List S24) (k : Nat) (hl : l.length < 1000) (hk : l.length < k) : tenancyref13_DropWait.f k l c = some (l.filter (keeps c)) := by
  unfold tenancyref13_DropWait.f
  have := dropWait_l0 c l hl l.length k 0 [] (by omega) (by simp) hk
  simpa using this

/-! ### the same -/
theorem same_l0 (l : List S24) (hl : l.length < 1000) : ∀ d k i : Nat, i + d = l.length → d < k → tenancyref13_SameWaits.l0 k l l (i : Int) = some true
  | 0, k, i, hd, hk => by
    obtain ⟨k, rfl⟩ : ∃ m, k = m + 1 := ⟨k - 1, by omega⟩
    simp only [tenancyref13_SameWaits.l0]
    rw [if_neg (by omega)]
  | d + 1, k, i, hd, hk => by
    obtain ⟨k, rfl⟩ : ∃ m, k = m + 1 := ⟨k - 1, by omega⟩
    simp only [tenancyref13_SameWaits.l0]
    rw [if_pos (by omega), if_pos (by omega), if_pos (by omega), if_neg (by simp), wrap_succ (by omega)]
    exact same_l0 l hl d k (i + 1) (by omega) (by omega)
theorem same_f (l : List S24) (k : Nat) (hl : l.length < 1000) (hk : l.length < k) : tenancyref13_SameWaits.f k l l = some true := by
  unfold tenancyref13_SameWaits.f
  rw [if_pos rfl]
  exact same_l0 l hl l.length k 0 (by omega) hk

/-! ### who comes -/
/-- Each client waits once; there are never more than have room. -/
def Good (l : List S24) : Prop := l.Pairwise (fun x y => x.f0 ≠ y.f0) ∧ l.length ≤ 4
theorem Good.nil : Good [] := ⟨List.Pairwise.nil, by simp⟩
theorem Good.drop {l : List S24} (h : Good l) (c : Int) : Good (l.filter (keeps c)) :=
  ⟨h.1.filter _, Nat.le_trans (List.length_filter_le _ _) h.2⟩
/-- Where a client waits for a file: its place. -/
def putP (l : List S24) (w : S24) : List S24 × Bool :=
  if l.findIdx (fun x => x.f0 == w.f0) < l.length ∧ (rd_T24 l ((l.findIdx (fun x => x.f0 == w.f0) : Nat) : Int)).f2 = w.f2 then (l.set (l.findIdx (fun x => x.f0 == w.f0)) w, true)
  else if 4 ≤ (l.filter (keeps w.f0)).length then (l, false) else (l.filter (keeps w.f0) ++ [w], true)
theorem put_f (l : List S24) (w : S24) (k : Nat) (hl : l.length < 1000) (hk : 0 < k) : line_Put.f k l w.f0 w.f1 w.f2 w.f3 = some (putP l w) := by
  obtain ⟨k, rfl⟩ : ∃ m, k = m + 1 := ⟨k - 1, by omega⟩
  have hfl := List.length_filter_le (keeps w.f0) l
  unfold line_Put.f waits_Clone.f line_place.f
  rw [if_pos (by omega), if_pos (by omega)]
  simp only [Option.bind_some]
  have hno : line_Put.j0 (k + 1) l l (fidx w.f0 l) false w.f0 w.f1 w.f2 w.f3 = some (if 4 ≤ (l.filter (keeps w.f0)).length then (l, false) else (l.filter (keeps w.f0) ++ [w], true)) := by
    simp only [line_Put.j0]
    rw [if_neg (by simp), drop_f l w.f0 hl]
    simp only [Option.bind_some]
    by_cases h : 4 ≤ (l.filter (keeps w.f0)).length
    · rw [if_pos (by omega), if_pos h]
      unfold waits_Clone.f
      rw [if_pos (by omega)]
      rfl
    · rw [if_neg (by omega), if_pos (by omega), if_neg h]
  unfold putP fidx at *
  by_cases hi : l.findIdx (fun x => x.f0 == w.f0) < l.length
  · rw [if_pos hi] at hno ⊢
    rw [if_pos (by omega), if_pos (by omega), if_pos (by omega)]
    by_cases h2 : (rd_T24 l ((l.findIdx (fun x => x.f0 == w.f0) : Nat) : Int)).f2 = w.f2
    · rw [if_pos ⟨hi, h2⟩, beq_iff_eq.2 h2]
      simp only [line_Put.j0]
      rw [if_pos trivial, if_pos (by omega), if_pos (by omega), Int.toNat_natCast]
    · rw [if_neg (fun h => h2 h.2), beq_eq_false_iff_ne.2 h2, hno]
  · rw [if_neg hi] at hno ⊢
    rw [if_neg (by omega), if_neg (fun h => hi h.1), hno]
theorem putWait_l0 (w : S24) (l : List S24) (hl : l.length < 1000) : ∀ d k i : Nat, i + d = l.length → d + l.length + 2 < k →
    (∀ j, j < i → ¬ ((rd_T24 l (j : Int)).f0 = w.f0 ∧ (rd_T24 l (j : Int)).f2 = w.f2)) →
    ∃ r, tenancyref13_PutWait.l0 k l (i : Int) w.f0 w.f1 w.f2 w.f3 = some r ∧
      ((∃ j, j < l.length ∧ (rd_T24 l (j : Int)).f0 = w.f0 ∧ (rd_T24 l (j : Int)).f2 = w.f2 ∧ r = (l.set j w, true)) ∨
       ((∀ j, j < l.length → ¬ ((rd_T24 l (j : Int)).f0 = w.f0 ∧ (rd_T24 l (j : Int)).f2 = w.f2)) ∧ r = (if 4 ≤ (l.filter (keeps w.f0)).length then (l, false) else (l.filter (keeps w.f0) ++ [w], true))))
  | 0, k, i, hd, hk, hn => by
    obtain ⟨k, rfl⟩ : ∃ m, k = m + 1 := ⟨k - 1, by omega⟩
    have hfl := List.length_filter_le (keeps w.f0) l
    refine ⟨_, ?_, .inr ⟨fun j hj => hn j (by omega), rfl⟩⟩
    simp only [tenancyref13_PutWait.l0]
    rw [if_neg (by omega), dropWait_f w.f0 l k hl (by omega)]
    simp only [Option.bind_some]
    by_cases h : 4 ≤ (l.filter (keeps w.f0)).length
    · rw [if_pos (by omega), if_pos h]
    · rw [if_neg (by omega), if_pos (by omega), if_neg h]
  | d + 1, k, i, hd, hk, hn => by
    obtain ⟨k, rfl⟩ : ∃ m, k = m + 1 := ⟨k - 1, by omega⟩
    by_cases h : (rd_T24 l (i : Int)).f0 = w.f0 ∧ (rd_T24 l (i : Int)).f2 = w.f2
    · refine ⟨(l.set i w, true), ?_, .inl ⟨i, by omega, h.1, h.2, rfl⟩⟩
      simp only [tenancyref13_PutWait.l0]
      rw [if_pos (by omega), if_pos (by omega), if_pos h.1, if_pos h.2]
      simp only [Option.bind_some, List.nil_append, List.length_nil, Nat.zero_add]
      rw [if_pos (by omega), if_pos (by omega), Int.toNat_natCast]
    · obtain ⟨r, hr, hx⟩ := putWait_l0 w l hl d k (i + 1) (by omega) (by omega) (fun j hj => by
        by_cases e : j = i
        · subst e; exact h
        · exact hn j (by omega))
      refine ⟨r, ?_, hx⟩
      simp only [tenancyref13_PutWait.l0]
      rw [if_pos (by omega), if_pos (by omega), wrap_succ (by omega), hr]
      by_cases h0 : (rd_T24 l (i : Int)).f0 = w.f0
      · rw [if_pos h0, if_neg (fun h2 => h ⟨h0, h2⟩)]
      · rw [if_neg h0]
theorem good_at {l : List S24} (h : Good l) {i j : Nat} (hi : i < l.length) (hj : j < l.length) (e : (rd_T24 l (i : Int)).f0 = (rd_T24 l (j : Int)).f0) : i = j := by
  rw [rd_at hi, rd_at hj] at e
  have := List.pairwise_iff_getElem.1 h.1
  rcases Nat.lt_trichotomy i j with h1 | h1 | h1
  · exact absurd e (this i j hi hj h1)
  · exact h1
  · exact absurd e.symm (this j i hj hi h1)
theorem find_some {l : List S24} {c : Int} (hi : l.findIdx (fun x => x.f0 == c) < l.length) : (rd_T24 l ((l.findIdx (fun x => x.f0 == c) : Nat) : Int)).f0 = c := by
  rw [rd_at hi]
  have := List.findIdx_getElem (w := hi)
  simpa using this
theorem find_lt {l : List S24} {c : Int} {j : Nat} (hj : j < l.length) (e : (rd_T24 l (j : Int)).f0 = c) : l.findIdx (fun x => x.f0 == c) < l.length := by
  rw [List.findIdx_lt_length]
  rw [rd_at hj] at e
  exact ⟨l[j], List.getElem_mem hj, by simpa using e⟩
theorem putWait_f (l : List S24) (w : S24) (k : Nat) (hg : Good l) (hk : 20 ≤ k) : tenancyref13_PutWait.f k l w.f0 w.f1 w.f2 w.f3 = some (putP l w) := by
  have h4 := hg.2
  unfold tenancyref13_PutWait.f
  obtain ⟨r, hr, hx⟩ := putWait_l0 w l (by omega) l.length k 0 (by omega) (by omega) (fun j hj => absurd hj (by omega))
  have hr' : tenancyref13_PutWait.l0 k l 0 w.f0 w.f1 w.f2 w.f3 = some r := hr
  rw [hr']
  unfold putP
  rcases hx with ⟨j, hj, h0, h2, rfl⟩ | ⟨hn, rfl⟩
  · have hi := find_lt hj h0
    have e := good_at hg hi hj ((find_some hi).trans h0.symm)
    rw [e, if_pos ⟨hj, h2⟩]
  · have hno : ¬ (l.findIdx (fun x => x.f0 == w.f0) < l.length ∧ (rd_T24 l ((l.findIdx (fun x => x.f0 == w.f0) : Nat) : Int)).f2 = w.f2) := by
      rintro ⟨hi, h2⟩
      exact hn _ hi ⟨find_some hi, h2⟩
    rw [if_neg hno]
theorem Good.put {l : List S24} (h : Good l) (w : S24) : Good (putP l w).1 := by
  unfold putP
  split
  · rename_i hc
    obtain ⟨hi, _⟩ := hc
    refine ⟨?_, by rw [List.length_set]; exact h.2⟩
    have e0 := find_some hi
    rw [rd_at hi] at e0
    rw [List.pairwise_iff_getElem]
    have hp := List.pairwise_iff_getElem.1 h.1
    intro a b ha hb hab
    rw [List.length_set] at ha hb
    have := hp a b ha hb hab
    rw [List.getElem_set, List.getElem_set]
    split <;> split
    · omega
    · rename_i e1 _; subst e1; exact fun e => this (e0.trans e)
    · rename_i _ e1; subst e1; exact fun e => this (e.trans e0.symm)
    · exact this
  · split
    · exact h
    · refine ⟨?_, by simp; omega⟩
      rw [List.pairwise_append]
      refine ⟨h.1.filter _, List.pairwise_singleton _ _, fun x hx y hy => ?_⟩
      rw [List.mem_filter] at hx
      rw [List.mem_singleton] at hy
      subst hy
      simpa [keeps] using hx.2

theorem begun_f (k : Nat) (hk : 20 ≤ k) : tenancylaw14_begun.f k = some true := by
  unfold tenancylaw14_begun.f
  have hp := put_f [] ⟨1, 1, 2, 2⟩ k (by simp) (by omega)
  have he : putP [] ⟨1, 1, 2, 2⟩ = ([⟨1, 1, 2, 2⟩], true) := by simp [putP]
  rw [he] at hp
  rw [hp]
  simp only [Option.bind_some, if_true]
  rw [if_pos (by simp), ahead_f _ _ _ _ (by simp) (by simp; omega)]
  simp only [Option.bind_some]
  rw [if_pos (by decide), ahead_f _ _ _ _ (by simp) (by simp; omega)]
  simp only [Option.bind_some]
  rw [if_neg (by decide), ahead_f _ _ _ _ (by simp) (by simp; omega)]
  simp only [Option.bind_some]
  rw [if_neg (by decide), drop_f _ _ (by simp)]
  simp [keeps]

/-! ### LineAll -/
theorem all_l0 (l : List S27) (hl : l.length ≤ 30) (c f : Int) (w : S24) : ∀ d k i : Nat, ∀ m : List S24, i + d = l.length → 2 * d + 60 ≤ k → Good m → tenancylaw14_LineAll.l0 k l c f m m (i : Int) w.f0 w.f1 w.f2 w.f3 = some true
  | 0, k, i, m, hd, hk, hm => by
    obtain ⟨k, rfl⟩ : ∃ m, k = m + 1 := ⟨k - 1, by omega⟩
    have h4 := hm.2
    have hp := (hm.put w)
    have h5 := hp.2
    simp only [tenancylaw14_LineAll.l0]
    rw [if_neg (by omega), put_f m w k (by omega) (by omega), putWait_f m w k hm (by omega)]
    simp only [Option.bind_some]
    rw [if_pos (by simp), same_f _ _ (by omega) (by omega)]
    simp only [Option.bind_some, if_true]
    rw [ahead_f _ _ _ _ (by omega) (by omega), refAhead_f _ _ _ _ (by omega) (by omega)]
    simp
  | d + 1, k, i, m, hd, hk, hm => by
    obtain ⟨k, rfl⟩ : ∃ m, k = m + 2 := ⟨k - 2, by omega⟩
    have h4 := hm.2
    have hj : ∀ (m' : List S24) (x12 x13 : Int), Good m' → tenancylaw14_LineAll.j1 (k + 1) l c f m' m' (i : Int) x12 x13 w.f0 w.f1 w.f2 w.f3 = some true := fun m' x12 x13 hm' => by
      have h5 := hm'.2
      have ih := all_l0 l hl c f w d k (i + 1) m' (by omega) (by omega) hm'
      simp only [tenancylaw14_LineAll.j1]
      rw [same_f _ _ (by omega) (by omega)]
      simp only [Option.bind_some, if_true]
      rw [ahead_f _ _ _ _ (by omega) (by omega), refAhead_f _ _ _ _ (by omega) (by omega)]
      simp only [Option.bind_some]
      rw [if_neg (by simp), ahead_f _ _ _ _ (by omega) (by omega), refAhead_f _ _ _ _ (by omega) (by omega)]
      simp only [Option.bind_some]
      rw [if_neg (by simp), wrap_succ (by omega), ih]
    have e : tenancylaw14_LineAll.l0 (k + 2) l c f m m (i : Int) w.f0 w.f1 w.f2 w.f3 = tenancylaw14_LineAll.l0 ((k + 1) + 1) l c f m m (i : Int) w.f0 w.f1 w.f2 w.f3 := rfl
    rw [e]
    unfold tenancylaw14_LineAll.l0
    rw [if_pos (by omega), if_pos (by omega)]
    split
    · have hw := put_f m ⟨wrap64 (1 + wrap64 (Int.tmod (rd_T27 l i).f1 7)), (i : Int), wrap64 (1 + wrap64 (Int.tmod (rd_T27 l i).f2 4)), 1 + Int.tdiv (rd_T27 l i).f0 4 % 2⟩ (k + 1) (by omega) (by omega)
      have hv := putWait_f m ⟨wrap64 (1 + wrap64 (Int.tmod (rd_T27 l i).f1 7)), (i : Int), wrap64 (1 + wrap64 (Int.tmod (rd_T27 l i).f2 4)), 1 + Int.tdiv (rd_T27 l i).f0 4 % 2⟩ (k + 1) hm (by omega)
      have hg := hm.put ⟨wrap64 (1 + wrap64 (Int.tmod (rd_T27 l i).f1 7)), (i : Int), wrap64 (1 + wrap64 (Int.tmod (rd_T27 l i).f2 4)), 1 + Int.tdiv (rd_T27 l i).f0 4 % 2⟩
      simp only at hw hv
      rw [hw, hv]
      simp only [Option.bind_some]
      rw [if_neg (by simp)]
      exact hj _ _ _ hg
    · rw [drop_f _ _ (by omega), dropWait_f _ _ _ (by omega) (by omega)]
      simp only [Option.bind_some]
      exact hj _ _ _ (hm.drop _)
theorem LineAllPure (l : List S27) (w : S24) (c f : Int) : tenancylaw14_LineAll.f 200 l w.f0 w.f1 w.f2 w.f3 c f = some true := by
  unfold tenancylaw14_LineAll.f
  rw [begun_f 200 (by omega)]
  simp only [Option.bind_some, if_true]
  by_cases h : (l.length : Int) > 30
  · rw [if_pos h]
  · rw [if_neg h]
    exact all_l0 l (by omega) c f w l.length 200 0 [] (by omega) (by omega) Good.nil

/-! ### LineGone -/
theorem gone_l1 (x : List S24) (hx : Good x) (c : Int) : ∀ d k i : Nat, i + d = x.length → d + 40 ≤ k →
    tenancylaw14_LineGone.l1 k x c (x.filter (keeps c)) (((x.take i).filter (keeps c)).length : Int) (i : Int) = some true
  | 0, k, i, hd, hk => by
    obtain ⟨k, rfl⟩ : ∃ m, k = m + 1 := ⟨k - 1, by omega⟩
    have h4 := hx.2
    have h5 := (hx.drop c).2
    simp only [tenancylaw14_LineGone.l1]
    rw [if_neg (by omega), List.take_of_length_le (by omega), if_pos rfl, if_pos (by omega), drop_f _ _ (by omega), List.filter_filter]
    simp only [Option.bind_some, Bool.and_self]
    rw [show (fun a => keeps c a) = keeps c from rfl]
    rw [same_f _ _ (by omega) (by omega)]
    rfl
  | d + 1, k, i, hd, hk => by
    obtain ⟨k, rfl⟩ : ∃ m, k = m + 1 := ⟨k - 1, by omega⟩
    have h4 := hx.2
    have ih := gone_l1 x hx c d k (i + 1) (by omega) (by omega)
    have hi : i < x.length := by omega
    rw [List.take_succ_eq_append_getElem hi, List.filter_append, ← rd_at hi] at ih
    simp only [tenancylaw14_LineGone.l1]
    rw [if_pos (by omega), if_pos (by omega), wrap_succ (by omega)]
    by_cases h : (rd_T24 x (i : Int)).f0 = c
    · rw [if_pos h]
      rw [List.filter_cons_of_neg (by simp [keeps, h])] at ih
      simpa using ih
    · rw [if_neg h]
      have hkeep : keeps c (rd_T24 x (i : Int)) = true := by simp [keeps, h]
      rw [List.filter_cons_of_pos hkeep, List.length_append] at ih
      have hs : x.filter (keeps c) = (x.take i).filter (keeps c) ++ (rd_T24 x (i : Int)) :: (x.drop (i + 1)).filter (keeps c) := by
        conv => lhs; rw [← List.take_append_drop i x, List.filter_append, drop_rd hi, List.filter_cons_of_pos hkeep]
      have hfl := List.length_filter_le (keeps c) (x.take i)
      have htl := List.length_take_le i x
      have hn : ((x.take i).filter (keeps c)).length < (x.filter (keeps c)).length := by rw [hs, List.length_append, List.length_cons]; omega
      have hr : rd_T24 (x.filter (keeps c)) (((x.take i).filter (keeps c)).length : Int) = rd_T24 x (i : Int) := by
        rw [rd_at hn]
        have : (x.filter (keeps c))[((x.take i).filter (keeps c)).length]? = some (rd_T24 x (i : Int)) := by
          rw [hs, List.getElem?_append_right (Nat.le_refl _)]; simp
        rw [List.getElem?_eq_getElem hn] at this
        exact Option.some.inj this
      rw [if_neg (by omega), if_pos (by omega), if_pos (by omega), hr, if_neg (by simp), wrap_succ (by omega)]
      exact ih
theorem gone_l0 (l : List S39) (hl : l.length ≤ 20) (who : Int) : ∀ d k i : Nat, ∀ x : List S24, i + d = l.length → d + 100 ≤ k → Good x → tenancylaw14_LineGone.l0 k l who x (i : Int) = some true
  | 0, k, i, x, hd, hk, hx => by
    obtain ⟨k, rfl⟩ : ∃ m, k = m + 1 := ⟨k - 1, by omega⟩
    have h4 := hx.2
    simp only [tenancylaw14_LineGone.l0]
    rw [if_neg (by omega), drop_f _ _ (by omega)]
    simp only [Option.bind_some]
    have := gone_l1 x hx (wrap64 (1 + wrap64 (Int.tmod who 5))) x.length k 0 (by omega) (by omega)
    simpa using this
  | d + 1, k, i, x, hd, hk, hx => by
    obtain ⟨k, rfl⟩ : ∃ m, k = m + 1 := ⟨k - 1, by omega⟩
    have h4 := hx.2
    have hw := put_f x ⟨wrap64 (1 + wrap64 (Int.tmod (rd_T39 l i).f0 5)), wrap64 (1 + (i : Int)), wrap64 (1 + wrap64 (Int.tmod (rd_T39 l i).f1 2)), 1⟩ k (by omega) (by omega)
    have hg := hx.put ⟨wrap64 (1 + wrap64 (Int.tmod (rd_T39 l i).f0 5)), wrap64 (1 + (i : Int)), wrap64 (1 + wrap64 (Int.tmod (rd_T39 l i).f1 2)), 1⟩
    simp only [tenancylaw14_LineGone.l0]
    rw [if_pos (by omega), if_pos (by omega), hw]
    simp only [Option.bind_some]
    rw [wrap_succ (by omega)]
    exact gone_l0 l hl who d k (i + 1) _ (by omega) (by omega) hg
theorem LineGonePure (l : List S39) (who : Int) : tenancylaw14_LineGone.f 200 l who = some true := by
  unfold tenancylaw14_LineGone.f
  rw [begun_f 200 (by omega)]
  simp only [Option.bind_some, if_true]
  by_cases h : (l.length : Int) > 20
  · rw [if_pos h]
  · rw [if_neg h]
    exact gone_l0 l (by omega) who l.length 200 0 [] (by omega) (by omega) Good.nil
end Go.Proofs.Ytpdnekffippgdaa.L
