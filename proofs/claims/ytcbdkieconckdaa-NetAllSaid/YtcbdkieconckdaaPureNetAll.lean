/- What NetAll comes to: net and the reference answer alike, on every deed. -/
import Derived.Test.YtcbdkieconckdaaLx3
import Derived.Test.YtcbdkieconckdaaPlain
namespace Go.Proofs.Ytcbdkieconckdaa.Pure
open Go.RowKit Go.Proofs.Ytcbdkieconckdaa.L Go.Proofs.YtcbdkieconckdaaW.PrintWords Go.Proofs.YtcbdkieconckdaaW.PrintLast

/-- There are never more than have room; no text is long. -/
def Fine (l : List S24) : Prop := l.length ≤ 40 ∧ ∀ x ∈ l, x.f1.size ≤ 40
theorem fine_nil : Fine [] := ⟨by simp, by simp⟩
theorem fine_rd {l : List S24} (h : Fine l) (i : Int) : (rd_T24 l i).f1.size ≤ 40 := by
  unfold rd_T24
  by_cases hi : i.toNat < l.length
  · rw [List.getD_eq_getElem?_getD, List.getElem?_eq_getElem hi]
    exact h.2 _ (List.getElem_mem hi)
  · rw [List.getD_eq_getElem?_getD, List.getElem?_eq_none (by omega)]
    exact Nat.zero_le _
theorem fine_send {l : List S24} (h : Fine l) {g : S24} (hg : g.f1.size ≤ 40) : Fine (sendP l g) := by
  unfold sendP
  by_cases h4 : 40 ≤ l.length
  · rw [if_pos h4]; exact h
  · rw [if_neg h4]
    refine ⟨by simp; omega, fun x hx => ?_⟩
    rcases List.mem_append.1 hx with hx | hx
    · exact h.2 x hx
    · obtain rfl := List.mem_singleton.1 hx; exact hg
theorem fine_comes {l : List S24} (h : Fine l) (i : Int) : Fine (comesP l i).1 := by
  unfold comesP
  by_cases hi : 0 ≤ i ∧ i < (l.length : Int)
  · rw [if_pos hi]
    exact ⟨Nat.le_trans (List.length_eraseIdx_le _ _) h.1, fun x hx => h.2 x (List.mem_of_mem_eraseIdx hx)⟩
  · rw [if_neg hi]; exact h
theorem fine_twice {l : List S24} (h : Fine l) (i : Int) : Fine (twiceP l i).1 := by
  unfold twiceP
  by_cases hi : (0 ≤ i ∧ i < (l.length : Int)) ∧ l.length < 40
  · rw [if_pos hi]
    refine ⟨by simp; omega, fun x hx => ?_⟩
    rcases List.mem_append.1 hx with hx | hx
    · exact h.2 x hx
    · obtain rfl := List.mem_singleton.1 hx; exact fine_rd h i
  · rw [if_neg hi]; exact h
theorem size_strOf (l : List Int) : (strOfNums l).size = l.length := by
  rw [← bytesOf_length]
  simp [bytesOf, strOfNums]
theorem turns_size {g g2 : S24} {a : Int} (h : turnsP g a = some g2) : g2.f1.size = g.f1.size := by
  unfold turnsP at h
  split at h
  · exact absurd h (by simp)
  · obtain rfl := Option.some.inj h
    simp only
    rw [size_strOf, List.length_set, bytesOf_length]
theorem fine_turned {l : List S24} (h : Fine l) (i a : Int) : Fine (turnedP l i a).1 := by
  unfold turnedP
  by_cases hi : 0 ≤ i ∧ i < (l.length : Int)
  · rw [if_pos hi]
    cases hg : turnsP (rd_T24 l i) a with
    | none => exact h
    | some g =>
      refine ⟨by simp; exact h.1, fun x hx => ?_⟩
      rcases List.mem_or_eq_of_mem_set hx with hx | rfl
      · exact h.2 x hx
      · rw [turns_size hg]; exact fine_rd h i
  · rw [if_neg hi]; exact h

section
variable (x0 : List S27) (x1 : Int) (g : S24) (hx : x0.length ≤ 70) (hw : x1 ≤ 9223372036854775807) (hg : g.f1.size ≤ 40)
include hx hw hg
theorem all_l0 : ∀ (d k i : Nat) (l : List S24), Fine l → i + d = x0.length → 60 * d + 1 ≤ k → tenancylaw21_NetAll.l0 k x0 x1 l l (i : Int) g.f0 g.f1 g.f2 = some true
  | 0, k, i, l, hI, hd, hk => by
    obtain ⟨k, rfl⟩ : ∃ m, k = m + 1 := ⟨k - 1, by omega⟩
    simp only [tenancylaw21_NetAll.l0]
    rw [if_neg (by omega)]
  | d + 1, k, i, l, hI, hd, hk => by
    obtain ⟨k, rfl⟩ : ∃ m, k = m + 8 := ⟨k - 8, by omega⟩
    have hln := hI.1
    have hi0 : 0 ≤ (i : Int) := by omega
    have hi1 : (i : Int) < (x0.length : Int) := by omega
    have h7 : ∀ (m : Nat) (l' : List S24) (p : Bool), Fine l' → k ≤ m → tenancylaw21_NetAll.j7 (m + 1) x0 x1 (i : Int) l' l' p p g.f0 g.f1 g.f2 = some true := by
      intro m l' p hl' hm
      simp only [tenancylaw21_NetAll.j7]
      rw [if_neg (by simp), same_f l' m (by have := hl'.1; omega) (by have := hl'.1; omega)]
      simp only [Option.bind_some]
      rw [if_pos trivial, wrap_succ (by omega)]
      exact all_l0 d m (i + 1) l' hl' (by omega) (by omega)
    have h4 : ∀ (m : Nat) (y : S24), y.f1.size ≤ 40 → k ≤ m → tenancylaw21_NetAll.j4 (m + 2) x0 x1 l l (i : Int) false false g.f0 g.f1 g.f2 y.f0 y.f1 y.f2 = some true := by
      intro m y hy hm
      simp only [tenancylaw21_NetAll.j4]
      rw [send_f l y (by omega), refSend_f l y (by omega)]
      simp only [Option.bind_some]
      exact h7 m _ false (fine_send hI hy) hm
    have h6 : ∀ (m : Nat) (n a : Int), a ≤ 9223372036854775807 → k ≤ m → tenancylaw21_NetAll.j6 (m + 2) x0 x1 l l (i : Int) n a g.f0 g.f1 g.f2 = some true := by
      intro m n a ha hm
      simp only [tenancylaw21_NetAll.j6]
      have hs := fine_rd hI (Int.tmod n 20)
      rw [turned_f l _ a (by omega) ha (by omega), refTurned_f l _ a (by omega) ha (by omega)]
      simp only [Option.bind_some]
      exact h7 m _ _ (fine_turned hI _ _) hm
    have h5 : ∀ (m : Nat) (n : Int) (c : Bool), k ≤ m → tenancylaw21_NetAll.j5 (m + 3) x0 x1 l l (i : Int) n c g.f0 g.f1 g.f2 = some true := by
      intro m n c hm
      simp only [tenancylaw21_NetAll.j5]
      cases c with
      | true =>
        rw [if_pos rfl, twice_f (m + 1) l _ (by omega), refTwice_f l _ (by omega)]
        simp only [Option.bind_some]
        exact h7 (m + 1) _ _ (fine_twice hI _) (by omega)
      | false =>
        rw [if_neg (by simp), if_pos hi0, if_pos hi1]
        split
        · exact h6 m n x1 hw hm
        · exact h6 m n _ (by unfold wrap64; omega) hm
    have h3 : ∀ (n u : Int) (c : Bool), tenancylaw21_NetAll.j3 (k + 6) x0 x1 l l (i : Int) n false false u c g.f0 g.f1 g.f2 = some true := by
      intro n u c
      simp only [tenancylaw21_NetAll.j3]
      cases c with
      | true =>
        rw [if_pos rfl, if_pos hi0, if_pos hi1]
        split
        · exact h4 (k + 3) g hg (by omega)
        · exact h4 (k + 3) ⟨_, strOfNums [(97 + (Int.tmod ((rd_T27 x0 (i : Int)).f3) 26)) % 256, 122], false⟩ (by show (strOfNums _).size ≤ 40; rw [size_strOf]; simp) (by omega)
      | false =>
        rw [if_neg (by simp)]
        split
        · rw [comes_f l _ (by omega), gone_f l _ (by omega)]
          simp only [Option.bind_some]
          rw [if_neg (by simp)]
          exact h7 (k + 4) _ _ (fine_comes hI _) (by omega)
        split
        · rw [lost_f l _ (by omega), gone_f l _ (by omega)]
          simp only [Option.bind_some]
          exact h7 (k + 4) _ _ (fine_comes hI _) (by omega)
        split
        · exact h5 (k + 2) n _ (by omega)
        · exact h5 (k + 2) n _ (by omega)
    have h2 : ∀ n : Int, tenancylaw21_NetAll.j2 (k + 7) x0 x1 l l (i : Int) n g.f0 g.f1 g.f2 = some true := by
      intro n
      simp only [tenancylaw21_NetAll.j2]
      rw [if_pos hi0, if_pos hi1]
      split
      · exact h3 _ _ _
      split
      · exact h3 _ _ _
      split
      · exact h3 _ _ _
      · exact h3 _ _ _
    simp only [tenancylaw21_NetAll.l0]
    rw [if_pos hi1, if_pos hi0]
    split
    · exact h2 _
    · exact h2 _
end
theorem NetAll (l0 : List S27) (a1 : Int) (g : S24) (hw : a1 ≤ 9223372036854775807) : tenancylaw21_NetAll.f 5000 l0 a1 g.f0 g.f1 g.f2 = some true := by
  unfold tenancylaw21_NetAll.f
  rw [begun_f 4997]
  simp only [Option.bind_some]
  rw [if_pos trivial]
  by_cases h0 : (l0.length : Int) > 70
  · rw [if_pos h0]
    simp only [tenancylaw21_NetAll.j0]
    rfl
  rw [if_neg h0]
  simp only [tenancylaw21_NetAll.j0]
  by_cases h1 : (g.f1.size : Int) > 40
  · rw [decide_eq_true h1, if_pos rfl]
  rw [decide_eq_false h1, if_neg (by simp)]
  exact all_l0 l0 a1 g (by omega) hw (by omega) l0.length 4999 0 [] fine_nil (by omega) (by omega)
end Go.Proofs.Ytcbdkieconckdaa.Pure
