/- What net's functions and the reference's come to on rows of at most a thousand datagrams: plain facts about lists, no memory. -/
import Derived.Test.YtcbdkieconckdaaLx2
namespace Go.Proofs.Ytcbdkieconckdaa.L
open Go.RowKit Go.Proofs.YtcbdkieconckdaaW.PrintWords Go.Proofs.YtcbdkieconckdaaW.PrintLast Go.Proofs.YtcbdkieconckdaaW.PrintMore

theorem wrap_succ {i : Nat} (h : i < 1000000) : wrap64 ((i : Int) + 1) = ((i + 1 : Nat) : Int) := by
  unfold wrap64
  omega
theorem begun_f (k : Nat) : tenancylaw21_begun.f (k + 3) = some true := by
  induction k with
  | zero => kernel_rfl
  | succ k ih => exact tenancylaw21_begun.mono (k + 3) _ ih

def sendP (l : List S24) (g : S24) : List S24 := if 40 ≤ l.length then l else l ++ [g]
theorem send_f (l : List S24) (g : S24) (hl : l.length ≤ 1000) : net_Send.f l g.f0 g.f1 g.f2 = some (sendP l g) := by
  unfold net_Send.f
  rw [grams_Clone.eq l (by omega)]
  simp only [Option.bind_some]
  unfold sendP
  by_cases h : 40 ≤ l.length
  · rw [if_pos (by omega), if_pos h]
  · rw [if_neg (by omega), if_pos (by omega), if_neg h]
theorem refSend_f (l : List S24) (g : S24) (hl : l.length ≤ 1000) : tenancyref21_Send.f l g.f0 g.f1 g.f2 = some (sendP l g) := by
  unfold tenancyref21_Send.f
  simp only [Option.bind_some, List.length_nil, List.nil_append]
  unfold sendP
  rw [if_pos (by omega)]
  by_cases h : 40 ≤ l.length
  · rw [if_neg (by omega), if_pos h]
  · rw [if_pos (by omega), if_pos (by omega), if_neg h]
theorem there_f (l : List S24) (i : Int) : net_there.f l i = some (decide (0 ≤ i ∧ i < (l.length : Int))) := by
  unfold net_there.f
  by_cases h : i ≥ 0
  · rw [if_pos h]
    by_cases h2 : i < (l.length : Int) <;> simp [h, h2]
  · rw [if_neg h, decide_eq_false (by omega)]
def comesP (l : List S24) (i : Int) : List S24 × Int × ByteArray × Bool × Bool :=
  if 0 ≤ i ∧ i < (l.length : Int) then (l.eraseIdx i.toNat, (rd_T24 l i).f0, (rd_T24 l i).f1, (rd_T24 l i).f2, true) else (l, 0, (⟨#[]⟩ : ByteArray), false, false)
theorem comes_f (l : List S24) (i : Int) (hl : l.length ≤ 1000) : net_Comes.f l i = some (comesP l i) := by
  unfold net_Comes.f
  rw [grams_Clone.eq l (by omega)]
  simp only [Option.bind_some]
  rw [there_f]
  simp only [Option.bind_some]
  unfold comesP
  by_cases h : 0 ≤ i ∧ i < (l.length : Int)
  · have hw : wrap64 (i + 1) = i + 1 := by unfold wrap64; omega
    rw [if_pos (decide_eq_true h), if_pos h.1, if_pos h.2, if_pos h, hw]
    unfold grams_Delete.f
    rw [if_pos ⟨h.1, h.2, rfl⟩]
    rfl
  · rw [if_neg (by rw [decide_eq_false h]; simp), if_neg h]
theorem lost_f (l : List S24) (i : Int) (hl : l.length ≤ 1000) : net_Lost.f l i = some ((comesP l i).1, (comesP l i).2.2.2.2) := by
  unfold net_Lost.f
  rw [comes_f l i hl]
  rfl
theorem gone_f (l : List S24) (i : Int) (hl : l.length ≤ 1000) : ref_Gone.f l i = some (comesP l i) := by
  unfold ref_Gone.f comesP
  rw [if_pos (by omega)]
  by_cases h : 0 ≤ i ∧ i < (l.length : Int)
  · rw [if_pos h, if_pos h]
  · rw [if_neg h, if_neg h]
def twiceP (l : List S24) (i : Int) : List S24 × Bool := if (0 ≤ i ∧ i < (l.length : Int)) ∧ l.length < 40 then (l ++ [rd_T24 l i], true) else (l, false)
theorem twice_f (k : Nat) (l : List S24) (i : Int) (hl : l.length ≤ 1000) : net_Twice.f (k + 1) l i = some (twiceP l i) := by
  unfold net_Twice.f
  rw [there_f]
  simp only [Option.bind_some]
  unfold twiceP
  by_cases h : 0 ≤ i ∧ i < (l.length : Int)
  · rw [if_pos (decide_eq_true h)]
    simp only [net_Twice.j0]
    by_cases h4 : l.length < 40
    · rw [if_neg (by simp; omega), if_pos h.1, if_pos h.2, send_f l (rd_T24 l i) hl, if_pos ⟨h, h4⟩]
      unfold sendP
      rw [if_neg (by omega)]
      rfl
    · rw [if_pos (by simp; omega), grams_Clone.eq l (by omega), if_neg (fun h => h4 h.2)]
      rfl
  · rw [if_neg (by rw [decide_eq_false h]; simp), if_neg (fun x => h x.1)]
    simp only [net_Twice.j0]
    rw [if_pos trivial, grams_Clone.eq l (by omega)]
    rfl
theorem refTwice_f (l : List S24) (i : Int) (hl : l.length ≤ 1000) : tenancyref21_Twice.f l i = some (twiceP l i) := by
  unfold tenancyref21_Twice.f twiceP
  by_cases h0 : i < 0
  · rw [if_pos h0, if_neg (fun x => by omega)]
  rw [if_neg h0]
  by_cases h1 : i ≥ (l.length : Int)
  · rw [if_pos h1, if_neg (fun x => by omega)]
  rw [if_neg h1]
  by_cases h4 : (l.length : Int) ≥ 40
  · rw [if_pos h4, if_neg (fun x => by omega)]
  rw [if_neg h4, if_pos (by omega), if_pos (by omega), refSend_f l (rd_T24 l i) hl, if_pos ⟨⟨by omega, by omega⟩, by omega⟩]
  unfold sendP
  rw [if_neg (by omega)]
  rfl
def turnedP (l : List S24) (i a : Int) : List S24 × Bool :=
  if 0 ≤ i ∧ i < (l.length : Int) then (match turnsP (rd_T24 l i) a with | some g => (l.set i.toNat g, true) | none => (l, false)) else (l, false)
theorem turned_f (l : List S24) (i a : Int) (hl : l.length ≤ 1000) (ha : a ≤ 9223372036854775807) (hs : (rd_T24 l i).f1.size ≤ 1000000) : net_Turned.f l i a = some (turnedP l i a) := by
  unfold net_Turned.f turnedP
  rw [if_pos ⟨by omega, ha, hs⟩]
  by_cases h : 0 ≤ i ∧ i < (l.length : Int)
  · rw [if_pos h, if_pos h]
    cases turnsP (rd_T24 l i) a <;> rfl
  · rw [if_neg h, if_neg h]
theorem refTurned_f (l : List S24) (i a : Int) (hl : l.length ≤ 1000) (ha : a ≤ 9223372036854775807) (hs : (rd_T24 l i).f1.size ≤ 1000000) : ref_Turned.f l i a = some (turnedP l i a) := by
  unfold ref_Turned.f turnedP
  rw [if_pos ⟨by omega, ha, hs⟩]
  by_cases h : 0 ≤ i ∧ i < (l.length : Int)
  · rw [if_pos h, if_pos h]
    cases turnsP (rd_T24 l i) a <;> rfl
  · rw [if_neg h, if_neg h]
theorem same_l0 (l : List S24) (hl : l.length ≤ 1000) : ∀ d k i : Nat, i + d = l.length → d < k → tenancyref21_SameGrams.l0 k l l (i : Int) = some true
  | 0, k, i, hd, hk => by
    obtain ⟨k, rfl⟩ : ∃ m, k = m + 1 := ⟨k - 1, by omega⟩
    simp only [tenancyref21_SameGrams.l0]
    rw [if_neg (by omega)]
  | d + 1, k, i, hd, hk => by
    obtain ⟨k, rfl⟩ : ∃ m, k = m + 1 := ⟨k - 1, by omega⟩
    simp only [tenancyref21_SameGrams.l0]
    rw [if_pos (by omega), if_pos (by omega), if_pos (by omega), if_neg (by simp), wrap_succ (by omega)]
    exact same_l0 l hl d k (i + 1) (by omega) (by omega)
theorem same_f (l : List S24) (k : Nat) (hl : l.length ≤ 1000) (hk : l.length < k) : tenancyref21_SameGrams.f k l l = some true := by
  unfold tenancyref21_SameGrams.f
  rw [if_pos rfl]
  exact same_l0 l hl l.length k 0 (by omega) hk
end Go.Proofs.Ytcbdkieconckdaa.L
