/- What NetOrder comes to: what was sent is what came and what is still on its way. -/
import Derived.Test.YtcbdkieconckdaaLx6
import Derived.Test.YtcbdkieconckdaaPlain
namespace Go.Proofs.Ytcbdkieconckdaa.Pure
open Go.RowKit Go.Proofs.Ytcbdkieconckdaa.L Go.Proofs.YtcbdkieconckdaaW.PrintWords Go.Proofs.YtcbdkieconckdaaW.PrintLast

def cat (l : List S24) : List UInt8 := l.flatMap (fun x => x.f1.data.toList)
theorem app_data (a b : ByteArray) : (a ++ b).data.toList = a.data.toList ++ b.data.toList := by simp
theorem size1 (x : Int) : (strOfNums [x]).size = 1 := rfl
theorem size_cat {s c : ByteArray} {l : List S24} (h : s.data.toList = c.data.toList ++ cat l) : c.size + (cat l).length = s.size := by
  have := congrArg List.length h
  rw [List.length_append, data_length, data_length] at this
  omega
/-- What was sent is what came and what flies. -/
def Inv (n : Nat) (fly : List S24) (sent came : ByteArray) : Prop := fly.length ≤ n ∧ sent.size ≤ n ∧ sent.data.toList = came.data.toList ++ cat fly
theorem comes_nil : comesP [] 0 = ([], 0, (⟨#[]⟩ : ByteArray), false, false) := by
  unfold comesP
  rw [if_neg (by simp)]
theorem comes_cons (g : S24) (t : List S24) : comesP (g :: t) 0 = (t, g.f0, g.f1, g.f2, true) := by
  unfold comesP
  rw [if_pos ⟨by omega, by simp only [List.length_cons]; omega⟩]
  rfl
theorem order_l2 (n : Nat) (hn : n ≤ 39) (sent : ByteArray) : ∀ (d k i : Nat) (fly : List S24) (came : ByteArray), Inv n fly sent came → fly.length ≤ d → i + d ≤ 39 → 2 * d + 2 ≤ k → tenancylaw21_NetOrder.l2 k fly sent came (i : Int) = some true
  | 0, k, i, fly, came, hI, hd, hi, hk => by
    obtain ⟨k, rfl⟩ : ∃ m, k = m + 2 := ⟨k - 2, by omega⟩
    obtain rfl : fly = [] := List.length_eq_zero_iff.1 (by omega)
    simp only [tenancylaw21_NetOrder.l2]
    have he : came.toList = sent.toList := by
      rw [Go.Lib.toList_data, Go.Lib.toList_data, hI.2.2]
      simp [cat]
    rw [if_pos (by omega)]
    simp only [tenancylaw21_NetOrder.j5]
    rw [if_neg (by simp), if_pos he]
    rfl
  | d + 1, k, i, fly, came, hI, hd, hi, hk => by
    obtain ⟨k, rfl⟩ : ∃ m, k = m + 2 := ⟨k - 2, by omega⟩
    cases fly with
    | nil => exact order_l2 n hn sent 0 (k + 2) i [] came hI (by simp) (by omega) (by omega)
    | cons g t =>
      have hs := size_cat hI.2.2
      simp only [tenancylaw21_NetOrder.l2]
      rw [if_pos (by omega)]
      simp only [tenancylaw21_NetOrder.j5]
      have hl := hI.1
      have hss := hI.2.1
      simp only [List.length_cons] at hl hd
      rw [if_pos (by simp only [List.length_cons, decide_eq_true_eq]; omega), comes_f _ _ (by simp only [List.length_cons]; omega)]
      simp only [Option.bind_some, comes_cons]
      have hg : (cat (g :: t)).length = g.f1.size + (cat t).length := by
        show (g.f1.data.toList ++ cat t).length = _
        rw [List.length_append, data_length]
      rw [if_pos trivial, if_pos (by simp only [List.length_cons]; unfold wrap64; omega), if_pos (by omega), wrap_succ (by omega)]
      refine order_l2 n hn sent d k (i + 1) t _ ⟨by omega, hss, ?_⟩ (by omega) (by omega) (by omega)
      rw [app_data, hI.2.2]
      show _ ++ (g.f1.data.toList ++ cat t) = _
      rw [List.append_assoc]
theorem order_l1 (x0 x1 : List Int) (n i K : Nat) (hn : n ≤ 39) (hi : i < 1000) (sent : ByteArray)
    (H : ∀ fly came k, Inv n fly sent came → K ≤ k → tenancylaw21_NetOrder.l0 k x0 x1 fly sent came ((i + 1 : Nat) : Int) = some true) :
    ∀ (d k j : Nat) (fly : List S24) (came : ByteArray), Inv n fly sent came → j + d = 3 → K + 2 * d + 2 ≤ k → tenancylaw21_NetOrder.l1 k x0 x1 fly sent came (i : Int) (j : Int) = some true := by
  have hend : ∀ (k : Nat) (j : Int) (fly : List S24) (came : ByteArray), Inv n fly sent came → K ≤ k → tenancylaw21_NetOrder.j3 (k + 1) x0 x1 fly sent came (i : Int) j false = some true := by
    intro k j fly came hI hk
    simp only [tenancylaw21_NetOrder.j3]
    rw [if_neg (by simp), wrap_succ (by omega)]
    exact H fly came k hI hk
  intro d
  induction d with
  | zero =>
    intro k j fly came hI hj hk
    obtain ⟨k, rfl⟩ : ∃ m, k = m + 2 := ⟨k - 2, by omega⟩
    simp only [tenancylaw21_NetOrder.l1]
    by_cases h1 : (i : Int) < (x1.length : Int)
    · rw [if_pos h1, if_pos (by omega), decide_eq_false (by
        have h3 := Int.tmod_lt_of_pos (rd x1 (i : Int)) (by omega : (0 : Int) < 3)
        have h4 : -3 < Int.tmod (rd x1 (i : Int)) 3 := by
          have := Int.lt_tmod_of_pos (rd x1 (i : Int)) (by omega : (0 : Int) < 3)
          omega
        unfold wrap64
        omega)]
      exact hend k _ fly came hI (by omega)
    · rw [if_neg h1]
      exact hend k _ fly came hI (by omega)
  | succ d ih =>
    intro k j fly came hI hj hk
    obtain ⟨k, rfl⟩ : ∃ m, k = m + 2 := ⟨k - 2, by omega⟩
    have hyes : tenancylaw21_NetOrder.j3 (k + 1) x0 x1 fly sent came (i : Int) (j : Int) true = some true := by
      simp only [tenancylaw21_NetOrder.j3]
      rw [if_pos trivial, comes_f _ _ (by have := hI.1; omega)]
      simp only [Option.bind_some]
      have hs := size_cat hI.2.2
      have hss := hI.2.1
      cases fly with
      | nil =>
        simp only [comes_nil]
        rw [if_neg (by simp), if_pos (by show came.size + 0 ≤ _; omega), wrap_succ (by omega)]
        refine ih k (j + 1) [] _ ⟨hI.1, hss, ?_⟩ (by omega) (by omega)
        rw [app_data, hI.2.2]
        simp
      | cons g t =>
        have hg : (cat (g :: t)).length = g.f1.size + (cat t).length := by
          show (g.f1.data.toList ++ cat t).length = _
          rw [List.length_append, data_length]
        have hl := hI.1
        simp only [List.length_cons] at hl
        simp only [comes_cons]
        rw [if_neg (by simp only [List.length_cons]; rw [decide_eq_true (by omega)]; simp), if_pos (by omega), wrap_succ (by omega)]
        refine ih k (j + 1) t _ ⟨by omega, hss, ?_⟩ (by omega) (by omega)
        rw [app_data, hI.2.2]
        show _ ++ (g.f1.data.toList ++ cat t) = _
        rw [List.append_assoc]
    simp only [tenancylaw21_NetOrder.l1]
    by_cases h1 : (i : Int) < (x1.length : Int)
    · rw [if_pos h1, if_pos (by omega)]
      cases decide ((j : Int) < wrap64 (Int.tmod (rd x1 (i : Int)) 3)) with
      | true => exact hyes
      | false => exact hend k _ fly came hI (by omega)
    · rw [if_neg h1]
      exact hend k _ fly came hI (by omega)
theorem inv_mono {n m : Nat} {fly : List S24} {s c : ByteArray} (h : Inv n fly s c) (hm : n ≤ m) : Inv m fly s c := ⟨Nat.le_trans h.1 hm, Nat.le_trans h.2.1 hm, h.2.2⟩
theorem order_l0 (x0 x1 : List Int) (hx : x0.length ≤ 35) : ∀ (d k i : Nat) (fly : List S24) (sent came : ByteArray), Inv i fly sent came → i + d = x0.length → 11 * d + 100 ≤ k → tenancylaw21_NetOrder.l0 k x0 x1 fly sent came (i : Int) = some true
  | 0, k, i, fly, sent, came, hI, hd, hk => by
    obtain ⟨k, rfl⟩ : ∃ m, k = m + 1 := ⟨k - 1, by omega⟩
    simp only [tenancylaw21_NetOrder.l0]
    rw [if_neg (by omega)]
    exact order_l2 i (by omega) sent 39 k 0 fly came hI (by have := hI.1; omega) (by omega) (by omega)
  | d + 1, k, i, fly, sent, came, hI, hd, hk => by
    obtain ⟨k, rfl⟩ : ∃ m, k = m + 1 := ⟨k - 1, by omega⟩
    simp only [tenancylaw21_NetOrder.l0]
    rw [if_pos (by omega), if_pos (by omega)]
    simp only [Option.bind_some]
    generalize (97 + Int.tmod (rd x0 (i : Int)) 26) % 256 = y
    have h1 := hI.1
    have h2 := hI.2.1
    rw [send_f fly ⟨1, strOfNums [y], false⟩ (by omega)]
    simp only [Option.bind_some]
    rw [if_pos (by rw [size1]; omega)]
    unfold sendP
    rw [if_neg (by omega)]
    refine order_l1 x0 x1 (i + 1) i (11 * d + 100) (by omega) (by omega) (sent ++ strOfNums [y]) (fun fly' came' k' hI' hk' => order_l0 x0 x1 hx d k' (i + 1) fly' _ came' hI' (by omega) hk') 3 k 0 _ came ⟨by simp; omega, ?_, ?_⟩ (by omega) (by omega)
    · have := congrArg List.length (app_data sent (strOfNums [y]))
      rw [List.length_append, data_length, data_length, data_length, size1] at this
      omega
    · rw [app_data, hI.2.2]
      simp [cat]
theorem NetOrder : tenancylaw21_NetOrder.Pure := by
  intro l0 l1 _ _ _ _ _ _
  refine ⟨600, ?_⟩
  unfold tenancylaw21_NetOrder.f
  rw [begun_f 597]
  simp only [Option.bind_some]
  rw [if_pos trivial]
  by_cases h0 : (l0.length : Int) > 35
  · rw [if_pos h0]
    simp only [tenancylaw21_NetOrder.j0]
    rfl
  rw [if_neg h0]
  simp only [tenancylaw21_NetOrder.j0]
  by_cases h1 : (l1.length : Int) > 35
  · rw [decide_eq_true h1, if_pos rfl]
  rw [decide_eq_false h1, if_neg (by simp)]
  exact order_l0 l0 l1 (by omega) l0.length 599 0 [] ⟨#[]⟩ ⟨#[]⟩ ⟨by simp, by exact Nat.le_refl 0, rfl⟩ (by omega) (by omega)
end Go.Proofs.Ytcbdkieconckdaa.Pure
