/- What NetMade comes to: each datagram on its way is near one that was sent. -/
import Derived.Test.YtcbdkieconckdaaLx5
import Derived.Test.YtcbdkieconckdaaPlain
import Derived.Laws.BitsLemmas
namespace Go.Proofs.Ytcbdkieconckdaa.Pure
open Go.RowKit Go.Proofs.Ytcbdkieconckdaa.L Go.Proofs.YtcbdkieconckdaaW.PrintWords Go.Proofs.YtcbdkieconckdaaW.PrintLast

/-! ### in how many bytes two texts differ -/
def cnt (a b : ByteArray) : Nat → Nat → Nat
  | _, 0 => 0
  | i, d + 1 => (if bt a (i : Int) = bt b (i : Int) then 0 else 1) + cnt a b (i + 1) d
def apartP (a b : ByteArray) : Int := if a.size = b.size then ((cnt a b 0 a.size : Nat) : Int) else 9
theorem apart_l0 (a b : ByteArray) (hs : a.size = b.size) (hl : a.size ≤ 1000) : ∀ d k i acc : Nat, i + d = a.size → acc ≤ i → d < k → tenancylaw21_apart.l0 k a b (acc : Int) (i : Int) = some ((acc + cnt a b i d : Nat) : Int)
  | 0, k, i, acc, hd, ha, hk => by
    obtain ⟨k, rfl⟩ : ∃ m, k = m + 1 := ⟨k - 1, by omega⟩
    simp only [tenancylaw21_apart.l0]
    rw [if_neg (by omega)]
    rfl
  | d + 1, k, i, acc, hd, ha, hk => by
    obtain ⟨k, rfl⟩ : ∃ m, k = m + 1 := ⟨k - 1, by omega⟩
    simp only [tenancylaw21_apart.l0]
    rw [if_pos (by omega), if_pos (by omega), if_pos (by omega)]
    by_cases h : bt a (i : Int) = bt b (i : Int)
    · rw [if_pos h, wrap_succ (by omega), apart_l0 a b hs hl d k (i + 1) acc (by omega) (by omega) (by omega)]
      simp only [cnt, if_pos h, Nat.zero_add]
    · rw [if_neg h, wrap_succ (by omega), wrap_succ (by omega), apart_l0 a b hs hl d k (i + 1) (acc + 1) (by omega) (by omega) (by omega)]
      simp only [cnt, if_neg h]
      rw [Nat.add_assoc]
theorem apart_f (a b : ByteArray) (k : Nat) (hl : a.size ≤ 1000) (hk : a.size < k) : tenancylaw21_apart.f k a b = some (apartP a b) := by
  unfold tenancylaw21_apart.f apartP
  by_cases h : a.size = b.size
  · rw [if_pos (by omega), if_pos h]
    have := apart_l0 a b h hl a.size k 0 0 (by omega) (by omega) hk
    rw [Nat.zero_add] at this
    exact this
  · rw [if_neg (by omega), if_neg h]
theorem cnt_self (a : ByteArray) : ∀ d i : Nat, cnt a a i d = 0
  | 0, _ => rfl
  | d + 1, i => by
    simp only [cnt, if_true, Nat.zero_add]
    exact cnt_self a d (i + 1)
theorem apart_self (a : ByteArray) : apartP a a = 0 := by
  unfold apartP
  rw [if_pos rfl, cnt_self]
  rfl
theorem cnt_zero (a b : ByteArray) : ∀ d i : Nat, cnt a b i d = 0 → ∀ j, i ≤ j → j < i + d → bt a (j : Int) = bt b (j : Int)
  | 0, i, _, j, h1, h2 => by omega
  | d + 1, i, h, j, h1, h2 => by
    simp only [cnt] at h
    by_cases hi : bt a (i : Int) = bt b (i : Int)
    · rw [if_pos hi] at h
      by_cases hj : j = i
      · subst hj; exact hi
      · exact cnt_zero a b d (i + 1) (by omega) j (by omega) (by omega)
    · rw [if_neg hi] at h
      omega
theorem cnt_one (a b : ByteArray) (m : Nat) (hm : ¬ bt a (m : Int) = bt b (m : Int)) : ∀ d i : Nat, (∀ j, i ≤ j → j < i + d → j ≠ m → bt a (j : Int) = bt b (j : Int)) → cnt a b i d = if i ≤ m ∧ m < i + d then 1 else 0
  | 0, i, _ => by
    rw [if_neg (by omega)]
    rfl
  | d + 1, i, h => by
    simp only [cnt]
    rw [cnt_one a b m hm d (i + 1) (fun j h1 h2 h3 => h j (by omega) (by omega) h3)]
    by_cases hi : i = m
    · subst hi
      rw [if_neg hm, if_neg (by omega), if_pos (by omega)]
    · rw [if_pos (h i (by omega) (by omega) hi), Nat.zero_add]
      by_cases h2 : i + 1 ≤ m ∧ m < i + 1 + d
      · rw [if_pos h2, if_pos (by omega)]
      · rw [if_neg h2, if_neg (by omega)]

/-! ### one byte turned -/
theorem xor_ne (x y : Nat) (hy : y ≠ 0) : x ^^^ y ≠ x := by
  intro e
  have : (x ^^^ y) ^^^ x = 0 := by rw [e, Nat.xor_self]
  rw [Nat.xor_comm x y, Nat.xor_assoc, Nat.xor_self, Nat.xor_zero] at this
  exact hy this
theorem bits_xor_u8_nat (a b : Nat) (ha : a < 256) (hb : b < 256) : Go.bits .xor .u8 (a : Int) (b : Int) = ((a ^^^ b : Nat) : Int) := by
  have hx : a ^^^ b < 2 ^ 8 := Nat.xor_lt_two_pow (by omega) (by omega)
  have h1 : (BitVec.ofInt 8 (a : Int)).toNat = a := by
    rw [BitVec.ofInt_natCast, BitVec.toNat_ofNat]; exact Nat.mod_eq_of_lt (by omega)
  have h2 : (BitVec.ofInt 8 (b : Int)).toNat = b := by
    rw [BitVec.ofInt_natCast, BitVec.toNat_ofNat]; exact Nat.mod_eq_of_lt (by omega)
  show IntKind.u8.wrap ((BitVec.ofInt 8 (a : Int) ^^^ BitVec.ofInt 8 (b : Int)).toNat : Int) = _
  rw [BitVec.toNat_xor, h1, h2, IntKind.wrap_u8]
  omega
theorem size_strOf (l : List Int) : (strOfNums l).size = l.length := strOfNums_size l
theorem bytesOf_strOf (l : List Int) (h : ∀ x ∈ l, 0 ≤ x ∧ x ≤ 255) : bytesOf (strOfNums l) = l := by
  unfold bytesOf
  rw [strOfNums_data, List.map_map]
  apply List.ext_getElem?
  intro i
  rw [List.getElem?_map]
  cases hx : l[i]? with
  | none => rfl
  | some x =>
    have := h x (List.mem_of_getElem? hx)
    show some (((UInt8.ofNat x.toNat).toNat : Nat) : Int) = some x
    congr 1
    rw [UInt8.toNat_ofNat']
    omega
theorem bytesOf_range (s : ByteArray) : ∀ x ∈ bytesOf s, 0 ≤ x ∧ x ≤ 255 := by
  intro x hx
  unfold bytesOf at hx
  obtain ⟨b, _, rfl⟩ := List.mem_map.1 hx
  have := b.toNat_lt
  omega
theorem turn_bytes (s : ByteArray) (m : Nat) (v : Int) (hm : m < s.size) (hv : 0 ≤ v ∧ v ≤ 255) (j : Nat) : bt (strOfNums ((bytesOf s).set m v)) (j : Int) = if j = m then v else bt s (j : Int) := by
  rw [← rd_bytesOf, bytesOf_strOf _ (fun x hx => by
    rcases List.mem_or_eq_of_mem_set hx with hx | rfl
    · exact bytesOf_range s x hx
    · exact hv), ← rd_bytesOf]
  unfold rd
  rw [Int.toNat_natCast, List.getD_eq_getElem?_getD, List.getD_eq_getElem?_getD, List.getElem?_set]
  by_cases h : m = j
  · subst h
    rw [if_pos rfl, if_pos rfl, if_pos (by rw [bytesOf_length]; exact hm)]
    rfl
  · rw [if_neg h, if_neg (fun e => h e.symm)]

/-! ### near -/
def Near (sent : List S24) (g : S24) : Prop := g.f0 = 2 ∧ g.f1.size ≤ 3 ∧ ∃ s ∈ sent, apartP g.f1 s.f1 = if g.f2 = true then 1 else 0
theorem near_turns {sent : List S24} {g g2 : S24} {a : Int} (h : Near sent g) (ht : turnsP g a = some g2) : Near sent g2 := by
  unfold turnsP at ht
  split at ht
  · exact absurd ht (by simp)
  rename_i hc
  obtain rfl := Option.some.inj ht
  have hf : g.f2 = false := by cases hf : g.f2 with | true => exact absurd (Or.inl hf) hc | false => rfl
  obtain ⟨h0, h3, s, hs, hap⟩ := h
  rw [hf] at hap
  simp only [Bool.false_eq_true, if_false] at hap
  have hsz : 0 < g.f1.size := Nat.pos_of_ne_zero fun e => hc (.inr (.inl e))
  have ha0 : 0 ≤ a := Int.not_lt.1 fun e => hc (.inr (.inr (.inl e)))
  have ha1 : a % 256 ≠ 0 := fun e => hc (.inr (.inr (.inr e)))
  unfold apartP at hap
  by_cases he : g.f1.size = s.f1.size
  case neg => rw [if_neg he] at hap; omega
  rw [if_pos he] at hap
  have hz := cnt_zero g.f1 s.f1 g.f1.size 0 (by omega)
  obtain ⟨m, hm⟩ : ∃ m : Nat, a / 256 % (g.f1.size : Int) = (m : Int) := ⟨(a / 256 % (g.f1.size : Int)).toNat, by have := Int.emod_nonneg (a / 256) (by omega : (g.f1.size : Int) ≠ 0); omega⟩
  have hmlt : m < g.f1.size := by have := Int.emod_lt_of_pos (a / 256) (by omega : (0 : Int) < (g.f1.size : Int)); omega
  rw [hm, Int.toNat_natCast]
  obtain ⟨hb0, hb1⟩ := bt_range g.f1 (m : Int)
  obtain ⟨x, hx⟩ : ∃ x : Nat, bt g.f1 (m : Int) = (x : Int) := ⟨(bt g.f1 (m : Int)).toNat, by omega⟩
  obtain ⟨y, hy⟩ : ∃ y : Nat, a % 256 = (y : Int) := ⟨(a % 256).toNat, by omega⟩
  rw [hx, hy, bits_xor_u8_nat x y (by omega) (by omega)]
  have hne := xor_ne x y (by omega)
  have hlt : x ^^^ y < 2 ^ 8 := Nat.xor_lt_two_pow (by omega) (by omega)
  have hvr : (0 : Int) ≤ ((x ^^^ y : Nat) : Int) ∧ ((x ^^^ y : Nat) : Int) ≤ 255 := by omega
  have hsize : (strOfNums ((bytesOf g.f1).set m ((x ^^^ y : Nat) : Int))).size = g.f1.size := by rw [size_strOf, List.length_set, bytesOf_length]
  refine ⟨h0, by rw [hsize]; exact h3, s, hs, ?_⟩
  simp only [if_true]
  unfold apartP
  rw [hsize, if_pos he, cnt_one _ _ m (by
    rw [turn_bytes g.f1 m _ hmlt hvr, if_pos rfl, ← hz m (by omega) (by omega), hx]
    omega) _ _ (fun j _ h2 h3 => by
      rw [turn_bytes g.f1 m _ hmlt hvr, if_neg h3]
      exact hz j (by omega) (by omega)), if_pos (by omega)]
  rfl
/-- There are never more than have room; each is near one that was sent. -/
def Made (n : Nat) (fly sent : List S24) : Prop := fly.length ≤ 40 ∧ sent.length ≤ n ∧ ∀ g ∈ fly, Near sent g
theorem near_rd {n : Nat} {fly sent : List S24} (h : Made n fly sent) (i : Int) (h0 : 0 ≤ i) (h1 : i < (fly.length : Int)) : Near sent (rd_T24 fly i) := by
  unfold rd_T24
  rw [List.getD_eq_getElem?_getD, List.getElem?_eq_getElem (by omega)]
  exact h.2.2 _ (List.getElem_mem _)
theorem made_comes {n : Nat} {fly sent : List S24} (h : Made n fly sent) (i : Int) : Made n (comesP fly i).1 sent := by
  unfold comesP
  by_cases hi : 0 ≤ i ∧ i < (fly.length : Int)
  · rw [if_pos hi]
    exact ⟨Nat.le_trans (List.length_eraseIdx_le _ _) h.1, h.2.1, fun x hx => h.2.2 x (List.mem_of_mem_eraseIdx hx)⟩
  · rw [if_neg hi]; exact h
theorem made_twice {n : Nat} {fly sent : List S24} (h : Made n fly sent) (i : Int) : Made n (twiceP fly i).1 sent := by
  unfold twiceP
  by_cases hi : (0 ≤ i ∧ i < (fly.length : Int)) ∧ fly.length < 40
  · rw [if_pos hi]
    refine ⟨by simp; omega, h.2.1, fun x hx => ?_⟩
    rcases List.mem_append.1 hx with hx | hx
    · exact h.2.2 x hx
    · obtain rfl := List.mem_singleton.1 hx; exact near_rd h i hi.1.1 hi.1.2
  · rw [if_neg hi]; exact h
theorem made_turned {n : Nat} {fly sent : List S24} (h : Made n fly sent) (i a : Int) : Made n (turnedP fly i a).1 sent := by
  unfold turnedP
  by_cases hi : 0 ≤ i ∧ i < (fly.length : Int)
  · rw [if_pos hi]
    cases hg : turnsP (rd_T24 fly i) a with
    | none => exact h
    | some g =>
      refine ⟨by simp; exact h.1, h.2.1, fun x hx => ?_⟩
      rcases List.mem_or_eq_of_mem_set hx with hx | rfl
      · exact h.2.2 x hx
      · exact near_turns (near_rd h i hi.1 hi.2) hg
  · rw [if_neg hi]; exact h
theorem near_more {sent : List S24} {g : S24} (h : Near sent g) (x : S24) : Near (sent ++ [x]) g := by
  obtain ⟨h0, h3, s, hs, hap⟩ := h
  exact ⟨h0, h3, s, List.mem_append_left _ hs, hap⟩
theorem made_send {n : Nat} {fly sent : List S24} (h : Made n fly sent) (s : ByteArray) (hs : s.size ≤ 3) : Made (n + 1) (sendP fly ⟨2, s, false⟩) (sent ++ [⟨2, s, false⟩]) := by
  unfold sendP
  have h2 : (sent ++ [(⟨2, s, false⟩ : S24)]).length ≤ n + 1 := by have := h.2.1; simp; exact this
  by_cases h4 : 40 ≤ fly.length
  · rw [if_pos h4]
    exact ⟨h.1, h2, fun x hx => near_more (h.2.2 x hx) _⟩
  · rw [if_neg h4]
    refine ⟨by simp; omega, h2, fun x hx => ?_⟩
    rcases List.mem_append.1 hx with hx | hx
    · exact near_more (h.2.2 x hx) _
    · obtain rfl := List.mem_singleton.1 hx
      exact ⟨rfl, hs, _, List.mem_append_right _ (List.mem_singleton.2 rfl), by rw [apart_self]; rfl⟩
theorem fly_small {n : Nat} {fly sent : List S24} (h : Made n fly sent) (i : Int) : (rd_T24 fly i).f1.size ≤ 3 := by
  unfold rd_T24
  by_cases hi : i.toNat < fly.length
  · rw [List.getD_eq_getElem?_getD, List.getElem?_eq_getElem hi]
    exact (h.2.2 _ (List.getElem_mem hi)).2.1
  · rw [List.getD_eq_getElem?_getD, List.getElem?_eq_none (by omega)]
    exact Nat.zero_le _

/-! ### the rounds -/
section
variable (x0 : List S27) (fly sent : List S24) (n i : Nat) (hM : Made n fly sent) (hn : n ≤ 70) (hi : i ≤ 1000)
set_option linter.unusedSectionVars false
include hM hn hi
/-- One datagram against all that were sent. -/
theorem made_l2 (p : Nat) (hp : p < fly.length) (K : Nat) (H : ∀ k, K ≤ k → tenancylaw21_NetMade.l1 k x0 fly sent (i : Int) ((p + 1 : Nat) : Int) = some true) :
    ∀ (d k j : Nat) (near : Bool), j + d = sent.length → K + d + 10 ≤ k → (near = true ∨ ∃ m, j ≤ m ∧ m < sent.length ∧ apartP (rd_T24 fly (p : Int)).f1 (rd_T24 sent (m : Int)).f1 = if (rd_T24 fly (p : Int)).f2 = true then 1 else 0) →
      tenancylaw21_NetMade.l2 k x0 fly sent (i : Int) (p : Int) near (if (rd_T24 fly (p : Int)).f2 = true then 1 else 0) (j : Int) = some true
  | 0, k, j, near, hj, hk, hor => by
    obtain ⟨k, rfl⟩ : ∃ m, k = m + 1 := ⟨k - 1, by omega⟩
    simp only [tenancylaw21_NetMade.l2]
    rw [if_neg (by omega)]
    rcases hor with h | ⟨m, h1, h2, _⟩
    · have := hM.1
      rw [if_pos h, wrap_succ (by omega)]
      exact H k (by omega)
    · omega
  | d + 1, k, j, near, hj, hk, hor => by
    obtain ⟨k, rfl⟩ : ∃ m, k = m + 1 := ⟨k - 1, by omega⟩
    have hsl := hM.2.1
    have hN := near_rd hM (p : Int) (by omega) (by omega)
    have hs3 := fly_small hM (p : Int)
    simp only [tenancylaw21_NetMade.l2]
    rw [if_pos (by omega)]
    by_cases hnr : near = true
    · rw [if_pos hnr, wrap_succ (by omega)]
      exact made_l2 p hp K H d k (j + 1) true (by omega) (by omega) (.inl rfl)
    · rw [if_neg hnr, if_pos (by omega), if_pos (by omega), if_pos (by omega), apart_f _ _ k (by omega) (by omega)]
      simp only [Option.bind_some]
      by_cases hap : apartP (rd_T24 fly (p : Int)).f1 (rd_T24 sent (j : Int)).f1 = if (rd_T24 fly (p : Int)).f2 = true then 1 else 0
      · rw [if_pos hap, wrap_succ (by omega)]
        exact made_l2 p hp K H d k (j + 1) _ (by omega) (by omega) (.inl (by rw [hN.1]; rfl))
      · rw [if_neg hap, wrap_succ (by omega)]
        refine made_l2 p hp K H d k (j + 1) false (by omega) (by omega) (.inr ?_)
        rcases hor with h | ⟨m, h1, h2, h3⟩
        · exact absurd h hnr
        · refine ⟨m, ?_, h2, h3⟩
          rcases Nat.lt_or_ge j m with h | h
          · exact h
          · have : m = j := by omega
            subst this
            exact absurd h3 hap
theorem made_l1 (K : Nat) (H : ∀ k, K ≤ k → tenancylaw21_NetMade.l0 k x0 fly sent ((i + 1 : Nat) : Int) = some true) :
    ∀ (d k p : Nat), p + d = fly.length → K + 90 * d + 1 ≤ k → tenancylaw21_NetMade.l1 k x0 fly sent (i : Int) (p : Int) = some true
  | 0, k, p, hp, hk => by
    obtain ⟨k, rfl⟩ : ∃ m, k = m + 1 := ⟨k - 1, by omega⟩
    simp only [tenancylaw21_NetMade.l1]
    rw [if_neg (by omega), wrap_succ (by omega)]
    exact H k (by omega)
  | d + 1, k, p, hp, hk => by
    obtain ⟨k, rfl⟩ : ∃ m, k = m + 2 := ⟨k - 2, by omega⟩
    have hsl := hM.2.1
    obtain ⟨_, _, s, hs, hap⟩ := near_rd hM (p : Int) (by omega) (by omega)
    obtain ⟨m, hm, rfl⟩ := List.getElem_of_mem hs
    have hre : rd_T24 sent (m : Int) = sent[m] := by
      unfold rd_T24
      rw [Int.toNat_natCast, List.getD_eq_getElem?_getD, List.getElem?_eq_getElem hm]
      rfl
    have h2 := made_l2 x0 fly sent n i hM hn hi p (by omega) (K + 90 * d + 1) (fun k hk => made_l1 K H d k (p + 1) (by omega) hk) sent.length k 0 false (by omega) (by omega) (.inr ⟨m, by omega, hm, by rw [hre]; exact hap⟩)
    simp only [tenancylaw21_NetMade.l1]
    rw [if_pos (by omega), if_pos (by omega)]
    by_cases hf : (rd_T24 fly (p : Int)).f2 = true
    · rw [if_pos hf] at h2 ⊢
      simp only [tenancylaw21_NetMade.j4]
      exact h2
    · rw [if_neg hf] at h2 ⊢
      simp only [tenancylaw21_NetMade.j4]
      exact h2
theorem made_j2 (K : Nat) (H : ∀ k, K ≤ k → tenancylaw21_NetMade.l0 k x0 fly sent ((i + 1 : Nat) : Int) = some true) (k : Nat) (hk : K + 3700 ≤ k) : tenancylaw21_NetMade.j2 k x0 fly sent (i : Int) = some true := by
  obtain ⟨k, rfl⟩ : ∃ m, k = m + 1 := ⟨k - 1, by omega⟩
  have := hM.1
  simp only [tenancylaw21_NetMade.j2]
  rw [if_neg (by omega)]
  exact made_l1 x0 fly sent n i hM hn hi K H fly.length k 0 (by omega) (by omega)
end
theorem made_mono {n m : Nat} {fly sent : List S24} (h : Made n fly sent) (hm : n ≤ m) : Made m fly sent := ⟨h.1, Nat.le_trans h.2.1 hm, h.2.2⟩
theorem made_l0 (x0 : List S27) (hx : x0.length ≤ 70) : ∀ (d k i : Nat) (fly sent : List S24), Made i fly sent → i + d = x0.length → 3800 * d + 1 ≤ k → tenancylaw21_NetMade.l0 k x0 fly sent (i : Int) = some true
  | 0, k, i, fly, sent, hM, hd, hk => by
    obtain ⟨k, rfl⟩ : ∃ m, k = m + 1 := ⟨k - 1, by omega⟩
    simp only [tenancylaw21_NetMade.l0]
    rw [if_neg (by omega)]
  | d + 1, k, i, fly, sent, hM, hd, hk => by
    obtain ⟨k, rfl⟩ : ∃ m, k = m + 3 := ⟨k - 3, by omega⟩
    have hfl := hM.1
    have hsl := hM.2.1
    have h2 : ∀ fly' sent', Made (i + 1) fly' sent' → tenancylaw21_NetMade.j2 (k + 1) x0 fly' sent' (i : Int) = some true := by
      intro fly' sent' hM'
      exact made_j2 x0 fly' sent' (i + 1) i hM' (by omega) (by omega) (3800 * d + 1) (fun k hk => made_l0 x0 hx d k (i + 1) fly' sent' hM' (by omega) hk) (k + 1) (by omega)
    have h1 : ∀ (n u : Int) (c : Bool), tenancylaw21_NetMade.j1 (k + 2) x0 fly sent (i : Int) n u c = some true := by
      intro n u c
      simp only [tenancylaw21_NetMade.j1]
      cases c with
      | true =>
        rw [if_pos rfl]
        simp only [Option.bind_some]
        generalize hy : ([(97 + ((Int.tmod (i : Int) 26) % 256)) % 256, (97 + ((wrap64 (Int.tdiv (i : Int) 26)) % 256)) % 256, 122] : List Int) = y
        have hsz : (strOfNums y).size ≤ 3 := by rw [size_strOf, ← hy]; simp
        rw [send_f fly ⟨2, strOfNums y, false⟩ (by omega)]
        simp only [Option.bind_some]
        have hms := made_send hM (strOfNums y) hsz
        rw [if_pos (by simp; omega), if_pos (by
          unfold sendP mn wrap64
          by_cases h4 : 40 ≤ fly.length
          · rw [if_pos h4]
            split <;> omega
          · rw [if_neg h4, List.length_append]
            simp only [List.length_cons, List.length_nil]
            split <;> omega)]
        exact h2 _ _ hms
      | false =>
        rw [if_neg (by simp)]
        split
        · rw [comes_f fly _ (by omega)]
          simp only [Option.bind_some]
          exact h2 _ _ (made_mono (made_comes hM _) (by omega))
        split
        · rw [lost_f fly _ (by omega)]
          simp only [Option.bind_some]
          exact h2 _ _ (made_mono (made_comes hM _) (by omega))
        split
        · rw [twice_f k fly _ (by omega)]
          simp only [Option.bind_some]
          exact h2 _ _ (made_mono (made_twice hM _) (by omega))
        · have hs := fly_small hM n
          rw [if_pos (by omega), if_pos (by omega), turned_f fly _ _ (by omega) (by unfold wrap64; omega) (by omega)]
          simp only [Option.bind_some]
          exact h2 _ _ (made_mono (made_turned hM _ _) (by omega))
    simp only [tenancylaw21_NetMade.l0]
    rw [if_pos (by omega), if_pos (by omega)]
    split
    · exact h1 _ _ _
    split
    · exact h1 _ _ _
    · exact h1 _ _ _
theorem NetMade (l0 : List S27) : tenancylaw21_NetMade.f 300000 l0 = some true := by
  unfold tenancylaw21_NetMade.f
  rw [begun_f 299997]
  simp only [Option.bind_some]
  rw [if_pos trivial]
  by_cases h0 : (l0.length : Int) > 70
  · rw [if_pos h0]
  rw [if_neg h0]
  exact made_l0 l0 (by omega) l0.length 300000 0 [] [] ⟨by simp, by simp, by simp⟩ (by omega) (by omega)
end Go.Proofs.Ytcbdkieconckdaa.Pure
