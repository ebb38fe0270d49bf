/- OpsJoins as a plain fact: what two rows of steps say is said by their bytes, one behind the other, and by nothing between. No conditions beyond the law's own. -/
import Derived.Test.YthpehiecmgipmaaLx5
import Derived.Test.YthpehiecmgipmaaPlain
namespace Go.Proofs.Ythpehiecmgipmaa.Pure
set_option linter.unusedSimpArgs false
set_option linter.unusedVariables false
open Go.RowKit Go.Proofs.Ythpehiecmgipmaa.L Go.Proofs.YthpehiecmgipmaaW.PrintWords Go.Proofs.YthpehiecmgipmaaW.PrintLast
theorem wf_u8 {x : Int} (h : (Lit.int .u8 x).wf = true) : 0 ≤ x ∧ x < 256 := by
  simp [Lit.wf, IntKind.min, IntKind.max, IntKind.bits, IntKind.signed] at h
  omega
theorem strOf_app (a b : List Int) : (strOfNums (a ++ b)).toList = (strOfNums a ++ strOfNums b).toList := by
  rw [Go.Lib.toList_data, Go.Lib.toList_data, ByteArray.data_append, Array.toList_append, strOfNums_data, strOfNums_data, strOfNums_data, List.map_append]
def zs (i : Nat) : List Int := (List.range i).map fun (j : Nat) => 15 * (j : Int)
theorem zs_succ (i : Nat) : zs (i + 1) = zs i ++ [15 * (i : Int)] := by unfold zs; rw [List.range_succ, List.map_append]; rfl
theorem zs_len (i : Nat) : (zs i).length = i := by unfold zs; simp
theorem zs_15 (i : Nat) : ∀ x ∈ zs i, x % 15 = 0 := by
  intro x hx
  obtain ⟨j, _, rfl⟩ := List.mem_map.1 hx
  omega
theorem zs_bytes (i : Nat) (h : i ≤ 9) : inBytes (zs i) := by
  intro x hx
  obtain ⟨j, hj, rfl⟩ := List.mem_map.1 hx
  rw [List.mem_range] at hj
  constructor <;> omega
theorem join_loop (a2 : Int) (n : Nat) (hn : wrap64 (Int.tmod a2 9) = (n : Int)) (hn9 : n ≤ 8) (L M : List S27) (hL : ∀ s ∈ L, WF s) (hM : ∀ s ∈ M, WF s) (hl : L.length ≤ 100) (hm : M.length ≤ 100) :
    ∀ (d i : Nat), i + d = n → Ev (fun k => tenancylaw25_OpsJoins.l0 k a2 (L ++ M) (encL L) (encL M) (encL L ++ zs i) (i : Int)) true
  | 0, i, h => by
    obtain rfl : i = n := by omega
    have hwf : ∀ s ∈ L ++ M, WF s := fun s hs => (List.mem_append.1 hs).elim (hL s) (hM s)
    have e1 := encL_len hL
    have e2 := encL_len hM
    have hT : takeS ((encL L ++ zs i) ++ encL M) = L ++ M := by
      rw [List.append_assoc, takeS_encL _ hL, takeS_noughts _ _ (zs_15 i)]
      have := takeS_encL [] hM
      rw [List.append_nil, takeS_nil, List.append_nil] at this
      rw [this]
    have hT2 := take_some ((encL L ++ zs i) ++ encL M) (inBytes_app (inBytes_app (inBytes_encL L) (zs_bytes i (by omega))) (inBytes_encL M)) (by rw [List.length_append, List.length_append, zs_len]; omega)
    rw [hT] at hT2
    obtain ⟨K1, h1⟩ := Put_all (L ++ M) (by rw [List.length_append]; omega)
    simp only at h1
    rw [putL_wf hwf] at h1
    obtain ⟨K2, h2⟩ := SameSteps_all (L ++ M) (by rw [List.length_append]; omega) (fun s hs => by have := (hwf s hs).gains; omega)
    simp only at h2
    refine ⟨max K1 K2 + 1, fun k hkk => ?_⟩
    obtain ⟨m, rfl⟩ : ∃ m, k = m + 1 := ⟨k - 1, by omega⟩
    simp only [tenancylaw25_OpsJoins.l0]
    rw [hn, if_neg (by omega), if_pos (by rw [List.length_append, zs_len]; omega), hT2]
    simp only [Option.bind_some]
    rw [h2 m (by omega)]
    simp only [Option.bind_some]
    rw [if_pos trivial, h1 m (by omega)]
    simp only [Option.bind_some]
    rw [strOfNums_size, strOfNums_size, if_pos (by omega), show encL (L ++ M) = encL L ++ encL M from List.flatMap_append, strOf_app]
    simp
  | d + 1, i, h => by
    have e1 := encL_len hL
    refine Ev.step (f := fun k => tenancylaw25_OpsJoins.l0 k a2 (L ++ M) (encL L) (encL M) (encL L ++ zs (i + 1)) ((i + 1 : Nat) : Int)) (fun k => ?_) (join_loop a2 n hn hn9 L M hL hM hl hm d (i + 1) (by omega))
    simp only [tenancylaw25_OpsJoins.l0]
    rw [hn, if_pos (by omega), if_pos (by rw [List.length_append, zs_len]; omega), wrap_succ i (by omega), zs_succ, List.append_assoc, show wrap64 (15 * (i : Int)) % 256 = 15 * (i : Int) from by unfold wrap64; omega]
theorem OpsJoins : tenancylaw25_OpsJoins.Pure := by
  intro l0 l1 a2 hl1 hl2 hb hl3 hl4 hb1 ha
  have hby : inBytes l0 := fun x hx => wf_u8 (hb x hx)
  have hby1 : inBytes l1 := fun x hx => wf_u8 (hb1 x hx)
  have ha := wf_u8 ha
  obtain ⟨K0, h0⟩ := begun_ev
  simp only at h0
  rcases Nat.lt_or_ge 100 l0.length with h100 | h100
  · refine ⟨K0 + 1, ?_⟩
    unfold tenancylaw25_OpsJoins.f
    rw [h0 _ (by omega)]
    simp only [Option.bind_some]
    rw [if_pos trivial, if_pos (by omega)]
    simp only [tenancylaw25_OpsJoins.j0]
    rw [if_pos trivial]
  rcases Nat.lt_or_ge 100 l1.length with h101 | h101
  · refine ⟨K0 + 1, ?_⟩
    unfold tenancylaw25_OpsJoins.f
    rw [h0 _ (by omega)]
    simp only [Option.bind_some]
    rw [if_pos trivial, if_neg (by omega), decide_eq_true (by omega)]
    simp only [tenancylaw25_OpsJoins.j0]
    rw [if_pos trivial]
  have hL := takeS_wf (l := l0) ⟨hby, by omega⟩
  have hM := takeS_wf (l := l1) ⟨hby1, by omega⟩
  have hl := takeS_short l0
  have hm := takeS_short l1
  have hT0 := take_some l0 hby (by omega)
  have hT1 := take_some l1 hby1 (by omega)
  generalize takeS l0 = L at *
  generalize takeS l1 = M at *
  obtain ⟨n, hn⟩ : ∃ n : Nat, wrap64 (Int.tmod a2 9) = (n : Int) ∧ n ≤ 8 := ⟨(a2 % 9).toNat, by rw [Int.tmod_eq_emod_of_nonneg ha.1]; unfold wrap64; omega⟩
  obtain ⟨K1, h1⟩ := Put_all L (by omega)
  obtain ⟨K2, h2⟩ := Put_all M (by omega)
  obtain ⟨K3, h3⟩ := join_loop a2 n hn.1 hn.2 L M hL hM (by omega) (by omega) n 0 (by omega)
  simp only at h1 h2 h3
  rw [putL_wf hL] at h1
  rw [putL_wf hM] at h2
  rw [show zs 0 = [] from rfl, List.append_nil] at h3
  have e1 := encL_len hL
  refine ⟨K0 + K1 + K2 + K3 + 1, ?_⟩
  unfold tenancylaw25_OpsJoins.f
  rw [h0 _ (by omega)]
  simp only [Option.bind_some]
  rw [if_pos trivial, if_neg (by omega), decide_eq_false (by omega)]
  simp only [tenancylaw25_OpsJoins.j0]
  rw [if_neg (by decide), hT0]
  simp only [Option.bind_some]
  rw [hT1]
  simp only [Option.bind_some]
  rw [if_pos (by simp only [List.length_nil]; omega)]
  simp only [List.nil_append]
  rw [if_pos (by omega), h1 _ (by omega)]
  simp only [Option.bind_some]
  rw [h2 _ (by omega)]
  simp only [Option.bind_some]
  rw [if_pos (by simp only [List.length_nil]; omega)]
  exact h3 _ (by omega)
end Go.Proofs.Ythpehiecmgipmaa.Pure
