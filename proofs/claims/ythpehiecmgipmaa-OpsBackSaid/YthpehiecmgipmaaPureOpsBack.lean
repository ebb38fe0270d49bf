/- OpsBack as a plain fact: what bytes say is said by the bytes that are made of it, and cut off it says the first steps. No conditions beyond the law's own. -/
import Derived.Test.YthpehiecmgipmaaPlain
namespace Go.Proofs.Ythpehiecmgipmaa.Pure
set_option linter.unusedSimpArgs false
set_option linter.unusedVariables false
open Go.RowKit Go.Proofs.Ythpehiecmgipmaa.L Go.Proofs.YthpehiecmgipmaaW.PrintWords Go.Proofs.YthpehiecmgipmaaW.PrintLast
theorem wf_u8 {x : Int} (h : (Lit.int .u8 x).wf = true) : 0 ≤ x ∧ x < 256 := by
  simp [Lit.wf, IntKind.min, IntKind.max, IntKind.bits, IntKind.signed] at h
  omega
theorem wf_u16 {x : Int} (h : (Lit.int .u16 x).wf = true) : 0 ≤ x ∧ x < 65536 := by
  simp [Lit.wf, IntKind.min, IntKind.max, IntKind.bits, IntKind.signed] at h
  omega
theorem OpsBack : tenancylaw25_OpsBack.Pure := by
  intro l0 a1 hl1 hl2 hb ha
  have hby : inBytes l0 := fun x hx => wf_u8 (hb x hx)
  have ha := wf_u16 ha
  obtain ⟨K0, h0⟩ := begun_ev
  simp only at h0
  rcases Nat.lt_or_ge 200 l0.length with h200 | h200
  · refine ⟨K0, ?_⟩
    unfold tenancylaw25_OpsBack.f
    rw [h0 K0 (Nat.le_refl _)]
    simp only [Option.bind_some]
    rw [if_pos trivial, if_pos (by omega)]
  have hok : Okb l0 := ⟨hby, by omega⟩
  have hwf := takeS_wf hok
  have hlen := takeS_short l0
  have hT := take_some l0 hby (by omega)
  generalize takeS l0 = L at *
  obtain ⟨K1, h1⟩ := Put_all L (by omega)
  simp only at h1
  rw [putL_wf hwf] at h1
  have hcl := encL_len hwf
  have hcb := inBytes_encL L
  have hT2 := take_some (encL L) hcb (by omega)
  have hTL : takeS (encL L) = L := by
    have := takeS_encL [] hwf
    rwa [List.append_nil, takeS_nil, List.append_nil] at this
  rw [hTL] at hT2
  obtain ⟨K2, h2⟩ := SameSteps_all L (by omega) (fun s hs => by have := (hwf s hs).gains; omega)
  simp only at h2
  by_cases hz : (encL L).length = 0
  · refine ⟨K0 + K1 + K2, ?_⟩
    unfold tenancylaw25_OpsBack.f
    rw [h0 _ (by omega)]
    simp only [Option.bind_some]
    rw [if_pos trivial, if_neg (by omega), hT]
    simp only [Option.bind_some]
    rw [h1 _ (by omega)]
    simp only [Option.bind_some]
    rw [hT2]
    simp only [Option.bind_some]
    rw [h2 _ (by omega)]
    simp only [Option.bind_some]
    rw [if_pos trivial, if_pos (by omega), encL_nil hz]
    rfl
  have hw : wrap64 a1 = a1 := by unfold wrap64; omega
  obtain ⟨m, hm⟩ : ∃ m : Nat, Int.tmod a1 ((encL L).length : Int) = (m : Int) := ⟨(Int.tmod a1 ((encL L).length : Int)).toNat, by
    rw [Int.tmod_eq_emod_of_nonneg ha.1]
    have := Int.emod_nonneg a1 (show ((encL L).length : Int) ≠ 0 by omega)
    omega⟩
  have hmlt : m < (encL L).length := by
    rw [Int.tmod_eq_emod_of_nonneg ha.1] at hm
    have := Int.emod_lt_of_pos a1 (show (0 : Int) < ((encL L).length : Int) by omega)
    omega
  obtain ⟨j, hj, hE⟩ := takeS_cut m hwf hmlt
  have hT3 := take_some ((encL L).take m) (fun x hx => hcb x (List.mem_of_mem_take hx)) (by rw [List.length_take]; omega)
  rw [hE] at hT3
  have hjl : (L.take j).length = j := by rw [List.length_take]; omega
  obtain ⟨K3, h3⟩ := SameSteps_all (L.take j) (by omega) (fun s hs => by have := (hwf s (List.mem_of_mem_take hs)).gains; omega)
  simp only at h3
  refine ⟨K0 + K1 + K2 + K3, ?_⟩
  unfold tenancylaw25_OpsBack.f
  rw [h0 _ (by omega)]
  simp only [Option.bind_some]
  rw [if_pos trivial, if_neg (by omega), hT]
  simp only [Option.bind_some]
  rw [h1 _ (by omega)]
  simp only [Option.bind_some]
  rw [hT2]
  simp only [Option.bind_some]
  rw [h2 _ (by omega)]
  simp only [Option.bind_some]
  rw [if_pos trivial, if_neg (by omega), hw, hm, if_pos (by omega), if_pos (by omega), Int.toNat_natCast, hT3]
  simp only [Option.bind_some]
  rw [hjl, if_pos (by omega), if_pos (by omega), if_pos (by omega), Int.toNat_natCast, h3 _ (by omega)]
  rfl
end Go.Proofs.Ythpehiecmgipmaa.Pure
