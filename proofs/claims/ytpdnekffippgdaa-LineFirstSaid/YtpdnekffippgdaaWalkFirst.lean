/- LineFirst's walk. -/
import Derived.Test.YtpdnekffippgdaaFirst
import Derived.WalkSpells
import Derived.WalkLawsBesides
import Derived.Shelf.Abstract
import Derived.Deep.LoopGhost
import Derived.Deep.RegionLaw
namespace Go.Proofs.Ytpdnekffippgdaa.L
open Go.RowKit Go.Proofs.YtpdnekffippgdaaW.PrintWords Go.Proofs.YtpdnekffippgdaaW.PrintLast Go.Proofs.YtpdnekffippgdaaW.PrintMore
set_option linter.unusedSimpArgs false
set_option linter.unusedVariables false

/-- What the law wants, of the others up to n. -/
def wn (m : M3) (a f : Int) : Nat → Bool
  | 0 => false
  | n + 1 => wn m a f n || wb m a f ((n : Int) + 1)

set_option maxRecDepth 100000 in
set_option maxHeartbeats 4000000 in
theorem first_long (A0 : Option Addr) (c0 : Nat) (l0 : List S27) (w : World) (hl : 30 < l0.length) :
    Calls Try.prog 4 #[.slice A0 l0.length c0] w fun e w' => e = .returned (.bool true) ∧ Below w.heap.size w w' := by
  have hd1 : decide (30 < (l0.length : Int)) = true := decide_eq_true (by omega)
  have hd2 : decide (30 < l0.length) = true := decide_eq_true hl
  have HB := Aside0.mk (Below.refl w.heap.size w)
  clear hl
  go_enter Try.func4, Try.ntmps4
  go_wp2_with (first | ((with_reducible refine gate_callee (f := 6) rfl ?_); refine goesL_ (some 20) rfl rfl Try.func6 (by kernel_rfl) rfl #[] rfl (by (try simp only [List.map_toArray, List.map_cons, List.map_nil]); first | done | rfl) ?_; (with_reducible refine (tenancylaw14_begun.calls 20 true _ (begun_f 20 (by omega))).mono ?_); rintro e w6 ⟨rfl, hb⟩; refine ⟨_, rfl, ?_⟩; have HB1 := Aside0.mk hb; clear hb))
  go_ret
  exact ⟨rfl, HB1.out⟩

set_option maxRecDepth 100000 in
set_option maxHeartbeats 4000000 in
theorem first_walk (A0 : Option Addr) (c0 : Nat) (l0 : List S27) (w : World) (hr0 : Kd.C k27 w A0 l0.length l0) (hl : l0.length ≤ 30) (hq : ∀ x ∈ l0, 0 ≤ x.f1 ∧ 0 ≤ x.f2) :
    Calls Try.prog 4 #[.slice A0 l0.length c0] w fun e w' => e = .returned (.bool true) ∧ Below w.heap.size w w' := by
  have HQ := Aside0.mk hq
  clear hq
  have hd1 : decide (30 < (l0.length : Int)) = false := decide_eq_false (by omega)
  have hd2 : decide (30 < l0.length) = false := decide_eq_false (by omega)
  have HR0 := Aside0.mk hr0
  have HLen := Aside0.mk hl
  clear hl hr0
  have hmm := @run_makeMap Try.prog
  go_enter Try.func4, Try.ntmps4
  go_wp2_with (first | ((with_reducible refine gate_callee (f := 6) rfl ?_); refine goesL_ (some 20) rfl rfl Try.func6 (by kernel_rfl) rfl #[] rfl (by (try simp only [List.map_toArray, List.map_cons, List.map_nil]); first | done | rfl) ?_; (with_reducible refine (tenancylaw14_begun.calls 20 true _ (begun_f 20 (by omega))).mono ?_); rintro e w6 ⟨rfl, hb⟩; refine ⟨_, rfl, ?_⟩; have HB1 := Aside0.mk hb; clear hb))
  have HM0 := Aside0.mk (MapIs.made w6)
  have HB2 := Aside0.mk (HB1.out.alloc HB1.out.size (.map #[] 0))
  have hwb : w.heap.size ≤ w6.heap.size := HB1.out.size
  go_loopg [3, 5] 40 (fun kq v3 v5 w' => ∃ (x : List S24) (i : Nat) (m : M3), v5 = .int .i64 (i : Int) ∧ Aside0 (i + kq = 40 ∧ i ≤ l0.length ∧ FInv i (x.map cf) m) ∧ Aside0 (Kd.R k24 24 w' (w6.heap.size + 1) (fun _ => True) v3 x) ∧ Aside0 (MapIs w' w6.heap.size i m) ∧ Aside0 (Below w.heap.size w w'))
  case atStart => exact ⟨[], 0, fun _ => none, by simp, ⟨⟨by omega, by omega, FInv.none⟩⟩, ⟨Kd.R_nil _ _ _ _ _⟩, ⟨HM0.out⟩, ⟨HB2.out⟩⟩
  case round => as_aux_lemma =>
    obtain ⟨x, i, m, rfl, HI, HX, HM, HB⟩ := hrel
    clear HM0 HB2 HB1
    rcases Nat.lt_or_ge i l0.length with hil | hil
    · obtain ⟨g0, rfl⟩ : ∃ n, gk = n + 1 := ⟨gk - 1, by have := HI.out.1; have := HLen.out; omega⟩
      have hi30 : i < 31 := by have := HLen.out; omega
      have hd3 : decide ((i : Int) < (l0.length : Int)) = true := decide_eq_true (by omega)
      obtain ⟨ad, e, hx0, hx1, hx2⟩ := at_T27 HR0.out (i : Int) (by omega) (by omega)
      cases e
      rw [Int.toNat_natCast] at hx0 hx1 hx2
      have hd4 : decide ((l0.length : Int) ≤ (i : Int)) = false := decide_eq_false (by omega)
      have hd5 : decide (l0.length ≤ i) = false := decide_eq_false (by omega)
      have hX0 := (HB.out.cell (World.block_lt_of_cell? w _ hx0)).trans hx0
      have hX1 := (HB.out.cell (World.block_lt_of_cell? w _ hx1)).trans hx1
      have hX2 := (HB.out.cell (World.block_lt_of_cell? w _ hx2)).trans hx2
      clear hx0 hx1 hx2
      go_wp2
      refine start_ (n := 18) (S := fun w' => w'.cell? ⟨(ad.add (i * 3)).block, (ad.add (i * 3)).off + 1, none⟩ = some (.int .u8 (rd_T27 l0 (i : Int)).f1) ∧ w'.cell? ⟨(ad.add (i * 3)).block, (ad.add (i * 3)).off + 2, none⟩ = some (.int .u8 (rd_T27 l0 (i : Int)).f2)) (ds := []) #[false, false, false, false, false, false, false, false, false, false, false, false, false, false, false, false, false, false] (by kernel_rfl) rfl rfl ⟨hX1, hX2⟩ (fun hHeld => ?_)
      refine pure_ (i := 0) (N := some 32) (v := ?_) (a' := ?_) #[true, false, false, false, false, false, false, false, false, false, false, false, false, false, false, false, false, false] rfl rfl (by kernel_rfl) (fun _ _ _ h => h) (Or.inl ⟨by rfl, ?_⟩) ?_ ?_
      rotate_left
      · intro w'
        go_simp
        with_reducible rfl
      rotate_left
      · simp only [Act.put, List.setIfInBounds_toArray, List.set_cons_zero, List.set_cons_succ, i64_w, i32_w]
        rfl
      refine pure_ (i := 1) (N := some 33) (v := ?_) (a' := ?_) #[true, true, false, false, false, false, false, false, false, false, false, false, false, false, false, false, false, false] rfl rfl (by kernel_rfl) (fun _ _ _ h => h) (Or.inl ⟨by rfl, ?_⟩) ?_ ?_
      rotate_left
      · intro w'
        go_simp
        with_reducible rfl
      rotate_left
      · simp only [Act.put, List.setIfInBounds_toArray, List.set_cons_zero, List.set_cons_succ, i64_w, i32_w]
        rfl
      refine pure_ (i := 2) (N := some 34) (v := ?_) (a' := ?_) #[true, true, true, false, false, false, false, false, false, false, false, false, false, false, false, false, false, false] rfl rfl (by kernel_rfl) (fun _ _ _ h => h) (Or.inl ⟨by rfl, ?_⟩) ?_ ?_
      rotate_left
      · intro w'
        go_simp
        with_reducible rfl
      rotate_left
      · simp only [Act.put, List.setIfInBounds_toArray, List.set_cons_zero, List.set_cons_succ, i64_w, i32_w]
        rfl
      refine pure_ (i := 3) (N := some 35) (v := ?_) (a' := ?_) #[true, true, true, true, false, false, false, false, false, false, false, false, false, false, false, false, false, false] rfl rfl (by kernel_rfl) (fun _ _ _ h => h) (Or.inl ⟨by rfl, ?_⟩) ?_ ?_
      rotate_left
      · intro w'
        go_simp
        with_reducible rfl
      rotate_left
      · simp only [Act.put, List.setIfInBounds_toArray, List.set_cons_zero, List.set_cons_succ, i64_w, i32_w]
        rfl
      refine take_ (i := 4) (N := some 36) (v := ?_) (a' := ?_) #[true, true, true, true, true, false, false, false, false, false, false, false, false, false, false, false, false, false] rfl rfl (by kernel_rfl) (fun _ _ _ h => h) (Or.inl ⟨by rfl, ?_⟩) hHeld ?_ ?_
      rotate_left
      · rintro w' ⟨s0, s1⟩
        go_simp
        with_reducible rfl
      rotate_left
      · simp only [Act.put, List.setIfInBounds_toArray, List.set_cons_zero, List.set_cons_succ, i64_w, i32_w]
        rfl
      refine pure_ (i := 5) (N := some 37) (v := ?_) (a' := ?_) #[true, true, true, true, true, true, false, false, false, false, false, false, false, false, false, false, false, false] rfl rfl (by kernel_rfl) (fun _ _ _ h => h) (Or.inl ⟨by rfl, ?_⟩) ?_ ?_
      rotate_left
      · intro w'
        go_simp
        with_reducible rfl
      rotate_left
      · simp only [Act.put, List.setIfInBounds_toArray, List.set_cons_zero, List.set_cons_succ, i64_w, i32_w]
        rfl
      refine pure_ (i := 6) (N := some 38) (v := ?_) (a' := ?_) #[true, true, true, true, true, true, true, false, false, false, false, false, false, false, false, false, false, false] rfl rfl (by kernel_rfl) (fun _ _ _ h => h) (Or.inl ⟨by rfl, ?_⟩) ?_ ?_
      rotate_left
      · intro w'
        go_simp
        with_reducible rfl
      rotate_left
      · simp only [Act.put, List.setIfInBounds_toArray, List.set_cons_zero, List.set_cons_succ, i64_w, i32_w]
        rfl
      refine pure_ (i := 7) (N := some 39) (v := ?_) (a' := ?_) #[true, true, true, true, true, true, true, true, false, false, false, false, false, false, false, false, false, false] rfl rfl (by kernel_rfl) (fun _ _ _ h => h) (Or.inl ⟨by rfl, ?_⟩) ?_ ?_
      rotate_left
      · intro w'
        go_simp
        with_reducible rfl
      rotate_left
      · simp only [Act.put, List.setIfInBounds_toArray, List.set_cons_zero, List.set_cons_succ, i64_w, i32_w]
        rfl
      refine pure_ (i := 8) (N := some 40) (v := ?_) (a' := ?_) #[true, true, true, true, true, true, true, true, true, false, false, false, false, false, false, false, false, false] rfl rfl (by kernel_rfl) (fun _ _ _ h => h) (Or.inl ⟨by rfl, ?_⟩) ?_ ?_
      rotate_left
      · intro w'
        go_simp
        with_reducible rfl
      rotate_left
      · simp only [Act.put, List.setIfInBounds_toArray, List.set_cons_zero, List.set_cons_succ, i64_w, i32_w]
        rfl
      refine pure_ (i := 9) (N := some 41) (v := ?_) (a' := ?_) #[true, true, true, true, true, true, true, true, true, true, false, false, false, false, false, false, false, false] rfl rfl (by kernel_rfl) (fun _ _ _ h => h) (Or.inl ⟨by rfl, ?_⟩) ?_ ?_
      rotate_left
      · intro w'
        go_simp
        with_reducible rfl
      rotate_left
      · simp only [Act.put, List.setIfInBounds_toArray, List.set_cons_zero, List.set_cons_succ, i64_w, i32_w]
        rfl
      refine pure_ (i := 10) (N := some 42) (v := ?_) (a' := ?_) #[true, true, true, true, true, true, true, true, true, true, true, false, false, false, false, false, false, false] rfl rfl (by kernel_rfl) (fun _ _ _ h => h) (Or.inl ⟨by rfl, ?_⟩) ?_ ?_
      rotate_left
      · intro w'
        go_simp
        with_reducible rfl
      rotate_left
      · simp only [Act.put, List.setIfInBounds_toArray, List.set_cons_zero, List.set_cons_succ, i64_w, i32_w]
        rfl
      refine pure_ (i := 11) (N := some 43) (v := ?_) (a' := ?_) #[true, true, true, true, true, true, true, true, true, true, true, true, false, false, false, false, false, false] rfl rfl (by kernel_rfl) (fun _ _ _ h => h) (Or.inl ⟨by rfl, ?_⟩) ?_ ?_
      rotate_left
      · intro w'
        go_simp
        with_reducible rfl
      rotate_left
      · simp only [Act.put, List.setIfInBounds_toArray, List.set_cons_zero, List.set_cons_succ, i64_w, i32_w]
        rfl
      refine take_ (i := 12) (N := some 44) (v := ?_) (a' := ?_) #[true, true, true, true, true, true, true, true, true, true, true, true, true, false, false, false, false, false] rfl rfl (by kernel_rfl) (fun _ _ _ h => h) (Or.inl ⟨by rfl, ?_⟩) hHeld ?_ ?_
      rotate_left
      · rintro w' ⟨s0, s1⟩
        go_simp
        with_reducible rfl
      rotate_left
      · simp only [Act.put, List.setIfInBounds_toArray, List.set_cons_zero, List.set_cons_succ, i64_w, i32_w]
        rfl
      refine pure_ (i := 13) (N := some 45) (v := ?_) (a' := ?_) #[true, true, true, true, true, true, true, true, true, true, true, true, true, true, false, false, false, false] rfl rfl (by kernel_rfl) (fun _ _ _ h => h) (Or.inl ⟨by rfl, ?_⟩) ?_ ?_
      rotate_left
      · intro w'
        go_simp
        with_reducible rfl
      rotate_left
      · simp only [Act.put, List.setIfInBounds_toArray, List.set_cons_zero, List.set_cons_succ, i64_w, i32_w]
        rfl
      refine pure_ (i := 14) (N := some 46) (v := ?_) (a' := ?_) #[true, true, true, true, true, true, true, true, true, true, true, true, true, true, true, false, false, false] rfl rfl (by kernel_rfl) (fun _ _ _ h => h) (Or.inl ⟨by rfl, ?_⟩) ?_ ?_
      rotate_left
      · intro w'
        go_simp
        with_reducible rfl
      rotate_left
      · simp only [Act.put, List.setIfInBounds_toArray, List.set_cons_zero, List.set_cons_succ, i64_w, i32_w]
        rfl
      refine pure_ (i := 15) (N := some 47) (v := ?_) (a' := ?_) #[true, true, true, true, true, true, true, true, true, true, true, true, true, true, true, true, false, false] rfl rfl (by kernel_rfl) (fun _ _ _ h => h) (Or.inl ⟨by rfl, ?_⟩) ?_ ?_
      rotate_left
      · intro w'
        go_simp
        with_reducible rfl
      rotate_left
      · simp only [Act.put, List.setIfInBounds_toArray, List.set_cons_zero, List.set_cons_succ, i64_w, i32_w]
        rfl
      refine pure_ (i := 16) (N := some 6) (v := ?_) (a' := ?_) #[true, true, true, true, true, true, true, true, true, true, true, true, true, true, true, true, true, false] rfl rfl (by kernel_rfl) (fun _ _ _ h => h) (Or.inl ⟨by rfl, ?_⟩) ?_ ?_
      rotate_left
      · intro w'
        go_simp
        with_reducible rfl
      rotate_left
      · simp only [Act.put, List.setIfInBounds_toArray, List.set_cons_zero, List.set_cons_succ, i64_w, i32_w]
        rfl
      refine pure_ (i := 17) (N := some 7) (v := ?_) (a' := ?_) #[true, true, true, true, true, true, true, true, true, true, true, true, true, true, true, true, true, true] rfl rfl (by kernel_rfl) (fun _ _ _ h => h) (Or.inl ⟨by rfl, ?_⟩) ?_ ?_
      rotate_left
      · intro w'
        go_simp
        with_reducible rfl
      rotate_left
      · simp only [Act.put, List.setIfInBounds_toArray, List.set_cons_zero, List.set_cons_succ, i64_w, i32_w]
        rfl
      refine done_ (by kernel_rfl) ?_
      have hrd : 0 ≤ (rd_T27 l0 (i : Int)).f1 ∧ 0 ≤ (rd_T27 l0 (i : Int)).f2 := by
        unfold rd_T27
        rw [Int.toNat_natCast, List.getD_eq_getElem?_getD, List.getElem?_eq_getElem hil]
        exact HQ.out _ (List.getElem_mem hil)
      have hcE : 1 ≤ wrap64 (1 + wrap64 (Int.tmod ((rd_T27 l0 (i : Int)).f1) 3)) ∧ wrap64 (1 + wrap64 (Int.tmod ((rd_T27 l0 (i : Int)).f1) 3)) ≤ 3 := by
        rw [Int.tmod_eq_emod_of_nonneg hrd.1]
        unfold wrap64
        omega
      have hfE : 1 ≤ wrap64 (1 + wrap64 (Int.tmod ((rd_T27 l0 (i : Int)).f2) 2)) ∧ wrap64 (1 + wrap64 (Int.tmod ((rd_T27 l0 (i : Int)).f2) 2)) ≤ 2 := by
        rw [Int.tmod_eq_emod_of_nonneg hrd.2]
        unfold wrap64
        omega
      clear hrd
      generalize wrap64 (1 + wrap64 (Int.tmod ((rd_T27 l0 (i : Int)).f1) 3)) = c at hcE ⊢
      generalize wrap64 (1 + wrap64 (Int.tmod ((rd_T27 l0 (i : Int)).f2) 2)) = f at hfE ⊢
      have n0_ := Aside0.mk (Kd.R_drew HX.out)
      have n1_ := Aside0.mk (HM.out.block (w' := wr.drew) rfl)
      have n2_ := Aside0.mk (below_drew1 HB.out)
      have n3_ : wr.drew.cell? (ad.add (i * 3)) = _ := hX0
      clear HX HM HB hX0 hX1 hX2 hHeld
      generalize wr.drew = w9 at n0_ n1_ n2_ n3_ ⊢
      have HX := n0_
      have HM := n1_
      have HB := n2_
      have hX0 := n3_
      clear n0_ n1_ n2_ n3_
      obtain ⟨Ax, cx, rfl⟩ := Kd.R_slice HX.out
      have HC := Aside0.mk hcE
      have HF := Aside0.mk hfE
      clear hcE hfE
      generalize hgg : (rd_T27 l0 (i : Int)).f0 = gz at hX0
      clear hgg
      by_cases hz : 0 < Int.tmod gz 4
      · have hz1 : decide (0 < Int.tmod gz 4) = true := decide_eq_true hz
        clear hz
        have hxl : x.length ≤ 3 := by have := HI.out.2.2.small; rwa [List.length_map] at this
        obtain ⟨_, hcx, hCx⟩ := Kd.R_reads' HX.out
        have HCx := Aside0.mk hCx
        clear hCx
        have hpm := put_map HI.out.2.2 (⟨c, 1 + (i : Int), f, 1⟩ : S24)
        have hpf := put_f x (⟨c, 1 + (i : Int), f, 1⟩ : S24) 20 (by omega) (by omega)
        have hpe : putP x (⟨c, 1 + (i : Int), f, 1⟩ : S24) = ((putP x (⟨c, 1 + (i : Int), f, 1⟩ : S24)).1, true) := by rw [← hpm.1]
        rw [hpe] at hpf
        have hp2 := hpm.2
        clear hpm hpe
        generalize (putP x (⟨c, 1 + (i : Int), f, 1⟩ : S24)).1 = y at hpf hp2
        have HP : Aside0 (line_Put.f 20 x c (1 + (i : Int)) f 1 = some (y, true)) := ⟨hpf⟩
        have HP2 := Aside0.mk hp2
        clear hpf hp2
        have HWc : Aside0 ((Lit.int .i64 c).wf = true) := ⟨by have := HC.out; simp [Lit.wf, IntKind.min, IntKind.max, IntKind.bits, IntKind.signed]; omega⟩
        cases hmc : m c with
        | none =>
          have HMC := Aside0.mk hmc
          clear hmc
          have HI2 : Aside0 (FInv (i + 1) (y.map cf) (m.up c (f, (i : Int)))) := ⟨by rw [HP2.out.2 (fun h => by rw [HMC.out] at h; exact absurd h.1 (by simp))]; exact HI.out.2.2.put c f HC.out⟩
          have hlen : (y.length : Int) = ((m.up c (f, (i : Int))).cnt : Int) := by have := HI2.out.len; rw [List.length_map] at this; omega
          have hlen1 : ((y.length : Int) != ((m.up c (f, (i : Int))).cnt : Int)) = false := bne_eq_false_iff_eq.2 hlen
          go_wp2_with (first
            | ((with_reducible refine gate_callee (f := 7) rfl ?_); (refine goesL_ (some 62) rfl rfl Try.func7 (by kernel_rfl) rfl #[.slice Ax x.length cx, .agg #[.int .i64 c, .int .i64 (1 + (i : Int)), .int .i64 f, .int .i64 1]] rfl (by (try simp only [List.map_toArray, List.map_cons, List.map_nil]); first | done | rfl) ?_; (refine (line_Put.calls 20 _ _ x c (1 + (i : Int)) f 1 y true _ HCx.out hcx HP.out).mono ?_); rintro e w10 ⟨v, rfl, ho, hb⟩; refine ⟨_, rfl, ?_⟩; obtain ⟨Ay, cy, rfl⟩ := Kd.R_slice ho; have hb9 := hb; have HM1 := Aside0.mk (HM.out.below hb9); have HY := Aside0.mk (Kd.R_mono (ok' := fun k => w6.heap.size + 1 ≤ k) (Kd.R_bound (Kd.R_lower (base' := w6.heap.size + 1) ho (by have := HM.out.lt; omega))) (fun k hk => hk.2.1)); have HB1 := Aside0.mk (HB.out.trans (hb9.mono HB.out.size)); clear ho hb hb9))
            | (at_lookup; (refine map_get _ rfl _ _ rfl w6.heap.size i m rfl HM1.out c rfl HWc.out ?_; rw [HMC.out]; simp only [val, Option.getD_none, Option.getD_some, Option.isSome_none, Option.isSome_some]))
            | (at_mapUpdate; (refine map_put _ rfl _ _ _ rfl w6.heap.size i m rfl (HM1.out.below (by first | exact (Below.refl w10.heap.size w10).alloc (Nat.le_refl _) _ | exact (((Below.refl w10.heap.size w10).alloc (Nat.le_refl _) _).setCell (Nat.le_refl _) _).setCell (Nat.le_refl _) _)) (by unfold maxLen; omega) c rfl HC.out (f, (i : Int)) rfl ?_; intro w11 hm11 hg11; have HM2 := Aside0.mk hm11; have HB2 := Aside0.mk (Below.grown (HB1.out.trans (Below.mono (B := w10.heap.size) (by first | exact (Below.refl w10.heap.size w10).alloc (Nat.le_refl _) _ | exact (((Below.refl w10.heap.size w10).alloc (Nat.le_refl _) _).setCell (Nat.le_refl _) _).setCell (Nat.le_refl _) _) HB1.out.size)) hg11 (Nat.le_trans HB1.out.size (Below.size (B := w10.heap.size) (by first | exact (Below.refl w10.heap.size w10).alloc (Nat.le_refl _) _ | exact (((Below.refl w10.heap.size w10).alloc (Nat.le_refl _) _).setCell (Nat.le_refl _) _).setCell (Nat.le_refl _) _))) (fun k hk => by injection hk with hk; omega)); have HY2 := Aside0.mk (Kd.R_grown (Kd.R_below HY.out (by first | exact (Below.refl w10.heap.size w10).alloc (Nat.le_refl _) _ | exact (((Below.refl w10.heap.size w10).alloc (Nat.le_refl _) _).setCell (Nat.le_refl _) _).setCell (Nat.le_refl _) _)) hg11 (fun k hk e => by injection e with e; omega)); clear hm11 hg11))
            | ((with_reducible refine gate_builtin (b := .len) (xs := #[.tmp 94]) rfl ?_); (refine map_len _ rfl _ rfl w6.heap.size (i + 1) (m.up c (f, (i : Int))) rfl HM2.out ?_)))
          clear hlen hlen1 HM1 HB1 HY
          generalize m.up c (f, (i : Int)) = m2 at HM2 HI2 ⊢
          replace HY2 := Aside0.mk (Kd.R_mono (ok' := fun _ => True) HY2.out (fun _ _ => trivial))
          obtain ⟨nn, hnn⟩ : ∃ nn : Nat, nn = i + 1 := ⟨i + 1, rfl⟩
          replace HM2 : Aside0 (MapIs w11 w6.heap.size nn m2) := ⟨by rw [hnn]; exact HM2.out⟩
          have hnn1 : nn ≤ i + 1 := by omega
          clear hnn
          go_loopg [12] 10 (fun kq v12 w' => ∃ (a : Int), v12 = .int .i64 a ∧ Aside0 (a + (kq : Int) = 11 ∧ 1 ≤ a ∧ a ≤ 4) ∧ Aside0 (Kd.R k24 24 w' (w6.heap.size + 1) (fun _ => True) (.slice Ay y.length cy) y) ∧ Aside0 (MapIs w' w6.heap.size nn m2) ∧ Aside0 (Below w.heap.size w w'))
          case atStart => exact ⟨1, (by simp), ⟨⟨by omega, by omega, by omega⟩⟩, ⟨HY2.out⟩, ⟨HM2.out⟩, ⟨HB2.out⟩⟩
          case round => as_aux_lemma =>
            clear HY2 HM2 HB2
            obtain ⟨a, rfl, HA, HY2, HM2, HB2⟩ := hrel
            obtain ⟨g1, rfl⟩ : ∃ n, gk = n + 1 := ⟨gk - 1, by have := HA.out; omega⟩
            rcases Int.lt_or_le 3 a with ha3 | ha3
            · have hda : decide (a ≤ 3) = false := decide_eq_false (by omega)
              clear ha3
              go_wp2
              go_roundg g0
              case measure => omega
              case rel => exact ⟨y, i + 1, m2, (by first | (simp; done) | (rw [wrap_succ (by omega)])), ⟨⟨by have := HI.out.1; omega, by omega, HI2.out⟩⟩, ⟨HY2.out⟩, ⟨HM2.out.mono (by omega)⟩, ⟨HB2.out⟩⟩
            · have hda : decide (a ≤ 3) = true := decide_eq_true ha3
              go_wp2
              go_loopg [13] 10 (fun kq v13 w' => ∃ (f : Int), v13 = .int .i64 f ∧ Aside0 (f + (kq : Int) = 11 ∧ 1 ≤ f ∧ f ≤ 3) ∧ Aside0 (Kd.R k24 24 w' (w6.heap.size + 1) (fun _ => True) (.slice Ay y.length cy) y) ∧ Aside0 (MapIs w' w6.heap.size nn m2) ∧ Aside0 (Below w.heap.size w w'))
              case atStart => exact ⟨1, (by simp), ⟨⟨by omega, by omega, by omega⟩⟩, ⟨HY2.out⟩, ⟨HM2.out⟩, ⟨HB2.out⟩⟩
              case round => as_aux_lemma =>
                clear HY2 HM2 HB2
                obtain ⟨f, rfl, HF, HY2, HM2, HB2⟩ := hrel
                obtain ⟨g2, rfl⟩ : ∃ n, gk = n + 1 := ⟨gk - 1, by have := HF.out; omega⟩
                rcases Int.lt_or_le 2 f with hf2 | hf2
                · have hdf : decide (f ≤ 2) = false := decide_eq_false (by omega)
                  clear hf2
                  go_wp2
                  have hA := HA.out
                  go_roundg g1
                  case measure => omega
                  case rel => exact ⟨a + 1, (by first | (simp; done) | (rw [show wrap64 (a + 1) = a + 1 from by unfold wrap64; omega])), ⟨⟨by omega, by omega, by omega⟩⟩, ⟨HY2.out⟩, ⟨HM2.out⟩, ⟨HB2.out⟩⟩
                · have hdf : decide (f ≤ 2) = true := decide_eq_true hf2
                  have hwa : (Lit.int .i64 a).wf = true := by have := HA.out; simp [Lit.wf, IntKind.min, IntKind.max, IntKind.bits, IntKind.signed]; omega
                  have HWa := Aside0.mk hwa
                  clear hwa
                  have hby := HY2.out
                  obtain ⟨_, hcy, hCy⟩ := Kd.R_reads' hby
                  have HYl : Aside0 (y.length ≤ 3) := ⟨by have := HI2.out.small; rwa [List.length_map] at this⟩
                  have HWn : Aside0 (line_Ahead.f 50 y a f = some (wb m2 a f 1 || wb m2 a f 2 || wb m2 a f 3)) := ⟨by rw [ahead_f a f y 50 (by have := HYl.out; omega) (by have := HYl.out; omega), ah_map, ahead_want HI2.out]⟩
                  clear hby hCy hcy
                  rename World => wf
                  cases hma : m2 a with
                  | none =>
                    have HMA := Aside0.mk hma
                    go_wp2_with (first
                      | (at_lookup; (refine map_get _ rfl _ _ rfl w6.heap.size nn m2 rfl HM2.out a rfl HWa.out ?_; rw [HMA.out]; simp only [val, Option.getD_none, Option.getD_some, Option.isSome_none, Option.isSome_some]))
                      )
                    go_loopg [14, 17] 10 (fun kq v14 v17 w' => ∃ (b : Nat), v14 = .bool (wn m2 a f b) ∧ v17 = .int .i64 ((b : Int) + 1) ∧ Aside0 (b + kq = 10 ∧ b ≤ 3) ∧ Aside0 (Kd.R k24 24 w' (w6.heap.size + 1) (fun _ => True) (.slice Ay y.length cy) y) ∧ Aside0 (MapIs w' w6.heap.size nn m2) ∧ Aside0 (Below w.heap.size w w') ∧ Aside0 (w'.heap[wf.heap.size]? = some (.cells #[.int .i64 0, .int .i64 0] 35 (0, 0))))
                    case atStart => exact ⟨0, rfl, (by simp), ⟨⟨by omega, by omega⟩⟩, ⟨Kd.R_below HY2.out (by first | exact (Below.refl wf.heap.size wf).alloc (Nat.le_refl _) _ | exact (((Below.refl wf.heap.size wf).alloc (Nat.le_refl _) _).setCell (Nat.le_refl _) _).setCell (Nat.le_refl _) _)⟩, ⟨HM2.out.below (by first | exact (Below.refl wf.heap.size wf).alloc (Nat.le_refl _) _ | exact (((Below.refl wf.heap.size wf).alloc (Nat.le_refl _) _).setCell (Nat.le_refl _) _).setCell (Nat.le_refl _) _)⟩, ⟨HB2.out.trans (Below.mono (B := wf.heap.size) (by first | exact (Below.refl wf.heap.size wf).alloc (Nat.le_refl _) _ | exact (((Below.refl wf.heap.size wf).alloc (Nat.le_refl _) _).setCell (Nat.le_refl _) _).setCell (Nat.le_refl _) _) HB2.out.size)⟩, ⟨by first | exact heap_alloc_new _ _ | (refine blk_put (cs := #[.int .i64 0, .int .i64 0]) ?_ 1 _ rfl; refine blk_put (cs := #[.int .i64 0, .int .i64 0]) ?_ 0 _ rfl; exact heap_alloc_new _ _)⟩⟩
                    case round => as_aux_lemma =>
                      clear HY2 HM2 HB2
                      obtain ⟨b, rfl, rfl, HBb, HY2, HM2, HB2, BK⟩ := hrel
                      obtain ⟨g3, rfl⟩ : ∃ n, gk = n + 1 := ⟨gk - 1, by have := HBb.out; omega⟩
                      rename World => wv
                      rcases Nat.lt_or_ge b 3 with hb3 | hb3
                      case inr =>
                        obtain rfl : b = 3 := by have := HBb.out; omega
                        obtain ⟨_, hcy, hCy⟩ := Kd.R_reads' HY2.out
                        have HCy := Aside0.mk hCy
                        clear hCy
                        have HW3 : Aside0 (line_Ahead.f 50 y a f = some (wn m2 a f 3)) := ⟨by rw [HWn.out]; simp [wn]⟩
                        generalize wn m2 a f 3 = W at HW3 ⊢
                        have hWW : (W != W) = false := by simp
                        go_wp2_with (first | ((with_reducible refine gate_callee (f := 12) rfl ?_); (refine goesL_ (some 156) rfl rfl Try.func12 (by kernel_rfl) rfl #[.slice Ay y.length cy, .int .i64 a, .int .i64 f] rfl (by (try simp only [List.map_toArray, List.map_cons, List.map_nil]); first | done | rfl) ?_; (refine (line_Ahead.calls 50 _ _ y a f W _ HCy.out hcy HW3.out).mono ?_); rintro e w12 ⟨rfl, hb⟩; refine ⟨_, rfl, ?_⟩; have HY3 := Aside0.mk (Kd.R_below HY2.out hb); have HM3 := Aside0.mk (HM2.out.below hb); have HB3 := Aside0.mk (HB2.out.trans (hb.mono HB2.out.size)); clear hb)))
                        have hF := HF.out
                        go_roundg g2
                        case measure => omega
                        case rel => exact ⟨f + 1, (by first | (simp; done) | (rw [show wrap64 (f + 1) = f + 1 from by unfold wrap64; omega])), ⟨⟨by omega, by omega, by omega⟩⟩, ⟨HY3.out⟩, ⟨HM3.out⟩, ⟨HB3.out⟩⟩
                      have hdb : decide ((b : Int) + 1 ≤ 3) = true := decide_eq_true (by omega)
                      have HWb : Aside0 ((Lit.int .i64 ((b : Int) + 1)).wf = true) := ⟨by simp [Lit.wf, IntKind.min, IntKind.max, IntKind.bits, IntKind.signed]; omega⟩
                      have hg1 : wf.heap.size < wv.heap.size := blk_lt BK.out
                      have hg2 : wf.heap.size ≠ wv.heap.size := Nat.ne_of_lt hg1
                      have hg3 := hg2.symm
                      have o0 : wv.cell? ⟨wf.heap.size, 0, none⟩ = some (.int .i64 0) := (blk_cell BK.out 0).trans rfl
                      have o1 : wv.cell? ⟨wf.heap.size, 1, none⟩ = some (.int .i64 0) := (blk_cell BK.out 1).trans rfl
                      cases hwv : wn m2 a f b with
                      | true =>
                        have HWV := Aside0.mk hwv
                        clear hwv
                        go_wp2_with (first | (at_lookup; (refine map_get _ rfl _ _ rfl w6.heap.size nn m2 rfl HM2.out ((b : Int) + 1) rfl HWb.out ?_; simp only [val, Option.getD_none, Option.getD_some, Option.isSome_none, Option.isSome_some])))
                        go_roundg g3
                        case measure => omega
                        case rel => exact ⟨b + 1, (by simp [wn, wb, HMA.out, HWV.out]), (by first | (simp; done) | (rw [show wrap64 ((b : Int) + 1 + 1) = ((b + 1 : Nat) : Int) + 1 from by unfold wrap64; omega])), ⟨⟨by have := HBb.out; omega, by omega⟩⟩, ⟨Kd.R_below HY2.out (by first | exact (Below.refl wv.heap.size wv).alloc (Nat.le_refl _) _ | exact (((Below.refl wv.heap.size wv).alloc (Nat.le_refl _) _).setCell (Nat.le_refl _) _).setCell (Nat.le_refl _) _)⟩, ⟨HM2.out.below (by first | exact (Below.refl wv.heap.size wv).alloc (Nat.le_refl _) _ | exact (((Below.refl wv.heap.size wv).alloc (Nat.le_refl _) _).setCell (Nat.le_refl _) _).setCell (Nat.le_refl _) _)⟩, ⟨HB2.out.trans (Below.mono (B := wv.heap.size) (by first | exact (Below.refl wv.heap.size wv).alloc (Nat.le_refl _) _ | exact (((Below.refl wv.heap.size wv).alloc (Nat.le_refl _) _).setCell (Nat.le_refl _) _).setCell (Nat.le_refl _) _) HB2.out.size)⟩, ⟨blk_below BK.out (by first | exact (Below.refl wv.heap.size wv).alloc (Nat.le_refl _) _ | exact (((Below.refl wv.heap.size wv).alloc (Nat.le_refl _) _).setCell (Nat.le_refl _) _).setCell (Nat.le_refl _) _)⟩⟩
                      | false =>
                        have HWV := Aside0.mk hwv
                        clear hwv
                        by_cases hba : (b : Int) + 1 = a
                        · have hba2 : (((b : Int) + 1) != a) = false := bne_eq_false_iff_eq.2 hba
                          have HBA := Aside0.mk hba
                          clear hba
                          go_wp2_with (first | (at_lookup; (refine map_get _ rfl _ _ rfl w6.heap.size nn m2 rfl HM2.out ((b : Int) + 1) rfl HWb.out ?_; simp only [val, Option.getD_none, Option.getD_some, Option.isSome_none, Option.isSome_some])))
                          go_roundg g3
                          case measure => omega
                          case rel => exact ⟨b + 1, (by simp [wn, wb, HMA.out, HWV.out, HBA.out]), (by first | (simp; done) | (rw [show wrap64 ((b : Int) + 1 + 1) = ((b + 1 : Nat) : Int) + 1 from by unfold wrap64; omega])), ⟨⟨by have := HBb.out; omega, by omega⟩⟩, ⟨Kd.R_below HY2.out (by first | exact (Below.refl wv.heap.size wv).alloc (Nat.le_refl _) _ | exact (((Below.refl wv.heap.size wv).alloc (Nat.le_refl _) _).setCell (Nat.le_refl _) _).setCell (Nat.le_refl _) _)⟩, ⟨HM2.out.below (by first | exact (Below.refl wv.heap.size wv).alloc (Nat.le_refl _) _ | exact (((Below.refl wv.heap.size wv).alloc (Nat.le_refl _) _).setCell (Nat.le_refl _) _).setCell (Nat.le_refl _) _)⟩, ⟨HB2.out.trans (Below.mono (B := wv.heap.size) (by first | exact (Below.refl wv.heap.size wv).alloc (Nat.le_refl _) _ | exact (((Below.refl wv.heap.size wv).alloc (Nat.le_refl _) _).setCell (Nat.le_refl _) _).setCell (Nat.le_refl _) _) HB2.out.size)⟩, ⟨blk_below BK.out (by first | exact (Below.refl wv.heap.size wv).alloc (Nat.le_refl _) _ | exact (((Below.refl wv.heap.size wv).alloc (Nat.le_refl _) _).setCell (Nat.le_refl _) _).setCell (Nat.le_refl _) _)⟩⟩
                        have hba2 : (((b : Int) + 1) != a) = true := bne_iff_ne.2 hba
                        cases hmb : m2 ((b : Int) + 1) with
                        | none =>
                          have HMB := Aside0.mk hmb
                          clear hmb
                          go_wp2_with (first | (at_lookup; (refine map_get _ rfl _ _ rfl w6.heap.size nn m2 rfl HM2.out ((b : Int) + 1) rfl HWb.out ?_; rw [HMB.out]; simp only [val, Option.getD_none, Option.getD_some, Option.isSome_none, Option.isSome_some])))
                          go_roundg g3
                          case measure => omega
                          case rel => exact ⟨b + 1, (by simp [wn, wb, HMA.out, HWV.out, HMB.out]), (by first | (simp; done) | (rw [show wrap64 ((b : Int) + 1 + 1) = ((b + 1 : Nat) : Int) + 1 from by unfold wrap64; omega])), ⟨⟨by have := HBb.out; omega, by omega⟩⟩, ⟨Kd.R_below HY2.out (by first | exact (Below.refl wv.heap.size wv).alloc (Nat.le_refl _) _ | exact (((Below.refl wv.heap.size wv).alloc (Nat.le_refl _) _).setCell (Nat.le_refl _) _).setCell (Nat.le_refl _) _)⟩, ⟨HM2.out.below (by first | exact (Below.refl wv.heap.size wv).alloc (Nat.le_refl _) _ | exact (((Below.refl wv.heap.size wv).alloc (Nat.le_refl _) _).setCell (Nat.le_refl _) _).setCell (Nat.le_refl _) _)⟩, ⟨HB2.out.trans (Below.mono (B := wv.heap.size) (by first | exact (Below.refl wv.heap.size wv).alloc (Nat.le_refl _) _ | exact (((Below.refl wv.heap.size wv).alloc (Nat.le_refl _) _).setCell (Nat.le_refl _) _).setCell (Nat.le_refl _) _) HB2.out.size)⟩, ⟨blk_below BK.out (by first | exact (Below.refl wv.heap.size wv).alloc (Nat.le_refl _) _ | exact (((Below.refl wv.heap.size wv).alloc (Nat.le_refl _) _).setCell (Nat.le_refl _) _).setCell (Nat.le_refl _) _)⟩⟩
                        | some qb =>
                          have HMB := Aside0.mk hmb
                          clear hmb
                          by_cases hqf : qb.1 = f
                          case neg =>
                            have hqf2 : (qb.1 == f) = false := beq_eq_false_iff_ne.2 hqf
                            go_wp2_with (first | (at_lookup; (refine map_get _ rfl _ _ rfl w6.heap.size nn m2 rfl HM2.out ((b : Int) + 1) rfl HWb.out ?_; rw [HMB.out]; simp only [val, Option.getD_none, Option.getD_some, Option.isSome_none, Option.isSome_some])))
                            go_roundg g3
                            case measure => omega
                            case rel => exact ⟨b + 1, (by simp [wn, wb, HMA.out, HWV.out, HMB.out, hqf]), (by first | (simp; done) | (rw [show wrap64 ((b : Int) + 1 + 1) = ((b + 1 : Nat) : Int) + 1 from by unfold wrap64; omega])), ⟨⟨by have := HBb.out; omega, by omega⟩⟩, ⟨Kd.R_below HY2.out (by first | exact (Below.refl wv.heap.size wv).alloc (Nat.le_refl _) _ | exact (((Below.refl wv.heap.size wv).alloc (Nat.le_refl _) _).setCell (Nat.le_refl _) _).setCell (Nat.le_refl _) _)⟩, ⟨HM2.out.below (by first | exact (Below.refl wv.heap.size wv).alloc (Nat.le_refl _) _ | exact (((Below.refl wv.heap.size wv).alloc (Nat.le_refl _) _).setCell (Nat.le_refl _) _).setCell (Nat.le_refl _) _)⟩, ⟨HB2.out.trans (Below.mono (B := wv.heap.size) (by first | exact (Below.refl wv.heap.size wv).alloc (Nat.le_refl _) _ | exact (((Below.refl wv.heap.size wv).alloc (Nat.le_refl _) _).setCell (Nat.le_refl _) _).setCell (Nat.le_refl _) _) HB2.out.size)⟩, ⟨blk_below BK.out (by first | exact (Below.refl wv.heap.size wv).alloc (Nat.le_refl _) _ | exact (((Below.refl wv.heap.size wv).alloc (Nat.le_refl _) _).setCell (Nat.le_refl _) _).setCell (Nat.le_refl _) _)⟩⟩
                          have hqf2 : (qb.1 == f) = true := beq_iff_eq.2 hqf
                          have HQF := Aside0.mk hqf
                          clear hqf
                          go_wp2_with (first | (at_lookup; (refine map_get _ rfl _ _ rfl w6.heap.size nn m2 rfl HM2.out ((b : Int) + 1) rfl HWb.out ?_; rw [HMB.out]; simp only [val, Option.getD_none, Option.getD_some, Option.isSome_none, Option.isSome_some])))
                          go_roundg g3
                          case measure => omega
                          case rel => exact ⟨b + 1, (by simp [wn, wb, HMA.out, HWV.out, HMB.out, hba, HQF.out]), (by first | (simp; done) | (rw [show wrap64 ((b : Int) + 1 + 1) = ((b + 1 : Nat) : Int) + 1 from by unfold wrap64; omega])), ⟨⟨by have := HBb.out; omega, by omega⟩⟩, ⟨Kd.R_below HY2.out (by first | exact (Below.refl wv.heap.size wv).alloc (Nat.le_refl _) _ | exact (((Below.refl wv.heap.size wv).alloc (Nat.le_refl _) _).setCell (Nat.le_refl _) _).setCell (Nat.le_refl _) _)⟩, ⟨HM2.out.below (by first | exact (Below.refl wv.heap.size wv).alloc (Nat.le_refl _) _ | exact (((Below.refl wv.heap.size wv).alloc (Nat.le_refl _) _).setCell (Nat.le_refl _) _).setCell (Nat.le_refl _) _)⟩, ⟨HB2.out.trans (Below.mono (B := wv.heap.size) (by first | exact (Below.refl wv.heap.size wv).alloc (Nat.le_refl _) _ | exact (((Below.refl wv.heap.size wv).alloc (Nat.le_refl _) _).setCell (Nat.le_refl _) _).setCell (Nat.le_refl _) _) HB2.out.size)⟩, ⟨blk_below BK.out (by first | exact (Below.refl wv.heap.size wv).alloc (Nat.le_refl _) _ | exact (((Below.refl wv.heap.size wv).alloc (Nat.le_refl _) _).setCell (Nat.le_refl _) _).setCell (Nat.le_refl _) _)⟩⟩
                  | some pa =>
                    have HMA := Aside0.mk hma
                    go_wp2_with (first
                      | (at_lookup; (refine map_get _ rfl _ _ rfl w6.heap.size nn m2 rfl HM2.out a rfl HWa.out ?_; rw [HMA.out]; simp only [val, Option.getD_none, Option.getD_some, Option.isSome_none, Option.isSome_some]))
                      )
                    go_loopg [14, 17] 10 (fun kq v14 v17 w' => ∃ (b : Nat), v14 = .bool (wn m2 a f b) ∧ v17 = .int .i64 ((b : Int) + 1) ∧ Aside0 (b + kq = 10 ∧ b ≤ 3) ∧ Aside0 (Kd.R k24 24 w' (w6.heap.size + 1) (fun _ => True) (.slice Ay y.length cy) y) ∧ Aside0 (MapIs w' w6.heap.size nn m2) ∧ Aside0 (Below w.heap.size w w') ∧ Aside0 (w'.heap[wf.heap.size]? = some (.cells #[.int .i64 pa.1, .int .i64 pa.2] 35 (0, 0))))
                    case atStart => exact ⟨0, rfl, (by simp), ⟨⟨by omega, by omega⟩⟩, ⟨Kd.R_below HY2.out (by first | exact (Below.refl wf.heap.size wf).alloc (Nat.le_refl _) _ | exact (((Below.refl wf.heap.size wf).alloc (Nat.le_refl _) _).setCell (Nat.le_refl _) _).setCell (Nat.le_refl _) _)⟩, ⟨HM2.out.below (by first | exact (Below.refl wf.heap.size wf).alloc (Nat.le_refl _) _ | exact (((Below.refl wf.heap.size wf).alloc (Nat.le_refl _) _).setCell (Nat.le_refl _) _).setCell (Nat.le_refl _) _)⟩, ⟨HB2.out.trans (Below.mono (B := wf.heap.size) (by first | exact (Below.refl wf.heap.size wf).alloc (Nat.le_refl _) _ | exact (((Below.refl wf.heap.size wf).alloc (Nat.le_refl _) _).setCell (Nat.le_refl _) _).setCell (Nat.le_refl _) _) HB2.out.size)⟩, ⟨by first | exact heap_alloc_new _ _ | (refine blk_put (cs := #[.int .i64 pa.1, .int .i64 0]) ?_ 1 _ rfl; refine blk_put (cs := #[.int .i64 0, .int .i64 0]) ?_ 0 _ rfl; exact heap_alloc_new _ _)⟩⟩
                    case round => as_aux_lemma =>
                      clear HY2 HM2 HB2
                      obtain ⟨b, rfl, rfl, HBb, HY2, HM2, HB2, BK⟩ := hrel
                      obtain ⟨g3, rfl⟩ : ∃ n, gk = n + 1 := ⟨gk - 1, by have := HBb.out; omega⟩
                      rename World => wv
                      rcases Nat.lt_or_ge b 3 with hb3 | hb3
                      case inr =>
                        obtain rfl : b = 3 := by have := HBb.out; omega
                        obtain ⟨_, hcy, hCy⟩ := Kd.R_reads' HY2.out
                        have HCy := Aside0.mk hCy
                        clear hCy
                        have HW3 : Aside0 (line_Ahead.f 50 y a f = some (wn m2 a f 3)) := ⟨by rw [HWn.out]; simp [wn]⟩
                        generalize wn m2 a f 3 = W at HW3 ⊢
                        have hWW : (W != W) = false := by simp
                        go_wp2_with (first | ((with_reducible refine gate_callee (f := 12) rfl ?_); (refine goesL_ (some 156) rfl rfl Try.func12 (by kernel_rfl) rfl #[.slice Ay y.length cy, .int .i64 a, .int .i64 f] rfl (by (try simp only [List.map_toArray, List.map_cons, List.map_nil]); first | done | rfl) ?_; (refine (line_Ahead.calls 50 _ _ y a f W _ HCy.out hcy HW3.out).mono ?_); rintro e w12 ⟨rfl, hb⟩; refine ⟨_, rfl, ?_⟩; have HY3 := Aside0.mk (Kd.R_below HY2.out hb); have HM3 := Aside0.mk (HM2.out.below hb); have HB3 := Aside0.mk (HB2.out.trans (hb.mono HB2.out.size)); clear hb)))
                        have hF := HF.out
                        go_roundg g2
                        case measure => omega
                        case rel => exact ⟨f + 1, (by first | (simp; done) | (rw [show wrap64 (f + 1) = f + 1 from by unfold wrap64; omega])), ⟨⟨by omega, by omega, by omega⟩⟩, ⟨HY3.out⟩, ⟨HM3.out⟩, ⟨HB3.out⟩⟩
                      have hdb : decide ((b : Int) + 1 ≤ 3) = true := decide_eq_true (by omega)
                      have HWb : Aside0 ((Lit.int .i64 ((b : Int) + 1)).wf = true) := ⟨by simp [Lit.wf, IntKind.min, IntKind.max, IntKind.bits, IntKind.signed]; omega⟩
                      have hg1 : wf.heap.size < wv.heap.size := blk_lt BK.out
                      have hg2 : wf.heap.size ≠ wv.heap.size := Nat.ne_of_lt hg1
                      have hg3 := hg2.symm
                      have o0 : wv.cell? ⟨wf.heap.size, 0, none⟩ = some (.int .i64 pa.1) := (blk_cell BK.out 0).trans rfl
                      have o1 : wv.cell? ⟨wf.heap.size, 1, none⟩ = some (.int .i64 pa.2) := (blk_cell BK.out 1).trans rfl
                      cases hwv : wn m2 a f b with
                      | true =>
                        have HWV := Aside0.mk hwv
                        clear hwv
                        go_wp2_with (first | (at_lookup; (refine map_get _ rfl _ _ rfl w6.heap.size nn m2 rfl HM2.out ((b : Int) + 1) rfl HWb.out ?_; simp only [val, Option.getD_none, Option.getD_some, Option.isSome_none, Option.isSome_some])))
                        go_roundg g3
                        case measure => omega
                        case rel => exact ⟨b + 1, (by simp [wn, wb, HMA.out, HWV.out]), (by first | (simp; done) | (rw [show wrap64 ((b : Int) + 1 + 1) = ((b + 1 : Nat) : Int) + 1 from by unfold wrap64; omega])), ⟨⟨by have := HBb.out; omega, by omega⟩⟩, ⟨Kd.R_below HY2.out (by first | exact (Below.refl wv.heap.size wv).alloc (Nat.le_refl _) _ | exact (((Below.refl wv.heap.size wv).alloc (Nat.le_refl _) _).setCell (Nat.le_refl _) _).setCell (Nat.le_refl _) _)⟩, ⟨HM2.out.below (by first | exact (Below.refl wv.heap.size wv).alloc (Nat.le_refl _) _ | exact (((Below.refl wv.heap.size wv).alloc (Nat.le_refl _) _).setCell (Nat.le_refl _) _).setCell (Nat.le_refl _) _)⟩, ⟨HB2.out.trans (Below.mono (B := wv.heap.size) (by first | exact (Below.refl wv.heap.size wv).alloc (Nat.le_refl _) _ | exact (((Below.refl wv.heap.size wv).alloc (Nat.le_refl _) _).setCell (Nat.le_refl _) _).setCell (Nat.le_refl _) _) HB2.out.size)⟩, ⟨blk_below BK.out (by first | exact (Below.refl wv.heap.size wv).alloc (Nat.le_refl _) _ | exact (((Below.refl wv.heap.size wv).alloc (Nat.le_refl _) _).setCell (Nat.le_refl _) _).setCell (Nat.le_refl _) _)⟩⟩
                      | false =>
                        have HWV := Aside0.mk hwv
                        clear hwv
                        by_cases hba : (b : Int) + 1 = a
                        · have hba2 : (((b : Int) + 1) != a) = false := bne_eq_false_iff_eq.2 hba
                          have HBA := Aside0.mk hba
                          clear hba
                          go_wp2_with (first | (at_lookup; (refine map_get _ rfl _ _ rfl w6.heap.size nn m2 rfl HM2.out ((b : Int) + 1) rfl HWb.out ?_; simp only [val, Option.getD_none, Option.getD_some, Option.isSome_none, Option.isSome_some])))
                          go_roundg g3
                          case measure => omega
                          case rel => exact ⟨b + 1, (by simp [wn, wb, HMA.out, HWV.out, HBA.out]), (by first | (simp; done) | (rw [show wrap64 ((b : Int) + 1 + 1) = ((b + 1 : Nat) : Int) + 1 from by unfold wrap64; omega])), ⟨⟨by have := HBb.out; omega, by omega⟩⟩, ⟨Kd.R_below HY2.out (by first | exact (Below.refl wv.heap.size wv).alloc (Nat.le_refl _) _ | exact (((Below.refl wv.heap.size wv).alloc (Nat.le_refl _) _).setCell (Nat.le_refl _) _).setCell (Nat.le_refl _) _)⟩, ⟨HM2.out.below (by first | exact (Below.refl wv.heap.size wv).alloc (Nat.le_refl _) _ | exact (((Below.refl wv.heap.size wv).alloc (Nat.le_refl _) _).setCell (Nat.le_refl _) _).setCell (Nat.le_refl _) _)⟩, ⟨HB2.out.trans (Below.mono (B := wv.heap.size) (by first | exact (Below.refl wv.heap.size wv).alloc (Nat.le_refl _) _ | exact (((Below.refl wv.heap.size wv).alloc (Nat.le_refl _) _).setCell (Nat.le_refl _) _).setCell (Nat.le_refl _) _) HB2.out.size)⟩, ⟨blk_below BK.out (by first | exact (Below.refl wv.heap.size wv).alloc (Nat.le_refl _) _ | exact (((Below.refl wv.heap.size wv).alloc (Nat.le_refl _) _).setCell (Nat.le_refl _) _).setCell (Nat.le_refl _) _)⟩⟩
                        have hba2 : (((b : Int) + 1) != a) = true := bne_iff_ne.2 hba
                        cases hmb : m2 ((b : Int) + 1) with
                        | none =>
                          have HMB := Aside0.mk hmb
                          clear hmb
                          go_wp2_with (first | (at_lookup; (refine map_get _ rfl _ _ rfl w6.heap.size nn m2 rfl HM2.out ((b : Int) + 1) rfl HWb.out ?_; rw [HMB.out]; simp only [val, Option.getD_none, Option.getD_some, Option.isSome_none, Option.isSome_some])))
                          go_roundg g3
                          case measure => omega
                          case rel => exact ⟨b + 1, (by simp [wn, wb, HMA.out, HWV.out, HMB.out]), (by first | (simp; done) | (rw [show wrap64 ((b : Int) + 1 + 1) = ((b + 1 : Nat) : Int) + 1 from by unfold wrap64; omega])), ⟨⟨by have := HBb.out; omega, by omega⟩⟩, ⟨Kd.R_below HY2.out (by first | exact (Below.refl wv.heap.size wv).alloc (Nat.le_refl _) _ | exact (((Below.refl wv.heap.size wv).alloc (Nat.le_refl _) _).setCell (Nat.le_refl _) _).setCell (Nat.le_refl _) _)⟩, ⟨HM2.out.below (by first | exact (Below.refl wv.heap.size wv).alloc (Nat.le_refl _) _ | exact (((Below.refl wv.heap.size wv).alloc (Nat.le_refl _) _).setCell (Nat.le_refl _) _).setCell (Nat.le_refl _) _)⟩, ⟨HB2.out.trans (Below.mono (B := wv.heap.size) (by first | exact (Below.refl wv.heap.size wv).alloc (Nat.le_refl _) _ | exact (((Below.refl wv.heap.size wv).alloc (Nat.le_refl _) _).setCell (Nat.le_refl _) _).setCell (Nat.le_refl _) _) HB2.out.size)⟩, ⟨blk_below BK.out (by first | exact (Below.refl wv.heap.size wv).alloc (Nat.le_refl _) _ | exact (((Below.refl wv.heap.size wv).alloc (Nat.le_refl _) _).setCell (Nat.le_refl _) _).setCell (Nat.le_refl _) _)⟩⟩
                        | some qb =>
                          have HMB := Aside0.mk hmb
                          clear hmb
                          by_cases hqf : qb.1 = f
                          case neg =>
                            have hqf2 : (qb.1 == f) = false := beq_eq_false_iff_ne.2 hqf
                            go_wp2_with (first | (at_lookup; (refine map_get _ rfl _ _ rfl w6.heap.size nn m2 rfl HM2.out ((b : Int) + 1) rfl HWb.out ?_; rw [HMB.out]; simp only [val, Option.getD_none, Option.getD_some, Option.isSome_none, Option.isSome_some])))
                            go_roundg g3
                            case measure => omega
                            case rel => exact ⟨b + 1, (by simp [wn, wb, HMA.out, HWV.out, HMB.out, hqf]), (by first | (simp; done) | (rw [show wrap64 ((b : Int) + 1 + 1) = ((b + 1 : Nat) : Int) + 1 from by unfold wrap64; omega])), ⟨⟨by have := HBb.out; omega, by omega⟩⟩, ⟨Kd.R_below HY2.out (by first | exact (Below.refl wv.heap.size wv).alloc (Nat.le_refl _) _ | exact (((Below.refl wv.heap.size wv).alloc (Nat.le_refl _) _).setCell (Nat.le_refl _) _).setCell (Nat.le_refl _) _)⟩, ⟨HM2.out.below (by first | exact (Below.refl wv.heap.size wv).alloc (Nat.le_refl _) _ | exact (((Below.refl wv.heap.size wv).alloc (Nat.le_refl _) _).setCell (Nat.le_refl _) _).setCell (Nat.le_refl _) _)⟩, ⟨HB2.out.trans (Below.mono (B := wv.heap.size) (by first | exact (Below.refl wv.heap.size wv).alloc (Nat.le_refl _) _ | exact (((Below.refl wv.heap.size wv).alloc (Nat.le_refl _) _).setCell (Nat.le_refl _) _).setCell (Nat.le_refl _) _) HB2.out.size)⟩, ⟨blk_below BK.out (by first | exact (Below.refl wv.heap.size wv).alloc (Nat.le_refl _) _ | exact (((Below.refl wv.heap.size wv).alloc (Nat.le_refl _) _).setCell (Nat.le_refl _) _).setCell (Nat.le_refl _) _)⟩⟩
                          have hqf2 : (qb.1 == f) = true := beq_iff_eq.2 hqf
                          have HQF := Aside0.mk hqf
                          clear hqf
                          by_cases hpf : pa.1 = f
                          case neg =>
                            have hpf2 : (pa.1 != f) = true := bne_iff_ne.2 hpf
                            go_wp2_with (first | (at_lookup; (refine map_get _ rfl _ _ rfl w6.heap.size nn m2 rfl HM2.out ((b : Int) + 1) rfl HWb.out ?_; rw [HMB.out]; simp only [val, Option.getD_none, Option.getD_some, Option.isSome_none, Option.isSome_some])))
                            go_roundg g3
                            case measure => omega
                            case rel => exact ⟨b + 1, (by simp [wn, wb, HMA.out, HWV.out, HMB.out, hba, HQF.out, hpf]), (by first | (simp; done) | (rw [show wrap64 ((b : Int) + 1 + 1) = ((b + 1 : Nat) : Int) + 1 from by unfold wrap64; omega])), ⟨⟨by have := HBb.out; omega, by omega⟩⟩, ⟨Kd.R_below HY2.out (by first | exact (Below.refl wv.heap.size wv).alloc (Nat.le_refl _) _ | exact (((Below.refl wv.heap.size wv).alloc (Nat.le_refl _) _).setCell (Nat.le_refl _) _).setCell (Nat.le_refl _) _)⟩, ⟨HM2.out.below (by first | exact (Below.refl wv.heap.size wv).alloc (Nat.le_refl _) _ | exact (((Below.refl wv.heap.size wv).alloc (Nat.le_refl _) _).setCell (Nat.le_refl _) _).setCell (Nat.le_refl _) _)⟩, ⟨HB2.out.trans (Below.mono (B := wv.heap.size) (by first | exact (Below.refl wv.heap.size wv).alloc (Nat.le_refl _) _ | exact (((Below.refl wv.heap.size wv).alloc (Nat.le_refl _) _).setCell (Nat.le_refl _) _).setCell (Nat.le_refl _) _) HB2.out.size)⟩, ⟨blk_below BK.out (by first | exact (Below.refl wv.heap.size wv).alloc (Nat.le_refl _) _ | exact (((Below.refl wv.heap.size wv).alloc (Nat.le_refl _) _).setCell (Nat.le_refl _) _).setCell (Nat.le_refl _) _)⟩⟩
                          have hpf2 : (pa.1 != f) = false := bne_eq_false_iff_eq.2 hpf
                          have HPF := Aside0.mk hpf
                          clear hpf
                          by_cases hlt : qb.2 < pa.2
                          · have hlt2 : decide (qb.2 < pa.2) = true := decide_eq_true hlt
                            go_wp2_with (first | (at_lookup; (refine map_get _ rfl _ _ rfl w6.heap.size nn m2 rfl HM2.out ((b : Int) + 1) rfl HWb.out ?_; rw [HMB.out]; simp only [val, Option.getD_none, Option.getD_some, Option.isSome_none, Option.isSome_some])))
                            go_roundg g3
                            case measure => omega
                            case rel => exact ⟨b + 1, (by simp [wn, wb, HMA.out, HWV.out, HMB.out, hba, HQF.out, HPF.out, hlt]), (by first | (simp; done) | (rw [show wrap64 ((b : Int) + 1 + 1) = ((b + 1 : Nat) : Int) + 1 from by unfold wrap64; omega])), ⟨⟨by have := HBb.out; omega, by omega⟩⟩, ⟨Kd.R_below HY2.out (by first | exact (Below.refl wv.heap.size wv).alloc (Nat.le_refl _) _ | exact (((Below.refl wv.heap.size wv).alloc (Nat.le_refl _) _).setCell (Nat.le_refl _) _).setCell (Nat.le_refl _) _)⟩, ⟨HM2.out.below (by first | exact (Below.refl wv.heap.size wv).alloc (Nat.le_refl _) _ | exact (((Below.refl wv.heap.size wv).alloc (Nat.le_refl _) _).setCell (Nat.le_refl _) _).setCell (Nat.le_refl _) _)⟩, ⟨HB2.out.trans (Below.mono (B := wv.heap.size) (by first | exact (Below.refl wv.heap.size wv).alloc (Nat.le_refl _) _ | exact (((Below.refl wv.heap.size wv).alloc (Nat.le_refl _) _).setCell (Nat.le_refl _) _).setCell (Nat.le_refl _) _) HB2.out.size)⟩, ⟨blk_below BK.out (by first | exact (Below.refl wv.heap.size wv).alloc (Nat.le_refl _) _ | exact (((Below.refl wv.heap.size wv).alloc (Nat.le_refl _) _).setCell (Nat.le_refl _) _).setCell (Nat.le_refl _) _)⟩⟩
                          · have hlt2 : decide (qb.2 < pa.2) = false := decide_eq_false hlt
                            go_wp2_with (first | (at_lookup; (refine map_get _ rfl _ _ rfl w6.heap.size nn m2 rfl HM2.out ((b : Int) + 1) rfl HWb.out ?_; rw [HMB.out]; simp only [val, Option.getD_none, Option.getD_some, Option.isSome_none, Option.isSome_some])))
                            go_roundg g3
                            case measure => omega
                            case rel => exact ⟨b + 1, (by simp [wn, wb, HMA.out, HWV.out, HMB.out, hba, HQF.out, HPF.out, hlt]), (by first | (simp; done) | (rw [show wrap64 ((b : Int) + 1 + 1) = ((b + 1 : Nat) : Int) + 1 from by unfold wrap64; omega])), ⟨⟨by have := HBb.out; omega, by omega⟩⟩, ⟨Kd.R_below HY2.out (by first | exact (Below.refl wv.heap.size wv).alloc (Nat.le_refl _) _ | exact (((Below.refl wv.heap.size wv).alloc (Nat.le_refl _) _).setCell (Nat.le_refl _) _).setCell (Nat.le_refl _) _)⟩, ⟨HM2.out.below (by first | exact (Below.refl wv.heap.size wv).alloc (Nat.le_refl _) _ | exact (((Below.refl wv.heap.size wv).alloc (Nat.le_refl _) _).setCell (Nat.le_refl _) _).setCell (Nat.le_refl _) _)⟩, ⟨HB2.out.trans (Below.mono (B := wv.heap.size) (by first | exact (Below.refl wv.heap.size wv).alloc (Nat.le_refl _) _ | exact (((Below.refl wv.heap.size wv).alloc (Nat.le_refl _) _).setCell (Nat.le_refl _) _).setCell (Nat.le_refl _) _) HB2.out.size)⟩, ⟨blk_below BK.out (by first | exact (Below.refl wv.heap.size wv).alloc (Nat.le_refl _) _ | exact (((Below.refl wv.heap.size wv).alloc (Nat.le_refl _) _).setCell (Nat.le_refl _) _).setCell (Nat.le_refl _) _)⟩⟩
        | some pc =>
          have HMC := Aside0.mk hmc
          clear hmc
          by_cases hpf : pc.1 = f
          · have hpf2 : (pc.1 != f) = false := bne_eq_false_iff_eq.2 hpf
            have HPF := Aside0.mk hpf
            clear hpf
            have HI2 : Aside0 (FInv (i + 1) (y.map cf) m) := ⟨by rw [HP2.out.1 ⟨by rw [HMC.out]; rfl, by rw [HMC.out]; exact HPF.out⟩]; exact HI.out.2.2.next⟩
            have hlen : (y.length : Int) = (m.cnt : Int) := by have := HI2.out.len; rw [List.length_map] at this; omega
            have hlen1 : ((y.length : Int) != (m.cnt : Int)) = false := bne_eq_false_iff_eq.2 hlen
            go_wp2_with (first
              | ((with_reducible refine gate_callee (f := 7) rfl ?_); (refine goesL_ (some 62) rfl rfl Try.func7 (by kernel_rfl) rfl #[.slice Ax x.length cx, .agg #[.int .i64 c, .int .i64 (1 + (i : Int)), .int .i64 f, .int .i64 1]] rfl (by (try simp only [List.map_toArray, List.map_cons, List.map_nil]); first | done | rfl) ?_; (refine (line_Put.calls 20 _ _ x c (1 + (i : Int)) f 1 y true _ HCx.out hcx HP.out).mono ?_); rintro e w10 ⟨v, rfl, ho, hb⟩; refine ⟨_, rfl, ?_⟩; obtain ⟨Ay, cy, rfl⟩ := Kd.R_slice ho; have hb9 := hb; have HM1 := Aside0.mk (HM.out.below hb9); have HY := Aside0.mk (Kd.R_mono (ok' := fun k => w6.heap.size + 1 ≤ k) (Kd.R_bound (Kd.R_lower (base' := w6.heap.size + 1) ho (by have := HM.out.lt; omega))) (fun k hk => hk.2.1)); have HB1 := Aside0.mk (HB.out.trans (hb9.mono HB.out.size)); clear ho hb hb9))
              | (at_lookup; (refine map_get _ rfl _ _ rfl w6.heap.size i m rfl HM1.out c rfl HWc.out ?_; rw [HMC.out]; simp only [val, Option.getD_none, Option.getD_some, Option.isSome_none, Option.isSome_some]))
              | ((with_reducible refine gate_builtin (b := .len) (xs := #[.tmp 94]) rfl ?_); (refine map_len _ rfl _ rfl w6.heap.size i m rfl (HM1.out.below (by first | exact (Below.refl w10.heap.size w10).alloc (Nat.le_refl _) _ | exact (((Below.refl w10.heap.size w10).alloc (Nat.le_refl _) _).setCell (Nat.le_refl _) _).setCell (Nat.le_refl _) _)) ?_)))
            clear hlen hlen1
            obtain ⟨m2, hm2⟩ : ∃ m2, m2 = m := ⟨m, rfl⟩
            replace HI2 : Aside0 (FInv (i + 1) (y.map cf) m2) := ⟨by rw [hm2]; exact HI2.out⟩
            obtain ⟨nn, hnn⟩ : ∃ nn : Nat, nn = i := ⟨i, rfl⟩
            replace HM1 : Aside0 (MapIs w10 w6.heap.size nn m2) := ⟨by rw [hnn, hm2]; exact HM1.out⟩
            have hnn1 : nn ≤ i + 1 := by omega
            clear hnn hm2
            go_loopg [12] 10 (fun kq v12 w' => ∃ (a : Int), v12 = .int .i64 a ∧ Aside0 (a + (kq : Int) = 11 ∧ 1 ≤ a ∧ a ≤ 4) ∧ Aside0 (Kd.R k24 24 w' (w6.heap.size + 1) (fun _ => True) (.slice Ay y.length cy) y) ∧ Aside0 (MapIs w' w6.heap.size nn m2) ∧ Aside0 (Below w.heap.size w w'))
            case atStart => exact ⟨1, (by simp), ⟨⟨by omega, by omega, by omega⟩⟩, ⟨Kd.R_mono (Kd.R_below HY.out (by first | exact (Below.refl w10.heap.size w10).alloc (Nat.le_refl _) _ | exact (((Below.refl w10.heap.size w10).alloc (Nat.le_refl _) _).setCell (Nat.le_refl _) _).setCell (Nat.le_refl _) _)) (fun _ _ => trivial)⟩, ⟨HM1.out.below (by first | exact (Below.refl w10.heap.size w10).alloc (Nat.le_refl _) _ | exact (((Below.refl w10.heap.size w10).alloc (Nat.le_refl _) _).setCell (Nat.le_refl _) _).setCell (Nat.le_refl _) _)⟩, ⟨HB1.out.trans (Below.mono (B := w10.heap.size) (by first | exact (Below.refl w10.heap.size w10).alloc (Nat.le_refl _) _ | exact (((Below.refl w10.heap.size w10).alloc (Nat.le_refl _) _).setCell (Nat.le_refl _) _).setCell (Nat.le_refl _) _) HB1.out.size)⟩⟩
            case round => as_aux_lemma =>
              clear HY HM1 HB1
              obtain ⟨a, rfl, HA, HY2, HM2, HB2⟩ := hrel
              obtain ⟨g1, rfl⟩ : ∃ n, gk = n + 1 := ⟨gk - 1, by have := HA.out; omega⟩
              rcases Int.lt_or_le 3 a with ha3 | ha3
              · have hda : decide (a ≤ 3) = false := decide_eq_false (by omega)
                clear ha3
                go_wp2
                go_roundg g0
                case measure => omega
                case rel => exact ⟨y, i + 1, m2, (by first | (simp; done) | (rw [wrap_succ (by omega)])), ⟨⟨by have := HI.out.1; omega, by omega, HI2.out⟩⟩, ⟨HY2.out⟩, ⟨HM2.out.mono (by omega)⟩, ⟨HB2.out⟩⟩
              · have hda : decide (a ≤ 3) = true := decide_eq_true ha3
                go_wp2
                go_loopg [13] 10 (fun kq v13 w' => ∃ (f : Int), v13 = .int .i64 f ∧ Aside0 (f + (kq : Int) = 11 ∧ 1 ≤ f ∧ f ≤ 3) ∧ Aside0 (Kd.R k24 24 w' (w6.heap.size + 1) (fun _ => True) (.slice Ay y.length cy) y) ∧ Aside0 (MapIs w' w6.heap.size nn m2) ∧ Aside0 (Below w.heap.size w w'))
                case atStart => exact ⟨1, (by simp), ⟨⟨by omega, by omega, by omega⟩⟩, ⟨HY2.out⟩, ⟨HM2.out⟩, ⟨HB2.out⟩⟩
                case round => as_aux_lemma =>
                  clear HY2 HM2 HB2
                  obtain ⟨f, rfl, HF, HY2, HM2, HB2⟩ := hrel
                  obtain ⟨g2, rfl⟩ : ∃ n, gk = n + 1 := ⟨gk - 1, by have := HF.out; omega⟩
                  rcases Int.lt_or_le 2 f with hf2 | hf2
                  · have hdf : decide (f ≤ 2) = false := decide_eq_false (by omega)
                    clear hf2
                    go_wp2
                    have hA := HA.out
                    go_roundg g1
                    case measure => omega
                    case rel => exact ⟨a + 1, (by first | (simp; done) | (rw [show wrap64 (a + 1) = a + 1 from by unfold wrap64; omega])), ⟨⟨by omega, by omega, by omega⟩⟩, ⟨HY2.out⟩, ⟨HM2.out⟩, ⟨HB2.out⟩⟩
                  · have hdf : decide (f ≤ 2) = true := decide_eq_true hf2
                    have hwa : (Lit.int .i64 a).wf = true := by have := HA.out; simp [Lit.wf, IntKind.min, IntKind.max, IntKind.bits, IntKind.signed]; omega
                    have HWa := Aside0.mk hwa
                    clear hwa
                    have hby := HY2.out
                    obtain ⟨_, hcy, hCy⟩ := Kd.R_reads' hby
                    have HYl : Aside0 (y.length ≤ 3) := ⟨by have := HI2.out.small; rwa [List.length_map] at this⟩
                    have HWn : Aside0 (line_Ahead.f 50 y a f = some (wb m2 a f 1 || wb m2 a f 2 || wb m2 a f 3)) := ⟨by rw [ahead_f a f y 50 (by have := HYl.out; omega) (by have := HYl.out; omega), ah_map, ahead_want HI2.out]⟩
                    clear hby hCy hcy
                    rename World => wf
                    cases hma : m2 a with
                    | none =>
                      have HMA := Aside0.mk hma
                      go_wp2_with (first
                        | (at_lookup; (refine map_get _ rfl _ _ rfl w6.heap.size nn m2 rfl HM2.out a rfl HWa.out ?_; rw [HMA.out]; simp only [val, Option.getD_none, Option.getD_some, Option.isSome_none, Option.isSome_some]))
                        )
                      go_loopg [14, 17] 10 (fun kq v14 v17 w' => ∃ (b : Nat), v14 = .bool (wn m2 a f b) ∧ v17 = .int .i64 ((b : Int) + 1) ∧ Aside0 (b + kq = 10 ∧ b ≤ 3) ∧ Aside0 (Kd.R k24 24 w' (w6.heap.size + 1) (fun _ => True) (.slice Ay y.length cy) y) ∧ Aside0 (MapIs w' w6.heap.size nn m2) ∧ Aside0 (Below w.heap.size w w') ∧ Aside0 (w'.heap[wf.heap.size]? = some (.cells #[.int .i64 0, .int .i64 0] 35 (0, 0))))
                      case atStart => exact ⟨0, rfl, (by simp), ⟨⟨by omega, by omega⟩⟩, ⟨Kd.R_below HY2.out (by first | exact (Below.refl wf.heap.size wf).alloc (Nat.le_refl _) _ | exact (((Below.refl wf.heap.size wf).alloc (Nat.le_refl _) _).setCell (Nat.le_refl _) _).setCell (Nat.le_refl _) _)⟩, ⟨HM2.out.below (by first | exact (Below.refl wf.heap.size wf).alloc (Nat.le_refl _) _ | exact (((Below.refl wf.heap.size wf).alloc (Nat.le_refl _) _).setCell (Nat.le_refl _) _).setCell (Nat.le_refl _) _)⟩, ⟨HB2.out.trans (Below.mono (B := wf.heap.size) (by first | exact (Below.refl wf.heap.size wf).alloc (Nat.le_refl _) _ | exact (((Below.refl wf.heap.size wf).alloc (Nat.le_refl _) _).setCell (Nat.le_refl _) _).setCell (Nat.le_refl _) _) HB2.out.size)⟩, ⟨by first | exact heap_alloc_new _ _ | (refine blk_put (cs := #[.int .i64 0, .int .i64 0]) ?_ 1 _ rfl; refine blk_put (cs := #[.int .i64 0, .int .i64 0]) ?_ 0 _ rfl; exact heap_alloc_new _ _)⟩⟩
                      case round => as_aux_lemma =>
                        clear HY2 HM2 HB2
                        obtain ⟨b, rfl, rfl, HBb, HY2, HM2, HB2, BK⟩ := hrel
                        obtain ⟨g3, rfl⟩ : ∃ n, gk = n + 1 := ⟨gk - 1, by have := HBb.out; omega⟩
                        rename World => wv
                        rcases Nat.lt_or_ge b 3 with hb3 | hb3
                        case inr =>
                          obtain rfl : b = 3 := by have := HBb.out; omega
                          obtain ⟨_, hcy, hCy⟩ := Kd.R_reads' HY2.out
                          have HCy := Aside0.mk hCy
                          clear hCy
                          have HW3 : Aside0 (line_Ahead.f 50 y a f = some (wn m2 a f 3)) := ⟨by rw [HWn.out]; simp [wn]⟩
                          generalize wn m2 a f 3 = W at HW3 ⊢
                          have hWW : (W != W) = false := by simp
                          go_wp2_with (first | ((with_reducible refine gate_callee (f := 12) rfl ?_); (refine goesL_ (some 156) rfl rfl Try.func12 (by kernel_rfl) rfl #[.slice Ay y.length cy, .int .i64 a, .int .i64 f] rfl (by (try simp only [List.map_toArray, List.map_cons, List.map_nil]); first | done | rfl) ?_; (refine (line_Ahead.calls 50 _ _ y a f W _ HCy.out hcy HW3.out).mono ?_); rintro e w12 ⟨rfl, hb⟩; refine ⟨_, rfl, ?_⟩; have HY3 := Aside0.mk (Kd.R_below HY2.out hb); have HM3 := Aside0.mk (HM2.out.below hb); have HB3 := Aside0.mk (HB2.out.trans (hb.mono HB2.out.size)); clear hb)))
                          have hF := HF.out
                          go_roundg g2
                          case measure => omega
                          case rel => exact ⟨f + 1, (by first | (simp; done) | (rw [show wrap64 (f + 1) = f + 1 from by unfold wrap64; omega])), ⟨⟨by omega, by omega, by omega⟩⟩, ⟨HY3.out⟩, ⟨HM3.out⟩, ⟨HB3.out⟩⟩
                        have hdb : decide ((b : Int) + 1 ≤ 3) = true := decide_eq_true (by omega)
                        have HWb : Aside0 ((Lit.int .i64 ((b : Int) + 1)).wf = true) := ⟨by simp [Lit.wf, IntKind.min, IntKind.max, IntKind.bits, IntKind.signed]; omega⟩
                        have hg1 : wf.heap.size < wv.heap.size := blk_lt BK.out
                        have hg2 : wf.heap.size ≠ wv.heap.size := Nat.ne_of_lt hg1
                        have hg3 := hg2.symm
                        have o0 : wv.cell? ⟨wf.heap.size, 0, none⟩ = some (.int .i64 0) := (blk_cell BK.out 0).trans rfl
                        have o1 : wv.cell? ⟨wf.heap.size, 1, none⟩ = some (.int .i64 0) := (blk_cell BK.out 1).trans rfl
                        cases hwv : wn m2 a f b with
                        | true =>
                          have HWV := Aside0.mk hwv
                          clear hwv
                          go_wp2_with (first | (at_lookup; (refine map_get _ rfl _ _ rfl w6.heap.size nn m2 rfl HM2.out ((b : Int) + 1) rfl HWb.out ?_; simp only [val, Option.getD_none, Option.getD_some, Option.isSome_none, Option.isSome_some])))
                          go_roundg g3
                          case measure => omega
                          case rel => exact ⟨b + 1, (by simp [wn, wb, HMA.out, HWV.out]), (by first | (simp; done) | (rw [show wrap64 ((b : Int) + 1 + 1) = ((b + 1 : Nat) : Int) + 1 from by unfold wrap64; omega])), ⟨⟨by have := HBb.out; omega, by omega⟩⟩, ⟨Kd.R_below HY2.out (by first | exact (Below.refl wv.heap.size wv).alloc (Nat.le_refl _) _ | exact (((Below.refl wv.heap.size wv).alloc (Nat.le_refl _) _).setCell (Nat.le_refl _) _).setCell (Nat.le_refl _) _)⟩, ⟨HM2.out.below (by first | exact (Below.refl wv.heap.size wv).alloc (Nat.le_refl _) _ | exact (((Below.refl wv.heap.size wv).alloc (Nat.le_refl _) _).setCell (Nat.le_refl _) _).setCell (Nat.le_refl _) _)⟩, ⟨HB2.out.trans (Below.mono (B := wv.heap.size) (by first | exact (Below.refl wv.heap.size wv).alloc (Nat.le_refl _) _ | exact (((Below.refl wv.heap.size wv).alloc (Nat.le_refl _) _).setCell (Nat.le_refl _) _).setCell (Nat.le_refl _) _) HB2.out.size)⟩, ⟨blk_below BK.out (by first | exact (Below.refl wv.heap.size wv).alloc (Nat.le_refl _) _ | exact (((Below.refl wv.heap.size wv).alloc (Nat.le_refl _) _).setCell (Nat.le_refl _) _).setCell (Nat.le_refl _) _)⟩⟩
                        | false =>
                          have HWV := Aside0.mk hwv
                          clear hwv
                          by_cases hba : (b : Int) + 1 = a
                          · have hba2 : (((b : Int) + 1) != a) = false := bne_eq_false_iff_eq.2 hba
                            have HBA := Aside0.mk hba
                            clear hba
                            go_wp2_with (first | (at_lookup; (refine map_get _ rfl _ _ rfl w6.heap.size nn m2 rfl HM2.out ((b : Int) + 1) rfl HWb.out ?_; simp only [val, Option.getD_none, Option.getD_some, Option.isSome_none, Option.isSome_some])))
                            go_roundg g3
                            case measure => omega
                            case rel => exact ⟨b + 1, (by simp [wn, wb, HMA.out, HWV.out, HBA.out]), (by first | (simp; done) | (rw [show wrap64 ((b : Int) + 1 + 1) = ((b + 1 : Nat) : Int) + 1 from by unfold wrap64; omega])), ⟨⟨by have := HBb.out; omega, by omega⟩⟩, ⟨Kd.R_below HY2.out (by first | exact (Below.refl wv.heap.size wv).alloc (Nat.le_refl _) _ | exact (((Below.refl wv.heap.size wv).alloc (Nat.le_refl _) _).setCell (Nat.le_refl _) _).setCell (Nat.le_refl _) _)⟩, ⟨HM2.out.below (by first | exact (Below.refl wv.heap.size wv).alloc (Nat.le_refl _) _ | exact (((Below.refl wv.heap.size wv).alloc (Nat.le_refl _) _).setCell (Nat.le_refl _) _).setCell (Nat.le_refl _) _)⟩, ⟨HB2.out.trans (Below.mono (B := wv.heap.size) (by first | exact (Below.refl wv.heap.size wv).alloc (Nat.le_refl _) _ | exact (((Below.refl wv.heap.size wv).alloc (Nat.le_refl _) _).setCell (Nat.le_refl _) _).setCell (Nat.le_refl _) _) HB2.out.size)⟩, ⟨blk_below BK.out (by first | exact (Below.refl wv.heap.size wv).alloc (Nat.le_refl _) _ | exact (((Below.refl wv.heap.size wv).alloc (Nat.le_refl _) _).setCell (Nat.le_refl _) _).setCell (Nat.le_refl _) _)⟩⟩
                          have hba2 : (((b : Int) + 1) != a) = true := bne_iff_ne.2 hba
                          cases hmb : m2 ((b : Int) + 1) with
                          | none =>
                            have HMB := Aside0.mk hmb
                            clear hmb
                            go_wp2_with (first | (at_lookup; (refine map_get _ rfl _ _ rfl w6.heap.size nn m2 rfl HM2.out ((b : Int) + 1) rfl HWb.out ?_; rw [HMB.out]; simp only [val, Option.getD_none, Option.getD_some, Option.isSome_none, Option.isSome_some])))
                            go_roundg g3
                            case measure => omega
                            case rel => exact ⟨b + 1, (by simp [wn, wb, HMA.out, HWV.out, HMB.out]), (by first | (simp; done) | (rw [show wrap64 ((b : Int) + 1 + 1) = ((b + 1 : Nat) : Int) + 1 from by unfold wrap64; omega])), ⟨⟨by have := HBb.out; omega, by omega⟩⟩, ⟨Kd.R_below HY2.out (by first | exact (Below.refl wv.heap.size wv).alloc (Nat.le_refl _) _ | exact (((Below.refl wv.heap.size wv).alloc (Nat.le_refl _) _).setCell (Nat.le_refl _) _).setCell (Nat.le_refl _) _)⟩, ⟨HM2.out.below (by first | exact (Below.refl wv.heap.size wv).alloc (Nat.le_refl _) _ | exact (((Below.refl wv.heap.size wv).alloc (Nat.le_refl _) _).setCell (Nat.le_refl _) _).setCell (Nat.le_refl _) _)⟩, ⟨HB2.out.trans (Below.mono (B := wv.heap.size) (by first | exact (Below.refl wv.heap.size wv).alloc (Nat.le_refl _) _ | exact (((Below.refl wv.heap.size wv).alloc (Nat.le_refl _) _).setCell (Nat.le_refl _) _).setCell (Nat.le_refl _) _) HB2.out.size)⟩, ⟨blk_below BK.out (by first | exact (Below.refl wv.heap.size wv).alloc (Nat.le_refl _) _ | exact (((Below.refl wv.heap.size wv).alloc (Nat.le_refl _) _).setCell (Nat.le_refl _) _).setCell (Nat.le_refl _) _)⟩⟩
                          | some qb =>
                            have HMB := Aside0.mk hmb
                            clear hmb
                            by_cases hqf : qb.1 = f
                            case neg =>
                              have hqf2 : (qb.1 == f) = false := beq_eq_false_iff_ne.2 hqf
                              go_wp2_with (first | (at_lookup; (refine map_get _ rfl _ _ rfl w6.heap.size nn m2 rfl HM2.out ((b : Int) + 1) rfl HWb.out ?_; rw [HMB.out]; simp only [val, Option.getD_none, Option.getD_some, Option.isSome_none, Option.isSome_some])))
                              go_roundg g3
                              case measure => omega
                              case rel => exact ⟨b + 1, (by simp [wn, wb, HMA.out, HWV.out, HMB.out, hqf]), (by first | (simp; done) | (rw [show wrap64 ((b : Int) + 1 + 1) = ((b + 1 : Nat) : Int) + 1 from by unfold wrap64; omega])), ⟨⟨by have := HBb.out; omega, by omega⟩⟩, ⟨Kd.R_below HY2.out (by first | exact (Below.refl wv.heap.size wv).alloc (Nat.le_refl _) _ | exact (((Below.refl wv.heap.size wv).alloc (Nat.le_refl _) _).setCell (Nat.le_refl _) _).setCell (Nat.le_refl _) _)⟩, ⟨HM2.out.below (by first | exact (Below.refl wv.heap.size wv).alloc (Nat.le_refl _) _ | exact (((Below.refl wv.heap.size wv).alloc (Nat.le_refl _) _).setCell (Nat.le_refl _) _).setCell (Nat.le_refl _) _)⟩, ⟨HB2.out.trans (Below.mono (B := wv.heap.size) (by first | exact (Below.refl wv.heap.size wv).alloc (Nat.le_refl _) _ | exact (((Below.refl wv.heap.size wv).alloc (Nat.le_refl _) _).setCell (Nat.le_refl _) _).setCell (Nat.le_refl _) _) HB2.out.size)⟩, ⟨blk_below BK.out (by first | exact (Below.refl wv.heap.size wv).alloc (Nat.le_refl _) _ | exact (((Below.refl wv.heap.size wv).alloc (Nat.le_refl _) _).setCell (Nat.le_refl _) _).setCell (Nat.le_refl _) _)⟩⟩
                            have hqf2 : (qb.1 == f) = true := beq_iff_eq.2 hqf
                            have HQF := Aside0.mk hqf
                            clear hqf
                            go_wp2_with (first | (at_lookup; (refine map_get _ rfl _ _ rfl w6.heap.size nn m2 rfl HM2.out ((b : Int) + 1) rfl HWb.out ?_; rw [HMB.out]; simp only [val, Option.getD_none, Option.getD_some, Option.isSome_none, Option.isSome_some])))
                            go_roundg g3
                            case measure => omega
                            case rel => exact ⟨b + 1, (by simp [wn, wb, HMA.out, HWV.out, HMB.out, hba, HQF.out]), (by first | (simp; done) | (rw [show wrap64 ((b : Int) + 1 + 1) = ((b + 1 : Nat) : Int) + 1 from by unfold wrap64; omega])), ⟨⟨by have := HBb.out; omega, by omega⟩⟩, ⟨Kd.R_below HY2.out (by first | exact (Below.refl wv.heap.size wv).alloc (Nat.le_refl _) _ | exact (((Below.refl wv.heap.size wv).alloc (Nat.le_refl _) _).setCell (Nat.le_refl _) _).setCell (Nat.le_refl _) _)⟩, ⟨HM2.out.below (by first | exact (Below.refl wv.heap.size wv).alloc (Nat.le_refl _) _ | exact (((Below.refl wv.heap.size wv).alloc (Nat.le_refl _) _).setCell (Nat.le_refl _) _).setCell (Nat.le_refl _) _)⟩, ⟨HB2.out.trans (Below.mono (B := wv.heap.size) (by first | exact (Below.refl wv.heap.size wv).alloc (Nat.le_refl _) _ | exact (((Below.refl wv.heap.size wv).alloc (Nat.le_refl _) _).setCell (Nat.le_refl _) _).setCell (Nat.le_refl _) _) HB2.out.size)⟩, ⟨blk_below BK.out (by first | exact (Below.refl wv.heap.size wv).alloc (Nat.le_refl _) _ | exact (((Below.refl wv.heap.size wv).alloc (Nat.le_refl _) _).setCell (Nat.le_refl _) _).setCell (Nat.le_refl _) _)⟩⟩
                    | some pa =>
                      have HMA := Aside0.mk hma
                      go_wp2_with (first
                        | (at_lookup; (refine map_get _ rfl _ _ rfl w6.heap.size nn m2 rfl HM2.out a rfl HWa.out ?_; rw [HMA.out]; simp only [val, Option.getD_none, Option.getD_some, Option.isSome_none, Option.isSome_some]))
                        )
                      go_loopg [14, 17] 10 (fun kq v14 v17 w' => ∃ (b : Nat), v14 = .bool (wn m2 a f b) ∧ v17 = .int .i64 ((b : Int) + 1) ∧ Aside0 (b + kq = 10 ∧ b ≤ 3) ∧ Aside0 (Kd.R k24 24 w' (w6.heap.size + 1) (fun _ => True) (.slice Ay y.length cy) y) ∧ Aside0 (MapIs w' w6.heap.size nn m2) ∧ Aside0 (Below w.heap.size w w') ∧ Aside0 (w'.heap[wf.heap.size]? = some (.cells #[.int .i64 pa.1, .int .i64 pa.2] 35 (0, 0))))
                      case atStart => exact ⟨0, rfl, (by simp), ⟨⟨by omega, by omega⟩⟩, ⟨Kd.R_below HY2.out (by first | exact (Below.refl wf.heap.size wf).alloc (Nat.le_refl _) _ | exact (((Below.refl wf.heap.size wf).alloc (Nat.le_refl _) _).setCell (Nat.le_refl _) _).setCell (Nat.le_refl _) _)⟩, ⟨HM2.out.below (by first | exact (Below.refl wf.heap.size wf).alloc (Nat.le_refl _) _ | exact (((Below.refl wf.heap.size wf).alloc (Nat.le_refl _) _).setCell (Nat.le_refl _) _).setCell (Nat.le_refl _) _)⟩, ⟨HB2.out.trans (Below.mono (B := wf.heap.size) (by first | exact (Below.refl wf.heap.size wf).alloc (Nat.le_refl _) _ | exact (((Below.refl wf.heap.size wf).alloc (Nat.le_refl _) _).setCell (Nat.le_refl _) _).setCell (Nat.le_refl _) _) HB2.out.size)⟩, ⟨by first | exact heap_alloc_new _ _ | (refine blk_put (cs := #[.int .i64 pa.1, .int .i64 0]) ?_ 1 _ rfl; refine blk_put (cs := #[.int .i64 0, .int .i64 0]) ?_ 0 _ rfl; exact heap_alloc_new _ _)⟩⟩
                      case round => as_aux_lemma =>
                        clear HY2 HM2 HB2
                        obtain ⟨b, rfl, rfl, HBb, HY2, HM2, HB2, BK⟩ := hrel
                        obtain ⟨g3, rfl⟩ : ∃ n, gk = n + 1 := ⟨gk - 1, by have := HBb.out; omega⟩
                        rename World => wv
                        rcases Nat.lt_or_ge b 3 with hb3 | hb3
                        case inr =>
                          obtain rfl : b = 3 := by have := HBb.out; omega
                          obtain ⟨_, hcy, hCy⟩ := Kd.R_reads' HY2.out
                          have HCy := Aside0.mk hCy
                          clear hCy
                          have HW3 : Aside0 (line_Ahead.f 50 y a f = some (wn m2 a f 3)) := ⟨by rw [HWn.out]; simp [wn]⟩
                          generalize wn m2 a f 3 = W at HW3 ⊢
                          have hWW : (W != W) = false := by simp
                          go_wp2_with (first | ((with_reducible refine gate_callee (f := 12) rfl ?_); (refine goesL_ (some 156) rfl rfl Try.func12 (by kernel_rfl) rfl #[.slice Ay y.length cy, .int .i64 a, .int .i64 f] rfl (by (try simp only [List.map_toArray, List.map_cons, List.map_nil]); first | done | rfl) ?_; (refine (line_Ahead.calls 50 _ _ y a f W _ HCy.out hcy HW3.out).mono ?_); rintro e w12 ⟨rfl, hb⟩; refine ⟨_, rfl, ?_⟩; have HY3 := Aside0.mk (Kd.R_below HY2.out hb); have HM3 := Aside0.mk (HM2.out.below hb); have HB3 := Aside0.mk (HB2.out.trans (hb.mono HB2.out.size)); clear hb)))
                          have hF := HF.out
                          go_roundg g2
                          case measure => omega
                          case rel => exact ⟨f + 1, (by first | (simp; done) | (rw [show wrap64 (f + 1) = f + 1 from by unfold wrap64; omega])), ⟨⟨by omega, by omega, by omega⟩⟩, ⟨HY3.out⟩, ⟨HM3.out⟩, ⟨HB3.out⟩⟩
                        have hdb : decide ((b : Int) + 1 ≤ 3) = true := decide_eq_true (by omega)
                        have HWb : Aside0 ((Lit.int .i64 ((b : Int) + 1)).wf = true) := ⟨by simp [Lit.wf, IntKind.min, IntKind.max, IntKind.bits, IntKind.signed]; omega⟩
                        have hg1 : wf.heap.size < wv.heap.size := blk_lt BK.out
                        have hg2 : wf.heap.size ≠ wv.heap.size := Nat.ne_of_lt hg1
                        have hg3 := hg2.symm
                        have o0 : wv.cell? ⟨wf.heap.size, 0, none⟩ = some (.int .i64 pa.1) := (blk_cell BK.out 0).trans rfl
                        have o1 : wv.cell? ⟨wf.heap.size, 1, none⟩ = some (.int .i64 pa.2) := (blk_cell BK.out 1).trans rfl
                        cases hwv : wn m2 a f b with
                        | true =>
                          have HWV := Aside0.mk hwv
                          clear hwv
                          go_wp2_with (first | (at_lookup; (refine map_get _ rfl _ _ rfl w6.heap.size nn m2 rfl HM2.out ((b : Int) + 1) rfl HWb.out ?_; simp only [val, Option.getD_none, Option.getD_some, Option.isSome_none, Option.isSome_some])))
                          go_roundg g3
                          case measure => omega
                          case rel => exact ⟨b + 1, (by simp [wn, wb, HMA.out, HWV.out]), (by first | (simp; done) | (rw [show wrap64 ((b : Int) + 1 + 1) = ((b + 1 : Nat) : Int) + 1 from by unfold wrap64; omega])), ⟨⟨by have := HBb.out; omega, by omega⟩⟩, ⟨Kd.R_below HY2.out (by first | exact (Below.refl wv.heap.size wv).alloc (Nat.le_refl _) _ | exact (((Below.refl wv.heap.size wv).alloc (Nat.le_refl _) _).setCell (Nat.le_refl _) _).setCell (Nat.le_refl _) _)⟩, ⟨HM2.out.below (by first | exact (Below.refl wv.heap.size wv).alloc (Nat.le_refl _) _ | exact (((Below.refl wv.heap.size wv).alloc (Nat.le_refl _) _).setCell (Nat.le_refl _) _).setCell (Nat.le_refl _) _)⟩, ⟨HB2.out.trans (Below.mono (B := wv.heap.size) (by first | exact (Below.refl wv.heap.size wv).alloc (Nat.le_refl _) _ | exact (((Below.refl wv.heap.size wv).alloc (Nat.le_refl _) _).setCell (Nat.le_refl _) _).setCell (Nat.le_refl _) _) HB2.out.size)⟩, ⟨blk_below BK.out (by first | exact (Below.refl wv.heap.size wv).alloc (Nat.le_refl _) _ | exact (((Below.refl wv.heap.size wv).alloc (Nat.le_refl _) _).setCell (Nat.le_refl _) _).setCell (Nat.le_refl _) _)⟩⟩
                        | false =>
                          have HWV := Aside0.mk hwv
                          clear hwv
                          by_cases hba : (b : Int) + 1 = a
                          · have hba2 : (((b : Int) + 1) != a) = false := bne_eq_false_iff_eq.2 hba
                            have HBA := Aside0.mk hba
                            clear hba
                            go_wp2_with (first | (at_lookup; (refine map_get _ rfl _ _ rfl w6.heap.size nn m2 rfl HM2.out ((b : Int) + 1) rfl HWb.out ?_; simp only [val, Option.getD_none, Option.getD_some, Option.isSome_none, Option.isSome_some])))
                            go_roundg g3
                            case measure => omega
                            case rel => exact ⟨b + 1, (by simp [wn, wb, HMA.out, HWV.out, HBA.out]), (by first | (simp; done) | (rw [show wrap64 ((b : Int) + 1 + 1) = ((b + 1 : Nat) : Int) + 1 from by unfold wrap64; omega])), ⟨⟨by have := HBb.out; omega, by omega⟩⟩, ⟨Kd.R_below HY2.out (by first | exact (Below.refl wv.heap.size wv).alloc (Nat.le_refl _) _ | exact (((Below.refl wv.heap.size wv).alloc (Nat.le_refl _) _).setCell (Nat.le_refl _) _).setCell (Nat.le_refl _) _)⟩, ⟨HM2.out.below (by first | exact (Below.refl wv.heap.size wv).alloc (Nat.le_refl _) _ | exact (((Below.refl wv.heap.size wv).alloc (Nat.le_refl _) _).setCell (Nat.le_refl _) _).setCell (Nat.le_refl _) _)⟩, ⟨HB2.out.trans (Below.mono (B := wv.heap.size) (by first | exact (Below.refl wv.heap.size wv).alloc (Nat.le_refl _) _ | exact (((Below.refl wv.heap.size wv).alloc (Nat.le_refl _) _).setCell (Nat.le_refl _) _).setCell (Nat.le_refl _) _) HB2.out.size)⟩, ⟨blk_below BK.out (by first | exact (Below.refl wv.heap.size wv).alloc (Nat.le_refl _) _ | exact (((Below.refl wv.heap.size wv).alloc (Nat.le_refl _) _).setCell (Nat.le_refl _) _).setCell (Nat.le_refl _) _)⟩⟩
                          have hba2 : (((b : Int) + 1) != a) = true := bne_iff_ne.2 hba
                          cases hmb : m2 ((b : Int) + 1) with
                          | none =>
                            have HMB := Aside0.mk hmb
                            clear hmb
                            go_wp2_with (first | (at_lookup; (refine map_get _ rfl _ _ rfl w6.heap.size nn m2 rfl HM2.out ((b : Int) + 1) rfl HWb.out ?_; rw [HMB.out]; simp only [val, Option.getD_none, Option.getD_some, Option.isSome_none, Option.isSome_some])))
                            go_roundg g3
                            case measure => omega
                            case rel => exact ⟨b + 1, (by simp [wn, wb, HMA.out, HWV.out, HMB.out]), (by first | (simp; done) | (rw [show wrap64 ((b : Int) + 1 + 1) = ((b + 1 : Nat) : Int) + 1 from by unfold wrap64; omega])), ⟨⟨by have := HBb.out; omega, by omega⟩⟩, ⟨Kd.R_below HY2.out (by first | exact (Below.refl wv.heap.size wv).alloc (Nat.le_refl _) _ | exact (((Below.refl wv.heap.size wv).alloc (Nat.le_refl _) _).setCell (Nat.le_refl _) _).setCell (Nat.le_refl _) _)⟩, ⟨HM2.out.below (by first | exact (Below.refl wv.heap.size wv).alloc (Nat.le_refl _) _ | exact (((Below.refl wv.heap.size wv).alloc (Nat.le_refl _) _).setCell (Nat.le_refl _) _).setCell (Nat.le_refl _) _)⟩, ⟨HB2.out.trans (Below.mono (B := wv.heap.size) (by first | exact (Below.refl wv.heap.size wv).alloc (Nat.le_refl _) _ | exact (((Below.refl wv.heap.size wv).alloc (Nat.le_refl _) _).setCell (Nat.le_refl _) _).setCell (Nat.le_refl _) _) HB2.out.size)⟩, ⟨blk_below BK.out (by first | exact (Below.refl wv.heap.size wv).alloc (Nat.le_refl _) _ | exact (((Below.refl wv.heap.size wv).alloc (Nat.le_refl _) _).setCell (Nat.le_refl _) _).setCell (Nat.le_refl _) _)⟩⟩
                          | some qb =>
                            have HMB := Aside0.mk hmb
                            clear hmb
                            by_cases hqf : qb.1 = f
                            case neg =>
                              have hqf2 : (qb.1 == f) = false := beq_eq_false_iff_ne.2 hqf
                              go_wp2_with (first | (at_lookup; (refine map_get _ rfl _ _ rfl w6.heap.size nn m2 rfl HM2.out ((b : Int) + 1) rfl HWb.out ?_; rw [HMB.out]; simp only [val, Option.getD_none, Option.getD_some, Option.isSome_none, Option.isSome_some])))
                              go_roundg g3
                              case measure => omega
                              case rel => exact ⟨b + 1, (by simp [wn, wb, HMA.out, HWV.out, HMB.out, hqf]), (by first | (simp; done) | (rw [show wrap64 ((b : Int) + 1 + 1) = ((b + 1 : Nat) : Int) + 1 from by unfold wrap64; omega])), ⟨⟨by have := HBb.out; omega, by omega⟩⟩, ⟨Kd.R_below HY2.out (by first | exact (Below.refl wv.heap.size wv).alloc (Nat.le_refl _) _ | exact (((Below.refl wv.heap.size wv).alloc (Nat.le_refl _) _).setCell (Nat.le_refl _) _).setCell (Nat.le_refl _) _)⟩, ⟨HM2.out.below (by first | exact (Below.refl wv.heap.size wv).alloc (Nat.le_refl _) _ | exact (((Below.refl wv.heap.size wv).alloc (Nat.le_refl _) _).setCell (Nat.le_refl _) _).setCell (Nat.le_refl _) _)⟩, ⟨HB2.out.trans (Below.mono (B := wv.heap.size) (by first | exact (Below.refl wv.heap.size wv).alloc (Nat.le_refl _) _ | exact (((Below.refl wv.heap.size wv).alloc (Nat.le_refl _) _).setCell (Nat.le_refl _) _).setCell (Nat.le_refl _) _) HB2.out.size)⟩, ⟨blk_below BK.out (by first | exact (Below.refl wv.heap.size wv).alloc (Nat.le_refl _) _ | exact (((Below.refl wv.heap.size wv).alloc (Nat.le_refl _) _).setCell (Nat.le_refl _) _).setCell (Nat.le_refl _) _)⟩⟩
                            have hqf2 : (qb.1 == f) = true := beq_iff_eq.2 hqf
                            have HQF := Aside0.mk hqf
                            clear hqf
                            by_cases hpf : pa.1 = f
                            case neg =>
                              have hpf2 : (pa.1 != f) = true := bne_iff_ne.2 hpf
                              go_wp2_with (first | (at_lookup; (refine map_get _ rfl _ _ rfl w6.heap.size nn m2 rfl HM2.out ((b : Int) + 1) rfl HWb.out ?_; rw [HMB.out]; simp only [val, Option.getD_none, Option.getD_some, Option.isSome_none, Option.isSome_some])))
                              go_roundg g3
                              case measure => omega
                              case rel => exact ⟨b + 1, (by simp [wn, wb, HMA.out, HWV.out, HMB.out, hba, HQF.out, hpf]), (by first | (simp; done) | (rw [show wrap64 ((b : Int) + 1 + 1) = ((b + 1 : Nat) : Int) + 1 from by unfold wrap64; omega])), ⟨⟨by have := HBb.out; omega, by omega⟩⟩, ⟨Kd.R_below HY2.out (by first | exact (Below.refl wv.heap.size wv).alloc (Nat.le_refl _) _ | exact (((Below.refl wv.heap.size wv).alloc (Nat.le_refl _) _).setCell (Nat.le_refl _) _).setCell (Nat.le_refl _) _)⟩, ⟨HM2.out.below (by first | exact (Below.refl wv.heap.size wv).alloc (Nat.le_refl _) _ | exact (((Below.refl wv.heap.size wv).alloc (Nat.le_refl _) _).setCell (Nat.le_refl _) _).setCell (Nat.le_refl _) _)⟩, ⟨HB2.out.trans (Below.mono (B := wv.heap.size) (by first | exact (Below.refl wv.heap.size wv).alloc (Nat.le_refl _) _ | exact (((Below.refl wv.heap.size wv).alloc (Nat.le_refl _) _).setCell (Nat.le_refl _) _).setCell (Nat.le_refl _) _) HB2.out.size)⟩, ⟨blk_below BK.out (by first | exact (Below.refl wv.heap.size wv).alloc (Nat.le_refl _) _ | exact (((Below.refl wv.heap.size wv).alloc (Nat.le_refl _) _).setCell (Nat.le_refl _) _).setCell (Nat.le_refl _) _)⟩⟩
                            have hpf2 : (pa.1 != f) = false := bne_eq_false_iff_eq.2 hpf
                            have HPF := Aside0.mk hpf
                            clear hpf
                            by_cases hlt : qb.2 < pa.2
                            · have hlt2 : decide (qb.2 < pa.2) = true := decide_eq_true hlt
                              go_wp2_with (first | (at_lookup; (refine map_get _ rfl _ _ rfl w6.heap.size nn m2 rfl HM2.out ((b : Int) + 1) rfl HWb.out ?_; rw [HMB.out]; simp only [val, Option.getD_none, Option.getD_some, Option.isSome_none, Option.isSome_some])))
                              go_roundg g3
                              case measure => omega
                              case rel => exact ⟨b + 1, (by simp [wn, wb, HMA.out, HWV.out, HMB.out, hba, HQF.out, HPF.out, hlt]), (by first | (simp; done) | (rw [show wrap64 ((b : Int) + 1 + 1) = ((b + 1 : Nat) : Int) + 1 from by unfold wrap64; omega])), ⟨⟨by have := HBb.out; omega, by omega⟩⟩, ⟨Kd.R_below HY2.out (by first | exact (Below.refl wv.heap.size wv).alloc (Nat.le_refl _) _ | exact (((Below.refl wv.heap.size wv).alloc (Nat.le_refl _) _).setCell (Nat.le_refl _) _).setCell (Nat.le_refl _) _)⟩, ⟨HM2.out.below (by first | exact (Below.refl wv.heap.size wv).alloc (Nat.le_refl _) _ | exact (((Below.refl wv.heap.size wv).alloc (Nat.le_refl _) _).setCell (Nat.le_refl _) _).setCell (Nat.le_refl _) _)⟩, ⟨HB2.out.trans (Below.mono (B := wv.heap.size) (by first | exact (Below.refl wv.heap.size wv).alloc (Nat.le_refl _) _ | exact (((Below.refl wv.heap.size wv).alloc (Nat.le_refl _) _).setCell (Nat.le_refl _) _).setCell (Nat.le_refl _) _) HB2.out.size)⟩, ⟨blk_below BK.out (by first | exact (Below.refl wv.heap.size wv).alloc (Nat.le_refl _) _ | exact (((Below.refl wv.heap.size wv).alloc (Nat.le_refl _) _).setCell (Nat.le_refl _) _).setCell (Nat.le_refl _) _)⟩⟩
                            · have hlt2 : decide (qb.2 < pa.2) = false := decide_eq_false hlt
                              go_wp2_with (first | (at_lookup; (refine map_get _ rfl _ _ rfl w6.heap.size nn m2 rfl HM2.out ((b : Int) + 1) rfl HWb.out ?_; rw [HMB.out]; simp only [val, Option.getD_none, Option.getD_some, Option.isSome_none, Option.isSome_some])))
                              go_roundg g3
                              case measure => omega
                              case rel => exact ⟨b + 1, (by simp [wn, wb, HMA.out, HWV.out, HMB.out, hba, HQF.out, HPF.out, hlt]), (by first | (simp; done) | (rw [show wrap64 ((b : Int) + 1 + 1) = ((b + 1 : Nat) : Int) + 1 from by unfold wrap64; omega])), ⟨⟨by have := HBb.out; omega, by omega⟩⟩, ⟨Kd.R_below HY2.out (by first | exact (Below.refl wv.heap.size wv).alloc (Nat.le_refl _) _ | exact (((Below.refl wv.heap.size wv).alloc (Nat.le_refl _) _).setCell (Nat.le_refl _) _).setCell (Nat.le_refl _) _)⟩, ⟨HM2.out.below (by first | exact (Below.refl wv.heap.size wv).alloc (Nat.le_refl _) _ | exact (((Below.refl wv.heap.size wv).alloc (Nat.le_refl _) _).setCell (Nat.le_refl _) _).setCell (Nat.le_refl _) _)⟩, ⟨HB2.out.trans (Below.mono (B := wv.heap.size) (by first | exact (Below.refl wv.heap.size wv).alloc (Nat.le_refl _) _ | exact (((Below.refl wv.heap.size wv).alloc (Nat.le_refl _) _).setCell (Nat.le_refl _) _).setCell (Nat.le_refl _) _) HB2.out.size)⟩, ⟨blk_below BK.out (by first | exact (Below.refl wv.heap.size wv).alloc (Nat.le_refl _) _ | exact (((Below.refl wv.heap.size wv).alloc (Nat.le_refl _) _).setCell (Nat.le_refl _) _).setCell (Nat.le_refl _) _)⟩⟩
          · have hpf2 : (pc.1 != f) = true := bne_iff_ne.2 hpf
            have HI2 : Aside0 (FInv (i + 1) (y.map cf) (m.up c (f, (i : Int)))) := ⟨by rw [HP2.out.2 (fun h => by rw [HMC.out] at h; exact hpf h.2)]; exact HI.out.2.2.put c f HC.out⟩
            have hlen : (y.length : Int) = ((m.up c (f, (i : Int))).cnt : Int) := by have := HI2.out.len; rw [List.length_map] at this; omega
            have hlen1 : ((y.length : Int) != ((m.up c (f, (i : Int))).cnt : Int)) = false := bne_eq_false_iff_eq.2 hlen
            go_wp2_with (first
              | ((with_reducible refine gate_callee (f := 7) rfl ?_); (refine goesL_ (some 62) rfl rfl Try.func7 (by kernel_rfl) rfl #[.slice Ax x.length cx, .agg #[.int .i64 c, .int .i64 (1 + (i : Int)), .int .i64 f, .int .i64 1]] rfl (by (try simp only [List.map_toArray, List.map_cons, List.map_nil]); first | done | rfl) ?_; (refine (line_Put.calls 20 _ _ x c (1 + (i : Int)) f 1 y true _ HCx.out hcx HP.out).mono ?_); rintro e w10 ⟨v, rfl, ho, hb⟩; refine ⟨_, rfl, ?_⟩; obtain ⟨Ay, cy, rfl⟩ := Kd.R_slice ho; have hb9 := hb; have HM1 := Aside0.mk (HM.out.below hb9); have HY := Aside0.mk (Kd.R_mono (ok' := fun k => w6.heap.size + 1 ≤ k) (Kd.R_bound (Kd.R_lower (base' := w6.heap.size + 1) ho (by have := HM.out.lt; omega))) (fun k hk => hk.2.1)); have HB1 := Aside0.mk (HB.out.trans (hb9.mono HB.out.size)); clear ho hb hb9))
              | (at_lookup; (refine map_get _ rfl _ _ rfl w6.heap.size i m rfl HM1.out c rfl HWc.out ?_; rw [HMC.out]; simp only [val, Option.getD_none, Option.getD_some, Option.isSome_none, Option.isSome_some]))
              | (at_mapUpdate; (refine map_put _ rfl _ _ _ rfl w6.heap.size i m rfl (HM1.out.below (by first | exact (Below.refl w10.heap.size w10).alloc (Nat.le_refl _) _ | exact (((Below.refl w10.heap.size w10).alloc (Nat.le_refl _) _).setCell (Nat.le_refl _) _).setCell (Nat.le_refl _) _)) (by unfold maxLen; omega) c rfl HC.out (f, (i : Int)) rfl ?_; intro w11 hm11 hg11; have HM2 := Aside0.mk hm11; have HB2 := Aside0.mk (Below.grown (HB1.out.trans (Below.mono (B := w10.heap.size) (by first | exact (Below.refl w10.heap.size w10).alloc (Nat.le_refl _) _ | exact (((Below.refl w10.heap.size w10).alloc (Nat.le_refl _) _).setCell (Nat.le_refl _) _).setCell (Nat.le_refl _) _) HB1.out.size)) hg11 (Nat.le_trans HB1.out.size (Below.size (B := w10.heap.size) (by first | exact (Below.refl w10.heap.size w10).alloc (Nat.le_refl _) _ | exact (((Below.refl w10.heap.size w10).alloc (Nat.le_refl _) _).setCell (Nat.le_refl _) _).setCell (Nat.le_refl _) _))) (fun k hk => by injection hk with hk; omega)); have HY2 := Aside0.mk (Kd.R_grown (Kd.R_below HY.out (by first | exact (Below.refl w10.heap.size w10).alloc (Nat.le_refl _) _ | exact (((Below.refl w10.heap.size w10).alloc (Nat.le_refl _) _).setCell (Nat.le_refl _) _).setCell (Nat.le_refl _) _)) hg11 (fun k hk e => by injection e with e; omega)); clear hm11 hg11))
              | ((with_reducible refine gate_builtin (b := .len) (xs := #[.tmp 94]) rfl ?_); (refine map_len _ rfl _ rfl w6.heap.size (i + 1) (m.up c (f, (i : Int))) rfl HM2.out ?_)))
            clear hlen hlen1 HM1 HB1 HY
            generalize m.up c (f, (i : Int)) = m2 at HM2 HI2 ⊢
            replace HY2 := Aside0.mk (Kd.R_mono (ok' := fun _ => True) HY2.out (fun _ _ => trivial))
            obtain ⟨nn, hnn⟩ : ∃ nn : Nat, nn = i + 1 := ⟨i + 1, rfl⟩
            replace HM2 : Aside0 (MapIs w11 w6.heap.size nn m2) := ⟨by rw [hnn]; exact HM2.out⟩
            have hnn1 : nn ≤ i + 1 := by omega
            clear hnn
            go_loopg [12] 10 (fun kq v12 w' => ∃ (a : Int), v12 = .int .i64 a ∧ Aside0 (a + (kq : Int) = 11 ∧ 1 ≤ a ∧ a ≤ 4) ∧ Aside0 (Kd.R k24 24 w' (w6.heap.size + 1) (fun _ => True) (.slice Ay y.length cy) y) ∧ Aside0 (MapIs w' w6.heap.size nn m2) ∧ Aside0 (Below w.heap.size w w'))
            case atStart => exact ⟨1, (by simp), ⟨⟨by omega, by omega, by omega⟩⟩, ⟨HY2.out⟩, ⟨HM2.out⟩, ⟨HB2.out⟩⟩
            case round => as_aux_lemma =>
              clear HY2 HM2 HB2
              obtain ⟨a, rfl, HA, HY2, HM2, HB2⟩ := hrel
              obtain ⟨g1, rfl⟩ : ∃ n, gk = n + 1 := ⟨gk - 1, by have := HA.out; omega⟩
              rcases Int.lt_or_le 3 a with ha3 | ha3
              · have hda : decide (a ≤ 3) = false := decide_eq_false (by omega)
                clear ha3
                go_wp2
                go_roundg g0
                case measure => omega
                case rel => exact ⟨y, i + 1, m2, (by first | (simp; done) | (rw [wrap_succ (by omega)])), ⟨⟨by have := HI.out.1; omega, by omega, HI2.out⟩⟩, ⟨HY2.out⟩, ⟨HM2.out.mono (by omega)⟩, ⟨HB2.out⟩⟩
              · have hda : decide (a ≤ 3) = true := decide_eq_true ha3
                go_wp2
                go_loopg [13] 10 (fun kq v13 w' => ∃ (f : Int), v13 = .int .i64 f ∧ Aside0 (f + (kq : Int) = 11 ∧ 1 ≤ f ∧ f ≤ 3) ∧ Aside0 (Kd.R k24 24 w' (w6.heap.size + 1) (fun _ => True) (.slice Ay y.length cy) y) ∧ Aside0 (MapIs w' w6.heap.size nn m2) ∧ Aside0 (Below w.heap.size w w'))
                case atStart => exact ⟨1, (by simp), ⟨⟨by omega, by omega, by omega⟩⟩, ⟨HY2.out⟩, ⟨HM2.out⟩, ⟨HB2.out⟩⟩
                case round => as_aux_lemma =>
                  clear HY2 HM2 HB2
                  obtain ⟨f, rfl, HF, HY2, HM2, HB2⟩ := hrel
                  obtain ⟨g2, rfl⟩ : ∃ n, gk = n + 1 := ⟨gk - 1, by have := HF.out; omega⟩
                  rcases Int.lt_or_le 2 f with hf2 | hf2
                  · have hdf : decide (f ≤ 2) = false := decide_eq_false (by omega)
                    clear hf2
                    go_wp2
                    have hA := HA.out
                    go_roundg g1
                    case measure => omega
                    case rel => exact ⟨a + 1, (by first | (simp; done) | (rw [show wrap64 (a + 1) = a + 1 from by unfold wrap64; omega])), ⟨⟨by omega, by omega, by omega⟩⟩, ⟨HY2.out⟩, ⟨HM2.out⟩, ⟨HB2.out⟩⟩
                  · have hdf : decide (f ≤ 2) = true := decide_eq_true hf2
                    have hwa : (Lit.int .i64 a).wf = true := by have := HA.out; simp [Lit.wf, IntKind.min, IntKind.max, IntKind.bits, IntKind.signed]; omega
                    have HWa := Aside0.mk hwa
                    clear hwa
                    have hby := HY2.out
                    obtain ⟨_, hcy, hCy⟩ := Kd.R_reads' hby
                    have HYl : Aside0 (y.length ≤ 3) := ⟨by have := HI2.out.small; rwa [List.length_map] at this⟩
                    have HWn : Aside0 (line_Ahead.f 50 y a f = some (wb m2 a f 1 || wb m2 a f 2 || wb m2 a f 3)) := ⟨by rw [ahead_f a f y 50 (by have := HYl.out; omega) (by have := HYl.out; omega), ah_map, ahead_want HI2.out]⟩
                    clear hby hCy hcy
                    rename World => wf
                    cases hma : m2 a with
                    | none =>
                      have HMA := Aside0.mk hma
                      go_wp2_with (first
                        | (at_lookup; (refine map_get _ rfl _ _ rfl w6.heap.size nn m2 rfl HM2.out a rfl HWa.out ?_; rw [HMA.out]; simp only [val, Option.getD_none, Option.getD_some, Option.isSome_none, Option.isSome_some]))
                        )
                      go_loopg [14, 17] 10 (fun kq v14 v17 w' => ∃ (b : Nat), v14 = .bool (wn m2 a f b) ∧ v17 = .int .i64 ((b : Int) + 1) ∧ Aside0 (b + kq = 10 ∧ b ≤ 3) ∧ Aside0 (Kd.R k24 24 w' (w6.heap.size + 1) (fun _ => True) (.slice Ay y.length cy) y) ∧ Aside0 (MapIs w' w6.heap.size nn m2) ∧ Aside0 (Below w.heap.size w w') ∧ Aside0 (w'.heap[wf.heap.size]? = some (.cells #[.int .i64 0, .int .i64 0] 35 (0, 0))))
                      case atStart => exact ⟨0, rfl, (by simp), ⟨⟨by omega, by omega⟩⟩, ⟨Kd.R_below HY2.out (by first | exact (Below.refl wf.heap.size wf).alloc (Nat.le_refl _) _ | exact (((Below.refl wf.heap.size wf).alloc (Nat.le_refl _) _).setCell (Nat.le_refl _) _).setCell (Nat.le_refl _) _)⟩, ⟨HM2.out.below (by first | exact (Below.refl wf.heap.size wf).alloc (Nat.le_refl _) _ | exact (((Below.refl wf.heap.size wf).alloc (Nat.le_refl _) _).setCell (Nat.le_refl _) _).setCell (Nat.le_refl _) _)⟩, ⟨HB2.out.trans (Below.mono (B := wf.heap.size) (by first | exact (Below.refl wf.heap.size wf).alloc (Nat.le_refl _) _ | exact (((Below.refl wf.heap.size wf).alloc (Nat.le_refl _) _).setCell (Nat.le_refl _) _).setCell (Nat.le_refl _) _) HB2.out.size)⟩, ⟨by first | exact heap_alloc_new _ _ | (refine blk_put (cs := #[.int .i64 0, .int .i64 0]) ?_ 1 _ rfl; refine blk_put (cs := #[.int .i64 0, .int .i64 0]) ?_ 0 _ rfl; exact heap_alloc_new _ _)⟩⟩
                      case round => as_aux_lemma =>
                        clear HY2 HM2 HB2
                        obtain ⟨b, rfl, rfl, HBb, HY2, HM2, HB2, BK⟩ := hrel
                        obtain ⟨g3, rfl⟩ : ∃ n, gk = n + 1 := ⟨gk - 1, by have := HBb.out; omega⟩
                        rename World => wv
                        rcases Nat.lt_or_ge b 3 with hb3 | hb3
                        case inr =>
                          obtain rfl : b = 3 := by have := HBb.out; omega
                          obtain ⟨_, hcy, hCy⟩ := Kd.R_reads' HY2.out
                          have HCy := Aside0.mk hCy
                          clear hCy
                          have HW3 : Aside0 (line_Ahead.f 50 y a f = some (wn m2 a f 3)) := ⟨by rw [HWn.out]; simp [wn]⟩
                          generalize wn m2 a f 3 = W at HW3 ⊢
                          have hWW : (W != W) = false := by simp
                          go_wp2_with (first | ((with_reducible refine gate_callee (f := 12) rfl ?_); (refine goesL_ (some 156) rfl rfl Try.func12 (by kernel_rfl) rfl #[.slice Ay y.length cy, .int .i64 a, .int .i64 f] rfl (by (try simp only [List.map_toArray, List.map_cons, List.map_nil]); first | done | rfl) ?_; (refine (line_Ahead.calls 50 _ _ y a f W _ HCy.out hcy HW3.out).mono ?_); rintro e w12 ⟨rfl, hb⟩; refine ⟨_, rfl, ?_⟩; have HY3 := Aside0.mk (Kd.R_below HY2.out hb); have HM3 := Aside0.mk (HM2.out.below hb); have HB3 := Aside0.mk (HB2.out.trans (hb.mono HB2.out.size)); clear hb)))
                          have hF := HF.out
                          go_roundg g2
                          case measure => omega
                          case rel => exact ⟨f + 1, (by first | (simp; done) | (rw [show wrap64 (f + 1) = f + 1 from by unfold wrap64; omega])), ⟨⟨by omega, by omega, by omega⟩⟩, ⟨HY3.out⟩, ⟨HM3.out⟩, ⟨HB3.out⟩⟩
                        have hdb : decide ((b : Int) + 1 ≤ 3) = true := decide_eq_true (by omega)
                        have HWb : Aside0 ((Lit.int .i64 ((b : Int) + 1)).wf = true) := ⟨by simp [Lit.wf, IntKind.min, IntKind.max, IntKind.bits, IntKind.signed]; omega⟩
                        have hg1 : wf.heap.size < wv.heap.size := blk_lt BK.out
                        have hg2 : wf.heap.size ≠ wv.heap.size := Nat.ne_of_lt hg1
                        have hg3 := hg2.symm
                        have o0 : wv.cell? ⟨wf.heap.size, 0, none⟩ = some (.int .i64 0) := (blk_cell BK.out 0).trans rfl
                        have o1 : wv.cell? ⟨wf.heap.size, 1, none⟩ = some (.int .i64 0) := (blk_cell BK.out 1).trans rfl
                        cases hwv : wn m2 a f b with
                        | true =>
                          have HWV := Aside0.mk hwv
                          clear hwv
                          go_wp2_with (first | (at_lookup; (refine map_get _ rfl _ _ rfl w6.heap.size nn m2 rfl HM2.out ((b : Int) + 1) rfl HWb.out ?_; simp only [val, Option.getD_none, Option.getD_some, Option.isSome_none, Option.isSome_some])))
                          go_roundg g3
                          case measure => omega
                          case rel => exact ⟨b + 1, (by simp [wn, wb, HMA.out, HWV.out]), (by first | (simp; done) | (rw [show wrap64 ((b : Int) + 1 + 1) = ((b + 1 : Nat) : Int) + 1 from by unfold wrap64; omega])), ⟨⟨by have := HBb.out; omega, by omega⟩⟩, ⟨Kd.R_below HY2.out (by first | exact (Below.refl wv.heap.size wv).alloc (Nat.le_refl _) _ | exact (((Below.refl wv.heap.size wv).alloc (Nat.le_refl _) _).setCell (Nat.le_refl _) _).setCell (Nat.le_refl _) _)⟩, ⟨HM2.out.below (by first | exact (Below.refl wv.heap.size wv).alloc (Nat.le_refl _) _ | exact (((Below.refl wv.heap.size wv).alloc (Nat.le_refl _) _).setCell (Nat.le_refl _) _).setCell (Nat.le_refl _) _)⟩, ⟨HB2.out.trans (Below.mono (B := wv.heap.size) (by first | exact (Below.refl wv.heap.size wv).alloc (Nat.le_refl _) _ | exact (((Below.refl wv.heap.size wv).alloc (Nat.le_refl _) _).setCell (Nat.le_refl _) _).setCell (Nat.le_refl _) _) HB2.out.size)⟩, ⟨blk_below BK.out (by first | exact (Below.refl wv.heap.size wv).alloc (Nat.le_refl _) _ | exact (((Below.refl wv.heap.size wv).alloc (Nat.le_refl _) _).setCell (Nat.le_refl _) _).setCell (Nat.le_refl _) _)⟩⟩
                        | false =>
                          have HWV := Aside0.mk hwv
                          clear hwv
                          by_cases hba : (b : Int) + 1 = a
                          · have hba2 : (((b : Int) + 1) != a) = false := bne_eq_false_iff_eq.2 hba
                            have HBA := Aside0.mk hba
                            clear hba
                            go_wp2_with (first | (at_lookup; (refine map_get _ rfl _ _ rfl w6.heap.size nn m2 rfl HM2.out ((b : Int) + 1) rfl HWb.out ?_; simp only [val, Option.getD_none, Option.getD_some, Option.isSome_none, Option.isSome_some])))
                            go_roundg g3
                            case measure => omega
                            case rel => exact ⟨b + 1, (by simp [wn, wb, HMA.out, HWV.out, HBA.out]), (by first | (simp; done) | (rw [show wrap64 ((b : Int) + 1 + 1) = ((b + 1 : Nat) : Int) + 1 from by unfold wrap64; omega])), ⟨⟨by have := HBb.out; omega, by omega⟩⟩, ⟨Kd.R_below HY2.out (by first | exact (Below.refl wv.heap.size wv).alloc (Nat.le_refl _) _ | exact (((Below.refl wv.heap.size wv).alloc (Nat.le_refl _) _).setCell (Nat.le_refl _) _).setCell (Nat.le_refl _) _)⟩, ⟨HM2.out.below (by first | exact (Below.refl wv.heap.size wv).alloc (Nat.le_refl _) _ | exact (((Below.refl wv.heap.size wv).alloc (Nat.le_refl _) _).setCell (Nat.le_refl _) _).setCell (Nat.le_refl _) _)⟩, ⟨HB2.out.trans (Below.mono (B := wv.heap.size) (by first | exact (Below.refl wv.heap.size wv).alloc (Nat.le_refl _) _ | exact (((Below.refl wv.heap.size wv).alloc (Nat.le_refl _) _).setCell (Nat.le_refl _) _).setCell (Nat.le_refl _) _) HB2.out.size)⟩, ⟨blk_below BK.out (by first | exact (Below.refl wv.heap.size wv).alloc (Nat.le_refl _) _ | exact (((Below.refl wv.heap.size wv).alloc (Nat.le_refl _) _).setCell (Nat.le_refl _) _).setCell (Nat.le_refl _) _)⟩⟩
                          have hba2 : (((b : Int) + 1) != a) = true := bne_iff_ne.2 hba
                          cases hmb : m2 ((b : Int) + 1) with
                          | none =>
                            have HMB := Aside0.mk hmb
                            clear hmb
                            go_wp2_with (first | (at_lookup; (refine map_get _ rfl _ _ rfl w6.heap.size nn m2 rfl HM2.out ((b : Int) + 1) rfl HWb.out ?_; rw [HMB.out]; simp only [val, Option.getD_none, Option.getD_some, Option.isSome_none, Option.isSome_some])))
                            go_roundg g3
                            case measure => omega
                            case rel => exact ⟨b + 1, (by simp [wn, wb, HMA.out, HWV.out, HMB.out]), (by first | (simp; done) | (rw [show wrap64 ((b : Int) + 1 + 1) = ((b + 1 : Nat) : Int) + 1 from by unfold wrap64; omega])), ⟨⟨by have := HBb.out; omega, by omega⟩⟩, ⟨Kd.R_below HY2.out (by first | exact (Below.refl wv.heap.size wv).alloc (Nat.le_refl _) _ | exact (((Below.refl wv.heap.size wv).alloc (Nat.le_refl _) _).setCell (Nat.le_refl _) _).setCell (Nat.le_refl _) _)⟩, ⟨HM2.out.below (by first | exact (Below.refl wv.heap.size wv).alloc (Nat.le_refl _) _ | exact (((Below.refl wv.heap.size wv).alloc (Nat.le_refl _) _).setCell (Nat.le_refl _) _).setCell (Nat.le_refl _) _)⟩, ⟨HB2.out.trans (Below.mono (B := wv.heap.size) (by first | exact (Below.refl wv.heap.size wv).alloc (Nat.le_refl _) _ | exact (((Below.refl wv.heap.size wv).alloc (Nat.le_refl _) _).setCell (Nat.le_refl _) _).setCell (Nat.le_refl _) _) HB2.out.size)⟩, ⟨blk_below BK.out (by first | exact (Below.refl wv.heap.size wv).alloc (Nat.le_refl _) _ | exact (((Below.refl wv.heap.size wv).alloc (Nat.le_refl _) _).setCell (Nat.le_refl _) _).setCell (Nat.le_refl _) _)⟩⟩
                          | some qb =>
                            have HMB := Aside0.mk hmb
                            clear hmb
                            by_cases hqf : qb.1 = f
                            case neg =>
                              have hqf2 : (qb.1 == f) = false := beq_eq_false_iff_ne.2 hqf
                              go_wp2_with (first | (at_lookup; (refine map_get _ rfl _ _ rfl w6.heap.size nn m2 rfl HM2.out ((b : Int) + 1) rfl HWb.out ?_; rw [HMB.out]; simp only [val, Option.getD_none, Option.getD_some, Option.isSome_none, Option.isSome_some])))
                              go_roundg g3
                              case measure => omega
                              case rel => exact ⟨b + 1, (by simp [wn, wb, HMA.out, HWV.out, HMB.out, hqf]), (by first | (simp; done) | (rw [show wrap64 ((b : Int) + 1 + 1) = ((b + 1 : Nat) : Int) + 1 from by unfold wrap64; omega])), ⟨⟨by have := HBb.out; omega, by omega⟩⟩, ⟨Kd.R_below HY2.out (by first | exact (Below.refl wv.heap.size wv).alloc (Nat.le_refl _) _ | exact (((Below.refl wv.heap.size wv).alloc (Nat.le_refl _) _).setCell (Nat.le_refl _) _).setCell (Nat.le_refl _) _)⟩, ⟨HM2.out.below (by first | exact (Below.refl wv.heap.size wv).alloc (Nat.le_refl _) _ | exact (((Below.refl wv.heap.size wv).alloc (Nat.le_refl _) _).setCell (Nat.le_refl _) _).setCell (Nat.le_refl _) _)⟩, ⟨HB2.out.trans (Below.mono (B := wv.heap.size) (by first | exact (Below.refl wv.heap.size wv).alloc (Nat.le_refl _) _ | exact (((Below.refl wv.heap.size wv).alloc (Nat.le_refl _) _).setCell (Nat.le_refl _) _).setCell (Nat.le_refl _) _) HB2.out.size)⟩, ⟨blk_below BK.out (by first | exact (Below.refl wv.heap.size wv).alloc (Nat.le_refl _) _ | exact (((Below.refl wv.heap.size wv).alloc (Nat.le_refl _) _).setCell (Nat.le_refl _) _).setCell (Nat.le_refl _) _)⟩⟩
                            have hqf2 : (qb.1 == f) = true := beq_iff_eq.2 hqf
                            have HQF := Aside0.mk hqf
                            clear hqf
                            go_wp2_with (first | (at_lookup; (refine map_get _ rfl _ _ rfl w6.heap.size nn m2 rfl HM2.out ((b : Int) + 1) rfl HWb.out ?_; rw [HMB.out]; simp only [val, Option.getD_none, Option.getD_some, Option.isSome_none, Option.isSome_some])))
                            go_roundg g3
                            case measure => omega
                            case rel => exact ⟨b + 1, (by simp [wn, wb, HMA.out, HWV.out, HMB.out, hba, HQF.out]), (by first | (simp; done) | (rw [show wrap64 ((b : Int) + 1 + 1) = ((b + 1 : Nat) : Int) + 1 from by unfold wrap64; omega])), ⟨⟨by have := HBb.out; omega, by omega⟩⟩, ⟨Kd.R_below HY2.out (by first | exact (Below.refl wv.heap.size wv).alloc (Nat.le_refl _) _ | exact (((Below.refl wv.heap.size wv).alloc (Nat.le_refl _) _).setCell (Nat.le_refl _) _).setCell (Nat.le_refl _) _)⟩, ⟨HM2.out.below (by first | exact (Below.refl wv.heap.size wv).alloc (Nat.le_refl _) _ | exact (((Below.refl wv.heap.size wv).alloc (Nat.le_refl _) _).setCell (Nat.le_refl _) _).setCell (Nat.le_refl _) _)⟩, ⟨HB2.out.trans (Below.mono (B := wv.heap.size) (by first | exact (Below.refl wv.heap.size wv).alloc (Nat.le_refl _) _ | exact (((Below.refl wv.heap.size wv).alloc (Nat.le_refl _) _).setCell (Nat.le_refl _) _).setCell (Nat.le_refl _) _) HB2.out.size)⟩, ⟨blk_below BK.out (by first | exact (Below.refl wv.heap.size wv).alloc (Nat.le_refl _) _ | exact (((Below.refl wv.heap.size wv).alloc (Nat.le_refl _) _).setCell (Nat.le_refl _) _).setCell (Nat.le_refl _) _)⟩⟩
                    | some pa =>
                      have HMA := Aside0.mk hma
                      go_wp2_with (first
                        | (at_lookup; (refine map_get _ rfl _ _ rfl w6.heap.size nn m2 rfl HM2.out a rfl HWa.out ?_; rw [HMA.out]; simp only [val, Option.getD_none, Option.getD_some, Option.isSome_none, Option.isSome_some]))
                        )
                      go_loopg [14, 17] 10 (fun kq v14 v17 w' => ∃ (b : Nat), v14 = .bool (wn m2 a f b) ∧ v17 = .int .i64 ((b : Int) + 1) ∧ Aside0 (b + kq = 10 ∧ b ≤ 3) ∧ Aside0 (Kd.R k24 24 w' (w6.heap.size + 1) (fun _ => True) (.slice Ay y.length cy) y) ∧ Aside0 (MapIs w' w6.heap.size nn m2) ∧ Aside0 (Below w.heap.size w w') ∧ Aside0 (w'.heap[wf.heap.size]? = some (.cells #[.int .i64 pa.1, .int .i64 pa.2] 35 (0, 0))))
                      case atStart => exact ⟨0, rfl, (by simp), ⟨⟨by omega, by omega⟩⟩, ⟨Kd.R_below HY2.out (by first | exact (Below.refl wf.heap.size wf).alloc (Nat.le_refl _) _ | exact (((Below.refl wf.heap.size wf).alloc (Nat.le_refl _) _).setCell (Nat.le_refl _) _).setCell (Nat.le_refl _) _)⟩, ⟨HM2.out.below (by first | exact (Below.refl wf.heap.size wf).alloc (Nat.le_refl _) _ | exact (((Below.refl wf.heap.size wf).alloc (Nat.le_refl _) _).setCell (Nat.le_refl _) _).setCell (Nat.le_refl _) _)⟩, ⟨HB2.out.trans (Below.mono (B := wf.heap.size) (by first | exact (Below.refl wf.heap.size wf).alloc (Nat.le_refl _) _ | exact (((Below.refl wf.heap.size wf).alloc (Nat.le_refl _) _).setCell (Nat.le_refl _) _).setCell (Nat.le_refl _) _) HB2.out.size)⟩, ⟨by first | exact heap_alloc_new _ _ | (refine blk_put (cs := #[.int .i64 pa.1, .int .i64 0]) ?_ 1 _ rfl; refine blk_put (cs := #[.int .i64 0, .int .i64 0]) ?_ 0 _ rfl; exact heap_alloc_new _ _)⟩⟩
                      case round => as_aux_lemma =>
                        clear HY2 HM2 HB2
                        obtain ⟨b, rfl, rfl, HBb, HY2, HM2, HB2, BK⟩ := hrel
                        obtain ⟨g3, rfl⟩ : ∃ n, gk = n + 1 := ⟨gk - 1, by have := HBb.out; omega⟩
                        rename World => wv
                        rcases Nat.lt_or_ge b 3 with hb3 | hb3
                        case inr =>
                          obtain rfl : b = 3 := by have := HBb.out; omega
                          obtain ⟨_, hcy, hCy⟩ := Kd.R_reads' HY2.out
                          have HCy := Aside0.mk hCy
                          clear hCy
                          have HW3 : Aside0 (line_Ahead.f 50 y a f = some (wn m2 a f 3)) := ⟨by rw [HWn.out]; simp [wn]⟩
                          generalize wn m2 a f 3 = W at HW3 ⊢
                          have hWW : (W != W) = false := by simp
                          go_wp2_with (first | ((with_reducible refine gate_callee (f := 12) rfl ?_); (refine goesL_ (some 156) rfl rfl Try.func12 (by kernel_rfl) rfl #[.slice Ay y.length cy, .int .i64 a, .int .i64 f] rfl (by (try simp only [List.map_toArray, List.map_cons, List.map_nil]); first | done | rfl) ?_; (refine (line_Ahead.calls 50 _ _ y a f W _ HCy.out hcy HW3.out).mono ?_); rintro e w12 ⟨rfl, hb⟩; refine ⟨_, rfl, ?_⟩; have HY3 := Aside0.mk (Kd.R_below HY2.out hb); have HM3 := Aside0.mk (HM2.out.below hb); have HB3 := Aside0.mk (HB2.out.trans (hb.mono HB2.out.size)); clear hb)))
                          have hF := HF.out
                          go_roundg g2
                          case measure => omega
                          case rel => exact ⟨f + 1, (by first | (simp; done) | (rw [show wrap64 (f + 1) = f + 1 from by unfold wrap64; omega])), ⟨⟨by omega, by omega, by omega⟩⟩, ⟨HY3.out⟩, ⟨HM3.out⟩, ⟨HB3.out⟩⟩
                        have hdb : decide ((b : Int) + 1 ≤ 3) = true := decide_eq_true (by omega)
                        have HWb : Aside0 ((Lit.int .i64 ((b : Int) + 1)).wf = true) := ⟨by simp [Lit.wf, IntKind.min, IntKind.max, IntKind.bits, IntKind.signed]; omega⟩
                        have hg1 : wf.heap.size < wv.heap.size := blk_lt BK.out
                        have hg2 : wf.heap.size ≠ wv.heap.size := Nat.ne_of_lt hg1
                        have hg3 := hg2.symm
                        have o0 : wv.cell? ⟨wf.heap.size, 0, none⟩ = some (.int .i64 pa.1) := (blk_cell BK.out 0).trans rfl
                        have o1 : wv.cell? ⟨wf.heap.size, 1, none⟩ = some (.int .i64 pa.2) := (blk_cell BK.out 1).trans rfl
                        cases hwv : wn m2 a f b with
                        | true =>
                          have HWV := Aside0.mk hwv
                          clear hwv
                          go_wp2_with (first | (at_lookup; (refine map_get _ rfl _ _ rfl w6.heap.size nn m2 rfl HM2.out ((b : Int) + 1) rfl HWb.out ?_; simp only [val, Option.getD_none, Option.getD_some, Option.isSome_none, Option.isSome_some])))
                          go_roundg g3
                          case measure => omega
                          case rel => exact ⟨b + 1, (by simp [wn, wb, HMA.out, HWV.out]), (by first | (simp; done) | (rw [show wrap64 ((b : Int) + 1 + 1) = ((b + 1 : Nat) : Int) + 1 from by unfold wrap64; omega])), ⟨⟨by have := HBb.out; omega, by omega⟩⟩, ⟨Kd.R_below HY2.out (by first | exact (Below.refl wv.heap.size wv).alloc (Nat.le_refl _) _ | exact (((Below.refl wv.heap.size wv).alloc (Nat.le_refl _) _).setCell (Nat.le_refl _) _).setCell (Nat.le_refl _) _)⟩, ⟨HM2.out.below (by first | exact (Below.refl wv.heap.size wv).alloc (Nat.le_refl _) _ | exact (((Below.refl wv.heap.size wv).alloc (Nat.le_refl _) _).setCell (Nat.le_refl _) _).setCell (Nat.le_refl _) _)⟩, ⟨HB2.out.trans (Below.mono (B := wv.heap.size) (by first | exact (Below.refl wv.heap.size wv).alloc (Nat.le_refl _) _ | exact (((Below.refl wv.heap.size wv).alloc (Nat.le_refl _) _).setCell (Nat.le_refl _) _).setCell (Nat.le_refl _) _) HB2.out.size)⟩, ⟨blk_below BK.out (by first | exact (Below.refl wv.heap.size wv).alloc (Nat.le_refl _) _ | exact (((Below.refl wv.heap.size wv).alloc (Nat.le_refl _) _).setCell (Nat.le_refl _) _).setCell (Nat.le_refl _) _)⟩⟩
                        | false =>
                          have HWV := Aside0.mk hwv
                          clear hwv
                          by_cases hba : (b : Int) + 1 = a
                          · have hba2 : (((b : Int) + 1) != a) = false := bne_eq_false_iff_eq.2 hba
                            have HBA := Aside0.mk hba
                            clear hba
                            go_wp2_with (first | (at_lookup; (refine map_get _ rfl _ _ rfl w6.heap.size nn m2 rfl HM2.out ((b : Int) + 1) rfl HWb.out ?_; simp only [val, Option.getD_none, Option.getD_some, Option.isSome_none, Option.isSome_some])))
                            go_roundg g3
                            case measure => omega
                            case rel => exact ⟨b + 1, (by simp [wn, wb, HMA.out, HWV.out, HBA.out]), (by first | (simp; done) | (rw [show wrap64 ((b : Int) + 1 + 1) = ((b + 1 : Nat) : Int) + 1 from by unfold wrap64; omega])), ⟨⟨by have := HBb.out; omega, by omega⟩⟩, ⟨Kd.R_below HY2.out (by first | exact (Below.refl wv.heap.size wv).alloc (Nat.le_refl _) _ | exact (((Below.refl wv.heap.size wv).alloc (Nat.le_refl _) _).setCell (Nat.le_refl _) _).setCell (Nat.le_refl _) _)⟩, ⟨HM2.out.below (by first | exact (Below.refl wv.heap.size wv).alloc (Nat.le_refl _) _ | exact (((Below.refl wv.heap.size wv).alloc (Nat.le_refl _) _).setCell (Nat.le_refl _) _).setCell (Nat.le_refl _) _)⟩, ⟨HB2.out.trans (Below.mono (B := wv.heap.size) (by first | exact (Below.refl wv.heap.size wv).alloc (Nat.le_refl _) _ | exact (((Below.refl wv.heap.size wv).alloc (Nat.le_refl _) _).setCell (Nat.le_refl _) _).setCell (Nat.le_refl _) _) HB2.out.size)⟩, ⟨blk_below BK.out (by first | exact (Below.refl wv.heap.size wv).alloc (Nat.le_refl _) _ | exact (((Below.refl wv.heap.size wv).alloc (Nat.le_refl _) _).setCell (Nat.le_refl _) _).setCell (Nat.le_refl _) _)⟩⟩
                          have hba2 : (((b : Int) + 1) != a) = true := bne_iff_ne.2 hba
                          cases hmb : m2 ((b : Int) + 1) with
                          | none =>
                            have HMB := Aside0.mk hmb
                            clear hmb
                            go_wp2_with (first | (at_lookup; (refine map_get _ rfl _ _ rfl w6.heap.size nn m2 rfl HM2.out ((b : Int) + 1) rfl HWb.out ?_; rw [HMB.out]; simp only [val, Option.getD_none, Option.getD_some, Option.isSome_none, Option.isSome_some])))
                            go_roundg g3
                            case measure => omega
                            case rel => exact ⟨b + 1, (by simp [wn, wb, HMA.out, HWV.out, HMB.out]), (by first | (simp; done) | (rw [show wrap64 ((b : Int) + 1 + 1) = ((b + 1 : Nat) : Int) + 1 from by unfold wrap64; omega])), ⟨⟨by have := HBb.out; omega, by omega⟩⟩, ⟨Kd.R_below HY2.out (by first | exact (Below.refl wv.heap.size wv).alloc (Nat.le_refl _) _ | exact (((Below.refl wv.heap.size wv).alloc (Nat.le_refl _) _).setCell (Nat.le_refl _) _).setCell (Nat.le_refl _) _)⟩, ⟨HM2.out.below (by first | exact (Below.refl wv.heap.size wv).alloc (Nat.le_refl _) _ | exact (((Below.refl wv.heap.size wv).alloc (Nat.le_refl _) _).setCell (Nat.le_refl _) _).setCell (Nat.le_refl _) _)⟩, ⟨HB2.out.trans (Below.mono (B := wv.heap.size) (by first | exact (Below.refl wv.heap.size wv).alloc (Nat.le_refl _) _ | exact (((Below.refl wv.heap.size wv).alloc (Nat.le_refl _) _).setCell (Nat.le_refl _) _).setCell (Nat.le_refl _) _) HB2.out.size)⟩, ⟨blk_below BK.out (by first | exact (Below.refl wv.heap.size wv).alloc (Nat.le_refl _) _ | exact (((Below.refl wv.heap.size wv).alloc (Nat.le_refl _) _).setCell (Nat.le_refl _) _).setCell (Nat.le_refl _) _)⟩⟩
                          | some qb =>
                            have HMB := Aside0.mk hmb
                            clear hmb
                            by_cases hqf : qb.1 = f
                            case neg =>
                              have hqf2 : (qb.1 == f) = false := beq_eq_false_iff_ne.2 hqf
                              go_wp2_with (first | (at_lookup; (refine map_get _ rfl _ _ rfl w6.heap.size nn m2 rfl HM2.out ((b : Int) + 1) rfl HWb.out ?_; rw [HMB.out]; simp only [val, Option.getD_none, Option.getD_some, Option.isSome_none, Option.isSome_some])))
                              go_roundg g3
                              case measure => omega
                              case rel => exact ⟨b + 1, (by simp [wn, wb, HMA.out, HWV.out, HMB.out, hqf]), (by first | (simp; done) | (rw [show wrap64 ((b : Int) + 1 + 1) = ((b + 1 : Nat) : Int) + 1 from by unfold wrap64; omega])), ⟨⟨by have := HBb.out; omega, by omega⟩⟩, ⟨Kd.R_below HY2.out (by first | exact (Below.refl wv.heap.size wv).alloc (Nat.le_refl _) _ | exact (((Below.refl wv.heap.size wv).alloc (Nat.le_refl _) _).setCell (Nat.le_refl _) _).setCell (Nat.le_refl _) _)⟩, ⟨HM2.out.below (by first | exact (Below.refl wv.heap.size wv).alloc (Nat.le_refl _) _ | exact (((Below.refl wv.heap.size wv).alloc (Nat.le_refl _) _).setCell (Nat.le_refl _) _).setCell (Nat.le_refl _) _)⟩, ⟨HB2.out.trans (Below.mono (B := wv.heap.size) (by first | exact (Below.refl wv.heap.size wv).alloc (Nat.le_refl _) _ | exact (((Below.refl wv.heap.size wv).alloc (Nat.le_refl _) _).setCell (Nat.le_refl _) _).setCell (Nat.le_refl _) _) HB2.out.size)⟩, ⟨blk_below BK.out (by first | exact (Below.refl wv.heap.size wv).alloc (Nat.le_refl _) _ | exact (((Below.refl wv.heap.size wv).alloc (Nat.le_refl _) _).setCell (Nat.le_refl _) _).setCell (Nat.le_refl _) _)⟩⟩
                            have hqf2 : (qb.1 == f) = true := beq_iff_eq.2 hqf
                            have HQF := Aside0.mk hqf
                            clear hqf
                            by_cases hpf : pa.1 = f
                            case neg =>
                              have hpf2 : (pa.1 != f) = true := bne_iff_ne.2 hpf
                              go_wp2_with (first | (at_lookup; (refine map_get _ rfl _ _ rfl w6.heap.size nn m2 rfl HM2.out ((b : Int) + 1) rfl HWb.out ?_; rw [HMB.out]; simp only [val, Option.getD_none, Option.getD_some, Option.isSome_none, Option.isSome_some])))
                              go_roundg g3
                              case measure => omega
                              case rel => exact ⟨b + 1, (by simp [wn, wb, HMA.out, HWV.out, HMB.out, hba, HQF.out, hpf]), (by first | (simp; done) | (rw [show wrap64 ((b : Int) + 1 + 1) = ((b + 1 : Nat) : Int) + 1 from by unfold wrap64; omega])), ⟨⟨by have := HBb.out; omega, by omega⟩⟩, ⟨Kd.R_below HY2.out (by first | exact (Below.refl wv.heap.size wv).alloc (Nat.le_refl _) _ | exact (((Below.refl wv.heap.size wv).alloc (Nat.le_refl _) _).setCell (Nat.le_refl _) _).setCell (Nat.le_refl _) _)⟩, ⟨HM2.out.below (by first | exact (Below.refl wv.heap.size wv).alloc (Nat.le_refl _) _ | exact (((Below.refl wv.heap.size wv).alloc (Nat.le_refl _) _).setCell (Nat.le_refl _) _).setCell (Nat.le_refl _) _)⟩, ⟨HB2.out.trans (Below.mono (B := wv.heap.size) (by first | exact (Below.refl wv.heap.size wv).alloc (Nat.le_refl _) _ | exact (((Below.refl wv.heap.size wv).alloc (Nat.le_refl _) _).setCell (Nat.le_refl _) _).setCell (Nat.le_refl _) _) HB2.out.size)⟩, ⟨blk_below BK.out (by first | exact (Below.refl wv.heap.size wv).alloc (Nat.le_refl _) _ | exact (((Below.refl wv.heap.size wv).alloc (Nat.le_refl _) _).setCell (Nat.le_refl _) _).setCell (Nat.le_refl _) _)⟩⟩
                            have hpf2 : (pa.1 != f) = false := bne_eq_false_iff_eq.2 hpf
                            have HPF := Aside0.mk hpf
                            clear hpf
                            by_cases hlt : qb.2 < pa.2
                            · have hlt2 : decide (qb.2 < pa.2) = true := decide_eq_true hlt
                              go_wp2_with (first | (at_lookup; (refine map_get _ rfl _ _ rfl w6.heap.size nn m2 rfl HM2.out ((b : Int) + 1) rfl HWb.out ?_; rw [HMB.out]; simp only [val, Option.getD_none, Option.getD_some, Option.isSome_none, Option.isSome_some])))
                              go_roundg g3
                              case measure => omega
                              case rel => exact ⟨b + 1, (by simp [wn, wb, HMA.out, HWV.out, HMB.out, hba, HQF.out, HPF.out, hlt]), (by first | (simp; done) | (rw [show wrap64 ((b : Int) + 1 + 1) = ((b + 1 : Nat) : Int) + 1 from by unfold wrap64; omega])), ⟨⟨by have := HBb.out; omega, by omega⟩⟩, ⟨Kd.R_below HY2.out (by first | exact (Below.refl wv.heap.size wv).alloc (Nat.le_refl _) _ | exact (((Below.refl wv.heap.size wv).alloc (Nat.le_refl _) _).setCell (Nat.le_refl _) _).setCell (Nat.le_refl _) _)⟩, ⟨HM2.out.below (by first | exact (Below.refl wv.heap.size wv).alloc (Nat.le_refl _) _ | exact (((Below.refl wv.heap.size wv).alloc (Nat.le_refl _) _).setCell (Nat.le_refl _) _).setCell (Nat.le_refl _) _)⟩, ⟨HB2.out.trans (Below.mono (B := wv.heap.size) (by first | exact (Below.refl wv.heap.size wv).alloc (Nat.le_refl _) _ | exact (((Below.refl wv.heap.size wv).alloc (Nat.le_refl _) _).setCell (Nat.le_refl _) _).setCell (Nat.le_refl _) _) HB2.out.size)⟩, ⟨blk_below BK.out (by first | exact (Below.refl wv.heap.size wv).alloc (Nat.le_refl _) _ | exact (((Below.refl wv.heap.size wv).alloc (Nat.le_refl _) _).setCell (Nat.le_refl _) _).setCell (Nat.le_refl _) _)⟩⟩
                            · have hlt2 : decide (qb.2 < pa.2) = false := decide_eq_false hlt
                              go_wp2_with (first | (at_lookup; (refine map_get _ rfl _ _ rfl w6.heap.size nn m2 rfl HM2.out ((b : Int) + 1) rfl HWb.out ?_; rw [HMB.out]; simp only [val, Option.getD_none, Option.getD_some, Option.isSome_none, Option.isSome_some])))
                              go_roundg g3
                              case measure => omega
                              case rel => exact ⟨b + 1, (by simp [wn, wb, HMA.out, HWV.out, HMB.out, hba, HQF.out, HPF.out, hlt]), (by first | (simp; done) | (rw [show wrap64 ((b : Int) + 1 + 1) = ((b + 1 : Nat) : Int) + 1 from by unfold wrap64; omega])), ⟨⟨by have := HBb.out; omega, by omega⟩⟩, ⟨Kd.R_below HY2.out (by first | exact (Below.refl wv.heap.size wv).alloc (Nat.le_refl _) _ | exact (((Below.refl wv.heap.size wv).alloc (Nat.le_refl _) _).setCell (Nat.le_refl _) _).setCell (Nat.le_refl _) _)⟩, ⟨HM2.out.below (by first | exact (Below.refl wv.heap.size wv).alloc (Nat.le_refl _) _ | exact (((Below.refl wv.heap.size wv).alloc (Nat.le_refl _) _).setCell (Nat.le_refl _) _).setCell (Nat.le_refl _) _)⟩, ⟨HB2.out.trans (Below.mono (B := wv.heap.size) (by first | exact (Below.refl wv.heap.size wv).alloc (Nat.le_refl _) _ | exact (((Below.refl wv.heap.size wv).alloc (Nat.le_refl _) _).setCell (Nat.le_refl _) _).setCell (Nat.le_refl _) _) HB2.out.size)⟩, ⟨blk_below BK.out (by first | exact (Below.refl wv.heap.size wv).alloc (Nat.le_refl _) _ | exact (((Below.refl wv.heap.size wv).alloc (Nat.le_refl _) _).setCell (Nat.le_refl _) _).setCell (Nat.le_refl _) _)⟩⟩
      · have hz1 : decide (0 < Int.tmod gz 4) = false := decide_eq_false hz
        clear hz
        have hxl : x.length ≤ 3 := by have := HI.out.2.2.small; rwa [List.length_map] at this
        obtain ⟨_, hcx, hCx⟩ := Kd.R_reads' HX.out
        have HCx := Aside0.mk hCx
        have HDr := Aside0.mk (drop_f x c (by omega))
        have HI2 : Aside0 (FInv (i + 1) ((x.filter (keeps c)).map cf) (m.no c)) := ⟨by rw [keeps_map]; exact (HI.out.2.2.drop c).next⟩
        generalize hy : x.filter (keeps c) = y at HDr HI2
        clear hy hCx
        have hlen : (y.length : Int) = ((m.no c).cnt : Int) := by have := HI2.out.len; rw [List.length_map] at this; omega
        have hlen1 : ((y.length : Int) != ((m.no c).cnt : Int)) = false := bne_eq_false_iff_eq.2 hlen
        go_wp2_with (first
          | ((with_reducible refine gate_callee (f := 9) rfl ?_); (refine goesL_ (some 89) rfl rfl Try.func9 (by kernel_rfl) rfl #[.slice Ax x.length cx, .int .i64 c] rfl (by (try simp only [List.map_toArray, List.map_cons, List.map_nil]); first | done | rfl) ?_; (refine (line_Drop.calls _ _ x c y _ HCx.out hcx HDr.out).mono ?_); rintro e w10 ⟨v, rfl, ho, hb⟩; refine ⟨_, rfl, ?_⟩; obtain ⟨Ay, cy, rfl⟩ := Kd.R_slice ho; have HM1 := Aside0.mk (HM.out.below hb); have HY := Aside0.mk (Kd.R_lower (base' := w6.heap.size + 1) ho (by have := HM.out.lt; omega)); have HB1 := Aside0.mk (HB.out.trans (hb.mono HB.out.size)); clear ho hb))
          | (at_delete; (refine map_del _ rfl _ _ rfl w6.heap.size i m rfl HM1.out c rfl HC.out ?_; intro w11 hm11 hg11; have HM2 := Aside0.mk hm11; have HB2 := Aside0.mk (HB1.out.grown hg11 HB1.out.size (fun k hk => by injection hk with hk; omega)); have HY2 := Aside0.mk (Kd.R_grown (Kd.R_bound HY.out) hg11 (fun k hk e => by injection e with e; have := hk.2.1; omega)); clear hm11 hg11))
          | ((with_reducible refine gate_builtin (b := .len) (xs := #[.tmp 94]) rfl ?_); (refine map_len _ rfl _ rfl w6.heap.size i (m.no c) rfl HM2.out ?_)))
        clear hlen hlen1 HM1 HB1 HY
        generalize m.no c = m2 at HM2 HI2 ⊢
        replace HY2 := Aside0.mk (Kd.R_mono (ok' := fun _ => True) HY2.out (fun _ _ => trivial))
        obtain ⟨nn, hnn⟩ : ∃ nn : Nat, nn = i := ⟨i, rfl⟩
        replace HM2 : Aside0 (MapIs w11 w6.heap.size nn m2) := ⟨by rw [hnn]; exact HM2.out⟩
        have hnn1 : nn ≤ i + 1 := by omega
        clear hnn
        go_loopg [12] 10 (fun kq v12 w' => ∃ (a : Int), v12 = .int .i64 a ∧ Aside0 (a + (kq : Int) = 11 ∧ 1 ≤ a ∧ a ≤ 4) ∧ Aside0 (Kd.R k24 24 w' (w6.heap.size + 1) (fun _ => True) (.slice Ay y.length cy) y) ∧ Aside0 (MapIs w' w6.heap.size nn m2) ∧ Aside0 (Below w.heap.size w w'))
        case atStart => exact ⟨1, (by simp), ⟨⟨by omega, by omega, by omega⟩⟩, ⟨HY2.out⟩, ⟨HM2.out⟩, ⟨HB2.out⟩⟩
        case round => as_aux_lemma =>
          clear HY2 HM2 HB2
          obtain ⟨a, rfl, HA, HY2, HM2, HB2⟩ := hrel
          obtain ⟨g1, rfl⟩ : ∃ n, gk = n + 1 := ⟨gk - 1, by have := HA.out; omega⟩
          rcases Int.lt_or_le 3 a with ha3 | ha3
          · have hda : decide (a ≤ 3) = false := decide_eq_false (by omega)
            clear ha3
            go_wp2
            go_roundg g0
            case measure => omega
            case rel => exact ⟨y, i + 1, m2, (by first | (simp; done) | (rw [wrap_succ (by omega)])), ⟨⟨by have := HI.out.1; omega, by omega, HI2.out⟩⟩, ⟨HY2.out⟩, ⟨HM2.out.mono (by omega)⟩, ⟨HB2.out⟩⟩
          · have hda : decide (a ≤ 3) = true := decide_eq_true ha3
            go_wp2
            go_loopg [13] 10 (fun kq v13 w' => ∃ (f : Int), v13 = .int .i64 f ∧ Aside0 (f + (kq : Int) = 11 ∧ 1 ≤ f ∧ f ≤ 3) ∧ Aside0 (Kd.R k24 24 w' (w6.heap.size + 1) (fun _ => True) (.slice Ay y.length cy) y) ∧ Aside0 (MapIs w' w6.heap.size nn m2) ∧ Aside0 (Below w.heap.size w w'))
            case atStart => exact ⟨1, (by simp), ⟨⟨by omega, by omega, by omega⟩⟩, ⟨HY2.out⟩, ⟨HM2.out⟩, ⟨HB2.out⟩⟩
            case round => as_aux_lemma =>
              clear HY2 HM2 HB2
              obtain ⟨f, rfl, HF, HY2, HM2, HB2⟩ := hrel
              obtain ⟨g2, rfl⟩ : ∃ n, gk = n + 1 := ⟨gk - 1, by have := HF.out; omega⟩
              rcases Int.lt_or_le 2 f with hf2 | hf2
              · have hdf : decide (f ≤ 2) = false := decide_eq_false (by omega)
                clear hf2
                go_wp2
                have hA := HA.out
                go_roundg g1
                case measure => omega
                case rel => exact ⟨a + 1, (by first | (simp; done) | (rw [show wrap64 (a + 1) = a + 1 from by unfold wrap64; omega])), ⟨⟨by omega, by omega, by omega⟩⟩, ⟨HY2.out⟩, ⟨HM2.out⟩, ⟨HB2.out⟩⟩
              · have hdf : decide (f ≤ 2) = true := decide_eq_true hf2
                have hwa : (Lit.int .i64 a).wf = true := by have := HA.out; simp [Lit.wf, IntKind.min, IntKind.max, IntKind.bits, IntKind.signed]; omega
                have HWa := Aside0.mk hwa
                clear hwa
                have hby := HY2.out
                obtain ⟨_, hcy, hCy⟩ := Kd.R_reads' hby
                have HYl : Aside0 (y.length ≤ 3) := ⟨by have := HI2.out.small; rwa [List.length_map] at this⟩
                have HWn : Aside0 (line_Ahead.f 50 y a f = some (wb m2 a f 1 || wb m2 a f 2 || wb m2 a f 3)) := ⟨by rw [ahead_f a f y 50 (by have := HYl.out; omega) (by have := HYl.out; omega), ah_map, ahead_want HI2.out]⟩
                clear hby hCy hcy
                rename World => wf
                cases hma : m2 a with
                | none =>
                  have HMA := Aside0.mk hma
                  go_wp2_with (first
                    | (at_lookup; (refine map_get _ rfl _ _ rfl w6.heap.size nn m2 rfl HM2.out a rfl HWa.out ?_; rw [HMA.out]; simp only [val, Option.getD_none, Option.getD_some, Option.isSome_none, Option.isSome_some]))
                    )
                  go_loopg [14, 17] 10 (fun kq v14 v17 w' => ∃ (b : Nat), v14 = .bool (wn m2 a f b) ∧ v17 = .int .i64 ((b : Int) + 1) ∧ Aside0 (b + kq = 10 ∧ b ≤ 3) ∧ Aside0 (Kd.R k24 24 w' (w6.heap.size + 1) (fun _ => True) (.slice Ay y.length cy) y) ∧ Aside0 (MapIs w' w6.heap.size nn m2) ∧ Aside0 (Below w.heap.size w w') ∧ Aside0 (w'.heap[wf.heap.size]? = some (.cells #[.int .i64 0, .int .i64 0] 35 (0, 0))))
                  case atStart => exact ⟨0, rfl, (by simp), ⟨⟨by omega, by omega⟩⟩, ⟨Kd.R_below HY2.out (by first | exact (Below.refl wf.heap.size wf).alloc (Nat.le_refl _) _ | exact (((Below.refl wf.heap.size wf).alloc (Nat.le_refl _) _).setCell (Nat.le_refl _) _).setCell (Nat.le_refl _) _)⟩, ⟨HM2.out.below (by first | exact (Below.refl wf.heap.size wf).alloc (Nat.le_refl _) _ | exact (((Below.refl wf.heap.size wf).alloc (Nat.le_refl _) _).setCell (Nat.le_refl _) _).setCell (Nat.le_refl _) _)⟩, ⟨HB2.out.trans (Below.mono (B := wf.heap.size) (by first | exact (Below.refl wf.heap.size wf).alloc (Nat.le_refl _) _ | exact (((Below.refl wf.heap.size wf).alloc (Nat.le_refl _) _).setCell (Nat.le_refl _) _).setCell (Nat.le_refl _) _) HB2.out.size)⟩, ⟨by first | exact heap_alloc_new _ _ | (refine blk_put (cs := #[.int .i64 0, .int .i64 0]) ?_ 1 _ rfl; refine blk_put (cs := #[.int .i64 0, .int .i64 0]) ?_ 0 _ rfl; exact heap_alloc_new _ _)⟩⟩
                  case round => as_aux_lemma =>
                    clear HY2 HM2 HB2
                    obtain ⟨b, rfl, rfl, HBb, HY2, HM2, HB2, BK⟩ := hrel
                    obtain ⟨g3, rfl⟩ : ∃ n, gk = n + 1 := ⟨gk - 1, by have := HBb.out; omega⟩
                    rename World => wv
                    rcases Nat.lt_or_ge b 3 with hb3 | hb3
                    case inr =>
                      obtain rfl : b = 3 := by have := HBb.out; omega
                      obtain ⟨_, hcy, hCy⟩ := Kd.R_reads' HY2.out
                      have HCy := Aside0.mk hCy
                      clear hCy
                      have HW3 : Aside0 (line_Ahead.f 50 y a f = some (wn m2 a f 3)) := ⟨by rw [HWn.out]; simp [wn]⟩
                      generalize wn m2 a f 3 = W at HW3 ⊢
                      have hWW : (W != W) = false := by simp
                      go_wp2_with (first | ((with_reducible refine gate_callee (f := 12) rfl ?_); (refine goesL_ (some 156) rfl rfl Try.func12 (by kernel_rfl) rfl #[.slice Ay y.length cy, .int .i64 a, .int .i64 f] rfl (by (try simp only [List.map_toArray, List.map_cons, List.map_nil]); first | done | rfl) ?_; (refine (line_Ahead.calls 50 _ _ y a f W _ HCy.out hcy HW3.out).mono ?_); rintro e w12 ⟨rfl, hb⟩; refine ⟨_, rfl, ?_⟩; have HY3 := Aside0.mk (Kd.R_below HY2.out hb); have HM3 := Aside0.mk (HM2.out.below hb); have HB3 := Aside0.mk (HB2.out.trans (hb.mono HB2.out.size)); clear hb)))
                      have hF := HF.out
                      go_roundg g2
                      case measure => omega
                      case rel => exact ⟨f + 1, (by first | (simp; done) | (rw [show wrap64 (f + 1) = f + 1 from by unfold wrap64; omega])), ⟨⟨by omega, by omega, by omega⟩⟩, ⟨HY3.out⟩, ⟨HM3.out⟩, ⟨HB3.out⟩⟩
                    have hdb : decide ((b : Int) + 1 ≤ 3) = true := decide_eq_true (by omega)
                    have HWb : Aside0 ((Lit.int .i64 ((b : Int) + 1)).wf = true) := ⟨by simp [Lit.wf, IntKind.min, IntKind.max, IntKind.bits, IntKind.signed]; omega⟩
                    have hg1 : wf.heap.size < wv.heap.size := blk_lt BK.out
                    have hg2 : wf.heap.size ≠ wv.heap.size := Nat.ne_of_lt hg1
                    have hg3 := hg2.symm
                    have o0 : wv.cell? ⟨wf.heap.size, 0, none⟩ = some (.int .i64 0) := (blk_cell BK.out 0).trans rfl
                    have o1 : wv.cell? ⟨wf.heap.size, 1, none⟩ = some (.int .i64 0) := (blk_cell BK.out 1).trans rfl
                    cases hwv : wn m2 a f b with
                    | true =>
                      have HWV := Aside0.mk hwv
                      clear hwv
                      go_wp2_with (first | (at_lookup; (refine map_get _ rfl _ _ rfl w6.heap.size nn m2 rfl HM2.out ((b : Int) + 1) rfl HWb.out ?_; simp only [val, Option.getD_none, Option.getD_some, Option.isSome_none, Option.isSome_some])))
                      go_roundg g3
                      case measure => omega
                      case rel => exact ⟨b + 1, (by simp [wn, wb, HMA.out, HWV.out]), (by first | (simp; done) | (rw [show wrap64 ((b : Int) + 1 + 1) = ((b + 1 : Nat) : Int) + 1 from by unfold wrap64; omega])), ⟨⟨by have := HBb.out; omega, by omega⟩⟩, ⟨Kd.R_below HY2.out (by first | exact (Below.refl wv.heap.size wv).alloc (Nat.le_refl _) _ | exact (((Below.refl wv.heap.size wv).alloc (Nat.le_refl _) _).setCell (Nat.le_refl _) _).setCell (Nat.le_refl _) _)⟩, ⟨HM2.out.below (by first | exact (Below.refl wv.heap.size wv).alloc (Nat.le_refl _) _ | exact (((Below.refl wv.heap.size wv).alloc (Nat.le_refl _) _).setCell (Nat.le_refl _) _).setCell (Nat.le_refl _) _)⟩, ⟨HB2.out.trans (Below.mono (B := wv.heap.size) (by first | exact (Below.refl wv.heap.size wv).alloc (Nat.le_refl _) _ | exact (((Below.refl wv.heap.size wv).alloc (Nat.le_refl _) _).setCell (Nat.le_refl _) _).setCell (Nat.le_refl _) _) HB2.out.size)⟩, ⟨blk_below BK.out (by first | exact (Below.refl wv.heap.size wv).alloc (Nat.le_refl _) _ | exact (((Below.refl wv.heap.size wv).alloc (Nat.le_refl _) _).setCell (Nat.le_refl _) _).setCell (Nat.le_refl _) _)⟩⟩
                    | false =>
                      have HWV := Aside0.mk hwv
                      clear hwv
                      by_cases hba : (b : Int) + 1 = a
                      · have hba2 : (((b : Int) + 1) != a) = false := bne_eq_false_iff_eq.2 hba
                        have HBA := Aside0.mk hba
                        clear hba
                        go_wp2_with (first | (at_lookup; (refine map_get _ rfl _ _ rfl w6.heap.size nn m2 rfl HM2.out ((b : Int) + 1) rfl HWb.out ?_; simp only [val, Option.getD_none, Option.getD_some, Option.isSome_none, Option.isSome_some])))
                        go_roundg g3
                        case measure => omega
                        case rel => exact ⟨b + 1, (by simp [wn, wb, HMA.out, HWV.out, HBA.out]), (by first | (simp; done) | (rw [show wrap64 ((b : Int) + 1 + 1) = ((b + 1 : Nat) : Int) + 1 from by unfold wrap64; omega])), ⟨⟨by have := HBb.out; omega, by omega⟩⟩, ⟨Kd.R_below HY2.out (by first | exact (Below.refl wv.heap.size wv).alloc (Nat.le_refl _) _ | exact (((Below.refl wv.heap.size wv).alloc (Nat.le_refl _) _).setCell (Nat.le_refl _) _).setCell (Nat.le_refl _) _)⟩, ⟨HM2.out.below (by first | exact (Below.refl wv.heap.size wv).alloc (Nat.le_refl _) _ | exact (((Below.refl wv.heap.size wv).alloc (Nat.le_refl _) _).setCell (Nat.le_refl _) _).setCell (Nat.le_refl _) _)⟩, ⟨HB2.out.trans (Below.mono (B := wv.heap.size) (by first | exact (Below.refl wv.heap.size wv).alloc (Nat.le_refl _) _ | exact (((Below.refl wv.heap.size wv).alloc (Nat.le_refl _) _).setCell (Nat.le_refl _) _).setCell (Nat.le_refl _) _) HB2.out.size)⟩, ⟨blk_below BK.out (by first | exact (Below.refl wv.heap.size wv).alloc (Nat.le_refl _) _ | exact (((Below.refl wv.heap.size wv).alloc (Nat.le_refl _) _).setCell (Nat.le_refl _) _).setCell (Nat.le_refl _) _)⟩⟩
                      have hba2 : (((b : Int) + 1) != a) = true := bne_iff_ne.2 hba
                      cases hmb : m2 ((b : Int) + 1) with
                      | none =>
                        have HMB := Aside0.mk hmb
                        clear hmb
                        go_wp2_with (first | (at_lookup; (refine map_get _ rfl _ _ rfl w6.heap.size nn m2 rfl HM2.out ((b : Int) + 1) rfl HWb.out ?_; rw [HMB.out]; simp only [val, Option.getD_none, Option.getD_some, Option.isSome_none, Option.isSome_some])))
                        go_roundg g3
                        case measure => omega
                        case rel => exact ⟨b + 1, (by simp [wn, wb, HMA.out, HWV.out, HMB.out]), (by first | (simp; done) | (rw [show wrap64 ((b : Int) + 1 + 1) = ((b + 1 : Nat) : Int) + 1 from by unfold wrap64; omega])), ⟨⟨by have := HBb.out; omega, by omega⟩⟩, ⟨Kd.R_below HY2.out (by first | exact (Below.refl wv.heap.size wv).alloc (Nat.le_refl _) _ | exact (((Below.refl wv.heap.size wv).alloc (Nat.le_refl _) _).setCell (Nat.le_refl _) _).setCell (Nat.le_refl _) _)⟩, ⟨HM2.out.below (by first | exact (Below.refl wv.heap.size wv).alloc (Nat.le_refl _) _ | exact (((Below.refl wv.heap.size wv).alloc (Nat.le_refl _) _).setCell (Nat.le_refl _) _).setCell (Nat.le_refl _) _)⟩, ⟨HB2.out.trans (Below.mono (B := wv.heap.size) (by first | exact (Below.refl wv.heap.size wv).alloc (Nat.le_refl _) _ | exact (((Below.refl wv.heap.size wv).alloc (Nat.le_refl _) _).setCell (Nat.le_refl _) _).setCell (Nat.le_refl _) _) HB2.out.size)⟩, ⟨blk_below BK.out (by first | exact (Below.refl wv.heap.size wv).alloc (Nat.le_refl _) _ | exact (((Below.refl wv.heap.size wv).alloc (Nat.le_refl _) _).setCell (Nat.le_refl _) _).setCell (Nat.le_refl _) _)⟩⟩
                      | some qb =>
                        have HMB := Aside0.mk hmb
                        clear hmb
                        by_cases hqf : qb.1 = f
                        case neg =>
                          have hqf2 : (qb.1 == f) = false := beq_eq_false_iff_ne.2 hqf
                          go_wp2_with (first | (at_lookup; (refine map_get _ rfl _ _ rfl w6.heap.size nn m2 rfl HM2.out ((b : Int) + 1) rfl HWb.out ?_; rw [HMB.out]; simp only [val, Option.getD_none, Option.getD_some, Option.isSome_none, Option.isSome_some])))
                          go_roundg g3
                          case measure => omega
                          case rel => exact ⟨b + 1, (by simp [wn, wb, HMA.out, HWV.out, HMB.out, hqf]), (by first | (simp; done) | (rw [show wrap64 ((b : Int) + 1 + 1) = ((b + 1 : Nat) : Int) + 1 from by unfold wrap64; omega])), ⟨⟨by have := HBb.out; omega, by omega⟩⟩, ⟨Kd.R_below HY2.out (by first | exact (Below.refl wv.heap.size wv).alloc (Nat.le_refl _) _ | exact (((Below.refl wv.heap.size wv).alloc (Nat.le_refl _) _).setCell (Nat.le_refl _) _).setCell (Nat.le_refl _) _)⟩, ⟨HM2.out.below (by first | exact (Below.refl wv.heap.size wv).alloc (Nat.le_refl _) _ | exact (((Below.refl wv.heap.size wv).alloc (Nat.le_refl _) _).setCell (Nat.le_refl _) _).setCell (Nat.le_refl _) _)⟩, ⟨HB2.out.trans (Below.mono (B := wv.heap.size) (by first | exact (Below.refl wv.heap.size wv).alloc (Nat.le_refl _) _ | exact (((Below.refl wv.heap.size wv).alloc (Nat.le_refl _) _).setCell (Nat.le_refl _) _).setCell (Nat.le_refl _) _) HB2.out.size)⟩, ⟨blk_below BK.out (by first | exact (Below.refl wv.heap.size wv).alloc (Nat.le_refl _) _ | exact (((Below.refl wv.heap.size wv).alloc (Nat.le_refl _) _).setCell (Nat.le_refl _) _).setCell (Nat.le_refl _) _)⟩⟩
                        have hqf2 : (qb.1 == f) = true := beq_iff_eq.2 hqf
                        have HQF := Aside0.mk hqf
                        clear hqf
                        go_wp2_with (first | (at_lookup; (refine map_get _ rfl _ _ rfl w6.heap.size nn m2 rfl HM2.out ((b : Int) + 1) rfl HWb.out ?_; rw [HMB.out]; simp only [val, Option.getD_none, Option.getD_some, Option.isSome_none, Option.isSome_some])))
                        go_roundg g3
                        case measure => omega
                        case rel => exact ⟨b + 1, (by simp [wn, wb, HMA.out, HWV.out, HMB.out, hba, HQF.out]), (by first | (simp; done) | (rw [show wrap64 ((b : Int) + 1 + 1) = ((b + 1 : Nat) : Int) + 1 from by unfold wrap64; omega])), ⟨⟨by have := HBb.out; omega, by omega⟩⟩, ⟨Kd.R_below HY2.out (by first | exact (Below.refl wv.heap.size wv).alloc (Nat.le_refl _) _ | exact (((Below.refl wv.heap.size wv).alloc (Nat.le_refl _) _).setCell (Nat.le_refl _) _).setCell (Nat.le_refl _) _)⟩, ⟨HM2.out.below (by first | exact (Below.refl wv.heap.size wv).alloc (Nat.le_refl _) _ | exact (((Below.refl wv.heap.size wv).alloc (Nat.le_refl _) _).setCell (Nat.le_refl _) _).setCell (Nat.le_refl _) _)⟩, ⟨HB2.out.trans (Below.mono (B := wv.heap.size) (by first | exact (Below.refl wv.heap.size wv).alloc (Nat.le_refl _) _ | exact (((Below.refl wv.heap.size wv).alloc (Nat.le_refl _) _).setCell (Nat.le_refl _) _).setCell (Nat.le_refl _) _) HB2.out.size)⟩, ⟨blk_below BK.out (by first | exact (Below.refl wv.heap.size wv).alloc (Nat.le_refl _) _ | exact (((Below.refl wv.heap.size wv).alloc (Nat.le_refl _) _).setCell (Nat.le_refl _) _).setCell (Nat.le_refl _) _)⟩⟩
                | some pa =>
                  have HMA := Aside0.mk hma
                  go_wp2_with (first
                    | (at_lookup; (refine map_get _ rfl _ _ rfl w6.heap.size nn m2 rfl HM2.out a rfl HWa.out ?_; rw [HMA.out]; simp only [val, Option.getD_none, Option.getD_some, Option.isSome_none, Option.isSome_some]))
                    )
                  go_loopg [14, 17] 10 (fun kq v14 v17 w' => ∃ (b : Nat), v14 = .bool (wn m2 a f b) ∧ v17 = .int .i64 ((b : Int) + 1) ∧ Aside0 (b + kq = 10 ∧ b ≤ 3) ∧ Aside0 (Kd.R k24 24 w' (w6.heap.size + 1) (fun _ => True) (.slice Ay y.length cy) y) ∧ Aside0 (MapIs w' w6.heap.size nn m2) ∧ Aside0 (Below w.heap.size w w') ∧ Aside0 (w'.heap[wf.heap.size]? = some (.cells #[.int .i64 pa.1, .int .i64 pa.2] 35 (0, 0))))
                  case atStart => exact ⟨0, rfl, (by simp), ⟨⟨by omega, by omega⟩⟩, ⟨Kd.R_below HY2.out (by first | exact (Below.refl wf.heap.size wf).alloc (Nat.le_refl _) _ | exact (((Below.refl wf.heap.size wf).alloc (Nat.le_refl _) _).setCell (Nat.le_refl _) _).setCell (Nat.le_refl _) _)⟩, ⟨HM2.out.below (by first | exact (Below.refl wf.heap.size wf).alloc (Nat.le_refl _) _ | exact (((Below.refl wf.heap.size wf).alloc (Nat.le_refl _) _).setCell (Nat.le_refl _) _).setCell (Nat.le_refl _) _)⟩, ⟨HB2.out.trans (Below.mono (B := wf.heap.size) (by first | exact (Below.refl wf.heap.size wf).alloc (Nat.le_refl _) _ | exact (((Below.refl wf.heap.size wf).alloc (Nat.le_refl _) _).setCell (Nat.le_refl _) _).setCell (Nat.le_refl _) _) HB2.out.size)⟩, ⟨by first | exact heap_alloc_new _ _ | (refine blk_put (cs := #[.int .i64 pa.1, .int .i64 0]) ?_ 1 _ rfl; refine blk_put (cs := #[.int .i64 0, .int .i64 0]) ?_ 0 _ rfl; exact heap_alloc_new _ _)⟩⟩
                  case round => as_aux_lemma =>
                    clear HY2 HM2 HB2
                    obtain ⟨b, rfl, rfl, HBb, HY2, HM2, HB2, BK⟩ := hrel
                    obtain ⟨g3, rfl⟩ : ∃ n, gk = n + 1 := ⟨gk - 1, by have := HBb.out; omega⟩
                    rename World => wv
                    rcases Nat.lt_or_ge b 3 with hb3 | hb3
                    case inr =>
                      obtain rfl : b = 3 := by have := HBb.out; omega
                      obtain ⟨_, hcy, hCy⟩ := Kd.R_reads' HY2.out
                      have HCy := Aside0.mk hCy
                      clear hCy
                      have HW3 : Aside0 (line_Ahead.f 50 y a f = some (wn m2 a f 3)) := ⟨by rw [HWn.out]; simp [wn]⟩
                      generalize wn m2 a f 3 = W at HW3 ⊢
                      have hWW : (W != W) = false := by simp
                      go_wp2_with (first | ((with_reducible refine gate_callee (f := 12) rfl ?_); (refine goesL_ (some 156) rfl rfl Try.func12 (by kernel_rfl) rfl #[.slice Ay y.length cy, .int .i64 a, .int .i64 f] rfl (by (try simp only [List.map_toArray, List.map_cons, List.map_nil]); first | done | rfl) ?_; (refine (line_Ahead.calls 50 _ _ y a f W _ HCy.out hcy HW3.out).mono ?_); rintro e w12 ⟨rfl, hb⟩; refine ⟨_, rfl, ?_⟩; have HY3 := Aside0.mk (Kd.R_below HY2.out hb); have HM3 := Aside0.mk (HM2.out.below hb); have HB3 := Aside0.mk (HB2.out.trans (hb.mono HB2.out.size)); clear hb)))
                      have hF := HF.out
                      go_roundg g2
                      case measure => omega
                      case rel => exact ⟨f + 1, (by first | (simp; done) | (rw [show wrap64 (f + 1) = f + 1 from by unfold wrap64; omega])), ⟨⟨by omega, by omega, by omega⟩⟩, ⟨HY3.out⟩, ⟨HM3.out⟩, ⟨HB3.out⟩⟩
                    have hdb : decide ((b : Int) + 1 ≤ 3) = true := decide_eq_true (by omega)
                    have HWb : Aside0 ((Lit.int .i64 ((b : Int) + 1)).wf = true) := ⟨by simp [Lit.wf, IntKind.min, IntKind.max, IntKind.bits, IntKind.signed]; omega⟩
                    have hg1 : wf.heap.size < wv.heap.size := blk_lt BK.out
                    have hg2 : wf.heap.size ≠ wv.heap.size := Nat.ne_of_lt hg1
                    have hg3 := hg2.symm
                    have o0 : wv.cell? ⟨wf.heap.size, 0, none⟩ = some (.int .i64 pa.1) := (blk_cell BK.out 0).trans rfl
                    have o1 : wv.cell? ⟨wf.heap.size, 1, none⟩ = some (.int .i64 pa.2) := (blk_cell BK.out 1).trans rfl
                    cases hwv : wn m2 a f b with
                    | true =>
                      have HWV := Aside0.mk hwv
                      clear hwv
                      go_wp2_with (first | (at_lookup; (refine map_get _ rfl _ _ rfl w6.heap.size nn m2 rfl HM2.out ((b : Int) + 1) rfl HWb.out ?_; simp only [val, Option.getD_none, Option.getD_some, Option.isSome_none, Option.isSome_some])))
                      go_roundg g3
                      case measure => omega
                      case rel => exact ⟨b + 1, (by simp [wn, wb, HMA.out, HWV.out]), (by first | (simp; done) | (rw [show wrap64 ((b : Int) + 1 + 1) = ((b + 1 : Nat) : Int) + 1 from by unfold wrap64; omega])), ⟨⟨by have := HBb.out; omega, by omega⟩⟩, ⟨Kd.R_below HY2.out (by first | exact (Below.refl wv.heap.size wv).alloc (Nat.le_refl _) _ | exact (((Below.refl wv.heap.size wv).alloc (Nat.le_refl _) _).setCell (Nat.le_refl _) _).setCell (Nat.le_refl _) _)⟩, ⟨HM2.out.below (by first | exact (Below.refl wv.heap.size wv).alloc (Nat.le_refl _) _ | exact (((Below.refl wv.heap.size wv).alloc (Nat.le_refl _) _).setCell (Nat.le_refl _) _).setCell (Nat.le_refl _) _)⟩, ⟨HB2.out.trans (Below.mono (B := wv.heap.size) (by first | exact (Below.refl wv.heap.size wv).alloc (Nat.le_refl _) _ | exact (((Below.refl wv.heap.size wv).alloc (Nat.le_refl _) _).setCell (Nat.le_refl _) _).setCell (Nat.le_refl _) _) HB2.out.size)⟩, ⟨blk_below BK.out (by first | exact (Below.refl wv.heap.size wv).alloc (Nat.le_refl _) _ | exact (((Below.refl wv.heap.size wv).alloc (Nat.le_refl _) _).setCell (Nat.le_refl _) _).setCell (Nat.le_refl _) _)⟩⟩
                    | false =>
                      have HWV := Aside0.mk hwv
                      clear hwv
                      by_cases hba : (b : Int) + 1 = a
                      · have hba2 : (((b : Int) + 1) != a) = false := bne_eq_false_iff_eq.2 hba
                        have HBA := Aside0.mk hba
                        clear hba
                        go_wp2_with (first | (at_lookup; (refine map_get _ rfl _ _ rfl w6.heap.size nn m2 rfl HM2.out ((b : Int) + 1) rfl HWb.out ?_; simp only [val, Option.getD_none, Option.getD_some, Option.isSome_none, Option.isSome_some])))
                        go_roundg g3
                        case measure => omega
                        case rel => exact ⟨b + 1, (by simp [wn, wb, HMA.out, HWV.out, HBA.out]), (by first | (simp; done) | (rw [show wrap64 ((b : Int) + 1 + 1) = ((b + 1 : Nat) : Int) + 1 from by unfold wrap64; omega])), ⟨⟨by have := HBb.out; omega, by omega⟩⟩, ⟨Kd.R_below HY2.out (by first | exact (Below.refl wv.heap.size wv).alloc (Nat.le_refl _) _ | exact (((Below.refl wv.heap.size wv).alloc (Nat.le_refl _) _).setCell (Nat.le_refl _) _).setCell (Nat.le_refl _) _)⟩, ⟨HM2.out.below (by first | exact (Below.refl wv.heap.size wv).alloc (Nat.le_refl _) _ | exact (((Below.refl wv.heap.size wv).alloc (Nat.le_refl _) _).setCell (Nat.le_refl _) _).setCell (Nat.le_refl _) _)⟩, ⟨HB2.out.trans (Below.mono (B := wv.heap.size) (by first | exact (Below.refl wv.heap.size wv).alloc (Nat.le_refl _) _ | exact (((Below.refl wv.heap.size wv).alloc (Nat.le_refl _) _).setCell (Nat.le_refl _) _).setCell (Nat.le_refl _) _) HB2.out.size)⟩, ⟨blk_below BK.out (by first | exact (Below.refl wv.heap.size wv).alloc (Nat.le_refl _) _ | exact (((Below.refl wv.heap.size wv).alloc (Nat.le_refl _) _).setCell (Nat.le_refl _) _).setCell (Nat.le_refl _) _)⟩⟩
                      have hba2 : (((b : Int) + 1) != a) = true := bne_iff_ne.2 hba
                      cases hmb : m2 ((b : Int) + 1) with
                      | none =>
                        have HMB := Aside0.mk hmb
                        clear hmb
                        go_wp2_with (first | (at_lookup; (refine map_get _ rfl _ _ rfl w6.heap.size nn m2 rfl HM2.out ((b : Int) + 1) rfl HWb.out ?_; rw [HMB.out]; simp only [val, Option.getD_none, Option.getD_some, Option.isSome_none, Option.isSome_some])))
                        go_roundg g3
                        case measure => omega
                        case rel => exact ⟨b + 1, (by simp [wn, wb, HMA.out, HWV.out, HMB.out]), (by first | (simp; done) | (rw [show wrap64 ((b : Int) + 1 + 1) = ((b + 1 : Nat) : Int) + 1 from by unfold wrap64; omega])), ⟨⟨by have := HBb.out; omega, by omega⟩⟩, ⟨Kd.R_below HY2.out (by first | exact (Below.refl wv.heap.size wv).alloc (Nat.le_refl _) _ | exact (((Below.refl wv.heap.size wv).alloc (Nat.le_refl _) _).setCell (Nat.le_refl _) _).setCell (Nat.le_refl _) _)⟩, ⟨HM2.out.below (by first | exact (Below.refl wv.heap.size wv).alloc (Nat.le_refl _) _ | exact (((Below.refl wv.heap.size wv).alloc (Nat.le_refl _) _).setCell (Nat.le_refl _) _).setCell (Nat.le_refl _) _)⟩, ⟨HB2.out.trans (Below.mono (B := wv.heap.size) (by first | exact (Below.refl wv.heap.size wv).alloc (Nat.le_refl _) _ | exact (((Below.refl wv.heap.size wv).alloc (Nat.le_refl _) _).setCell (Nat.le_refl _) _).setCell (Nat.le_refl _) _) HB2.out.size)⟩, ⟨blk_below BK.out (by first | exact (Below.refl wv.heap.size wv).alloc (Nat.le_refl _) _ | exact (((Below.refl wv.heap.size wv).alloc (Nat.le_refl _) _).setCell (Nat.le_refl _) _).setCell (Nat.le_refl _) _)⟩⟩
                      | some qb =>
                        have HMB := Aside0.mk hmb
                        clear hmb
                        by_cases hqf : qb.1 = f
                        case neg =>
                          have hqf2 : (qb.1 == f) = false := beq_eq_false_iff_ne.2 hqf
                          go_wp2_with (first | (at_lookup; (refine map_get _ rfl _ _ rfl w6.heap.size nn m2 rfl HM2.out ((b : Int) + 1) rfl HWb.out ?_; rw [HMB.out]; simp only [val, Option.getD_none, Option.getD_some, Option.isSome_none, Option.isSome_some])))
                          go_roundg g3
                          case measure => omega
                          case rel => exact ⟨b + 1, (by simp [wn, wb, HMA.out, HWV.out, HMB.out, hqf]), (by first | (simp; done) | (rw [show wrap64 ((b : Int) + 1 + 1) = ((b + 1 : Nat) : Int) + 1 from by unfold wrap64; omega])), ⟨⟨by have := HBb.out; omega, by omega⟩⟩, ⟨Kd.R_below HY2.out (by first | exact (Below.refl wv.heap.size wv).alloc (Nat.le_refl _) _ | exact (((Below.refl wv.heap.size wv).alloc (Nat.le_refl _) _).setCell (Nat.le_refl _) _).setCell (Nat.le_refl _) _)⟩, ⟨HM2.out.below (by first | exact (Below.refl wv.heap.size wv).alloc (Nat.le_refl _) _ | exact (((Below.refl wv.heap.size wv).alloc (Nat.le_refl _) _).setCell (Nat.le_refl _) _).setCell (Nat.le_refl _) _)⟩, ⟨HB2.out.trans (Below.mono (B := wv.heap.size) (by first | exact (Below.refl wv.heap.size wv).alloc (Nat.le_refl _) _ | exact (((Below.refl wv.heap.size wv).alloc (Nat.le_refl _) _).setCell (Nat.le_refl _) _).setCell (Nat.le_refl _) _) HB2.out.size)⟩, ⟨blk_below BK.out (by first | exact (Below.refl wv.heap.size wv).alloc (Nat.le_refl _) _ | exact (((Below.refl wv.heap.size wv).alloc (Nat.le_refl _) _).setCell (Nat.le_refl _) _).setCell (Nat.le_refl _) _)⟩⟩
                        have hqf2 : (qb.1 == f) = true := beq_iff_eq.2 hqf
                        have HQF := Aside0.mk hqf
                        clear hqf
                        by_cases hpf : pa.1 = f
                        case neg =>
                          have hpf2 : (pa.1 != f) = true := bne_iff_ne.2 hpf
                          go_wp2_with (first | (at_lookup; (refine map_get _ rfl _ _ rfl w6.heap.size nn m2 rfl HM2.out ((b : Int) + 1) rfl HWb.out ?_; rw [HMB.out]; simp only [val, Option.getD_none, Option.getD_some, Option.isSome_none, Option.isSome_some])))
                          go_roundg g3
                          case measure => omega
                          case rel => exact ⟨b + 1, (by simp [wn, wb, HMA.out, HWV.out, HMB.out, hba, HQF.out, hpf]), (by first | (simp; done) | (rw [show wrap64 ((b : Int) + 1 + 1) = ((b + 1 : Nat) : Int) + 1 from by unfold wrap64; omega])), ⟨⟨by have := HBb.out; omega, by omega⟩⟩, ⟨Kd.R_below HY2.out (by first | exact (Below.refl wv.heap.size wv).alloc (Nat.le_refl _) _ | exact (((Below.refl wv.heap.size wv).alloc (Nat.le_refl _) _).setCell (Nat.le_refl _) _).setCell (Nat.le_refl _) _)⟩, ⟨HM2.out.below (by first | exact (Below.refl wv.heap.size wv).alloc (Nat.le_refl _) _ | exact (((Below.refl wv.heap.size wv).alloc (Nat.le_refl _) _).setCell (Nat.le_refl _) _).setCell (Nat.le_refl _) _)⟩, ⟨HB2.out.trans (Below.mono (B := wv.heap.size) (by first | exact (Below.refl wv.heap.size wv).alloc (Nat.le_refl _) _ | exact (((Below.refl wv.heap.size wv).alloc (Nat.le_refl _) _).setCell (Nat.le_refl _) _).setCell (Nat.le_refl _) _) HB2.out.size)⟩, ⟨blk_below BK.out (by first | exact (Below.refl wv.heap.size wv).alloc (Nat.le_refl _) _ | exact (((Below.refl wv.heap.size wv).alloc (Nat.le_refl _) _).setCell (Nat.le_refl _) _).setCell (Nat.le_refl _) _)⟩⟩
                        have hpf2 : (pa.1 != f) = false := bne_eq_false_iff_eq.2 hpf
                        have HPF := Aside0.mk hpf
                        clear hpf
                        by_cases hlt : qb.2 < pa.2
                        · have hlt2 : decide (qb.2 < pa.2) = true := decide_eq_true hlt
                          go_wp2_with (first | (at_lookup; (refine map_get _ rfl _ _ rfl w6.heap.size nn m2 rfl HM2.out ((b : Int) + 1) rfl HWb.out ?_; rw [HMB.out]; simp only [val, Option.getD_none, Option.getD_some, Option.isSome_none, Option.isSome_some])))
                          go_roundg g3
                          case measure => omega
                          case rel => exact ⟨b + 1, (by simp [wn, wb, HMA.out, HWV.out, HMB.out, hba, HQF.out, HPF.out, hlt]), (by first | (simp; done) | (rw [show wrap64 ((b : Int) + 1 + 1) = ((b + 1 : Nat) : Int) + 1 from by unfold wrap64; omega])), ⟨⟨by have := HBb.out; omega, by omega⟩⟩, ⟨Kd.R_below HY2.out (by first | exact (Below.refl wv.heap.size wv).alloc (Nat.le_refl _) _ | exact (((Below.refl wv.heap.size wv).alloc (Nat.le_refl _) _).setCell (Nat.le_refl _) _).setCell (Nat.le_refl _) _)⟩, ⟨HM2.out.below (by first | exact (Below.refl wv.heap.size wv).alloc (Nat.le_refl _) _ | exact (((Below.refl wv.heap.size wv).alloc (Nat.le_refl _) _).setCell (Nat.le_refl _) _).setCell (Nat.le_refl _) _)⟩, ⟨HB2.out.trans (Below.mono (B := wv.heap.size) (by first | exact (Below.refl wv.heap.size wv).alloc (Nat.le_refl _) _ | exact (((Below.refl wv.heap.size wv).alloc (Nat.le_refl _) _).setCell (Nat.le_refl _) _).setCell (Nat.le_refl _) _) HB2.out.size)⟩, ⟨blk_below BK.out (by first | exact (Below.refl wv.heap.size wv).alloc (Nat.le_refl _) _ | exact (((Below.refl wv.heap.size wv).alloc (Nat.le_refl _) _).setCell (Nat.le_refl _) _).setCell (Nat.le_refl _) _)⟩⟩
                        · have hlt2 : decide (qb.2 < pa.2) = false := decide_eq_false hlt
                          go_wp2_with (first | (at_lookup; (refine map_get _ rfl _ _ rfl w6.heap.size nn m2 rfl HM2.out ((b : Int) + 1) rfl HWb.out ?_; rw [HMB.out]; simp only [val, Option.getD_none, Option.getD_some, Option.isSome_none, Option.isSome_some])))
                          go_roundg g3
                          case measure => omega
                          case rel => exact ⟨b + 1, (by simp [wn, wb, HMA.out, HWV.out, HMB.out, hba, HQF.out, HPF.out, hlt]), (by first | (simp; done) | (rw [show wrap64 ((b : Int) + 1 + 1) = ((b + 1 : Nat) : Int) + 1 from by unfold wrap64; omega])), ⟨⟨by have := HBb.out; omega, by omega⟩⟩, ⟨Kd.R_below HY2.out (by first | exact (Below.refl wv.heap.size wv).alloc (Nat.le_refl _) _ | exact (((Below.refl wv.heap.size wv).alloc (Nat.le_refl _) _).setCell (Nat.le_refl _) _).setCell (Nat.le_refl _) _)⟩, ⟨HM2.out.below (by first | exact (Below.refl wv.heap.size wv).alloc (Nat.le_refl _) _ | exact (((Below.refl wv.heap.size wv).alloc (Nat.le_refl _) _).setCell (Nat.le_refl _) _).setCell (Nat.le_refl _) _)⟩, ⟨HB2.out.trans (Below.mono (B := wv.heap.size) (by first | exact (Below.refl wv.heap.size wv).alloc (Nat.le_refl _) _ | exact (((Below.refl wv.heap.size wv).alloc (Nat.le_refl _) _).setCell (Nat.le_refl _) _).setCell (Nat.le_refl _) _) HB2.out.size)⟩, ⟨blk_below BK.out (by first | exact (Below.refl wv.heap.size wv).alloc (Nat.le_refl _) _ | exact (((Below.refl wv.heap.size wv).alloc (Nat.le_refl _) _).setCell (Nat.le_refl _) _).setCell (Nat.le_refl _) _)⟩⟩
    · have hd3 : decide ((i : Int) < (l0.length : Int)) = false := decide_eq_false (by omega)
      go_wp2
      go_ret
      exact ⟨rfl, HB.out⟩

theorem tenancylaw14_LineFirst.calls (A0 : Option Addr) (c0 : Nat) (l0 : List S27) (w : World) (hr0 : Kd.C k27 w A0 l0.length l0) (hq : ∀ x ∈ l0, 0 ≤ x.f1 ∧ 0 ≤ x.f2) :
    Calls Try.prog 4 #[.slice A0 l0.length c0] w fun e w' => e = .returned (.bool true) ∧ Below w.heap.size w w' := by
  rcases Nat.lt_or_ge 30 l0.length with h | h
  · exact first_long A0 c0 l0 w h
  · exact first_walk A0 c0 l0 w hr0 h hq
end Go.Proofs.Ytpdnekffippgdaa.L
