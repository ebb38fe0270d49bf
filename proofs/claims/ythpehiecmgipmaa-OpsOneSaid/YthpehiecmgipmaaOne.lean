/- OpsOne: a step that may be said is, and comes back: the law's own walk. Conditions: its numbers are of their kinds. (Printed by wip/tools/mkone.py of this session.) -/
import Derived.Test.YthpehiecmgipmaaPlain
import Derived.Test.YthpehiecmgipmaaWTab
import Derived.Deep.CutBlock
import Derived.Deep.DeepCutAuto
namespace Go.Proofs.Ythpehiecmgipmaa.L
set_option linter.unusedSimpArgs false
set_option linter.unusedVariables false
open Go.RowKit Go.Proofs.YthpehiecmgipmaaW.PrintWords Go.Proofs.YthpehiecmgipmaaW.PrintLast Go.Proofs.YthpehiecmgipmaaW.PrintMore
def one_.T13 : Bool × List (List Nat × List Nat) := (true, [([], []), ([0], [0]), ([], []), ([2], [2]), ([3], [3]), ([4], [4]), ([5], [5]), ([1, 6], [1, 6]), ([0, 1, 2, 3, 4, 5, 6, 7], []), ([8, 7, 7, 0, 1, 2, 3, 4, 5, 6, 7], [7, 8])])
def one_.B13 : List Nat := [0, 1, 0, 4, 12, 28, 60, 127, 255, 511]
theorem one_.tab13 : rtab .any (opsOf Try.f6 13) = one_.T13 := by kernel_rfl
theorem one_.bits13 : waitsOk one_.T13.2 one_.B13 = true := by kernel_rfl
def one_.T32 : Bool × List (List Nat × List Nat) := (true, [([], []), ([0], [0]), ([], []), ([2], [2]), ([3], [3]), ([4], [4]), ([5], [5]), ([6], [6]), ([7], [7]), ([1, 8], [1, 8]), ([0, 1, 2, 3, 4, 5, 6, 7, 8, 9], []), ([10, 9, 9, 0, 1, 2, 3, 4, 5, 6, 7, 8, 9], [9, 10])])
def one_.B32 : List Nat := [0, 1, 0, 4, 12, 28, 60, 124, 252, 511, 1023, 2047]
theorem one_.tab32 : rtab .any (opsOf Try.f6 32) = one_.T32 := by kernel_rfl
theorem one_.bits32 : waitsOk one_.T32.2 one_.B32 = true := by kernel_rfl
def one_.T34 : Bool × List (List Nat × List Nat) := (true, [([], []), ([0], [0]), ([1], [1]), ([2], [2]), ([3], [3]), ([4, 3], [3, 4]), ([5, 3], [3, 5]), ([3], [3]), ([6, 7, 3, 3], [3, 6, 7]), ([3, 8], [3, 8]), ([9, 8, 0, 1, 2, 3, 4, 5, 6, 7, 8, 9], [9])])
def one_.B34 : List Nat := [0, 1, 3, 7, 15, 31, 63, 15, 255, 511, 1023]
theorem one_.tab34 : rtab .any (opsOf Try.f6 34) = one_.T34 := by kernel_rfl
theorem one_.bits34 : waitsOk one_.T34.2 one_.B34 = true := by kernel_rfl
/-- A literal of one step. -/
theorem C_lit1 {w : World} {x : S27} {A : Option Addr} {c : Nat} (hc : x.f8.length ≤ c) (h : Kd.C (Kd.int .i64) w A x.f8.length x.f8) :
    Kd.C k27 (w.alloc (.cells (cells27 x (.slice A x.f8.length c)) 27)) (some ⟨w.heap.size, 0, none⟩) 1 [x] := by
  have hb : (w.alloc (.cells (cells27 x (.slice A x.f8.length c)) 27)).heap[w.heap.size]? = some (.cells (cells27 x (.slice A x.f8.length c)) 27 (0, 0)) := heap_alloc_new w _
  refine ⟨rfl, by decide, fun _ => ⟨⟨w.heap.size, 0, none⟩, rfl, fun j p hj => ?_⟩⟩
  cases j with
  | succ j => simp at hj
  | zero =>
    obtain rfl : x = p := by simpa using hj
    refine ⟨_, rfl, k27_mk _ x hc (Kd.C_below h (below_alloc (Below.refl _ _) _)), fun i u hu => ?_⟩
    have e : (⟨w.heap.size, 0, none⟩ : Addr).add (0 * k27.sz + i) = ⟨w.heap.size, i, none⟩ := by
      rw [Nat.zero_mul, Nat.zero_add]
      unfold Addr.add
      by_cases h0 : i = 0 <;> simp [h0]
    rw [e, blk_cell hb i]
    rw [← hu]
    unfold cells27
    simp
/-- Four numbers of an array, as they lie. -/
theorem four_at {w : World} {g : Nat} {g0 g1 g2 g3 : Int} (h : w.heap[g]? = some (.cells #[.int .u16 g0, .int .u16 g1, .int .u16 g2, .int .u16 g3] 60 (0, 0))) (i : Nat) (hi : i < 4) : w.cell? ⟨g, i, none⟩ = some (.int .u16 (rd [g0, g1, g2, g3] i)) := by
  rw [blk_cell h i]
  match i, hi with
  | 0, _ => rfl
  | 1, _ => rfl
  | 2, _ => rfl
  | 3, _ => rfl
theorem four_R2 {g0 g1 g2 g3 : Int} (h0 : R2 g0) (h1 : R2 g1) (h2 : R2 g2) (h3 : R2 g3) (i : Nat) (hi : i < 4) : R2 (rd [g0, g1, g2, g3] i) := by
  match i, hi with
  | 0, _ => exact h0
  | 1, _ => exact h1
  | 2, _ => exact h2
  | 3, _ => exact h3
/-- The numbers that a crash keeps. -/
def keptOf (gs : List Int) (n : Nat) : List Int := (List.range n).map fun (j : Nat) => rd gs ((j % 4 : Nat) : Int) % 256
theorem keptOf_succ (gs : List Int) (n : Nat) : keptOf gs (n + 1) = keptOf gs n ++ [rd gs ((n % 4 : Nat) : Int) % 256] := by unfold keptOf; rw [List.range_succ, List.map_append]; rfl
theorem keptOf_len (gs : List Int) (n : Nat) : (keptOf gs n).length = n := by unfold keptOf; simp
theorem keptOf_R1 (gs : List Int) (n : Nat) : ∀ x ∈ keptOf gs n, R1 x := by
  intro x hx
  obtain ⟨j, _, rfl⟩ := List.mem_map.1 hx
  unfold R1; omega
/-- What the two loops hold: a step being made, its row, the four numbers. -/
structure OS (w w1 W : World) (gs : List Int) (g0 g1 g2 g3 : Int) (cs : List Value) (A : Option Addr) (c : Nat) (xs : List Int) : Prop where
  blk : W.heap[w1.heap.size]? = some (.cells (cs ++ [Value.slice A xs.length c]).toArray 27 (0, 0))
  row : Kd.R (Kd.int .i64) 3 W w.heap.size (fun k => k ≠ w1.heap.size ∧ k ≠ w.heap.size) (.slice A xs.length c) xs
  below : Below w.heap.size w W
  arr : W.heap[w.heap.size]? = some (.cells #[.int .u16 g0, .int .u16 g1, .int .u16 g2, .int .u16 g3] 60 (0, 0))
theorem OS.drew {w w1 W : World} {gs : List Int} {g0 g1 g2 g3 : Int} {cs : List Value} {A : Option Addr} {c : Nat} {xs : List Int} (h : OS w w1 W gs g0 g1 g2 g3 cs A c xs) : OS w w1 W.drew gs g0 g1 g2 g3 cs A c xs :=
  ⟨h.blk, Kd.R_drew h.row, below_drew h.below, h.arr⟩
theorem OS.grown {w w1 W W1 : World} {gs : List Int} {g0 g1 g2 g3 : Int} {cs : List Value} {A A1 : Option Addr} {c c1 : Nat} {xs ys : List Int} (h : OS w w1 W gs g0 g1 g2 g3 cs A c xs) (hw : w.heap.size < w1.heap.size) (hr : Kd.R (Kd.int .i64) 3 W1 w.heap.size (fun k => k ≠ w1.heap.size ∧ k ≠ w.heap.size) (.slice A1 ys.length c1) ys) (hg : W.grownBy W1 (Value.slice A xs.length c).ownBlock) (hcs : cs.length = 8) :
    W1.heap[w1.heap.size]? = some (.cells (cs ++ [Value.slice A xs.length c]).toArray 27 (0, 0)) ∧ OS w w1 (W1.setCell ⟨w1.heap.size, 8, none⟩ (.slice A1 ys.length c1)) gs g0 g1 g2 g3 cs A1 c1 ys := by
  have h1 : some w1.heap.size ≠ (Value.slice A xs.length c).ownBlock := fun e => (h.row.1 _ e.symm).1 rfl
  have h2 : some w.heap.size ≠ (Value.slice A xs.length c).ownBlock := fun e => (h.row.1 _ e.symm).2 rfl
  have hb := blk_grown h.blk hg h1
  refine ⟨hb, blk_put hb 8 _ ?_, Kd.R_far hr (fun k hk => hk.1) _, ?_, blk_far (blk_grown h.arr hg h2) (p := ⟨w1.heap.size, 8, none⟩) (Nat.ne_of_lt hw) _⟩
  · apply Array.toList_inj.1
    rw [Array.toList_setIfInBounds]
    simp only [List.set_append, hcs]
    simp
  · exact (h.below.grown hg h.below.size (Kd.R_base h.row)).setCell (p := ⟨w1.heap.size, 8, none⟩) (Nat.le_of_lt hw) _
set_option maxHeartbeats 1000000 in
set_option maxRecDepth 10000 in
theorem OpsOne_small (a0 a1 a2 a3 a4 a5 a8 : Int) (s : ByteArray) (g0 g1 g2 g3 : Int) (w : World)
    (h0 : 0 ≤ a0 ∧ a0 < 256) (h1 : R1 a1) (h2 : R1 a2) (h3 : R1 a3) (h4 : R1 a4) (h5 : R2 a5) (h8 : R1 a8) (hg0 : R2 g0) (hg1 : R2 g1) (hg2 : R2 g2) (hg3 : R2 g3) (hs : s.size ≤ 255) :
    Calls Try.prog 6 #[.int .u8 a0, .int .u8 a1, .int .u8 a2, .int .u8 a3, .int .u8 a4, .int .u16 a5, .string s, .agg #[.int .u16 g0, .int .u16 g1, .int .u16 g2, .int .u16 g3], .int .u8 a8] w fun e w' => e = .returned (.bool true) ∧ Below w.heap.size w w' := by
  obtain ⟨kb, hkb⟩ := begun_ev.rounds
  have HKB := Aside0.mk hkb
  clear hkb
  have hd : decide (255 < (s.size : Int)) = false := decide_eq_false (by omega)
  have hd2 : decide (255 < s.size) = false := decide_eq_false (by omega)
  obtain ⟨h01, h02⟩ := h0
  go_enter Try.func6, Try.ntmps6
  go_upto_block 0 with (go_at_call 7; refine (tenancylaw25_begun.calls kb true _ HKB.out).mono ?_; rintro e w1 ⟨rfl, hb⟩; have HB := Aside0.mk hb; clear hb)
  have hbw : Below w.heap.size w w1 := (below_alloc (Below.refl w.heap.size w) _).trans (HB.out.mono (by rw [World.size_alloc]; omega))
  have HBW := Aside0.mk hbw
  have hG := (HB.out.block w.heap.size (by rw [World.size_alloc]; omega)).trans (heap_alloc_new w _)
  have HG := Aside0.mk hG
  clear HB hbw hG
  go_cut [] (fun wc => ∃ (x : S27) (A : Option Addr) (c : Nat), Aside0 (WF x) ∧ Aside0 (wc.heap[w1.heap.size]? = some (.cells (cells27 x (.slice A x.f8.length c)) 27 (0, 0))) ∧ Aside0 (Kd.R (Kd.int .i64) 3 wc w.heap.size (fun k => k ≠ w1.heap.size) (.slice A x.f8.length c) x.f8) ∧ Aside0 (Below w.heap.size w wc))
  case first =>
    have hc14 : a0 % 14 = 0 ∨ a0 % 14 = 1 ∨ a0 % 14 = 2 ∨ a0 % 14 = 3 ∨ a0 % 14 = 4 ∨ a0 % 14 = 5 ∨ a0 % 14 = 6 ∨ a0 % 14 = 7 ∨ a0 % 14 = 8 ∨ a0 % 14 = 9 ∨ a0 % 14 = 10 ∨ a0 % 14 = 11 ∨ a0 % 14 = 12 ∨ a0 % 14 = 13 := by omega
    obtain ⟨h1a, h1b⟩ := h1
    obtain ⟨h2a, h2b⟩ := h2
    obtain ⟨h3a, h3b⟩ := h3
    obtain ⟨h4a, h4b⟩ := h4
    obtain ⟨h5a, h5b⟩ := h5
    obtain ⟨h8a, h8b⟩ := h8
    rcases hc14 with hk | hk | hk | hk | hk | hk | hk | hk | hk | hk | hk | hk | hk | hk
    · have hne : w.heap.size < w1.heap.size := blk_lt HG.out
      have HNE := Aside0.mk hne
      clear hne
      have h_ := True.intro
      have HS0 : Aside0 (OS w w1 (w1.alloc (.cells #[.int .i64 1, .int .i64 0, .int .i64 a5, .int .i64 0, .int .i64 0, .int .i64 0, .int .i64 0, .string ⟨#[]⟩, .slice none 0 0] 27)) [] g0 g1 g2 g3 [.int .i64 1, .int .i64 0, .int .i64 a5, .int .i64 0, .int .i64 0, .int .i64 0, .int .i64 0, .string ⟨#[]⟩] none 0 []) := ⟨heap_alloc_new w1 _, Kd.R_nil _ _ _ _ _, below_alloc HBW.out _, blk_alloc HG.out _⟩
      go_wp2
      have HK14 := Aside0.mk hk
      clear hk
      go_loopg [20] 4 (fun kq v w' => ∃ (i : Nat) (xs : List Int) (A : Option Addr) (c : Nat), v = .int .i64 (i : Int) ∧ Aside0 (i + kq = 4 ∧ xs = [g0, g1, g2, g3].take i ∧ xs.length = i) ∧ Aside0 (OS w w1 w' [] g0 g1 g2 g3 [.int .i64 1, .int .i64 0, .int .i64 a5, .int .i64 0, .int .i64 0, .int .i64 0, .int .i64 0, .string ⟨#[]⟩] A c xs))
      case atStart => exact ⟨0, [], none, 0, rfl, ⟨by omega, by first | rfl | simp [keptOf], rfl⟩, HS0⟩
      case round =>
        clear HS0
        obtain ⟨i, xs, A, c, rfl, HI0, HS⟩ := hrel
        have hik := HI0.out.1
        cases gk with
        | zero =>
          obtain rfl : i = 4 := by omega
          have hd4 : decide (((4 : Nat) : Int) < 4) = false := by decide
          clear hik
          go_wp2
          go_meet
          case rel =>
            have hx := HI0.out.2.1
            have hl := HI0.out.2.2
            exact ⟨⟨1, 0, a5, 0, 0, 0, 0, ⟨#[]⟩, xs⟩, A, c, ⟨by rw [hx]; exact .time _ _ ⟨h5a, h5b⟩ rfl (fun y hy => by simp at hy; rcases hy with rfl | rfl | rfl | rfl <;> assumption)⟩, ⟨HS.out.blk⟩, ⟨Kd.R_mono HS.out.row (fun _ hk => hk.1)⟩, ⟨HS.out.below⟩⟩
        | succ k2 =>
          have hd4 : decide ((i : Int) < 4) = true := decide_eq_true (by omega)
          have hidx : i < 4 := by omega
          have p1 : (0 ≤ (i : Int)) = True := eq_true (by omega)
          have q1 : ((i : Int) < 4) = True := eq_true (by omega)
          have q2 : (i < 4) = True := eq_true (by omega)
          have HE64 := Aside0.mk (show wrap64 (rd [g0, g1, g2, g3] (i : Int)) = rd [g0, g1, g2, g3] (i : Int) from by have := four_R2 hg0 hg1 hg2 hg3 i hidx; unfold R2 at this; unfold wrap64; omega)
          have HI := Aside0.mk (show xs.length ≤ 30 from by have := HI0.out.2.2; omega)
          clear hik
          try go_wp2
          have HD := Aside0.mk HS.out.drew
          refine start_ (n := 10) (S := fun w' => w'.cell? ⟨w1.heap.size, 8, none⟩ = some (.slice A xs.length c) ∧ w'.cell? ⟨w.heap.size, i, none⟩ = some (.int .u16 (rd [g0, g1, g2, g3] (i : Int)))) (ds := [9]) #[false, false, false, false, false, false, false, false, false, false] (by kernel_rfl) rfl rfl ⟨(blk_cell HD.out.blk 8).trans rfl, four_at HD.out.arr i hidx⟩ (fun hHeld => ?_); refine with_tabW one_.tab13 one_.bits13 (fun HT_ HW_ => ?_)
          generalize wr.drew = w5 at HD hHeld ⊢
          refine pure_ (i := 0) (N := some 47) (v := ?_) (a' := ?_) #[true, false, false, false, false, false, false, false, false, false] rfl rfl (any_of HT_.out (by kernel_rfl)) (fun _ _ _ h => h) (Or.inl ⟨by rfl, ?_⟩) ?_ ?_
          rotate_left
          · intro w'
            go_simp
            with_reducible rfl
          rotate_left
          · simp only [Act.put, List.setIfInBounds_toArray, List.set_cons_zero, List.set_cons_succ, i64_w, i32_w]
            rfl
          refine pure_ (i := 2) (N := some 49) (v := ?_) (a' := ?_) #[true, false, true, false, false, false, false, false, false, false] rfl rfl (any_of HT_.out (by kernel_rfl)) (fun _ _ _ h => h) (Or.inl ⟨by rfl, ?_⟩) ?_ ?_
          rotate_left
          · intro w'
            go_simp
            with_reducible rfl
          rotate_left
          · simp only [Act.put, List.setIfInBounds_toArray, List.set_cons_zero, List.set_cons_succ, i64_w, i32_w]
            rfl
          refine pure_ (i := 3) (N := some 50) (v := ?_) (a' := ?_) #[true, false, true, true, false, false, false, false, false, false] rfl rfl (any_of HT_.out (by kernel_rfl)) (fun _ _ _ h => h) (Or.inl ⟨by rfl, ?_⟩) ?_ ?_
          rotate_left
          · intro w'
            go_simp
            with_reducible rfl
          rotate_left
          · simp only [Act.put, List.setIfInBounds_toArray, List.set_cons_zero, List.set_cons_succ, i64_w, i32_w]
            rfl
          refine take_ (i := 1) (N := some 48) (v := ?_) (a' := ?_) #[true, true, true, true, false, false, false, false, false, false] rfl rfl (take_ofW HT_.out HW_.out (by kernel_rfl)) (fun _ _ _ h => h) (Or.inl ⟨by rfl, ?_⟩) hHeld ?_ ?_
          rotate_left
          · rintro w' ⟨s0, s1⟩
            go_simp
            with_reducible rfl
          rotate_left
          · simp only [Act.put, List.setIfInBounds_toArray, List.set_cons_zero, List.set_cons_succ, i64_w, i32_w]
            rfl
          refine take_ (i := 4) (N := some 51) (v := ?_) (a' := ?_) #[true, true, true, true, true, false, false, false, false, false] rfl rfl (take_ofW HT_.out HW_.out (by kernel_rfl)) (fun _ _ _ h => h) (Or.inl ⟨by rfl, ?_⟩) hHeld ?_ ?_
          rotate_left
          · rintro w' ⟨s0, s1⟩
            go_simp
            with_reducible rfl
          rotate_left
          · simp only [Act.put, List.setIfInBounds_toArray, List.set_cons_zero, List.set_cons_succ, i64_w, i32_w]
            rfl
          refine pure_ (i := 5) (N := some 52) (v := ?_) (a' := ?_) #[true, true, true, true, true, true, false, false, false, false] rfl rfl (any_of HT_.out (by kernel_rfl)) (fun _ _ _ h => h) (Or.inl ⟨by rfl, ?_⟩) ?_ ?_
          rotate_left
          · intro w'
            go_simp
            with_reducible rfl
          rotate_left
          · simp only [Act.put, List.setIfInBounds_toArray, List.set_cons_zero, List.set_cons_succ, i64_w, i32_w]
            rfl
          refine one_ (i := 6) (N := some 53) #[true, true, true, true, true, true, true, false, false, false] rfl rfl (one_of HT_.out (by kernel_rfl)) (by decide) (fun K hK => ?_)
          refine value_ (w1 := ?_) (v := ?_) (by rfl) rfl ?_ ?_
          rotate_left 2
          · go_simp
            constructor
            · rfl
            · rfl
          refine hK.out _ _ ⟨(blk_cell (blk_alloc HD.out.blk _) 8).trans rfl, four_at (blk_alloc HD.out.arr _) i hidx⟩ (fun hHeld => ?_)
          clear hK K
          refine norm_ (a' := ?_) ?_ ?_
          rotate_left
          · show Act.put _ (some 53) _ = _
            simp only [Act.put, List.setIfInBounds_toArray, List.set_cons_zero, List.set_cons_succ, i64_w, i32_w]
            rfl
          refine one_ (i := 7) (N := some 54) #[true, true, true, true, true, true, true, true, false, false] rfl rfl (one_of HT_.out (by kernel_rfl)) (by decide) (fun K hK => ?_)
          refine Kd.R_append_step (Kd.int .i64) w.heap.size (by rfl) (.tmp 48) (.tmp 53) 25 3 (.int .i64 0) 8 rfl Try.underlying25 info3 rfl (by decide) (by omega) (.slice A xs.length c) xs (wrap64 (rd [g0, g1, g2, g3] (i : Int))) [.int .i64 (wrap64 (rd [g0, g1, g2, g3] (i : Int)))] (fun k => k ≠ w1.heap.size ∧ k ≠ w.heap.size) (fun _ => False) rfl rfl ?aP (fun _ hk => hk.elim) ?aF ?aO (Below.refl _ _) ?aS ?aL ?_
          (case aP => exact rfl)
          (case aF => exact fun k hk => by have := blk_lt HD.out.blk; have := blk_lt HD.out.arr; omega)
          (case aO => exact HD.out.row)
          (case aS => exact HD.out.below.size)
          (case aL => have := HI.out; omega)
          intro v6 w6 ho hb hg hat
          rw [HE64.out] at ho
          obtain ⟨A6, c6, rfl⟩ := Kd.R_slice ho
          have HF := Aside0.mk (HD.out.grown HNE.out ho hg rfl)
          have HF2 := Aside0.mk (blk_grown HD.out.arr hg (fun e => (HD.out.row.1 _ e.symm).2 rfl))
          clear ho hb hg hat
          refine hK.out _ _ ⟨(blk_cell HF.out.1 8).trans rfl, four_at HF2.out i hidx⟩ (fun hHeld => ?_)
          clear hK K
          refine norm_ (a' := ?_) ?_ ?_
          rotate_left
          · show Act.put _ (some 54) _ = _
            simp only [Act.put, List.setIfInBounds_toArray, List.set_cons_zero, List.set_cons_succ, i64_w, i32_w]
            rfl
          refine pure_ (i := 8) (N := some 55) (v := ?_) (a' := ?_) #[true, true, true, true, true, true, true, true, true, false] rfl rfl (any_of HT_.out (by kernel_rfl)) (fun _ _ _ h => h) (Or.inl ⟨by rfl, ?_⟩) ?_ ?_
          rotate_left
          · intro w'
            go_simp
            with_reducible rfl
          rotate_left
          · simp only [Act.put, List.setIfInBounds_toArray, List.set_cons_zero, List.set_cons_succ, i64_w, i32_w]
            rfl
          refine last_ (i := 9) (N := none) #[true, true, true, true, true, true, true, true, true, true] rfl rfl (one_of HT_.out (by kernel_rfl)) (by decide) (fun K hK => ?_)
          have hs8 : w6.cell? ⟨w1.heap.size, 8, none⟩ = some (.slice A xs.length c) := (blk_cell HF.out.1 8).trans rfl
          have hf8 := blk_frozen HF.out.1 8
          refine skip_ (w1 := ?_) (by rfl) rfl ?_ ?_
          rotate_left
          · go_simp
            rfl
          refine hK.out _ _ ?_
          clear hK K
          refine done_ (done_of HT_.out (by kernel_rfl)) ?_
          try go_wp2
          go_roundg k2
          case measure => exact Nat.lt_succ_self _
          case rel => exact ⟨i + 1, xs ++ [rd [g0, g1, g2, g3] (i : Int)], A6, c6, by first | go_num | rw [show wrap64 ((i : Int) + 1) = ((i + 1 : Nat) : Int) from by have := HI.out; have := HI0.out.2.2; unfold wrap64; omega], ⟨by have := HI0.out.1; omega, by rw [HI0.out.2.1, List.take_succ_eq_append_getElem (by simp; omega), ← rd_at [g0, g1, g2, g3] i (by simp; omega)], by rw [List.length_append, HI0.out.2.2]; rfl⟩, ⟨by have h_ := HF.out.2; rwa [show (xs ++ [rd [g0, g1, g2, g3] (i : Int)]).length = xs.length + 1 from by simp] at h_⟩⟩
    · go_wp2
      go_meet
      case rel => exact ⟨⟨2, a1, 0, 0, 0, 0, 0, ⟨#[]⟩, []⟩, none, 0, ⟨.run _ ⟨h1a, h1b⟩⟩, ⟨heap_alloc_new w1 _⟩, ⟨Kd.R_nil _ _ _ _ _⟩, ⟨below_alloc HBW.out _⟩⟩
    · go_wp2
      go_meet
      case rel => exact ⟨⟨3, a1, 0, 0, 0, 0, 0, s, []⟩, none, 0, ⟨.open_ _ _ ⟨h1a, h1b⟩ hs⟩, ⟨heap_alloc_new w1 _⟩, ⟨Kd.R_nil _ _ _ _ _⟩, ⟨below_alloc HBW.out _⟩⟩
    · go_wp2
      go_meet
      case rel => exact ⟨⟨4, a1, 0, a2, 0, 0, 0, ⟨#[]⟩, []⟩, none, 0, ⟨.two 4 _ _ (.inl rfl) ⟨h1a, h1b⟩ ⟨h2a, h2b⟩⟩, ⟨heap_alloc_new w1 _⟩, ⟨Kd.R_nil _ _ _ _ _⟩, ⟨below_alloc HBW.out _⟩⟩
    · go_wp2
      go_meet
      case rel => exact ⟨⟨5, a1, 0, a2, a3, 0, 0, s, []⟩, none, 0, ⟨.write _ _ _ _ ⟨h1a, h1b⟩ ⟨h2a, h2b⟩ ⟨h3a, h3b⟩ hs⟩, ⟨heap_alloc_new w1 _⟩, ⟨Kd.R_nil _ _ _ _ _⟩, ⟨below_alloc HBW.out _⟩⟩
    · go_wp2
      go_meet
      case rel => exact ⟨⟨6, a1, 0, a2, 0, 0, 0, ⟨#[]⟩, []⟩, none, 0, ⟨.two 6 _ _ (.inr (.inl rfl)) ⟨h1a, h1b⟩ ⟨h2a, h2b⟩⟩, ⟨heap_alloc_new w1 _⟩, ⟨Kd.R_nil _ _ _ _ _⟩, ⟨below_alloc HBW.out _⟩⟩
    · go_wp2
      go_meet
      case rel => exact ⟨⟨7, a1, 0, a2, 0, 0, 0, ⟨#[]⟩, []⟩, none, 0, ⟨.two 7 _ _ (.inr (.inr (.inl rfl))) ⟨h1a, h1b⟩ ⟨h2a, h2b⟩⟩, ⟨heap_alloc_new w1 _⟩, ⟨Kd.R_nil _ _ _ _ _⟩, ⟨below_alloc HBW.out _⟩⟩
    · go_wp2
      go_meet
      case rel => exact ⟨⟨8, a1, 0, a2, 0, 0, 0, ⟨#[]⟩, []⟩, none, 0, ⟨.two 8 _ _ (.inr (.inr (.inr rfl))) ⟨h1a, h1b⟩ ⟨h2a, h2b⟩⟩, ⟨heap_alloc_new w1 _⟩, ⟨Kd.R_nil _ _ _ _ _⟩, ⟨below_alloc HBW.out _⟩⟩
    · go_wp2
      go_meet
      case rel => exact ⟨⟨9, 0, 0, 0, 0, a4, 0, ⟨#[]⟩, []⟩, none, 0, ⟨.other 9 _ (.inl rfl) ⟨h4a, h4b⟩⟩, ⟨heap_alloc_new w1 _⟩, ⟨Kd.R_nil _ _ _ _ _⟩, ⟨below_alloc HBW.out _⟩⟩
    · go_wp2
      go_meet
      case rel => exact ⟨⟨10, 0, 0, 0, 0, a4, 0, ⟨#[]⟩, []⟩, none, 0, ⟨.other 10 _ (.inr (.inl rfl)) ⟨h4a, h4b⟩⟩, ⟨heap_alloc_new w1 _⟩, ⟨Kd.R_nil _ _ _ _ _⟩, ⟨below_alloc HBW.out _⟩⟩
    · go_wp2
      go_meet
      case rel => exact ⟨⟨11, 0, 0, 0, 0, a4, 0, ⟨#[]⟩, []⟩, none, 0, ⟨.other 11 _ (.inr (.inr (.inl rfl))) ⟨h4a, h4b⟩⟩, ⟨heap_alloc_new w1 _⟩, ⟨Kd.R_nil _ _ _ _ _⟩, ⟨below_alloc HBW.out _⟩⟩
    · go_wp2
      go_meet
      case rel => exact ⟨⟨12, 0, 0, 0, 0, a4, a5, ⟨#[]⟩, []⟩, none, 0, ⟨.turned _ _ ⟨h4a, h4b⟩ ⟨h5a, h5b⟩⟩, ⟨heap_alloc_new w1 _⟩, ⟨Kd.R_nil _ _ _ _ _⟩, ⟨below_alloc HBW.out _⟩⟩
    · go_wp2
      go_meet
      case rel => exact ⟨⟨13, 0, 0, 0, 0, a4, 0, ⟨#[]⟩, []⟩, none, 0, ⟨.other 13 _ (.inr (.inr (.inr rfl))) ⟨h4a, h4b⟩⟩, ⟨heap_alloc_new w1 _⟩, ⟨Kd.R_nil _ _ _ _ _⟩, ⟨below_alloc HBW.out _⟩⟩
    · have hne : w.heap.size < w1.heap.size := blk_lt HG.out
      have HNE := Aside0.mk hne
      clear hne
      obtain ⟨n, hn⟩ : ∃ n : Nat, a8 % 21 = (n : Int) := ⟨(a8 % 21).toNat, by omega⟩
      have hn20 : n ≤ 20 := by omega
      have HS0 : Aside0 (OS w w1 (w1.alloc (.cells #[.int .i64 14, .int .i64 a1, .int .i64 0, .int .i64 0, .int .i64 0, .int .i64 0, .int .i64 0, .string ⟨#[]⟩, .slice none 0 0] 27)) [] g0 g1 g2 g3 [.int .i64 14, .int .i64 a1, .int .i64 0, .int .i64 0, .int .i64 0, .int .i64 0, .int .i64 0, .string ⟨#[]⟩] none 0 []) := ⟨heap_alloc_new w1 _, Kd.R_nil _ _ _ _ _, below_alloc HBW.out _, blk_alloc HG.out _⟩
      go_wp2
      have HK14 := Aside0.mk hk
      clear hk
      go_loopg [21] n (fun kq v w' => ∃ (i : Nat) (xs : List Int) (A : Option Addr) (c : Nat), v = .int .i64 (i : Int) ∧ Aside0 (i + kq = n ∧ xs = keptOf [g0, g1, g2, g3] i ∧ xs.length = i) ∧ Aside0 (OS w w1 w' [] g0 g1 g2 g3 [.int .i64 14, .int .i64 a1, .int .i64 0, .int .i64 0, .int .i64 0, .int .i64 0, .int .i64 0, .string ⟨#[]⟩] A c xs))
      case atStart => exact ⟨0, [], none, 0, rfl, ⟨by omega, by first | rfl | simp [keptOf], rfl⟩, HS0⟩
      case round =>
        clear HS0
        obtain ⟨i, xs, A, c, rfl, HI0, HS⟩ := hrel
        have hik := HI0.out.1
        cases gk with
        | zero =>
          obtain rfl : i = n := by omega
          have hd4 : decide ((i : Int) < (i : Int)) = false := by simp
          clear hik
          go_wp2
          go_meet
          case rel =>
            have hx := HI0.out.2.1
            have hl := HI0.out.2.2
            exact ⟨⟨14, a1, 0, 0, 0, 0, 0, ⟨#[]⟩, xs⟩, A, c, ⟨.crash _ _ ⟨h1a, h1b⟩ (by omega) (by rw [hx]; exact keptOf_R1 _ _)⟩, ⟨HS.out.blk⟩, ⟨Kd.R_mono HS.out.row (fun _ hk => hk.1)⟩, ⟨HS.out.below⟩⟩
        | succ k2 =>
          have hd4 : decide ((i : Int) < (n : Int)) = true := decide_eq_true (by omega)
          have hd5 : decide (i < n) = true := decide_eq_true (by omega)
          obtain ⟨j, hj⟩ : ∃ j : Nat, i % 4 = j := ⟨_, rfl⟩
          have hm4 : (i : Int) % 4 = (j : Int) := by omega
          have hidx : j < 4 := by omega
          have p1 : (0 ≤ (j : Int)) = True := eq_true (by omega)
          have q1 : ((j : Int) < 4) = True := eq_true (by omega)
          have q2 : (j < 4) = True := eq_true (by omega)
          have hbj := four_R2 hg0 hg1 hg2 hg3 j hidx
          have HE64 := Aside0.mk (show wrap64 (rd [g0, g1, g2, g3] (j : Int) % 256) = rd [g0, g1, g2, g3] (j : Int) % 256 from by unfold wrap64; omega)
          have ht4 : Int.tmod (i : Int) 4 = (j : Int) := by rw [Int.tmod_eq_emod_of_nonneg (by omega)]; exact hm4
          have he4 : Int.tmod (rd [g0, g1, g2, g3] (j : Int)) 256 = rd [g0, g1, g2, g3] (j : Int) % 256 := Int.tmod_eq_emod_of_nonneg hbj.1
          clear hbj
          have HJ := Aside0.mk hj
          clear hj
          have HI := Aside0.mk (show xs.length ≤ 30 from by have := HI0.out.2.2; omega)
          clear hik
          try go_wp2
          have HD := Aside0.mk HS.out.drew
          refine start_ (n := 12) (S := fun w' => w'.cell? ⟨w1.heap.size, 8, none⟩ = some (.slice A xs.length c) ∧ w'.cell? ⟨w.heap.size, j, none⟩ = some (.int .u16 (rd [g0, g1, g2, g3] (j : Int)))) (ds := [11]) #[false, false, false, false, false, false, false, false, false, false, false, false] (by kernel_rfl) rfl rfl ⟨(blk_cell HD.out.blk 8).trans rfl, four_at HD.out.arr j hidx⟩ (fun hHeld => ?_); refine with_tabW one_.tab32 one_.bits32 (fun HT_ HW_ => ?_)
          generalize wr.drew = w5 at HD hHeld ⊢
          refine pure_ (i := 0) (N := some 112) (v := ?_) (a' := ?_) #[true, false, false, false, false, false, false, false, false, false, false, false] rfl rfl (any_of HT_.out (by kernel_rfl)) (fun _ _ _ h => h) (Or.inl ⟨by rfl, ?_⟩) ?_ ?_
          rotate_left
          · intro w'
            go_simp
            with_reducible rfl
          rotate_left
          · simp only [Act.put, List.setIfInBounds_toArray, List.set_cons_zero, List.set_cons_succ, i64_w, i32_w]
            rfl
          refine pure_ (i := 2) (N := some 114) (v := ?_) (a' := ?_) #[true, false, true, false, false, false, false, false, false, false, false, false] rfl rfl (any_of HT_.out (by kernel_rfl)) (fun _ _ _ h => h) (Or.inl ⟨by rfl, ?_⟩) ?_ ?_
          rotate_left
          · intro w'
            go_simp
            with_reducible rfl
          rotate_left
          · simp only [Act.put, List.setIfInBounds_toArray, List.set_cons_zero, List.set_cons_succ, i64_w, i32_w]
            rfl
          refine pure_ (i := 3) (N := some 115) (v := ?_) (a' := ?_) #[true, false, true, true, false, false, false, false, false, false, false, false] rfl rfl (any_of HT_.out (by kernel_rfl)) (fun _ _ _ h => h) (Or.inl ⟨by rfl, ?_⟩) ?_ ?_
          rotate_left
          · intro w'
            go_simp
            with_reducible rfl
          rotate_left
          · simp only [Act.put, List.setIfInBounds_toArray, List.set_cons_zero, List.set_cons_succ, i64_w, i32_w]
            rfl
          refine pure_ (i := 4) (N := some 116) (v := ?_) (a' := ?_) #[true, false, true, true, true, false, false, false, false, false, false, false] rfl rfl (any_of HT_.out (by kernel_rfl)) (fun _ _ _ h => h) (Or.inl ⟨by rfl, ?_⟩) ?_ ?_
          rotate_left
          · intro w'
            go_simp
            with_reducible rfl
          rotate_left
          · simp only [Act.put, List.setIfInBounds_toArray, List.set_cons_zero, List.set_cons_succ, i64_w, i32_w]
            rfl
          refine take_ (i := 1) (N := some 113) (v := ?_) (a' := ?_) #[true, true, true, true, true, false, false, false, false, false, false, false] rfl rfl (take_ofW HT_.out HW_.out (by kernel_rfl)) (fun _ _ _ h => h) (Or.inl ⟨by rfl, ?_⟩) hHeld ?_ ?_
          rotate_left
          · rintro w' ⟨s0, s1⟩
            go_simp
            with_reducible rfl
          rotate_left
          · simp only [Act.put, List.setIfInBounds_toArray, List.set_cons_zero, List.set_cons_succ, i64_w, i32_w]
            rfl
          refine take_ (i := 5) (N := some 117) (v := ?_) (a' := ?_) #[true, true, true, true, true, true, false, false, false, false, false, false] rfl rfl (take_ofW HT_.out HW_.out (by kernel_rfl)) (fun _ _ _ h => h) (Or.inl ⟨by rfl, ?_⟩) hHeld ?_ ?_
          rotate_left
          · rintro w' ⟨s0, s1⟩
            go_simp
            with_reducible rfl
          rotate_left
          · simp only [Act.put, List.setIfInBounds_toArray, List.set_cons_zero, List.set_cons_succ, i64_w, i32_w]
            rfl
          refine pure_ (i := 6) (N := some 118) (v := ?_) (a' := ?_) #[true, true, true, true, true, true, true, false, false, false, false, false] rfl rfl (any_of HT_.out (by kernel_rfl)) (fun _ _ _ h => h) (Or.inl ⟨by rfl, ?_⟩) ?_ ?_
          rotate_left
          · intro w'
            go_simp
            with_reducible rfl
          rotate_left
          · simp only [Act.put, List.setIfInBounds_toArray, List.set_cons_zero, List.set_cons_succ, i64_w, i32_w]
            rfl
          refine pure_ (i := 7) (N := some 119) (v := ?_) (a' := ?_) #[true, true, true, true, true, true, true, true, false, false, false, false] rfl rfl (any_of HT_.out (by kernel_rfl)) (fun _ _ _ h => h) (Or.inl ⟨by rfl, ?_⟩) ?_ ?_
          rotate_left
          · intro w'
            go_simp
            with_reducible rfl
          rotate_left
          · simp only [Act.put, List.setIfInBounds_toArray, List.set_cons_zero, List.set_cons_succ, i64_w, i32_w]
            rfl
          refine one_ (i := 8) (N := some 120) #[true, true, true, true, true, true, true, true, true, false, false, false] rfl rfl (one_of HT_.out (by kernel_rfl)) (by decide) (fun K hK => ?_)
          refine value_ (w1 := ?_) (v := ?_) (by rfl) rfl ?_ ?_
          rotate_left 2
          · go_simp
            constructor
            · rfl
            · rfl
          refine hK.out _ _ ⟨(blk_cell (blk_alloc HD.out.blk _) 8).trans rfl, four_at (blk_alloc HD.out.arr _) j hidx⟩ (fun hHeld => ?_)
          clear hK K
          refine norm_ (a' := ?_) ?_ ?_
          rotate_left
          · show Act.put _ (some 120) _ = _
            simp only [Act.put, List.setIfInBounds_toArray, List.set_cons_zero, List.set_cons_succ, i64_w, i32_w]
            rfl
          refine one_ (i := 9) (N := some 121) #[true, true, true, true, true, true, true, true, true, true, false, false] rfl rfl (one_of HT_.out (by kernel_rfl)) (by decide) (fun K hK => ?_)
          refine Kd.R_append_step (Kd.int .i64) w.heap.size (by rfl) (.tmp 113) (.tmp 120) 25 3 (.int .i64 0) 8 rfl Try.underlying25 info3 rfl (by decide) (by omega) (.slice A xs.length c) xs (wrap64 (rd [g0, g1, g2, g3] (j : Int) % 256)) [.int .i64 (wrap64 (rd [g0, g1, g2, g3] (j : Int) % 256))] (fun k => k ≠ w1.heap.size ∧ k ≠ w.heap.size) (fun _ => False) rfl rfl ?aP (fun _ hk => hk.elim) ?aF ?aO (Below.refl _ _) ?aS ?aL ?_
          (case aP => exact rfl)
          (case aF => exact fun k hk => by have := blk_lt HD.out.blk; have := blk_lt HD.out.arr; omega)
          (case aO => exact HD.out.row)
          (case aS => exact HD.out.below.size)
          (case aL => have := HI.out; omega)
          intro v6 w6 ho hb hg hat
          rw [HE64.out] at ho
          obtain ⟨A6, c6, rfl⟩ := Kd.R_slice ho
          have HF := Aside0.mk (HD.out.grown HNE.out ho hg rfl)
          have HF2 := Aside0.mk (blk_grown HD.out.arr hg (fun e => (HD.out.row.1 _ e.symm).2 rfl))
          clear ho hb hg hat
          refine hK.out _ _ ⟨(blk_cell HF.out.1 8).trans rfl, four_at HF2.out j hidx⟩ (fun hHeld => ?_)
          clear hK K
          refine norm_ (a' := ?_) ?_ ?_
          rotate_left
          · show Act.put _ (some 121) _ = _
            simp only [Act.put, List.setIfInBounds_toArray, List.set_cons_zero, List.set_cons_succ, i64_w, i32_w]
            rfl
          refine pure_ (i := 10) (N := some 122) (v := ?_) (a' := ?_) #[true, true, true, true, true, true, true, true, true, true, true, false] rfl rfl (any_of HT_.out (by kernel_rfl)) (fun _ _ _ h => h) (Or.inl ⟨by rfl, ?_⟩) ?_ ?_
          rotate_left
          · intro w'
            go_simp
            with_reducible rfl
          rotate_left
          · simp only [Act.put, List.setIfInBounds_toArray, List.set_cons_zero, List.set_cons_succ, i64_w, i32_w]
            rfl
          refine last_ (i := 11) (N := none) #[true, true, true, true, true, true, true, true, true, true, true, true] rfl rfl (one_of HT_.out (by kernel_rfl)) (by decide) (fun K hK => ?_)
          have hs8 : w6.cell? ⟨w1.heap.size, 8, none⟩ = some (.slice A xs.length c) := (blk_cell HF.out.1 8).trans rfl
          have hf8 := blk_frozen HF.out.1 8
          refine skip_ (w1 := ?_) (by rfl) rfl ?_ ?_
          rotate_left
          · go_simp
            rfl
          refine hK.out _ _ ?_
          clear hK K
          refine done_ (done_of HT_.out (by kernel_rfl)) ?_
          try go_wp2
          go_roundg k2
          case measure => exact Nat.lt_succ_self _
          case rel => exact ⟨i + 1, xs ++ [rd [g0, g1, g2, g3] (j : Int) % 256], A6, c6, by first | go_num | rw [show wrap64 ((i : Int) + 1) = ((i + 1 : Nat) : Int) from by have := HI.out; have := HI0.out.2.2; unfold wrap64; omega], ⟨by have := HI0.out.1; omega, by rw [HI0.out.2.1, keptOf_succ, HJ.out], by rw [List.length_append, HI0.out.2.2]; rfl⟩, ⟨by have h_ := HF.out.2; rwa [show (xs ++ [rd [g0, g1, g2, g3] (j : Int) % 256]).length = xs.length + 1 from by simp] at h_⟩⟩
  case rest =>
    obtain ⟨x, A, c, HX, HT, HO, HBc⟩ := hcut
    have hwf : ∀ s ∈ [x], WF s := fun s hs => by rw [List.mem_singleton.1 hs]; exact HX.out
    obtain ⟨kp, hkp⟩ := (Put_all [x] (by simp)).rounds
    rw [putL_wf hwf] at hkp
    have HKP := Aside0.mk hkp
    have hel := encL_len hwf
    have htk : ops_Take.f (encL [x]) = some [x] := by
      have := takeS_encL [] hwf
      rw [List.append_nil, takeS_nil, List.append_nil] at this
      rw [take_some _ (inBytes_encL [x]) (by simp only [List.length_singleton] at hel; omega), this]
    have HTK := Aside0.mk htk
    obtain ⟨ks, hks⟩ := (SameStep_all x (by have := HX.out.gains; omega)).rounds
    have HKS := Aside0.mk hks
    clear hwf hkp hel htk hks
    have hcx := (Kd.R_reads' HO.out).2
    have HCx := Aside0.mk hcx
    clear hcx
    have z0 : wc.cell? ⟨w1.heap.size, 0, none⟩ = some (.int .i64 x.f0) := (blk_cell HT.out 0).trans rfl
    have z1 : wc.cell? ⟨w1.heap.size, 1, none⟩ = some (.int .i64 x.f1) := (blk_cell HT.out 1).trans rfl
    have z2 : wc.cell? ⟨w1.heap.size, 2, none⟩ = some (.int .i64 x.f2) := (blk_cell HT.out 2).trans rfl
    have z3 : wc.cell? ⟨w1.heap.size, 3, none⟩ = some (.int .i64 x.f3) := (blk_cell HT.out 3).trans rfl
    have z4 : wc.cell? ⟨w1.heap.size, 4, none⟩ = some (.int .i64 x.f4) := (blk_cell HT.out 4).trans rfl
    have z5 : wc.cell? ⟨w1.heap.size, 5, none⟩ = some (.int .i64 x.f5) := (blk_cell HT.out 5).trans rfl
    have z6 : wc.cell? ⟨w1.heap.size, 6, none⟩ = some (.int .i64 x.f6) := (blk_cell HT.out 6).trans rfl
    have z7 : wc.cell? ⟨w1.heap.size, 7, none⟩ = some (.string x.f7) := (blk_cell HT.out 7).trans rfl
    have z8 : wc.cell? ⟨w1.heap.size, 8, none⟩ = some (.slice A x.f8.length c) := (blk_cell HT.out 8).trans rfl
    go_wp2_with (first
      | (go_at_call 14; go_loud (refine (ops_Put.calls kp (some ⟨wc.heap.size, 0, none⟩) 1 [x] (encL [x]) _ (C_lit1 HCx.out.1 HCx.out.2) (Nat.le_refl 1) HKP.out).mono ?_; rintro e w3 ⟨v3, rfl, ho3, hb3⟩; obtain ⟨A3, c3, rfl⟩ := Kd.R_slice ho3; have HO3 := Aside0.mk ho3; have HB3 := Aside0.mk hb3; clear ho3 hb3))
      | (go_at_call 12; go_loud (refine (ops_Take.calls A3 c3 (encL [x]) [x] _ (Kd.R_reads' HO3.out).2.2 (Kd.R_reads' HO3.out).2.1 HTK.out).mono ?_; rintro e w4 ⟨v4, rfl, ho4, hb4⟩; obtain ⟨A4, c4, rfl⟩ := Kd.S_slice ho4; have HO4 := Aside0.mk ho4; have HB4 := Aside0.mk hb4; clear ho4 hb4)))
    have HB5 := Aside0.mk (below_drew (((below_alloc (Below.refl wc.heap.size wc) (.cells (cells27 x (.slice A x.f8.length c)) 27)).trans (HB3.out.mono (by rw [World.size_alloc]; omega))).trans (HB4.out.mono (by have := HB3.out.size; rw [World.size_alloc] at this; omega))))
    have HT4 := Aside0.mk ((HB5.out.block w1.heap.size (blk_lt HT.out)).trans HT.out)
    obtain ⟨ad, A2, c2, ea, q0, q1, q2, q3, q4, q5, q6, q7, q8, ql, qc⟩ := at_T27 (Kd.C_drew (Kd.S_reads' HO4.out).2.2) 0 (by decide) (by simp)
    cases ea
    rw [show ((0 : Int)).toNat * 9 = 0 from rfl, Addr.add_zero'] at q0 q1 q2 q3 q4 q5 q6 q7 q8
    rw [show rd_T27 [x] 0 = x from rfl] at q0 q1 q2 q3 q4 q5 q6 q7 q8 ql qc
    have HC2 := Aside0.mk (And.intro ql qc)
    have HCx2 := Aside0.mk (And.intro HCx.out.1 (Kd.C_below HCx.out.2 HB5.out))
    have HZ := Aside0.mk (HBc.out.trans (HB5.out.mono HBc.out.size))
    clear ql qc HCx HB3 HB4 HO3 HO4 HO HTK HKP
    clear z0 z1 z2 z3 z4 z5 z6 z7 z8
    refine start_ (n := 11) (S := fun w' => w'.cell? ad = some (.int .i64 x.f0) ∧ w'.cell? ⟨ad.block, ad.off + 1, none⟩ = some (.int .i64 x.f1) ∧ w'.cell? ⟨ad.block, ad.off + 2, none⟩ = some (.int .i64 x.f2) ∧ w'.cell? ⟨ad.block, ad.off + 3, none⟩ = some (.int .i64 x.f3) ∧ w'.cell? ⟨ad.block, ad.off + 4, none⟩ = some (.int .i64 x.f4) ∧ w'.cell? ⟨ad.block, ad.off + 5, none⟩ = some (.int .i64 x.f5) ∧ w'.cell? ⟨ad.block, ad.off + 6, none⟩ = some (.int .i64 x.f6) ∧ w'.cell? ⟨ad.block, ad.off + 7, none⟩ = some (.string x.f7) ∧ w'.cell? ⟨ad.block, ad.off + 8, none⟩ = some (.slice A2 x.f8.length c2) ∧ w'.cell? ⟨w1.heap.size, 0, none⟩ = some (.int .i64 x.f0) ∧ w'.cell? ⟨w1.heap.size, 1, none⟩ = some (.int .i64 x.f1) ∧ w'.cell? ⟨w1.heap.size, 2, none⟩ = some (.int .i64 x.f2) ∧ w'.cell? ⟨w1.heap.size, 3, none⟩ = some (.int .i64 x.f3) ∧ w'.cell? ⟨w1.heap.size, 4, none⟩ = some (.int .i64 x.f4) ∧ w'.cell? ⟨w1.heap.size, 5, none⟩ = some (.int .i64 x.f5) ∧ w'.cell? ⟨w1.heap.size, 6, none⟩ = some (.int .i64 x.f6) ∧ w'.cell? ⟨w1.heap.size, 7, none⟩ = some (.string x.f7) ∧ w'.cell? ⟨w1.heap.size, 8, none⟩ = some (.slice A x.f8.length c)) (ds := []) #[false, false, false, false, false, false, false, false, false, false, false] (by kernel_rfl) rfl rfl ⟨q0, q1, q2, q3, q4, q5, q6, q7, q8, (blk_cell HT4.out 0).trans rfl, (blk_cell HT4.out 1).trans rfl, (blk_cell HT4.out 2).trans rfl, (blk_cell HT4.out 3).trans rfl, (blk_cell HT4.out 4).trans rfl, (blk_cell HT4.out 5).trans rfl, (blk_cell HT4.out 6).trans rfl, (blk_cell HT4.out 7).trans rfl, (blk_cell HT4.out 8).trans rfl⟩ (fun hHeld => ?_); refine with_tabW one_.tab34 one_.bits34 (fun HT_ HW_ => ?_)
    generalize w4.drew = w5 at HB5 HC2 HCx2 HT4 HZ q0 q1 q2 q3 q4 q5 q6 q7 q8 hHeld ⊢
    refine pure_ (i := 0) (N := some 127) (v := ?_) (a' := ?_) #[true, false, false, false, false, false, false, false, false, false, false] rfl rfl (any_of HT_.out (by kernel_rfl)) (fun _ _ _ h => h) (Or.inl ⟨by rfl, ?_⟩) ?_ ?_
    rotate_left
    · intro w'
      go_simp
      with_reducible rfl
    rotate_left
    · simp only [Act.put, List.setIfInBounds_toArray, List.set_cons_zero, List.set_cons_succ, i64_w, i32_w]
      rfl
    refine pure_ (i := 1) (N := some 128) (v := ?_) (a' := ?_) #[true, true, false, false, false, false, false, false, false, false, false] rfl rfl (any_of HT_.out (by kernel_rfl)) (fun _ _ _ h => h) (Or.inl ⟨by rfl, ?_⟩) ?_ ?_
    rotate_left
    · intro w'
      go_simp
      with_reducible rfl
    rotate_left
    · simp only [Act.put, List.setIfInBounds_toArray, List.set_cons_zero, List.set_cons_succ, i64_w, i32_w]
      rfl
    refine pure_ (i := 2) (N := some 129) (v := ?_) (a' := ?_) #[true, true, true, false, false, false, false, false, false, false, false] rfl rfl (any_of HT_.out (by kernel_rfl)) (fun _ _ _ h => h) (Or.inl ⟨by rfl, ?_⟩) ?_ ?_
    rotate_left
    · intro w'
      go_simp
      with_reducible rfl
    rotate_left
    · simp only [Act.put, List.setIfInBounds_toArray, List.set_cons_zero, List.set_cons_succ, i64_w, i32_w]
      rfl
    refine pure_ (i := 3) (N := some 130) (v := ?_) (a' := ?_) #[true, true, true, true, false, false, false, false, false, false, false] rfl rfl (any_of HT_.out (by kernel_rfl)) (fun _ _ _ h => h) (Or.inl ⟨by rfl, ?_⟩) ?_ ?_
    rotate_left
    · intro w'
      go_simp
      with_reducible rfl
    rotate_left
    · simp only [Act.put, List.setIfInBounds_toArray, List.set_cons_zero, List.set_cons_succ, i64_w, i32_w]
      rfl
    refine pure_ (i := 4) (N := some 131) (v := ?_) (a' := ?_) #[true, true, true, true, true, false, false, false, false, false, false] rfl rfl (any_of HT_.out (by kernel_rfl)) (fun _ _ _ h => h) (Or.inl ⟨by rfl, ?_⟩) ?_ ?_
    rotate_left
    · intro w'
      go_simp
      with_reducible rfl
    rotate_left
    · simp only [Act.put, List.setIfInBounds_toArray, List.set_cons_zero, List.set_cons_succ, i64_w, i32_w]
      rfl
    refine pure_ (i := 5) (N := some 132) (v := ?_) (a' := ?_) #[true, true, true, true, true, true, false, false, false, false, false] rfl rfl (any_of HT_.out (by kernel_rfl)) (fun _ _ _ h => h) (Or.inl ⟨by rfl, ?_⟩) ?_ ?_
    rotate_left
    · intro w'
      go_simp
      with_reducible rfl
    rotate_left
    · simp only [Act.put, List.setIfInBounds_toArray, List.set_cons_zero, List.set_cons_succ, i64_w, i32_w]
      rfl
    refine take_ (i := 6) (N := some 133) (v := ?_) (a' := ?_) #[true, true, true, true, true, true, true, false, false, false, false] rfl rfl (take_ofW HT_.out HW_.out (by kernel_rfl)) (fun _ _ _ h => h) (Or.inl ⟨by rfl, ?_⟩) hHeld ?_ ?_
    rotate_left
    · rintro w' ⟨s0, s1, s2, s3, s4, s5, s6, s7, s8, s9, s10, s11, s12, s13, s14, s15, s16, s17⟩
      go_simp
      with_reducible rfl
    rotate_left
    · simp only [Act.put, List.setIfInBounds_toArray, List.set_cons_zero, List.set_cons_succ, i64_w, i32_w]
      rfl
    refine take_ (i := 7) (N := some 134) (v := ?_) (a' := ?_) #[true, true, true, true, true, true, true, true, false, false, false] rfl rfl (take_ofW HT_.out HW_.out (by kernel_rfl)) (fun _ _ _ h => h) (Or.inl ⟨by rfl, ?_⟩) hHeld ?_ ?_
    rotate_left
    · rintro w' ⟨s0, s1, s2, s3, s4, s5, s6, s7, s8, s9, s10, s11, s12, s13, s14, s15, s16, s17⟩
      go_simp
      with_reducible rfl
    rotate_left
    · simp only [Act.put, List.setIfInBounds_toArray, List.set_cons_zero, List.set_cons_succ, i64_w, i32_w]
      rfl
    refine one_ (i := 8) (N := some 135) #[true, true, true, true, true, true, true, true, true, false, false] rfl rfl (one_of HT_.out (by kernel_rfl)) (by decide) (fun K hK => ?_)
    refine goes_ Try.func16 (by kernel_rfl) rfl #[.agg #[.int .i64 x.f0, .int .i64 x.f1, .int .i64 x.f2, .int .i64 x.f3, .int .i64 x.f4, .int .i64 x.f5, .int .i64 x.f6, .string x.f7, .slice A2 x.f8.length c2], .agg #[.int .i64 x.f0, .int .i64 x.f1, .int .i64 x.f2, .int .i64 x.f3, .int .i64 x.f4, .int .i64 x.f5, .int .i64 x.f6, .string x.f7, .slice A x.f8.length c]] (by rfl) rfl rfl (by (try simp only [List.map_toArray, List.map_cons, List.map_nil]); first | done | rfl) ?_
    refine (tenancyref21_SameStep.calls ks x.f0 x.f1 x.f2 x.f3 x.f4 x.f5 x.f6 x.f7 A2 c2 x.f8 x.f0 x.f1 x.f2 x.f3 x.f4 x.f5 x.f6 x.f7 A c x.f8 true _ HC2.out.2 HC2.out.1 HCx2.out.2 HCx2.out.1 HKS.out).mono ?_
    rintro e w6 ⟨rfl, hb⟩
    refine ⟨_, rfl, ?_⟩
    have HZ2 := Aside0.mk (HZ.out.trans (hb.mono HZ.out.size))
    refine hK.out _ _ ⟨(hb.cell (World.block_lt_of_cell? _ _ q0)).trans q0, (hb.cell (World.block_lt_of_cell? _ _ q1)).trans q1, (hb.cell (World.block_lt_of_cell? _ _ q2)).trans q2, (hb.cell (World.block_lt_of_cell? _ _ q3)).trans q3, (hb.cell (World.block_lt_of_cell? _ _ q4)).trans q4, (hb.cell (World.block_lt_of_cell? _ _ q5)).trans q5, (hb.cell (World.block_lt_of_cell? _ _ q6)).trans q6, (hb.cell (World.block_lt_of_cell? _ _ q7)).trans q7, (hb.cell (World.block_lt_of_cell? _ _ q8)).trans q8, (hb.cell (World.block_lt_of_cell? _ _ ((blk_cell HT4.out 0).trans rfl))).trans ((blk_cell HT4.out 0).trans rfl), (hb.cell (World.block_lt_of_cell? _ _ ((blk_cell HT4.out 1).trans rfl))).trans ((blk_cell HT4.out 1).trans rfl), (hb.cell (World.block_lt_of_cell? _ _ ((blk_cell HT4.out 2).trans rfl))).trans ((blk_cell HT4.out 2).trans rfl), (hb.cell (World.block_lt_of_cell? _ _ ((blk_cell HT4.out 3).trans rfl))).trans ((blk_cell HT4.out 3).trans rfl), (hb.cell (World.block_lt_of_cell? _ _ ((blk_cell HT4.out 4).trans rfl))).trans ((blk_cell HT4.out 4).trans rfl), (hb.cell (World.block_lt_of_cell? _ _ ((blk_cell HT4.out 5).trans rfl))).trans ((blk_cell HT4.out 5).trans rfl), (hb.cell (World.block_lt_of_cell? _ _ ((blk_cell HT4.out 6).trans rfl))).trans ((blk_cell HT4.out 6).trans rfl), (hb.cell (World.block_lt_of_cell? _ _ ((blk_cell HT4.out 7).trans rfl))).trans ((blk_cell HT4.out 7).trans rfl), (hb.cell (World.block_lt_of_cell? _ _ ((blk_cell HT4.out 8).trans rfl))).trans ((blk_cell HT4.out 8).trans rfl)⟩ (fun hHeld => ?_)
    clear hK K
    refine norm_ (a' := ?_) ?_ ?_
    rotate_left
    · show Act.put _ (some 135) _ = _
      simp only [Act.put, List.setIfInBounds_toArray, List.set_cons_zero, List.set_cons_succ, i64_w, i32_w]
      rfl
    refine pure_ (i := 9) (N := some 136) (v := ?_) (a' := ?_) #[true, true, true, true, true, true, true, true, true, true, false] rfl rfl (any_of HT_.out (by kernel_rfl)) (fun _ _ _ h => h) (Or.inl ⟨by rfl, ?_⟩) ?_ ?_
    rotate_left
    · intro w'
      go_simp
      with_reducible rfl
    rotate_left
    · simp only [Act.put, List.setIfInBounds_toArray, List.set_cons_zero, List.set_cons_succ, i64_w, i32_w]
      rfl
    refine pure_ (i := 10) (N := some 18) (v := ?_) (a' := ?_) #[true, true, true, true, true, true, true, true, true, true, true] rfl rfl (any_of HT_.out (by kernel_rfl)) (fun _ _ _ h => h) (Or.inl ⟨by rfl, ?_⟩) ?_ ?_
    rotate_left
    · intro w'
      go_simp
      with_reducible rfl
    rotate_left
    · simp only [Act.put, List.setIfInBounds_toArray, List.set_cons_zero, List.set_cons_succ, i64_w, i32_w]
      rfl
    refine done_ (done_of HT_.out (by kernel_rfl)) ?_

    go_wp2
    go_ret
    exact ⟨rfl, HZ2.out⟩
set_option maxHeartbeats 1000000 in
set_option maxRecDepth 10000 in
theorem OpsOne_great (a0 a1 a2 a3 a4 a5 a8 : Int) (s : ByteArray) (g0 g1 g2 g3 : Int) (w : World) (hs : 255 < s.size) :
    Calls Try.prog 6 #[.int .u8 a0, .int .u8 a1, .int .u8 a2, .int .u8 a3, .int .u8 a4, .int .u16 a5, .string s, .agg #[.int .u16 g0, .int .u16 g1, .int .u16 g2, .int .u16 g3], .int .u8 a8] w fun e w' => e = .returned (.bool true) ∧ Below w.heap.size w w' := by
  obtain ⟨kb, hkb⟩ := begun_ev.rounds
  have HKB := Aside0.mk hkb
  clear hkb
  have hd : decide (255 < (s.size : Int)) = true := decide_eq_true (by omega)
  have hd2 : decide (255 < s.size) = true := decide_eq_true hs
  go_enter Try.func6, Try.ntmps6
  go_wp2_with (go_at_call 7; refine (tenancylaw25_begun.calls kb true _ HKB.out).mono ?_; rintro e w1 ⟨rfl, hb⟩; have HB := Aside0.mk hb; clear hb)
  go_ret
  exact ⟨rfl, (below_alloc (Below.refl w.heap.size w) _).trans (HB.out.mono (by rw [World.size_alloc]; omega))⟩
theorem R1_of {x : Int} (h : (Lit.int .u8 x).wf = true) : R1 x := by
  simp [Lit.wf, IntKind.min, IntKind.max, IntKind.bits, IntKind.signed] at h
  unfold R1
  omega
theorem R2_of {x : Int} (h : (Lit.int .u16 x).wf = true) : R2 x := by
  simp [Lit.wf, IntKind.min, IntKind.max, IntKind.bits, IntKind.signed] at h
  unfold R2
  omega
theorem tenancylaw25_OpsOne.calls (a0 a1 a2 a3 a4 a5 : Int) (s : ByteArray) (g0 g1 g2 g3 : Int) (a8 : Int) (w : World)
    (h0 : (Lit.int .u8 a0).wf = true) (h1 : (Lit.int .u8 a1).wf = true) (h2 : (Lit.int .u8 a2).wf = true) (h3 : (Lit.int .u8 a3).wf = true) (h4 : (Lit.int .u8 a4).wf = true) (h5 : (Lit.int .u16 a5).wf = true)
    (hg0 : (Lit.int .u16 g0).wf = true) (hg1 : (Lit.int .u16 g1).wf = true) (hg2 : (Lit.int .u16 g2).wf = true) (hg3 : (Lit.int .u16 g3).wf = true) (h8 : (Lit.int .u8 a8).wf = true) :
    Calls Try.prog 6 #[.int .u8 a0, .int .u8 a1, .int .u8 a2, .int .u8 a3, .int .u8 a4, .int .u16 a5, .string s, .agg #[.int .u16 g0, .int .u16 g1, .int .u16 g2, .int .u16 g3], .int .u8 a8] w fun e w' => e = .returned (.bool true) ∧ Below w.heap.size w w' := by
  rcases Nat.lt_or_ge 255 s.size with hs | hs
  · exact OpsOne_great a0 a1 a2 a3 a4 a5 a8 s g0 g1 g2 g3 w hs
  · exact OpsOne_small a0 a1 a2 a3 a4 a5 a8 s g0 g1 g2 g3 w (R1_of h0) (R1_of h1) (R1_of h2) (R1_of h3) (R1_of h4) (R2_of h5) (R1_of h8) (R2_of hg0) (R2_of hg1) (R2_of hg2) (R2_of hg3) hs
end Go.Proofs.Ythpehiecmgipmaa.L
