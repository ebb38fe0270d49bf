/- What ops' reader's 'next' does: the next step that bytes say, or none, where a deferred call catches 'short'; as a contract over memory; bytes from 0 to 255, fewer than 2^42. -/
import Derived.Test.YthpehiecmgipmaaStep
namespace Go.Proofs.Ythpehiecmgipmaa.L
set_option linter.unusedSimpArgs false
set_option linter.unusedVariables false
open Go.RowKit Go.Proofs.YthpehiecmgipmaaW.PrintWords Go.Proofs.YthpehiecmgipmaaW.PrintLast Go.Proofs.YthpehiecmgipmaaW.PrintMore

theorem step_any (g : Nat) (k : Int) (l : List Int) (w0 w : World) (h1 : 1 ≤ k) (h2 : k ≤ 14) (hR : Rdr w0 w g l) (hB : Below w0.heap.size w0 w) (hb : Okb l) :
    Calls Try.prog 31 #[.pointer (some ⟨g, 0, none⟩), .int .i64 k] w (SPost w0 w g (stepP k l)) := by
  have : k = 1 ∨ k = 2 ∨ k = 3 ∨ k = 4 ∨ k = 5 ∨ k = 6 ∨ k = 7 ∨ k = 8 ∨ k = 9 ∨ k = 10 ∨ k = 11 ∨ k = 12 ∨ k = 13 ∨ k = 14 := by omega
  rcases this with rfl | rfl | rfl | rfl | rfl | rfl | rfl | rfl | rfl | rfl | rfl | rfl | rfl | rfl
  · exact step_1 g l w0 w hR hB hb
  · exact step_2 g l w0 w hR hB hb
  · exact step_3 g l w0 w hR hB hb
  · exact step_4 g l w0 w hR hB hb
  · exact step_5 g l w0 w hR hB hb
  · exact step_6 g l w0 w hR hB hb
  · exact step_7 g l w0 w hR hB hb
  · exact step_8 g l w0 w hR hB hb
  · exact step_9 g l w0 w hR hB hb
  · exact step_10 g l w0 w hR hB hb
  · exact step_11 g l w0 w hR hB hb
  · exact step_12 g l w0 w hR hB hb
  · exact step_13 g l w0 w hR hB hb
  · exact step_14 g l w0 w hR hB hb
theorem step_none (g : Nat) (k : Int) (l : List Int) (w0 w : World) (h1 : 1 ≤ k) (h2 : k ≤ 14) (hR : Rdr w0 w g l) (hB : Below w0.heap.size w0 w) (hb : Okb l) (h : stepP k l = none) :
    Calls Try.prog 31 #[.pointer (some ⟨g, 0, none⟩), .int .i64 k] w fun e w' => e = .panicked (shortAt 92) ∧ Rest w0 w w' g :=
  (step_any g k l w0 w h1 h2 hR hB hb).mono fun e w' hp => by rw [h] at hp; exact hp
/-- A step as a struct's fields; its row is v. -/
def cells27 (s : S27) (v : Value) : Array Value := #[.int .i64 s.f0, .int .i64 s.f1, .int .i64 s.f2, .int .i64 s.f3, .int .i64 s.f4, .int .i64 s.f5, .int .i64 s.f6, .string s.f7, v]
theorem step_some (g : Nat) (k : Int) (l : List Int) (s : S27) (l1 : List Int) (w0 w : World) (h1 : 1 ≤ k) (h2 : k ≤ 14) (hR : Rdr w0 w g l) (hB : Below w0.heap.size w0 w) (hb : Okb l) (h : stepP k l = some (s, l1)) :
    Calls Try.prog 31 #[.pointer (some ⟨g, 0, none⟩), .int .i64 k] w fun e w' => ∃ A c, e = .returned (.agg #[.int .i64 s.f0, .int .i64 s.f1, .int .i64 s.f2, .int .i64 s.f3, .int .i64 s.f4, .int .i64 s.f5, .int .i64 s.f6, .string s.f7, .slice A s.f8.length c]) ∧ Kd.R (Kd.int .i64) 3 w' w.heap.size (fun k => k ≠ g) (.slice A s.f8.length c) s.f8 ∧ Rdr w0 w' g l1 ∧ Rest w0 w w' g :=
  (step_any g k l w0 w h1 h2 hR hB hb).mono fun e w' hp => by
    rw [h] at hp
    obtain ⟨v, he, ho, hr, hs⟩ := hp
    obtain ⟨A, c, rfl⟩ := Kd.R_slice ho
    exact ⟨A, c, he, ho, hr, hs⟩

theorem catch29_idle (p q : Addr) (w : World) :
    CallsD Try.prog 29 #[.pointer (some p), .pointer (some q)] .returning w fun e u' w' => e = .returned (.tuple #[]) ∧ u' = .returning ∧ w' = w := by
  refine callsD_of_wpS Try.func29 rfl fun c₀ cs hu => ?_
  apply wpS_seq
  apply wpS_region
  simp [wpOpsS, go_sem, recoverD, hu, Try.ntmps29, Exit.thenS]
  apply wpS_seq
  apply wpS_region
  simp [wpOpsS, go_sem, recoverD, hu, Exit.thenS]
  refine wpS_cond (t := false) (by simp [Act.eval, Array.replicate]) ?_
  simp only [Bool.false_eq_true, if_false]
  refine wpS_of_wp (wp_skip ?_)
  cases c₀
  simp_all [bodyPostS, results, Try.results29]

abbrev zero27c : Array Value := #[.int .i64 0, .int .i64 0, .int .i64 0, .int .i64 0, .int .i64 0, .int .i64 0, .int .i64 0, .string ⟨#[]⟩, .slice none 0 0]
set_option maxHeartbeats 1000000 in
set_option maxRecDepth 10000 in
theorem catch29_short (p q B : Nat) (w : World) (hp : w.heap[p]? = some (.cells zero27c 27 (0, 0))) (hq : w.heap[q]? = some (.cells #[.bool false] 4 (0, 0))) (hBp : B ≤ p) (hBq : B ≤ q) (hpq : p ≠ q) :
    CallsD Try.prog 29 #[.pointer (some ⟨p, 0, none⟩), .pointer (some ⟨q, 0, none⟩)] (.panicking (shortAt 92)) w fun e u' w' =>
      e = .returned (.tuple #[]) ∧ u' = .panicking [{ v := .iface 92 (.agg #[]), recovered := true }] ∧ Below B w w' ∧ w'.heap[p]? = some (.cells zero27c 27 (0, 0)) ∧ w'.heap[q]? = some (.cells #[.bool false] 4 (0, 0)) := by
  refine callsD_of_wpS Try.func29 rfl fun c₀ cs hu => ?_
  unfold shortAt at hu
  apply wpS_seq
  apply wpS_region
  simp [wpOpsS, go_sem, recoverD, hu, Try.ntmps29, Exit.thenS]
  refine wpS_of_wp ?_
  have ht : (#[.pointer (some ⟨p, 0, none⟩), .pointer (some ⟨q, 0, none⟩)] ++ ((Array.replicate 15 undef).setIfInBounds 3 (.iface 92 (.agg #[]))).setIfInBounds 0 (.iface 92 (.agg #[])) : Array Value) = #[.pointer (some ⟨p, 0, none⟩), .pointer (some ⟨q, 0, none⟩), .iface 92 (.agg #[]), undef, undef, .iface 92 (.agg #[]), undef, undef, undef, undef, undef, undef, undef, undef, undef, undef, undef] := by kernel_rfl
  rw [ht]
  clear ht
  generalize hQ : (fun (e : Exit) (a' : Act) (w' : World) => bodyPostS _ _ _ _ _ e a' _ w') = Q
  have HQ := Aside0.mk hQ
  clear hQ
  have HU := Aside0.mk hu
  clear hu
  have hp1 : p < w.heap.size := blk_lt hp
  have hp2 : p ≠ w.heap.size := by omega
  have hq2 : q ≠ w.heap.size := by have := blk_lt hq; omega
  have hqp := hpq.symm
  have hu27 := Try.underlying27
  have hta : ∀ w : World, Sem.run Try.prog (Instr.typeAssert (Value.iface 92 (Value.agg #[])) 20 92 true) w = .ok (.tuple #[.agg #[], .bool true]) w := fun _ => rfl
  have HP0 := Aside0.mk hp
  have HQ0 := Aside0.mk hq
  clear hp hq
  go_upto_region 5 with (fail)
  have HP := Aside0.mk (blk_alloc HP0.out (.cells #[] 92))
  have HQQ := Aside0.mk (blk_alloc HQ0.out (.cells #[] 92))
  have HB := Aside0.mk (below_alloc (Below.refl w.heap.size w) (.cells #[] 92))
  have HL := Aside0.mk (Nat.le_trans hBp (Nat.le_of_lt hp1))
  generalize w.alloc (.cells #[] 92) = w5 at *
  have z0 : w5.cell? ⟨p, 0, none⟩ = some (.int .i64 0) := (blk_cell HP.out 0).trans rfl
  have y0 := blk_frozen HP.out 0
  have z1 : w5.cell? ⟨p, 1, none⟩ = some (.int .i64 0) := (blk_cell HP.out 1).trans rfl
  have y1 := blk_frozen HP.out 1
  have z2 : w5.cell? ⟨p, 2, none⟩ = some (.int .i64 0) := (blk_cell HP.out 2).trans rfl
  have y2 := blk_frozen HP.out 2
  have z3 : w5.cell? ⟨p, 3, none⟩ = some (.int .i64 0) := (blk_cell HP.out 3).trans rfl
  have y3 := blk_frozen HP.out 3
  have z4 : w5.cell? ⟨p, 4, none⟩ = some (.int .i64 0) := (blk_cell HP.out 4).trans rfl
  have y4 := blk_frozen HP.out 4
  have z5 : w5.cell? ⟨p, 5, none⟩ = some (.int .i64 0) := (blk_cell HP.out 5).trans rfl
  have y5 := blk_frozen HP.out 5
  have z6 : w5.cell? ⟨p, 6, none⟩ = some (.int .i64 0) := (blk_cell HP.out 6).trans rfl
  have y6 := blk_frozen HP.out 6
  have z7 : w5.cell? ⟨p, 7, none⟩ = some (.string ⟨#[]⟩) := (blk_cell HP.out 7).trans rfl
  have y7 := blk_frozen HP.out 7
  have z8 : w5.cell? ⟨p, 8, none⟩ = some (.slice none 0 0) := (blk_cell HP.out 8).trans rfl
  have y8 := blk_frozen HP.out 8
  have x0 : w5.cell? ⟨q, 0, none⟩ = some (.bool false) := (blk_cell HQQ.out 0).trans rfl
  have x1 := blk_frozen HQQ.out 0
  clear hp1 hp2 hq2 hta
  go_wp2
  obtain rfl := HQ.out
  refine ⟨rfl, _, rfl, _, results_list (rs := []) rfl (by simp) .nil, rfl, rfl, ?_, ?_, ?_⟩
  · have hb := HB.out.mono HL.out
    exact (((((((((hb.setCell (p := ⟨p, 0, none⟩) hBp _).setCell (p := ⟨p, 1, none⟩) hBp _).setCell (p := ⟨p, 2, none⟩) hBp _).setCell (p := ⟨p, 3, none⟩) hBp _).setCell (p := ⟨p, 4, none⟩) hBp _).setCell (p := ⟨p, 5, none⟩) hBp _).setCell (p := ⟨p, 6, none⟩) hBp _).setCell (p := ⟨p, 7, none⟩) hBp _).setCell (p := ⟨p, 8, none⟩) hBp _).setCell (p := ⟨q, 0, none⟩) hBq _
  · refine blk_far ?_ (p := ⟨q, 0, none⟩) hpq _
    exact blk_put (cs := zero27c) (blk_put (cs := zero27c) (blk_put (cs := zero27c) (blk_put (cs := zero27c) (blk_put (cs := zero27c) (blk_put (cs := zero27c) (blk_put (cs := zero27c) (blk_put (cs := zero27c) (blk_put (cs := zero27c) HP.out 0 _ rfl) 1 _ rfl) 2 _ rfl) 3 _ rfl) 4 _ rfl) 5 _ rfl) 6 _ rfl) 7 _ rfl) 8 _ rfl
  · refine blk_put (cs := #[.bool false]) ?_ 0 _ rfl
    exact blk_far (blk_far (blk_far (blk_far (blk_far (blk_far (blk_far (blk_far (blk_far HQQ.out (p := ⟨p, 0, none⟩) hqp _) (p := ⟨p, 1, none⟩) hqp _) (p := ⟨p, 2, none⟩) hqp _) (p := ⟨p, 3, none⟩) hqp _) (p := ⟨p, 4, none⟩) hqp _) (p := ⟨p, 5, none⟩) hqp _) (p := ⟨p, 6, none⟩) hqp _) (p := ⟨p, 7, none⟩) hqp _) (p := ⟨p, 8, none⟩) hqp _

/-- The kind of the next step, noughts passed over. -/
def skipP : List Int → Option (Int × List Int)
  | [] => none
  | x :: r => if x % 15 = 0 then skipP r else some (x % 15, r)
/-- The next step. -/
def nextP (l : List Int) : Option (S27 × List Int) := (skipP l).bind fun p => stepP p.1 p.2
def NPost (w0 w : World) (g : Nat) : Option (S27 × List Int) → Ending → World → Prop
  | none, e, w' => e = .returned (.tuple #[.agg zero27c, .bool false]) ∧ Rest w0 w w' g
  | some q, e, w' => ∃ A c, e = .returned (.tuple #[.agg #[.int .i64 q.1.f0, .int .i64 q.1.f1, .int .i64 q.1.f2, .int .i64 q.1.f3, .int .i64 q.1.f4, .int .i64 q.1.f5, .int .i64 q.1.f6, .string q.1.f7, .slice A q.1.f8.length c], .bool true]) ∧ Kd.R (Kd.int .i64) 3 w' w.heap.size (fun k => k ≠ g) (.slice A q.1.f8.length c) q.1.f8 ∧ Rdr w0 w' g q.2 ∧ Rest w0 w w' g
/-- Beside the reader: the two blocks of next's results. -/
structure NT (w0 w W : World) (g : Nat) (l : List Int) : Prop where
  rdr : Rdr w0 W g l
  below : Below w0.heap.size w0 W
  keep : KeepBut w W g none
  p : W.heap[w.heap.size]? = some (.cells zero27c 27 (0, 0))
  q : W.heap[w.heap.size + 1]? = some (.cells #[.bool false] 4 (0, 0))
theorem NT.read {w0 w W W1 : World} {g : Nat} {l l1 : List Int} (hg : g < w.heap.size) (h : NT w0 w W g l) (hr : Rdr w0 W1 g l1) (hs : Rest w0 W W1 g) : NT w0 w W1 g l1 :=
  ⟨hr, hs.1, h.keep.trans hs.2 (.inl rfl), hs.2.blk h.p (by omega) (by simp), hs.2.blk h.q (by omega) (by simp)⟩
theorem NT.start {w0 w : World} {g : Nat} {l : List Int} (hR : Rdr w0 w g l) (hB : Below w0.heap.size w0 w) : NT w0 w ((w.alloc (.cells zero27c 27)).alloc (.cells #[.bool false] 4)) g l := by
  have hg : g < w.heap.size := by obtain ⟨_, _, _, h, _⟩ := hR; exact blk_lt h
  have hb := below_alloc (below_alloc (Below.refl w.heap.size w) (.cells zero27c 27)) (.cells #[.bool false] 4)
  refine ⟨hR.move (hb.block g hg), hB.trans (hb.mono hB.size), KeepBut.of_below hb g none, blk_alloc (heap_alloc_new w _) _, ?_⟩
  have h_ := heap_alloc_new (w.alloc (.cells zero27c 27)) (.cells #[.bool false] 4)
  rwa [show (w.alloc (.cells zero27c 27)).heap.size = w.heap.size + 1 from by simp] at h_

theorem results_next (tmps : Array Value) (W : World) (p q : Nat) (c0 c1 c2 c3 c4 c5 c6 c7 c8 : Value) (b : Bool) (h2 : tmps.getD 2 undef = .pointer (some ⟨p, 0, none⟩)) (h3 : tmps.getD 3 undef = .pointer (some ⟨q, 0, none⟩))
    (hp : W.heap[p]? = some (.cells #[c0, c1, c2, c3, c4, c5, c6, c7, c8] 27 (0, 0))) (hq : W.heap[q]? = some (.cells #[.bool b] 4 (0, 0))) : (results Try.f22 tmps).run Try.prog W = .ok (.tuple #[.agg #[c0, c1, c2, c3, c4, c5, c6, c7, c8], .bool b]) W := by
  have hc : W.cell? ⟨q, 0, none⟩ = some (.bool b) := (blk_cell hq 0).trans rfl
  have e0 : W.cell? ⟨p, 0, none⟩ = some c0 := (blk_cell hp 0).trans rfl
  have e1 : W.cell? ⟨p, 1, none⟩ = some c1 := (blk_cell hp 1).trans rfl
  have e2 : W.cell? ⟨p, 2, none⟩ = some c2 := (blk_cell hp 2).trans rfl
  have e3 : W.cell? ⟨p, 3, none⟩ = some c3 := (blk_cell hp 3).trans rfl
  have e4 : W.cell? ⟨p, 4, none⟩ = some c4 := (blk_cell hp 4).trans rfl
  have e5 : W.cell? ⟨p, 5, none⟩ = some c5 := (blk_cell hp 5).trans rfl
  have e6 : W.cell? ⟨p, 6, none⟩ = some c6 := (blk_cell hp 6).trans rfl
  have e7 : W.cell? ⟨p, 7, none⟩ = some c7 := (blk_cell hp 7).trans rfl
  have e8 : W.cell? ⟨p, 8, none⟩ = some c8 := (blk_cell hp 8).trans rfl
  rw [Array.getD_eq_getD_getElem?] at h2 h3
  simp [results, Try.results22, go_sem, h2, h3, e0, e1, e2, e3, e4, e5, e6, e7, e8, hc]
/-- Behind a panic: the deferred call says 'none'. -/
theorem next_fails {w0 w W W1 : World} {g : Nat} {l : List Int} (hg : g < w.heap.size) (hw : w0.heap.size ≤ w.heap.size) (h : NT w0 w W g l) (hs : Rest w0 W W1 g) (a : Act) (ht2 : a.tmps.getD 2 undef = .pointer (some ⟨w.heap.size, 0, none⟩)) (ht3 : a.tmps.getD 3 undef = .pointer (some ⟨w.heap.size + 1, 0, none⟩))
    (hd : a.defers = [{ target := .fn (.func 29) #[.pointer (some ⟨w.heap.size, 0, none⟩), .pointer (some ⟨w.heap.size + 1, 0, none⟩)], args := #[] }]) (r : Option (S27 × List Int)) (hr : r = none) :
    bodyPostD Try.prog Try.f22 (NPost w0 w g r) (.panic (shortAt 92)) a W1 := by
  subst hr
  show Leaves Try.prog Try.f22 a.tmps _ a.defers (.panicking (shortAt 92)) W1
  rw [hd]
  refine leaves_cons (f := 29) (args := #[.pointer (some ⟨w.heap.size, 0, none⟩), .pointer (some ⟨w.heap.size + 1, 0, none⟩)]) (by simp) (by simp [go_sem]) ?_
  refine (catch29_short w.heap.size (w.heap.size + 1) w.heap.size W1 (hs.2.blk h.p (by omega) (by simp)) (hs.2.blk h.q (by omega) (by simp)) (Nat.le_refl _) (Nat.le_succ _) (by omega)).mono ?_
  rintro e u' w8 ⟨rfl, rfl, hb, hp, hq⟩
  show Leaves Try.prog Try.f22 _ _ [] .returning _
  refine ⟨.tuple #[.agg zero27c, .bool false], ?_, rfl, ?_⟩
  · exact results_next a.tmps w8 _ _ _ _ _ _ _ _ _ _ _ _ ht2 ht3 hp hq
  · exact ⟨hs.1.trans (hb.mono hw), ⟨Nat.le_trans (h.keep.trans hs.2 (.inl rfl)).1 hb.size, fun i hi hne hn => (hb.block i hi).trans ((h.keep.trans hs.2 (.inl rfl)).2 i hi hne hn)⟩⟩

structure NU (w0 w W : World) (g : Nat) (l : List Int) (cs : Array Value) (b : Bool) : Prop where
  rdr : Rdr w0 W g l
  below : Below w0.heap.size w0 W
  keep : KeepBut w W g none
  p : W.heap[w.heap.size]? = some (.cells cs 27 (0, 0))
  q : W.heap[w.heap.size + 1]? = some (.cells #[.bool b] 4 (0, 0))
theorem NT.nu {w0 w W : World} {g : Nat} {l : List Int} (h : NT w0 w W g l) : NU w0 w W g l zero27c false := ⟨h.rdr, h.below, h.keep, h.p, h.q⟩
theorem NU.putp {w0 w W : World} {g : Nat} {l : List Int} {cs cs' : Array Value} {b : Bool} (hg : g < w.heap.size) (hw : w0.heap.size ≤ w.heap.size) (j : Nat) (u : Value) (h : NU w0 w W g l cs b) (e : cs.setIfInBounds j u = cs') : NU w0 w (W.setCell ⟨w.heap.size, j, none⟩ u) g l cs' b :=
  ⟨h.rdr.move (Below.heap_setCell W _ u g (by show g ≠ w.heap.size; omega)), h.below.setCell (show w0.heap.size ≤ w.heap.size from hw) u, keep_far h.keep (Nat.le_refl _) u, blk_put h.p j u e, blk_far h.q (p := ⟨w.heap.size, j, none⟩) (by show w.heap.size + 1 ≠ w.heap.size; omega) u⟩
theorem NU.putq {w0 w W : World} {g : Nat} {l : List Int} {cs : Array Value} {b : Bool} (hg : g < w.heap.size) (hw : w0.heap.size ≤ w.heap.size) (b' : Bool) (h : NU w0 w W g l cs b) : NU w0 w (W.setCell ⟨w.heap.size + 1, 0, none⟩ (.bool b')) g l cs b' :=
  ⟨h.rdr.move (Below.heap_setCell W _ _ g (by show g ≠ w.heap.size + 1; omega)), h.below.setCell (show w0.heap.size ≤ w.heap.size + 1 by omega) _, keep_far h.keep (Nat.le_succ _) _, blk_far h.p (p := ⟨w.heap.size + 1, 0, none⟩) (by show w.heap.size ≠ w.heap.size + 1; omega) _, blk_put h.q 0 _ rfl⟩
theorem next_done {w0 w W : World} {g : Nat} (q : S27 × List Int) (A : Option Addr) (c : Nat) (hp : W.heap[w.heap.size]? = some (.cells (cells27 q.1 (.slice A q.1.f8.length c)) 27 (0, 0))) (hq : W.heap[w.heap.size + 1]? = some (.cells #[.bool true] 4 (0, 0)))
    (ho : Kd.R (Kd.int .i64) 3 W w.heap.size (fun k => k ≠ g) (.slice A q.1.f8.length c) q.1.f8) (hr : Rdr w0 W g q.2) (hs : Rest w0 w W g) (a : Act) (ht2 : a.tmps.getD 2 undef = .pointer (some ⟨w.heap.size, 0, none⟩)) (ht3 : a.tmps.getD 3 undef = .pointer (some ⟨w.heap.size + 1, 0, none⟩))
    (hd : a.defers = [{ target := .fn (.func 29) #[.pointer (some ⟨w.heap.size, 0, none⟩), .pointer (some ⟨w.heap.size + 1, 0, none⟩)], args := #[] }]) (r : Option (S27 × List Int)) (hrq : r = some q) :
    bodyPostD Try.prog Try.f22 (NPost w0 w g r) .ret a W := by
  subst hrq
  show Leaves Try.prog Try.f22 a.tmps _ a.defers .returning W
  rw [hd]
  refine leaves_cons (f := 29) (args := #[.pointer (some ⟨w.heap.size, 0, none⟩), .pointer (some ⟨w.heap.size + 1, 0, none⟩)]) (by simp) (by simp [go_sem]) ?_
  refine (catch29_idle _ _ _).mono ?_
  rintro e u' w8 ⟨rfl, rfl, rfl⟩
  show Leaves Try.prog Try.f22 _ _ [] .returning _
  exact ⟨_, results_next a.tmps w8 _ _ _ _ _ _ _ _ _ _ _ _ ht2 ht3 hp hq, A, c, rfl, ho, hr, hs⟩
theorem skipP_nil : skipP [] = none := rfl
theorem skipP_pass (x : Int) (r : List Int) (h : x % 15 = 0) : skipP (x :: r) = skipP r := by show (if x % 15 = 0 then _ else _) = _; rw [if_pos h]
theorem skipP_kind (x : Int) (r : List Int) (h : ¬ x % 15 = 0) : skipP (x :: r) = some (x % 15, r) := by show (if x % 15 = 0 then _ else _) = _; rw [if_neg h]
theorem numP_cons (x : Int) (r : List Int) : numP 1 (x :: r) = some (x, r) := by
  unfold numP
  rw [if_neg (by simp)]
  simp [valOf]
theorem numP_nil : numP 1 [] = none := rfl
theorem Okb.tail {x : Int} {r : List Int} (h : Okb (x :: r)) : (0 ≤ x ∧ x < 256) ∧ Okb r := ⟨h.1 x List.mem_cons_self, fun y hy => h.1 y (List.mem_cons_of_mem _ hy), by have := h.2; rw [List.length_cons] at this; omega⟩

set_option maxHeartbeats 1000000 in
set_option maxRecDepth 10000 in
theorem next_any (g : Nat) (l : List Int) (w0 w : World) (hR : Rdr w0 w g l) (hB : Below w0.heap.size w0 w) (hb : Okb l) :
    Calls Try.prog 22 #[.pointer (some ⟨g, 0, none⟩)] w (NPost w0 w g (nextP l)) := by
  have hgw : g < w.heap.size := by obtain ⟨_, _, _, h, _⟩ := hR; exact blk_lt h
  have HGW := Aside0.mk hgw
  have HW := Aside0.mk hB.size
  have HS : Aside0 (NT w0 w _ g l) := Aside0.mk (NT.start hR hB)
  clear hR hB hgw
  go_enter_defers Try.func22, Try.ntmps22
  go_wp2
  go_loopg [4] l.length (fun kq v4 w' => ∃ l' : List Int, Aside0 (l'.length ≤ kq ∧ Okb l' ∧ skipP l = skipP l') ∧ Aside0 (NT w0 w w' g l'))
  case atStart => exact ⟨l, ⟨Nat.le_refl _, hb, rfl⟩, HS⟩
  case round =>
    clear HS
    obtain ⟨l', HI, HS⟩ := hrel
    cases l' with
    | nil =>
      go_wp2_with (go_at_call 30; refine (num_none g 1 [] w0 _ le11 le12 HS.out.rdr HS.out.below numP_nil).mono ?_; rintro e w1 ⟨rfl, hs⟩)
      exact next_fails HGW.out HW.out HS.out hs _ rfl rfl rfl _ (by unfold nextP; rw [HI.out.2.2]; rfl)
    | cons x r =>
      obtain ⟨hx, hbr⟩ := HI.out.2.1.tail
      have hbx := HI.out.2.1
      cases gk with
      | zero => exact absurd HI.out.1 (by simp)
      | succ k2 =>
        have hk2 : r.length ≤ k2 := by have := HI.out.1; rw [List.length_cons] at this; omega
        have hm := Int.emod_nonneg x (show (15 : Int) ≠ 0 by decide)
        have hm2 := Int.emod_lt_of_pos x (show (0 : Int) < 15 by decide)
        have HM2 := Aside0.mk hm2
        have HK2 := Aside0.mk hk2
        clear hm2 hk2
        rcases Classical.em (x % 15 = 0) with h0 | h0
        · have hE := HI.out.2.2
          rw [skipP_pass x r h0] at hE
          have HE := Aside0.mk hE
          have hd : decide (0 < x % 15) = false := decide_eq_false (by omega)
          clear h0 hE
          go_wp2_with (go_at_call 30; refine (num_some g 1 (x :: r) x r w0 _ le11 le12 HS.out.rdr HS.out.below hbx (numP_cons x r)).mono ?_; rintro e w1 ⟨rfl, hr, hs⟩; have HS1 := Aside0.mk (NT.read HGW.out HS.out hr hs); clear hr hs)
          go_roundg k2
          case measure => exact Nat.lt_succ_self _
          case rel => exact ⟨r, ⟨HK2.out, hbr, HE.out⟩, HS1⟩
        · have hE := HI.out.2.2
          rw [skipP_kind x r h0] at hE
          have HE := Aside0.mk hE
          have hd : decide (0 < x % 15) = true := decide_eq_true (by omega)
          have h1 : 1 ≤ x % 15 := by omega
          have H1 := Aside0.mk h1
          clear h0 hE h1
          rcases hst : stepP (x % 15) r with _ | ⟨s, l1⟩
          · have HN := Aside0.mk hst
            clear hst
            go_wp2_with (first
              | (go_at_call 30; refine (num_some g 1 (x :: r) x r w0 _ le11 le12 HS.out.rdr HS.out.below hbx (numP_cons x r)).mono ?_; rintro e w1 ⟨rfl, hr, hs⟩; have HS1 := Aside0.mk (NT.read HGW.out HS.out hr hs); clear hr hs)
              | (go_at_call 31; refine (step_none g (x % 15) r w0 _ H1.out (by have := HM2.out; omega) HS1.out.rdr HS1.out.below hbr HN.out).mono ?_; rintro e w2 ⟨rfl, hs⟩))
            exact next_fails HGW.out HW.out HS1.out hs _ rfl rfl rfl _ (by unfold nextP; rw [HE.out]; exact HN.out)
          · have HN := Aside0.mk hst
            clear hst
            go_wp2_with (first
              | (go_at_call 30; refine (num_some g 1 (x :: r) x r w0 _ le11 le12 HS.out.rdr HS.out.below hbx (numP_cons x r)).mono ?_; rintro e w1 ⟨rfl, hr, hs⟩; have HS1 := Aside0.mk (NT.read HGW.out HS.out hr hs); clear hr hs)
              | (go_at_call 31; refine (step_some g (x % 15) r s l1 w0 _ H1.out (by have := HM2.out; omega) HS1.out.rdr HS1.out.below hbr HN.out).mono ?_; rintro e w2 ⟨A, c, rfl, ho, hr, hs⟩; have HS2 := Aside0.mk (NT.read HGW.out HS1.out hr hs); have HO := Aside0.mk (Kd.R_mono (ok' := fun k => k ≠ g ∧ w.heap.size + 1 < k) (Kd.R_lower (base' := w.heap.size) (Kd.R_bound ho) (by have := blk_lt HS1.out.q; omega)) (fun k hk => ⟨hk.1, by have := blk_lt HS1.out.q; have := hk.2.1; omega⟩)); clear ho hr hs; have z0 : w2.cell? ⟨w.heap.size, 0, none⟩ = some (.int .i64 0) := (blk_cell HS2.out.p 0).trans rfl; have y0 := blk_frozen HS2.out.p 0; have z1 : w2.cell? ⟨w.heap.size, 1, none⟩ = some (.int .i64 0) := (blk_cell HS2.out.p 1).trans rfl; have y1 := blk_frozen HS2.out.p 1; have z2 : w2.cell? ⟨w.heap.size, 2, none⟩ = some (.int .i64 0) := (blk_cell HS2.out.p 2).trans rfl; have y2 := blk_frozen HS2.out.p 2; have z3 : w2.cell? ⟨w.heap.size, 3, none⟩ = some (.int .i64 0) := (blk_cell HS2.out.p 3).trans rfl; have y3 := blk_frozen HS2.out.p 3; have z4 : w2.cell? ⟨w.heap.size, 4, none⟩ = some (.int .i64 0) := (blk_cell HS2.out.p 4).trans rfl; have y4 := blk_frozen HS2.out.p 4; have z5 : w2.cell? ⟨w.heap.size, 5, none⟩ = some (.int .i64 0) := (blk_cell HS2.out.p 5).trans rfl; have y5 := blk_frozen HS2.out.p 5; have z6 : w2.cell? ⟨w.heap.size, 6, none⟩ = some (.int .i64 0) := (blk_cell HS2.out.p 6).trans rfl; have y6 := blk_frozen HS2.out.p 6; have z7 : w2.cell? ⟨w.heap.size, 7, none⟩ = some (.string ⟨#[]⟩) := (blk_cell HS2.out.p 7).trans rfl; have y7 := blk_frozen HS2.out.p 7; have z8 : w2.cell? ⟨w.heap.size, 8, none⟩ = some (.slice none 0 0) := (blk_cell HS2.out.p 8).trans rfl; have y8 := blk_frozen HS2.out.p 8; have x0 : w2.cell? ⟨w.heap.size + 1, 0, none⟩ = some (.bool false) := (blk_cell HS2.out.q 0).trans rfl; have x1 := blk_frozen HS2.out.q 0))
            have HF : Aside0 (NU w0 w ((((((((((w2.setCell ⟨w.heap.size, 0, none⟩ (.int .i64 s.f0)).setCell ⟨w.heap.size, 1, none⟩ (.int .i64 s.f1)).setCell ⟨w.heap.size, 2, none⟩ (.int .i64 s.f2)).setCell ⟨w.heap.size, 3, none⟩ (.int .i64 s.f3)).setCell ⟨w.heap.size, 4, none⟩ (.int .i64 s.f4)).setCell ⟨w.heap.size, 5, none⟩ (.int .i64 s.f5)).setCell ⟨w.heap.size, 6, none⟩ (.int .i64 s.f6)).setCell ⟨w.heap.size, 7, none⟩ (.string s.f7)).setCell ⟨w.heap.size, 8, none⟩ (.slice A s.f8.length c)).setCell ⟨w.heap.size + 1, 0, none⟩ (.bool true)) g l1 (cells27 s (.slice A s.f8.length c)) true) := Aside0.mk (by unfold cells27; refine NU.putq (b := false) HGW.out HW.out true ?_; refine NU.putp (cs := #[.int .i64 s.f0, .int .i64 s.f1, .int .i64 s.f2, .int .i64 s.f3, .int .i64 s.f4, .int .i64 s.f5, .int .i64 s.f6, .string s.f7, .slice none 0 0]) HGW.out HW.out 8 _ ?_ rfl; refine NU.putp (cs := #[.int .i64 s.f0, .int .i64 s.f1, .int .i64 s.f2, .int .i64 s.f3, .int .i64 s.f4, .int .i64 s.f5, .int .i64 s.f6, .string ⟨#[]⟩, .slice none 0 0]) HGW.out HW.out 7 _ ?_ rfl; refine NU.putp (cs := #[.int .i64 s.f0, .int .i64 s.f1, .int .i64 s.f2, .int .i64 s.f3, .int .i64 s.f4, .int .i64 s.f5, .int .i64 0, .string ⟨#[]⟩, .slice none 0 0]) HGW.out HW.out 6 _ ?_ rfl; refine NU.putp (cs := #[.int .i64 s.f0, .int .i64 s.f1, .int .i64 s.f2, .int .i64 s.f3, .int .i64 s.f4, .int .i64 0, .int .i64 0, .string ⟨#[]⟩, .slice none 0 0]) HGW.out HW.out 5 _ ?_ rfl; refine NU.putp (cs := #[.int .i64 s.f0, .int .i64 s.f1, .int .i64 s.f2, .int .i64 s.f3, .int .i64 0, .int .i64 0, .int .i64 0, .string ⟨#[]⟩, .slice none 0 0]) HGW.out HW.out 4 _ ?_ rfl; refine NU.putp (cs := #[.int .i64 s.f0, .int .i64 s.f1, .int .i64 s.f2, .int .i64 0, .int .i64 0, .int .i64 0, .int .i64 0, .string ⟨#[]⟩, .slice none 0 0]) HGW.out HW.out 3 _ ?_ rfl; refine NU.putp (cs := #[.int .i64 s.f0, .int .i64 s.f1, .int .i64 0, .int .i64 0, .int .i64 0, .int .i64 0, .int .i64 0, .string ⟨#[]⟩, .slice none 0 0]) HGW.out HW.out 2 _ ?_ rfl; refine NU.putp (cs := #[.int .i64 s.f0, .int .i64 0, .int .i64 0, .int .i64 0, .int .i64 0, .int .i64 0, .int .i64 0, .string ⟨#[]⟩, .slice none 0 0]) HGW.out HW.out 1 _ ?_ rfl; refine NU.putp (cs := #[.int .i64 0, .int .i64 0, .int .i64 0, .int .i64 0, .int .i64 0, .int .i64 0, .int .i64 0, .string ⟨#[]⟩, .slice none 0 0]) HGW.out HW.out 0 _ ?_ rfl; exact HS2.out.nu)
            refine next_done (s, l1) A c HF.out.p HF.out.q ?_ HF.out.rdr ⟨HF.out.below, HF.out.keep⟩ _ rfl rfl rfl _ (by unfold nextP; rw [HE.out]; exact HN.out)
            exact Kd.R_mono (Kd.R_far (Kd.R_far (Kd.R_far (Kd.R_far (Kd.R_far (Kd.R_far (Kd.R_far (Kd.R_far (Kd.R_far (Kd.R_far HO.out (fun k hk => by have := hk.2; simp only; omega) _) (fun k hk => by have := hk.2; simp only; omega) _) (fun k hk => by have := hk.2; simp only; omega) _) (fun k hk => by have := hk.2; simp only; omega) _) (fun k hk => by have := hk.2; simp only; omega) _) (fun k hk => by have := hk.2; simp only; omega) _) (fun k hk => by have := hk.2; simp only; omega) _) (fun k hk => by have := hk.2; simp only; omega) _) (fun k hk => by have := hk.2; simp only; omega) _) (fun k hk => by have := hk.2; simp only; omega) _) (fun _ hk => hk.1)
end Go.Proofs.Ythpehiecmgipmaa.L
