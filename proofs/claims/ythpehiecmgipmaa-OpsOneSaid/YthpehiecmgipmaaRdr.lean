/- What ops' reader does: a number, a text, a row of numbers, a step, read from bytes behind a pointer, or a panic 'short' where they end too soon; as contracts over memory; bytes from 0 to 255, fewer than 2^42. -/
import Derived.Test.YthpehiecmgipmaaBits
import Derived.Test.YthpehiecmgipmaaWKept
namespace Go.Proofs.Ythpehiecmgipmaa.L
set_option linter.unusedSimpArgs false
set_option linter.unusedVariables false
open Go.RowKit Go.Proofs.YthpehiecmgipmaaW.PrintWords Go.Proofs.YthpehiecmgipmaaW.PrintLast Go.Proofs.YthpehiecmgipmaaW.PrintMore

/-- A reader at block g: what is left of its bytes, which lie in the elder world w0. -/
def Rdr (w0 w : World) (g : Nat) (l : List Int) : Prop := w0.heap.size ≤ g ∧ ∃ A c, w.heap[g]? = some (.cells #[.slice A l.length c] 82 (0, 0)) ∧ l.length ≤ c ∧ Kd.C (Kd.int .u8) w0 A l.length l
/-- What a call on it leaves: nothing elder is another, but its block. -/
def Rest (w0 w w' : World) (g : Nat) : Prop := Below w0.heap.size w0 w' ∧ KeepBut w w' g none
theorem Rest.of {w0 w w' : World} {g : Nat} (hg : w0.heap.size ≤ g) (hB : Below w0.heap.size w0 w) (hb : Below w.heap.size w w') : Rest w0 w w' g :=
  ⟨hB.trans (hb.mono hB.size), KeepBut.of_below hb g none⟩
theorem Rest.set {w0 w w' : World} {g : Nat} (hg : w0.heap.size ≤ g) (h : Rest w0 w w' g) (j : Nat) (u : Value) : Rest w0 w (w'.setCell ⟨g, j, none⟩ u) g :=
  ⟨h.1.setCell hg _, h.2.set_ j u⟩
theorem Rest.trans {w0 w w1 w2 : World} {g : Nat} (h : Rest w0 w w1 g) (k : Rest w0 w1 w2 g) : Rest w0 w w2 g :=
  ⟨k.1, h.2.trans k.2 (.inl rfl)⟩
theorem Rdr.set {w0 w' : World} {g : Nat} {l : List Int} {v : Value} {A : Option Addr} {c : Nat} (hg : w0.heap.size ≤ g) (hb : w'.heap[g]? = some (.cells #[v] 82 (0, 0))) (hc : l.length ≤ c) (hC : Kd.C (Kd.int .u8) w0 A l.length l) : Rdr w0 (w'.setCell ⟨g, 0, none⟩ (.slice A l.length c)) g l :=
  ⟨hg, A, c, blk_put hb 0 _ rfl, hc, hC⟩

set_option maxHeartbeats 1000000 in
theorem num_no (g : Nat) (k : Nat) (l : List Int) (w0 w : World) (hk1 : 1 ≤ k) (hk2 : k ≤ 2) (hR : Rdr w0 w g l) (hB : Below w0.heap.size w0 w) (h : l.length < k) :
    Calls Try.prog 30 #[.pointer (some ⟨g, 0, none⟩), .int .i64 (k : Int)] w fun e w' => e = .panicked (shortAt 92) ∧ Rest w0 w w' g := by
  obtain ⟨hg, A, c, hblk, hc, hC⟩ := hR
  have hcell : w.cell? ⟨g, 0, none⟩ = some (.slice A l.length c) := (blk_cell hblk 0).trans rfl
  have HB := Aside0.mk hB
  have HG := Aside0.mk hg
  clear hB hblk hC hg
  go_enter Try.func30, Try.ntmps30
  go_wp2_with (go_at_call 46; refine (bTake_no A l.length c k _ hk1 hk2 h).mono ?_; rintro e w1 ⟨rfl, hb⟩)
  exact ⟨rfl, rfl, Rest.of HG.out HB.out hb⟩

set_option maxHeartbeats 1000000 in
theorem num_ok (g : Nat) (k : Nat) (l : List Int) (w0 w : World) (hk1 : 1 ≤ k) (hk2 : k ≤ 2) (hR : Rdr w0 w g l) (hB : Below w0.heap.size w0 w) (hb : inBytes l) (h : k ≤ l.length) :
    Calls Try.prog 30 #[.pointer (some ⟨g, 0, none⟩), .int .i64 (k : Int)] w fun e w' => e = .returned (.int .i64 (valOf (l.take k))) ∧ Rdr w0 w' g (l.drop k) ∧ Rest w0 w w' g := by
  obtain ⟨hg, A, c, hblk, hc, hC⟩ := hR
  have hcell : w.cell? ⟨g, 0, none⟩ = some (.slice A l.length c) := (blk_cell hblk 0).trans rfl
  have hfr := blk_frozen hblk 0
  obtain ⟨i07, hi07, _, hsz7, _⟩ := info_parts info5
  obtain ⟨A7, hcut7, hA7, hC7⟩ := print_drop_of (P := Try.prog) (Value.int .u8) 0 22 5 .i64 Try.underlying22 hi07 hsz7 A c l (k : Int) (by omega) (by omega) hc
  rw [Int.toNat_natCast] at hcut7 hA7 hC7
  have HR := Aside0.mk (Kd.C_of_reads (h1 := fun _ => rfl) (hA7 _ (Kd.reads_of_C hC)))
  have HC := Aside0.mk (Kd.C_below hC hB)
  have HB := Aside0.mk hB
  have HG := Aside0.mk hg
  have HK := Aside0.mk hblk
  have HC7 := Aside0.mk hC7
  clear hB hblk hC hg hA7 hC7 hi07 hsz7
  go_enter Try.func30, Try.ntmps30
  go_wp2_with (go_at_call 46; refine (bTake_ok A c k l _ hk1 hk2 h hc HC.out hb).mono ?_; rintro e w1 ⟨rfl, hb⟩; have hc1 := (hb.cell (World.block_lt_of_cell? w _ hcell)).trans hcell; have hf1 := (hb.frozen (p := ⟨g, 0, none⟩) (World.block_lt_of_cell? w _ hcell)).trans hfr; have HW := Aside0.mk hb; clear hb)
  go_ret
  have hbl := (HW.out.block g (World.block_lt_of_cell? w _ hcell)).trans HK.out
  exact ⟨rfl, by have h_ := Rdr.set HG.out hbl HC7.out HR.out; rwa [List.length_drop] at h_, (Rest.of HG.out HB.out HW.out).set HG.out 0 _⟩

/-- A text, its length ahead, and what is behind it. -/
def textP (l : List Int) : Option (ByteArray × List Int) := if 0 < l.length ∧ rd l 0 + 1 ≤ (l.length : Int) then some (strOfNums ((l.take (rd l 0 + 1).toNat).drop 1), l.drop (rd l 0 + 1).toNat) else none
set_option maxHeartbeats 1000000 in
theorem text_no (g : Nat) (l : List Int) (w0 w : World) (hR : Rdr w0 w g l) (hB : Below w0.heap.size w0 w) (hb : inBytes l) (hl : l.length < 4398046511104) (h : textP l = none) :
    Calls Try.prog 48 #[.pointer (some ⟨g, 0, none⟩)] w fun e w' => e = .panicked (shortAt 92) ∧ Rest w0 w w' g := by
  obtain ⟨hg, A, c, hblk, hc, hC⟩ := hR
  have hcell : w.cell? ⟨g, 0, none⟩ = some (.slice A l.length c) := (blk_cell hblk 0).trans rfl
  have hC' := Kd.C_below hC hB
  have HB := Aside0.mk hB
  have HG := Aside0.mk hg
  clear hB hblk hg hC
  unfold textP at h
  rcases Nat.eq_zero_or_pos l.length with h0 | h0
  · rw [h0] at hcell
    go_enter Try.func48, Try.ntmps48
    go_wp2_with (go_at_call 56; refine (tText_nil A c _).mono ?_; rintro e w1 ⟨rfl, hb⟩)
    exact ⟨rfl, rfl, Rest.of HG.out HB.out hb⟩
  · have h1 : (l.length : Int) < rd l 0 + 1 := by
      rcases Int.lt_or_le (l.length : Int) (rd l 0 + 1) with h2 | h2
      · exact h2
      · rw [if_pos ⟨h0, h2⟩] at h; exact absurd h (by simp)
    go_enter Try.func48, Try.ntmps48
    go_wp2_with (go_at_call 56; refine (tText_no A c l _ h0 hc hl hC' hb h1).mono ?_; rintro e w1 ⟨rfl, hb⟩)
    exact ⟨rfl, rfl, Rest.of HG.out HB.out hb⟩

set_option maxHeartbeats 1000000 in
theorem text_ok (g : Nat) (l : List Int) (s : ByteArray) (r : List Int) (w0 w : World) (hR : Rdr w0 w g l) (hB : Below w0.heap.size w0 w) (hb : inBytes l) (hl : l.length < 4398046511104) (h : textP l = some (s, r)) :
    Calls Try.prog 48 #[.pointer (some ⟨g, 0, none⟩)] w fun e w' => e = .returned (.string s) ∧ Rdr w0 w' g r ∧ Rest w0 w w' g := by
  unfold textP at h
  have hcs : 0 < l.length ∧ rd l 0 + 1 ≤ (l.length : Int) := by
    rcases Classical.em (0 < l.length ∧ rd l 0 + 1 ≤ (l.length : Int)) with h1 | h1
    · exact h1
    · rw [if_neg h1] at h; exact absurd h (by simp)
  rw [if_pos hcs] at h
  simp only [Option.some.injEq, Prod.mk.injEq] at h
  obtain ⟨hs, rfl⟩ := h
  have HS := Aside0.mk hs
  clear hs
  obtain ⟨h0, h1⟩ := hcs
  have hx := inBytes_rd hb 0 (by omega)
  rw [show ((0 : Nat) : Int) = 0 from rfl] at hx
  obtain ⟨hg, A, c, hblk, hc, hC⟩ := hR
  have hcell : w.cell? ⟨g, 0, none⟩ = some (.slice A l.length c) := (blk_cell hblk 0).trans rfl
  have hfr := blk_frozen hblk 0
  obtain ⟨i07, hi07, _, hsz7, _⟩ := info_parts info5
  obtain ⟨A7, hcut7, hA7, hC7⟩ := print_drop_of (P := Try.prog) (Value.int .u8) 0 22 5 .i64 Try.underlying22 hi07 hsz7 A c l (rd l 0 + 1) (by omega) h1 hc
  have HR := Aside0.mk (Kd.C_of_reads (h1 := fun _ => rfl) (hA7 _ (Kd.reads_of_C hC)))
  have HC := Aside0.mk (Kd.C_below hC hB)
  have HB := Aside0.mk hB
  have HG := Aside0.mk hg
  have HK := Aside0.mk hblk
  have HC7 := Aside0.mk hC7
  rw [List.length_drop] at hcut7
  clear hB hblk hC hg hA7 hC7 hi07 hsz7
  go_enter Try.func48, Try.ntmps48
  go_wp2_with (go_at_call 56; refine (tText_ok A c l _ h0 hc hl HC.out hb h1).mono ?_; rintro e w1 ⟨he, hb⟩; rw [HS.out] at he; subst he; have hc1 := (hb.cell (World.block_lt_of_cell? w _ hcell)).trans hcell; have hf1 := (hb.frozen (p := ⟨g, 0, none⟩) (World.block_lt_of_cell? w _ hcell)).trans hfr; have HW := Aside0.mk hb; clear hb)
  go_ret
  have hbl := (HW.out.block g (World.block_lt_of_cell? w _ hcell)).trans HK.out
  exact ⟨rfl, by have h_ := Rdr.set HG.out hbl HC7.out HR.out; rwa [List.length_drop] at h_, (Rest.of HG.out HB.out HW.out).set HG.out 0 _⟩

theorem Rdr.move {w0 w w' : World} {g : Nat} {l : List Int} (h : Rdr w0 w g l) (hb : w'.heap[g]? = w.heap[g]?) : Rdr w0 w' g l := by
  obtain ⟨hg, A, c, hblk, hc, hC⟩ := h
  exact ⟨hg, A, c, hb.trans hblk, hc, hC⟩
/-- So many numbers of so many bytes. -/
def gainsP (n : Nat) : Nat → List Int → Option (List Int × List Int)
  | 0, l => some ([], l)
  | m + 1, l => if l.length < n then none else (gainsP n m (l.drop n)).bind fun q => some (valOf (l.take n) :: q.1, q.2)
theorem gainsP_zero (n : Nat) (l : List Int) : gainsP n 0 l = some ([], l) := rfl
theorem gainsP_no (n m : Nat) (l : List Int) (h : l.length < n) : gainsP n (m + 1) l = none := by unfold gainsP; rw [if_pos h]
theorem gainsP_yes (n m : Nat) (l : List Int) (h : ¬ l.length < n) : gainsP n (m + 1) l = (gainsP n m (l.drop n)).bind fun q => some (valOf (l.take n) :: q.1, q.2) := by
  show (if l.length < n then none else _) = _
  rw [if_neg h]
/-- What a loop over a reader holds: the reader, what is elder, the row that it makes. -/
structure GS (w0 w W : World) (g : Nat) (l : List Int) (v : Value) (xs : List Int) : Prop where
  rdr : Rdr w0 W g l
  below : Below w0.heap.size w0 W
  keep : KeepBut w W g none
  row : Kd.R (Kd.int .i64) 3 W w.heap.size (fun k => k ≠ g) v xs
theorem GS.read {w0 w W W1 : World} {g : Nat} {l l1 : List Int} {v : Value} {xs : List Int} (h : GS w0 w W g l v xs) (hr : Rdr w0 W1 g l1) (hs : Rest w0 W W1 g) : GS w0 w W1 g l1 v xs :=
  ⟨hr, hs.1, h.keep.trans hs.2 (.inl rfl), Kd.R_keep h.row hs.2 (fun _ hk => hk)⟩
theorem GS.grown {w0 w W W1 : World} {g : Nat} {l : List Int} {v v1 : Value} {xs ys : List Int} (hg : g < w.heap.size) (hw : w0.heap.size ≤ w.heap.size) (h : GS w0 w W g l v xs) (hr : Kd.R (Kd.int .i64) 3 W1 w.heap.size (fun k => k ≠ g) v1 ys) (hs : W.grownBy W1 v.ownBlock) : GS w0 w W1 g l v1 ys := by
  have hgn : some g ≠ v.ownBlock := fun e => h.row.1 g e.symm rfl
  have hgW : g < W.heap.size := Nat.lt_of_lt_of_le hg h.keep.1
  refine ⟨h.rdr.move (hs.block g hgW hgn), h.below.grown hs (Nat.le_trans hw h.keep.1) (fun k hk => Nat.le_trans hw (Kd.R_base h.row k hk)), ⟨Nat.le_trans h.keep.1 hs.size, fun i hi hne hn => (hs.block i (Nat.lt_of_lt_of_le hi h.keep.1) (fun e => ?_)).trans (h.keep.2 i hi hne hn)⟩, hr⟩
  have := Kd.R_base h.row i e.symm
  omega

/-- How 'gains' ends. -/
def GPost (w0 w : World) (g : Nat) : Option (List Int × List Int) → Ending → World → Prop
  | none, e, w' => e = .panicked (shortAt 92) ∧ Rest w0 w w' g
  | some q, e, w' => ∃ v, e = .returned v ∧ Kd.R (Kd.int .i64) 3 w' w.heap.size (fun k => k ≠ g) v q.1 ∧ Rdr w0 w' g q.2 ∧ Rest w0 w w' g
theorem inBytes_drop {l : List Int} (h : inBytes l) (n : Nat) : inBytes (l.drop n) := fun x hx => h x (List.mem_of_mem_drop hx)

set_option maxHeartbeats 1000000 in
theorem gains_any (g m n : Nat) (l : List Int) (w0 w : World) (hn1 : 1 ≤ n) (hn2 : n ≤ 2) (hm : m ≤ 20) (hR : Rdr w0 w g l) (hB : Below w0.heap.size w0 w) (hb : inBytes l) (hl : l.length < 4398046511104) :
    Calls Try.prog 47 #[.pointer (some ⟨g, 0, none⟩), .int .i64 (m : Int), .int .i64 (n : Int)] w (GPost w0 w g (gainsP n m l)) := by
  have hgw : g < w.heap.size := by obtain ⟨_, _, _, h, _⟩ := hR; exact blk_lt h
  have HGW := Aside0.mk hgw
  have HW := Aside0.mk hB.size
  have HG := Aside0.mk hR.1
  have HS : Aside0 (GS w0 w w g l (.slice none 0 0) []) := ⟨hR, hB, KeepBut.refl w g none, Kd.R_nil _ _ _ _ _⟩
  clear hR hB hgw
  go_enter Try.func47, Try.ntmps47
  go_wp2
  go_loopg [6, 8] m (fun kq v6 v8 w' => ∃ (i : Nat) (l' : List Int) (xs : List Int), v8 = .int .i64 (i : Int) ∧ Aside0 (i + kq = m ∧ xs.length = i ∧ inBytes l') ∧ Aside0 (gainsP n m l = (gainsP n kq l').map (fun q => (xs ++ q.1, q.2))) ∧ Aside0 (GS w0 w w' g l' v6 xs))
  case atStart => exact ⟨0, l, [], rfl, ⟨by omega, rfl, hb⟩, ⟨by cases gainsP n m l <;> simp⟩, HS⟩
  case round =>
    clear HS
    obtain ⟨i, l', xs, rfl, HI, HE, HS⟩ := hrel
    have hlen := HI.out.1
    cases gk with
    | zero =>
      have hd : decide ((i : Int) < (m : Int)) = false := decide_eq_false (by omega)
      have hd2 : decide (i < m) = false := decide_eq_false (by omega)
      clear hlen
      go_wp2
      go_ret
      rw [HE.out, gainsP_zero]
      refine ⟨u6, rfl, ?_, HS.out.rdr, HS.out.below, HS.out.keep⟩
      simpa using HS.out.row
    | succ k2 =>
      have hd : decide ((i : Int) < (m : Int)) = true := decide_eq_true (by omega)
      have hd2 : decide (i < m) = true := decide_eq_true (by omega)
      have hxl : xs.length < 20 := by have := HI.out.2.1; omega
      have hbl := HI.out.2.2
      clear hlen
      rcases Nat.lt_or_ge l'.length n with h | h
      · go_wp2_with (go_at_call 30; refine (num_no g n l' w0 _ hn1 hn2 HS.out.rdr HS.out.below h).mono ?_; rintro e w1 ⟨rfl, hb⟩)
        refine ⟨rfl, ?_⟩
        rw [HE.out, gainsP_no n k2 l' h]
        exact ⟨rfl, Rest.trans ⟨HS.out.below, HS.out.keep⟩ hb⟩
      · go_wp2_with (first
          | (go_at_call 30; refine (num_ok g n l' w0 _ hn1 hn2 HS.out.rdr HS.out.below hbl h).mono ?_; rintro e w1 ⟨rfl, hr, hs⟩; have HS1 := Aside0.mk (HS.out.read hr hs); clear hr hs)
          | ((with_reducible refine gate_builtin (b := .append) (xs := #[.tmp 10, .tmp 14]) rfl ?_); at_builtin; go_loud (refine Kd.R_append (Kd.int .i64) (w0 := w1) w.heap.size rfl (.tmp 10) (.tmp 14) 25 3 (.int .i64 0) 8 rfl Try.underlying25 info3 rfl (by decide) (by omega) u6 xs (valOf (l'.take n)) [.int .i64 (valOf (l'.take n))] (fun k => k ≠ g) (fun _ => False) rfl rfl ?aP (fun _ hk => hk.elim) ?aF ?aO ?aB ?aS ?aL ?_; (case aP => exact rfl); (case aB => exact Below.mono (Below.refl w1.heap.size w1) HS1.out.keep.1); (case aF => exact (fun k hk => by have := HGW.out; have := HS1.out.keep.1; omega)); (case aO => exact HS1.out.row); (case aS => exact HS1.out.keep.1); (case aL => omega); intro v2 w2 ho hb hg hat; have HS2 := Aside0.mk (GS.grown HGW.out HW.out HS1.out ho hg); clear ho hb hg hat)))
        go_roundg k2
        case measure => exact Nat.lt_succ_self _
        case rel => exact ⟨i + 1, l'.drop n, xs ++ [valOf (l'.take n)], by rw [show wrap64 ((i : Int) + 1) = ((i + 1 : Nat) : Int) from by have := HI.out.1; unfold wrap64; omega], ⟨by have := HI.out.1; omega, by rw [List.length_append, HI.out.2.1]; rfl, inBytes_drop hbl n⟩, ⟨by rw [HE.out, gainsP_yes n k2 l' (by omega)]; cases gainsP n k2 (l'.drop n) <;> simp⟩, HS2⟩
end Go.Proofs.Ythpehiecmgipmaa.L
