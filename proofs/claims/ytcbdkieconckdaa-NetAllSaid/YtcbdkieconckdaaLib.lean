/- What net's inner functions, the library's (slices.Clone, Delete at api.Gram) and two of the reference's do, as contracts over memory; for every row of fewer than 2^42 datagrams. -/
import Derived.Test.YtcbdkieconckdaaLx0
import Derived.Test.YtcbdkieconckdaaOwn
import Derived.WalkSpells
import Derived.Shelf.Abstract
import Derived.Deep.RegionLaw
import Derived.Lib.ConvBytes
import Derived.Defers
import Derived.Recover
import Derived.WalkLawsBesides
import Derived.Lib.Strings
namespace Go.Proofs.Ytcbdkieconckdaa.L
set_option linter.unusedSimpArgs false
set_option linter.unusedVariables false
open Go.RowKit Go.Proofs.Ytcbdkieconckdaa.Own Go.Proofs.YtcbdkieconckdaaW.PrintWords Go.Proofs.YtcbdkieconckdaaW.PrintLast Go.Proofs.YtcbdkieconckdaaW.PrintMore

theorem zero24 (w : World) : (zeroValue 24).run Try.prog w = .ok (.agg #[.int .i64 0, .string ⟨#[]⟩, .bool false]) w := by kernel_rfl
def grams_Delete.f (l0 : List (S24)) (a1 : Int) (a2 : Int) : Option (List (S24)) := if 0 ≤ a1 ∧ a1 < (l0.length : Int) ∧ a2 = a1 + 1 then some (l0.eraseIdx a1.toNat) else none
set_option maxHeartbeats 1000000 in
theorem grams_Delete.calls (P0_ : Nat → Prop) (u9000_ : Value) (l0 : List (S24)) (a1 : Int) (a2 : Int) (r : List (S24)) (w0 w : World) (hB : Below w0.heap.size w0 w) (ho0 : Kd.R k24 24 w w0.heap.size P0_ u9000_ l0) (h : grams_Delete.f l0 a1 a2 = some r) :
    Calls Try.prog 20 #[u9000_, .int .i64 a1, .int .i64 a2] w fun e w' => ∃ v0_ : Value, e = .returned (v0_) ∧ Kd.R k24 24 w' w0.heap.size (fun k_ => (P0_ k_ ∨ w.heap.size ≤ k_)) v0_ r ∧ Below w0.heap.size w0 w' ∧ Kept w w' (fun k_ => P0_ k_) := by
  unfold grams_Delete.f at h
  by_cases hc : 0 ≤ a1 ∧ a1 < (l0.length : Int) ∧ a2 = a1 + 1
  case neg => rw [if_neg hc] at h; exact absurd h (by simp)
  rw [if_pos hc] at h
  obtain rfl := Option.some.inj h
  clear h
  obtain ⟨h0, h1, rfl⟩ := hc
  obtain ⟨k, rfl⟩ : ∃ k : Nat, a1 = k := ⟨a1.toNat, by omega⟩
  rw [Int.toNat_natCast]
  have hk : k < l0.length := by omega
  obtain ⟨g, cp, rfl, hbase, hgl, cells, hcells⟩ := Kd.R_form ho0 (by omega)
  have hok : P0_ g := ho0.1 g (by simp [Value.ownBlock])
  obtain ⟨_, hnc, hC⟩ := Kd.R_reads' ho0
  have hbig : l0.length ≤ 9223372036854775807 := hC.2.1
  have HO := Aside0.mk ho0
  have HB := Aside0.mk hB
  clear ho0 hB hC hcells cells h0 h1
  have hne : (((k : Int) == (k : Int) + 1)) = false := beq_eq_false_iff_ne.2 (by omega)
  have hu24 := Try.underlying24
  have hinfo : (Try.prog.info? 24).map (·.size) = some k24.sz := by kernel_rfl
  have HI := Aside0.mk hinfo
  clear hinfo
  have hw1 : IntKind.i64.wrap ((k : Int) + 1) = (k : Int) + 1 := by rw [IntKind.wrap_i64]; omega
  have hw2 : ((k : Int) + 1).toNat = k + 1 := by omega
  have hkc : k < cp := by omega
  have hkl : k ≤ cp := by omega
  have hki0 : 0 ≤ (k : Int) + 1 := by omega
  have hki1 : (k : Int) + 1 ≤ (l0.length : Int) := by omega
  have hk2 : k + 1 ≤ cp := by omega
  have hk1 : k + 1 ≤ l0.length := hk
  have HP := Aside0.mk hok
  clear hok
  have hl1 : 0 ≤ ((l0.length - 1 : Nat) : Int) := by omega
  have hl2 : l0.length - 1 ≤ l0.length := by omega
  have hl3 : l0.length - 1 ≤ cp := by omega
  have hl4 : ¬ cp = l0.length - 1 := by omega
  have hl5 : (cp == l0.length - 1) = false := by simp; omega
  have hl6 : ((l0.length - 1 : Nat) : Int) ≤ (l0.length : Int) := by omega
  rcases Nat.lt_or_ge (k + 1) cp with hlt | hge
  · have hck : (cp == k + 1) = false := by simp; omega
    have hck2 : ¬ cp = k + 1 := by omega
    go_enter Try.func20, Try.ntmps20
    go_wp2_with fail
    go_region_law (refine Kd.R_delete_step k24 (w0 := w0) w0.heap.size (by simp [Region.wanted]) (.tmp 22) (.tmp 25) 26 24 rfl Try.underlying26 HI.out (k := k) (n := l0.length) (c := cp) (c2 := cp - (k + 1)) (m := l0.length - (k + 1)) (A := some ⟨g, (k + 1) * 3, none⟩) (by simp [Act.eval, Act.put]) (by simp [Act.eval, Act.put]) (by rw [if_neg hck2]; simp [Addr.add, k24]; rfl) (by omega) (Kd.R_drew HO.out) (by omega) (below_drew HB.out) HB.out.size ?_; intro w1 ho1 hb1 hg1; have HO1 := Aside0.mk ho1; have HB1 := Aside0.mk hb1; have HG1 := Aside0.mk hg1; clear ho1 hb1 hg1)
    go_wp2_with (refine Kd_.R_clear k24 (w0 := w0) w0.heap.size rfl rfl (.tmp 31) 26 24 (.agg #[.int .i64 0, .string ⟨#[]⟩, .bool false]) rfl Try.underlying26 zero24 rfl (by decide) (by decide) (g := g) (n := l0.length - 1) (cap := cp) (m := l0.length - 1) (q := l0.length - (l0.length - 1)) (c2 := cp - (l0.length - 1)) (off := (l0.length - 1) * 3) (l0.eraseIdx k) P0_ rfl rfl (Nat.le_refl _) (by omega) (by omega) HO1.out HB1.out ?_; intro w5 ho5 hb5 hg5; have HO5 := Aside0.mk ho5; have HB5 := Aside0.mk hb5; have HG5 := Aside0.mk hg5; clear ho5 hb5 hg5)
    go_ret
    exact ⟨_, rfl, Kd.R_mono HO5.out (fun _ hk => .inl hk), HB5.out, Kept.of_grown HG5.out (Kept.of_grown HG1.out (Kept.drew (Kept.refl w _)) (fun z hz => by injection hz with hz; subst hz; exact .inl HP.out)) (fun z hz => by injection hz with hz; subst hz; exact .inl HP.out)⟩
  · obtain rfl : cp = k + 1 := by omega
    have hki2 : (k : Int) ≤ (k : Int) + 1 := by omega
    clear hl5
    have hl5 : (k + 1 == l0.length - 1) = false := by simp; omega
    go_enter Try.func20, Try.ntmps20
    go_wp2_with fail
    go_region_law (refine Kd.R_delete_step k24 (w0 := w0) w0.heap.size (by simp [Region.wanted]) (.tmp 22) (.tmp 25) 26 24 rfl Try.underlying26 HI.out (k := k) (n := l0.length) (c := k + 1) (c2 := 0) (m := 0) (A := some ⟨g, 0, none⟩) (by simp [Act.eval, Act.put]) (by simp [Act.eval, Act.put]) (by rw [if_pos rfl]) (by omega) (Kd.R_drew HO.out) (by omega) (below_drew HB.out) HB.out.size ?_; intro w1 ho1 hb1 hg1; have HO1 := Aside0.mk ho1; have HB1 := Aside0.mk hb1; have HG1 := Aside0.mk hg1; clear ho1 hb1 hg1)
    go_wp2_with (refine Kd_.R_clear k24 (w0 := w0) w0.heap.size rfl rfl (.tmp 31) 26 24 (.agg #[.int .i64 0, .string ⟨#[]⟩, .bool false]) rfl Try.underlying26 zero24 rfl (by decide) (by decide) (g := g) (n := l0.length - 1) (cap := k + 1) (m := l0.length - 1) (q := l0.length - (l0.length - 1)) (c2 := k + 1 - (l0.length - 1)) (off := (l0.length - 1) * 3) (l0.eraseIdx k) P0_ rfl rfl (Nat.le_refl _) (by omega) (by omega) HO1.out HB1.out ?_; intro w5 ho5 hb5 hg5; have HO5 := Aside0.mk ho5; have HB5 := Aside0.mk hb5; have HG5 := Aside0.mk hg5; clear ho5 hb5 hg5)
    go_ret
    exact ⟨_, rfl, Kd.R_mono HO5.out (fun _ hk => .inl hk), HB5.out, Kept.of_grown HG5.out (Kept.of_grown HG1.out (Kept.drew (Kept.refl w _)) (fun z hz => by injection hz with hz; subst hz; exact .inl HP.out)) (fun z hz => by injection hz with hz; subst hz; exact .inl HP.out)⟩


/-- A literal of no elements, where its block lies. -/
theorem R_lit0 {α : Type} (d : Kd α) {e g base : Nat} {W : World} {ok : Nat → Prop} (h : W.heap[g]? = some (.cells #[] e (0, 0))) (hb : base ≤ g) (hok : ok g) : d.R e W base ok (.slice (some ⟨g, 0, none⟩) 0 0) [] :=
  ⟨fun k hk => by
    have : g = k := by simpa [Value.ownBlock] using hk
    subst this; exact hok, [], ⟨by simp, .inr ⟨g, 0, #[], rfl, hb, h, Nat.le_refl _, by simp [maxLen], by simp, by simp⟩⟩, ⟨by simp, fun j p hp => by simp at hp⟩⟩

def ref_Gone.f (l0 : List (S24)) (a1 : Int) : Option (List (S24) × Int × ByteArray × Bool × Bool) := if l0.length < 4398046511104 then (if 0 ≤ a1 ∧ a1 < (l0.length : Int) then some (l0.eraseIdx a1.toNat, (rd_T24 l0 a1).f0, (rd_T24 l0 a1).f1, (rd_T24 l0 a1).f2, true) else some (l0, 0, (⟨#[]⟩ : ByteArray), false, false)) else none
set_option maxHeartbeats 1000000 in
theorem ref_Gone.calls (P0_ : Nat → Prop) (A0 : Option Addr) (c0 : Nat) (l0 : List (S24)) (a1 : Int) (r1 : List (S24)) (r2 : Int) (r3 : ByteArray) (r4 : Bool) (r5 : Bool) (w : World) (hs0 : Kd.V k24 24 w w.heap.size (fun k_ => P0_ k_) (.slice A0 l0.length c0) l0) (h : ref_Gone.f l0 a1 = some (r1, r2, r3, r4, r5)) :
    Calls Try.prog 10 #[.slice A0 l0.length c0, .int .i64 a1] w fun e w' => ∃ v0_ : Value, e = .returned (.tuple #[v0_, .agg #[.int .i64 r2, .string r3, .bool r4], .bool r5]) ∧ Kd.V k24 24 w' w.heap.size (fun k_ => (P0_ k_ ∨ w.heap.size ≤ k_)) v0_ r1 ∧ Below w.heap.size w w' := by
  unfold ref_Gone.f at h
  by_cases hl : l0.length < 4398046511104
  case neg => rw [if_neg hl] at h; exact absurd h (by simp)
  rw [if_pos hl] at h
  have hu24 := Try.underlying24
  have HV := Aside0.mk hs0
  have hbig : l0.length ≤ 9223372036854775807 := by omega
  by_cases hc : 0 ≤ a1 ∧ a1 < (l0.length : Int)
  case neg =>
    rw [if_neg hc] at h
    simp only [Option.some.injEq, Prod.mk.injEq] at h
    obtain ⟨rfl, rfl, rfl, rfl, rfl⟩ := h
    clear hs0
    rcases Int.lt_or_le a1 0 with h0 | h0
    · have hd : decide (a1 < 0) = true := decide_eq_true h0
      clear hc h0
      go_enter Try.func10, Try.ntmps10
      go_wp2
      refine bodyPost_ret (v := .tuple #[.slice A0 l0.length c0, .agg #[.int .i64 0, .string ⟨#[]⟩, .bool false], .bool false]) (by simp [results, Try.results10, go_sem]) rfl ⟨_, rfl, Kd.V_mono (Kd.V_alloc HV.out _) (fun _ h => .inl h), (Below.refl _ _).alloc (Nat.le_refl _) _⟩
    · have hd : decide (a1 < 0) = false := decide_eq_false (by omega)
      have hd2 : decide ((l0.length : Int) ≤ a1) = true := decide_eq_true (by omega)
      clear hc h0
      go_enter Try.func10, Try.ntmps10
      go_wp2
      refine bodyPost_ret (v := .tuple #[.slice A0 l0.length c0, .agg #[.int .i64 0, .string ⟨#[]⟩, .bool false], .bool false]) (by simp [results, Try.results10, go_sem]) rfl ⟨_, rfl, Kd.V_mono (Kd.V_alloc HV.out _) (fun _ h => .inl h), (Below.refl _ _).alloc (Nat.le_refl _) _⟩
  rw [if_pos hc] at h
  simp only [Option.some.injEq, Prod.mk.injEq] at h
  obtain ⟨rfl, rfl, rfl, rfl, rfl⟩ := h
  obtain ⟨h0, h1⟩ := hc
  obtain ⟨k, rfl⟩ : ∃ k : Nat, a1 = k := ⟨a1.toNat, by omega⟩
  have hk : k < l0.length := by omega
  obtain ⟨_, hlc, hC⟩ := Kd.V_reads' hs0
  obtain ⟨ad, e, hx0, hx1, hx2⟩ := at_T24 hC (k : Int) h0 h1
  cases e
  rw [Int.toNat_natCast] at hx0 hx1 hx2
  have hadw : ad.block < w.heap.size := by
    have := World.block_lt_of_cell? w _ hx0
    rwa [add_block] at this
  have hC0 := hC
  clear hs0 hC
  have hd1 : decide ((k : Int) < 0) = false := decide_eq_false (by omega)
  have hd2 : decide ((l0.length : Int) ≤ (k : Int)) = false := decide_eq_false (by omega)
  have hT : Kd.C k24 w (some ad) k (l0.take k) := by
    have := Kd.C_take (m := k) hC0 (by omega)
    rwa [show (l0.take k).length = k from by rw [List.length_take]; omega] at this
  have hDr : Kd.C k24 w (if c0 = k + 1 then some ad else some (ad.add ((k + 1) * 3))) (l0.length - (k + 1)) (l0.drop (k + 1)) := by
    have := Kd.C_drop (m := k + 1) hC0 (by omega) hlc
    rwa [List.length_drop] at this
  have hbw : Below w.heap.size w (((w.alloc (.cells #[.int .i64 0, .string ⟨#[]⟩, .bool false] 24)).alloc (.cells #[] 24))).drew := below_drew (below_alloc (below_alloc (Below.refl _ _) _) _)
  have hbk : ((w.alloc (.cells #[.int .i64 0, .string ⟨#[]⟩, .bool false] 24)).alloc (.cells #[] 24)).drew.heap[w.heap.size]? = some (.cells #[.int .i64 0, .string ⟨#[]⟩, .bool false] 24 (0, 0)) := blk_alloc (heap_alloc_new w _) _
  have he : ((w.alloc (.cells #[.int .i64 0, .string ⟨#[]⟩, .bool false] 24)).alloc (.cells #[] 24)).heap[w.heap.size + 1]? = some (.cells #[] 24 (0, 0)) := by
    have h_ := heap_alloc_new (w.alloc (.cells #[.int .i64 0, .string ⟨#[]⟩, .bool false] 24)) (.cells #[] 24)
    rwa [show (w.alloc (.cells #[.int .i64 0, .string ⟨#[]⟩, .bool false] 24)).heap.size = w.heap.size + 1 from by simp] at h_
  have hbw0 : Below w.heap.size w ((w.alloc (.cells #[.int .i64 0, .string ⟨#[]⟩, .bool false] 24)).drew) := below_drew (below_alloc (Below.refl _ _) _)
  have hp0 := (hbw0.cell (World.block_lt_of_cell? w _ hx0)).trans hx0
  have hq0 := (hbw.cell (World.block_lt_of_cell? w _ hx0)).trans hx0
  have hp1 := (hbw0.cell (World.block_lt_of_cell? w _ hx1)).trans hx1
  have hq1 := (hbw.cell (World.block_lt_of_cell? w _ hx1)).trans hx1
  have hp2 := (hbw0.cell (World.block_lt_of_cell? w _ hx2)).trans hx2
  have hq2 := (hbw.cell (World.block_lt_of_cell? w _ hx2)).trans hx2
  clear hbw0
  have HT := Aside0.mk hT
  have HBW := Aside0.mk hbw
  have HBK := Aside0.mk hbk
  have HE := Aside0.mk he
  have hne0 : some w.heap.size ≠ (Value.slice (some ⟨w.heap.size + 1, 0, none⟩) 0 0).ownBlock := by
    intro e
    injection e with e
    have : w.heap.size = w.heap.size + 1 := e
    omega
  have HNE := Aside0.mk hne0
  clear hne0
  have HX0 := Aside0.mk hx0
  have HX1 := Aside0.mk hx1
  have HX2 := Aside0.mk hx2
  clear hT hbw hbk he hC0
  have hkc : k ≤ c0 := by omega
  have hw1 : IntKind.i64.wrap ((k : Int) + 1) = (k : Int) + 1 := by rw [IntKind.wrap_i64]; omega
  have hw2 : ((k : Int) + 1).toNat = k + 1 := by omega
  have hki0 : 0 ≤ (k : Int) + 1 := by omega
  have hki1 : (k : Int) + 1 ≤ (l0.length : Int) := by omega
  have hk1 : k + 1 ≤ l0.length := hk
  by_cases hck : c0 = k + 1
  · subst hck
    rw [if_pos rfl, show l0.length - (k + 1) = 0 from by omega] at hDr
    have HDr := Aside0.mk hDr
    clear hDr
    have hki2 : (k : Int) ≤ (k : Int) + 1 := by omega
    go_enter Try.func10, Try.ntmps10
    go_wp2
    go_region_law (first
      | (refine Kd.R_append_rows_step k24 (w0 := w) w.heap.size ?_ (.tmp 17) (.tmp 20) 26 24 (.agg #[(.int .i64 0), (.string ⟨#[]⟩), (.bool false)]) 32 rfl Try.underlying26 info24 rfl ?_ ?_ (.slice (some ⟨w.heap.size + 1, 0, none⟩) 0 0) [] (l0.take k) (some ad) k (k + 1) (fun z => w.heap.size < z) (fun _ => False) ?_ ?_ ?_ ?_ (fun _ _ h => h) (fun _ h => h.elim) ?_ ?_ ?_ ?_ ?_; (· simp [Region.wanted]); (· decide); (· omega); (· simp [Act.eval, Act.put]); (· simp [Act.eval, Act.put]); (· exact R_lit0 _ HE.out (Nat.le_succ _) (Nat.lt_succ_self _)); (· exact Kd.C_below HT.out HBW.out); (· intro z hz; simp at hz; omega); (· exact HBW.out); (· exact HBW.out.size); (· simp; omega); intro v1 w1 ho1 hb1 hg1 _; have hy0 := (hb1.cell (World.block_lt_of_cell? w _ HX0.out)).trans HX0.out; have hy1 := (hb1.cell (World.block_lt_of_cell? w _ HX1.out)).trans HX1.out; have hy2 := (hb1.cell (World.block_lt_of_cell? w _ HX2.out)).trans HX2.out; have HK1 := Aside0.mk ((hg1.block w.heap.size (blk_lt HBK.out) HNE.out).trans HBK.out); obtain ⟨A1, c1, rfl⟩ := Kd.R_slice ho1; have HO1 := Aside0.mk ho1; have HB1 := Aside0.mk hb1; clear ho1 hb1 hg1)
      | (refine Kd.R_append_rows_step k24 (w0 := w) w.heap.size ?_ (.tmp 21) (.tmp 25) 26 24 (.agg #[(.int .i64 0), (.string ⟨#[]⟩), (.bool false)]) 32 rfl Try.underlying26 info24 rfl ?_ ?_ (.slice A1 ([] ++ l0.take k).length c1) ([] ++ l0.take k) (l0.drop (k + 1)) (some ad) (0) (0) (fun z => w.heap.size < z) (fun _ => False) ?_ ?_ ?_ ?_ (fun _ _ h => h) (fun _ h => h.elim) ?_ ?_ ?_ ?_ ?_; (· simp [Region.wanted]); (· decide); (· omega); (· simp [Act.eval, Act.put]); (· simp [Act.eval, Act.put]); (· exact HO1.out); (· exact Kd.C_below HDr.out HB1.out); (· exact fun z hz => Nat.lt_of_lt_of_le (blk_lt HK1.out) hz); (· exact HB1.out); (· exact HB1.out.size); (· simp; omega); intro v2 w2 ho2 hb2 hg2 _; have hz0 := (hb2.cell (World.block_lt_of_cell? w _ HX0.out)).trans HX0.out; have hz1 := (hb2.cell (World.block_lt_of_cell? w _ HX1.out)).trans HX1.out; have hz2 := (hb2.cell (World.block_lt_of_cell? w _ HX2.out)).trans HX2.out; have HK2 := Aside0.mk (blk_grown (g := w.heap.size) HK1.out hg2 (Kd.R_away HO1.out (fun z hz => by omega))); have hr0 : w2.cell? ⟨w.heap.size, 0, none⟩ = some (.int .i64 0) := (blk_cell HK2.out 0).trans rfl; have hr1 : w2.cell? ⟨w.heap.size, 1, none⟩ = some (.string ⟨#[]⟩) := (blk_cell HK2.out 1).trans rfl; have hr2 : w2.cell? ⟨w.heap.size, 2, none⟩ = some (.bool false) := (blk_cell HK2.out 2).trans rfl; have hf0 := blk_frozen HK2.out 0; have hf1 := blk_frozen HK2.out 1; have hf2 := blk_frozen HK2.out 2; have HO2 := Aside0.mk ho2; have HB2 := Aside0.mk hb2; clear ho2 hb2 hg2))
    all_goals
      go_wp2
      refine bodyPost_ret (results_list (rs := [.tmp 4, .cell 5 24, .tmp 6]) rfl (by simp) (.tmp (.cell w.heap.size 24 #[.int .i64 ((rd_T24 l0 (k : Int)).f0), .string ((rd_T24 l0 (k : Int)).f1), .bool ((rd_T24 l0 (k : Int)).f2)] (0, 0) _ rfl (by refine blk_put (cs := #[.int .i64 ((rd_T24 l0 (k : Int)).f0), .string ((rd_T24 l0 (k : Int)).f1), .bool false]) ?_ 2 _ rfl; refine blk_put (cs := #[.int .i64 ((rd_T24 l0 (k : Int)).f0), .string ⟨#[]⟩, .bool false]) ?_ 1 _ rfl; refine blk_put (cs := #[.int .i64 0, .string ⟨#[]⟩, .bool false]) ?_ 0 _ rfl; exact HK2.out) Try.underlying24 rfl (by kernel_rfl) (.tmp .nil)))) rfl ?_
      have hR := Kd.R_far (p := ⟨w.heap.size, 2, none⟩) (Kd.R_far (p := ⟨w.heap.size, 1, none⟩) (Kd.R_far (p := ⟨w.heap.size, 0, none⟩) HO2.out (fun z hz => by simp only; omega) (.int .i64 ((rd_T24 l0 (k : Int)).f0))) (fun z hz => by simp only; omega) (.string ((rd_T24 l0 (k : Int)).f1))) (fun z hz => by simp only; omega) (.bool ((rd_T24 l0 (k : Int)).f2))
      rw [Int.toNat_natCast, List.eraseIdx_eq_take_drop_succ]
      exact ⟨_, rfl, Kd.V_mono (Kd.R_V hR) (fun z hz => .inr (Nat.le_of_lt hz)), ((HB2.out.setCell (Nat.le_refl _) _).setCell (Nat.le_refl _) _).setCell (Nat.le_refl _) _⟩
  · rw [if_neg hck] at hDr
    have HDr := Aside0.mk hDr
    clear hDr
    have hck2 : (c0 == k + 1) = false := by simp; omega
    go_enter Try.func10, Try.ntmps10
    go_wp2
    go_region_law (first
      | (refine Kd.R_append_rows_step k24 (w0 := w) w.heap.size ?_ (.tmp 17) (.tmp 20) 26 24 (.agg #[(.int .i64 0), (.string ⟨#[]⟩), (.bool false)]) 32 rfl Try.underlying26 info24 rfl ?_ ?_ (.slice (some ⟨w.heap.size + 1, 0, none⟩) 0 0) [] (l0.take k) (some ad) k c0 (fun z => w.heap.size < z) (fun _ => False) ?_ ?_ ?_ ?_ (fun _ _ h => h) (fun _ h => h.elim) ?_ ?_ ?_ ?_ ?_; (· simp [Region.wanted]); (· decide); (· omega); (· simp [Act.eval, Act.put]); (· simp [Act.eval, Act.put]); (· exact R_lit0 _ HE.out (Nat.le_succ _) (Nat.lt_succ_self _)); (· exact Kd.C_below HT.out HBW.out); (· intro z hz; simp at hz; omega); (· exact HBW.out); (· exact HBW.out.size); (· simp; omega); intro v1 w1 ho1 hb1 hg1 _; have hy0 := (hb1.cell (World.block_lt_of_cell? w _ HX0.out)).trans HX0.out; have hy1 := (hb1.cell (World.block_lt_of_cell? w _ HX1.out)).trans HX1.out; have hy2 := (hb1.cell (World.block_lt_of_cell? w _ HX2.out)).trans HX2.out; have HK1 := Aside0.mk ((hg1.block w.heap.size (blk_lt HBK.out) HNE.out).trans HBK.out); obtain ⟨A1, c1, rfl⟩ := Kd.R_slice ho1; have HO1 := Aside0.mk ho1; have HB1 := Aside0.mk hb1; clear ho1 hb1 hg1)
      | (refine Kd.R_append_rows_step k24 (w0 := w) w.heap.size ?_ (.tmp 21) (.tmp 25) 26 24 (.agg #[(.int .i64 0), (.string ⟨#[]⟩), (.bool false)]) 32 rfl Try.underlying26 info24 rfl ?_ ?_ (.slice A1 ([] ++ l0.take k).length c1) ([] ++ l0.take k) (l0.drop (k + 1)) (some (ad.add ((k + 1) * 3))) (l0.length - (k + 1)) (c0 - (k + 1)) (fun z => w.heap.size < z) (fun _ => False) ?_ ?_ ?_ ?_ (fun _ _ h => h) (fun _ h => h.elim) ?_ ?_ ?_ ?_ ?_; (· simp [Region.wanted]); (· decide); (· omega); (· simp [Act.eval, Act.put]); (· simp [Act.eval, Act.put]); (· exact HO1.out); (· exact Kd.C_below HDr.out HB1.out); (· exact fun z hz => Nat.lt_of_lt_of_le (blk_lt HK1.out) hz); (· exact HB1.out); (· exact HB1.out.size); (· simp; omega); intro v2 w2 ho2 hb2 hg2 _; have hz0 := (hb2.cell (World.block_lt_of_cell? w _ HX0.out)).trans HX0.out; have hz1 := (hb2.cell (World.block_lt_of_cell? w _ HX1.out)).trans HX1.out; have hz2 := (hb2.cell (World.block_lt_of_cell? w _ HX2.out)).trans HX2.out; have HK2 := Aside0.mk (blk_grown (g := w.heap.size) HK1.out hg2 (Kd.R_away HO1.out (fun z hz => by omega))); have hr0 : w2.cell? ⟨w.heap.size, 0, none⟩ = some (.int .i64 0) := (blk_cell HK2.out 0).trans rfl; have hr1 : w2.cell? ⟨w.heap.size, 1, none⟩ = some (.string ⟨#[]⟩) := (blk_cell HK2.out 1).trans rfl; have hr2 : w2.cell? ⟨w.heap.size, 2, none⟩ = some (.bool false) := (blk_cell HK2.out 2).trans rfl; have hf0 := blk_frozen HK2.out 0; have hf1 := blk_frozen HK2.out 1; have hf2 := blk_frozen HK2.out 2; have HO2 := Aside0.mk ho2; have HB2 := Aside0.mk hb2; clear ho2 hb2 hg2))
    all_goals
      go_wp2
      refine bodyPost_ret (results_list (rs := [.tmp 4, .cell 5 24, .tmp 6]) rfl (by simp) (.tmp (.cell w.heap.size 24 #[.int .i64 ((rd_T24 l0 (k : Int)).f0), .string ((rd_T24 l0 (k : Int)).f1), .bool ((rd_T24 l0 (k : Int)).f2)] (0, 0) _ rfl (by refine blk_put (cs := #[.int .i64 ((rd_T24 l0 (k : Int)).f0), .string ((rd_T24 l0 (k : Int)).f1), .bool false]) ?_ 2 _ rfl; refine blk_put (cs := #[.int .i64 ((rd_T24 l0 (k : Int)).f0), .string ⟨#[]⟩, .bool false]) ?_ 1 _ rfl; refine blk_put (cs := #[.int .i64 0, .string ⟨#[]⟩, .bool false]) ?_ 0 _ rfl; exact HK2.out) Try.underlying24 rfl (by kernel_rfl) (.tmp .nil)))) rfl ?_
      have hR := Kd.R_far (p := ⟨w.heap.size, 2, none⟩) (Kd.R_far (p := ⟨w.heap.size, 1, none⟩) (Kd.R_far (p := ⟨w.heap.size, 0, none⟩) HO2.out (fun z hz => by simp only; omega) (.int .i64 ((rd_T24 l0 (k : Int)).f0))) (fun z hz => by simp only; omega) (.string ((rd_T24 l0 (k : Int)).f1))) (fun z hz => by simp only; omega) (.bool ((rd_T24 l0 (k : Int)).f2))
      rw [Int.toNat_natCast, List.eraseIdx_eq_take_drop_succ]
      exact ⟨_, rfl, Kd.V_mono (Kd.R_V hR) (fun z hz => .inr (Nat.le_of_lt hz)), ((HB2.out.setCell (Nat.le_refl _) _).setCell (Nat.le_refl _) _).setCell (Nat.le_refl _) _⟩


section
variable {P : Program} {ops : Array Oper} {rest : List Oper} {o : Oper} {a : Act} {Q : Exit → Act → World → Prop}
/-- '[]byte(s)': a new row of its bytes. -/
theorem bytes_event {W : World} (hgd : o.guard = none) (src dst : TypeId) (x : Operand) (ho : o.op = .convert src dst x) (e : TypeId) (s : ByteArray) {u : TypeDesc}
    (hs : P.underlying src = some u) (hd : P.underlying dst = some (.slice e)) (he : P.underlying e = some (.int .u8)) (hx : a.eval x = .string s)
    (h : ∀ (w1 : World) (c : Nat), s.size ≤ c → Below W.heap.size W w1 → W.heap.size < w1.heap.size → (∀ j, j < s.size → w1.cell? ⟨W.heap.size, j, none⟩ = some (.int .u8 (bt s (j : Int))) ∧ w1.frozen? ⟨W.heap.size, j, none⟩ = false) →
      wpList P ops Q rest (a.put o.dst (.slice (some ⟨W.heap.size, 0, none⟩) s.size c)) w1) : wpList P ops Q (o :: rest) a W := by
  have hb : Below W.heap.size W (Lib.bytesWorld W e s) := by
    refine ⟨by rfl, by rfl, by rfl, by rw [Lib.bytesWorld_size]; omega, fun k hk => Lib.bytesWorld_at_old W e s k hk⟩
  refine wpList_plain hgd fun K hK => ?_
  unfold Oper.wp execOp
  simp only [ho, hx, Sem.run_bind, Sem.run_pure, Result.andThen_ok, Lib.run_convert_string_bytes W src dst e s hs hd he]
  refine hK _ _ (h _ _ ?_ hb (by rw [Lib.bytesWorld_size]; omega) (fun j hj => ⟨?_, ?_⟩))
  · exact grownCap_ge W s.size 0 e
  · rw [Lib.bytesWorld_cell W e s j hj]
    unfold bt
    rw [Int.toNat_natCast, dif_pos hj]
    have : s.data.toList.getD j 0 = s[j] := by
      rw [List.getD_eq_getElem?_getD, Array.getElem?_toList, Array.getElem?_eq_getElem hj]; rfl
    rw [this]
  · have h1 := Lib.bytesWorld_at_new W e s
    have h2 : s.size ≤ (Lib.bytesCells W e s).size := by
      simp [Lib.bytesCells]
    simp [World.frozen?, h1]
    omega
end

def turnsP (g : S24) (n : Int) : Option S24 := if g.f2 = true ∨ g.f1.size = 0 ∨ n < 0 ∨ n % 256 = 0 then none else some ⟨g.f0, strOfNums ((bytesOf g.f1).set (n / 256 % (g.f1.size : Int)).toNat (Go.bits .xor .u8 (bt g.f1 (n / 256 % (g.f1.size : Int))) (n % 256))), true⟩
def ref_Turned.f (l0 : List (S24)) (a1 : Int) (a2 : Int) : Option (List (S24) × Bool) := if l0.length < 4398046511104 ∧ a2 ≤ 9223372036854775807 ∧ (rd_T24 l0 a1).f1.size ≤ 1000000 then (if 0 ≤ a1 ∧ a1 < (l0.length : Int) then (match turnsP (rd_T24 l0 a1) a2 with | some g => some (l0.set a1.toNat g, true) | none => some (l0, false)) else some (l0, false)) else none
set_option maxHeartbeats 2000000 in
theorem ref_Turned_no (P0_ : Nat → Prop) (A0 : Option Addr) (c0 : Nat) (l0 : List (S24)) (a1 : Int) (a2 : Int) (w : World) (hs0 : Kd.V k24 24 w w.heap.size (fun k_ => P0_ k_) (.slice A0 l0.length c0) l0)
    (hno : (0 ≤ a1 ∧ a1 < (l0.length : Int)) → turnsP (rd_T24 l0 a1) a2 = none) :
    Calls Try.prog 15 #[.slice A0 l0.length c0, .int .i64 a1, .int .i64 a2] w fun e w' => ∃ v0_ : Value, e = .returned (.tuple #[v0_, .bool false]) ∧ Kd.V k24 24 w' w.heap.size (fun k_ => (P0_ k_ ∨ w.heap.size ≤ k_)) v0_ l0 ∧ Below w.heap.size w w' := by
  have hu24 := Try.underlying24
  have HV := Aside0.mk hs0
  rcases Int.lt_or_le a1 0 with h0 | h0
  · have hd : decide (a1 < 0) = true := decide_eq_true h0
    clear hs0 hno h0
    go_enter Try.func15, Try.ntmps15
    go_wp2
    go_ret2
    exact ⟨_, rfl, Kd.V_mono HV.out (fun _ h => .inl h), Below.refl _ _⟩
  have hd : decide (a1 < 0) = false := decide_eq_false (by omega)
  rcases Int.lt_or_le a1 (l0.length : Int) with h1 | h1
  case inr =>
    have hd2 : decide ((l0.length : Int) ≤ a1) = true := decide_eq_true (by omega)
    clear hs0 hno h0 h1
    go_enter Try.func15, Try.ntmps15
    go_wp2
    go_ret2
    exact ⟨_, rfl, Kd.V_mono HV.out (fun _ h => .inl h), Below.refl _ _⟩
  have hd2 : decide ((l0.length : Int) ≤ a1) = false := decide_eq_false (by omega)
  have hn := hno ⟨h0, h1⟩
  clear hno
  obtain ⟨_, hlc, hC⟩ := Kd.V_reads' hs0
  obtain ⟨ad, e, hx0, hx1, hx2⟩ := at_T24 hC a1 h0 h1
  cases e
  have hbig : l0.length ≤ 9223372036854775807 := hC.2.1
  clear hs0 hC
  unfold turnsP at hn
  have hcs : (rd_T24 l0 a1).f2 = true ∨ (rd_T24 l0 a1).f1.size = 0 ∨ a2 < 0 ∨ a2 % 256 = 0 := by
    rcases Classical.em ((rd_T24 l0 a1).f2 = true ∨ (rd_T24 l0 a1).f1.size = 0 ∨ a2 < 0 ∨ a2 % 256 = 0) with h | h
    · exact h
    · rw [if_neg h] at hn; exact absurd hn (by simp)
  clear hn
  generalize hF : (rd_T24 l0 a1).f2 = F2 at *
  generalize hS : (rd_T24 l0 a1).f1 = F1 at *
  generalize hN : (rd_T24 l0 a1).f0 = F0 at *
  clear hF hS hN
  cases F2 with
  | true =>
    clear hcs
    go_enter Try.func15, Try.ntmps15
    go_wp2
    go_ret2
    exact ⟨_, rfl, Kd.V_mono HV.out (fun _ h => .inl h), Below.refl _ _⟩
  | false =>
    rcases Nat.eq_zero_or_pos F1.size with hz | hz
    · have hd3 : (((F1.size : Int)) == 0) = true := by simp [hz]
      clear hcs hz
      go_enter Try.func15, Try.ntmps15
      go_wp2
      go_ret2
      exact ⟨_, rfl, Kd.V_mono HV.out (fun _ h => .inl h), Below.refl _ _⟩
    have hd3 : (((F1.size : Int)) == 0) = false := beq_eq_false_iff_ne.2 (by omega)
    rcases Int.lt_or_le a2 0 with h2 | h2
    · have hd4 : decide (a2 < 0) = true := decide_eq_true h2
      clear hcs hz h2
      go_enter Try.func15, Try.ntmps15
      go_wp2
      go_ret2
      exact ⟨_, rfl, Kd.V_mono HV.out (fun _ h => .inl h), Below.refl _ _⟩
    have hd4 : decide (a2 < 0) = false := decide_eq_false (by omega)
    have hd5 : ((a2 % 256) == 0) = true := by
      have : a2 % 256 = 0 := by
        rcases hcs with h | h | h | h
        · simp at h
        · omega
        · omega
        · exact h
      simp [this]
    clear hcs hz
    go_enter Try.func15, Try.ntmps15
    go_wp2
    go_ret2
    exact ⟨_, rfl, Kd.V_mono HV.out (fun _ h => .inl h), Below.refl _ _⟩


/-- A byte of a new row of bytes is written: it reads as the list with that one changed. -/
theorem C_bytes_set {w : World} {g m : Nat} {s : ByteArray} {v : Int} (hb : s.size ≤ 9223372036854775807) (hm : m < s.size) (h : ∀ j, j < s.size → w.cell? ⟨g, j, none⟩ = some (.int .u8 (bt s (j : Int))) ∧ w.frozen? ⟨g, j, none⟩ = false) :
    Kd.C (Kd.int .u8) (w.setCell ⟨g, m, none⟩ (.int .u8 v)) (some ⟨g, 0, none⟩) s.size ((bytesOf s).set m v) := by
  refine ⟨by simp [bytesOf], hb, fun _ => ⟨⟨g, 0, none⟩, rfl, fun j p hj => ?_⟩⟩
  have hj' : j < s.size := by
    have := (List.getElem?_eq_some_iff.1 hj).1
    simpa [bytesOf] using this
  refine ⟨[.int .u8 p], rfl, rfl, fun i u hu => ?_⟩
  obtain ⟨rfl, rfl⟩ : i = 0 ∧ u = .int .u8 p := by
    cases i with
    | zero => simpa using hu.symm
    | succ i => simp at hu
  have e : (⟨g, 0, none⟩ : Addr).add (j * (Kd.int .u8).sz + 0) = ⟨g, j, none⟩ := by
    rw [show j * (Kd.int .u8).sz + 0 = j from by show j * 1 + 0 = j; omega]
    unfold Addr.add
    by_cases h0 : j = 0 <;> simp [h0]
  rw [e]
  rw [List.getElem?_set] at hj
  by_cases hjm : m = j
  · subst hjm
    rw [if_pos rfl, if_pos (by simpa [bytesOf] using hj')] at hj
    obtain rfl := Option.some.inj hj
    have hc := (h m hj').1
    exact World.cell?_setCell_same w ⟨g, m, none⟩ _ hc
  · rw [if_neg hjm] at hj
    rw [World.cell?_setCell_other w ⟨g, m, none⟩ ⟨g, j, none⟩ _ (by intro e; injection e with _ e; exact hjm e), (h j hj').1]
    have : bt s (j : Int) = p := by
      unfold bt
      rw [Int.toNat_natCast, dif_pos hj']
      have h2 : (bytesOf s)[j]? = some (s[j].toNat : Int) := by
        simp [bytesOf, hj']; rfl
      rw [h2] at hj
      exact Option.some.inj hj
    rw [this]

set_option maxHeartbeats 2000000 in
theorem ref_Turned_yes (A0 : Option Addr) (c0 : Nat) (l0 : List (S24)) (k : Nat) (a2 : Int) (g : S24) (w : World) (hC : Kd.C k24 w A0 l0.length l0) (hlc : l0.length ≤ c0) (hl : l0.length < 4398046511104) (hk : k < l0.length) (ha2 : a2 ≤ 9223372036854775807) (hbs : (rd_T24 l0 (k : Int)).f1.size ≤ 1000000)
    (hg : turnsP (rd_T24 l0 (k : Int)) a2 = some g) :
    Calls Try.prog 15 #[.slice A0 l0.length c0, .int .i64 (k : Int), .int .i64 a2] w fun e w' => ∃ v0_ : Value, e = .returned (.tuple #[v0_, .bool true]) ∧ Kd.R k24 24 w' w.heap.size (fun _ => True) v0_ (l0.set k g) ∧ Below w.heap.size w w' := by
  have hu24 := Try.underlying24
  obtain ⟨ad, e, hx0, hx1, hx2⟩ := at_T24 hC (k : Int) (by omega) (by omega)
  cases e
  rw [Int.toNat_natCast] at hx0 hx1 hx2
  have hbig : l0.length ≤ 9223372036854775807 := hC.2.1
  have HC := Aside0.mk hC
  clear hC
  have hd : decide ((k : Int) < 0) = false := decide_eq_false (by omega)
  have hd2 : decide ((l0.length : Int) ≤ (k : Int)) = false := decide_eq_false (by omega)
  unfold turnsP at hg
  have hcs : ¬ ((rd_T24 l0 (k : Int)).f2 = true ∨ (rd_T24 l0 (k : Int)).f1.size = 0 ∨ a2 < 0 ∨ a2 % 256 = 0) := by
    intro h
    rw [if_pos h] at hg; exact absurd hg (by simp)
  rw [if_neg hcs] at hg
  generalize hF : (rd_T24 l0 (k : Int)).f2 = F2 at hg hcs hx2
  generalize hS : (rd_T24 l0 (k : Int)).f1 = F1 at hg hcs hx1 hbs
  generalize hN : (rd_T24 l0 (k : Int)).f0 = F0 at hg hx0
  obtain rfl : F2 = false := by cases F2 with | true => exact absurd (Or.inl rfl) hcs | false => rfl
  have hE : rd_T24 l0 (k : Int) = ⟨F0, F1, false⟩ := by
    rw [← hF, ← hS, ← hN]
  have HE := Aside0.mk hE
  clear hF hS hN hE
  have hsz : 0 < F1.size := by omega
  have h2 : 0 ≤ a2 := by omega
  have hnz : ¬ a2 % 256 = 0 := fun h => hcs (.inr (.inr (.inr h)))
  clear hcs
  have hd3 : (((F1.size : Int)) == 0) = false := beq_eq_false_iff_ne.2 (by omega)
  have hd4 : decide (a2 < 0) = false := decide_eq_false (by omega)
  have hd5 : ((a2 % 256) == 0) = false := beq_eq_false_iff_ne.2 hnz
  clear hnz
  have hd6 : decide (l0.length ≤ k) = false := decide_eq_false (by omega)
  obtain ⟨m, hm⟩ : ∃ m : Nat, a2 / 256 % (F1.size : Int) = (m : Int) := ⟨(a2 / 256 % (F1.size : Int)).toNat, by have := Int.emod_nonneg (a2 / 256) (by omega : (F1.size : Int) ≠ 0); omega⟩
  have hmlt : m < F1.size := by have := Int.emod_lt_of_pos (a2 / 256) (by omega : (0 : Int) < (F1.size : Int)); omega
  rw [hm, Int.toNat_natCast] at hg
  have HG := Aside0.mk (Option.some.inj hg)
  clear hg
  have h256 : 0 ≤ a2 / 256 := by omega
  go_enter Try.func15, Try.ntmps15
  go_wp2_with (first
    | ((with_reducible refine gate_dst (N := 45) rfl ?_); refine Kd.R_lit k24 _ 24 ?hg (N := 45) ?hd (xs := ([] : List (S24))) (inner := []) (ok := fun _ => True) (okp := fun _ => True) ?hr ?hp (fun _ hk => hk) trivial (Below.refl _ _) (Nat.le_refl _) (by simp) ?_; (case hd => rfl); (case hg => rfl); (case hr => first | (go_simp; done) | (go_simp; rfl)); (case hp => exact (Reps.none _ _)); intro v138 w12 ho13 hb hg_ hnew_; clear hg_ hnew_; have HO := Aside0.mk ho13; have HB2 := Aside0.mk hb; clear ho13 hb)
    | ((with_reducible refine gate_builtin (b := .append) (xs := #[.tmp 45, .tmp 46]) rfl ?_); at_builtin; refine Kd.R_append_rows k24 (w0 := w) w.heap.size rfl (.tmp 45) (.tmp 46) 26 24 (.agg #[(.int .i64 0), (.string ⟨#[]⟩), (.bool false)]) 32 rfl Try.underlying26 info24 rfl (by decide) (by omega) v138 [] l0 _ _ _ (fun _ => True) (fun _ => False) rfl rfl ?aO ?aR (fun _ _ h => h) (fun _ h => h.elim) ?aF ?aB ?aS ?aL ?_; (case aR => exact Kd.C_below HC.out HB2.out); (case aB => exact HB2.out); (case aF => exact (fun _ _ => trivial)); (case aO => exact HO.out); (case aS => exact below_size HB2.out); (case aL => simp; omega); intro v141 w14 ho hb hg hat; clear hg hat; rw [List.nil_append] at ho; have hy0 := (hb.cell (World.block_lt_of_cell? w _ hx0)).trans hx0; have hy1 := (hb.cell (World.block_lt_of_cell? w _ hx1)).trans hx1; have hy2 := (hb.cell (World.block_lt_of_cell? w _ hx2)).trans hx2; obtain ⟨gr, cr, ev, hgb, hgl, cells, hcells⟩ := Kd.R_form ho (by omega); subst ev; have HO' := Aside0.mk ho; have HB' := Aside0.mk hb; clear ho hb hcells cells)
    | ((with_reducible refine gate_dst (N := 53) rfl ?_); refine bytes_event rfl 9 28 (.tmp 52) rfl 5 F1 Try.underlying9 Try.underlying28 Try.underlying5 rfl ?_; intro w15 cb hcb hb hlt hat; have HAT := Aside0.mk hat; have HB3 := Aside0.mk hb; have hz0 := (hat m hmlt).1; have hz1 := (hat m hmlt).2; have hcv := Kd.C_string (P := Try.prog) (src := 28) (dst := 9) (c := cb) Try.underlying28 Try.underlying5 Try.underlying9 (C_bytes_set (v := Go.bits .xor .u8 (bt F1 (m : Int)) (a2 % 256)) (by omega) hmlt hat); obtain ⟨ce, hcl, hM, hcc, hfr⟩ := Kd.R_elem HO'.out z24 (k : Int) (by omega) (by omega); obtain rfl := k24_openM hM; have hc0 : w15.cell? ⟨gr, k * 3, none⟩ = some _ := (hb.cell (p := ⟨gr, k * 3, none⟩) hgl).trans (hcc 0 _ rfl); have hc1 : w15.cell? ⟨gr, k * 3 + 1, none⟩ = some _ := (hb.cell (p := ⟨gr, k * 3 + 1, none⟩) hgl).trans (hcc 1 _ rfl); have hc2 : w15.cell? ⟨gr, k * 3 + 2, none⟩ = some _ := (hb.cell (p := ⟨gr, k * 3 + 2, none⟩) hgl).trans (hcc 2 _ rfl); have hf1 : w15.frozen? ⟨gr, k * 3 + 1, none⟩ = false := (hb.frozen (p := ⟨gr, k * 3 + 1, none⟩) hgl).trans (hfr 1); have hf2 : w15.frozen? ⟨gr, k * 3 + 2, none⟩ = false := (hb.frozen (p := ⟨gr, k * 3 + 2, none⟩) hgl).trans (hfr 2); have hgn : gr ≠ w14.heap.size := Nat.ne_of_lt hgl; have hgn2 : w14.heap.size ≠ gr := Nat.ne_of_gt hgl; have HCC := Aside0.mk hcc; clear hat hb hcc hfr hM hcl))
  go_ret2
  have hr1 := Kd.R_far (p := ⟨w14.heap.size, m, none⟩) (Kd.R_below (Kd.R_elderB HO'.out w14.heap.size (Nat.le_refl _)) HB3.out) (fun z hz => hz.2) (.int .u8 (Go.bits .xor .u8 (bt F1 (m : Int)) (a2 % 256)))
  have hs := Kd.R_seg (seg := [.string (strOfNums ((bytesOf F1).set m (Go.bits .xor .u8 (bt F1 (m : Int)) (a2 % 256)))), .bool true]) (j := 1) hr1 (k : Int) (by omega) (by omega) (c := [.int .i64 (rd_T24 l0 (k : Int)).f0, .string (rd_T24 l0 (k : Int)).f1, .bool (rd_T24 l0 (k : Int)).f2]) rfl (fun j u hu => by
      rw [World.cell?_setCell_other _ ⟨w14.heap.size, m, none⟩ ⟨gr, (k : Int).toNat * k24.sz + j, none⟩ _ (by intro e; injection e with e; exact hgn2 e)]
      exact (HB3.out.cell (p := ⟨gr, (k : Int).toNat * k24.sz + j, none⟩) hgl).trans (HCC.out j u hu)) (Nat.le_refl 3) (x' := g) (okp := fun _ => False) (by
      rw [← HG.out, show (rd_T24 l0 (k : Int)).f0 = F0 from by rw [HE.out]]
      exact k24_mkM _ _ _ _) (fun _ h => h.elim)
  have hb4 : Below w.heap.size w (w15.setCell ⟨w14.heap.size, m, none⟩ (.int .u8 (Go.bits .xor .u8 (bt F1 (m : Int)) (a2 % 256)))) := (HB'.out.trans (HB3.out.mono HB'.out.size)).setCell HB'.out.size _
  refine ⟨_, rfl, Kd.R_mono hs.1 (fun _ _ => trivial), hb4.grown hs.2 hb4.size (fun z hz => by injection hz with hz; subst hz; exact hgb)⟩


theorem ref_Turned.calls (P0_ : Nat → Prop) (A0 : Option Addr) (c0 : Nat) (l0 : List (S24)) (a1 : Int) (a2 : Int) (r1 : List (S24)) (r2 : Bool) (w : World) (hs0 : Kd.V k24 24 w w.heap.size (fun k_ => P0_ k_) (.slice A0 l0.length c0) l0) (h : ref_Turned.f l0 a1 a2 = some (r1, r2)) :
    Calls Try.prog 15 #[.slice A0 l0.length c0, .int .i64 a1, .int .i64 a2] w fun e w' => ∃ v0_ : Value, e = .returned (.tuple #[v0_, .bool r2]) ∧ Kd.V k24 24 w' w.heap.size (fun k_ => (P0_ k_ ∨ w.heap.size ≤ k_)) v0_ r1 ∧ Below w.heap.size w w' := by
  unfold ref_Turned.f at h
  by_cases hl : l0.length < 4398046511104 ∧ a2 ≤ 9223372036854775807 ∧ (rd_T24 l0 a1).f1.size ≤ 1000000
  case neg => rw [if_neg hl] at h; exact absurd h (by simp)
  rw [if_pos hl] at h
  by_cases hc : 0 ≤ a1 ∧ a1 < (l0.length : Int)
  · rw [if_pos hc] at h
    cases hg : turnsP (rd_T24 l0 a1) a2 with
    | none =>
      rw [hg] at h
      simp only [Option.some.injEq, Prod.mk.injEq] at h
      obtain ⟨rfl, rfl⟩ := h
      exact ref_Turned_no P0_ A0 c0 l0 a1 a2 w hs0 (fun _ => hg)
    | some g =>
      rw [hg] at h
      simp only [Option.some.injEq, Prod.mk.injEq] at h
      obtain ⟨rfl, rfl⟩ := h
      obtain ⟨k, rfl⟩ : ∃ k : Nat, a1 = k := ⟨a1.toNat, by omega⟩
      obtain ⟨_, hlc, hC⟩ := Kd.V_reads' hs0
      refine (ref_Turned_yes A0 c0 l0 k a2 g w hC hlc hl.1 (by omega) hl.2.1 hl.2.2 hg).mono ?_
      rintro e w' ⟨v, rfl, hr, hb⟩
      rw [Int.toNat_natCast]
      exact ⟨v, rfl, Kd.V_mono (Kd.R_V (Kd.R_bound hr)) (fun z hz => .inr hz.2.1), hb⟩
  · rw [if_neg hc] at h
    simp only [Option.some.injEq, Prod.mk.injEq] at h
    obtain ⟨rfl, rfl⟩ := h
    exact ref_Turned_no P0_ A0 c0 l0 a1 a2 w hs0 (fun h => absurd h hc)


theorem toList_nil {s : ByteArray} (h : s.size = 0) : s.toList = [] := by
  rw [Go.Lib.toList_data]
  have : s.data.toList.length = 0 := by rw [Array.length_toList]; exact h
  exact List.length_eq_zero_iff.1 this
theorem size_nil {s : ByteArray} (h : s.toList = []) : s.size = 0 := by
  have h1 := Go.Lib.toList_data s
  rw [h] at h1
  have : s.data.toList.length = 0 := by rw [← h1]; rfl
  rw [Array.length_toList] at this; exact this
set_option maxHeartbeats 1000000 in
theorem turns_no (g : S24) (a2 : Int) (w : World) (hg : turnsP g a2 = none) :
    Calls Try.prog 22 #[.agg #[.int .i64 g.f0, .string g.f1, .bool g.f2], .int .i64 a2] w fun e w' => e = .panicked [{ v := .iface 44 (.agg #[]), recovered := false }] ∧ Below w.heap.size w w' := by
  have hu24 := Try.underlying24
  unfold turnsP at hg
  have hcs : g.f2 = true ∨ g.f1.size = 0 ∨ a2 < 0 ∨ a2 % 256 = 0 := by
    rcases Classical.em (g.f2 = true ∨ g.f1.size = 0 ∨ a2 < 0 ∨ a2 % 256 = 0) with h | h
    · exact h
    · rw [if_neg h] at hg; exact absurd hg (by simp)
  clear hg
  obtain ⟨F0, F1, F2⟩ := g
  simp only at hcs ⊢
  cases F2 with
  | true =>
    clear hcs
    go_enter Try.func22, Try.ntmps22
    go_wp2
    exact ⟨rfl, rfl, ((Below.refl _ _).alloc (Nat.le_refl _) _).alloc (by simp) _⟩
  | false =>
    rcases Classical.em (F1.toList = []) with hz | hz
    · clear hcs
      go_enter Try.func22, Try.ntmps22
      go_wp2
      exact ⟨rfl, rfl, ((Below.refl _ _).alloc (Nat.le_refl _) _).alloc (by simp) _⟩
    have hsz : 0 < F1.size := by
      rcases Nat.eq_zero_or_pos F1.size with h | h
      · exact absurd (toList_nil h) hz
      · exact h
    have hd3 : (F1.toList == ([] : List UInt8)) = false := beq_eq_false_iff_ne.2 hz
    have hd3b : F1.toList.isEmpty = false := by cases h : F1.toList with | nil => exact absurd h hz | cons a b => rfl
    rcases Int.lt_or_le a2 0 with h2 | h2
    · have hd4 : decide (a2 < 0) = true := decide_eq_true h2
      clear hcs h2 hz
      go_enter Try.func22, Try.ntmps22
      go_wp2
      exact ⟨rfl, rfl, ((Below.refl _ _).alloc (Nat.le_refl _) _).alloc (by simp) _⟩
    have hd4 : decide (a2 < 0) = false := decide_eq_false (by omega)
    have hd5 : ((a2 % 256) == 0) = true := by
      have : a2 % 256 = 0 := by
        rcases hcs with h | h | h | h
        · simp at h
        · omega
        · omega
        · exact h
      simp [this]
    clear hcs hz
    go_enter Try.func22, Try.ntmps22
    go_wp2
    exact ⟨rfl, rfl, ((Below.refl _ _).alloc (Nat.le_refl _) _).alloc (by simp) _⟩

section
variable {P : Program} {ops : Array Oper} {rest : List Oper} {o : Oper} {a : Act} {Q : Exit → Act → World → Prop}
/-- The same, the new block under a letter. -/
theorem bytes_event' {W : World} (hgd : o.guard = none) (src dst : TypeId) (x : Operand) (ho : o.op = .convert src dst x) (e : TypeId) (s : ByteArray) {u : TypeDesc}
    (hs : P.underlying src = some u) (hd : P.underlying dst = some (.slice e)) (he : P.underlying e = some (.int .u8)) (hx : a.eval x = .string s)
    (h : ∀ (gb : Nat) (w1 : World) (c : Nat), gb = W.heap.size → s.size ≤ c → Below W.heap.size W w1 → gb < w1.heap.size → (∀ j, j < s.size → w1.cell? ⟨gb, j, none⟩ = some (.int .u8 (bt s (j : Int))) ∧ w1.frozen? ⟨gb, j, none⟩ = false) →
      wpList P ops Q rest (a.put o.dst (.slice (some ⟨gb, 0, none⟩) s.size c)) w1) : wpList P ops Q (o :: rest) a W :=
  bytes_event hgd src dst x ho e s hs hd he hx fun w1 c hc hb hlt hat => h _ w1 c rfl hc hb hlt hat
end
set_option maxHeartbeats 1000000 in
theorem turns_yes (g : S24) (a2 : Int) (g2 : S24) (w : World) (ha2 : a2 ≤ 9223372036854775807) (hbs : g.f1.size ≤ 1000000) (hg : turnsP g a2 = some g2) :
    Calls Try.prog 22 #[.agg #[.int .i64 g.f0, .string g.f1, .bool g.f2], .int .i64 a2] w fun e w' => e = .returned (.agg #[.int .i64 g2.f0, .string g2.f1, .bool g2.f2]) ∧ Below w.heap.size w w' := by
  have hu24 := Try.underlying24
  unfold turnsP at hg
  have hcs : ¬ (g.f2 = true ∨ g.f1.size = 0 ∨ a2 < 0 ∨ a2 % 256 = 0) := by
    intro h
    rw [if_pos h] at hg; exact absurd hg (by simp)
  rw [if_neg hcs] at hg
  obtain ⟨F0, F1, F2⟩ := g
  simp only at hcs hg hbs ⊢
  obtain rfl : F2 = false := by cases F2 with | true => exact absurd (Or.inl rfl) hcs | false => rfl
  have hsz : 0 < F1.size := by omega
  have h2 : 0 ≤ a2 := by omega
  have hnz : ¬ a2 % 256 = 0 := fun h => hcs (.inr (.inr (.inr h)))
  clear hcs
  have hz : ¬ F1.toList = [] := fun h => by
    have := size_nil h
    omega
  have hd3 : (F1.toList == ([] : List UInt8)) = false := beq_eq_false_iff_ne.2 hz
  have hd3b : F1.toList.isEmpty = false := by cases h : F1.toList with | nil => exact absurd h hz | cons a b => rfl
  have hd4 : decide (a2 < 0) = false := decide_eq_false (by omega)
  have hd5 : ((a2 % 256) == 0) = false := beq_eq_false_iff_ne.2 hnz
  clear hnz
  obtain ⟨m, hm⟩ : ∃ m : Nat, a2 / 256 % (F1.size : Int) = (m : Int) := ⟨(a2 / 256 % (F1.size : Int)).toNat, by have := Int.emod_nonneg (a2 / 256) (by omega : (F1.size : Int) ≠ 0); omega⟩
  have hmlt : m < F1.size := by have := Int.emod_lt_of_pos (a2 / 256) (by omega : (0 : Int) < (F1.size : Int)); omega
  rw [hm, Int.toNat_natCast] at hg
  obtain rfl := Option.some.inj hg
  clear hg
  have h256 : 0 ≤ a2 / 256 := by omega
  simp only
  have hte : ((w.alloc (.cells #[.int .i64 F0, .string F1, .bool false] 24)).alloc (.cells #[.int .i64 0, .string ⟨#[]⟩, .bool false] 24)).heap[w.heap.size + 1]? = some (.cells #[.int .i64 0, .string ⟨#[]⟩, .bool false] 24 (0, 0)) := by
    have h_ := heap_alloc_new (w.alloc (.cells #[.int .i64 F0, .string F1, .bool false] 24)) (.cells #[.int .i64 0, .string ⟨#[]⟩, .bool false] 24)
    rwa [show (w.alloc (.cells #[.int .i64 F0, .string F1, .bool false] 24)).heap.size = w.heap.size + 1 from by simp] at h_
  have HTE := Aside0.mk hte
  clear hte
  go_enter Try.func22, Try.ntmps22
  go_wp2_with ((with_reducible refine gate_dst (N := 26) rfl ?_); go_loud ( refine bytes_event' rfl 9 28 (.tmp 25) rfl 5 F1 Try.underlying9 Try.underlying28 Try.underlying5 rfl ?_; intro gb w15 cb hgb hcb hb hlt hat; have hz0 := (hat m hmlt).1; have hz1 := (hat m hmlt).2; have hcv := Kd.C_string (P := Try.prog) (src := 28) (dst := 9) (c := cb) Try.underlying28 Try.underlying5 Try.underlying9 (C_bytes_set (v := Go.bits .xor .u8 (bt F1 (m : Int)) (a2 % 256)) (by omega) hmlt hat); have hy0 : w15.cell? ⟨w.heap.size, 0, none⟩ = some (.int .i64 F0) := (hb.cell (p := ⟨w.heap.size, 0, none⟩) (by first | (simp; done) | (simp; omega))).trans (by simp); have hy1 : w15.cell? ⟨w.heap.size + 1, 0, none⟩ = some (.int .i64 0) := (hb.cell (p := ⟨w.heap.size + 1, 0, none⟩) (by simp)).trans (by simp); have hy2 : w15.cell? ⟨w.heap.size + 1, 1, none⟩ = some (.string ⟨#[]⟩) := (hb.cell (p := ⟨w.heap.size + 1, 1, none⟩) (by simp)).trans (by simp); have hy3 : w15.cell? ⟨w.heap.size + 1, 2, none⟩ = some (.bool false) := (hb.cell (p := ⟨w.heap.size + 1, 2, none⟩) (by simp)).trans (by simp); have hf1 : w15.frozen? ⟨w.heap.size + 1, 0, none⟩ = false := (hb.frozen (p := ⟨w.heap.size + 1, 0, none⟩) (by simp)).trans (by simp); have hf2 : w15.frozen? ⟨w.heap.size + 1, 1, none⟩ = false := (hb.frozen (p := ⟨w.heap.size + 1, 1, none⟩) (by simp)).trans (by simp); have hf3 : w15.frozen? ⟨w.heap.size + 1, 2, none⟩ = false := (hb.frozen (p := ⟨w.heap.size + 1, 2, none⟩) (by simp)).trans (by simp); have hgs : gb = w.heap.size + 2 := hgb.trans (by simp); have hn1 : w.heap.size ≠ gb := (by omega); have hn2 : gb ≠ w.heap.size := hn1.symm; have hn3 : w.heap.size + 1 ≠ gb := (by omega); have hn4 : gb ≠ w.heap.size + 1 := hn3.symm; have HW := Aside0.mk (show Below w.heap.size w w15 from (below_alloc (below_alloc (Below.refl _ _) _) _).trans (hb.mono (by first | (simp; done) | (simp; omega)))); have HL := Aside0.mk (show w.heap.size ≤ gb from by omega); have HE := Aside0.mk ((hb.block (w.heap.size + 1) (by simp)).trans HTE.out); have HN3 := Aside0.mk hn3; clear hat hb hgb hgs))
  refine bodyPost_ret (results_single (r := .cell 4 24) rfl (.cell (w.heap.size + 1) 24 #[.int .i64 F0, .string (strOfNums ((bytesOf F1).set m (Go.bits .xor .u8 (bt F1 (m : Int)) (a2 % 256)))), .bool true] (0, 0) _ rfl (by refine blk_put (cs := #[.int .i64 F0, .string (strOfNums ((bytesOf F1).set m (Go.bits .xor .u8 (bt F1 (m : Int)) (a2 % 256)))), .bool false]) ?_ 2 _ rfl; refine blk_put (cs := #[.int .i64 F0, .string ⟨#[]⟩, .bool false]) ?_ 1 _ rfl; refine blk_put (cs := #[.int .i64 0, .string ⟨#[]⟩, .bool false]) ?_ 0 _ rfl; exact blk_far HE.out (p := ⟨gb, m, none⟩) HN3.out _) Try.underlying24 rfl (by kernel_rfl) .nil)) rfl ?_
  exact ⟨rfl, (((HW.out.setCell HL.out _).setCell (Nat.le_succ _) _).setCell (Nat.le_succ _) _).setCell (Nat.le_succ _) _⟩


/-! ### slices.Clone -/
def grams_Clone.f (l0 : List (S24)) : Option (List (S24)) := if l0.length < 4398046511104 then some l0 else none
theorem grams_Clone.eq (l0 : List (S24)) (h : l0.length < 4398046511104) : grams_Clone.f l0 = some l0 := by unfold grams_Clone.f; rw [if_pos h]
set_option maxHeartbeats 400000 in
theorem grams_Clone.calls (A0 : Option Addr) (c0 : Nat) (l0 : List (S24)) (r : List (S24)) (w : World) (hr0 : Kd.C k24 w A0 l0.length l0) (hc0 : l0.length ≤ c0) (h : grams_Clone.f l0 = some r) :
    Calls Try.prog 18 #[.slice A0 l0.length c0] w fun e w' => ∃ v0_ : Value, e = .returned (v0_) ∧ Kd.R k24 24 w' w.heap.size (fun _ => True) v0_ r ∧ Below w.heap.size w w' := by
  unfold grams_Clone.f at h
  have hl : l0.length < 4398046511104 := by
    rcases Nat.lt_or_ge l0.length 4398046511104 with h1 | h1
    · exact h1
    · rw [if_neg (by omega)] at h; exact absurd h (by simp)
  rw [if_pos hl] at h
  obtain rfl := Option.some.inj h
  clear h
  have hq := fun (W : World) (a : Option Addr) (n c : Nat) => Lib.run_eql_slice_nil (P := Try.prog) W 26 24 a n c 0 0 Try.underlying26
  rcases A0 with _ | ad
  · have hn : l0 = [] := by
      rcases Nat.eq_zero_or_pos l0.length with h0 | h0
      · exact List.length_eq_zero_iff.1 h0
      · obtain ⟨ad, e, _⟩ := hr0.2.2 h0
        cases e
    subst hn
    clear hr0
    go_enter Try.func18, Try.ntmps18
    go_wp2
    go_ret
    exact ⟨_, rfl, Kd.R_nil _ _ _ _ _, Below.refl _ _⟩
  · have HR0 := Aside0.mk hr0
    have HC0 := Aside0.mk hc0
    clear hr0 hc0
    have HB := Aside0.mk (Below.refl w.heap.size w)
    go_enter Try.func18, Try.ntmps18
    go_wp2_with (first
      | ((with_reducible refine gate_dst (N := 5) rfl ?_); refine Kd.R_lit k24 _ 24 ?hg (N := 5) ?hd (xs := ([] : List (S24))) (inner := []) (ok := fun _ => True) (okp := fun _ => True) ?hr ?hp (fun _ hk => hk) trivial (Below.refl _ _) (Nat.le_refl _) (by simp) ?_; (case hd => rfl); (case hg => rfl); (case hr => first | (go_simp; done) | (go_simp; rfl)); (case hp => exact (Reps.none _ _)); intro v138 w12 ho13 hb hg_ hnew_; clear hg_ hnew_; have HO := Aside0.mk ho13; have HB2 := Aside0.mk hb; clear ho13 hb)
      | ((with_reducible refine gate_builtin (b := .append) (xs := #[.tmp 5, .tmp 6]) rfl ?_); at_builtin; refine Kd.R_append_rows k24 (w0 := w) w.heap.size rfl (.tmp 5) (.tmp 6) 26 24 (.agg #[(.int .i64 0), (.string ⟨#[]⟩), (.bool false)]) 32 rfl Try.underlying26 info24 rfl (by decide) (by omega) v138 [] l0 _ _ _ (fun _ => True) (fun _ => False) rfl rfl ?aO ?aR (fun _ _ h => h) (fun _ h => h.elim) ?aF ?aB ?aS ?aL ?_; (case aR => exact Kd.C_below HR0.out HB2.out); (case aB => exact HB2.out); (case aF => exact (fun _ _ => trivial)); (case aO => exact HO.out); (case aS => exact below_size HB2.out); (case aL => simp; omega); intro v141 w14 ho hb hg hat; clear hg hat; have HO' := Aside0.mk ho; have HB' := Aside0.mk hb; clear ho hb))
    go_ret
    exact ⟨_, rfl, by simpa using HO'.out, HB'.out⟩

theorem the_there (A0 : Option Addr) (c0 n : Nat) (a1 : Int) (w : World) :
    Calls Try.prog 19 #[.slice A0 n c0, .int .i64 a1] w fun e w' => e = .returned (.bool (decide (0 ≤ a1 ∧ a1 < (n : Int)))) ∧ w' = w := by
  rcases Int.lt_or_le a1 0 with h0 | h0
  · have hd : decide (0 ≤ a1) = false := decide_eq_false (by omega)
    go_enter Try.func19, Try.ntmps19
    go_wp2
    go_ret
    refine ⟨?_, rfl⟩
    rw [decide_eq_false (by omega)]
    rfl
  · have hd : decide (0 ≤ a1) = true := decide_eq_true (by omega)
    go_enter Try.func19, Try.ntmps19
    go_wp2
    go_ret
    refine ⟨?_, rfl⟩
    have : (decide (0 ≤ a1 ∧ a1 < (n : Int))) = decide (a1 < (n : Int)) := by
      by_cases h : a1 < (n : Int) <;> simp [h, h0]
    rw [this]
    rfl

theorem catch_idle (p q r : Addr) (w : World) :
    CallsD Try.prog 21 #[.pointer (some p), .pointer (some q), .pointer (some r)] .returning w fun e u' w' => e = .returned (.tuple #[]) ∧ u' = .returning ∧ w' = w := by
  refine callsD_of_wpS Try.func21 rfl fun c₀ cs hu => ?_
  apply wpS_seq
  apply wpS_region
  simp [wpOpsS, go_sem, recoverD, hu, Try.ntmps21, Exit.thenS]
  apply wpS_seq
  apply wpS_region
  simp [wpOpsS, go_sem, recoverD, hu, Exit.thenS]
  refine wpS_cond (t := false) (by simp [Act.eval, Array.replicate]) ?_
  simp only [Bool.false_eq_true, if_false]
  refine wpS_of_wp (wp_skip ?_)
  cases c₀
  simp_all [bodyPostS, results, Try.results21]

set_option maxHeartbeats 1000000 in
theorem catch_panicking (p q r : Nat) (w : World) (A0 : Option Addr) (c0 : Nat) (l0 : List S24) (v1 v2 : Value) (hl : w.cell? ⟨p, 0, none⟩ = some (.slice A0 l0.length c0)) (hC : Kd.C k24 w A0 l0.length l0) (hlc : l0.length ≤ c0) (hn : l0.length < 4398046511104)
    (hq : w.cell? ⟨q, 0, none⟩ = some v1) (hqf : w.frozen? ⟨q, 0, none⟩ = false) (hr : w.cell? ⟨r, 0, none⟩ = some v2) (hrf : w.frozen? ⟨r, 0, none⟩ = false) (hqr : q ≠ r) :
    CallsD Try.prog 21 #[.pointer (some ⟨p, 0, none⟩), .pointer (some ⟨q, 0, none⟩), .pointer (some ⟨r, 0, none⟩)] (.panicking ({ v := .iface 44 (.agg #[]), recovered := false } :: [])) w fun e u' w' =>
      e = .returned (.tuple #[]) ∧ u' = .panicking ({ v := .iface 44 (.agg #[]), recovered := true } :: []) ∧ ∃ (w1 : World) (v : Value), w' = (w1.setCell ⟨q, 0, none⟩ v).setCell ⟨r, 0, none⟩ (.bool false) ∧ Kd.R k24 24 w1 w.heap.size (fun k => w.heap.size ≤ k) v l0 ∧ Below w.heap.size w w1 := by
  refine callsD_of_wpS Try.func21 rfl fun c₀ cs hu => ?_
  apply wpS_seq
  apply wpS_region
  simp [wpOpsS, go_sem, recoverD, hu, Try.ntmps21, Exit.thenS]
  refine wpS_of_wp ?_
  have ht : (#[.pointer (some ⟨p, 0, none⟩), .pointer (some ⟨q, 0, none⟩), .pointer (some ⟨r, 0, none⟩)] ++ ((Array.replicate 16 undef).setIfInBounds 3 (.iface 44 (.agg #[]))).setIfInBounds 0 (.iface 44 (.agg #[])) : Array Value) = #[.pointer (some ⟨p, 0, none⟩), .pointer (some ⟨q, 0, none⟩), .pointer (some ⟨r, 0, none⟩), .iface 44 (.agg #[]), undef, undef, .iface 44 (.agg #[]), undef, undef, undef, undef, undef, undef, undef, undef, undef, undef, undef, undef] := rfl
  rw [ht]
  clear ht
  generalize hQ : (fun (e : Exit) (a' : Act) (w' : World) => bodyPostS _ _ _ _ _ e a' _ w') = Q
  have HQ := Aside0.mk hQ
  clear hQ
  have HL := Aside0.mk (Kd.C_below hC ((Below.refl w.heap.size w).alloc (Nat.le_refl _) (.cells #[] 44)))
  clear hC
  have HU := Aside0.mk hu
  clear hu
  have hp1 : p < w.heap.size := World.block_lt_of_cell? w _ hl
  have hq1 : q < w.heap.size := World.block_lt_of_cell? w _ hq
  have hr1 : r < w.heap.size := World.block_lt_of_cell? w _ hr
  have hp2 : p ≠ w.heap.size := by omega
  have hq2 : q ≠ w.heap.size := by omega
  have hr2 : r ≠ w.heap.size := by omega
  have hrq := hqr.symm
  have hba := (Below.refl w.heap.size w).alloc (Nat.le_refl _) (.cells #[] 44)
  have Z1 := Aside0.mk ((hba.cell (p := ⟨q, 0, none⟩) hq1).trans hq)
  have Z2 := Aside0.mk ((hba.frozen (p := ⟨q, 0, none⟩) hq1).trans hqf)
  have Z3 := Aside0.mk ((hba.cell (p := ⟨r, 0, none⟩) hr1).trans hr)
  have Z4 := Aside0.mk ((hba.frozen (p := ⟨r, 0, none⟩) hr1).trans hrf)
  clear hba
  have hta : ∀ w : World, Sem.run Try.prog (Instr.typeAssert (Value.iface 44 (Value.agg #[])) 20 44 true) w = .ok (.tuple #[.agg #[], .bool true]) w := fun _ => rfl
  go_wp2_with (first | ((with_reducible refine gate_callee (f := 18) rfl ?_); go_loud (refine goesL_ (some 18) rfl rfl Try.func18 (by kernel_rfl) rfl #[.slice A0 l0.length c0] rfl (by (try simp only [List.map_toArray, List.map_cons, List.map_nil]); first | done | rfl) ?_; (refine (grams_Clone.calls _ _ l0 l0 _ HL.out hlc (grams_Clone.eq l0 hn)).mono ?_); rintro e w1 ⟨v, rfl, ho, hb⟩; refine ⟨_, rfl, ?_⟩; obtain ⟨A1, c1, rfl⟩ := Kd.R_slice ho; have HO := Aside0.mk ho; have HB := Aside0.mk hb; have hy1 := (hb.cell (p := ⟨q, 0, none⟩) (show q < _ by rw [World.size_alloc]; omega)).trans Z1.out; have hy2 := (hb.frozen (p := ⟨q, 0, none⟩) (show q < _ by rw [World.size_alloc]; omega)).trans Z2.out; have hy3 := (hb.cell (p := ⟨r, 0, none⟩) (show r < _ by rw [World.size_alloc]; omega)).trans Z3.out; have hy4 := (hb.frozen (p := ⟨r, 0, none⟩) (show r < _ by rw [World.size_alloc]; omega)).trans Z4.out; clear ho hb)))
  obtain rfl := HQ.out
  have hs : w.heap.size ≤ (w.alloc (.cells #[] 44)).heap.size := by rw [World.size_alloc]; omega
  have hb0 := ((Below.refl w.heap.size w).alloc (Nat.le_refl _) (.cells #[] 44)).trans (HB.out.mono hs)
  have hR := Kd.R_mono (ok' := fun k => w.heap.size ≤ k) (Kd.R_lower (Kd.R_bound HO.out) hs) (fun k hk => Nat.le_trans hs hk.2.1)
  exact ⟨rfl, _, rfl, _, results_list (rs := []) rfl (by simp) .nil, rfl, rfl, w1, _, rfl, hR, hb0⟩


set_option maxHeartbeats 1000000 in
theorem net_Turned_out (A0 : Option Addr) (c0 : Nat) (l0 : List S24) (a1 a2 : Int) (w : World) (hr0 : Kd.C k24 w A0 l0.length l0) (hc0 : l0.length ≤ c0) (hl : l0.length < 4398046511104) (hno : ¬ (0 ≤ a1 ∧ a1 < (l0.length : Int))) :
    Calls Try.prog 14 #[.slice A0 l0.length c0, .int .i64 a1, .int .i64 a2] w fun e w' => ∃ v0_ : Value, e = .returned (.tuple #[v0_, .bool false]) ∧ Kd.R k24 24 w' w.heap.size (fun _ => True) v0_ l0 ∧ Below w.heap.size w w' := by
  have hbw := ((((Below.refl w.heap.size w).alloc (Nat.le_refl _) (.cells #[.slice A0 l0.length c0] 26)).alloc (by simp) (.cells #[.slice none 0 0] 26)).alloc (by simp; omega) (.cells #[.bool false] 4))
  have HB0 := Aside0.mk hbw
  have HL := Aside0.mk (Kd.C_below hr0 hbw)
  clear hbw hr0
  have Z0 : Aside0 ((((w.alloc (.cells #[.slice A0 l0.length c0] 26)).alloc (.cells #[.slice none 0 0] 26)).alloc (.cells #[.bool false] 4)).cell? ⟨w.heap.size, 0, none⟩ = some (.slice A0 l0.length c0)) := Aside0.mk (by simp [go_sem])
  have Z1 : Aside0 ((((w.alloc (.cells #[.slice A0 l0.length c0] 26)).alloc (.cells #[.slice none 0 0] 26)).alloc (.cells #[.bool false] 4)).cell? ⟨w.heap.size + 1, 0, none⟩ = some (.slice none 0 0)) := Aside0.mk (by simp [go_sem])
  have Z2 : Aside0 ((((w.alloc (.cells #[.slice A0 l0.length c0] 26)).alloc (.cells #[.slice none 0 0] 26)).alloc (.cells #[.bool false] 4)).frozen? ⟨w.heap.size + 1, 0, none⟩ = false) := Aside0.mk (by simp [go_sem])
  have Z3 : Aside0 ((((w.alloc (.cells #[.slice A0 l0.length c0] 26)).alloc (.cells #[.slice none 0 0] 26)).alloc (.cells #[.bool false] 4)).cell? ⟨w.heap.size + 1 + 1, 0, none⟩ = some (.bool false)) := Aside0.mk (by simp [go_sem])
  have Z4 : Aside0 ((((w.alloc (.cells #[.slice A0 l0.length c0] 26)).alloc (.cells #[.slice none 0 0] 26)).alloc (.cells #[.bool false] 4)).frozen? ⟨w.heap.size + 1 + 1, 0, none⟩ = false) := Aside0.mk (by simp [go_sem])
  have hs3 : (((w.alloc (.cells #[.slice A0 l0.length c0] 26)).alloc (.cells #[.slice none 0 0] 26)).alloc (.cells #[.bool false] 4)).heap.size = w.heap.size + 1 + 1 + 1 := by simp
  have HS3 := Aside0.mk hs3
  clear hs3
  have hdn : decide (0 ≤ a1 ∧ a1 < (l0.length : Int)) = false := decide_eq_false hno
  have HN := Aside0.mk hdn
  clear hno hdn
  go_enter_defers Try.func14, Try.ntmps14
  go_wp2_with (first
    | ((with_reducible refine gate_callee (f := 18) rfl ?_); go_loud (refine goesL_ (some 9) rfl rfl Try.func18 (by kernel_rfl) rfl #[.slice A0 l0.length c0] rfl (by (try simp only [List.map_toArray, List.map_cons, List.map_nil]); first | done | rfl) ?_; (refine (grams_Clone.calls _ _ l0 l0 _ HL.out hc0 (grams_Clone.eq l0 hl)).mono ?_); rintro e w1 ⟨v, rfl, ho, hb⟩; refine ⟨_, rfl, ?_⟩; obtain ⟨A1, c1, rfl⟩ := Kd.R_slice ho; have HO := Aside0.mk ho; have HB := Aside0.mk hb; have hy0 : w1.cell? ⟨w.heap.size, 0, none⟩ = some (.slice A0 l0.length c0) := (hb.cell (p := ⟨w.heap.size, 0, none⟩) (by show _ < _; rw [HS3.out]; simp only; omega)).trans Z0.out; have hy1 : w1.cell? ⟨w.heap.size + 1, 0, none⟩ = some (.slice none 0 0) := (hb.cell (p := ⟨w.heap.size + 1, 0, none⟩) (by show _ < _; rw [HS3.out]; simp only; omega)).trans Z1.out; have hy2 : w1.frozen? ⟨w.heap.size + 1, 0, none⟩ = false := (hb.frozen (p := ⟨w.heap.size + 1, 0, none⟩) (by show _ < _; rw [HS3.out]; simp only; omega)).trans Z2.out; have hy3 : w1.cell? ⟨w.heap.size + 1 + 1, 0, none⟩ = some (.bool false) := (hb.cell (p := ⟨w.heap.size + 1 + 1, 0, none⟩) (by show _ < _; rw [HS3.out]; simp only; omega)).trans Z3.out; have hy4 : w1.frozen? ⟨w.heap.size + 1 + 1, 0, none⟩ = false := (hb.frozen (p := ⟨w.heap.size + 1 + 1, 0, none⟩) (by show _ < _; rw [HS3.out]; simp only; omega)).trans Z4.out; clear ho hb))
    | ((with_reducible refine gate_callee (f := 19) rfl ?_); go_loud (refine goesL_ (some 12) rfl rfl Try.func19 (by kernel_rfl) rfl #[.slice A0 l0.length c0, .int .i64 a1] rfl (by (try simp only [List.map_toArray, List.map_cons, List.map_nil]); first | done | rfl) ?_; (refine (the_there _ _ _ _ _).mono ?_); rintro e w2 ⟨rfl, rfl⟩; refine ⟨_, rfl, ?_⟩; rw [HN.out])))
  have hb1 := (HB0.out.trans (HB.out.mono HB0.out.size))
  refine ⟨.tuple #[.slice A1 l0.length c1, .bool false], ?_, _, rfl, ?_, ?_⟩
  · simp [results, Try.results14, go_sem, hy1, hy3]
  · have hR := Kd.R_mono (ok' := fun k => w.heap.size + 1 + 1 < k) (Kd.R_lower (base' := w.heap.size) (Kd.R_bound HO.out) (by rw [HS3.out]; omega)) (fun k hk => by have := hk.2.1; rw [HS3.out] at this; omega)
    exact Kd.R_mono (Kd.R_far (Kd.R_far (Kd.R_far hR (fun k hk => by simp only; omega) _) (fun k hk => by simp only; omega) _) (fun k hk => by simp only; omega) _) (fun _ _ => trivial)
  · exact ((hb1.setCell (by simp) _).setCell (by simp) _).setCell (by simp; omega) _



theorem leaves_same {P : Program} {fn : Func} {t1 t2 : Array Value} {R : Ending → World → Prop} (h : results fn t1 = results fn t2) : ∀ (ds : List Deferred) (u : FrameMode) (w : World), Leaves P fn t1 R ds u w → Leaves P fn t2 R ds u w := by
  intro ds
  induction ds with
  | nil =>
    intro u w hl
    cases u with
    | run => exact hl
    | returning =>
      obtain ⟨v, hr, hR⟩ := hl
      exact ⟨v, h ▸ hr, hR⟩
    | panicking ch => exact hl
  | cons d ds ih =>
    intro u w hl
    obtain ⟨hu, fv, cap, f, args, ht, hi, hc⟩ := hl
    refine ⟨hu, fv, cap, f, args, ht, hi, hc.mono ?_⟩
    intro e u' w' hx
    cases e with
    | returned v => exact ih _ _ hx
    | panicked ch => exact ih _ _ hx
    | outgrown => exact hx

theorem results14_put (tmps : Array Value) (N : Nat) (v : Value) (h6 : N ≠ 6) (h7 : N ≠ 7) : results Try.f14 (tmps.setIfInBounds N v) = results Try.f14 tmps := by
  simp [results, Try.results14, Array.getElem?_setIfInBounds, h6, h7]

theorem panic_put {R : Ending → World → Prop} (N : Nat) (h6 : N ≠ 6) (h7 : N ≠ 7) (c : List PanicEntry) (a : Act) (w : World) (v : Value) (h : bodyPostD Try.prog Try.f14 R (.panic c) (a.put (some N) v) w) : bodyPostD Try.prog Try.f14 R (.panic c) a w :=
  leaves_same (results14_put a.tmps N v h6 h7) a.defers _ w h

section
variable {P : Program} {ops : Array Oper} {Q : Exit → Act → World → Prop}
/-- A call that panics, by its contract. -/
theorem goesP_ {oi : Oper} {N : Option Tmp} {a : Act} {w : World} {K : Act → World → Prop} {f : FuncId} {fn : Func} {as_ : Array Operand} {ts : Array TypeId} (hf : P.funcs[f]? = some fn) (hname : (fn.name == "runtime.NumGoroutine") = false) (hb : fn.body.isSome = true) (args : Array Value)
    (hw : Region.wanted oi (yielded ops a.tmps) = true) (hop : oi.op = .call { callee := .value (.func f), args := as_, argTypes := ts }) (hargs : as_.map a.eval = args)
    (h : Calls P f args w fun e w' => ∃ ch, e = .panicked ch ∧ Q (.panic ch) a w') : if Region.wanted oi (yielded ops a.tmps) = true then Oper.wp P oi a w K Q else K (a.put N undef) w := by
  rw [if_pos hw]
  have he := enters_ hf hname hb args w
  have hrun : (execOp a.eval oi).run P w = .ok (.enter f args) w := by
    unfold execOp
    simp [hop, resolve, Deferred.ofValue, invoke, Act.eval, hargs, he]
  unfold Oper.wp
  rw [hrun, Oper.upon_enter]
  refine h.mono fun e w'' hh => ?_
  obtain ⟨v, rfl, hk⟩ := hh
  exact hk
end

set_option maxHeartbeats 1000000 in
theorem net_Turned_no (A0 : Option Addr) (c0 : Nat) (l0 : List S24) (k : Nat) (a2 : Int) (w : World) (hr0 : Kd.C k24 w A0 l0.length l0) (hc0 : l0.length ≤ c0) (hl : l0.length < 4398046511104) (hk : k < l0.length) (hg : turnsP (rd_T24 l0 (k : Int)) a2 = none) :
    Calls Try.prog 14 #[.slice A0 l0.length c0, .int .i64 (k : Int), .int .i64 a2] w fun e w' => ∃ v0_ : Value, e = .returned (.tuple #[v0_, .bool false]) ∧ Kd.R k24 24 w' w.heap.size (fun _ => True) v0_ l0 ∧ Below w.heap.size w w' := by
  obtain ⟨ad, e, hx0, hx1, hx2⟩ := at_T24 hr0 (k : Int) (by omega) (by omega)
  cases e
  rw [Int.toNat_natCast] at hx0 hx1 hx2
  have X0 := Aside0.mk hx0
  have X1 := Aside0.mk hx1
  have X2 := Aside0.mk hx2
  have hd2 : decide ((l0.length : Int) ≤ (k : Int)) = false := decide_eq_false (by omega)
  have hd6 : decide (l0.length ≤ k) = false := decide_eq_false (by omega)
  clear hx0 hx1 hx2
  have hbw := ((((Below.refl w.heap.size w).alloc (Nat.le_refl _) (.cells #[.slice (some ad) l0.length c0] 26)).alloc (by simp) (.cells #[.slice none 0 0] 26)).alloc (by simp; omega) (.cells #[.bool false] 4))
  have HB0 := Aside0.mk hbw
  have HL := Aside0.mk (Kd.C_below hr0 hbw)
  have HR0 := Aside0.mk hr0
  clear hbw hr0
  have Z0 : Aside0 ((((w.alloc (.cells #[.slice (some ad) l0.length c0] 26)).alloc (.cells #[.slice none 0 0] 26)).alloc (.cells #[.bool false] 4)).cell? ⟨w.heap.size, 0, none⟩ = some (.slice (some ad) l0.length c0)) := Aside0.mk (by simp [go_sem])
  have Z1 : Aside0 ((((w.alloc (.cells #[.slice (some ad) l0.length c0] 26)).alloc (.cells #[.slice none 0 0] 26)).alloc (.cells #[.bool false] 4)).cell? ⟨w.heap.size + 1, 0, none⟩ = some (.slice none 0 0)) := Aside0.mk (by simp [go_sem])
  have Z2 : Aside0 ((((w.alloc (.cells #[.slice (some ad) l0.length c0] 26)).alloc (.cells #[.slice none 0 0] 26)).alloc (.cells #[.bool false] 4)).frozen? ⟨w.heap.size + 1, 0, none⟩ = false) := Aside0.mk (by simp [go_sem])
  have Z3 : Aside0 ((((w.alloc (.cells #[.slice (some ad) l0.length c0] 26)).alloc (.cells #[.slice none 0 0] 26)).alloc (.cells #[.bool false] 4)).cell? ⟨w.heap.size + 1 + 1, 0, none⟩ = some (.bool false)) := Aside0.mk (by simp [go_sem])
  have Z4 : Aside0 ((((w.alloc (.cells #[.slice (some ad) l0.length c0] 26)).alloc (.cells #[.slice none 0 0] 26)).alloc (.cells #[.bool false] 4)).frozen? ⟨w.heap.size + 1 + 1, 0, none⟩ = false) := Aside0.mk (by simp [go_sem])
  have hs3 : (((w.alloc (.cells #[.slice (some ad) l0.length c0] 26)).alloc (.cells #[.slice none 0 0] 26)).alloc (.cells #[.bool false] 4)).heap.size = w.heap.size + 1 + 1 + 1 := by simp
  have HS3 := Aside0.mk hs3
  clear hs3
  have hdn : decide (0 ≤ (k : Int) ∧ (k : Int) < (l0.length : Int)) = true := decide_eq_true (by omega)
  have HN := Aside0.mk hdn
  clear hdn
  go_enter_defers Try.func14, Try.ntmps14
  go_wp2_with (first
    | ((with_reducible refine gate_callee (f := 18) rfl ?_); go_loud (refine goesL_ (some 9) rfl rfl Try.func18 (by kernel_rfl) rfl #[.slice (some ad) l0.length c0] rfl (by (try simp only [List.map_toArray, List.map_cons, List.map_nil]); first | done | rfl) ?_; (refine (grams_Clone.calls _ _ l0 l0 _ HL.out hc0 (grams_Clone.eq l0 hl)).mono ?_); rintro e w1 ⟨v, rfl, ho, hb⟩; refine ⟨_, rfl, ?_⟩; obtain ⟨A1, c1, rfl⟩ := Kd.R_slice ho; have HO := Aside0.mk ho; have HB := Aside0.mk hb; have hy0 : w1.cell? ⟨w.heap.size, 0, none⟩ = some (.slice (some ad) l0.length c0) := (hb.cell (p := ⟨w.heap.size, 0, none⟩) (by show _ < _; rw [HS3.out]; simp only; omega)).trans Z0.out; have hy1 : w1.cell? ⟨w.heap.size + 1, 0, none⟩ = some (.slice none 0 0) := (hb.cell (p := ⟨w.heap.size + 1, 0, none⟩) (by show _ < _; rw [HS3.out]; simp only; omega)).trans Z1.out; have hy2 : w1.frozen? ⟨w.heap.size + 1, 0, none⟩ = false := (hb.frozen (p := ⟨w.heap.size + 1, 0, none⟩) (by show _ < _; rw [HS3.out]; simp only; omega)).trans Z2.out; have hy3 : w1.cell? ⟨w.heap.size + 1 + 1, 0, none⟩ = some (.bool false) := (hb.cell (p := ⟨w.heap.size + 1 + 1, 0, none⟩) (by show _ < _; rw [HS3.out]; simp only; omega)).trans Z3.out; have hy4 : w1.frozen? ⟨w.heap.size + 1 + 1, 0, none⟩ = false := (hb.frozen (p := ⟨w.heap.size + 1 + 1, 0, none⟩) (by show _ < _; rw [HS3.out]; simp only; omega)).trans Z4.out; clear ho hb))
    | ((with_reducible refine gate_callee (f := 19) rfl ?_); go_loud (refine goesL_ (some 12) rfl rfl Try.func19 (by kernel_rfl) rfl #[.slice (some ad) l0.length c0, .int .i64 (k : Int)] rfl (by (try simp only [List.map_toArray, List.map_cons, List.map_nil]); first | done | rfl) ?_; (refine (the_there _ _ _ _ _).mono ?_); rintro e w2 ⟨rfl, rfl⟩; refine ⟨_, rfl, ?_⟩; rw [HN.out])))
  generalize hW5 : w1.setCell ⟨w.heap.size + 1, 0, none⟩ (.slice A1 l0.length c1) = w5
  have hb5 : Below w.heap.size w w5 := by
    subst hW5
    exact (HB0.out.trans (HB.out.mono HB0.out.size)).setCell (by simp) _
  have q0 := (hb5.cell (World.block_lt_of_cell? w _ X0.out)).trans X0.out
  have q1 := (hb5.cell (World.block_lt_of_cell? w _ X1.out)).trans X1.out
  have q2 := (hb5.cell (World.block_lt_of_cell? w _ X2.out)).trans X2.out
  have q3 : w5.cell? ⟨w.heap.size + 1, 0, none⟩ = some (.slice A1 l0.length c1) := by
    subst hW5
    exact World.cell?_setCell_same w1 _ _ hy1
  have q4 : w5.cell? ⟨w.heap.size, 0, none⟩ = some (.slice (some ad) l0.length c0) := by
    subst hW5
    rw [World.cell?_setCell_other _ _ _ _ (by intro e; injection e with e; omega)]
    exact hy0
  have q5 : w5.cell? ⟨w.heap.size + 1 + 1, 0, none⟩ = some (.bool false) := by
    subst hW5
    rw [World.cell?_setCell_other _ _ _ _ (by intro e; injection e with e; omega)]
    exact hy3
  have HW5 := Aside0.mk hW5
  clear hW5
  refine start_ (n := 10) (S := fun w' => w'.cell? ⟨w.heap.size + 1, 0, none⟩ = some (.slice A1 l0.length c1) ∧ w'.cell? ⟨w.heap.size, 0, none⟩ = some (.slice (some ad) l0.length c0) ∧ w'.cell? (ad.add (k * 3)) = some (.int .i64 (rd_T24 l0 (k : Int)).f0) ∧ w'.cell? ⟨(ad.add (k * 3)).block, (ad.add (k * 3)).off + 1, none⟩ = some (.string (rd_T24 l0 (k : Int)).f1) ∧ w'.cell? ⟨(ad.add (k * 3)).block, (ad.add (k * 3)).off + 2, none⟩ = some (.bool (rd_T24 l0 (k : Int)).f2)) (ds := []) #[false, false, false, false, false, false, false, false, false, false] (by kernel_rfl) rfl rfl ⟨q3, q4, q0, q1, q2⟩ (fun hHeld => ?_)
  generalize hW6 : w5.drew = w6 at hHeld ⊢
  refine take_ (i := 0) (N := some 16) (v := ?_) (a' := ?_) #[true, false, false, false, false, false, false, false, false, false] rfl rfl (by kernel_rfl) (fun c a w h => panic_put 16 (by decide) (by decide) c a w _ h) (Or.inl ⟨by rfl, ?_⟩) hHeld ?_ ?_
  rotate_left
  · rintro w' ⟨s0, s1, s2, s3, s4⟩
    go_simp
    with_reducible rfl
  rotate_left
  · simp only [Act.put, List.setIfInBounds_toArray, List.set_cons_zero, List.set_cons_succ, i64_w, i32_w]
    rfl
  refine pure_ (i := 1) (N := some 17) (v := ?_) (a' := ?_) #[true, true, false, false, false, false, false, false, false, false] rfl rfl (by kernel_rfl) (fun c a w h => panic_put 17 (by decide) (by decide) c a w _ h) (Or.inl ⟨by rfl, ?_⟩) ?_ ?_
  rotate_left
  · intro w'
    go_simp
    with_reducible rfl
  rotate_left
  · simp only [Act.put, List.setIfInBounds_toArray, List.set_cons_zero, List.set_cons_succ, i64_w, i32_w]
    rfl
  refine take_ (i := 2) (N := some 18) (v := ?_) (a' := ?_) #[true, true, true, false, false, false, false, false, false, false] rfl rfl (by kernel_rfl) (fun c a w h => panic_put 18 (by decide) (by decide) c a w _ h) (Or.inl ⟨by rfl, ?_⟩) hHeld ?_ ?_
  rotate_left
  · rintro w' ⟨s0, s1, s2, s3, s4⟩
    go_simp
    with_reducible rfl
  rotate_left
  · simp only [Act.put, List.setIfInBounds_toArray, List.set_cons_zero, List.set_cons_succ, i64_w, i32_w]
    rfl
  refine pure_ (i := 3) (N := some 19) (v := ?_) (a' := ?_) #[true, true, true, true, false, false, false, false, false, false] rfl rfl (by kernel_rfl) (fun c a w h => panic_put 19 (by decide) (by decide) c a w _ h) (Or.inl ⟨by rfl, ?_⟩) ?_ ?_
  rotate_left
  · intro w'
    go_simp
    with_reducible rfl
  rotate_left
  · simp only [Act.put, List.setIfInBounds_toArray, List.set_cons_zero, List.set_cons_succ, i64_w, i32_w]
    rfl
  refine pure_ (i := 4) (N := some 20) (v := ?_) (a' := ?_) #[true, true, true, true, true, false, false, false, false, false] rfl rfl (by kernel_rfl) (fun c a w h => panic_put 20 (by decide) (by decide) c a w _ h) (Or.inl ⟨by rfl, ?_⟩) ?_ ?_
  rotate_left
  · intro w'
    go_simp
    with_reducible rfl
  rotate_left
  · simp only [Act.put, List.setIfInBounds_toArray, List.set_cons_zero, List.set_cons_succ, i64_w, i32_w]
    rfl
  refine take_ (i := 5) (N := some 21) (v := ?_) (a' := ?_) #[true, true, true, true, true, true, false, false, false, false] rfl rfl (by kernel_rfl) (fun c a w h => panic_put 21 (by decide) (by decide) c a w _ h) (Or.inl ⟨by rfl, ?_⟩) hHeld ?_ ?_
  rotate_left
  · rintro w' ⟨s0, s1, s2, s3, s4⟩
    go_simp
    with_reducible rfl
  rotate_left
  · simp only [Act.put, List.setIfInBounds_toArray, List.set_cons_zero, List.set_cons_succ, i64_w, i32_w]
    rfl
  refine pure_ (i := 6) (N := some 22) (v := ?_) (a' := ?_) #[true, true, true, true, true, true, true, false, false, false] rfl rfl (by kernel_rfl) (fun c a w h => panic_put 22 (by decide) (by decide) c a w _ h) (Or.inl ⟨by rfl, ?_⟩) ?_ ?_
  rotate_left
  · intro w'
    go_simp
    with_reducible rfl
  rotate_left
  · simp only [Act.put, List.setIfInBounds_toArray, List.set_cons_zero, List.set_cons_succ, i64_w, i32_w]
    rfl
  refine one_ (i := 7) (N := some 23) #[true, true, true, true, true, true, true, true, false, false] rfl rfl (by kernel_rfl) (by decide) (fun K hK => ?_)
  refine goesP_ Try.func22 (by kernel_rfl) rfl #[.agg #[.int .i64 (rd_T24 l0 (k : Int)).f0, .string (rd_T24 l0 (k : Int)).f1, .bool (rd_T24 l0 (k : Int)).f2], .int .i64 a2] (by rfl) rfl (by (try simp only [List.map_toArray, List.map_cons, List.map_nil]); first | done | rfl) ?_
  refine (turns_no (rd_T24 l0 (k : Int)) a2 _ hg).mono ?_
  rintro e w7 ⟨rfl, hb7⟩
  refine ⟨_, rfl, ?_⟩
  have hb6 : Below w.heap.size w w6 := by
    subst hW6
    exact below_drew hb5
  have hs6 : w.heap.size + 1 + 1 + 1 ≤ w6.heap.size := by
    subst hW6
    show _ ≤ w5.heap.size
    rw [← HW5.out, ← HS3.out]
    exact Nat.le_trans HB.out.size ((Below.refl 0 w1).setCell (Nat.zero_le _) _).size
  have hb67 : Below w.heap.size w w7 := hb6.trans (hb7.mono hb6.size)
  have r0 : w7.cell? ⟨w.heap.size, 0, none⟩ = some (.slice (some ad) l0.length c0) := (hb7.cell (by show _ < _; simp only; omega)).trans hHeld.2.1
  have r1 : w7.cell? ⟨w.heap.size + 1, 0, none⟩ = some (.slice A1 l0.length c1) := (hb7.cell (by show _ < _; simp only; omega)).trans hHeld.1
  have r2 : w7.cell? ⟨w.heap.size + 1 + 1, 0, none⟩ = some (.bool false) := (hb7.cell (by show _ < _; simp only; omega)).trans (by rw [← hW6]; exact q5)
  have r3 : w7.frozen? ⟨w.heap.size + 1, 0, none⟩ = false := (hb7.frozen (by show _ < _; simp only; omega)).trans (by rw [← hW6]; show w5.frozen? _ = _; rw [← HW5.out]; simp [hy2])
  have r4 : w7.frozen? ⟨w.heap.size + 1 + 1, 0, none⟩ = false := (hb7.frozen (by show _ < _; simp only; omega)).trans (by rw [← hW6]; show w5.frozen? _ = _; rw [← HW5.out]; simp [hy4])
  refine leaves_cons (f := 21) (args := #[.pointer (some ⟨w.heap.size, 0, none⟩), .pointer (some ⟨w.heap.size + 1, 0, none⟩), .pointer (some ⟨w.heap.size + 1 + 1, 0, none⟩)]) (by simp) (by simp [go_sem]) ?_
  refine (catch_panicking w.heap.size (w.heap.size + 1) (w.heap.size + 1 + 1) w7 (some ad) c0 l0 _ _ r0 (Kd.C_below HR0.out hb67) hc0 hl r1 r3 r2 r4 (by omega)).mono ?_
  rintro e u' w8 ⟨rfl, rfl, w9, v, rfl, hR, hb⟩
  obtain ⟨A2, c2, rfl⟩ := Kd.R_slice hR
  have hs7 := hb7.size
  have z1 : w9.cell? ⟨w.heap.size + 1, 0, none⟩ = _ := (hb.cell (by show _ < _; simp only; omega)).trans r1
  have z2 : w9.cell? ⟨w.heap.size + 1 + 1, 0, none⟩ = _ := (hb.cell (by show _ < _; simp only; omega)).trans r2
  show Leaves Try.prog Try.f14 _ _ [] .returning _
  refine ⟨.tuple #[.slice A2 l0.length c2, .bool false], ?_, _, rfl, ?_, ?_⟩
  · simp [results, Try.results14, go_sem, z1, z2]
  · have hR' := Kd.R_lower (base' := w.heap.size) hR (by omega)
    exact Kd.R_mono (Kd.R_far (Kd.R_far hR' (fun k hk => by simp only; omega) _) (fun k hk => by simp only; omega) _) (fun _ _ => trivial)
  · exact ((hb67.trans (hb.mono (by omega))).setCell (by simp only; omega) _).setCell (by simp only; omega) _


set_option maxHeartbeats 1000000 in
theorem net_Turned_yes (A0 : Option Addr) (c0 : Nat) (l0 : List S24) (k : Nat) (a2 : Int) (w : World) (hr0 : Kd.C k24 w A0 l0.length l0) (hc0 : l0.length ≤ c0) (hl : l0.length < 4398046511104) (hk : k < l0.length) (ha2 : a2 ≤ 9223372036854775807) (hbs : (rd_T24 l0 (k : Int)).f1.size ≤ 1000000) (g : S24) (hg : turnsP (rd_T24 l0 (k : Int)) a2 = some g) :
    Calls Try.prog 14 #[.slice A0 l0.length c0, .int .i64 (k : Int), .int .i64 a2] w fun e w' => ∃ v0_ : Value, e = .returned (.tuple #[v0_, .bool true]) ∧ Kd.R k24 24 w' w.heap.size (fun _ => True) v0_ (l0.set k g) ∧ Below w.heap.size w w' := by
  obtain ⟨ad, e, hx0, hx1, hx2⟩ := at_T24 hr0 (k : Int) (by omega) (by omega)
  cases e
  rw [Int.toNat_natCast] at hx0 hx1 hx2
  have X0 := Aside0.mk hx0
  have X1 := Aside0.mk hx1
  have X2 := Aside0.mk hx2
  have hd2 : decide ((l0.length : Int) ≤ (k : Int)) = false := decide_eq_false (by omega)
  have hd6 : decide (l0.length ≤ k) = false := decide_eq_false (by omega)
  clear hx0 hx1 hx2
  have hbw := ((((Below.refl w.heap.size w).alloc (Nat.le_refl _) (.cells #[.slice (some ad) l0.length c0] 26)).alloc (by simp) (.cells #[.slice none 0 0] 26)).alloc (by simp; omega) (.cells #[.bool false] 4))
  have HB0 := Aside0.mk hbw
  have HL := Aside0.mk (Kd.C_below hr0 hbw)
  have HR0 := Aside0.mk hr0
  clear hbw hr0
  have Z0 : Aside0 ((((w.alloc (.cells #[.slice (some ad) l0.length c0] 26)).alloc (.cells #[.slice none 0 0] 26)).alloc (.cells #[.bool false] 4)).cell? ⟨w.heap.size, 0, none⟩ = some (.slice (some ad) l0.length c0)) := Aside0.mk (by simp [go_sem])
  have Z1 : Aside0 ((((w.alloc (.cells #[.slice (some ad) l0.length c0] 26)).alloc (.cells #[.slice none 0 0] 26)).alloc (.cells #[.bool false] 4)).cell? ⟨w.heap.size + 1, 0, none⟩ = some (.slice none 0 0)) := Aside0.mk (by simp [go_sem])
  have Z2 : Aside0 ((((w.alloc (.cells #[.slice (some ad) l0.length c0] 26)).alloc (.cells #[.slice none 0 0] 26)).alloc (.cells #[.bool false] 4)).frozen? ⟨w.heap.size + 1, 0, none⟩ = false) := Aside0.mk (by simp [go_sem])
  have Z3 : Aside0 ((((w.alloc (.cells #[.slice (some ad) l0.length c0] 26)).alloc (.cells #[.slice none 0 0] 26)).alloc (.cells #[.bool false] 4)).cell? ⟨w.heap.size + 1 + 1, 0, none⟩ = some (.bool false)) := Aside0.mk (by simp [go_sem])
  have Z4 : Aside0 ((((w.alloc (.cells #[.slice (some ad) l0.length c0] 26)).alloc (.cells #[.slice none 0 0] 26)).alloc (.cells #[.bool false] 4)).frozen? ⟨w.heap.size + 1 + 1, 0, none⟩ = false) := Aside0.mk (by simp [go_sem])
  have hs3 : (((w.alloc (.cells #[.slice (some ad) l0.length c0] 26)).alloc (.cells #[.slice none 0 0] 26)).alloc (.cells #[.bool false] 4)).heap.size = w.heap.size + 1 + 1 + 1 := by simp
  have HS3 := Aside0.mk hs3
  clear hs3
  have hdn : decide (0 ≤ (k : Int) ∧ (k : Int) < (l0.length : Int)) = true := decide_eq_true (by omega)
  have HN := Aside0.mk hdn
  clear hdn
  go_enter_defers Try.func14, Try.ntmps14
  go_wp2_with (first
    | ((with_reducible refine gate_callee (f := 18) rfl ?_); go_loud (refine goesL_ (some 9) rfl rfl Try.func18 (by kernel_rfl) rfl #[.slice (some ad) l0.length c0] rfl (by (try simp only [List.map_toArray, List.map_cons, List.map_nil]); first | done | rfl) ?_; (refine (grams_Clone.calls _ _ l0 l0 _ HL.out hc0 (grams_Clone.eq l0 hl)).mono ?_); rintro e w1 ⟨v, rfl, ho, hb⟩; refine ⟨_, rfl, ?_⟩; obtain ⟨gr, c1, rfl, hgb, hgl, cells, hcells⟩ := Kd.R_form ho (by omega); clear hcells cells; have HGB := Aside0.mk hgb; have HGL := Aside0.mk hgl; clear hgb hgl; have HO := Aside0.mk ho; have HB := Aside0.mk hb; have hy0 : w1.cell? ⟨w.heap.size, 0, none⟩ = some (.slice (some ad) l0.length c0) := (hb.cell (p := ⟨w.heap.size, 0, none⟩) (by show _ < _; rw [HS3.out]; simp only; omega)).trans Z0.out; have hy1 : w1.cell? ⟨w.heap.size + 1, 0, none⟩ = some (.slice none 0 0) := (hb.cell (p := ⟨w.heap.size + 1, 0, none⟩) (by show _ < _; rw [HS3.out]; simp only; omega)).trans Z1.out; have hy2 : w1.frozen? ⟨w.heap.size + 1, 0, none⟩ = false := (hb.frozen (p := ⟨w.heap.size + 1, 0, none⟩) (by show _ < _; rw [HS3.out]; simp only; omega)).trans Z2.out; have hy3 : w1.cell? ⟨w.heap.size + 1 + 1, 0, none⟩ = some (.bool false) := (hb.cell (p := ⟨w.heap.size + 1 + 1, 0, none⟩) (by show _ < _; rw [HS3.out]; simp only; omega)).trans Z3.out; have hy4 : w1.frozen? ⟨w.heap.size + 1 + 1, 0, none⟩ = false := (hb.frozen (p := ⟨w.heap.size + 1 + 1, 0, none⟩) (by show _ < _; rw [HS3.out]; simp only; omega)).trans Z4.out; clear ho hb))
    | ((with_reducible refine gate_callee (f := 19) rfl ?_); go_loud (refine goesL_ (some 12) rfl rfl Try.func19 (by kernel_rfl) rfl #[.slice (some ad) l0.length c0, .int .i64 (k : Int)] rfl (by (try simp only [List.map_toArray, List.map_cons, List.map_nil]); first | done | rfl) ?_; (refine (the_there _ _ _ _ _).mono ?_); rintro e w2 ⟨rfl, rfl⟩; refine ⟨_, rfl, ?_⟩; rw [HN.out])))
  generalize hW5 : w1.setCell ⟨w.heap.size + 1, 0, none⟩ (.slice (some ⟨gr, 0, none⟩) l0.length c1) = w5
  have hb5 : Below w.heap.size w w5 := by
    subst hW5
    exact (HB0.out.trans (HB.out.mono HB0.out.size)).setCell (by simp) _
  have q0 := (hb5.cell (World.block_lt_of_cell? w _ X0.out)).trans X0.out
  have q1 := (hb5.cell (World.block_lt_of_cell? w _ X1.out)).trans X1.out
  have q2 := (hb5.cell (World.block_lt_of_cell? w _ X2.out)).trans X2.out
  have q3 : w5.cell? ⟨w.heap.size + 1, 0, none⟩ = some (.slice (some ⟨gr, 0, none⟩) l0.length c1) := by
    subst hW5
    exact World.cell?_setCell_same w1 _ _ hy1
  have q4 : w5.cell? ⟨w.heap.size, 0, none⟩ = some (.slice (some ad) l0.length c0) := by
    subst hW5
    rw [World.cell?_setCell_other _ _ _ _ (by intro e; injection e with e; omega)]
    exact hy0
  have q5 : w5.cell? ⟨w.heap.size + 1 + 1, 0, none⟩ = some (.bool false) := by
    subst hW5
    rw [World.cell?_setCell_other _ _ _ _ (by intro e; injection e with e; omega)]
    exact hy3
  have HW5 := Aside0.mk hW5
  clear hW5
  refine start_ (n := 10) (S := fun w' => w'.cell? ⟨w.heap.size + 1, 0, none⟩ = some (.slice (some ⟨gr, 0, none⟩) l0.length c1) ∧ w'.cell? ⟨w.heap.size, 0, none⟩ = some (.slice (some ad) l0.length c0) ∧ w'.cell? (ad.add (k * 3)) = some (.int .i64 (rd_T24 l0 (k : Int)).f0) ∧ w'.cell? ⟨(ad.add (k * 3)).block, (ad.add (k * 3)).off + 1, none⟩ = some (.string (rd_T24 l0 (k : Int)).f1) ∧ w'.cell? ⟨(ad.add (k * 3)).block, (ad.add (k * 3)).off + 2, none⟩ = some (.bool (rd_T24 l0 (k : Int)).f2)) (ds := []) #[false, false, false, false, false, false, false, false, false, false] (by kernel_rfl) rfl rfl ⟨q3, q4, q0, q1, q2⟩ (fun hHeld => ?_)
  generalize hW6 : w5.drew = w6 at hHeld ⊢
  refine take_ (i := 0) (N := some 16) (v := ?_) (a' := ?_) #[true, false, false, false, false, false, false, false, false, false] rfl rfl (by kernel_rfl) (fun c a w h => panic_put 16 (by decide) (by decide) c a w _ h) (Or.inl ⟨by rfl, ?_⟩) hHeld ?_ ?_
  rotate_left
  · rintro w' ⟨s0, s1, s2, s3, s4⟩
    go_simp
    with_reducible rfl
  rotate_left
  · simp only [Act.put, List.setIfInBounds_toArray, List.set_cons_zero, List.set_cons_succ, i64_w, i32_w]
    rfl
  refine pure_ (i := 1) (N := some 17) (v := ?_) (a' := ?_) #[true, true, false, false, false, false, false, false, false, false] rfl rfl (by kernel_rfl) (fun c a w h => panic_put 17 (by decide) (by decide) c a w _ h) (Or.inl ⟨by rfl, ?_⟩) ?_ ?_
  rotate_left
  · intro w'
    go_simp
    with_reducible rfl
  rotate_left
  · simp only [Act.put, List.setIfInBounds_toArray, List.set_cons_zero, List.set_cons_succ, i64_w, i32_w]
    rfl
  refine take_ (i := 2) (N := some 18) (v := ?_) (a' := ?_) #[true, true, true, false, false, false, false, false, false, false] rfl rfl (by kernel_rfl) (fun c a w h => panic_put 18 (by decide) (by decide) c a w _ h) (Or.inl ⟨by rfl, ?_⟩) hHeld ?_ ?_
  rotate_left
  · rintro w' ⟨s0, s1, s2, s3, s4⟩
    go_simp
    with_reducible rfl
  rotate_left
  · simp only [Act.put, List.setIfInBounds_toArray, List.set_cons_zero, List.set_cons_succ, i64_w, i32_w]
    rfl
  refine pure_ (i := 3) (N := some 19) (v := ?_) (a' := ?_) #[true, true, true, true, false, false, false, false, false, false] rfl rfl (by kernel_rfl) (fun c a w h => panic_put 19 (by decide) (by decide) c a w _ h) (Or.inl ⟨by rfl, ?_⟩) ?_ ?_
  rotate_left
  · intro w'
    go_simp
    with_reducible rfl
  rotate_left
  · simp only [Act.put, List.setIfInBounds_toArray, List.set_cons_zero, List.set_cons_succ, i64_w, i32_w]
    rfl
  refine pure_ (i := 4) (N := some 20) (v := ?_) (a' := ?_) #[true, true, true, true, true, false, false, false, false, false] rfl rfl (by kernel_rfl) (fun c a w h => panic_put 20 (by decide) (by decide) c a w _ h) (Or.inl ⟨by rfl, ?_⟩) ?_ ?_
  rotate_left
  · intro w'
    go_simp
    with_reducible rfl
  rotate_left
  · simp only [Act.put, List.setIfInBounds_toArray, List.set_cons_zero, List.set_cons_succ, i64_w, i32_w]
    rfl
  refine take_ (i := 5) (N := some 21) (v := ?_) (a' := ?_) #[true, true, true, true, true, true, false, false, false, false] rfl rfl (by kernel_rfl) (fun c a w h => panic_put 21 (by decide) (by decide) c a w _ h) (Or.inl ⟨by rfl, ?_⟩) hHeld ?_ ?_
  rotate_left
  · rintro w' ⟨s0, s1, s2, s3, s4⟩
    go_simp
    with_reducible rfl
  rotate_left
  · simp only [Act.put, List.setIfInBounds_toArray, List.set_cons_zero, List.set_cons_succ, i64_w, i32_w]
    rfl
  refine pure_ (i := 6) (N := some 22) (v := ?_) (a' := ?_) #[true, true, true, true, true, true, true, false, false, false] rfl rfl (by kernel_rfl) (fun c a w h => panic_put 22 (by decide) (by decide) c a w _ h) (Or.inl ⟨by rfl, ?_⟩) ?_ ?_
  rotate_left
  · intro w'
    go_simp
    with_reducible rfl
  rotate_left
  · simp only [Act.put, List.setIfInBounds_toArray, List.set_cons_zero, List.set_cons_succ, i64_w, i32_w]
    rfl
  refine one_ (i := 7) (N := some 23) #[true, true, true, true, true, true, true, true, false, false] rfl rfl (by kernel_rfl) (by decide) (fun K hK => ?_)
  have hb6 : Below w.heap.size w w6 := by
    subst hW6
    exact below_drew hb5
  have hgr : w.heap.size + 1 + 1 + 1 ≤ gr := by
    have := HGB.out
    rw [HS3.out] at this
    exact this
  have hs6 : gr < w6.heap.size := by
    subst hW6
    show _ < w5.heap.size
    rw [← HW5.out]
    exact Nat.lt_of_lt_of_le HGL.out ((Below.refl 0 w1).setCell (Nat.zero_le _) _).size
  have hO6 : Kd.R k24 24 w6 (w.heap.size + 1 + 1 + 1) (fun k => True ∧ w.heap.size + 1 + 1 + 1 ≤ k) (.slice (some ⟨gr, 0, none⟩) l0.length c1) l0 := by
    have h := Kd.R_mono (ok' := fun k => True ∧ w.heap.size + 1 + 1 + 1 ≤ k) (Kd.R_bound HO.out) (fun k hk => by have := hk.2.1; rw [HS3.out] at this; exact ⟨trivial, this⟩)
    rw [HS3.out] at h
    subst hW6
    rw [← HW5.out]
    exact Kd.R_drew (Kd.R_far h (fun k hk => by have := hk.2; simp only; omega) _)
  refine goes_ Try.func22 (by kernel_rfl) rfl #[.agg #[.int .i64 (rd_T24 l0 (k : Int)).f0, .string (rd_T24 l0 (k : Int)).f1, .bool (rd_T24 l0 (k : Int)).f2], .int .i64 a2] (by rfl) rfl rfl (by (try simp only [List.map_toArray, List.map_cons, List.map_nil]); first | done | rfl) ?_
  refine (turns_yes (rd_T24 l0 (k : Int)) a2 g _ ha2 hbs hg).mono ?_
  rintro e w7 ⟨rfl, hb7⟩
  refine ⟨_, rfl, ?_⟩
  have hb67 : Below w.heap.size w w7 := hb6.trans (hb7.mono hb6.size)
  have r0 : w7.cell? ⟨w.heap.size, 0, none⟩ = some (.slice (some ad) l0.length c0) := (hb7.cell (by show _ < _; simp only; omega)).trans hHeld.2.1
  have r1 : w7.cell? ⟨w.heap.size + 1, 0, none⟩ = some (.slice (some ⟨gr, 0, none⟩) l0.length c1) := (hb7.cell (by show _ < _; simp only; omega)).trans hHeld.1
  have r2 : w7.cell? ⟨w.heap.size + 1 + 1, 0, none⟩ = some (.bool false) := (hb7.cell (by show _ < _; simp only; omega)).trans (by rw [← hW6]; exact q5)
  have r3 : w7.frozen? ⟨w.heap.size + 1, 0, none⟩ = false := (hb7.frozen (by show _ < _; simp only; omega)).trans (by rw [← hW6]; show w5.frozen? _ = _; rw [← HW5.out]; simp [hy2])
  have r4 : w7.frozen? ⟨w.heap.size + 1 + 1, 0, none⟩ = false := (hb7.frozen (by show _ < _; simp only; omega)).trans (by rw [← hW6]; show w5.frozen? _ = _; rw [← HW5.out]; simp [hy4])
  have hO7 := Kd.R_below hO6 hb7
  have u0 := (hb67.cell (World.block_lt_of_cell? w _ X0.out)).trans X0.out
  have u1 := (hb67.cell (World.block_lt_of_cell? w _ X1.out)).trans X1.out
  have u2 := (hb67.cell (World.block_lt_of_cell? w _ X2.out)).trans X2.out
  refine hK.out _ _ ⟨r1, r0, u0, u1, u2⟩ (fun hHeld => ?_)
  clear hK K
  refine norm_ (a' := ?_) ?_ ?_
  rotate_left
  · show Act.put _ (some 23) _ = _
    simp only [Act.put, List.setIfInBounds_toArray, List.set_cons_zero, List.set_cons_succ, i64_w, i32_w]
    rfl
  obtain ⟨ce, hcl, hM, hcc, hfr⟩ := Kd.R_elem hO7 z24 (k : Int) (by omega) (by omega)
  obtain rfl := k24_openM hM
  have hc0 : w7.cell? ⟨gr, k * 3, none⟩ = some _ := hcc 0 _ rfl
  have hc1 : w7.cell? ⟨gr, k * 3 + 1, none⟩ = some _ := hcc 1 _ rfl
  have hc2 : w7.cell? ⟨gr, k * 3 + 2, none⟩ = some _ := hcc 2 _ rfl
  have hf0 : w7.frozen? ⟨gr, k * 3, none⟩ = false := hfr 0
  have hf1 : w7.frozen? ⟨gr, k * 3 + 1, none⟩ = false := hfr 1
  have hf2 : w7.frozen? ⟨gr, k * 3 + 2, none⟩ = false := hfr 2
  refine pure_ (i := 8) (N := some 24) (v := ?_) (a' := ?_) #[true, true, true, true, true, true, true, true, true, false] rfl rfl (by kernel_rfl) (fun c a w h => panic_put 24 (by decide) (by decide) c a w _ h) (Or.inl ⟨by rfl, ?_⟩) ?_ ?_
  rotate_left
  · intro w'
    go_simp
    with_reducible rfl
  rotate_left
  · simp only [Act.put, List.setIfInBounds_toArray, List.set_cons_zero, List.set_cons_succ, i64_w, i32_w]
    rfl
  refine one_ (i := 9) (N := none) #[true, true, true, true, true, true, true, true, true, true] rfl rfl (by kernel_rfl) (by decide) (fun K hK => ?_)
  refine skip_ (w1 := ?_) (by rfl) rfl ?_ ?_
  rotate_left
  · go_simp
    rfl
  have hsg := Kd.R_seg (seg := [.int .i64 g.f0, .string g.f1, .bool g.f2]) (j := 0) hO7 (k : Int) (by omega) (by omega) (c := [.int .i64 (rd_T24 l0 (k : Int)).f0, .string (rd_T24 l0 (k : Int)).f1, .bool (rd_T24 l0 (k : Int)).f2]) rfl hcc (Nat.le_refl 3) (x' := g) (okp := fun _ => False) (k24_mkM _ _ _ _) (fun _ h => h.elim)
  have HS8 : Aside0 (Kd.R k24 24 (((w7.setCell ⟨gr, k * 3, none⟩ (.int .i64 g.f0)).setCell ⟨gr, k * 3 + 1, none⟩ (.string g.f1)).setCell ⟨gr, k * 3 + 2, none⟩ (.bool g.f2)) (w.heap.size + 1 + 1 + 1) (fun k => True ∧ w.heap.size + 1 + 1 + 1 ≤ k) (.slice (some ⟨gr, 0, none⟩) l0.length c1) (l0.set k g)) := Aside0.mk hsg.1
  clear hsg
  have hb78 : Below gr w7 (((w7.setCell ⟨gr, k * 3, none⟩ (.int .i64 g.f0)).setCell ⟨gr, k * 3 + 1, none⟩ (.string g.f1)).setCell ⟨gr, k * 3 + 2, none⟩ (.bool g.f2)) := (((Below.refl gr w7).setCell (Nat.le_refl _) _).setCell (Nat.le_refl _) _).setCell (Nat.le_refl _) _
  clear hcc hfr hM hc0 hc1 hc2 hf0 hf1 hf2
  generalize ((w7.setCell ⟨gr, k * 3, none⟩ (.int .i64 g.f0)).setCell ⟨gr, k * 3 + 1, none⟩ (.string g.f1)).setCell ⟨gr, k * 3 + 2, none⟩ (.bool g.f2) = w8 at HS8 hb78 ⊢
  have p0 := (hb78.cell (p := ⟨w.heap.size, 0, none⟩) (by show _ < _; simp only; omega)).trans r0
  have p1 := (hb78.cell (p := ⟨w.heap.size + 1, 0, none⟩) (by show _ < _; simp only; omega)).trans r1
  have p2 := (hb78.cell (p := ⟨w.heap.size + 1 + 1, 0, none⟩) (by show _ < _; simp only; omega)).trans r2
  have p3 := (hb78.frozen (p := ⟨w.heap.size + 1, 0, none⟩) (by show _ < _; simp only; omega)).trans r3
  have p4 := (hb78.frozen (p := ⟨w.heap.size + 1 + 1, 0, none⟩) (by show _ < _; simp only; omega)).trans r4
  have hb8 : Below w.heap.size w w8 := hb67.trans (hb78.mono (by omega))
  have v0 := (hb8.cell (World.block_lt_of_cell? w _ X0.out)).trans X0.out
  have v1 := (hb8.cell (World.block_lt_of_cell? w _ X1.out)).trans X1.out
  have v2 := (hb8.cell (World.block_lt_of_cell? w _ X2.out)).trans X2.out
  refine hK.out _ _ ⟨p1, p0, v0, v1, v2⟩ (fun hHeld => ?_)
  clear hK K
  refine done_ (by kernel_rfl) ?_
  clear v0 v1 v2 u0 u1 u2 hHeld r0 r1 r2 r3 r4 q0 q1 q2 q3 q4 q5 hb78
  try go_wp2
  refine leaves_cons (f := 21) (args := #[.pointer (some ⟨w.heap.size, 0, none⟩), .pointer (some ⟨w.heap.size + 1, 0, none⟩), .pointer (some ⟨w.heap.size + 1 + 1, 0, none⟩)]) (by simp) (by simp [go_sem]) ?_
  refine (catch_idle _ _ _ _).mono ?_
  rintro e u' w9 ⟨rfl, rfl, rfl⟩
  show Leaves Try.prog Try.f14 _ _ [] .returning _
  refine ⟨.tuple #[.slice (some ⟨gr, 0, none⟩) l0.length c1, .bool true], ?_, _, rfl, ?_, ?_⟩
  · simp [results, Try.results14, go_sem, p1, p2]
  · have hR' := Kd.R_lower (base' := w.heap.size) HS8.out (by omega)
    exact Kd.R_mono (Kd.R_far (Kd.R_far hR' (fun k hk => by have := hk.2; simp only; omega) _) (fun k hk => by have := hk.2; simp only; omega) _) (fun _ _ => trivial)
  · exact (hb8.setCell (by simp only; omega) _).setCell (by simp only; omega) _

def net_Turned.f (l0 : List (S24)) (a1 : Int) (a2 : Int) : Option (List (S24) × Bool) := if l0.length < 4398046511104 ∧ a2 ≤ 9223372036854775807 ∧ (rd_T24 l0 a1).f1.size ≤ 1000000 then (if 0 ≤ a1 ∧ a1 < (l0.length : Int) then (match turnsP (rd_T24 l0 a1) a2 with | some g => some (l0.set a1.toNat g, true) | none => some (l0, false)) else some (l0, false)) else none
theorem net_Turned.calls (A0 : Option Addr) (c0 : Nat) (l0 : List (S24)) (a1 : Int) (a2 : Int) (r1 : List (S24)) (r2 : Bool) (w : World) (hr0 : Kd.C k24 w A0 l0.length l0) (hc0 : l0.length ≤ c0) (h : net_Turned.f l0 a1 a2 = some (r1, r2)) :
    Calls Try.prog 14 #[.slice A0 l0.length c0, .int .i64 a1, .int .i64 a2] w fun e w' => ∃ v0_ : Value, e = .returned (.tuple #[v0_, .bool r2]) ∧ Kd.R k24 24 w' w.heap.size (fun _ => True) v0_ r1 ∧ Below w.heap.size w w' := by
  unfold net_Turned.f at h
  by_cases hl : l0.length < 4398046511104 ∧ a2 ≤ 9223372036854775807 ∧ (rd_T24 l0 a1).f1.size ≤ 1000000
  case neg => rw [if_neg hl] at h; exact absurd h (by simp)
  rw [if_pos hl] at h
  by_cases hc : 0 ≤ a1 ∧ a1 < (l0.length : Int)
  · rw [if_pos hc] at h
    obtain ⟨k, rfl⟩ : ∃ k : Nat, a1 = k := ⟨a1.toNat, by omega⟩
    cases hg : turnsP (rd_T24 l0 (k : Int)) a2 with
    | none =>
      rw [hg] at h
      simp only [Option.some.injEq, Prod.mk.injEq] at h
      obtain ⟨rfl, rfl⟩ := h
      exact net_Turned_no A0 c0 l0 k a2 w hr0 hc0 hl.1 (by omega) hg
    | some g =>
      rw [hg] at h
      simp only [Option.some.injEq, Prod.mk.injEq] at h
      obtain ⟨rfl, rfl⟩ := h
      rw [Int.toNat_natCast]
      exact net_Turned_yes A0 c0 l0 k a2 w hr0 hc0 hl.1 (by omega) hl.2.1 hl.2.2 g hg
  · rw [if_neg hc] at h
    simp only [Option.some.injEq, Prod.mk.injEq] at h
    obtain ⟨rfl, rfl⟩ := h
    exact net_Turned_out A0 c0 l0 a1 a2 w hr0 hc0 hl.1 hc

end Go.Proofs.Ytcbdkieconckdaa.L
