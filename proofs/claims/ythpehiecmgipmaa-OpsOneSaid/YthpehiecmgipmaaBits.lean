/- What the inner functions of bits do (a number's or a text's bytes from the front, where a deferred call catches 'short'), as contracts over memory; bytes from 0 to 255. -/
import Derived.Test.YthpehiecmgipmaaLx0
import Derived.WalkSpells
import Derived.Shelf.Abstract
import Derived.Lib.ConvBytes
import Derived.Defers
import Derived.Recover
import Derived.WalkLawsBesides
import Derived.Lib.Strings
namespace Go.Proofs.Ythpehiecmgipmaa.L
set_option linter.unusedSimpArgs false
set_option linter.unusedVariables false
open Go.RowKit Go.Proofs.YthpehiecmgipmaaW.PrintWords Go.Proofs.YthpehiecmgipmaaW.PrintLast Go.Proofs.YthpehiecmgipmaaW.PrintMore

/-- What a reader panics with, in bits (127) and in ops (92). -/
def shortAt (t : Nat) : List PanicEntry := [{ v := .iface t (.agg #[]), recovered := false }]
theorem front_no (A : Option Addr) (n c : Nat) (k : Int) (w : World) (h : (n : Int) < k) :
    Calls Try.prog 55 #[.slice A n c, .int .i64 k] w fun e w' => e = .panicked (shortAt 127) ∧ w' = w := by
  have hd : decide ((n : Int) < k) = true := decide_eq_true h
  clear h
  go_enter Try.func55, Try.ntmps55
  go_wp2
  exact ⟨rfl, rfl, rfl⟩
theorem front_ok (A : Option Addr) (n c k : Nat) (w : World) (h : k ≤ n) (hc : n ≤ c) :
    Calls Try.prog 55 #[.slice A n c, .int .i64 (k : Int)] w fun e w' => e = .returned (.slice A k c) ∧ w' = w := by
  have hd : decide ((n : Int) < (k : Int)) = false := decide_eq_false (by omega)
  have hd2 : decide (n < k) = false := decide_eq_false (by omega)
  have h1 : 0 ≤ (k : Int) := by omega
  have h2 : k ≤ c := by omega
  go_enter Try.func55, Try.ntmps55
  go_wp2
  go_ret
  exact ⟨rfl, rfl⟩

theorem caught_idle (p : Addr) (w : World) :
    CallsD Try.prog 54 #[.pointer (some p)] .returning w fun e u' w' => e = .returned (.tuple #[]) ∧ u' = .returning ∧ w' = w := by
  refine callsD_of_wpS Try.func54 rfl fun c₀ cs hu => ?_
  apply wpS_seq
  apply wpS_region
  simp [wpOpsS, go_sem, recoverD, hu, Try.ntmps54, Exit.thenS]
  apply wpS_seq
  apply wpS_region
  simp [wpOpsS, go_sem, recoverD, hu, Exit.thenS]
  refine wpS_cond (t := false) (by simp [Act.eval, Array.replicate]) ?_
  simp only [Bool.false_eq_true, if_false]
  refine wpS_of_wp (wp_skip ?_)
  cases c₀
  simp_all [bodyPostS, results, Try.results54]

set_option maxHeartbeats 1000000 in
set_option maxRecDepth 10000 in
theorem caught_short (p : Nat) (w : World) (v1 : Value) (hq : w.cell? ⟨p, 0, none⟩ = some v1) (hqf : w.frozen? ⟨p, 0, none⟩ = false) :
    CallsD Try.prog 54 #[.pointer (some ⟨p, 0, none⟩)] (.panicking (shortAt 127)) w fun e u' w' =>
      e = .returned (.tuple #[]) ∧ u' = .panicking [{ v := .iface 127 (.agg #[]), recovered := true }] ∧ w' = (w.setCell ⟨p, 0, none⟩ (.bool false)).alloc (.cells #[] 127) := by
  refine callsD_of_wpS Try.func54 rfl fun c₀ cs hu => ?_
  unfold shortAt at hu
  apply wpS_seq
  apply wpS_region
  simp [wpOpsS, go_sem, recoverD, hu, Try.ntmps54, Exit.thenS]
  refine wpS_of_wp ?_
  have ht : (#[.pointer (some ⟨p, 0, none⟩)] ++ ((Array.replicate 17 undef).setIfInBounds 4 (.iface 127 (.agg #[]))).setIfInBounds 1 (.iface 127 (.agg #[])) : Array Value) = #[.pointer (some ⟨p, 0, none⟩), undef, .iface 127 (.agg #[]), undef, undef, .iface 127 (.agg #[]), undef, undef, undef, undef, undef, undef, undef, undef, undef, undef, undef, undef] := rfl
  rw [ht]
  clear ht
  generalize hQ : (fun (e : Exit) (a' : Act) (w' : World) => bodyPostS _ _ _ _ _ e a' _ w') = Q
  have HQ := Aside0.mk hQ
  clear hQ
  have HU := Aside0.mk hu
  clear hu
  have hp1 : p < w.heap.size := World.block_lt_of_cell? w _ hq
  have hp2 : p ≠ w.heap.size := by omega
  have hta : ∀ w : World, Sem.run Try.prog (Instr.typeAssert (Value.iface 127 (Value.agg #[])) 20 127 true) w = .ok (.tuple #[.agg #[], .bool true]) w := fun _ => rfl
  go_wp2
  obtain rfl := HQ.out
  exact ⟨rfl, _, rfl, _, results_list (rs := []) rfl (by simp) .nil, rfl, rfl, rfl⟩

/-- The number that bytes are, the greatest byte ahead. -/
def valOf (l : List Int) : Int := l.foldl (fun v x => v * 256 + x) 0
def inBytes (l : List Int) : Prop := ∀ x ∈ l, 0 ≤ x ∧ x < 256
set_option maxHeartbeats 1000000 in
theorem bTake_no (A : Option Addr) (n c k : Nat) (w : World) (hk1 : 1 ≤ k) (hk2 : k ≤ 2) (h : n < k) :
    Calls Try.prog 46 #[.slice A n c, .int .i64 (k : Int)] w fun e w' => e = .returned (.tuple #[.int .i64 0, .bool false]) ∧ Below w.heap.size w w' := by
  have hd1 : decide ((k : Int) < 1) = false := decide_eq_false (by omega)
  have hd2 : decide (7 < (k : Int)) = false := decide_eq_false (by omega)
  have hd3 : decide (k < 1) = false := decide_eq_false (by omega)
  have hd4 : decide (7 < k) = false := decide_eq_false (by omega)
  go_enter_defers Try.func46, Try.ntmps46
  go_wp2_with (go_at_call 55; refine (front_no A n c k _ (by omega)).mono ?_; rintro e w' ⟨rfl, rfl⟩)
  refine leaves_cons (f := 54) (args := #[.pointer (some ⟨w.heap.size, 0, none⟩)]) (by simp) (by simp [go_sem]) ?_
  refine (caught_short w.heap.size _ (.bool false) (by simp [go_sem]) (by simp [go_sem])).mono ?_
  rintro e u' w8 ⟨rfl, rfl, rfl⟩
  show Leaves Try.prog Try.f46 _ _ [] .returning _
  refine ⟨.tuple #[.int .i64 0, .bool false], by simp [results, Try.results46, go_sem], rfl, ?_⟩
  exact below_alloc (((below_alloc (Below.refl w.heap.size w) (.cells #[.bool false] 4))).setCell (Nat.le_refl _) _) _

theorem valOf_snoc (l : List Int) (x : Int) : valOf (l ++ [x]) = valOf l * 256 + x := by unfold valOf; rw [List.foldl_append]; rfl
theorem valOf_take (l : List Int) (i : Nat) (h : i < l.length) : valOf (l.take (i + 1)) = valOf (l.take i) * 256 + rd l i := by
  rw [List.take_succ_eq_append_getElem h, valOf_snoc]
  unfold rd
  rw [Int.toNat_natCast, List.getD_eq_getElem?_getD, List.getElem?_eq_getElem h]; rfl
theorem inBytes_rd {l : List Int} (hb : inBytes l) (i : Nat) (h : i < l.length) : 0 ≤ rd l i ∧ rd l i < 256 := by
  unfold rd
  rw [Int.toNat_natCast, List.getD_eq_getElem?_getD, List.getElem?_eq_getElem h]
  exact hb _ (List.getElem_mem h)
theorem valOf_bd {l : List Int} (hb : inBytes l) : ∀ i : Nat, i ≤ l.length → i ≤ 2 → 0 ≤ valOf (l.take i) ∧ valOf (l.take i) < 65536
  | 0, _, _ => by simp [valOf]
  | 1, h, _ => by
    rw [valOf_take l 0 (by omega)]
    have := inBytes_rd hb 0 (by omega)
    simp [valOf] at *
    omega
  | 2, h, _ => by
    rw [valOf_take l 1 (by omega), valOf_take l 0 (by omega)]
    have h0 := inBytes_rd hb 0 (by omega)
    have h1 := inBytes_rd hb 1 (by omega)
    simp [valOf] at *
    omega
theorem or_bytes (v x : Int) (h0 : 0 ≤ v) (h1 : v < 65536) (h2 : 0 ≤ x) (h3 : x < 256) : Go.bits .or .i64 (v * 256) x = v * 256 + x :=
  bits_join .i64 62 (by decide) (fun n h0 h1 => by rw [IntKind.wrap_i64]; omega) 8 (v * 256) x (by omega) (by omega) (by omega) h2 (by omega) (by omega)

set_option maxHeartbeats 1000000 in
theorem bTake_ok (A : Option Addr) (c k : Nat) (l : List Int) (w : World) (hk1 : 1 ≤ k) (hk2 : k ≤ 2) (h : k ≤ l.length) (hc : l.length ≤ c) (hC : Kd.C (Kd.int .u8) w A l.length l) (hb : inBytes l) :
    Calls Try.prog 46 #[.slice A l.length c, .int .i64 (k : Int)] w fun e w' => e = .returned (.tuple #[.int .i64 (valOf (l.take k)), .bool true]) ∧ Below w.heap.size w w' := by
  have hd1 : decide ((k : Int) < 1) = false := decide_eq_false (by omega)
  have hd2 : decide (7 < (k : Int)) = false := decide_eq_false (by omega)
  have hd3 : decide (k < 1) = false := decide_eq_false (by omega)
  have hd4 : decide (7 < k) = false := decide_eq_false (by omega)
  have HC := Aside0.mk hC
  clear hC
  go_enter_defers Try.func46, Try.ntmps46
  go_wp2_with (go_at_call 55; refine (front_ok A l.length c k _ h hc).mono ?_; rintro e w' ⟨rfl, rfl⟩)
  go_loop [4, 18] (fun v i => ∃ j : Nat, j ≤ k ∧ i = .int .i64 j ∧ v = .int .i64 (valOf (l.take j))) (fun _ i => k - (intOf i).toNat)
  case atStart => exact ⟨0, Nat.zero_le _, rfl, rfl⟩
  case round =>
    obtain ⟨j, hj, rfl, rfl⟩ := hrel
    have hv := valOf_bd hb j (by omega) (by omega)
    rcases Nat.lt_or_ge j k with hlt | hge
    · have hx := inBytes_rd hb j (by omega)
      obtain ⟨ad, e, hx0⟩ := Kd.at_int HC.out (j : Int) (by omega) (by omega)
      cases e
      rw [Int.toNat_natCast] at hx0
      replace hx0 := ((below_alloc (Below.refl w.heap.size w) (.cells #[.bool false] 4)).cell (World.block_lt_of_cell? w _ hx0)).trans hx0
      have hs := valOf_take l j (by omega)
      have ho := or_bytes (valOf (l.take j)) (rd l j) hv.1 hv.2 hx.1 hx.2
      have HS := Aside0.mk hs
      have HO := Aside0.mk ho
      clear hs ho
      go_wp2
      go_round
      case rel => exact ⟨j + 1, by omega, by go_num, by rw [HS.out, ← HO.out]⟩
      case measure => simp [intOf]; omega
    · obtain rfl : j = k := by omega
      go_wp2
      refine leaves_cons (f := 54) (args := #[.pointer (some ⟨w.heap.size, 0, none⟩)]) (by simp) (by simp [go_sem]) ?_
      refine (caught_idle _ _).mono ?_
      rintro e u' w8 ⟨rfl, rfl, rfl⟩
      show Leaves Try.prog Try.f46 _ _ [] .returning _
      refine ⟨.tuple #[.int .i64 (valOf (l.take j)), .bool true], by simp [results, Try.results46, go_sem], rfl, ?_⟩
      exact below_alloc (Below.refl _ _) _

set_option maxHeartbeats 1000000 in
theorem tText_nil (A : Option Addr) (c : Nat) (w : World) :
    Calls Try.prog 56 #[.slice A 0 c] w fun e w' => e = .returned (.tuple #[.string ⟨#[]⟩, .int .i64 0, .bool false]) ∧ Below w.heap.size w w' := by
  go_enter_defers Try.func56, Try.ntmps56
  go_wp2_with (go_at_call 55; refine (front_no A 0 c 1 _ (by omega)).mono ?_; rintro e w' ⟨rfl, rfl⟩)
  refine leaves_cons (f := 54) (args := #[.pointer (some ⟨w.heap.size, 0, none⟩)]) (by simp) (by simp [go_sem]) ?_
  refine (caught_short w.heap.size _ (.bool false) (by simp [go_sem]) (by simp [go_sem])).mono ?_
  rintro e u' w8 ⟨rfl, rfl, rfl⟩
  show Leaves Try.prog Try.f56 _ _ [] .returning _
  refine ⟨.tuple #[.string ⟨#[]⟩, .int .i64 0, .bool false], by simp [results, Try.results56, go_sem], rfl, ?_⟩
  exact below_alloc (((below_alloc (Below.refl w.heap.size w) (.cells #[.bool false] 4))).setCell (Nat.le_refl _) _) _

set_option maxHeartbeats 1000000 in
theorem tText_no (A : Option Addr) (c : Nat) (l : List Int) (w : World) (hp : 0 < l.length) (hc : l.length ≤ c) (hl : l.length < 4398046511104) (hC : Kd.C (Kd.int .u8) w A l.length l) (hb : inBytes l) (h : (l.length : Int) < rd l 0 + 1) :
    Calls Try.prog 56 #[.slice A l.length c] w fun e w' => e = .returned (.tuple #[.string ⟨#[]⟩, .int .i64 0, .bool false]) ∧ Below w.heap.size w w' := by
  have hx := inBytes_rd hb 0 (by omega)
  rw [show ((0 : Nat) : Int) = 0 from rfl] at hx
  obtain ⟨ad, e, hx0⟩ := Kd.at_int hC 0 (by omega) (by omega)
  cases e
  rw [show ((0 : Int)).toNat = 0 from rfl, Addr.add_zero'] at hx0
  replace hx0 := ((below_alloc (Below.refl w.heap.size w) (.cells #[.bool false] 4)).cell (World.block_lt_of_cell? w _ hx0)).trans hx0
  have hd : decide ((l.length : Int) < rd l 0 + 1) = true := decide_eq_true h
  clear hC
  go_enter_defers Try.func56, Try.ntmps56
  go_wp2_with (go_at_call 55; refine (front_ok (some ad) l.length c 1 _ (by omega) hc).mono ?_; rintro e w' ⟨rfl, rfl⟩)
  refine leaves_cons (f := 54) (args := #[.pointer (some ⟨w.heap.size, 0, none⟩)]) (by simp) (by simp [go_sem]) ?_
  refine (caught_idle _ _).mono ?_
  rintro e u' w8 ⟨rfl, rfl, rfl⟩
  show Leaves Try.prog Try.f56 _ _ [] .returning _
  refine ⟨.tuple #[.string ⟨#[]⟩, .int .i64 0, .bool false], by simp [results, Try.results56, go_sem], rfl, ?_⟩
  exact below_alloc (Below.refl _ _) _

set_option maxHeartbeats 1000000 in
set_option maxRecDepth 100000 in
theorem tText_ok (A : Option Addr) (c : Nat) (l : List Int) (w : World) (hp : 0 < l.length) (hc : l.length ≤ c) (hl : l.length < 4398046511104) (hC : Kd.C (Kd.int .u8) w A l.length l) (hb : inBytes l) (h : rd l 0 + 1 ≤ (l.length : Int)) :
    Calls Try.prog 56 #[.slice A l.length c] w fun e w' => e = .returned (.tuple #[.string (strOfNums ((l.take (rd l 0 + 1).toNat).drop 1)), .int .i64 (rd l 0 + 1), .bool true]) ∧ Below w.heap.size w w' := by
  have hx := inBytes_rd hb 0 (by omega)
  rw [show ((0 : Nat) : Int) = 0 from rfl] at hx
  obtain ⟨ad, e, hx0⟩ := Kd.at_int hC 0 (by omega) (by omega)
  cases e
  rw [show ((0 : Int)).toNat = 0 from rfl, Addr.add_zero'] at hx0
  replace hx0 := ((below_alloc (Below.refl w.heap.size w) (.cells #[.bool false] 4)).cell (World.block_lt_of_cell? w _ hx0)).trans hx0
  have hd : decide ((l.length : Int) < rd l 0 + 1) = false := decide_eq_false (by omega)
  obtain ⟨i07, hi07, _, hsz7, _⟩ := info_parts info5
  obtain ⟨A7, hcut7, hA7, hC7⟩ := print_mid_of (P := Try.prog) (Value.int .u8) 0 22 5 .i64 .i64 Try.underlying22 hi07 hsz7 (some ad) c l 1 (rd l 0 + 1) (by omega) (by omega) h hc
  have HR := Kd.C_of_reads (h1 := fun _ => rfl) (hA7 _ (Kd.reads_of_C (Kd.C_below hC (below_alloc (Below.refl w.heap.size w) (.cells #[.bool false] 4)))))
  have hcv8 := Kd.C_string (P := Try.prog) (A := A7) (c := (c - 1)) Try.underlying22 Try.underlying5 Try.underlying9 HR
  have hlen : ((l.take (rd l 0 + 1).toNat).drop (Int.toNat 1)).length = (rd l 0 + 1).toNat - 1 := by
    rw [List.length_drop, List.length_take]
    have : (rd l 0 + 1).toNat ≤ l.length := by omega
    rw [Nat.min_eq_left this]; rfl
  rw [hlen] at hcut7 hcv8
  have HR' := Aside0.mk HR
  have HA7 := Aside0.mk hA7
  have HC7 := Aside0.mk hC7
  clear HR hA7 hC7 hC hlen
  go_enter_defers Try.func56, Try.ntmps56
  go_wp2_with (go_at_call 55; refine (front_ok (some ad) l.length c 1 _ (by omega) hc).mono ?_; rintro e w' ⟨rfl, rfl⟩)
  refine leaves_cons (f := 54) (args := #[.pointer (some ⟨w.heap.size, 0, none⟩)]) (by simp) (by simp [go_sem]) ?_
  refine (caught_idle _ _).mono ?_
  rintro e u' w8 ⟨rfl, rfl, rfl⟩
  show Leaves Try.prog Try.f56 _ _ [] .returning _
  refine ⟨.tuple #[.string (strOfNums ((l.take (rd l 0 + 1).toNat).drop 1)), .int .i64 (rd l 0 + 1), .bool true], by simp [results, Try.results56, go_sem], rfl, ?_⟩
  exact below_alloc (Below.refl _ _) _
end Go.Proofs.Ythpehiecmgipmaa.L
