/- What the printed functions of ops and of the reference's sameness come to: with rounds enough, plain functions on lists. No conditions beyond each theorem's own. -/
import Derived.Test.YthpehiecmgipmaaLx4
import Derived.Test.YthpehiecmgipmaaEnc
namespace Go.Proofs.Ythpehiecmgipmaa.L
set_option linter.unusedSimpArgs false
set_option linter.unusedVariables false
open Go.RowKit Go.Proofs.YthpehiecmgipmaaW.PrintWords Go.Proofs.YthpehiecmgipmaaW.PrintLast Go.Proofs.YthpehiecmgipmaaW.PrintMore

theorem shr_0 (v : Int) : shr .i64 v 0 = v := by unfold shr; simp
theorem shr_8 (v : Int) : shr .i64 v 8 = v / 256 := by unfold shr; simp [IntKind.bits]
theorem put1 (l : List Int) (v : Int) (hl : l.length < 1000000000) : Ev (fun k => bits_Put.f k l v 1) (l ++ [v % 256]) := by
  refine ⟨3, fun k hk => ?_⟩
  obtain ⟨m, rfl⟩ : ∃ m, k = m + 3 := ⟨k - 3, by omega⟩
  unfold bits_Put.f
  rw [bytes_Clone.eq l (by omega)]
  simp only [Option.bind_some]
  rw [if_neg (by decide), show decide ((1 : Int) > 8) = false from rfl]
  simp only [bits_Put.j0]
  rw [if_neg (by decide), show wrap64 ((1 : Int) - 1) = 0 from (by unfold wrap64; omega)]
  simp only [bits_Put.l0]
  rw [if_pos (by decide), show wrap64 ((8 : Int) * 0) = 0 from (by unfold wrap64; omega), if_pos (by decide), if_pos (by omega), show wrap64 ((0 : Int) - 1) = -1 from (by unfold wrap64; omega), if_neg (by decide), shr_0]
theorem put2 (l : List Int) (v : Int) (hl : l.length < 1000000000) : Ev (fun k => bits_Put.f k l v 2) (l ++ p2 v) := by
  refine ⟨4, fun k hk => ?_⟩
  obtain ⟨m, rfl⟩ : ∃ m, k = m + 4 := ⟨k - 4, by omega⟩
  unfold bits_Put.f
  rw [bytes_Clone.eq l (by omega)]
  simp only [Option.bind_some]
  rw [if_neg (by decide), show decide ((2 : Int) > 8) = false from rfl]
  simp only [bits_Put.j0]
  rw [if_neg (by decide), show wrap64 ((2 : Int) - 1) = 1 from (by unfold wrap64; omega)]
  simp only [bits_Put.l0]
  rw [if_pos (by decide), show wrap64 ((8 : Int) * 1) = 8 from (by unfold wrap64; omega), if_pos (by decide), if_pos (by omega), show wrap64 ((1 : Int) - 1) = 0 from (by unfold wrap64; omega), if_pos (by decide), show wrap64 ((8 : Int) * 0) = 0 from (by unfold wrap64; omega), if_pos (by decide), if_pos (by rw [List.length_append]; simp only [List.length_cons, List.length_nil]; omega), show wrap64 ((0 : Int) - 1) = -1 from (by unfold wrap64; omega), if_neg (by decide), shr_0, shr_8]
  unfold p2
  simp
theorem text_eq (l : List Int) (s : ByteArray) (hl : l.length < 1000000000) : bits_Text.f l s = some (l ++ encT s) := by
  unfold bits_Text.f encT
  rw [bytes_Clone.eq l (by omega)]
  simp only [Option.bind_some]
  by_cases h : s.size > 255
  · rw [if_pos (by omega), if_pos h, List.append_nil]
  · rw [if_neg (by omega), if_neg h, if_pos (by omega), if_pos (by rw [List.length_append]; simp only [List.length_cons, List.length_nil]; omega)]
    simp

theorem wrap_succ (i : Nat) (h : i < 1000000000) : wrap64 ((i : Int) + 1) = ((i + 1 : Nat) : Int) := by unfold wrap64; omega
theorem rd_at (g : List Int) (i : Nat) (h : i < g.length) : rd g i = g[i] := by
  unfold rd
  rw [Int.toNat_natCast, List.getD_eq_getElem?_getD, List.getElem?_eq_getElem h]; rfl
theorem rd27_at (g : List S27) (i : Nat) (h : i < g.length) : rd_T27 g i = g[i] := by
  unfold rd_T27
  rw [Int.toNat_natCast, List.getD_eq_getElem?_getD, List.getElem?_eq_getElem h]; rfl
theorem gains2_ev (g : List Int) (hg : g.length ≤ 1000) : ∀ (d i : Nat) (acc : List Int), i + d = g.length → acc.length ≤ 1000000 + 2 * i → Ev (fun k => ops_put.l0 k acc g (g.length : Int) (i : Int)) (acc ++ (g.drop i).flatMap p2)
  | 0, i, acc, h, ha => by
    refine Ev.step (f := fun _ => some acc) (fun k => ?_) (by rw [List.drop_of_length_le (by omega)]; simpa using Ev.now acc)
    simp only [ops_put.l0]
    rw [if_neg (by omega)]
  | d + 1, i, acc, h, ha => by
    have hi : i < g.length := by omega
    have ih := gains2_ev g hg d (i + 1) (acc ++ p2 (rd g i)) (by omega) (by rw [List.length_append]; show acc.length + 2 ≤ _; omega)
    refine Ev.step (f := fun k => (bits_Put.f k acc (rd g i) 2).bind fun t => ops_put.l0 k t g (g.length : Int) ((i + 1 : Nat) : Int)) (fun k => ?_) ?_
    · simp only [ops_put.l0]
      rw [if_pos (by omega), if_pos (by omega), if_pos (by omega), wrap_succ i (by omega)]
    · rw [List.drop_eq_getElem_cons hi, List.flatMap_cons, ← List.append_assoc, ← rd_at g i hi]
      exact Ev.bind (put2 acc (rd g i) (by omega)) ih
theorem gains1_ev (g : List Int) (hg : g.length ≤ 1000) : ∀ (d i : Nat) (acc : List Int), i + d = g.length → acc.length ≤ 1000000 + i → Ev (fun k => ops_put.l1 k acc g (g.length : Int) (i : Int)) (acc ++ (g.drop i).map (· % 256))
  | 0, i, acc, h, ha => by
    refine Ev.step (f := fun _ => some acc) (fun k => ?_) (by rw [List.drop_of_length_le (by omega)]; simpa using Ev.now acc)
    simp only [ops_put.l1]
    rw [if_neg (by omega)]
  | d + 1, i, acc, h, ha => by
    have hi : i < g.length := by omega
    have ih := gains1_ev g hg d (i + 1) (acc ++ [rd g i % 256]) (by omega) (by rw [List.length_append]; show acc.length + 1 ≤ _; omega)
    refine Ev.step (f := fun k => (bits_Put.f k acc (rd g i) 1).bind fun t => ops_put.l1 k t g (g.length : Int) ((i + 1 : Nat) : Int)) (fun k => ?_) ?_
    · simp only [ops_put.l1]
      rw [if_pos (by omega), if_pos (by omega), if_pos (by omega), wrap_succ i (by omega)]
    · rw [List.drop_eq_getElem_cons hi, List.map_cons, ← rd_at g i hi, show ((rd g i % 256) :: (g.drop (i + 1)).map (· % 256)) = [rd g i % 256] ++ (g.drop (i + 1)).map (· % 256) from rfl, ← List.append_assoc]
      exact Ev.bind (put1 acc (rd g i) (by omega)) ih
theorem Ev.tail {α : Type} {g : Nat → Option α} {r : α} (h : Ev g r) : Ev (fun n => (g n).bind fun t => some t) r := Ev.bind h (Ev.now r)
theorem put_ev (s : S27) (hg : s.f8.length ≤ 1000) : Ev (fun k => ops_put.f k s.f0 s.f1 s.f2 s.f3 s.f4 s.f5 s.f6 s.f7 s.f8) (encS s) := by
  have h0 := put1 [] s.f0 (by decide)
  rw [List.nil_append] at h0
  have hc : encS s = [s.f0 % 256] ++ body s := rfl
  rw [hc]
  unfold body
  refine Ev.bind h0 ?_
  have hone := fun (v : Int) => put1 [s.f0 % 256] v (by simp)
  have htwo := fun (v u : Int) => put1 ([s.f0 % 256] ++ [v % 256]) u (by simp)
  have hthree := fun (v u t : Int) => put1 ([s.f0 % 256] ++ [v % 256] ++ [u % 256]) t (by simp)
  have hj : ∀ b : Bool, b = decide (s.f0 = 4 ∨ s.f0 = 6 ∨ s.f0 = 7 ∨ s.f0 = 8) → s.f0 ≠ 1 → s.f0 ≠ 2 → s.f0 ≠ 3 → Ev (fun k => ops_put.j1 k [s.f0 % 256] s.f0 b s.f0 s.f1 s.f2 s.f3 s.f4 s.f5 s.f6 s.f7 s.f8) ([s.f0 % 256] ++ (if s.f0 = 4 ∨ s.f0 = 6 ∨ s.f0 = 7 ∨ s.f0 = 8 then [s.f1 % 256, s.f3 % 256]
      else if s.f0 = 5 then (s.f1 % 256) :: (s.f3 % 256) :: (s.f4 % 256) :: encT s.f7
      else if s.f0 = 12 then (s.f5 % 256) :: p2 s.f6
      else if s.f0 = 14 then (s.f1 % 256) :: ((s.f8.length : Int) % 256) :: s.f8.map (· % 256)
      else [s.f5 % 256])) := by
    intro b hb n1 n2 n3
    by_cases h4 : s.f0 = 4 ∨ s.f0 = 6 ∨ s.f0 = 7 ∨ s.f0 = 8
    · rw [decide_eq_true h4] at hb
      subst hb
      rw [if_pos h4]
      refine Ev.step (f := fun k => (bits_Put.f k [s.f0 % 256] s.f1 1).bind fun t => (bits_Put.f k t s.f3 1).bind fun u => some u) (fun k => by simp only [ops_put.j1]; rw [if_pos trivial]) ?_
      exact Ev.bind (hone s.f1) (Ev.tail (htwo s.f1 s.f3))
    rw [decide_eq_false h4] at hb
    subst hb
    rw [if_neg h4]
    by_cases h5 : s.f0 = 5
    · rw [if_pos h5]
      refine Ev.step (f := fun k => (bits_Put.f k [s.f0 % 256] s.f1 1).bind fun t => (bits_Put.f k t s.f3 1).bind fun u => (bits_Put.f k u s.f4 1).bind fun v => (bits_Text.f v s.f7).bind fun x => some x) (fun k => by simp only [ops_put.j1]; rw [if_neg (by decide), if_pos h5]) ?_
      refine Ev.bind (hone s.f1) (Ev.bind (htwo s.f1 s.f3) (Ev.bind (hthree s.f1 s.f3 s.f4) ?_))
      have ht := text_eq ([s.f0 % 256] ++ [s.f1 % 256] ++ [s.f3 % 256] ++ [s.f4 % 256]) s.f7 (by simp only [List.length_append, List.length_cons, List.length_nil]; omega)
      rw [ht]
      exact Ev.now _
    rw [if_neg h5]
    by_cases h12 : s.f0 = 12
    · rw [if_pos h12]
      refine Ev.step (f := fun k => (bits_Put.f k [s.f0 % 256] s.f5 1).bind fun t => (bits_Put.f k t s.f6 2).bind fun u => some u) (fun k => by simp only [ops_put.j1]; rw [if_neg (by decide), if_neg h5, if_pos h12]) ?_
      exact Ev.bind (hone s.f5) (Ev.tail (put2 ([s.f0 % 256] ++ [s.f5 % 256]) s.f6 (by simp)))
    rw [if_neg h12]
    by_cases h14 : s.f0 = 14
    · rw [if_pos h14]
      refine Ev.step (f := fun k => (bits_Put.f k [s.f0 % 256] s.f1 1).bind fun t => (bits_Put.f k t (s.f8.length : Int) 1).bind fun u => ops_put.l1 k u s.f8 (s.f8.length : Int) 0) (fun k => by simp only [ops_put.j1]; rw [if_neg (by decide), if_neg h5, if_neg h12, if_pos h14]) ?_
      have hl := gains1_ev s.f8 hg s.f8.length 0 ([s.f0 % 256] ++ [s.f1 % 256] ++ [(s.f8.length : Int) % 256]) (by omega) (by simp only [List.length_append, List.length_cons, List.length_nil]; omega)
      exact Ev.bind (hone s.f1) (Ev.bind (htwo s.f1 _) hl)
    rw [if_neg h14]
    refine Ev.step (f := fun k => (bits_Put.f k [s.f0 % 256] s.f5 1).bind fun t => some t) (fun k => by simp only [ops_put.j1]; rw [if_neg (by decide), if_neg h5, if_neg h12, if_neg h14]) ?_
    exact Ev.tail (hone s.f5)
  by_cases h1 : s.f0 = 1
  · rw [if_pos h1]
    simp only [if_pos h1]
    rw [← List.append_assoc]
    exact Ev.bind (put2 [s.f0 % 256] s.f2 (by simp)) (gains2_ev s.f8 hg s.f8.length 0 ([s.f0 % 256] ++ p2 s.f2) (by omega) (by simp only [List.length_append, List.length_cons, List.length_nil, p2]; omega))
  simp only [if_neg h1]
  by_cases h2 : s.f0 = 2
  · simp only [if_pos h2]
    exact Ev.tail (hone s.f1)
  simp only [if_neg h2]
  by_cases h3 : s.f0 = 3
  · simp only [if_pos h3]
    refine Ev.bind (hone s.f1) ?_
    rw [text_eq ([s.f0 % 256] ++ [s.f1 % 256]) s.f7 (by simp only [List.length_append, List.length_cons, List.length_nil]; omega)]
    exact Ev.now _
  simp only [if_neg h3]
  by_cases h4 : s.f0 = 4
  · simp only [if_pos h4]
    exact hj _ (by simp [h4]) h1 h2 h3
  simp only [if_neg h4]
  by_cases h6 : s.f0 = 6
  · simp only [if_pos h6]
    exact hj _ (by simp [h6]) h1 h2 h3
  simp only [if_neg h6]
  by_cases h7 : s.f0 = 7
  · simp only [if_pos h7]
    exact hj _ (by simp [h7]) h1 h2 h3
  simp only [if_neg h7]
  exact hj _ (by rw [Bool.eq_iff_iff]; simp [h4, h6, h7]) h1 h2 h3

theorem take_some (l : List Int) (h : inBytes l) (hl : l.length < 1099511627776) : ops_Take.f l = some (takeS l) := by
  unfold ops_Take.f
  rw [if_pos ⟨hl, h⟩]
theorem str_ext {a b : ByteArray} (h : a.toList = b.toList) : a = b := by
  rw [Go.Lib.toList_data, Go.Lib.toList_data] at h
  cases a with
  | mk x => cases b with
    | mk y => exact congrArg ByteArray.mk (Array.toList_inj.1 h)
/-- Two steps are alike. -/
theorem same_eq (a b : S27) : ∃ t : Bool, ops_same.f a.f0 a.f1 a.f2 a.f3 a.f4 a.f5 a.f6 a.f7 a.f8 b.f0 b.f1 b.f2 b.f3 b.f4 b.f5 b.f6 b.f7 b.f8 = some t ∧ (t = true ↔ a = b) := by
  obtain ⟨a0, a1, a2, a3, a4, a5, a6, a7, a8⟩ := a
  obtain ⟨b0, b1, b2, b3, b4, b5, b6, b7, b8⟩ := b
  simp only [ops_same.f, ints_Equal.f, S27.mk.injEq]
  by_cases h0 : a0 = b0
  case neg => exact ⟨false, by rw [if_neg h0], by simp [h0]⟩
  rw [if_pos h0]
  by_cases h1 : a1 = b1
  case neg => exact ⟨false, by rw [if_neg h1], by simp [h1]⟩
  rw [if_pos h1]
  by_cases h2 : a2 = b2
  case neg => exact ⟨false, by rw [if_neg h2], by simp [h2]⟩
  rw [if_pos h2]
  by_cases h3 : a3 = b3
  case neg => exact ⟨false, by rw [if_neg h3], by simp [h3]⟩
  rw [if_pos h3]
  by_cases h4 : a4 = b4
  case neg => exact ⟨false, by rw [if_neg h4], by simp [h4]⟩
  rw [if_pos h4]
  by_cases h5 : a5 = b5
  case neg => exact ⟨false, by rw [if_neg h5], by simp [h5]⟩
  rw [if_pos h5]
  by_cases h6 : a6 = b6
  case neg => exact ⟨false, by rw [if_neg h6], by simp [h6]⟩
  rw [if_pos h6]
  by_cases h7 : a7.toList = b7.toList
  case neg => exact ⟨false, by rw [if_neg h7], by simp only [Bool.false_eq_true, false_iff]; rintro ⟨_, _, _, _, _, _, _, h, _⟩; exact h7 (by rw [h])⟩
  rw [if_pos h7]
  refine ⟨decide (a8 = b8), rfl, ?_⟩
  rw [decide_eq_true_iff]
  exact ⟨fun h => ⟨h0, h1, h2, h3, h4, h5, h6, str_ext h7, h⟩, fun h => h.2.2.2.2.2.2.2.2⟩
/-- A step that ops.Put keeps. -/
def keepP (s : S27) : Prop := s.f8.length ≤ 20 ∧ takeS (encS s) = [s]
noncomputable instance keepP_dec (s : S27) : Decidable (keepP s) := Classical.propDecidable _
noncomputable def putL : List S27 → List Int
  | [] => []
  | s :: l => (if keepP s then encS s else []) ++ putL l
theorem WF.keep {s : S27} (h : WF s) : keepP s := by
  refine ⟨h.gains, ?_⟩
  have := takeS_enc h []
  rw [List.append_nil] at this
  rw [this, takeS_nil]
theorem putL_wf : ∀ {l : List S27}, (∀ s ∈ l, WF s) → putL l = encL l
  | [], _ => rfl
  | s :: l, h => by
    show (if keepP s then encS s else []) ++ putL l = encS s ++ encL l
    rw [if_pos (h s List.mem_cons_self).keep, putL_wf (fun x hx => h x (List.mem_cons_of_mem _ hx))]
theorem putL_len : ∀ (l : List S27), (putL l).length ≤ 340 * l.length
  | [] => Nat.zero_le _
  | s :: l => by
    have ih := putL_len l
    have h1 := encS_len s
    show ((if keepP s then encS s else []) ++ putL l).length ≤ _
    rw [List.length_append, List.length_cons]
    split
    · rename_i h; have := h.1; omega
    · simp only [List.length_nil]; omega
theorem inBytes_putL : ∀ (l : List S27), inBytes (putL l)
  | [] => inBytes_nil
  | s :: l => by
    show inBytes ((if keepP s then encS s else []) ++ putL l)
    refine inBytes_app ?_ (inBytes_putL l)
    split
    · exact inBytes_encS s
    · exact inBytes_nil
theorem Put_ev (L : List S27) (hL : L.length ≤ 100000) : ∀ (d i : Nat) (acc : List Int), i + d = L.length → acc.length ≤ 340 * i → Ev (fun k => ops_Put.l0 k acc L (L.length : Int) (i : Int)) (acc ++ putL (L.drop i))
  | 0, i, acc, h, ha => by
    refine Ev.step (f := fun _ => some acc) (fun k => ?_) (by rw [List.drop_of_length_le (by omega)]; simpa [putL] using Ev.now acc)
    simp only [ops_Put.l0]
    rw [if_neg (by omega)]
  | d + 1, i, acc, h, ha => by
    have hi : i < L.length := by omega
    have hr := rd27_at L i hi
    rw [List.drop_eq_getElem_cons hi, ← hr]
    generalize rd_T27 L (i : Int) = s at hr
    have hp : putL (s :: L.drop (i + 1)) = (if keepP s then encS s else []) ++ putL (L.drop (i + 1)) := rfl
    rw [hp, ← List.append_assoc]
    clear hp
    have ih := fun (acc : List Int) (ha : acc.length ≤ 340 * (i + 1)) => Put_ev L hL d (i + 1) acc (by omega) ha
    by_cases h20 : s.f8.length ≤ 20
    case neg =>
      have hk : ¬ keepP s := fun h => h20 h.1
      rw [if_neg hk, List.append_nil]
      refine Ev.step (f := fun k => ops_Put.l0 k acc L (L.length : Int) ((i + 1 : Nat) : Int)) (fun k => ?_) (ih acc (by omega))
      have hr' := rd27_at L i hi
      simp only [ops_Put.l0]
      rw [if_pos (by omega), if_pos (by omega), if_pos (by omega), hr', ← hr, if_pos (by omega), wrap_succ i (by omega)]
    have hl := encS_len s
    obtain ⟨K, hK⟩ := put_ev s (by omega)
    simp only at hK
    have ht := take_some (encS s) (inBytes_encS s) (by omega)
    have hr' := rd27_at L i hi
    by_cases hk : keepP s
    · rw [if_pos hk]
      obtain ⟨K2, hK2⟩ := ih (acc ++ encS s) (by rw [List.length_append]; omega)
      refine ⟨max K K2 + 1, fun k hkk => ?_⟩
      obtain ⟨m, rfl⟩ : ∃ m, k = m + 1 := ⟨k - 1, by omega⟩
      simp only [ops_Put.l0]
      rw [if_pos (by omega), if_pos (by omega), if_pos (by omega), hr', ← hr, if_neg (by omega), hK m (by omega)]
      simp only [Option.bind_some]
      rw [ht]
      simp only [Option.bind_some]
      rw [hk.2]
      rw [if_pos (by simp), if_pos (by simp)]
      obtain ⟨t, e1, e2⟩ := same_eq s s
      rw [show rd_T27 [s] 0 = s from rfl, e1]
      simp only [Option.bind_some]
      rw [if_pos (e2.2 rfl), if_pos (by omega), wrap_succ i (by omega)]
      exact hK2 m (by omega)
    · rw [if_neg hk, List.append_nil]
      obtain ⟨K2, hK2⟩ := ih acc (by omega)
      refine ⟨max K K2 + 1, fun k hkk => ?_⟩
      obtain ⟨m, rfl⟩ : ∃ m, k = m + 1 := ⟨k - 1, by omega⟩
      simp only [ops_Put.l0]
      rw [if_pos (by omega), if_pos (by omega), if_pos (by omega), hr', ← hr, if_neg (by omega), hK m (by omega)]
      simp only [Option.bind_some]
      rw [ht]
      simp only [Option.bind_some]
      by_cases h1 : ((takeS (encS s)).length : Int) = 1
      · obtain ⟨x, hx⟩ : ∃ x, takeS (encS s) = [x] := List.length_eq_one_iff.1 (by omega)
        rw [if_pos h1, if_pos (by omega), hx]
        obtain ⟨t, e1, e2⟩ := same_eq x s
        rw [show rd_T27 [x] 0 = x from rfl, e1]
        simp only [Option.bind_some]
        have hne : ¬ t = true := fun h => hk ⟨h20, by rw [hx, e2.1 h]⟩
        rw [if_neg hne, wrap_succ i (by omega)]
        exact hK2 m (by omega)
      · rw [if_neg h1, wrap_succ i (by omega)]
        exact hK2 m (by omega)
theorem Put_all (L : List S27) (hL : L.length ≤ 100000) : Ev (fun k => ops_Put.f k L) (putL L) := by
  have := Put_ev L hL L.length 0 [] (by omega) (Nat.zero_le _)
  rwa [List.nil_append, List.drop_zero] at this

/-! ### the reference's sameness of what is the same -/
theorem SameStep_ev (s : S27) (hs : s.f8.length ≤ 1000) : ∀ (d i : Nat), i + d = s.f8.length → Ev (fun k => tenancyref21_SameStep.l0 k (i : Int) s.f0 s.f1 s.f2 s.f3 s.f4 s.f5 s.f6 s.f7 s.f8 s.f0 s.f1 s.f2 s.f3 s.f4 s.f5 s.f6 s.f7 s.f8) true
  | 0, i, h => by
    refine Ev.step (f := fun _ => some true) (fun k => ?_) (Ev.now true)
    simp only [tenancyref21_SameStep.l0]
    rw [if_neg (by omega)]
    simp
  | d + 1, i, h => by
    refine Ev.step (f := fun k => tenancyref21_SameStep.l0 k ((i + 1 : Nat) : Int) s.f0 s.f1 s.f2 s.f3 s.f4 s.f5 s.f6 s.f7 s.f8 s.f0 s.f1 s.f2 s.f3 s.f4 s.f5 s.f6 s.f7 s.f8) (fun k => ?_) (SameStep_ev s hs d (i + 1) (by omega))
    simp only [tenancyref21_SameStep.l0]
    rw [if_pos (by omega), if_pos (by omega), if_pos (by omega), if_pos trivial, wrap_succ i (by omega)]
theorem SameStep_all (s : S27) (hs : s.f8.length ≤ 1000) : Ev (fun k => tenancyref21_SameStep.f k s.f0 s.f1 s.f2 s.f3 s.f4 s.f5 s.f6 s.f7 s.f8 s.f0 s.f1 s.f2 s.f3 s.f4 s.f5 s.f6 s.f7 s.f8) true :=
  Ev.congr (fun k => by unfold tenancyref21_SameStep.f; rw [if_pos rfl]; rfl) (SameStep_ev s hs s.f8.length 0 (by omega))
theorem SameSteps_ev (L : List S27) (hL : L.length ≤ 100000) (hg : ∀ s ∈ L, s.f8.length ≤ 1000) : ∀ (d i : Nat), i + d = L.length → Ev (fun k => tenancyref21_SameSteps.l0 k L L (i : Int)) true
  | 0, i, h => by
    refine Ev.step (f := fun _ => some true) (fun k => ?_) (Ev.now true)
    simp only [tenancyref21_SameSteps.l0]
    rw [if_neg (by omega)]
  | d + 1, i, h => by
    have hi : i < L.length := by omega
    have hr := rd27_at L i hi
    have hm : (rd_T27 L (i : Int)).f8.length ≤ 1000 := by rw [hr]; exact hg _ (List.getElem_mem hi)
    obtain ⟨K, hK⟩ := SameStep_all (rd_T27 L (i : Int)) hm
    simp only at hK
    obtain ⟨K2, hK2⟩ := SameSteps_ev L hL hg d (i + 1) (by omega)
    refine ⟨max K K2 + 1, fun k hkk => ?_⟩
    obtain ⟨m, rfl⟩ : ∃ m, k = m + 1 := ⟨k - 1, by omega⟩
    simp only [tenancyref21_SameSteps.l0]
    rw [if_pos (by omega), if_pos (by omega), if_pos (by omega), hK m (by omega)]
    simp only [Option.bind_some]
    rw [if_pos trivial, wrap_succ i (by omega)]
    exact hK2 m (by omega)
theorem SameSteps_all (L : List S27) (hL : L.length ≤ 100000) (hg : ∀ s ∈ L, s.f8.length ≤ 1000) : Ev (fun k => tenancyref21_SameSteps.f k L L) true :=
  Ev.congr (fun k => by unfold tenancyref21_SameSteps.f; rw [if_pos rfl]; rfl) (SameSteps_ev L hL hg L.length 0 (by omega))

/-! ### ops does something -/
def two0 : List S27 := [⟨2, 1, 0, 0, 0, 0, 0, ⟨#[]⟩, []⟩, ⟨3, 2, 0, 0, 0, 0, 0, ⟨#[98]⟩, []⟩]
theorem two0_wf : ∀ s ∈ two0, WF s := by
  intro s hs
  rcases List.mem_cons.1 hs with rfl | hs
  · exact .run 1 (by unfold R1; omega)
  rcases List.mem_cons.1 hs with rfl | hs
  · exact .open_ 2 ⟨#[98]⟩ (by unfold R1; omega) (by decide)
  · cases hs
theorem two0_enc : encL two0 = [2, 1, 3, 2, 1, 98] := by decide
theorem begun_ev : Ev (fun k => tenancylaw25_begun.f k) true := by
  have h := Put_all two0 (by decide)
  rw [putL_wf two0_wf, two0_enc] at h
  obtain ⟨K, hK⟩ := h
  refine ⟨K, fun k hk => ?_⟩
  have h1 := hK k hk
  simp only at h1
  show tenancylaw25_begun.f k = some true
  unfold tenancylaw25_begun.f
  rw [show ([(⟨2, 1, 0, 0, 0, 0, 0, (⟨#[]⟩ : ByteArray), ([] : List Int)⟩ : S27), (⟨3, 2, 0, 0, 0, 0, 0, (⟨#[98]⟩ : ByteArray), ([] : List Int)⟩ : S27)] : List S27) = two0 from rfl, h1]
  simp only [Option.bind_some]
  have ht : takeS [2, 1, 3, 2, 1, 98] = two0 := by
    have := takeS_encL [] two0_wf
    rwa [two0_enc, List.append_nil, takeS_nil, List.append_nil] at this
  rw [take_some _ (by intro x hx; simp at hx; omega) (by decide), ht]
  simp only [Option.bind_some]
  rw [if_pos (by rw [Go.Lib.toList_data, strOfNums_data]; rfl), if_pos (by decide), if_pos (by decide), Go.Lib.toList_data]
  rfl
end Go.Proofs.Ythpehiecmgipmaa.L
