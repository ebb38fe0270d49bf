/- What ops.Take does (the steps that bytes say), and the library's slices.Clone at []byte and slices.Equal at []int, as contracts over memory; bytes from 0 to 255, fewer than 2^40. -/
import Derived.Test.YthpehiecmgipmaaNext
import Derived.Test.YthpehiecmgipmaaWApart
namespace Go.Proofs.Ythpehiecmgipmaa.L
set_option linter.unusedSimpArgs false
set_option linter.unusedVariables false
open Go.RowKit Go.Proofs.YthpehiecmgipmaaW.PrintWords Go.Proofs.YthpehiecmgipmaaW.PrintLast Go.Proofs.YthpehiecmgipmaaW.PrintMore

theorem numP_len {n : Nat} {l : List Int} {q : Int × List Int} (h : numP n l = some q) : q.2.length ≤ l.length := by
  rw [(numP_yes h).2.2, List.length_drop]; omega
theorem textP_len {l : List Int} {q : ByteArray × List Int} (h : textP l = some q) : q.2.length ≤ l.length := by
  unfold textP at h
  split at h
  · obtain rfl := Option.some.inj h
    show (l.drop _).length ≤ _
    rw [List.length_drop]; omega
  · exact absurd h (by simp)
theorem gainsP_len {n : Nat} : ∀ {m : Nat} {l : List Int} {q : List Int × List Int}, gainsP n m l = some q → q.2.length ≤ l.length
  | 0, l, q, h => by obtain rfl := Option.some.inj h; exact Nat.le_refl _
  | m + 1, l, q, h => by
    rcases Nat.lt_or_ge l.length n with h1 | h1
    · rw [gainsP_no n m l h1] at h; exact absurd h (by simp)
    · rw [gainsP_yes n m l (by omega)] at h
      obtain ⟨p, hp, h2⟩ := Option.bind_eq_some_iff.mp h
      obtain rfl := Option.some.inj h2
      have := gainsP_len hp
      rw [List.length_drop] at this
      show p.2.length ≤ _
      omega
theorem stepP_len {k : Int} {l : List Int} {q : S27 × List Int} (h : stepP k l = some q) : q.2.length ≤ l.length := by
  unfold stepP at h
  split at h
  · obtain ⟨p, hp, h⟩ := Option.bind_eq_some_iff.mp h
    obtain ⟨p2, hp2, h⟩ := Option.bind_eq_some_iff.mp h
    obtain rfl := Option.some.inj h
    have := numP_len hp; have := gainsP_len hp2; show p2.2.length ≤ _; omega
  split at h
  · obtain ⟨p, hp, h⟩ := Option.bind_eq_some_iff.mp h
    obtain rfl := Option.some.inj h
    exact numP_len hp
  split at h
  · obtain ⟨p, hp, h⟩ := Option.bind_eq_some_iff.mp h
    obtain ⟨p2, hp2, h⟩ := Option.bind_eq_some_iff.mp h
    obtain rfl := Option.some.inj h
    have := numP_len hp; have := textP_len hp2; show p2.2.length ≤ _; omega
  split at h
  · obtain ⟨p, hp, h⟩ := Option.bind_eq_some_iff.mp h
    obtain ⟨p2, hp2, h⟩ := Option.bind_eq_some_iff.mp h
    obtain rfl := Option.some.inj h
    have := numP_len hp; have := numP_len hp2; show p2.2.length ≤ _; omega
  split at h
  · obtain ⟨p, hp, h⟩ := Option.bind_eq_some_iff.mp h
    obtain ⟨p2, hp2, h⟩ := Option.bind_eq_some_iff.mp h
    obtain ⟨p3, hp3, h⟩ := Option.bind_eq_some_iff.mp h
    obtain ⟨p4, hp4, h⟩ := Option.bind_eq_some_iff.mp h
    obtain rfl := Option.some.inj h
    have := numP_len hp; have := numP_len hp2; have := numP_len hp3; have := textP_len hp4; show p4.2.length ≤ _; omega
  split at h
  · obtain ⟨p, hp, h⟩ := Option.bind_eq_some_iff.mp h
    obtain ⟨p2, hp2, h⟩ := Option.bind_eq_some_iff.mp h
    obtain rfl := Option.some.inj h
    have := numP_len hp; have := numP_len hp2; show p2.2.length ≤ _; omega
  split at h
  · obtain ⟨p, hp, h⟩ := Option.bind_eq_some_iff.mp h
    obtain ⟨p2, hp2, h⟩ := Option.bind_eq_some_iff.mp h
    split at h
    · exact absurd h (by simp)
    obtain ⟨p3, hp3, h⟩ := Option.bind_eq_some_iff.mp h
    obtain rfl := Option.some.inj h
    have := numP_len hp; have := numP_len hp2; have := gainsP_len hp3; show p3.2.length ≤ _; omega
  · obtain ⟨p, hp, h⟩ := Option.bind_eq_some_iff.mp h
    obtain rfl := Option.some.inj h
    exact numP_len hp
theorem stepP_bytes {k : Int} {l : List Int} {q : S27 × List Int} (h : stepP k l = some q) (hb : Okb l) : Okb q.2 := by
  unfold stepP at h
  split at h
  · obtain ⟨p, hp, h⟩ := Option.bind_eq_some_iff.mp h
    obtain ⟨p2, hp2, h⟩ := Option.bind_eq_some_iff.mp h
    obtain rfl := Option.some.inj h
    exact gainsP_bytes hp2 (numP_bytes hp hb)
  split at h
  · obtain ⟨p, hp, h⟩ := Option.bind_eq_some_iff.mp h
    obtain rfl := Option.some.inj h
    exact numP_bytes hp hb
  split at h
  · obtain ⟨p, hp, h⟩ := Option.bind_eq_some_iff.mp h
    obtain ⟨p2, hp2, h⟩ := Option.bind_eq_some_iff.mp h
    obtain rfl := Option.some.inj h
    exact textP_bytes hp2 (numP_bytes hp hb)
  split at h
  · obtain ⟨p, hp, h⟩ := Option.bind_eq_some_iff.mp h
    obtain ⟨p2, hp2, h⟩ := Option.bind_eq_some_iff.mp h
    obtain rfl := Option.some.inj h
    exact numP_bytes hp2 (numP_bytes hp hb)
  split at h
  · obtain ⟨p, hp, h⟩ := Option.bind_eq_some_iff.mp h
    obtain ⟨p2, hp2, h⟩ := Option.bind_eq_some_iff.mp h
    obtain ⟨p3, hp3, h⟩ := Option.bind_eq_some_iff.mp h
    obtain ⟨p4, hp4, h⟩ := Option.bind_eq_some_iff.mp h
    obtain rfl := Option.some.inj h
    exact textP_bytes hp4 (numP_bytes hp3 (numP_bytes hp2 (numP_bytes hp hb)))
  split at h
  · obtain ⟨p, hp, h⟩ := Option.bind_eq_some_iff.mp h
    obtain ⟨p2, hp2, h⟩ := Option.bind_eq_some_iff.mp h
    obtain rfl := Option.some.inj h
    exact numP_bytes hp2 (numP_bytes hp hb)
  split at h
  · obtain ⟨p, hp, h⟩ := Option.bind_eq_some_iff.mp h
    obtain ⟨p2, hp2, h⟩ := Option.bind_eq_some_iff.mp h
    split at h
    · exact absurd h (by simp)
    obtain ⟨p3, hp3, h⟩ := Option.bind_eq_some_iff.mp h
    obtain rfl := Option.some.inj h
    exact gainsP_bytes hp3 (numP_bytes hp2 (numP_bytes hp hb))
  · obtain ⟨p, hp, h⟩ := Option.bind_eq_some_iff.mp h
    obtain rfl := Option.some.inj h
    exact numP_bytes hp hb
theorem skipP_len : ∀ {l : List Int} {q : Int × List Int}, skipP l = some q → q.2.length < l.length
  | [], _, h => by exact absurd h (by simp [skipP])
  | x :: r, q, h => by
    rcases Classical.em (x % 15 = 0) with h0 | h0
    · rw [skipP_pass x r h0] at h
      have := skipP_len h
      rw [List.length_cons]; omega
    · rw [skipP_kind x r h0] at h
      obtain rfl := Option.some.inj h
      rw [List.length_cons]; exact Nat.lt_succ_self _
theorem skipP_bytes : ∀ {l : List Int} {q : Int × List Int}, skipP l = some q → Okb l → Okb q.2
  | [], _, h, _ => by exact absurd h (by simp [skipP])
  | x :: r, q, h, hb => by
    rcases Classical.em (x % 15 = 0) with h0 | h0
    · rw [skipP_pass x r h0] at h
      exact skipP_bytes h hb.tail.2
    · rw [skipP_kind x r h0] at h
      obtain rfl := Option.some.inj h
      exact hb.tail.2
theorem nextP_len {l : List Int} {q : S27 × List Int} (h : nextP l = some q) : q.2.length < l.length := by
  unfold nextP at h
  obtain ⟨p, hp, h⟩ := Option.bind_eq_some_iff.mp h
  have := skipP_len hp; have := stepP_len h; omega
theorem nextP_bytes {l : List Int} {q : S27 × List Int} (h : nextP l = some q) (hb : Okb l) : Okb q.2 := by
  unfold nextP at h
  obtain ⟨p, hp, h⟩ := Option.bind_eq_some_iff.mp h
  exact stepP_bytes h (skipP_bytes hp hb)
/-- The steps that bytes say. -/
def takeF : Nat → List Int → List S27
  | 0, _ => []
  | n + 1, l => match nextP l with
    | none => []
    | some q => q.1 :: takeF n q.2
def takeS (l : List Int) : List S27 := takeF l.length l
theorem takeF_none {n : Nat} {l : List Int} (h : nextP l = none) : takeF n l = [] := by
  cases n with
  | zero => rfl
  | succ n => show (match nextP l with | none => [] | some q => q.1 :: takeF n q.2) = []; rw [h]
theorem takeF_some {n : Nat} {l : List Int} {q : S27 × List Int} (h : nextP l = some q) : takeF (n + 1) l = q.1 :: takeF n q.2 := by
  show (match nextP l with | none => [] | some q => q.1 :: takeF n q.2) = _; rw [h]

theorem next_none (g : Nat) (l : List Int) (w0 w : World) (hR : Rdr w0 w g l) (hB : Below w0.heap.size w0 w) (hb : Okb l) (h : nextP l = none) :
    Calls Try.prog 22 #[.pointer (some ⟨g, 0, none⟩)] w fun e w' => e = .returned (.tuple #[.agg zero27c, .bool false]) ∧ Rest w0 w w' g :=
  (next_any g l w0 w hR hB hb).mono fun e w' hp => by rw [h] at hp; exact hp
theorem next_some (g : Nat) (l : List Int) (s : S27) (l1 : List Int) (w0 w : World) (hR : Rdr w0 w g l) (hB : Below w0.heap.size w0 w) (hb : Okb l) (h : nextP l = some (s, l1)) :
    Calls Try.prog 22 #[.pointer (some ⟨g, 0, none⟩)] w fun e w' => ∃ A c, e = .returned (.tuple #[.agg #[.int .i64 s.f0, .int .i64 s.f1, .int .i64 s.f2, .int .i64 s.f3, .int .i64 s.f4, .int .i64 s.f5, .int .i64 s.f6, .string s.f7, .slice A s.f8.length c], .bool true]) ∧ Kd.R (Kd.int .i64) 3 w' w.heap.size (fun k => k ≠ g) (.slice A s.f8.length c) s.f8 ∧ Rdr w0 w' g l1 ∧ Rest w0 w w' g :=
  (next_any g l w0 w hR hB hb).mono fun e w' hp => by rw [h] at hp; exact hp

/-- What Take's loop holds. -/
structure TS (w W : World) (l : List Int) (v : Value) (xs : List S27) : Prop where
  rdr : Rdr w W w.heap.size l
  below : Below w.heap.size w W
  row : Kd.S k27 27 W w.heap.size (fun k => k ≠ w.heap.size) v xs

def ops_Take.f (l0 : List Int) : Option (List S27) := if l0.length < 1099511627776 ∧ (∀ x ∈ l0, 0 ≤ x ∧ x < 256) then some (takeS l0) else none
set_option maxHeartbeats 1000000 in
set_option maxRecDepth 10000 in
theorem ops_Take.calls (A0 : Option Addr) (c0 : Nat) (l0 : List Int) (r : List S27) (w : World) (hr0 : Kd.C (Kd.int .u8) w A0 l0.length l0) (hc0 : l0.length ≤ c0) (h : ops_Take.f l0 = some r) :
    Calls Try.prog 12 #[.slice A0 l0.length c0] w fun e w' => ∃ v0_ : Value, e = .returned (v0_) ∧ Kd.S k27 27 w' w.heap.size (fun _ => True) v0_ r ∧ Below w.heap.size w w' := by
  unfold ops_Take.f at h
  have hcs : l0.length < 1099511627776 ∧ (∀ x ∈ l0, 0 ≤ x ∧ x < 256) := by
    rcases Classical.em (l0.length < 1099511627776 ∧ (∀ x ∈ l0, 0 ≤ x ∧ x < 256)) with h1 | h1
    · exact h1
    · rw [if_neg h1] at h; exact absurd h (by simp)
  rw [if_pos hcs] at h
  obtain rfl := Option.some.inj h
  obtain ⟨hl, hb⟩ := hcs
  clear h
  have hb0 : Okb l0 := ⟨hb, by omega⟩
  clear hb
  have HS : Aside0 (TS w (w.alloc (.cells #[.slice A0 l0.length c0] 82)) l0 (.slice none 0 0) []) := ⟨⟨Nat.le_refl _, A0, c0, heap_alloc_new w _, hc0, hr0⟩, below_alloc (Below.refl _ _) _, Kd.S_nil _ _ _ _ _⟩
  clear hr0 hc0
  have HL := Aside0.mk hl
  clear hl
  go_enter Try.func12, Try.ntmps12
  go_wp2
  go_loopg [2] l0.length (fun kq v2 w' => ∃ (l' : List Int) (xs : List S27), Aside0 (l'.length ≤ kq ∧ Okb l' ∧ xs.length + l'.length ≤ l0.length ∧ takeS l0 = xs ++ takeF kq l') ∧ Aside0 (TS w w' l' v2 xs))
  case atStart => exact ⟨l0, [], ⟨Nat.le_refl _, hb0, by simp, rfl⟩, HS⟩
  case round =>
    clear HS hb0
    obtain ⟨l', xs, HI, HS⟩ := hrel
    rcases hn : nextP l' with _ | ⟨s, l1⟩
    · have HN := Aside0.mk hn
      clear hn
      go_wp2_with (go_at_call 22; refine (next_none w.heap.size l' w _ HS.out.rdr HS.out.below HI.out.2.1 HN.out).mono ?_; rintro e w1 ⟨rfl, hs⟩; have HR := Aside0.mk hs; clear hs)
      go_ret
      refine ⟨u2, rfl, ?_, below_alloc HR.out.1 _⟩
      rw [HI.out.2.2.2, takeF_none HN.out, List.append_nil]
      exact Kd.S_mono (Kd.S_alloc (Kd.S_keep HS.out.row HR.out.2 (fun _ hk => hk)) _) (fun _ _ => trivial)
    · have hlen := nextP_len hn
      simp only at hlen
      cases gk with
      | zero => exact absurd HI.out.1 (by omega)
      | succ k2 =>
        have HN := Aside0.mk hn
        have HM := Aside0.mk hlen
        clear hn hlen
        have hxl : xs.length < 1099511627776 := by have := HI.out.2.2.1; have := HL.out; have := HM.out; omega
        have HX := Aside0.mk hxl
        clear hxl
        go_wp2_with (first
          | (go_at_call 22; go_loud (refine (next_some w.heap.size l' s l1 w _ HS.out.rdr HS.out.below HI.out.2.1 HN.out).mono ?_; rintro e w1 ⟨A, c, rfl, ho, hr, hs⟩; have HO := Aside0.mk ho; have HR := Aside0.mk hr; have HRS := Aside0.mk hs; clear ho hr hs))
          | ((with_reducible refine gate_builtin (b := .append) (xs := #[.tmp 17, .tmp 19]) rfl ?_); at_builtin; go_loud (refine Kd.S_append k27 (w0 := w) w.heap.size rfl (.tmp 17) (.tmp 19) 23 27 (.agg #[(.int .i64 0), (.int .i64 0), (.int .i64 0), (.int .i64 0), (.int .i64 0), (.int .i64 0), (.int .i64 0), (.string ⟨#[]⟩), (.slice none 0 0)]) 96 rfl Try.underlying23 info27 rfl (by decide) (by omega) u2 xs s [.int .i64 s.f0, .int .i64 s.f1, .int .i64 s.f2, .int .i64 s.f3, .int .i64 s.f4, .int .i64 s.f5, .int .i64 s.f6, .string s.f7, .slice A s.f8.length c] (fun k => k ≠ w.heap.size) (fun k => k ≠ w.heap.size ∧ wr.heap.size ≤ k) rfl ?aX ?aP ?aK ?aF ?aO ?aB ?aS ?aL ?_; (case aX => simp [Act.eval]); (case aP => exact k27_mkM _ _ _ s (Kd.R_alloc (Kd.R_lower (Kd.R_mono (ok' := fun k => k ≠ w.heap.size ∧ wr.heap.size ≤ k) (Kd.R_bound HO.out) (fun k hk => ⟨hk.1, hk.2.1⟩)) HS.out.below.size) _)); (case aK => exact fun k hk => ⟨hk.1, fun e => by have := Kd.S_lt HS.out.row k e.symm; omega⟩); (case aB => exact below_alloc HRS.out.1 _); (case aF => exact fun k hk => by have := HS.out.below.size; have := HRS.out.2.1; have h3 : w.heap.size < wr.heap.size := (by obtain ⟨_, _, _, h, _⟩ := HS.out.rdr; exact blk_lt h); rw [World.size_alloc] at hk; omega); (case aO => exact Kd.S_alloc (Kd.S_mono (Kd.S_keep (Kd.S_bound HS.out.row) HRS.out.2 (fun _ hk => hk.1)) (fun k hk => ⟨hk.1, fun h => by have := hk.2.2.1; omega⟩)) _); (case aS => have := HS.out.below.size; have := HRS.out.2.1; rw [World.size_alloc]; omega); (case aL => have := HX.out; omega); intro v2 w2 ho2 hb2 hg2 _; have HO2 := Aside0.mk ho2; have HB2 := Aside0.mk hb2; have HG2 := Aside0.mk hg2; clear ho2 hb2 hg2)))
        go_roundg k2
        case measure => exact Nat.lt_succ_self _
        case rel =>
          refine ⟨l1, xs ++ [s], ⟨by have := HI.out.1; have := HM.out; omega, nextP_bytes HN.out HI.out.2.1, by have := HI.out.2.2.1; have := HM.out; rw [List.length_append, List.length_singleton]; omega, by rw [HI.out.2.2.2, takeF_some HN.out]; simp⟩, ⟨⟨HR.out.move ?_, HB2.out, HO2.out⟩⟩⟩
          have hlt : w.heap.size < w1.heap.size := by obtain ⟨_, _, _, h, _⟩ := HR.out; exact blk_lt h
          refine (HG2.out.block w.heap.size (by rw [World.size_alloc]; omega) (fun e => HS.out.row.choose_spec.1 w.heap.size e.symm rfl)).trans ?_
          exact Below.heap_alloc w1 _ w.heap.size hlt
/-! ### slices.Clone -/
def bytes_Clone.f (l0 : List (Int)) : Option (List (Int)) := if l0.length < 4398046511104 then some l0 else none
theorem bytes_Clone.eq (l0 : List (Int)) (h : l0.length < 4398046511104) : bytes_Clone.f l0 = some l0 := by unfold bytes_Clone.f; rw [if_pos h]
set_option maxHeartbeats 400000 in
theorem bytes_Clone.calls (A0 : Option Addr) (c0 : Nat) (l0 : List (Int)) (r : List (Int)) (w : World) (hr0 : Kd.C (Kd.int .u8) w A0 l0.length l0) (hc0 : l0.length ≤ c0) (h : bytes_Clone.f l0 = some r) :
    Calls Try.prog 49 #[.slice A0 l0.length c0] w fun e w' => ∃ v0_ : Value, e = .returned (v0_) ∧ Kd.R (Kd.int .u8) 5 w' w.heap.size (fun _ => True) v0_ r ∧ Below w.heap.size w w' := by
  unfold bytes_Clone.f at h
  have hl : l0.length < 4398046511104 := by
    rcases Nat.lt_or_ge l0.length 4398046511104 with h1 | h1
    · exact h1
    · rw [if_neg (by omega)] at h; exact absurd h (by simp)
  rw [if_pos hl] at h
  obtain rfl := Option.some.inj h
  clear h
  have hq := fun (W : World) (a : Option Addr) (n c : Nat) => Lib.run_eql_slice_nil (P := Try.prog) W 22 5 a n c 0 0 Try.underlying22
  rcases A0 with _ | ad
  · have hn : l0 = [] := by
      rcases Nat.eq_zero_or_pos l0.length with h0 | h0
      · exact List.length_eq_zero_iff.1 h0
      · obtain ⟨ad, e, _⟩ := hr0.2.2 h0
        cases e
    subst hn
    clear hr0
    go_enter Try.func49, Try.ntmps49
    go_wp2
    go_ret
    exact ⟨_, rfl, Kd.R_nil _ _ _ _ _, Below.refl _ _⟩
  · have HR0 := Aside0.mk hr0
    have HC0 := Aside0.mk hc0
    clear hr0 hc0
    have HB := Aside0.mk (Below.refl w.heap.size w)
    go_enter Try.func49, Try.ntmps49
    go_wp2_with (first
      | ((with_reducible refine gate_dst (N := 5) rfl ?_); refine Kd.R_lit (Kd.int .u8) _ 5 ?hg (N := 5) ?hd (xs := ([] : List (Int))) (inner := []) (ok := fun _ => True) (okp := fun _ => True) ?hr ?hp (fun _ hk => hk) trivial (Below.refl _ _) (Nat.le_refl _) (by simp) ?_; (case hd => rfl); (case hg => rfl); (case hr => first | (go_simp; done) | (go_simp; rfl)); (case hp => exact (Reps.none _ _)); intro v138 w12 ho13 hb hg_ hnew_; clear hg_ hnew_; have HO := Aside0.mk ho13; have HB2 := Aside0.mk hb; clear ho13 hb)
      | ((with_reducible refine gate_builtin (b := .append) (xs := #[.tmp 5, .tmp 6]) rfl ?_); at_builtin; refine Kd.R_append_rows (Kd.int .u8) (w0 := w) w.heap.size rfl (.tmp 5) (.tmp 6) 22 5 (.int .u8 0) 1 rfl Try.underlying22 info5 rfl (by decide) (by omega) v138 [] l0 _ _ _ (fun _ => True) (fun _ => False) rfl rfl ?aO ?aR (fun _ _ h => h) (fun _ h => h.elim) ?aF ?aB ?aS ?aL ?_; (case aR => exact Kd.C_below HR0.out HB2.out); (case aB => exact HB2.out); (case aF => exact (fun _ _ => trivial)); (case aO => exact HO.out); (case aS => exact below_size HB2.out); (case aL => simp; omega); intro v141 w14 ho hb hg hat; clear hg hat; have HO' := Aside0.mk ho; have HB' := Aside0.mk hb; clear ho hb))
    go_ret
    exact ⟨_, rfl, by simpa using HO'.out, HB'.out⟩


/-! ### slices.Equal -/
def ints_Equal.f (l0 l1 : List Int) : Option Bool := some (decide (l0 = l1))
theorem take_eq_succ {l0 l1 : List Int} {i : Nat} (h0 : i < l0.length) (h1 : i < l1.length) (h : l0.take i = l1.take i) : (l0.take (i + 1) = l1.take (i + 1)) ↔ rd l0 i = rd l1 i := by
  rw [List.take_succ_eq_append_getElem h0, List.take_succ_eq_append_getElem h1, h]
  unfold rd
  rw [Int.toNat_natCast, List.getD_eq_getElem?_getD, List.getElem?_eq_getElem h0, List.getD_eq_getElem?_getD, List.getElem?_eq_getElem h1]
  rw [List.append_cancel_left_eq]
  simp
set_option maxHeartbeats 1000000 in
theorem ints_Equal.calls (A0 : Option Addr) (c0 : Nat) (l0 : List Int) (A1 : Option Addr) (c1 : Nat) (l1 : List Int) (r : Bool) (w : World) (hr0 : Kd.C (Kd.int .i64) w A0 l0.length l0) (hc0 : l0.length ≤ c0) (hr1 : Kd.C (Kd.int .i64) w A1 l1.length l1) (hc1 : l1.length ≤ c1) (h : ints_Equal.f l0 l1 = some r) :
    Calls Try.prog 36 #[.slice A0 l0.length c0, .slice A1 l1.length c1] w fun e w' => e = .returned (.bool r) ∧ Below w.heap.size w w' := by
  unfold ints_Equal.f at h
  obtain rfl := Option.some.inj h
  clear h
  have H0 := Aside0.mk hr0
  have H1 := Aside0.mk hr1
  have hb0 : l0.length ≤ 9223372036854775807 := hr0.2.1
  clear hr0 hr1
  rcases Nat.lt_or_ge l0.length l1.length with hne | hge
  · have hd : (((l0.length : Int)) != (l1.length : Int)) = true := bne_iff_ne.2 (by omega)
    have hd2 : ((l0.length) != l1.length) = true := bne_iff_ne.2 (by omega)
    have hF : decide (l0 = l1) = false := decide_eq_false (fun e => by rw [e] at hne; omega)
    rw [hF]
    go_enter Try.func36, Try.ntmps36
    go_wp2
    go_ret
    exact ⟨rfl, Below.refl _ _⟩
  rcases Nat.lt_or_ge l1.length l0.length with hne | hge'
  · have hd : (((l0.length : Int)) != (l1.length : Int)) = true := bne_iff_ne.2 (by omega)
    have hd2 : ((l0.length) != l1.length) = true := bne_iff_ne.2 (by omega)
    have hF : decide (l0 = l1) = false := decide_eq_false (fun e => by rw [e] at hne; omega)
    rw [hF]
    go_enter Try.func36, Try.ntmps36
    go_wp2
    go_ret
    exact ⟨rfl, Below.refl _ _⟩
  have hlen : l1.length = l0.length := by omega
  have HLEN := Aside0.mk hlen
  generalize hn1 : l1.length = n1 at *
  obtain rfl : n1 = l0.length := hlen
  have HN1 := Aside0.mk hn1
  clear hn1 hge hge' HLEN
  have hd : (((l0.length : Int)) != (l0.length : Int)) = false := by simp
  go_enter Try.func36, Try.ntmps36
  go_wp2
  go_loopg [13] l0.length (fun kq v13 w' => ∃ i : Nat, v13 = .int .i64 (i : Int) ∧ Aside0 (i + kq = l0.length ∧ l0.take i = l1.take i) ∧ Aside0 (∃ n, w' = w.drewN n))
  case atStart => exact ⟨0, rfl, ⟨by omega, rfl⟩, ⟨0, rfl⟩⟩
  case round =>
    obtain ⟨i, rfl, HI, ⟨m, rfl⟩⟩ := hrel
    have hil := HI.out.1
    cases gk with
    | zero =>
      have hx : decide ((i : Int) < (l0.length : Int)) = false := decide_eq_false (by omega)
      have hx2 : decide (i < l0.length) = false := decide_eq_false (by omega)
      clear hil
      go_wp2
      go_ret
      have hE : l0 = l1 := by
        have h1 := HI.out.2
        rwa [List.take_of_length_le (by have := HI.out.1; omega), List.take_of_length_le (by have := HI.out.1; have := HN1.out; omega)] at h1
      exact ⟨by rw [decide_eq_true hE]; rfl, pw_below_drewN (Below.refl _ _) _⟩
    | succ k2 =>
      have hx : decide ((i : Int) < (l0.length : Int)) = true := decide_eq_true (by omega)
      have hx2 : decide (i < l0.length) = true := decide_eq_true (by omega)
      obtain ⟨ad0, e0, hx0⟩ := Kd.at_int H0.out (i : Int) (by omega) (by omega)
      obtain ⟨ad1, e1, hx1⟩ := Kd.at_int H1.out (i : Int) (by omega) (by omega)
      cases e0
      cases e1
      rw [Int.toNat_natCast] at hx0 hx1
      have p1 : (0 ≤ (i : Int)) = True := eq_true (by omega)
      have q1 : ((i : Int) < (l0.length : Int)) = True := eq_true (by omega)
      have q2 : (i < l0.length) = True := eq_true (by omega)
      have hts := take_eq_succ (l0 := l0) (l1 := l1) (i := i) (by omega) (by have := HN1.out; omega) HI.out.2
      have HT := Aside0.mk hts
      clear hil hts
      rcases Classical.em (rd l0 i = rd l1 i) with he | he
      · have hb : (rd l0 i != rd l1 i) = false := by simp [he]
        have HE := Aside0.mk he
        clear he
        go_wp2
        go_quiet (fail)
        go_wp2
        go_roundg k2
        case measure => exact Nat.lt_succ_self _
        case rel => exact ⟨i + 1, by rw [show wrap64 ((i : Int) + 1) = ((i + 1 : Nat) : Int) from by have := HI.out.1; unfold wrap64; omega], ⟨by have := HI.out.1; omega, HT.out.2 HE.out⟩, ⟨_, rfl⟩⟩
      · have hb : (rd l0 i != rd l1 i) = true := bne_iff_ne.2 he
        have HE := Aside0.mk he
        clear he
        go_wp2
        go_quiet (fail)
        go_wp2
        go_ret
        have hF : decide (l0 = l1) = false := decide_eq_false (fun e => HE.out (by rw [e]))
        exact ⟨by rw [hF]; rfl, by (with_reducible repeat (first | exact Below.refl _ _ | apply pw_below_drewN | apply below_drew1))⟩
end Go.Proofs.Ythpehiecmgipmaa.L
