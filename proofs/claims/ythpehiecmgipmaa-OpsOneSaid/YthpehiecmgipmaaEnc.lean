/- Plain facts on steps as bytes: what bytes say is said by the bytes that are made of it, bytes behind are left, a front of them says no step, noughts are passed over. No conditions beyond each theorem's own. -/
import Derived.Test.YthpehiecmgipmaaLib
namespace Go.Proofs.Ythpehiecmgipmaa.L
set_option linter.unusedSimpArgs false
set_option linter.unusedVariables false
open Go.RowKit Go.Proofs.YthpehiecmgipmaaW.PrintWords Go.Proofs.YthpehiecmgipmaaW.PrintLast Go.Proofs.YthpehiecmgipmaaW.PrintMore

def R1 (x : Int) : Prop := 0 ≤ x ∧ x < 256
def R2 (x : Int) : Prop := 0 ≤ x ∧ x < 65536
/-- A number as two bytes. -/
def p2 (v : Int) : List Int := [v / 256 % 256, v % 256]
def encT (s : ByteArray) : List Int := if s.size > 255 then [] else ((s.size : Int) % 256) :: bytesOf s
/-- A step as bytes. -/
def body (s : S27) : List Int :=
  if s.f0 = 1 then p2 s.f2 ++ s.f8.flatMap p2
  else if s.f0 = 2 then [s.f1 % 256]
  else if s.f0 = 3 then (s.f1 % 256) :: encT s.f7
  else if s.f0 = 4 ∨ s.f0 = 6 ∨ s.f0 = 7 ∨ s.f0 = 8 then [s.f1 % 256, s.f3 % 256]
  else if s.f0 = 5 then (s.f1 % 256) :: (s.f3 % 256) :: (s.f4 % 256) :: encT s.f7
  else if s.f0 = 12 then (s.f5 % 256) :: p2 s.f6
  else if s.f0 = 14 then (s.f1 % 256) :: ((s.f8.length : Int) % 256) :: s.f8.map (· % 256)
  else [s.f5 % 256]
def encS (s : S27) : List Int := (s.f0 % 256) :: body s
/-- A step that bytes may say. -/
inductive WF : S27 → Prop where
  | time (b : Int) (g : List Int) (hb : R2 b) (hl : g.length = 4) (hg : ∀ x ∈ g, R2 x) : WF ⟨1, 0, b, 0, 0, 0, 0, ⟨#[]⟩, g⟩
  | run (a : Int) (ha : R1 a) : WF ⟨2, a, 0, 0, 0, 0, 0, ⟨#[]⟩, []⟩
  | open_ (a : Int) (t : ByteArray) (ha : R1 a) (ht : t.size ≤ 255) : WF ⟨3, a, 0, 0, 0, 0, 0, t, []⟩
  | two (k a b : Int) (hk : k = 4 ∨ k = 6 ∨ k = 7 ∨ k = 8) (ha : R1 a) (hb : R1 b) : WF ⟨k, a, 0, b, 0, 0, 0, ⟨#[]⟩, []⟩
  | write (a b c : Int) (t : ByteArray) (ha : R1 a) (hb : R1 b) (hc : R1 c) (ht : t.size ≤ 255) : WF ⟨5, a, 0, b, c, 0, 0, t, []⟩
  | turned (a b : Int) (ha : R1 a) (hb : R2 b) : WF ⟨12, 0, 0, 0, 0, a, b, ⟨#[]⟩, []⟩
  | crash (a : Int) (g : List Int) (ha : R1 a) (hl : g.length ≤ 20) (hg : ∀ x ∈ g, R1 x) : WF ⟨14, a, 0, 0, 0, 0, 0, ⟨#[]⟩, g⟩
  | other (k a : Int) (hk : k = 9 ∨ k = 10 ∨ k = 11 ∨ k = 13) (ha : R1 a) : WF ⟨k, 0, 0, 0, 0, a, 0, ⟨#[]⟩, []⟩

/-! ### reading what was written -/
theorem numP_1 (a : Int) (r : List Int) (ha : R1 a) : numP 1 ((a % 256) :: r) = some (a, r) := by
  rw [numP_cons, show a % 256 = a from by unfold R1 at ha; omega]
theorem numP_2 (b : Int) (r : List Int) (hb : R2 b) : numP 2 (p2 b ++ r) = some (b, r) := by
  unfold numP p2 R2 at *
  rw [if_neg (by simp)]
  simp [valOf]
  omega
theorem gainsP_2 : ∀ (g : List Int) (r : List Int), (∀ x ∈ g, R2 x) → gainsP 2 g.length (g.flatMap p2 ++ r) = some (g, r)
  | [], r, _ => rfl
  | x :: g, r, h => by
    have hx := h x List.mem_cons_self
    have ih := gainsP_2 g r (fun y hy => h y (List.mem_cons_of_mem _ hy))
    have h2 := numP_2 x (g.flatMap p2 ++ r) hx
    obtain ⟨h3, h4, h5⟩ := numP_yes h2
    simp only at h4 h5
    rw [List.flatMap_cons, List.append_assoc, List.length_cons, gainsP_yes _ _ _ (by omega), ← h4, ← h5, ih]
    rfl
theorem gainsP_1 : ∀ (g : List Int) (r : List Int), (∀ x ∈ g, R1 x) → gainsP 1 g.length (g.map (· % 256) ++ r) = some (g, r)
  | [], r, _ => rfl
  | x :: g, r, h => by
    have hx := h x List.mem_cons_self
    have ih := gainsP_1 g r (fun y hy => h y (List.mem_cons_of_mem _ hy))
    have h2 := numP_1 x (g.map (· % 256) ++ r) hx
    obtain ⟨h3, h4, h5⟩ := numP_yes h2
    simp only at h4 h5
    rw [List.map_cons, List.cons_append, List.length_cons, gainsP_yes _ _ _ (by omega), ← h4, ← h5, ih]
    rfl
theorem strOf_bytesOf (s : ByteArray) : strOfNums (bytesOf s) = s := by
  unfold strOfNums bytesOf
  rw [List.map_map]
  have : (fun n : Int => UInt8.ofNat n.toNat) ∘ (fun b : UInt8 => (b.toNat : Int)) = id := by
    funext b
    simp
  rw [this, List.map_id]
theorem textP_enc (s : ByteArray) (r : List Int) (hs : s.size ≤ 255) : textP (encT s ++ r) = some (s, r) := by
  have hE : encT s = ((s.size : Int) % 256) :: bytesOf s := by unfold encT; rw [if_neg (by omega)]
  rw [hE]
  unfold textP
  have h0 : rd ((((s.size : Int) % 256) :: bytesOf s) ++ r) 0 = (s.size : Int) := by
    show ((s.size : Int) % 256) = _
    omega
  rw [h0]
  have hl := bytesOf_length s
  rw [if_pos ⟨by simp, by simp [hl]; omega⟩]
  have ht : ((s.size : Int) + 1).toNat = (bytesOf s).length + 1 := by omega
  rw [ht]
  simp only [List.cons_append, List.take_succ_cons, List.drop_succ_cons, List.drop_zero]
  rw [List.take_left, List.drop_left, strOf_bytesOf]
theorem skipP_enc (k : Int) (r : List Int) (h1 : 1 ≤ k) (h2 : k ≤ 14) : skipP ((k % 256) :: r) = some (k, r) := by
  have hk : k % 256 = k := by omega
  have hk2 : k % 15 = k := by omega
  rw [hk, skipP_kind k r (by omega), hk2]
theorem nextP_enc {s : S27} (h : WF s) (r : List Int) : nextP (encS s ++ r) = some (s, r) := by
  cases h with
  | time b g hb hl hg =>
    have h1 := numP_2 b (g.flatMap p2 ++ r) hb
    have h2 := gainsP_2 g r hg
    rw [hl] at h2
    show (skipP ((1 % 256) :: (body _ ++ r))).bind _ = _
    rw [skipP_enc 1 _ (by decide) (by decide)]
    simp only [Option.bind_some, body, stepP, if_true, List.append_assoc, h1, h2]
  | run a ha =>
    have h1 := numP_1 a r ha
    show (skipP ((2 % 256) :: (body _ ++ r))).bind _ = _
    rw [skipP_enc 2 _ (by decide) (by decide)]
    simp [body, stepP, h1]
  | open_ a t ha ht =>
    have h1 := numP_1 a (encT t ++ r) ha
    have h2 := textP_enc t r ht
    show (skipP ((3 % 256) :: (body _ ++ r))).bind _ = _
    rw [skipP_enc 3 _ (by decide) (by decide)]
    simp [body, stepP, h1, h2]
  | two k a b hk ha hb =>
    have h1 := numP_1 a ((b % 256) :: r) ha
    have h2 := numP_1 b r hb
    show (skipP ((k % 256) :: (body _ ++ r))).bind _ = _
    rw [skipP_enc k _ (by omega) (by omega)]
    rcases hk with rfl | rfl | rfl | rfl <;> simp [body, stepP, h1, h2]
  | write a b c t ha hb hc ht =>
    have h1 := numP_1 a ((b % 256) :: (c % 256) :: (encT t ++ r)) ha
    have h2 := numP_1 b ((c % 256) :: (encT t ++ r)) hb
    have h3 := numP_1 c (encT t ++ r) hc
    have h4 := textP_enc t r ht
    show (skipP ((5 % 256) :: (body _ ++ r))).bind _ = _
    rw [skipP_enc 5 _ (by decide) (by decide)]
    simp [body, stepP, h1, h2, h3, h4]
  | turned a b ha hb =>
    have h1 := numP_1 a (p2 b ++ r) ha
    have h2 := numP_2 b r hb
    show (skipP ((12 % 256) :: (body _ ++ r))).bind _ = _
    rw [skipP_enc 12 _ (by decide) (by decide)]
    simp [body, stepP, h1, h2]
  | crash a g ha hl hg =>
    have h1 := numP_1 a (((g.length : Int) % 256) :: (g.map (· % 256) ++ r)) ha
    have h2 := numP_1 (g.length : Int) (g.map (· % 256) ++ r) (by unfold R1; omega)
    have h3 := gainsP_1 g r hg
    show (skipP ((14 % 256) :: (body _ ++ r))).bind _ = _
    rw [skipP_enc 14 _ (by decide) (by decide)]
    have h4 : ¬ (g.length : Int) > 20 := by omega
    have h5 : ¬ 20 < g.length := by omega
    simp [body, stepP, h1, h2, h3, h4, h5]
  | other k a hk ha =>
    have h1 := numP_1 a r ha
    show (skipP ((k % 256) :: (body _ ++ r))).bind _ = _
    rw [skipP_enc k _ (by omega) (by omega)]
    rcases hk with rfl | rfl | rfl | rfl <;> simp [body, stepP, h1]

/-! ### what is read may be written -/
theorem numP_R1 {l : List Int} {q : Int × List Int} (h : numP 1 l = some q) (hb : Okb l) : R1 q.1 := numP_one h hb
theorem numP_R2 {l : List Int} {q : Int × List Int} (h : numP 2 l = some q) (hb : Okb l) : R2 q.1 := by
  obtain ⟨h1, h2, _⟩ := numP_yes h
  have := valOf_bd hb.1 2 h1 (Nat.le_refl 2)
  rw [h2]; exact this
theorem textP_size {l : List Int} {q : ByteArray × List Int} (h : textP l = some q) (hb : Okb l) : q.1.size ≤ 255 := by
  unfold textP at h
  split at h
  · rename_i hc
    obtain rfl := Option.some.inj h
    have hx := inBytes_rd hb.1 0 hc.1
    rw [show ((0 : Nat) : Int) = 0 from rfl] at hx
    show (strOfNums _).size ≤ 255
    rw [strOfNums_size, List.length_drop, List.length_take]
    omega
  · exact absurd h (by simp)
theorem gainsP_R2 : ∀ {m : Nat} {l : List Int} {q : List Int × List Int}, gainsP 2 m l = some q → Okb l → q.1.length = m ∧ ∀ x ∈ q.1, R2 x
  | 0, l, q, h, hb => by obtain rfl := Option.some.inj h; exact ⟨rfl, fun x hx => by cases hx⟩
  | m + 1, l, q, h, hb => by
    rcases Nat.lt_or_ge l.length 2 with h1 | h1
    · rw [gainsP_no 2 m l h1] at h; exact absurd h (by simp)
    · rw [gainsP_yes 2 m l (by omega)] at h
      obtain ⟨p, hp, h2⟩ := Option.bind_eq_some_iff.mp h
      obtain rfl := Option.some.inj h2
      obtain ⟨i1, i2⟩ := gainsP_R2 hp (hb.drop 2)
      refine ⟨by show p.1.length + 1 = m + 1; omega, fun x hx => ?_⟩
      rcases List.mem_cons.1 hx with rfl | hx
      · exact valOf_bd hb.1 2 h1 (Nat.le_refl 2)
      · exact i2 x hx
theorem gainsP_R1 : ∀ {m : Nat} {l : List Int} {q : List Int × List Int}, gainsP 1 m l = some q → Okb l → q.1.length = m ∧ ∀ x ∈ q.1, R1 x
  | 0, l, q, h, hb => by obtain rfl := Option.some.inj h; exact ⟨rfl, fun x hx => by cases hx⟩
  | m + 1, l, q, h, hb => by
    rcases Nat.lt_or_ge l.length 1 with h1 | h1
    · rw [gainsP_no 1 m l h1] at h; exact absurd h (by simp)
    · rw [gainsP_yes 1 m l (by omega)] at h
      obtain ⟨p, hp, h2⟩ := Option.bind_eq_some_iff.mp h
      obtain rfl := Option.some.inj h2
      obtain ⟨i1, i2⟩ := gainsP_R1 hp (hb.drop 1)
      refine ⟨by show p.1.length + 1 = m + 1; omega, fun x hx => ?_⟩
      rcases List.mem_cons.1 hx with rfl | hx
      · exact numP_one (q := (valOf (l.take 1), l.drop 1)) (by unfold numP; rw [if_neg (by omega)]) hb
      · exact i2 x hx
theorem stepP_wf {k : Int} {l : List Int} {q : S27 × List Int} (hk1 : 1 ≤ k) (hk2 : k ≤ 14) (h : stepP k l = some q) (hb : Okb l) : WF q.1 := by
  unfold stepP at h
  split at h
  · rename_i hk
    obtain ⟨p, hp, h⟩ := Option.bind_eq_some_iff.mp h
    obtain ⟨p2, hp2, h⟩ := Option.bind_eq_some_iff.mp h
    obtain rfl := Option.some.inj h
    subst hk
    obtain ⟨i1, i2⟩ := gainsP_R2 hp2 (numP_bytes hp hb)
    exact .time _ _ (numP_R2 hp hb) i1 i2
  split at h
  · rename_i hk
    obtain ⟨p, hp, h⟩ := Option.bind_eq_some_iff.mp h
    obtain rfl := Option.some.inj h
    subst hk
    exact .run _ (numP_R1 hp hb)
  split at h
  · rename_i hk
    obtain ⟨p, hp, h⟩ := Option.bind_eq_some_iff.mp h
    obtain ⟨p2, hp2, h⟩ := Option.bind_eq_some_iff.mp h
    obtain rfl := Option.some.inj h
    subst hk
    exact .open_ _ _ (numP_R1 hp hb) (textP_size hp2 (numP_bytes hp hb))
  split at h
  · rename_i hk
    obtain ⟨p, hp, h⟩ := Option.bind_eq_some_iff.mp h
    obtain ⟨p2, hp2, h⟩ := Option.bind_eq_some_iff.mp h
    obtain rfl := Option.some.inj h
    exact .two _ _ _ hk (numP_R1 hp hb) (numP_R1 hp2 (numP_bytes hp hb))
  split at h
  · rename_i hk
    obtain ⟨p, hp, h⟩ := Option.bind_eq_some_iff.mp h
    obtain ⟨p2, hp2, h⟩ := Option.bind_eq_some_iff.mp h
    obtain ⟨p3, hp3, h⟩ := Option.bind_eq_some_iff.mp h
    obtain ⟨p4, hp4, h⟩ := Option.bind_eq_some_iff.mp h
    obtain rfl := Option.some.inj h
    subst hk
    have b1 := numP_bytes hp hb
    have b2 := numP_bytes hp2 b1
    exact .write _ _ _ _ (numP_R1 hp hb) (numP_R1 hp2 b1) (numP_R1 hp3 b2) (textP_size hp4 (numP_bytes hp3 b2))
  split at h
  · rename_i hk
    obtain ⟨p, hp, h⟩ := Option.bind_eq_some_iff.mp h
    obtain ⟨p2, hp2, h⟩ := Option.bind_eq_some_iff.mp h
    obtain rfl := Option.some.inj h
    subst hk
    exact .turned _ _ (numP_R1 hp hb) (numP_R2 hp2 (numP_bytes hp hb))
  split at h
  · rename_i hk
    obtain ⟨p, hp, h⟩ := Option.bind_eq_some_iff.mp h
    obtain ⟨p2, hp2, h⟩ := Option.bind_eq_some_iff.mp h
    split at h
    · exact absurd h (by simp)
    rename_i h20
    obtain ⟨p3, hp3, h⟩ := Option.bind_eq_some_iff.mp h
    obtain rfl := Option.some.inj h
    subst hk
    have b1 := numP_bytes hp hb
    have b2 := numP_bytes hp2 b1
    obtain ⟨i1, i2⟩ := gainsP_R1 hp3 b2
    exact .crash _ _ (numP_R1 hp hb) (by rw [i1]; omega) i2
  · obtain ⟨p, hp, h⟩ := Option.bind_eq_some_iff.mp h
    obtain rfl := Option.some.inj h
    exact .other _ _ (by omega) (numP_R1 hp hb)
theorem skipP_range : ∀ {l : List Int} {q : Int × List Int}, skipP l = some q → 1 ≤ q.1 ∧ q.1 ≤ 14
  | [], _, h => by exact absurd h (by simp [skipP])
  | x :: r, q, h => by
    rcases Classical.em (x % 15 = 0) with h0 | h0
    · rw [skipP_pass x r h0] at h
      exact skipP_range h
    · rw [skipP_kind x r h0] at h
      obtain rfl := Option.some.inj h
      show 1 ≤ x % 15 ∧ x % 15 ≤ 14
      omega
theorem nextP_wf {l : List Int} {q : S27 × List Int} (h : nextP l = some q) (hb : Okb l) : WF q.1 := by
  unfold nextP at h
  obtain ⟨p, hp, h⟩ := Option.bind_eq_some_iff.mp h
  exact stepP_wf (skipP_range hp).1 (skipP_range hp).2 h (skipP_bytes hp hb)

/-! ### more bytes behind -/
theorem numP_more {n : Nat} {l : List Int} {q : Int × List Int} (r : List Int) (h : numP n l = some q) : numP n (l ++ r) = some (q.1, q.2 ++ r) := by
  obtain ⟨h1, h2, h3⟩ := numP_yes h
  unfold numP
  rw [if_neg (by rw [List.length_append]; omega), h2, h3, List.take_append_of_le_length h1, List.drop_append_of_le_length h1]
theorem textP_more {l : List Int} {q : ByteArray × List Int} (r : List Int) (h : textP l = some q) : textP (l ++ r) = some (q.1, q.2 ++ r) := by
  unfold textP at h ⊢
  split at h
  · rename_i hc
    obtain rfl := Option.some.inj h
    have h0 : rd (l ++ r) 0 = rd l 0 := by
      cases l with
      | nil => exact absurd hc.1 (by simp)
      | cons x l => rfl
    rw [h0, if_pos ⟨by rw [List.length_append]; omega, by rw [List.length_append]; omega⟩, List.take_append_of_le_length (by omega), List.drop_append_of_le_length (by omega)]
  · exact absurd h (by simp)
theorem gainsP_more {n : Nat} (r : List Int) : ∀ {m : Nat} {l : List Int} {q : List Int × List Int}, gainsP n m l = some q → gainsP n m (l ++ r) = some (q.1, q.2 ++ r)
  | 0, l, q, h => by obtain rfl := Option.some.inj h; rfl
  | m + 1, l, q, h => by
    rcases Nat.lt_or_ge l.length n with h1 | h1
    · rw [gainsP_no n m l h1] at h; exact absurd h (by simp)
    · rw [gainsP_yes n m l (by omega)] at h
      obtain ⟨p, hp, h2⟩ := Option.bind_eq_some_iff.mp h
      obtain rfl := Option.some.inj h2
      rw [gainsP_yes n m _ (by rw [List.length_append]; omega), List.drop_append_of_le_length h1, gainsP_more r hp, List.take_append_of_le_length h1]
      rfl
theorem stepP_more {k : Int} {l : List Int} {q : S27 × List Int} (r : List Int) (h : stepP k l = some q) : stepP k (l ++ r) = some (q.1, q.2 ++ r) := by
  unfold stepP at h ⊢
  split at h
  · rename_i hk
    obtain ⟨p, hp, h⟩ := Option.bind_eq_some_iff.mp h
    obtain ⟨p2, hp2, h⟩ := Option.bind_eq_some_iff.mp h
    obtain rfl := Option.some.inj h
    rw [if_pos hk, numP_more r hp]; simp only [Option.bind_some]; rw [gainsP_more r hp2]; rfl
  rename_i k1; rw [if_neg k1]
  split at h
  · rename_i hk
    obtain ⟨p, hp, h⟩ := Option.bind_eq_some_iff.mp h
    obtain rfl := Option.some.inj h
    rw [if_pos hk, numP_more r hp]; rfl
  rename_i k2; rw [if_neg k2]
  split at h
  · rename_i hk
    obtain ⟨p, hp, h⟩ := Option.bind_eq_some_iff.mp h
    obtain ⟨p2, hp2, h⟩ := Option.bind_eq_some_iff.mp h
    obtain rfl := Option.some.inj h
    rw [if_pos hk, numP_more r hp]; simp only [Option.bind_some]; rw [textP_more r hp2]; rfl
  rename_i k3; rw [if_neg k3]
  split at h
  · rename_i hk
    obtain ⟨p, hp, h⟩ := Option.bind_eq_some_iff.mp h
    obtain ⟨p2, hp2, h⟩ := Option.bind_eq_some_iff.mp h
    obtain rfl := Option.some.inj h
    rw [if_pos hk, numP_more r hp]; simp only [Option.bind_some]; rw [numP_more r hp2]; rfl
  rename_i k4; rw [if_neg k4]
  split at h
  · rename_i hk
    obtain ⟨p, hp, h⟩ := Option.bind_eq_some_iff.mp h
    obtain ⟨p2, hp2, h⟩ := Option.bind_eq_some_iff.mp h
    obtain ⟨p3, hp3, h⟩ := Option.bind_eq_some_iff.mp h
    obtain ⟨p4, hp4, h⟩ := Option.bind_eq_some_iff.mp h
    obtain rfl := Option.some.inj h
    rw [if_pos hk, numP_more r hp]; simp only [Option.bind_some]; rw [numP_more r hp2]; simp only [Option.bind_some]; rw [numP_more r hp3]; simp only [Option.bind_some]; rw [textP_more r hp4]; rfl
  rename_i k5; rw [if_neg k5]
  split at h
  · rename_i hk
    obtain ⟨p, hp, h⟩ := Option.bind_eq_some_iff.mp h
    obtain ⟨p2, hp2, h⟩ := Option.bind_eq_some_iff.mp h
    obtain rfl := Option.some.inj h
    rw [if_pos hk, numP_more r hp]; simp only [Option.bind_some]; rw [numP_more r hp2]; rfl
  rename_i k6; rw [if_neg k6]
  split at h
  · rename_i hk
    obtain ⟨p, hp, h⟩ := Option.bind_eq_some_iff.mp h
    obtain ⟨p2, hp2, h⟩ := Option.bind_eq_some_iff.mp h
    split at h
    · exact absurd h (by simp)
    rename_i h20
    obtain ⟨p3, hp3, h⟩ := Option.bind_eq_some_iff.mp h
    obtain rfl := Option.some.inj h
    rw [if_pos hk, numP_more r hp]; simp only [Option.bind_some]; rw [numP_more r hp2]; simp only [Option.bind_some]; rw [if_neg h20, gainsP_more r hp3]; rfl
  · rename_i k7; rw [if_neg k7]
    obtain ⟨p, hp, h⟩ := Option.bind_eq_some_iff.mp h
    obtain rfl := Option.some.inj h
    rw [numP_more r hp]; rfl
theorem skipP_more (r : List Int) : ∀ {l : List Int} {q : Int × List Int}, skipP l = some q → skipP (l ++ r) = some (q.1, q.2 ++ r)
  | [], _, h => by exact absurd h (by simp [skipP])
  | x :: l, q, h => by
    rcases Classical.em (x % 15 = 0) with h0 | h0
    · rw [skipP_pass x l h0] at h
      rw [List.cons_append, skipP_pass x _ h0]
      exact skipP_more r h
    · rw [skipP_kind x l h0] at h
      obtain rfl := Option.some.inj h
      rw [List.cons_append, skipP_kind x _ h0]
theorem nextP_more {l : List Int} {q : S27 × List Int} (r : List Int) (h : nextP l = some q) : nextP (l ++ r) = some (q.1, q.2 ++ r) := by
  unfold nextP at h ⊢
  obtain ⟨p, hp, h⟩ := Option.bind_eq_some_iff.mp h
  rw [skipP_more r hp]
  exact stepP_more r h
/-- A front of a step's bytes says none. -/
theorem nextP_front {s : S27} (h : WF s) (m : Nat) (hm : m < (encS s).length) : nextP ((encS s).take m) = none := by
  cases hn : nextP ((encS s).take m) with
  | none => rfl
  | some q =>
    have h1 := nextP_more ((encS s).drop m) hn
    rw [List.take_append_drop] at h1
    have h2 := nextP_enc h []
    rw [List.append_nil] at h2
    rw [h2] at h1
    have h3 := congrArg (fun z => z.2) (Option.some.inj h1)
    simp only at h3
    have h4 := congrArg List.length h3
    rw [List.length_append, List.length_drop, List.length_nil] at h4
    omega

/-! ### rows of steps -/
theorem takeF_ge : ∀ (n m : Nat) (l : List Int), l.length ≤ n → l.length ≤ m → takeF n l = takeF m l
  | 0, m, l, hn, _ => by
    have : l = [] := List.length_eq_zero_iff.1 (by omega)
    subst this
    rw [takeF_none (show nextP [] = none from rfl), takeF_none (show nextP [] = none from rfl)]
  | n + 1, 0, l, _, hm => by
    have : l = [] := List.length_eq_zero_iff.1 (by omega)
    subst this
    rw [takeF_none (show nextP [] = none from rfl), takeF_none (show nextP [] = none from rfl)]
  | n + 1, m + 1, l, hn, hm => by
    cases h : nextP l with
    | none => rw [takeF_none h, takeF_none h]
    | some q =>
      have := nextP_len h
      rw [takeF_some h, takeF_some h, takeF_ge n m q.2 (by omega) (by omega)]
theorem takeS_none {l : List Int} (h : nextP l = none) : takeS l = [] := takeF_none h
theorem takeS_some {l : List Int} {q : S27 × List Int} (h : nextP l = some q) : takeS l = q.1 :: takeS q.2 := by
  have hl := nextP_len h
  unfold takeS
  obtain ⟨n, hn⟩ : ∃ n, l.length = n + 1 := ⟨l.length - 1, by omega⟩
  rw [hn, takeF_some h, takeF_ge n q.2.length q.2 (by omega) (Nat.le_refl _)]
theorem takeS_enc {s : S27} (h : WF s) (r : List Int) : takeS (encS s ++ r) = s :: takeS r := takeS_some (nextP_enc h r)
/-- Steps as bytes. -/
def encL (l : List S27) : List Int := l.flatMap encS
theorem takeS_encL : ∀ {l : List S27} (r : List Int), (∀ s ∈ l, WF s) → takeS (encL l ++ r) = l ++ takeS r
  | [], r, _ => rfl
  | s :: l, r, h => by
    show takeS ((encS s ++ encL l) ++ r) = _
    rw [List.append_assoc, takeS_enc (h s List.mem_cons_self), takeS_encL r (fun x hx => h x (List.mem_cons_of_mem _ hx))]
    rfl
theorem takeF_wf : ∀ (n : Nat) (l : List Int), Okb l → ∀ s ∈ takeF n l, WF s
  | 0, _, _, s, hs => by cases hs
  | n + 1, l, hb, s, hs => by
    cases h : nextP l with
    | none => rw [takeF_none h] at hs; cases hs
    | some q =>
      rw [takeF_some h] at hs
      rcases List.mem_cons.1 hs with rfl | hs
      · exact nextP_wf h hb
      · exact takeF_wf n q.2 (nextP_bytes h hb) s hs
theorem takeS_wf {l : List Int} (hb : Okb l) : ∀ s ∈ takeS l, WF s := takeF_wf _ l hb
theorem takeF_short : ∀ (n : Nat) (l : List Int), (takeF n l).length ≤ l.length
  | 0, _ => Nat.zero_le _
  | n + 1, l => by
    cases h : nextP l with
    | none => rw [takeF_none h]; exact Nat.zero_le _
    | some q =>
      have h1 := nextP_len h
      have h2 := takeF_short n q.2
      rw [takeF_some h, List.length_cons]
      omega
theorem takeS_short (l : List Int) : (takeS l).length ≤ l.length := takeF_short _ l
theorem takeS_nil : takeS [] = [] := rfl
/-- Cut off, bytes say the first steps. -/
theorem takeS_cut : ∀ {l : List S27} (m : Nat), (∀ s ∈ l, WF s) → m < (encL l).length → ∃ j, j < l.length ∧ takeS ((encL l).take m) = l.take j
  | [], m, _, hm => by exact absurd hm (by simp [encL])
  | s :: l, m, h, hm => by
    have hs := h s List.mem_cons_self
    have hE : encL (s :: l) = encS s ++ encL l := rfl
    rcases Nat.lt_or_ge m (encS s).length with h1 | h1
    · refine ⟨0, Nat.succ_pos _, ?_⟩
      rw [hE, List.take_append_of_le_length (by omega), takeS_none (nextP_front hs m h1)]
      rfl
    · rw [hE, List.length_append] at hm
      obtain ⟨j, hj, hE2⟩ := takeS_cut (m - (encS s).length) (fun x hx => h x (List.mem_cons_of_mem _ hx)) (by omega : m - (encS s).length < (encL l).length)
      refine ⟨j + 1, Nat.succ_lt_succ hj, ?_⟩
      rw [hE, List.take_append, List.take_of_length_le h1, takeS_enc hs, hE2]
      rfl
theorem encS_pos (s : S27) : 0 < (encS s).length := Nat.succ_pos _
theorem encL_nil {l : List S27} (h : (encL l).length = 0) : l = [] := by
  cases l with
  | nil => rfl
  | cons s l =>
    have h1 : (encS s ++ encL l).length = 0 := h
    rw [List.length_append] at h1
    have := encS_pos s
    omega
/-- Noughts between. -/
theorem skipP_noughts : ∀ (z r : List Int), (∀ x ∈ z, x % 15 = 0) → skipP (z ++ r) = skipP r
  | [], _, _ => rfl
  | x :: z, r, h => by
    rw [List.cons_append, skipP_pass x _ (h x List.mem_cons_self)]
    exact skipP_noughts z r (fun y hy => h y (List.mem_cons_of_mem _ hy))
theorem takeS_noughts (z r : List Int) (h : ∀ x ∈ z, x % 15 = 0) : takeS (z ++ r) = takeS r := by
  have hn : nextP (z ++ r) = nextP r := by unfold nextP; rw [skipP_noughts z r h]
  cases hr : nextP r with
  | none => rw [takeS_none (hn.trans hr), takeS_none hr]
  | some q => rw [takeS_some (hn.trans hr), takeS_some hr]
/-! ### the bytes are bytes, and not many -/
theorem inBytes_p2 (v : Int) : inBytes (p2 v) := by
  intro x hx
  unfold p2 at hx
  rcases List.mem_cons.1 hx with rfl | hx
  · omega
  · rcases List.mem_cons.1 hx with rfl | hx
    · omega
    · cases hx
theorem inBytes_app {a b : List Int} (ha : inBytes a) (hb : inBytes b) : inBytes (a ++ b) := fun x hx => (List.mem_append.1 hx).elim (ha x) (hb x)
theorem inBytes_cons {a : Int} {b : List Int} (ha : 0 ≤ a ∧ a < 256) (hb : inBytes b) : inBytes (a :: b) := fun x hx => (List.mem_cons.1 hx).elim (fun e => e ▸ ha) (hb x)
theorem inBytes_nil : inBytes [] := fun x hx => by cases hx
theorem inBytes_of (s : ByteArray) : inBytes (bytesOf s) := by
  intro x hx
  unfold bytesOf at hx
  obtain ⟨b, _, rfl⟩ := List.mem_map.1 hx
  have := b.toNat_lt
  constructor <;> omega
theorem inBytes_encT (s : ByteArray) : inBytes (encT s) := by
  unfold encT
  split
  · exact inBytes_nil
  · exact inBytes_cons (by omega) (inBytes_of s)
theorem encT_len (s : ByteArray) : (encT s).length ≤ 256 := by
  unfold encT
  split
  · exact Nat.zero_le _
  · rw [List.length_cons, bytesOf_length]; omega
theorem flat_len (g : List Int) : (g.flatMap p2).length = 2 * g.length := by
  induction g with
  | nil => rfl
  | cons x g ih => rw [List.flatMap_cons, List.length_append, ih, List.length_cons]; show 2 + _ = _; omega
theorem inBytes_flat (g : List Int) : inBytes (g.flatMap p2) := by
  intro x hx
  obtain ⟨y, _, hy⟩ := List.mem_flatMap.1 hx
  exact inBytes_p2 y x hy
theorem inBytes_encS (s : S27) : inBytes (encS s) := by
  unfold encS body
  refine inBytes_cons (by omega) ?_
  repeat' split
  · exact inBytes_app (inBytes_p2 _) (inBytes_flat _)
  · exact inBytes_cons (by omega) inBytes_nil
  · exact inBytes_cons (by omega) (inBytes_encT _)
  · exact inBytes_cons (by omega) (inBytes_cons (by omega) inBytes_nil)
  · exact inBytes_cons (by omega) (inBytes_cons (by omega) (inBytes_cons (by omega) (inBytes_encT _)))
  · exact inBytes_cons (by omega) (inBytes_p2 _)
  · refine inBytes_cons (by omega) (inBytes_cons (by omega) ?_)
    intro x hx
    obtain ⟨y, _, rfl⟩ := List.mem_map.1 hx
    omega
  · exact inBytes_cons (by omega) inBytes_nil
theorem encS_len (s : S27) : (encS s).length ≤ 300 + 2 * s.f8.length := by
  unfold encS body
  rw [List.length_cons]
  have h1 := encT_len s.f7
  have h2 := flat_len s.f8
  repeat' split
  all_goals simp only [List.length_append, List.length_cons, List.length_nil, List.length_map, p2, h2]; omega
theorem inBytes_encL (l : List S27) : inBytes (encL l) := by
  intro x hx
  obtain ⟨y, _, hy⟩ := List.mem_flatMap.1 hx
  exact inBytes_encS y x hy
theorem WF.gains {s : S27} (h : WF s) : s.f8.length ≤ 20 := by
  cases h with
  | time b g hb hl hg => show g.length ≤ 20; omega
  | crash a g ha hl hg => exact hl
  | _ => exact Nat.zero_le _
theorem WF.text {s : S27} (h : WF s) : s.f7.size ≤ 255 := by
  cases h with
  | open_ a t ha ht => exact ht
  | write a b c t ha hb hc ht => exact ht
  | _ => exact Nat.zero_le _
theorem encL_len : ∀ {l : List S27}, (∀ s ∈ l, WF s) → (encL l).length ≤ 340 * l.length
  | [], _ => Nat.zero_le _
  | s :: l, h => by
    have h1 := encS_len s
    have h2 := (h s List.mem_cons_self).gains
    have h3 := encL_len (fun x hx => h x (List.mem_cons_of_mem _ hx))
    show (encS s ++ encL l).length ≤ _
    rw [List.length_append, List.length_cons]
    omega
end Go.Proofs.Ythpehiecmgipmaa.L
