/- LineFirst: who came first stays ahead: plain facts about who waits for what, and when it came. -/
import Derived.Test.YtpdnekffippgdaaMap
namespace Go.Proofs.Ytpdnekffippgdaa.L
set_option linter.unusedSimpArgs false
open Go.RowKit Go.Proofs.YtpdnekffippgdaaW.PrintWords Go.Proofs.YtpdnekffippgdaaW.PrintLast Go.Proofs.YtpdnekffippgdaaW.PrintMore

/-- Who waits, and for what. -/
def cf (g : S24) : Int × Int := (g.f0, g.f2)
def Came (m : M3) (p q : Int × Int) : Prop := p.1 ≠ q.1 ∧ ∀ s t, m p.1 = some s → m q.1 = some t → s.2 < t.2
def FInv (i : Nat) (y : List (Int × Int)) (m : M3) : Prop :=
  y.Pairwise (Came m) ∧ (∀ p ∈ y, (1 ≤ p.1 ∧ p.1 ≤ 3) ∧ ∃ t, m p.1 = some (p.2, t) ∧ t < (i : Int)) ∧ ∀ c, (m c).isSome = true → ∃ p ∈ y, p.1 = c
theorem FInv.none : FInv 0 [] (fun _ => none) := ⟨List.Pairwise.nil, by simp, by simp⟩
theorem FInv.next {i : Nat} {y : List (Int × Int)} {m : M3} (h : FInv i y m) : FInv (i + 1) y m := ⟨h.1, fun p hp => ⟨(h.2.1 p hp).1, let ⟨t, h1, h2⟩ := (h.2.1 p hp).2; ⟨t, h1, by omega⟩⟩, h.2.2⟩
theorem FInv.apart {i : Nat} {y : List (Int × Int)} {m : M3} (h : FInv i y m) : (y.map Prod.fst).Nodup := by
  rw [List.nodup_iff_pairwise_ne]
  exact List.pairwise_map.2 (h.1.imp fun h => h.1)
theorem FInv.len {i : Nat} {y : List (Int × Int)} {m : M3} (h : FInv i y m) : y.length = m.cnt := by
  have hp : (y.map Prod.fst).Perm (([1, 2, 3] : List Int).filter fun c => (m c).isSome) := by
    refine (List.perm_ext_iff_of_nodup h.apart (List.Pairwise.filter _ (by decide : ([1, 2, 3] : List Int).Nodup))).2 fun c => ?_
    rw [List.mem_map, List.mem_filter]
    constructor
    · rintro ⟨p, hp, rfl⟩
      obtain ⟨⟨h1, h2⟩, t, ht, _⟩ := h.2.1 p hp
      refine ⟨?_, by rw [ht]; rfl⟩
      have : p.1 = 1 ∨ p.1 = 2 ∨ p.1 = 3 := by omega
      simpa using this
    · rintro ⟨_, hc⟩
      exact h.2.2 c hc
  have := hp.length_eq
  rw [List.length_map] at this
  rw [this]
  unfold M3.cnt
  clear hp this
  cases h1 : (m 1).isSome <;> cases h2 : (m 2).isSome <;> cases h3 : (m 3).isSome <;> simp [List.filter_cons, h1, h2, h3]
theorem FInv.small {i : Nat} {y : List (Int × Int)} {m : M3} (h : FInv i y m) : y.length ≤ 3 := by
  rw [h.len]
  unfold M3.cnt
  split <;> split <;> split <;> omega
theorem FInv.drop {i : Nat} {y : List (Int × Int)} {m : M3} (h : FInv i y m) (c : Int) : FInv i (y.filter fun p => p.1 != c) (m.no c) := by
  have hno : ∀ d t, m.no c d = some t → m d = some t := fun d t hd => by
    unfold M3.no at hd
    split at hd
    · cases hd
    · exact hd
  refine ⟨(h.1.filter _).imp fun {p q} hh => ⟨hh.1, fun s t hs ht => hh.2 s t (hno _ _ hs) (hno _ _ ht)⟩, fun p hp => ?_, fun d hd => ?_⟩
  · obtain ⟨hp, hc⟩ := List.mem_filter.1 hp
    obtain ⟨h1, t, ht, hi⟩ := h.2.1 p hp
    exact ⟨h1, t, by unfold M3.no; rw [if_neg (by simpa using hc)]; exact ht, hi⟩
  · unfold M3.no at hd
    split at hd
    · cases hd
    · rename_i hdc
      obtain ⟨p, hp, rfl⟩ := h.2.2 d hd
      exact ⟨p, List.mem_filter.2 ⟨hp, by simpa using hdc⟩, rfl⟩
theorem FInv.put {i : Nat} {y : List (Int × Int)} {m : M3} (h : FInv i y m) (c f : Int) (hc : 1 ≤ c ∧ c ≤ 3) : FInv (i + 1) (y.filter (fun p => p.1 != c) ++ [(c, f)]) (m.up c (f, (i : Int))) := by
  have hup : ∀ p ∈ y.filter (fun p => p.1 != c), m.up c (f, (i : Int)) p.1 = m p.1 := fun p hp => by
    have := (List.mem_filter.1 hp).2
    unfold M3.up
    rw [if_neg (by simpa using this)]
  refine ⟨?_, fun p hp => ?_, fun d hd => ?_⟩
  · rw [List.pairwise_append]
    refine ⟨?_, List.pairwise_singleton _ _, fun p hp q hq => ?_⟩
    · refine List.Pairwise.imp_of_mem ?_ (h.1.filter _)
      intro p q hp hq hh
      exact ⟨hh.1, fun s t hs ht => hh.2 s t (by rw [← hup p hp]; exact hs) (by rw [← hup q hq]; exact ht)⟩
    · obtain rfl := List.mem_singleton.1 hq
      have hpc := (List.mem_filter.1 hp).2
      refine ⟨by simpa using hpc, fun s t hs ht => ?_⟩
      rw [hup p hp] at hs
      obtain ⟨_, t', ht', hi⟩ := h.2.1 p (List.mem_filter.1 hp).1
      rw [ht'] at hs
      obtain rfl := Option.some.inj hs
      simp only [M3.up, if_true, Option.some.injEq] at ht
      rw [← ht]
      exact hi
  · rcases List.mem_append.1 hp with hp | hp
    · obtain ⟨h1, t, ht, hi⟩ := h.2.1 p (List.mem_filter.1 hp).1
      exact ⟨h1, t, by rw [hup p hp]; exact ht, by omega⟩
    · obtain rfl := List.mem_singleton.1 hp
      exact ⟨hc, i, by simp [M3.up], by omega⟩
  · unfold M3.up at hd
    split at hd
    · rename_i hdc
      exact ⟨(c, f), by simp, hdc.symm⟩
    · rename_i hdc
      obtain ⟨p, hp, rfl⟩ := h.2.2 d hd
      exact ⟨p, List.mem_append_left _ (List.mem_filter.2 ⟨hp, by simpa using hdc⟩), rfl⟩

/-! ### who is ahead -/
def ahP (c f : Int) : List (Int × Int) → Bool
  | [] => false
  | x :: t => if x.2 = f then x.1 != c else ahP c f t
theorem ah_map (c f : Int) : ∀ l : List S24, aheadP c f l = ahP c f (l.map cf)
  | [] => rfl
  | x :: t => by
    simp only [aheadP, List.map_cons, ahP, ah_map c f t]
    rfl
/-- What the law wants, of one other. -/
def wb (m : M3) (a f b : Int) : Bool :=
  b != a && (m b).isSome && ((m b).getD (0, 0)).1 == f && (!(m a).isSome || ((m a).getD (0, 0)).1 != f || decide (((m b).getD (0, 0)).2 < ((m a).getD (0, 0)).2))
theorem ah_yes (m : M3) (a f : Int) : ∀ y : List (Int × Int), y.Pairwise (Came m) → (∀ p ∈ y, ∃ t, m p.1 = some (p.2, t)) → ahP a f y = true → ∃ p ∈ y, p.1 ≠ a ∧ p.2 = f ∧ ∀ q ∈ y, q.2 = f → q.1 = a → ∀ s t, m p.1 = some s → m q.1 = some t → s.2 < t.2
  | [], _, _, h => by cases h
  | x :: t, hp, hm, h => by
    obtain ⟨h1, h2⟩ := List.pairwise_cons.1 hp
    simp only [ahP] at h
    split at h
    · rename_i hx
      have hxa : x.1 ≠ a := by simpa using h
      refine ⟨x, List.mem_cons_self, hxa, hx, fun q hq _ hqa s t hs ht => ?_⟩
      rcases List.mem_cons.1 hq with rfl | hq
      · exact absurd hqa hxa
      · exact (h1 q hq).2 s t hs ht
    · rename_i hx
      obtain ⟨p, hpm, h3, h4, h5⟩ := ah_yes m a f t h2 (fun p hp => hm p (List.mem_cons_of_mem _ hp)) h
      refine ⟨p, List.mem_cons_of_mem _ hpm, h3, h4, fun q hq hqf => ?_⟩
      rcases List.mem_cons.1 hq with rfl | hq
      · exact absurd hqf hx
      · exact h5 q hq hqf
theorem ah_no (m : M3) (a f : Int) : ∀ y : List (Int × Int), y.Pairwise (Came m) → ahP a f y = false → ∀ p ∈ y, p.2 = f → p.1 ≠ a → ∃ q ∈ y, q.1 = a ∧ q.2 = f ∧ ∀ s t, m q.1 = some s → m p.1 = some t → s.2 < t.2
  | [], _, _, p, hp, _, _ => by cases hp
  | x :: t, hp, h, p, hpm, hpf, hpa => by
    obtain ⟨h1, h2⟩ := List.pairwise_cons.1 hp
    simp only [ahP] at h
    split at h
    · rename_i hx
      have hxa : x.1 = a := by simpa using h
      rcases List.mem_cons.1 hpm with rfl | hpm
      · exact absurd hxa hpa
      · exact ⟨x, List.mem_cons_self, hxa, hx, (h1 p hpm).2⟩
    · rename_i hx
      rcases List.mem_cons.1 hpm with rfl | hpm
      · exact absurd hpf hx
      · obtain ⟨q, hq, h3⟩ := ah_no m a f t h2 h p hpm hpf hpa
        exact ⟨q, List.mem_cons_of_mem _ hq, h3⟩
theorem ahead_want {i : Nat} {y : List (Int × Int)} {m : M3} (h : FInv i y m) (a f : Int) : ahP a f y = (wb m a f 1 || wb m a f 2 || wb m a f 3) := by
  have hm : ∀ p ∈ y, ∃ t, m p.1 = some (p.2, t) := fun p hp => let ⟨t, h1, _⟩ := (h.2.1 p hp).2; ⟨t, h1⟩
  cases hah : ahP a f y with
  | true =>
    obtain ⟨p, hp, hpa, hpf, hord⟩ := ah_yes m a f y h.1 hm hah
    have hw : wb m a f p.1 = true := by
      obtain ⟨t, ht⟩ := hm p hp
      unfold wb
      rw [ht]
      simp only [Option.isSome_some, Option.getD_some, Bool.and_true, hpf, beq_self_eq_true, Bool.and_eq_true]
      refine ⟨by simpa using hpa, ?_⟩
      cases hma : m a with
      | none => rfl
      | some q =>
        obtain ⟨r, hr, hra⟩ := h.2.2 a (by rw [hma]; rfl)
        obtain ⟨t2, ht2⟩ := hm r hr
        rw [hra, hma] at ht2
        obtain rfl := Option.some.inj ht2
        by_cases hrf : r.2 = f
        · have := hord r hr hrf hra _ _ ht (by rw [hra]; exact hma)
          simp only [Option.getD_some, Option.isSome_some]
          simp [this]
        · simp [hrf]
    obtain ⟨⟨h1, h2⟩, _⟩ := h.2.1 p hp
    have : p.1 = 1 ∨ p.1 = 2 ∨ p.1 = 3 := by omega
    rcases this with e | e | e <;> rw [e] at hw <;> simp [hw]
  | false =>
    have hw : ∀ b, wb m a f b = false := by
      intro b
      cases hb : wb m a f b with
      | false => rfl
      | true =>
        exfalso
        unfold wb at hb
        simp only [Bool.and_eq_true, bne_iff_ne, ne_eq, beq_iff_eq] at hb
        obtain ⟨⟨⟨hba, hbs⟩, hbf⟩, hor⟩ := hb
        obtain ⟨p, hp, hpb⟩ := h.2.2 b hbs
        obtain ⟨t, ht⟩ := hm p hp
        have htb := ht
        rw [hpb] at htb
        rw [htb] at hbf hor
        simp only [Option.getD_some] at hbf hor
        obtain ⟨q, hq, hqa, hqf, hlt⟩ := ah_no m a f y h.1 hah p hp hbf (by rw [hpb]; exact hba)
        obtain ⟨t2, ht2⟩ := hm q hq
        have := hlt _ _ ht2 ht
        rw [hqa] at ht2
        rw [ht2] at hor
        simp only [Option.isSome_some, Option.getD_some, hqf] at hor
        simp at hor
        simp only at this
        omega
    rw [hw 1, hw 2, hw 3]
    rfl
/-! ### who comes -/
theorem keeps_map (c : Int) : ∀ l : List S24, (l.filter (keeps c)).map cf = (l.map cf).filter (fun p => p.1 != c)
  | [] => rfl
  | x :: t => by
    have e : keeps c x = ((cf x).1 != c) := rfl
    rw [List.map_cons, List.filter_cons, List.filter_cons, e]
    split
    · rw [List.map_cons, keeps_map c t]
    · rw [keeps_map c t]
theorem put_map {i : Nat} {x : List S24} {m : M3} (h : FInv i (x.map cf) m) (w : S24) :
    (putP x w).2 = true ∧ ((m w.f0).isSome = true ∧ ((m w.f0).getD (0, 0)).1 = w.f2 → (putP x w).1.map cf = x.map cf) ∧ (¬ ((m w.f0).isSome = true ∧ ((m w.f0).getD (0, 0)).1 = w.f2) → (putP x w).1.map cf = (x.map cf).filter (fun p => p.1 != w.f0) ++ [cf w]) := by
  have hsm := h.small
  rw [List.length_map] at hsm
  have hfl := List.length_filter_le (keeps w.f0) x
  unfold putP
  by_cases hj : x.findIdx (fun g => g.f0 == w.f0) < x.length ∧ (rd_T24 x ((x.findIdx (fun g => g.f0 == w.f0) : Nat) : Int)).f2 = w.f2
  · rw [if_pos hj]
    obtain ⟨hj, hf⟩ := hj
    have hg := List.findIdx_getElem (w := hj)
    rw [rd_at hj] at hf
    have hgc : x[x.findIdx (fun g => g.f0 == w.f0)].f0 = w.f0 := by simpa using hg
    obtain ⟨_, t, ht, _⟩ := h.2.1 (cf x[x.findIdx (fun g => g.f0 == w.f0)]) (List.mem_map.2 ⟨_, List.getElem_mem hj, rfl⟩)
    have ht' : m w.f0 = some (w.f2, t) := by
      rw [← hgc, ← hf]; exact ht
    refine ⟨rfl, fun _ => ?_, fun hno => absurd ⟨by rw [ht']; rfl, by rw [ht']; rfl⟩ hno⟩
    rw [List.map_set]
    have e : cf w = (x.map cf)[x.findIdx (fun g => g.f0 == w.f0)]'(by rw [List.length_map]; exact hj) := by
      rw [List.getElem_map]
      unfold cf
      rw [hgc, hf]
    rw [e, List.set_getElem_self]
  · rw [if_neg hj, if_neg (by omega)]
    refine ⟨rfl, fun hy => ?_, fun _ => ?_⟩
    · exfalso
      obtain ⟨p, hp, hpc⟩ := h.2.2 w.f0 hy.1
      obtain ⟨_, t, ht, _⟩ := h.2.1 p hp
      obtain ⟨g, hg, rfl⟩ := List.mem_map.1 hp
      have hlt : x.findIdx (fun g => g.f0 == w.f0) < x.length := List.findIdx_lt_length_of_exists ⟨g, hg, by simpa [cf] using hpc⟩
      refine hj ⟨hlt, ?_⟩
      rw [rd_at hlt]
      have hgj : x[x.findIdx (fun g => g.f0 == w.f0)].f0 = w.f0 := by simpa using List.findIdx_getElem (w := hlt)
      obtain ⟨_, t2, ht2, _⟩ := h.2.1 (cf x[x.findIdx (fun g => g.f0 == w.f0)]) (List.mem_map.2 ⟨_, List.getElem_mem hlt, rfl⟩)
      have : m w.f0 = some (x[x.findIdx (fun g => g.f0 == w.f0)].f2, t2) := (congrArg m hgj).symm.trans ht2
      have hy2 := hy.2
      rw [this] at hy2
      exact hy2
    · rw [List.map_append, keeps_map]
      rfl
end Go.Proofs.Ytpdnekffippgdaa.L
