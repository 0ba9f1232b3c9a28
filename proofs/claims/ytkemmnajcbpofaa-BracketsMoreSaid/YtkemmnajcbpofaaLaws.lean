/- The plain laws of brackets: pairs are told of each other, and what one bracket more does. No program. -/
import Derived.Test.YtkemmnajcbpofaaPlain
namespace Go.Proofs.Ytkemmnajcbpofaa

/-- The open brackets behind the first k bytes; none: a bracket was wrong. -/
def stk (t : List Nat) : Nat → Option (List (Nat × Nat))
  | 0 => some []
  | k + 1 => match stk t k, t[k]? with
    | some st, some c => (stepB st k c).map Prod.fst
    | _, _ => none

theorem stk_succ {t : List Nat} {k c : Nat} {st : List (Nat × Nat)} (h : stk t k = some st) (hc : t[k]? = some c) : stk t (k + 1) = (stepB st k c).map Prod.fst := by
  rw [stk, h, hc]
theorem stk_pred {t : List Nat} {k : Nat} {st : List (Nat × Nat)} (h : stk t (k + 1) = some st) : ∃ st0 c o, stk t k = some st0 ∧ t[k]? = some c ∧ stepB st0 k c = some (st, o) := by
  rw [stk] at h
  split at h
  · rename_i st0 c h1 h2
    cases hs : stepB st0 k c with
    | none => rw [hs] at h; cases h
    | some x =>
      rw [hs] at h
      obtain ⟨a, o⟩ := x
      simp at h
      subst h
      exact ⟨st0, c, o, h1, h2, hs⟩
  · cases h
theorem stk_some {t : List Nat} {k j : Nat} (hkj : k ≤ j) {st : List (Nat × Nat)} (h : stk t j = some st) : ∃ st0, stk t k = some st0 := by
  induction j generalizing st with
  | zero => obtain rfl : k = 0 := by omega
            exact ⟨_, h⟩
  | succ j ih =>
    by_cases hk : k = j + 1
    · subst hk; exact ⟨_, h⟩
    · obtain ⟨st0, c, o, h0, _, _⟩ := stk_pred h
      exact ih (by omega) h0
theorem stk_good {t : List Nat} {k : Nat} {st : List (Nat × Nat)} (h : stk t k = some st) : GoodB t k st := by
  induction k generalizing st with
  | zero => simp [stk] at h; subst h; exact GoodB.zero t
  | succ k ih =>
    obtain ⟨st0, c, o, h0, hc, hs⟩ := stk_pred h
    exact (ih h0).step hc hs

/-- How a step turns the open brackets. -/
theorem step_cases {st st' : List (Nat × Nat)} {k c : Nat} {o : Option Nat} (h : stepB st k c = some (st', o)) :
    (kindB c = 7 ∧ st' = (k, c) :: st ∧ o = none) ∨ (kindB c = 8 ∧ ∃ p b, st = (p, b) :: st' ∧ closeN b = c ∧ o = some p) ∨ (kindB c ≠ 7 ∧ kindB c ≠ 8 ∧ st' = st ∧ o = none) := by
  unfold stepB at h
  by_cases h7 : kindB c = 7
  · rw [if_pos h7] at h; simp at h; exact .inl ⟨h7, h.1.symm, h.2.symm⟩
  · rw [if_neg h7] at h
    by_cases h8 : kindB c = 8
    · rw [if_pos h8] at h
      match st, h with
      | (p, b) :: r, h =>
        simp only at h
        by_cases he : closeN b = c
        · rw [if_pos he] at h; simp at h
          exact .inr (.inl ⟨h8, p, b, by rw [h.1], he, h.2.symm⟩)
        · rw [if_neg he] at h; cases h
    · rw [if_neg h8] at h; simp at h; exact .inr (.inr ⟨h7, h8, h.1.symm, h.2.symm⟩)

/-- A bracket that is open at j was there since it came, over what was open before it. -/
theorem stk_stays {t : List Nat} {p b : Nat} {r : List (Nat × Nat)} : ∀ {j : Nat} {u : List (Nat × Nat)}, stk t j = some (u ++ (p, b) :: r) →
    stk t p = some r ∧ t[p]? = some b ∧ kindB b = 7 ∧ p < j ∧ ∀ m, p < m → m ≤ j → ∃ u', stk t m = some (u' ++ (p, b) :: r) := by
  intro j
  induction j with
  | zero => intro u h; simp [stk] at h
  | succ j ih =>
    intro u h
    obtain ⟨st0, c, o, h0, hc, hs⟩ := stk_pred h
    rcases step_cases hs with ⟨h7, he, _⟩ | ⟨h8, q, b', he, _, _⟩ | ⟨_, _, he, _⟩
    · cases u with
      | nil =>
        simp at he
        obtain ⟨⟨rfl, rfl⟩, rfl⟩ := he
        exact ⟨h0, hc, h7, by omega, fun m h1 h2 => ⟨[], by rw [show m = p + 1 by omega]; exact h⟩⟩
      | cons x u =>
        simp at he
        obtain ⟨_, he⟩ := he
        rw [← he] at h0
        obtain ⟨g1, g2, g3, g4, g5⟩ := ih h0
        refine ⟨g1, g2, g3, by omega, fun m h1 h2 => ?_⟩
        by_cases hm : m = j + 1
        · subst hm; exact ⟨x :: u, h⟩
        · exact g5 m h1 (by omega)
    · rw [he] at h0
      obtain ⟨g1, g2, g3, g4, g5⟩ := ih (u := (q, b') :: u) h0
      refine ⟨g1, g2, g3, by omega, fun m h1 h2 => ?_⟩
      by_cases hm : m = j + 1
      · subst hm; exact ⟨u, h⟩
      · exact g5 m h1 (by omega)
    · rw [← he] at h0
      obtain ⟨g1, g2, g3, g4, g5⟩ := ih h0
      refine ⟨g1, g2, g3, by omega, fun m h1 h2 => ?_⟩
      by_cases hm : m = j + 1
      · subst hm; exact ⟨u, h⟩
      · exact g5 m h1 (by omega)

/-- The bracket at j closes the one at p. -/
def Ev (t : List Nat) (p j : Nat) : Prop := ∃ st st' c, stk t j = some st ∧ t[j]? = some c ∧ stepB st j c = some (st', some p)

theorem Ev.parts {t : List Nat} {p j : Nat} (h : Ev t p j) : ∃ b c r, stk t j = some ((p, b) :: r) ∧ stk t (j + 1) = some r ∧ stk t p = some r ∧ t[p]? = some b ∧ kindB b = 7 ∧ t[j]? = some c ∧ kindB c = 8 ∧ p < j ∧
    ∀ m, p < m → m ≤ j → ∃ u, stk t m = some (u ++ (p, b) :: r) := by
  obtain ⟨st, st', c, h0, hc, hs⟩ := h
  have h1 := stk_succ h0 hc
  rw [hs] at h1
  rcases step_cases hs with ⟨_, _, ho⟩ | ⟨h8, q, b, he, hb, ho⟩ | ⟨_, _, _, ho⟩
  · cases ho
  · cases ho
    subst he
    obtain ⟨g1, g2, g3, g4, g5⟩ := stk_stays (u := []) h0
    exact ⟨b, c, st', h0, by simpa using h1, g1, g2, g3, hc, h8, g4, g5⟩
  · cases ho

theorem Ev.left {t : List Nat} {p q j : Nat} (h : Ev t p j) (h' : Ev t q j) : p = q := by
  obtain ⟨_, _, _, h1, _⟩ := h.parts
  obtain ⟨_, _, _, h2, _⟩ := h'.parts
  rw [h1] at h2
  simp at h2
  exact h2.1.1

theorem Ev.right {t : List Nat} {p i j : Nat} (h : Ev t p i) (h' : Ev t p j) : i = j := by
  have key : ∀ {i j : Nat}, Ev t p i → Ev t p j → ¬ i < j := by
    intro i j h h' hlt
    obtain ⟨b, _, r, _, h2, h3, _, _, _, _, h5, _⟩ := h.parts
    obtain ⟨b', _, r', _, _, h3', _, _, _, _, _, h6⟩ := h'.parts
    rw [h3] at h3'
    cases h3'
    obtain ⟨u, hu⟩ := h6 (i + 1) (by omega) (by omega)
    rw [h2] at hu
    have := congrArg List.length (Option.some.inj hu)
    simp at this
    omega
  have h1 := key h h'
  have h2 := key h' h
  omega

theorem Ev.apart {t : List Nat} {p j q : Nat} (h : Ev t p j) (h' : Ev t q p) : False := by
  obtain ⟨b, _, _, _, _, _, h4, h5, _⟩ := h.parts
  obtain ⟨_, c, _, _, _, _, _, _, h6, h7, _⟩ := h'.parts
  rw [h4] at h6
  cases h6
  omega

theorem matchF_spec (t : List Nat) (a : Int) : ∀ (r : List Nat) (k : Nat) (st : List (Nat × Nat)), t.drop k = r → stk t k = some st → (∀ p j, j < k → Ev t p j → (p : Int) ≠ a ∧ (j : Int) ≠ a) →
    (((matchF a r k st).2 = true ∧ ((∃ p, Ev t p (matchF a r k st).1 ∧ (p : Int) = a) ∨ (∃ j, Ev t (matchF a r k st).1 j ∧ (j : Int) = a))) ∨
     (matchF a r k st = (0, false) ∧ ∀ p j, Ev t p j → (p : Int) ≠ a ∧ (j : Int) ≠ a)) := by
  intro r
  induction r with
  | nil =>
    intro k st hr hst hno
    refine .inr ⟨rfl, fun p j h => hno p j ?_ h⟩
    obtain ⟨_, _, c, _, hc, _⟩ := h
    have := (List.getElem?_eq_some_iff.1 hc).1
    have hl := congrArg List.length hr
    simp at hl
    omega
  | cons c r ih =>
    intro k st hr hst hno
    have hc : t[k]? = some c := by
      have := congrArg (fun l => l[0]?) hr
      simpa using this
    have hr' : t.drop (k + 1) = r := by
      have := congrArg (List.drop 1) hr
      simpa [Nat.add_comm] using this
    have hnext := stk_succ hst hc
    rw [matchF]
    cases hs : stepB st k c with
    | none =>
      rw [hs] at hnext
      refine .inr ⟨rfl, fun p j h => ?_⟩
      by_cases hjk : j < k
      · exact hno p j hjk h
      · exfalso
        obtain ⟨st0, st1, c', h0, hc', hs'⟩ := h
        by_cases hj : j = k
        · subst hj
          rw [hst] at h0; cases h0
          rw [hc] at hc'; cases hc'
          rw [hs] at hs'; cases hs'
        · obtain ⟨x, hx⟩ := stk_some (k := k + 1) (by omega) h0
          rw [hnext] at hx
          cases hx
    | some x =>
      obtain ⟨st', o⟩ := x
      rw [hs] at hnext
      have hnext' : stk t (k + 1) = some st' := by simpa using hnext
      cases o with
      | none =>
        simp only
        refine ih (k + 1) st' hr' hnext' (fun p j hj h => ?_)
        by_cases hjk : j < k
        · exact hno p j hjk h
        · exfalso
          obtain rfl : j = k := by omega
          obtain ⟨st0, st1, c', h0, hc', hs'⟩ := h
          rw [hst] at h0; cases h0
          rw [hc] at hc'; cases hc'
          rw [hs] at hs'; cases hs'
      | some p =>
        have hev : Ev t p k := ⟨st, st', c, hst, hc, hs⟩
        simp only
        by_cases hp : (p : Int) = a
        · rw [if_pos hp]
          exact .inl ⟨rfl, .inl ⟨p, hev, hp⟩⟩
        · rw [if_neg hp]
          by_cases hk : (k : Int) = a
          · rw [if_pos hk]
            exact .inl ⟨rfl, .inr ⟨k, hev, hk⟩⟩
          · rw [if_neg hk]
            refine ih (k + 1) st' hr' hnext' (fun p' j hj h => ?_)
            by_cases hjk : j < k
            · exact hno p' j hjk h
            · obtain rfl : j = k := by omega
              exact ⟨by rw [h.left hev]; exact hp, hk⟩

/-- What Match answers at a place. -/
theorem match_at (t : List Nat) (i : Nat) :
    ((matchF i t 0 []).2 = true ∧ (Ev t i (matchF i t 0 []).1 ∨ Ev t (matchF i t 0 []).1 i)) ∨ (matchF i t 0 [] = (0, false) ∧ ∀ j, ¬ Ev t i j ∧ ¬ Ev t j i) := by
  rcases matchF_spec t i t 0 [] rfl rfl (fun p j h => by omega) with ⟨h1, h2⟩ | ⟨h1, h2⟩
  · refine .inl ⟨h1, ?_⟩
    rcases h2 with ⟨p, h, e⟩ | ⟨j, h, e⟩
    · obtain rfl : p = i := by omega
      exact .inl h
    · obtain rfl : j = i := by omega
      exact .inr h
  · exact .inr ⟨h1, fun j => ⟨fun h => (h2 _ _ h).1 rfl, fun h => (h2 _ _ h).2 rfl⟩⟩

theorem depthF_stk (t : List Nat) (a : Nat) (sa : List (Nat × Nat)) (ha : stk t a = some sa) : ∀ (r : List Nat) (k : Nat) (st : List (Nat × Nat)), t.drop k = r → (k ≤ a → stk t k = some st) → (a ≤ k → st = sa) → a ≤ t.length →
    depthF a r k st = sa.length := by
  intro r
  induction r with
  | nil =>
    intro k st hr h1 h2 hal
    have hl := congrArg List.length hr
    simp at hl
    rw [depthF, h2 (by omega)]
  | cons c r ih =>
    intro k st hr h1 h2 hal
    have hc : t[k]? = some c := by
      have := congrArg (fun l => l[0]?) hr
      simpa using this
    have hr' : t.drop (k + 1) = r := by
      have := congrArg (List.drop 1) hr
      simpa [Nat.add_comm] using this
    rw [depthF]
    by_cases hk : k + 1 ≤ a
    · rw [if_pos (by omega)]
      obtain ⟨sn, hsn⟩ := stk_some (k := k + 1) hk ha
      have hnext := stk_succ (h1 (by omega)) hc
      rw [hsn] at hnext
      have hS : stepS st k c = sn := by
        unfold stepS
        cases hs : stepB st k c with
        | none => rw [hs] at hnext; cases hnext
        | some x => rw [hs] at hnext; simp at hnext; exact hnext.symm
      refine ih (k + 1) _ hr' (fun _ => by rw [hS]; exact hsn) (fun h => ?_) hal
      obtain rfl : a = k + 1 := by omega
      rw [ha] at hsn
      rw [hS]; exact (Option.some.inj hsn).symm
    · rw [if_neg (by omega)]
      exact ih (k + 1) st hr' (fun h => by omega) (fun _ => h2 (by omega)) hal

theorem depth_at (t : List Nat) (a : Nat) (sa : List (Nat × Nat)) (ha : stk t a = some sa) (hal : a ≤ t.length) : depthF a t 0 [] = sa.length :=
  depthF_stk t a sa ha t 0 [] rfl (fun _ => rfl) (fun h => by
    obtain rfl : a = 0 := by omega
    simpa [stk] using ha) hal

/-- A bracket that opens between two that belong to each other is closed there. -/
theorem closed_within {t : List Nat} {p j m c : Nat} (h : Ev t p j) (hm : p < m) (hmj : m < j) (hc : t[m]? = some c) (h7 : kindB c = 7) : ∃ x, Ev t m x ∧ m < x ∧ x < j := by
  obtain ⟨b, _, r, h1, _, h3, _, _, _, _, _, h6⟩ := h.parts
  obtain ⟨u, hu⟩ := h6 m hm (by omega)
  have hn := stk_succ hu hc
  unfold stepB at hn
  rw [if_pos h7] at hn
  simp at hn
  -- the first place where it is gone
  have key : ∀ n, m + 1 + n ≤ j → (∃ u', stk t (m + 1 + n) = some (u' ++ (m, c) :: (u ++ (p, b) :: r))) ∨ ∃ x, Ev t m x ∧ m < x ∧ x < m + 1 + n := by
    intro n
    induction n with
    | zero => intro _; exact .inl ⟨[], by simpa using hn⟩
    | succ n ih =>
      intro hle
      rcases ih (by omega) with ⟨u', hu'⟩ | ⟨x, hx, hx1, hx2⟩
      · obtain ⟨sn, hsn⟩ := stk_some (k := m + 1 + n + 1) (by omega) h1
        obtain ⟨st0, c', o, h0, hc', hs⟩ := stk_pred hsn
        rw [hu'] at h0
        cases h0
        rcases step_cases hs with ⟨_, he, _⟩ | ⟨_, q, b', he, _, ho⟩ | ⟨_, _, he, _⟩
        · exact .inl ⟨(m + 1 + n, c') :: u', by rw [show m + 1 + (n + 1) = m + 1 + n + 1 by omega, hsn, he]; rfl⟩
        · cases u' with
          | nil =>
            simp at he
            obtain ⟨⟨rfl, rfl⟩, rfl⟩ := he
            subst ho
            exact .inr ⟨m + 1 + n, ⟨_, _, _, hu', hc', hs⟩, by omega, by omega⟩
          | cons x u' =>
            simp at he
            exact .inl ⟨u', by rw [show m + 1 + (n + 1) = m + 1 + n + 1 by omega, hsn, ← he.2]⟩
        · exact .inl ⟨u', by rw [show m + 1 + (n + 1) = m + 1 + n + 1 by omega, hsn, he]⟩
      · exact .inr ⟨x, hx, hx1, by omega⟩
  rcases key (j - (m + 1)) (by omega) with ⟨u', hu'⟩ | ⟨x, hx, hx1, hx2⟩
  · exfalso
    rw [show m + 1 + (j - (m + 1)) = j by omega, h1] at hu'
    have := congrArg List.length (Option.some.inj hu')
    simp at this
    omega
  · exact ⟨x, hx, hx1, by omega⟩

/-- A bracket that closes between two that belong to each other was opened there. -/
theorem opened_within {t : List Nat} {p j m c : Nat} (h : Ev t p j) (hm : p < m) (hmj : m < j) (hc : t[m]? = some c) (h8 : kindB c = 8) : ∃ x, Ev t x m ∧ p < x ∧ x < m := by
  obtain ⟨b, _, r, h1, _, h3, _, _, _, _, _, h6⟩ := h.parts
  obtain ⟨u, hu⟩ := h6 m hm (by omega)
  obtain ⟨sn, hsn⟩ := stk_some (k := m + 1) (by omega) h1
  obtain ⟨st0, c', o, h0, hc', hs⟩ := stk_pred hsn
  rw [hu] at h0
  cases h0
  rw [hc] at hc'
  cases hc'
  rcases step_cases hs with ⟨h7, _, _⟩ | ⟨_, q, b', he, _, ho⟩ | ⟨_, h8', _, _⟩
  · omega
  · subst ho
    have hev : Ev t q m := ⟨_, _, _, hu, hc, hs⟩
    cases u with
    | nil =>
      simp at he
      obtain ⟨⟨rfl, _⟩, _⟩ := he
      have := h.right hev
      omega
    | cons x u =>
      simp at he
      obtain ⟨rfl, he⟩ := he
      obtain ⟨g1, _, _, g4, _⟩ := stk_stays (u := []) hu
      have := (stk_good g1).2 (p, b) (by simp)
      exact ⟨q, hev, this.1, g4⟩
  · exact absurd h8 h8'

theorem Ev.bound {t : List Nat} {p j : Nat} (h : Ev t p j) : p < j ∧ j < t.length := by
  obtain ⟨_, _, _, _, _, _, _, _, hc, _, h5, _⟩ := h.parts
  exact ⟨h5, (List.getElem?_eq_some_iff.1 hc).1⟩

theorem match_of_left {t : List Nat} {p j : Nat} (h : Ev t p j) : matchF p t 0 [] = (j, true) := by
  rcases match_at t p with ⟨h1, h2 | h2⟩ | ⟨_, h2⟩
  · exact Prod.ext (h2.right h) h1
  · exact (h.apart h2).elim
  · exact ((h2 j).1 h).elim
theorem match_of_right {t : List Nat} {p j : Nat} (h : Ev t p j) : matchF j t 0 [] = (p, true) := by
  rcases match_at t j with ⟨h1, h2 | h2⟩ | ⟨_, h2⟩
  · exact (h2.apart h).elim
  · exact Prod.ext (h2.left h) h1
  · exact ((h2 p).2 h).elim

theorem depths_same {t : List Nat} {p j : Nat} (h : Ev t p j) : depthF (p : Nat) t 0 [] = depthF ((j + 1 : Nat) : Int) t 0 [] := by
  obtain ⟨_, _, r, _, h2, h3, _⟩ := h.parts
  have := h.bound
  rw [depth_at t p r h3 (by omega), depth_at t (j + 1) r h2 (by omega)]

/-- Between two brackets that belong to each other: a bracket is told of one there, what is none is told of none. -/
theorem between {t : List Nat} {p j m c : Nat} (h : Ev t p j) (hm : p < m) (hmj : m < j) (hc : t[m]? = some c) :
    (kindB c = 3 ∧ matchF m t 0 [] = (0, false)) ∨ (kindB c ≠ 3 ∧ ∃ x, matchF m t 0 [] = (x, true) ∧ p < x ∧ x < j) := by
  have hk : kindB c = 3 ∨ kindB c = 7 ∨ kindB c = 8 := by unfold kindB; split <;> (try split) <;> simp
  rcases hk with hk | hk | hk
  · refine .inl ⟨hk, ?_⟩
    rcases match_at t m with ⟨_, h2 | h2⟩ | ⟨h1, _⟩
    · obtain ⟨_, _, _, _, _, _, h4, h5, _⟩ := h2.parts
      rw [hc] at h4; cases h4; omega
    · obtain ⟨_, _, _, _, _, _, _, _, h4, h5, _⟩ := h2.parts
      rw [hc] at h4; cases h4; omega
    · exact h1
  · obtain ⟨x, hx, h1, h2⟩ := closed_within h hm hmj hc hk
    exact .inr ⟨by omega, x, match_of_left hx, by omega, h2⟩
  · obtain ⟨x, hx, h1, h2⟩ := opened_within h hm hmj hc hk
    exact .inr ⟨by omega, x, match_of_right hx, h1, by omega⟩

/-- The whole text's open brackets. -/
def runS : List Nat → Nat → List (Nat × Nat) → Option (List (Nat × Nat))
  | [], _, st => some st
  | c :: r, k, st => match stepB st k c with
    | none => none
    | some (st', _) => runS r (k + 1) st'

theorem runS_append (r : List Nat) (c : Nat) : ∀ (k : Nat) (st : List (Nat × Nat)), runS (r ++ [c]) k st = (runS r k st).bind fun st' => (stepB st' (k + r.length) c).map Prod.fst := by
  induction r with
  | nil =>
    intro k st
    simp only [List.nil_append, runS, Option.bind_some, List.length_nil, Nat.add_zero]
    cases stepB st k c with
    | none => rfl
    | some x => rfl
  | cons d r ih =>
    intro k st
    simp only [List.cons_append, runS]
    cases stepB st k d with
    | none => rfl
    | some x =>
      simp only [ih, List.length_cons]
      rw [show k + 1 + r.length = k + (r.length + 1) by omega]

theorem look_run (r : List Nat) : ∀ (k : Nat) (st : List (Nat × Nat)), (runS r k st = none ∧ (lookF r k st).1 = 2) ∨ (∃ st', runS r k st = some st' ∧ lookF r k st = if st'.length = 0 then (0, 0) else (1, st'.length)) := by
  induction r with
  | nil => intro k st; exact .inr ⟨st, rfl, rfl⟩
  | cons c r ih =>
    intro k st
    simp only [runS, lookF]
    cases stepB st k c with
    | none => exact .inl ⟨rfl, rfl⟩
    | some x => exact ih _ _

theorem look_le (r : List Nat) : ∀ (k : Nat) (st : List (Nat × Nat)), (lookF r k st).2 ≤ st.length + r.length := by
  induction r with
  | nil => intro k st; simp only [lookF]; split <;> simp
  | cons c r ih =>
    intro k st
    simp only [lookF]
    cases hs : stepB st k c with
    | none => simp
    | some x =>
      obtain ⟨st', o⟩ := x
      have := ih (k + 1) st'
      have hl : st'.length ≤ st.length + 1 := by
        rcases step_cases hs with ⟨_, he, _⟩ | ⟨_, p, b, he, _⟩ | ⟨_, _, he, _⟩
        · rw [he]; simp
        · rw [he]; simp; omega
        · rw [he]; omega
      simp only [List.length_cons]
      omega

theorem look_three (t : List Nat) : (lookF t 0 []).1 = 2 ∨ ((lookF t 0 []).1 = 1 ∧ 0 < (lookF t 0 []).2) ∨ ((lookF t 0 []).1 = 0 ∧ (lookF t 0 []).2 = 0) := by
  rcases look_run t 0 [] with ⟨_, h⟩ | ⟨st, _, h⟩
  · exact .inl h
  · rw [h]
    by_cases hl : st.length = 0
    · rw [if_pos hl]; exact .inr (.inr ⟨rfl, rfl⟩)
    · rw [if_neg hl]; exact .inr (.inl ⟨rfl, by simp; omega⟩)

theorem run_good (t : List Nat) (r : List Nat) : ∀ (k : Nat) (st st' : List (Nat × Nat)), t.drop k = r → GoodB t k st → runS r k st = some st' → ∀ x ∈ st', kindB x.2 = 7 := by
  induction r with
  | nil =>
    intro k st st' _ hg h
    simp only [runS, Option.some.injEq] at h
    subst h
    exact fun x hx => (hg.2 x hx).2.2
  | cons c r ih =>
    intro k st st' hr hg h
    have hc : t[k]? = some c := by
      have := congrArg (fun l => l[0]?) hr
      simpa using this
    have hr' : t.drop (k + 1) = r := by
      have := congrArg (List.drop 1) hr
      simpa [Nat.add_comm] using this
    simp only [runS] at h
    cases hs : stepB st k c with
    | none => rw [hs] at h; cases h
    | some x =>
      rw [hs] at h
      obtain ⟨s1, o⟩ := x
      exact ih (k + 1) s1 st' hr' (hg.step hc hs) h

/-- The bracket that closes what is open last. -/
theorem close_last {t : List Nat} {p b : Nat} {r : List (Nat × Nat)} (h : runS t 0 [] = some ((p, b) :: r)) :
    (b = 40 ∨ b = 91 ∨ b = 123) ∧ runS (t ++ [closeN b]) 0 [] = some r ∧ ∀ c, (c = 41 ∨ c = 93 ∨ c = 125) → c ≠ closeN b → runS (t ++ [c]) 0 [] = none := by
  have hb := run_good t t 0 [] _ rfl (GoodB.zero t) h (p, b) (by simp)
  have hb3 : b = 40 ∨ b = 91 ∨ b = 123 := by
    simp only [kindB] at hb
    by_cases h3 : b = 40 ∨ b = 91 ∨ b = 123
    · exact h3
    · rw [if_neg h3] at hb
      split at hb <;> omega
  refine ⟨hb3, ?_, fun c hc hne => ?_⟩
  · rw [runS_append, h]
    rcases hb3 with rfl | rfl | rfl <;> simp [stepB, kindB, closeN]
  · rw [runS_append, h]
    rcases hc with rfl | rfl | rfl <;> simp [stepB, kindB] <;> exact fun e => hne e.symm

/-- How often a byte stands. -/
def cnt (o : Nat) (t : List Nat) : Nat := t.countP (· == o)
def num (o : Nat) (st : List (Nat × Nat)) : Nat := st.countP (fun x => x.2 == o)

theorem balance (o : Nat) (ho : o = 40 ∨ o = 91 ∨ o = 123) : ∀ (r : List Nat) (k : Nat) (st st' : List (Nat × Nat)), runS r k st = some st' → cnt o r + num o st = cnt (closeN o) r + num o st' := by
  intro r
  induction r with
  | nil =>
    intro k st st' h
    simp only [runS, Option.some.injEq] at h
    subst h; rfl
  | cons c r ih =>
    intro k st st' h
    simp only [runS] at h
    cases hs : stepB st k c with
    | none => rw [hs] at h; cases h
    | some x =>
      rw [hs] at h
      obtain ⟨s1, o1⟩ := x
      have hi := ih (k + 1) s1 st' h
      have e1 : cnt o (c :: r) = cnt o r + if c = o then 1 else 0 := by simp [cnt, List.countP_cons]
      have e2 : cnt (closeN o) (c :: r) = cnt (closeN o) r + if c = closeN o then 1 else 0 := by simp [cnt, List.countP_cons]
      rw [e1, e2]
      rcases step_cases hs with ⟨h7, he, _⟩ | ⟨h8, p, b, he, hb, _⟩ | ⟨h7, h8, he, _⟩
      · have e3 : num o s1 = num o st + if c = o then 1 else 0 := by rw [he]; simp [num, List.countP_cons]
        have e4 : c ≠ closeN o := by
          rintro rfl
          rcases ho with rfl | rfl | rfl <;> simp [kindB, closeN] at h7
        rw [if_neg e4]
        omega
      · have e3 : num o st = num o s1 + if b = o then 1 else 0 := by rw [he]; simp [num, List.countP_cons]
        have e4 : c ≠ o := by
          rintro rfl
          rcases ho with rfl | rfl | rfl <;> simp [kindB] at h8
        rw [if_neg e4]
        have e5 : b = o ↔ c = closeN o := by
          constructor
          · rintro rfl; exact hb.symm
          · intro hc
            rw [hc] at hb h8
            unfold closeN at hb
            rcases ho with rfl | rfl | rfl <;> (simp at hb; split at hb <;> (try split at hb) <;> (try split at hb) <;> omega)
        by_cases hbo : b = o
        · rw [if_pos hbo] at e3
          rw [if_pos (e5.1 hbo)]
          omega
        · rw [if_neg hbo] at e3
          rw [if_neg (fun h => hbo (e5.2 h))]
          omega
      · have e4 : c ≠ o := by
          rintro rfl
          rcases ho with rfl | rfl | rfl <;> simp [kindB] at h7
        have e6 : c ≠ closeN o := by
          rintro rfl
          rcases ho with rfl | rfl | rfl <;> simp [kindB, closeN] at h8
        rw [if_neg e4, if_neg e6, ← he]
        omega

theorem complete_run {t : List Nat} (h : (lookF t 0 []).1 = 0) : runS t 0 [] = some [] := by
  rcases look_run t 0 [] with ⟨_, h2⟩ | ⟨st, hr, h2⟩
  · omega
  · rw [h2] at h
    by_cases hl : st.length = 0
    · rw [hr, List.eq_nil_of_length_eq_zero hl]
    · rw [if_neg hl] at h; simp at h

/-- A complete text with one bracket more is not complete. -/
theorem one_more {a b : List Nat} {c : Nat} (hc : c = 40 ∨ c = 41 ∨ c = 91 ∨ c = 93 ∨ c = 123 ∨ c = 125) (h : (lookF (a ++ b) 0 []).1 = 0) : (lookF (a ++ [c] ++ b) 0 []).1 ≠ 0 := by
  intro h'
  have r1 := complete_run h
  have r2 := complete_run h'
  have key : ∀ o, (o = 40 ∨ o = 91 ∨ o = 123) → (if c = o then 1 else 0) = if c = closeN o then 1 else 0 := by
    intro o ho
    have b1 := balance o ho _ _ _ _ r1
    have b2 := balance o ho _ _ _ _ r2
    have e1 : ∀ x, cnt x (a ++ [c] ++ b) = cnt x (a ++ b) + if c = x then 1 else 0 := by
      intro x
      simp [cnt, List.countP_append, List.countP_cons]
      omega
    rw [e1, e1] at b2
    simp only [num, List.countP_nil, Nat.add_zero] at b1 b2
    omega
  rcases hc with rfl | rfl | rfl | rfl | rfl | rfl
  · have := key 40 (by simp); simp [closeN] at this
  · have := key 40 (by simp); simp [closeN] at this
  · have := key 91 (by simp); simp [closeN] at this
  · have := key 91 (by simp); simp [closeN] at this
  · have := key 123 (by simp); simp [closeN] at this
  · have := key 123 (by simp); simp [closeN] at this

end Go.Proofs.Ytkemmnajcbpofaa
