/- Plain words for brackets: one step over a byte, and what Look, Match and Depth answer over a list of bytes. No program. -/
namespace Go.Proofs.Ytkemmnajcbpofaa

/-- The kind of a byte's token: 7 opens, 8 closes, 3 a name. -/
def kindB (b : Nat) : Nat := if b = 40 ∨ b = 91 ∨ b = 123 then 7 else if b = 41 ∨ b = 93 ∨ b = 125 then 8 else 3
/-- The byte that closes one; 0: none. -/
def closeN (b : Nat) : Nat := if b = 40 then 41 else if b = 91 then 93 else if b = 123 then 125 else 0

/-- One byte at place k: the open brackets behind it (place and byte, the last one first), and the place of the one that it closes; none: it closes none that is open. -/
def stepB (st : List (Nat × Nat)) (k c : Nat) : Option (List (Nat × Nat) × Option Nat) :=
  if kindB c = 7 then some ((k, c) :: st, none)
  else if kindB c = 8 then
    match st with
    | [] => none
    | (p, b) :: r => if closeN b = c then some (r, some p) else none
  else some (st, none)

/-- The open brackets behind a byte, whatever it is. -/
def stepS (st : List (Nat × Nat)) (k c : Nat) : List (Nat × Nat) := match stepB st k c with
  | none => st
  | some (st', _) => st'

def lookF : List Nat → Nat → List (Nat × Nat) → Nat × Nat
  | [], _, st => if st.length = 0 then (0, 0) else (1, st.length)
  | c :: r, k, st => match stepB st k c with
    | none => (2, st.length)
    | some (st', _) => lookF r (k + 1) st'

def matchF (at_ : Int) : List Nat → Nat → List (Nat × Nat) → Nat × Bool
  | [], _, _ => (0, false)
  | c :: r, k, st => match stepB st k c with
    | none => (0, false)
    | some (st', none) => matchF at_ r (k + 1) st'
    | some (st', some p) => if (p : Int) = at_ then (k, true) else if (k : Int) = at_ then (p, true) else matchF at_ r (k + 1) st'

def depthF (at_ : Int) : List Nat → Nat → List (Nat × Nat) → Nat
  | [], _, st => st.length
  | c :: r, k, st => if (k : Int) + 1 ≤ at_ then depthF at_ r (k + 1) (stepS st k c) else depthF at_ r (k + 1) st

/-- What holds of the open brackets at place k of a text. -/
def GoodB (t : List Nat) (k : Nat) (st : List (Nat × Nat)) : Prop := st.length ≤ k ∧ ∀ x ∈ st, x.1 < k ∧ t[x.1]? = some x.2 ∧ kindB x.2 = 7

theorem GoodB.zero (t : List Nat) : GoodB t 0 [] := ⟨by simp, by simp⟩
theorem GoodB.mono {t : List Nat} {k k' : Nat} {st : List (Nat × Nat)} (h : GoodB t k st) (hk : k ≤ k') : GoodB t k' st :=
  ⟨Nat.le_trans h.1 hk, fun x hx => ⟨Nat.lt_of_lt_of_le (h.2 x hx).1 hk, (h.2 x hx).2⟩⟩

theorem GoodB.step {t : List Nat} {k c : Nat} {st st' : List (Nat × Nat)} {o : Option Nat} (h : GoodB t k st) (hc : t[k]? = some c) (hs : stepB st k c = some (st', o)) : GoodB t (k + 1) st' := by
  unfold stepB at hs
  by_cases h7 : kindB c = 7
  · rw [if_pos h7] at hs
    simp only [Option.some.injEq, Prod.mk.injEq] at hs
    obtain ⟨rfl, _⟩ := hs
    refine ⟨by have := h.1; simp; omega, fun x hx => ?_⟩
    rcases List.mem_cons.1 hx with rfl | hx
    · exact ⟨by simp, hc, h7⟩
    · exact (h.mono (by omega)).2 x hx
  · rw [if_neg h7] at hs
    by_cases h8 : kindB c = 8
    · rw [if_pos h8] at hs
      match st, hs with
      | (p, b) :: r, hs =>
        simp only at hs
        by_cases he : closeN b = c
        · rw [if_pos he] at hs
          simp only [Option.some.injEq, Prod.mk.injEq] at hs
          obtain ⟨rfl, _⟩ := hs
          refine ⟨by have := h.1; simp at this; omega, fun x hx => (h.mono (by omega)).2 x (List.mem_cons_of_mem _ hx)⟩
        · rw [if_neg he] at hs; cases hs
    · rw [if_neg h8] at hs
      simp only [Option.some.injEq, Prod.mk.injEq] at hs
      obtain ⟨rfl, _⟩ := hs
      exact h.mono (by omega)

theorem GoodB.stepS {t : List Nat} {k c : Nat} {st : List (Nat × Nat)} (h : GoodB t k st) (hc : t[k]? = some c) : GoodB t (k + 1) (Ytkemmnajcbpofaa.stepS st k c) := by
  unfold Ytkemmnajcbpofaa.stepS
  split
  · exact h.mono (by omega)
  · rename_i st' o he
    exact h.step hc he

end Go.Proofs.Ytkemmnajcbpofaa
