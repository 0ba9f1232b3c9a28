/- Plain words for histfile: what its functions answer over lists of bytes and of entries. No program. -/
namespace Go.Proofs.Ytdbcmhcflndggaa

def escB (c : UInt8) : List UInt8 := if c = 92 then [92, 92] else if c = 10 then [92, 110] else if c = 13 then [92, 114] else [c]
def escF (l : List UInt8) : List UInt8 := l.flatMap escB
def lineF (l : List UInt8) : List UInt8 := escF l ++ [10]
def putF (L : List (List UInt8)) : List UInt8 := L.flatMap lineF

/-- What the program's entry gathers; none: a line that is none. -/
def parseF : List UInt8 → Option (List UInt8)
  | [] => some []
  | [c] => if c = 92 then none else some [c]
  | c :: d :: r =>
    if c = 92 then
      if d = 92 then (parseF r).map (92 :: ·) else if d = 110 then (parseF r).map (10 :: ·) else if d = 114 then (parseF r).map (13 :: ·) else none
    else (parseF (d :: r)).map (c :: ·)

/-- What the reference's entry gathers. -/
def rentF : List UInt8 → List UInt8
  | [] => []
  | [c] => [c]
  | c :: d :: r =>
    if c = 92 then (if d = 110 then 10 else if d = 114 then 13 else d) :: rentF r
    else c :: rentF (d :: r)

theorem parse_cons {c : UInt8} (hc : c ≠ 92) (l : List UInt8) : parseF (c :: l) = (parseF l).map (c :: ·) := by
  cases l with
  | nil => simp [parseF, hc]
  | cons d r => rw [parseF, if_neg hc]
theorem rent_cons {c : UInt8} (hc : c ≠ 92) (l : List UInt8) : rentF (c :: l) = c :: rentF l := by
  cases l with
  | nil => simp [rentF]
  | cons d r => rw [rentF, if_neg hc]

theorem parse_esc : ∀ z : List UInt8, parseF (escF z) = some z
  | [] => by simp [escF, parseF]
  | c :: z => by
    have ih := parse_esc z
    have hs : escF (c :: z) = escB c ++ escF z := by simp [escF]
    rw [hs]
    unfold escB
    by_cases h1 : c = 92
    · subst h1
      simp [parseF, ih]
    · rw [if_neg h1]
      by_cases h2 : c = 10
      · subst h2
        simp [parseF, ih]
      · rw [if_neg h2]
        by_cases h3 : c = 13
        · subst h3
          simp [parseF, ih]
        · rw [if_neg h3]
          change parseF (c :: escF z) = _
          rw [parse_cons h1, ih]
          rfl

theorem parse_rent : ∀ (x y : List UInt8), parseF x = some y → rentF x = y
  | [], y, h => by simpa [parseF, rentF] using h
  | [c], y, h => by
    simp only [parseF] at h
    split at h
    · cases h
    · simpa [rentF] using h
  | c :: d :: r, y, h => by
    simp only [parseF] at h
    simp only [rentF]
    split at h
    · rename_i hc
      rw [if_pos hc]
      split at h
      · rename_i hd
        rw [if_neg (by rw [hd]; decide), if_neg (by rw [hd]; decide)]
        obtain ⟨y', hy, rfl⟩ := Option.map_eq_some_iff.1 h
        rw [parse_rent r y' hy, hd]
      · split at h
        · rename_i hd
          rw [if_pos hd]
          obtain ⟨y', hy, rfl⟩ := Option.map_eq_some_iff.1 h
          rw [parse_rent r y' hy]
        · split at h
          · rename_i hd hd'
            rw [if_neg hd, if_pos hd']
            obtain ⟨y', hy, rfl⟩ := Option.map_eq_some_iff.1 h
            rw [parse_rent r y' hy]
          · cases h
    · rename_i hc
      rw [if_neg hc]
      obtain ⟨y', hy, rfl⟩ := Option.map_eq_some_iff.1 h
      rw [parse_rent (d :: r) y' hy]

theorem esc_no10 (z : List UInt8) : ∀ c ∈ escF z, c ≠ 10 := by
  intro c hc
  unfold escF at hc
  obtain ⟨a, _, ha⟩ := List.mem_flatMap.1 hc
  unfold escB at ha
  split at ha
  · simp at ha; rw [ha]; decide
  · split at ha
    · simp at ha; rcases ha with rfl | rfl <;> decide
    · split at ha
      · simp at ha; rcases ha with rfl | rfl <;> decide
      · simp at ha; rw [ha]; assumption

/-- Is a text that of an entry? -/
def okF (x : List UInt8) : Bool := escF (rentF x) == x
/-- What the program's entry answers. -/
def entF (x : List UInt8) : List UInt8 × Bool := match parseF x with
  | none => ([], false)
  | some y => (y, escF y == x)
theorem ent_ok (x : List UInt8) : (entF x).2 = okF x := by
  unfold entF okF
  rcases h : parseF x with _ | y
  · simp only
    symm
    rw [beq_eq_false_iff_ne]
    intro he
    rw [← he, parse_esc] at h
    cases h
  · simp only
    rw [parse_rent x y h]
theorem ent_val {x : List UInt8} (h : okF x = true) : (entF x).1 = rentF x := by
  rw [← ent_ok] at h
  unfold entF at h ⊢
  rcases hp : parseF x with _ | y
  · rw [hp] at h; cases h
  · simp only; exact (parse_rent x y hp).symm
theorem ok_esc (z : List UInt8) : okF (escF z) = true ∧ rentF (escF z) = z := by
  have := parse_rent _ _ (parse_esc z)
  exact ⟨by unfold okF; rw [this]; simp, this⟩

/-! ### Lines -/
def linesF : List UInt8 → List (List UInt8)
  | [] => []
  | c :: r => if c = 10 then [10] :: linesF r else match linesF r with
    | [] => [[c]]
    | l :: L => (c :: l) :: L

theorem lines_seg : ∀ (seg r : List UInt8), (∀ c ∈ seg, c ≠ 10) → linesF (seg ++ 10 :: r) = (seg ++ [10]) :: linesF r
  | [], r, _ => by simp [linesF]
  | c :: seg, r, h => by
    have ih := lines_seg seg r (fun x hx => h x (List.mem_cons_of_mem _ hx))
    rw [List.cons_append, linesF, if_neg (h c List.mem_cons_self), ih]
    rfl
theorem lines_rest : ∀ (seg : List UInt8), seg ≠ [] → (∀ c ∈ seg, c ≠ 10) → linesF seg = [seg]
  | [], h, _ => absurd rfl h
  | c :: seg, _, h => by
    rw [linesF, if_neg (h c List.mem_cons_self)]
    cases seg with
    | nil => rfl
    | cons d s => rw [lines_rest (d :: s) (by simp) (fun x hx => h x (List.mem_cons_of_mem _ hx))]
theorem lines_flat : ∀ s : List UInt8, (linesF s).flatten = s
  | [] => rfl
  | c :: r => by
    have ih := lines_flat r
    rw [linesF]
    split
    · rename_i h; subst h; simp [ih]
    · split
      · rename_i h; rw [h] at ih; simp at ih; simp [← ih]
      · rename_i h; rw [h] at ih; simp at ih; simp [ih]
theorem lines_put (L : List (List UInt8)) : linesF (putF L) = L.map lineF := by
  induction L with
  | nil => rfl
  | cons x L ih =>
    have : putF (x :: L) = escF x ++ 10 :: putF L := by simp [putF, lineF]
    rw [this, lines_seg _ _ (esc_no10 x), ih]
    rfl
theorem lines_len : ∀ s : List UInt8, (linesF s).length ≤ s.length
  | [] => by simp [linesF]
  | c :: r => by
    have ih := lines_len r
    rw [linesF]
    split
    · simp; omega
    · split
      · simp
      · rename_i h; rw [h] at ih; simp at ih; simp; omega

/-- Does a line end in a line feed? -/
def endF (one : List UInt8) : Bool := one.getLast? == some 10
/-- What is got of lines, when some have been. -/
def getF (acc : List (List UInt8)) : List (List UInt8) → List (List UInt8) × Nat × Nat
  | [] => (acc, 0, 0)
  | one :: r => if endF one && okF one.dropLast then getF (acc ++ [rentF one.dropLast]) r else ([], acc.length + 1, 10)

theorem get_line (acc : List (List UInt8)) (x : List UInt8) (r : List (List UInt8)) : getF acc (lineF x :: r) = getF (acc ++ [x]) r := by
  have h1 : endF (lineF x) = true := by simp [endF, lineF]
  have h2 : (lineF x).dropLast = escF x := by simp [lineF]
  rw [getF, h1, h2, (ok_esc x).1, (ok_esc x).2]
  rfl
theorem get_put (L acc : List (List UInt8)) : getF acc (L.map lineF) = (acc ++ L, 0, 0) := by
  induction L generalizing acc with
  | nil => simp [getF]
  | cons x L ih => rw [List.map_cons, get_line, ih]; simp
theorem get_back (L : List (List UInt8)) : getF [] (linesF (putF L)) = (L, 0, 0) := by rw [lines_put, get_put]; simp

theorem end_drop {one : List UInt8} (h : endF one = true) : one.dropLast ++ [10] = one := by
  unfold endF at h
  rw [beq_iff_eq] at h
  obtain ⟨ys, rfl⟩ := List.getLast?_eq_some_iff.1 h
  simp

/-- What is got: either all, and put as it was; or nothing, and a line's number. -/
theorem get_two (ls acc : List (List UInt8)) :
    ((getF acc ls).2.2 = 0 ∧ (getF acc ls).2.1 = 0 ∧ putF (getF acc ls).1 = putF acc ++ ls.flatten) ∨
    ((getF acc ls).2.2 = 10 ∧ 0 < (getF acc ls).2.1 ∧ (getF acc ls).1 = []) := by
  induction ls generalizing acc with
  | nil => exact .inl ⟨rfl, rfl, by simp [getF]⟩
  | cons one r ih =>
    rw [getF]
    split
    · rename_i h
      rw [Bool.and_eq_true] at h
      rcases ih (acc ++ [rentF one.dropLast]) with ⟨h1, h2, h3⟩ | h3
      · refine .inl ⟨h1, h2, ?_⟩
        rw [h3]
        have : lineF (rentF one.dropLast) = one := by
          have := h.2
          unfold okF at this
          rw [beq_iff_eq] at this
          unfold lineF
          rw [this, end_drop h.1]
        simp [putF, this]
      · exact .inr h3
    · exact .inr ⟨rfl, Nat.succ_pos _, rfl⟩

theorem feeds_esc (x : List UInt8) : (escF x).count 10 = 0 := List.count_eq_zero.2 fun h => esc_no10 x 10 h rfl
theorem feeds_put (L : List (List UInt8)) : (putF L).count 10 = L.length := by
  induction L with
  | nil => rfl
  | cons x L ih =>
    have : putF (x :: L) = escF x ++ (10 :: putF L) := by simp [putF, lineF]
    rw [this, List.count_append, feeds_esc, List.count_cons, ih]
    simp

theorem esc_len (x : List UInt8) : (escF x).length ≤ 2 * x.length := by
  induction x with
  | nil => simp [escF]
  | cons c x ih =>
    have : escF (c :: x) = escB c ++ escF x := by simp [escF]
    have hb : (escB c).length ≤ 2 := by
      unfold escB
      split
      · simp
      · split
        · simp
        · split <;> simp
    rw [this, List.length_append, List.length_cons]
    omega
theorem rent_len : ∀ x : List UInt8, (rentF x).length ≤ x.length
  | [] => by simp [rentF]
  | [c] => by simp [rentF]
  | c :: d :: r => by
    rw [rentF]
    split
    · have := rent_len r; simp; omega
    · have := rent_len (d :: r); simp at this ⊢; omega
theorem parse_len {x y : List UInt8} (h : parseF x = some y) : y.length ≤ x.length := by rw [← parse_rent x y h]; exact rent_len x

/-! ### Once, behind, merge -/
section
variable {α : Type} [DecidableEq α]
def onceF : List α → List α
  | [] => []
  | x :: r => if x ∈ r then onceF r else x :: onceF r
theorem mem_once (l : List α) (x : α) : x ∈ onceF l ↔ x ∈ l := by
  induction l with
  | nil => simp [onceF]
  | cons y r ih =>
    rw [onceF]
    split
    · rename_i h
      rw [ih, List.mem_cons]
      exact ⟨.inr, fun h' => h'.elim (fun e => e ▸ h) id⟩
    · rw [List.mem_cons, List.mem_cons, ih]
theorem once_nodup (l : List α) : (onceF l).Nodup := by
  induction l with
  | nil => simp [onceF]
  | cons y r ih =>
    rw [onceF]
    split
    · exact ih
    · rename_i h
      exact List.nodup_cons.2 ⟨by rw [mem_once]; exact h, ih⟩
theorem once_same {l : List α} (h : l.Nodup) : onceF l = l := by
  induction l with
  | nil => rfl
  | cons y r ih =>
    obtain ⟨h1, h2⟩ := List.nodup_cons.1 h
    rw [onceF, if_neg h1, ih h2]
theorem once_len (l : List α) : (onceF l).length ≤ l.length := by
  induction l with
  | nil => simp [onceF]
  | cons y r ih => rw [onceF]; split <;> simp <;> omega

def behindF (base l : List α) : List α := if l.take base.length = base then l.drop base.length else l
theorem behind_len (base l : List α) : (behindF base l).length ≤ l.length := by
  unfold behindF; split <;> simp
theorem behind_self (l : List α) : behindF l l = [] := by simp [behindF]
theorem mem_behind (base l : List α) (x : α) : (x ∈ base ∨ x ∈ behindF base l) ↔ (x ∈ base ∨ x ∈ l) := by
  unfold behindF
  split
  · rename_i h
    constructor
    · rintro (h1 | h1)
      · exact .inl h1
      · exact .inr (List.mem_of_mem_drop h1)
    · rintro (h1 | h1)
      · exact .inl h1
      · rw [← List.take_append_drop base.length l, List.mem_append, h] at h1
        exact h1
  · rfl
/-- The last hundred. -/
def lastF (l : List α) : List α := l.drop (l.length - 100)
def mergeF (base a b : List α) : List α := lastF (onceF (base ++ behindF base a ++ behindF base b))
omit [DecidableEq α] in
theorem last_len (l : List α) : (lastF l).length ≤ 100 := by unfold lastF; rw [List.length_drop]; omega
theorem merge_nodup (base a b : List α) : (mergeF base a b).Nodup := (once_nodup _).sublist (List.drop_sublist _ _)
theorem mem_merge_of (base a b : List α) (x : α) (h : x ∈ mergeF base a b) : x ∈ base ++ a ++ b := by
  have := List.mem_of_mem_drop h
  rw [mem_once] at this
  simp only [List.mem_append] at this ⊢
  have h1 := mem_behind base a x
  have h2 := mem_behind base b x
  rcases this with (h3 | h3) | h3
  · exact .inl (.inl h3)
  · rcases h1.1 (.inr h3) with h4 | h4
    · exact .inl (.inl h4)
    · exact .inl (.inr h4)
  · rcases h2.1 (.inr h3) with h4 | h4
    · exact .inl (.inl h4)
    · exact .inr h4
theorem mem_merge (base a b : List α) (x : α) (hx : x ∈ base ++ a ++ b) (hl : (mergeF base a b).length < 100) : x ∈ mergeF base a b := by
  unfold mergeF lastF at hl ⊢
  rw [List.length_drop] at hl
  rw [show (onceF (base ++ behindF base a ++ behindF base b)).length - 100 = 0 by omega, List.drop_zero, mem_once]
  simp only [List.mem_append] at hx ⊢
  have h1 := mem_behind base a x
  have h2 := mem_behind base b x
  rcases hx with (h3 | h3) | h3
  · exact .inl (.inl h3)
  · rcases h1.2 (.inr h3) with h4 | h4
    · exact .inl (.inl h4)
    · exact .inl (.inr h4)
  · rcases h2.2 (.inr h3) with h4 | h4
    · exact .inl (.inl h4)
    · exact .inr h4
theorem merge_self (base : List α) : mergeF base base base = lastF (onceF base) := by
  unfold mergeF
  rw [behind_self, List.append_nil, List.append_nil]
theorem drop_once {l : List α} {i : Nat} {x : α} (h : l[i]? = some x) : onceF (l.drop i) = if x ∈ l.drop (i + 1) then onceF (l.drop (i + 1)) else x :: onceF (l.drop (i + 1)) := by
  rw [List.drop_eq_getElem_cons (List.getElem?_eq_some_iff.1 h).1, onceF, (List.getElem?_eq_some_iff.1 h).2]
end
end Go.Proofs.Ytdbcmhcflndggaa
