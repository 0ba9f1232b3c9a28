/- Keys one behind another, in the mode InNormal: what they lead to, in plain words. No program. -/
import Derived.Test.YtpjlpbammgoieaaMapped
namespace Go.Proofs.Ytpjlpbammgoieaa

/-- One command, or none, that a list of keys leads to; none, too, where no more is said. -/
def keysF : Int → Int → List UInt8 → Option CmdD
  | _, _, [] => none
  | n, op, [b] => match mapV n op 2 1 b.toNat with
    | (_, some (some c)) => some c
    | _ => none
  | n, op, b :: b' :: l => match mapV n op 2 1 b.toNat with
    | ((n', op'), none) => keysF n' op' (b' :: l)
    | _ => none

/-- The number that digits say. -/
def numF : Int → List Int → Int
  | n, [] => n
  | n, x :: l => numF (min (10 * n + x % 10) 999) l

def digitB (x : Int) : UInt8 := UInt8.ofNat (48 + x % 10).toNat
theorem digitB_nat (x : Int) : ((digitB x).toNat : Int) = 48 + x % 10 := by
  unfold digitB
  rw [UInt8.toNat_ofNat']
  omega

theorem keysF_cons {n op n' op' : Int} {b : UInt8} {l : List UInt8} (h : mapV n op 2 1 b.toNat = ((n', op'), none)) (hl : l ≠ []) : keysF n op (b :: l) = keysF n' op' l := by
  cases l with
  | nil => exact absurd rfl hl
  | cons b' l => rw [keysF, h]

theorem map_digitV {n op x : Int} (h0 : 0 ≤ n) (h9 : n ≤ 999) (ho : op = 0 ∨ op = 100 ∨ op = 121) (hx : 0 < n ∨ x % 10 ≠ 0) : mapV n op 2 1 (digitB x).toNat = ((min (10 * n + x % 10) 999, op), none) := by
  have hd := digitB_nat x
  have hn : normF op = op := by unfold normF; split <;> omega
  unfold mapV
  rw [if_neg (by omega), if_neg (by omega), hn, hd]
  unfold pastF
  rw [if_pos (by unfold isDigit; refine ⟨⟨rfl, ?_⟩, ?_⟩ <;> omega)]
  have : digitF n (48 + x % 10) = min (10 * n + x % 10) 999 := by unfold digitF; omega
  rw [this]

theorem keys_digits {op : Int} (ho : op = 0 ∨ op = 100 ∨ op = 121) : ∀ (l : List Int) (n : Int) (t : List UInt8), t ≠ [] → 0 ≤ n → n ≤ 999 → (0 < n ∨ (∀ x, l.head? = some x → x % 10 ≠ 0)) →
    keysF n op (l.map digitB ++ t) = keysF (numF n l) op t
  | [], _, _, _, _, _, _ => rfl
  | x :: l, n, t, ht, h0, h9, hx => by
    rw [List.map_cons, List.cons_append, keysF_cons (map_digitV h0 h9 ho (hx.imp id fun h => h x rfl)) (by cases l <;> simp [ht])]
    have hpos : 0 < 10 * n + x % 10 := by
      rcases hx with h | h
      · omega
      · have := h x rfl; omega
    exact keys_digits ho l _ t ht (by omega) (by omega) (.inl (by omega))

theorem numF_range : ∀ (l : List Int) (n : Int), 0 ≤ n → n ≤ 999 → 0 ≤ numF n l ∧ numF n l ≤ 999
  | [], n, h0, h9 => ⟨h0, h9⟩
  | x :: l, n, h0, h9 => numF_range l _ (by omega) (by omega)
theorem numF_pos : ∀ (l : List Int) (n : Int), 0 ≤ n → (0 < n ∨ (l ≠ [] ∧ ∀ x, l.head? = some x → x % 10 ≠ 0)) → 0 < numF n l
  | [], _, _, h => h.elim id fun h => absurd rfl h.1
  | x :: l, n, h0, h => numF_pos l _ (by omega) (.inl (by
      rcases h with h | h
      · omega
      · have := h.2 x rfl; omega))
theorem numF_append : ∀ (l l' : List Int) (n : Int), numF n (l ++ l') = numF (numF n l) l'
  | [], _, _ => rfl
  | _ :: l, l', _ => numF_append l l' _

/-- The motions of the law: the letters and their numbers. -/
def motions : List (UInt8 × Int) := [(104, 0), (108, 1), (119, 8), (98, 9), (94, 11), (36, 3), (71, 13)]

theorem map_motion0 {n : Int} {b : UInt8} {y : Int} (hm : (b, y) ∈ motions) (hn : 0 < n) : mapV n 0 2 1 b.toNat = ((0, 0), some (some (cmd 3 y n))) := by
  have hmx : max n 1 = n := by omega
  simp only [motions, List.mem_cons, List.not_mem_nil, or_false, Prod.mk.injEq] at hm
  rcases hm with ⟨rfl, rfl⟩ | ⟨rfl, rfl⟩ | ⟨rfl, rfl⟩ | ⟨rfl, rfl⟩ | ⟨rfl, rfl⟩ | ⟨rfl, rfl⟩ | ⟨rfl, rfl⟩
  all_goals
    simp [mapV, pastF, isDigit, normF, letterF, wayF, wayR, overF, hmx]
theorem map_motionO {n op : Int} {b : UInt8} {y : Int} (hm : (b, y) ∈ motions) (hn : 0 < n) (ho : op = 100 ∨ op = 121) : mapV n op 2 1 b.toNat = ((0, 0), some (some (cmd (if op = 100 then 5 else 6) y n))) := by
  have hmx : max n 1 = n := by omega
  simp only [motions, List.mem_cons, List.not_mem_nil, or_false, Prod.mk.injEq] at hm
  rcases ho with rfl | rfl
  all_goals
    rcases hm with ⟨rfl, rfl⟩ | ⟨rfl, rfl⟩ | ⟨rfl, rfl⟩ | ⟨rfl, rfl⟩ | ⟨rfl, rfl⟩ | ⟨rfl, rfl⟩ | ⟨rfl, rfl⟩
    all_goals
      simp [mapV, pastF, isDigit, normF, secF, wayF, wayR, overF, hmx, cmd]
theorem map_letter {n : Int} {b : UInt8} (hb : b = 100 ∨ b = 121) : mapV n 0 2 1 b.toNat = ((n, (b.toNat : Int)), none) := by
  rcases hb with rfl | rfl <;> simp [mapV, pastF, isDigit, normF, letterF]

section
variable {l : List Int} (hl : l ≠ []) (h0 : ∀ x, l.head? = some x → x % 10 ≠ 0) {b : UInt8} {y : Int} (hm : (b, y) ∈ motions)
include hl h0 hm

theorem keys_move : keysF 0 0 (l.map digitB ++ [b]) = some (cmd 3 y (numF 0 l)) := by
  rw [keys_digits (.inl rfl) l 0 [b] (by simp) (by omega) (by omega) (.inr h0), keysF, map_motion0 hm (numF_pos l 0 (by omega) (.inr ⟨hl, h0⟩))]
theorem keys_kill : keysF 0 0 (l.map digitB ++ [100, b]) = some (cmd 5 y (numF 0 l)) := by
  rw [keys_digits (.inl rfl) l 0 [100, b] (by simp) (by omega) (by omega) (.inr h0), keysF_cons (map_letter (.inl rfl)) (by simp), keysF]
  have := map_motionO (op := 100) hm (numF_pos l 0 (by omega) (.inr ⟨hl, h0⟩)) (.inl rfl)
  rw [if_pos rfl] at this
  rw [show (((100 : UInt8).toNat : Nat) : Int) = 100 from rfl, this]
theorem keys_copy (j : Nat) (hj : j < l.length) : keysF 0 0 ((l.take j).map digitB ++ (121 :: ((l.drop j).map digitB ++ [b]))) = some (cmd 6 y (numF 0 l)) := by
  have hne : (121 :: ((l.drop j).map digitB ++ [b]) : List UInt8) ≠ [] := by simp
  have hh : ∀ x, (l.take j).head? = some x → x % 10 ≠ 0 := by
    intro x hx
    cases l with
    | nil => exact absurd rfl hl
    | cons z l => cases j with
      | zero => simp at hx
      | succ j => exact h0 x (by simpa using hx)
  rw [keys_digits (.inl rfl) (l.take j) 0 _ hne (by omega) (by omega) (.inr hh), keysF_cons (map_letter (.inr rfl)) (by simp)]
  have hr := numF_range (l.take j) 0 (by omega) (by omega)
  have hd : 0 < numF 0 (l.take j) ∨ ∀ x, (l.drop j).head? = some x → x % 10 ≠ 0 := by
    by_cases hj0 : j = 0
    · subst hj0; exact .inr (by simpa using h0)
    · refine .inl (numF_pos _ 0 (by omega) (.inr ⟨?_, hh⟩))
      intro h
      have := congrArg List.length h
      rw [List.length_take, List.length_nil] at this
      omega
  rw [show (((121 : UInt8).toNat : Nat) : Int) = 121 from rfl, keys_digits (.inr (.inr rfl)) (l.drop j) _ [b] (by simp) hr.1 hr.2 hd, keysF, ← numF_append, List.take_append_drop]
  have := map_motionO (op := 121) hm (numF_pos l 0 (by omega) (.inr ⟨hl, h0⟩)) (.inr rfl)
  rw [if_neg (by omega)] at this
  rw [this]
end

end Go.Proofs.Ytpjlpbammgoieaa
