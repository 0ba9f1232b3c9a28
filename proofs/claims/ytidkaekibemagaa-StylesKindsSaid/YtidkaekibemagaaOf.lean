/- The contracts of styles.Of and limnerref17.Of: both give the look of a kind. -/
import Derived.Test.YtidkaekibemagaaRows
import Derived.WalkKit
import Derived.WalkSpells
import Derived.WalkLawsBesides
namespace Go.Proofs.Ytidkaekibemagaa
open Go.RowKit

/-- The look of a kind, as four cells. -/
def look (k : Int) : Value :=
  if k = 0 then .agg #[.int .i64 1, .bool false, .bool true, .bool false]
  else if k = 4 then .agg #[.int .i64 5, .bool true, .bool false, .bool false]
  else if k = 5 then .agg #[.int .i64 3, .bool false, .bool false, .bool false]
  else if k = 6 then .agg #[.int .i64 6, .bool false, .bool false, .bool false]
  else if k = 7 then .agg #[.int .i64 0, .bool true, .bool false, .bool false]
  else if k = 8 then .agg #[.int .i64 0, .bool true, .bool false, .bool false]
  else if k = 9 then .agg #[.int .i64 2, .bool false, .bool false, .bool false]
  else if k = 10 then .agg #[.int .i64 2, .bool true, .bool false, .bool false]
  else if k = 11 then .agg #[.int .i64 8, .bool false, .bool false, .bool false]
  else .agg #[.int .i64 0, .bool false, .bool false, .bool false]


theorem kinds (k : Int) : k = 0 ∨ k = 4 ∨ k = 5 ∨ k = 6 ∨ k = 7 ∨ k = 8 ∨ k = 9 ∨ k = 10 ∨ k = 11 ∨ k = 1 ∨ k = 2 ∨ k = 3 ∨ k < 0 ∨ 11 < k := by omega

set_option maxHeartbeats 400000 in
theorem of_any (k : Int) (w : World) : Calls Try.prog 8 #[.int .i64 k] w fun e w' => e = .returned (look k) ∧ Below w.heap.size w w' := by
  rcases kinds k with rfl | rfl | rfl | rfl | rfl | rfl | rfl | rfl | rfl | rfl | rfl | rfl | h | h
  case inr.inr.inr.inr.inr.inr.inr.inr.inr.inr.inr.inr.inl =>
    go_enter Try.func8, Try.ntmps8
    go_wp2
    have hl : look k = .agg #[.int .i64 0, .bool false, .bool false, .bool false] := by
      unfold look; repeat rw [if_neg (by omega)]
    rw [hl]
    exact bodyPost_ret (v := .agg #[.int .i64 0, .bool false, .bool false, .bool false]) (by simp [results, Try.results8, go_sem]) rfl ⟨rfl, ((Below.refl _ _).alloc (Nat.le_refl _) _)⟩
  case inr.inr.inr.inr.inr.inr.inr.inr.inr.inr.inr.inr.inr =>
    go_enter Try.func8, Try.ntmps8
    go_wp2
    have hl : look k = .agg #[.int .i64 0, .bool false, .bool false, .bool false] := by
      unfold look; repeat rw [if_neg (by omega)]
    rw [hl]
    exact bodyPost_ret (v := .agg #[.int .i64 0, .bool false, .bool false, .bool false]) (by simp [results, Try.results8, go_sem]) rfl ⟨rfl, ((Below.refl _ _).alloc (Nat.le_refl _) _)⟩
  all_goals
    go_enter Try.func8, Try.ntmps8
    go_wp2
    refine bodyPost_ret (v := look _) (by simp [results, Try.results8, go_sem]; rfl) rfl ⟨rfl, ?_⟩
    exact ((Below.refl _ _).alloc (Nat.le_refl _) _)


theorem look_out (k : Int) (h : k < 0 ∨ 11 < k) : look k = .agg #[.int .i64 0, .bool false, .bool false, .bool false] := by
  unfold look; repeat rw [if_neg (by omega)]

set_option maxHeartbeats 4000000 in
theorem rof_any (k : Int) (w : World) : Calls Try.prog 9 #[.int .i64 k] w fun e w' => e = .returned (look k) ∧ Below w.heap.size w w' := by
  rcases kinds k with rfl | rfl | rfl | rfl | rfl | rfl | rfl | rfl | rfl | rfl | rfl | rfl | h | h
  case inr.inr.inr.inr.inr.inr.inr.inr.inr.inr.inr.inr.inl =>
    go_enter Try.func9, Try.ntmps9
    go_wp2
    rw [look_out k (.inl h)]
    exact bodyPost_ret (v := .agg #[.int .i64 0, .bool false, .bool false, .bool false]) (by simp [results, Try.results9, go_sem]) rfl ⟨rfl, ((Below.refl _ _).alloc (Nat.le_refl _) _).alloc (by simp) _⟩
  case inr.inr.inr.inr.inr.inr.inr.inr.inr.inr.inr.inr.inr =>
    go_enter Try.func9, Try.ntmps9
    go_wp2
    rw [look_out k (.inr h)]
    exact bodyPost_ret (v := .agg #[.int .i64 0, .bool false, .bool false, .bool false]) (by simp [results, Try.results9, go_sem]) rfl ⟨rfl, ((Below.refl _ _).alloc (Nat.le_refl _) _).alloc (by simp) _⟩
  all_goals
    go_enter Try.func9, Try.ntmps9
    go_wp2
    refine bodyPost_ret (v := look _) (by simp [results, Try.results9, go_sem]; rfl) rfl ⟨rfl, ?_⟩
    exact ((Below.refl _ _).alloc (Nat.le_refl _) _).alloc (by simp) _


/-- The three parts of a look; the fourth is always false. -/
def fgOf (k : Int) : Int := if k = 0 then 1 else if k = 4 then 5 else if k = 5 then 3 else if k = 6 then 6 else if k = 9 then 2 else if k = 10 then 2 else if k = 11 then 8 else 0
def boldOf (k : Int) : Bool := decide (k = 4 ∨ k = 7 ∨ k = 8 ∨ k = 10)
def underOf (k : Int) : Bool := decide (k = 0)

theorem look_parts (k : Int) : look k = .agg #[.int .i64 (fgOf k), .bool (boldOf k), .bool (underOf k), .bool false] := by
  rcases kinds k with rfl | rfl | rfl | rfl | rfl | rfl | rfl | rfl | rfl | rfl | rfl | rfl | h | h <;> try rfl
  all_goals
    rw [look_out k (by omega)]
    unfold fgOf boldOf underOf
    repeat rw [if_neg (by omega)]
    rw [decide_eq_false (by omega), decide_eq_false (by omega)]

theorem of_call (k : Int) (w : World) : Calls Try.prog 8 #[.int .i64 k] w fun e w' => e = .returned (.agg #[.int .i64 (fgOf k), .bool (boldOf k), .bool (underOf k), .bool false]) ∧ Below w.heap.size w w' := by
  rw [← look_parts]; exact of_any k w
theorem rof_call (k : Int) (w : World) : Calls Try.prog 9 #[.int .i64 k] w fun e w' => e = .returned (.agg #[.int .i64 (fgOf k), .bool (boldOf k), .bool (underOf k), .bool false]) ∧ Below w.heap.size w w' := by
  rw [← look_parts]; exact rof_any k w

end Go.Proofs.Ytidkaekibemagaa
