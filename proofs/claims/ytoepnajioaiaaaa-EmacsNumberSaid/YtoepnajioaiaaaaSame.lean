/- The contracts of emacs.Find, limnerref21.Find and limnerlaw21.Same. -/
import Derived.Test.YtoepnajioaiaaaaRMap
namespace Go.Proofs.Ytoepnajioaiaaaa
open Go.RowKit

set_option maxHeartbeats 4000000 in
theorem seek_any (k r : Int) (x : ByteArray) (w : World) : Calls Try.prog 10 #[.agg #[.int .i64 k, .int .i32 r, .string x]] w (Gives0 32 (seekF k r (putF r)) w) := by
  unfold seekF
  by_cases h0 : k = 0
  · rw [if_pos h0]
    subst h0
    go_enter Try.func10, Try.ntmps10
    go_wp2_with fail
    go_ret
    exact ⟨_, rfl, rfl, (Below.refl _ _).alloc (Nat.le_refl _) _⟩
  · rw [if_neg h0]
    by_cases h1 : k = 1
    · rw [if_pos h1]
      subst h1
      clear h0
      go_enter Try.func10, Try.ntmps10
      go_wp2_with fail
      refine (put_any r _).mono ?_
      rintro e w1 ⟨rfl, rfl⟩
      go_wp2_with fail
      go_ret
      exact ⟨_, rfl, ⟨w.heap.size + 1, rfl, two_new _ _ _⟩, ((Below.refl _ _).alloc (Nat.le_refl _) _).alloc (by simp) _⟩
    · rw [if_neg h1]
      by_cases h4 : k = 4
      · rw [if_pos h4]
        subst h4
        clear h0 h1
        go_enter Try.func10, Try.ntmps10
        go_wp2_with fail
        refine (one_any _ _ _ _).mono ?_
        rintro e w1 ⟨v, rfl, hl, hb⟩
        go_wp2_with fail
        go_ret
        exact ⟨_, rfl, hl, ((Below.refl _ _).alloc (Nat.le_refl _) _).trans (hb.mono (by simp))⟩
      · rw [if_neg h4]
        by_cases h6 : k = 6 ∧ r = 114
        · rw [if_pos h6]
          obtain ⟨rfl, rfl⟩ := h6
          clear h0 h1 h4
          go_enter Try.func10, Try.ntmps10
          go_wp2_with fail
          refine (one_any _ _ _ _).mono ?_
          rintro e w1 ⟨v, rfl, hl, hb⟩
          go_wp2_with fail
          go_ret
          exact ⟨_, rfl, hl, ((Below.refl _ _).alloc (Nat.le_refl _) _).trans (hb.mono (by simp))⟩
        · rw [if_neg h6]
          by_cases h2 : k = 2
          · rw [if_pos h2]
            subst h2
            clear h0 h1 h4 h6
            go_enter Try.func10, Try.ntmps10
            go_wp2_with fail
            refine (one_any _ _ _ _).mono ?_
            rintro e w1 ⟨v, rfl, hl, hb⟩
            go_wp2_with fail
            go_ret
            exact ⟨_, rfl, hl, ((Below.refl _ _).alloc (Nat.le_refl _) _).trans (hb.mono (by simp))⟩
          · rw [if_neg h2]
            have e0 : (k == 0) = false := by rw [beq_eq_false_iff_ne]; omega
            have e1 : (k == 1) = false := by rw [beq_eq_false_iff_ne]; omega
            have e4 : (k == 4) = false := by rw [beq_eq_false_iff_ne]; omega
            have e2 : (k == 2) = false := by rw [beq_eq_false_iff_ne]; omega
            by_cases h7 : k = 6
            · subst h7
              have er : (r == 114) = false := by rw [beq_eq_false_iff_ne]; omega
              clear h0 h1 h4 h6 h2
              go_enter Try.func10, Try.ntmps10
              go_wp2_with fail
              refine (one_any _ _ _ _).mono ?_
              rintro e w1 ⟨v, rfl, hl, hb⟩
              go_wp2_with fail
              go_ret
              exact ⟨_, rfl, hl, ((Below.refl _ _).alloc (Nat.le_refl _) _).trans (hb.mono (by simp))⟩
            · have e6 : (k == 6) = false := by rw [beq_eq_false_iff_ne]; omega
              clear h0 h1 h4 h6 h2 h7
              go_enter Try.func10, Try.ntmps10
              go_wp2_with fail
              refine (one_any _ _ _ _).mono ?_
              rintro e w1 ⟨v, rfl, hl, hb⟩
              go_wp2_with fail
              go_ret
              exact ⟨_, rfl, hl, ((Below.refl _ _).alloc (Nat.le_refl _) _).trans (hb.mono (by simp))⟩

set_option maxHeartbeats 4000000 in
theorem rseek_any (k r : Int) (x : ByteArray) (w : World) : Calls Try.prog 11 #[.agg #[.int .i64 k, .int .i32 r, .string x]] w (Gives0 50 (seekF k r (putF r)) w) := by
  unfold seekF
  by_cases h0 : k = 0
  · rw [if_pos h0]
    subst h0
    go_enter Try.func11, Try.ntmps11
    go_wp2_with fail
    go_ret
    exact ⟨_, rfl, rfl, (Below.refl _ _).alloc (Nat.le_refl _) _⟩
  · rw [if_neg h0]
    by_cases h1 : k = 1
    · rw [if_pos h1]
      subst h1
      clear h0
      go_enter Try.func11, Try.ntmps11
      go_wp2_with fail
      refine (rput_any r _).mono ?_
      rintro e w1 ⟨rfl, hb⟩
      go_wp2_with fail
      go_ret
      exact ⟨_, rfl, ⟨w1.heap.size, rfl, heap_alloc_new w1 _⟩, (((Below.refl _ _).alloc (Nat.le_refl _) _).trans (hb.mono (by simp))).alloc (by have := hb.size; simp at this; omega) _⟩
    · rw [if_neg h1]
      by_cases h4 : k = 4
      · rw [if_pos h4]
        subst h4
        clear h0 h1
        go_enter Try.func11, Try.ntmps11
        go_wp2_with fail
        refine (rone_any _ _ _ _).mono ?_
        rintro e w1 ⟨v, rfl, hl, hb⟩
        go_wp2_with fail
        go_ret
        exact ⟨_, rfl, hl, ((Below.refl _ _).alloc (Nat.le_refl _) _).trans (hb.mono (by simp))⟩
      · rw [if_neg h4]
        by_cases h6 : k = 6 ∧ r = 114
        · rw [if_pos h6]
          obtain ⟨rfl, rfl⟩ := h6
          clear h0 h1 h4
          go_enter Try.func11, Try.ntmps11
          go_wp2_with fail
          refine (rone_any _ _ _ _).mono ?_
          rintro e w1 ⟨v, rfl, hl, hb⟩
          go_wp2_with fail
          go_ret
          exact ⟨_, rfl, hl, ((Below.refl _ _).alloc (Nat.le_refl _) _).trans (hb.mono (by simp))⟩
        · rw [if_neg h6]
          by_cases h2 : k = 2
          · rw [if_pos h2]
            subst h2
            clear h0 h1 h4 h6
            go_enter Try.func11, Try.ntmps11
            go_wp2_with fail
            refine (rone_any _ _ _ _).mono ?_
            rintro e w1 ⟨v, rfl, hl, hb⟩
            go_wp2_with fail
            go_ret
            exact ⟨_, rfl, hl, ((Below.refl _ _).alloc (Nat.le_refl _) _).trans (hb.mono (by simp))⟩
          · rw [if_neg h2]
            have e0 : (k == 0) = false := by rw [beq_eq_false_iff_ne]; omega
            have e1 : (k == 1) = false := by rw [beq_eq_false_iff_ne]; omega
            have e4 : (k == 4) = false := by rw [beq_eq_false_iff_ne]; omega
            have e2 : (k == 2) = false := by rw [beq_eq_false_iff_ne]; omega
            by_cases h7 : k = 6
            · subst h7
              have er : (r == 114) = false := by rw [beq_eq_false_iff_ne]; omega
              clear h0 h1 h4 h6 h2
              go_enter Try.func11, Try.ntmps11
              go_wp2_with fail
              refine (rone_any _ _ _ _).mono ?_
              rintro e w1 ⟨v, rfl, hl, hb⟩
              go_wp2_with fail
              go_ret
              exact ⟨_, rfl, hl, ((Below.refl _ _).alloc (Nat.le_refl _) _).trans (hb.mono (by simp))⟩
            · have e6 : (k == 6) = false := by rw [beq_eq_false_iff_ne]; omega
              clear h0 h1 h4 h6 h2 h7
              go_enter Try.func11, Try.ntmps11
              go_wp2_with fail
              refine (rone_any _ _ _ _).mono ?_
              rintro e w1 ⟨v, rfl, hl, hb⟩
              go_wp2_with fail
              go_ret
              exact ⟨_, rfl, hl, ((Below.refl _ _).alloc (Nat.le_refl _) _).trans (hb.mono (by simp))⟩

set_option maxHeartbeats 800000 in
theorem same_none (w : World) : Calls Try.prog 9 #[.slice none 0 0, .slice none 0 0] w fun e w' => e = .returned (.bool true) ∧ Below w.heap.size w w' := by
  go_enter Try.func9, Try.ntmps9
  go_wp2_with fail
  go_loopg [5] 0 (fun _ i wr => i = .int .i64 0 ∧ Below w.heap.size w wr)
  case atStart => exact ⟨rfl, Below.refl _ _⟩
  case round =>
    obtain ⟨rfl, hb⟩ := hrel
    go_wp2_with fail
    go_ret
    exact ⟨rfl, hb⟩

theorem cmd_cells {w : World} {g : Nat} {T : TypeId} {c : CmdD} (h : w.heap[g]? = some (.cells (cmdCells c) T (0, 0))) :
    w.cell? ⟨g, 0, none⟩ = some (.int .i64 c.kind) ∧ w.cell? ⟨g, 1, none⟩ = some (.int .i64 c.way) ∧ w.cell? ⟨g, 2, none⟩ = some (.int .i64 c.n) ∧ w.cell? ⟨g, 3, none⟩ = some (.string c.text) ∧ w.cell? ⟨g, 4, none⟩ = some (.bool c.incl) :=
  ⟨cell_of_row w g 0 _ T (0, 0) h, cell_of_row w g 1 _ T (0, 0) h, cell_of_row w g 2 _ T (0, 0) h, cell_of_row w g 3 _ T (0, 0) h, cell_of_row w g 4 _ T (0, 0) h⟩

set_option maxHeartbeats 800000 in
theorem same_one (c : CmdD) (g1 g2 : Nat) (w : World) (h1 : w.heap[g1]? = some (.cells (cmdCells c) 32 (0, 0))) (h2 : w.heap[g2]? = some (.cells (cmdCells c) 50 (0, 0))) :
    Calls Try.prog 9 #[.slice (some ⟨g1, 0, none⟩) 1 1, .slice (some ⟨g2, 0, none⟩) 1 1] w fun e w' => e = .returned (.bool true) ∧ Below w.heap.size w w' := by
  go_enter Try.func9, Try.ntmps9
  go_wp2_with fail
  go_loopg [5] 1 (fun k i wr => ∃ m : Nat, m ≤ 1 ∧ k = 1 - m ∧ i = .int .i64 m ∧ ∃ n, wr = w.drewN n)
  case atStart => exact ⟨0, by omega, rfl, rfl, 0, rfl⟩
  case round =>
    obtain ⟨m, hm, hk, rfl, n, rfl⟩ := hrel
    have Hk := Lib.hid hk
    clear hk
    have h01 : m = 0 ∨ m = 1 := by omega
    rcases h01 with rfl | rfl
    · obtain ⟨a0, a1, a2, a3, a4⟩ := cmd_cells h1
      obtain ⟨b0, b1, b2, b3, b4⟩ := cmd_cells h2
      clear h1 h2
      go_wp2_with fail
      go_quiet (fail)
      go_wp2_with fail
      go_roundg 0
      case measure => have := Hk.out; omega
      case rel => exact ⟨1, by omega, rfl, by go_num, n + nq, rfl⟩
    · go_wp2_with fail
      go_ret
      exact ⟨rfl, below_drewN (Below.refl _ _) _⟩

theorem same_any {o : Option CmdD} {v1 v2 : Value} {w : World} (h1 : Lst w 32 v1 o) (h2 : Lst w 50 v2 o) : Calls Try.prog 9 #[v1, v2] w fun e w' => e = .returned (.bool true) ∧ Below w.heap.size w w' := by
  cases o with
  | none =>
    obtain rfl : v1 = .slice none 0 0 := h1
    obtain rfl : v2 = .slice none 0 0 := h2
    exact same_none w
  | some c =>
    obtain ⟨g1, rfl, e1⟩ := h1
    obtain ⟨g2, rfl, e2⟩ := h2
    exact same_one c g1 g2 w e1 e2

end Go.Proofs.Ytoepnajioaiaaaa
