/- The contract of limnerref21.Map. -/
import Derived.Test.YtoepnajioaiaaaaMap
namespace Go.Proofs.Ytoepnajioaiaaaa
open Go.RowKit

def rowCells : List Row4 → List Value
  | [] => []
  | x :: l => .int .i64 x.r :: .int .i64 x.kind :: .int .i64 x.way :: .int .i64 x.n :: rowCells l

theorem rowCells_get (l : List Row4) : ∀ (i : Nat) (x : Row4), l[i]? = some x → (rowCells l)[i * 4]? = some (.int .i64 x.r) ∧ (rowCells l)[i * 4 + 1]? = some (.int .i64 x.kind) ∧ (rowCells l)[i * 4 + 2]? = some (.int .i64 x.way) ∧ (rowCells l)[i * 4 + 3]? = some (.int .i64 x.n) := by
  induction l with
  | nil => intro i x h; simp at h
  | cons y l ih =>
    intro i x h
    cases i with
    | zero => simp at h; subst h; exact ⟨rfl, rfl, rfl, rfl⟩
    | succ i =>
      have h' : l[i]? = some x := by simpa using h
      obtain ⟨h0, h1, h2, h3⟩ := ih i x h'
      rw [show (i + 1) * 4 = i * 4 + 1 + 1 + 1 + 1 by omega]
      exact ⟨h0, h1, h2, h3⟩

theorem rows_new (W : World) (l : List Row4) : RowsOf (W.alloc (.cells (rowCells l).toArray 47)) (some ⟨W.heap.size, 0, none⟩) l := fun _ => by
  refine ⟨W.heap.size, rfl, by simp, fun i x h => ?_⟩
  obtain ⟨h0, h1, h2, h3⟩ := rowCells_get l i x h
  refine ⟨?_, ?_, ?_, ?_⟩ <;> (rw [cell_of_row _ _ _ _ 47 (0, 0) (heap_alloc_new W _)]; simpa using by assumption)

set_option maxHeartbeats 1600000 in
theorem rmap_ctrl (a : Int) (h : Bool) (r : Int) (x : ByteArray) (w : World) (hr0 : -2147483648 ≤ r) (hr1 : r ≤ 2147483647) :
    Calls Try.prog 8 #[.agg #[.int .i64 a, .bool h], .agg #[.int .i64 6, .int .i32 r, .string x]] w (GivesM 50 ((0, false), some (findF ctrlRows r (if h then a else 1))) w) := by
  cases h
  · go_enter Try.func8, Try.ntmps8
    go_wp2_with fail
    refine (find_any (some ⟨w.heap.size + 1 + 1 + 1, 0, none⟩) ctrlRows 15 r 1 _ (by decide) ?_ hr0 hr1).mono ?_
    · have := rows_new (laid w 34 a false 6 r x) ctrlRows
      rw [laid_size] at this
      exact this
    rintro e w1 ⟨v, rfl, hl, hb0⟩
    have hb : Below (laid w 34 a false 6 r x).heap.size (laid w 34 a false 6 r x) w1 := ((Below.refl _ (laid w 34 a false 6 r x)).alloc (Nat.le_refl _) _).trans (hb0.mono (by rw [laid_size]; simp))
    clear hb0
    obtain ⟨⟨a0, a1⟩, ⟨k0, k1, k2⟩, ⟨s0, s1, f0, f1⟩, hz⟩ := laid_later (w := w) (TS := 34) (a := a) (h := false) (k := 6) (r := r) (x := x) hb
    go_wp2_with fail
    exact bodyPost_ret (v := .tuple #[.agg #[.int .i64 0, .bool false], v]) (by simp [results, Try.results8, go_sem, s0, s1]) rfl ⟨v, rfl, (close_map (w := w) (TS := 34) (a := a) (h := false) (k := 6) (r := r) (x := x) hl hb (by decide) _ _).1, (close_map (w := w) (TS := 34) (a := a) (h := false) (k := 6) (r := r) (x := x) hl hb (by decide) _ _).2⟩
  · go_enter Try.func8, Try.ntmps8
    go_wp2_with fail
    refine (find_any (some ⟨w.heap.size + 1 + 1 + 1, 0, none⟩) ctrlRows 15 r a _ (by decide) ?_ hr0 hr1).mono ?_
    · have := rows_new (laid w 34 a true 6 r x) ctrlRows
      rw [laid_size] at this
      exact this
    rintro e w1 ⟨v, rfl, hl, hb0⟩
    have hb : Below (laid w 34 a true 6 r x).heap.size (laid w 34 a true 6 r x) w1 := ((Below.refl _ (laid w 34 a true 6 r x)).alloc (Nat.le_refl _) _).trans (hb0.mono (by rw [laid_size]; simp))
    clear hb0
    obtain ⟨⟨a0, a1⟩, ⟨k0, k1, k2⟩, ⟨s0, s1, f0, f1⟩, hz⟩ := laid_later (w := w) (TS := 34) (a := a) (h := true) (k := 6) (r := r) (x := x) hb
    go_wp2_with fail
    exact bodyPost_ret (v := .tuple #[.agg #[.int .i64 0, .bool false], v]) (by simp [results, Try.results8, go_sem, s0, s1]) rfl ⟨v, rfl, (close_map (w := w) (TS := 34) (a := a) (h := true) (k := 6) (r := r) (x := x) hl hb (by decide) _ _).1, (close_map (w := w) (TS := 34) (a := a) (h := true) (k := 6) (r := r) (x := x) hl hb (by decide) _ _).2⟩

set_option maxHeartbeats 1600000 in
theorem rmap_alt (a : Int) (h : Bool) (r : Int) (x : ByteArray) (w : World) (hr0 : -2147483648 ≤ r) (hr1 : r ≤ 2147483647) (hr : r < 48 ∨ 57 < r) :
    Calls Try.prog 8 #[.agg #[.int .i64 a, .bool h], .agg #[.int .i64 7, .int .i32 r, .string x]] w (GivesM 50 ((0, false), some (findF altRows r (if h then a else 1))) w) := by
  cases h
  · rcases hr with hr | hr
    · go_enter Try.func8, Try.ntmps8
      go_wp2_with fail
      refine (find_any (some ⟨w.heap.size + 1 + 1 + 1, 0, none⟩) altRows 13 r 1 _ (by decide) ?_ hr0 hr1).mono ?_
      · have := rows_new (laid w 34 a false 7 r x) altRows
        rw [laid_size] at this
        exact this
      rintro e w1 ⟨v, rfl, hl, hb0⟩
      have hb : Below (laid w 34 a false 7 r x).heap.size (laid w 34 a false 7 r x) w1 := ((Below.refl _ (laid w 34 a false 7 r x)).alloc (Nat.le_refl _) _).trans (hb0.mono (by rw [laid_size]; simp))
      clear hb0
      obtain ⟨⟨a0, a1⟩, ⟨k0, k1, k2⟩, ⟨s0, s1, f0, f1⟩, hz⟩ := laid_later (w := w) (TS := 34) (a := a) (h := false) (k := 7) (r := r) (x := x) hb
      go_wp2_with fail
      exact bodyPost_ret (v := .tuple #[.agg #[.int .i64 0, .bool false], v]) (by simp [results, Try.results8, go_sem, s0, s1]) rfl ⟨v, rfl, (close_map (w := w) (TS := 34) (a := a) (h := false) (k := 7) (r := r) (x := x) hl hb (by decide) _ _).1, (close_map (w := w) (TS := 34) (a := a) (h := false) (k := 7) (r := r) (x := x) hl hb (by decide) _ _).2⟩
    · go_enter Try.func8, Try.ntmps8
      go_wp2_with fail
      refine (find_any (some ⟨w.heap.size + 1 + 1 + 1, 0, none⟩) altRows 13 r 1 _ (by decide) ?_ hr0 hr1).mono ?_
      · have := rows_new (laid w 34 a false 7 r x) altRows
        rw [laid_size] at this
        exact this
      rintro e w1 ⟨v, rfl, hl, hb0⟩
      have hb : Below (laid w 34 a false 7 r x).heap.size (laid w 34 a false 7 r x) w1 := ((Below.refl _ (laid w 34 a false 7 r x)).alloc (Nat.le_refl _) _).trans (hb0.mono (by rw [laid_size]; simp))
      clear hb0
      obtain ⟨⟨a0, a1⟩, ⟨k0, k1, k2⟩, ⟨s0, s1, f0, f1⟩, hz⟩ := laid_later (w := w) (TS := 34) (a := a) (h := false) (k := 7) (r := r) (x := x) hb
      go_wp2_with fail
      exact bodyPost_ret (v := .tuple #[.agg #[.int .i64 0, .bool false], v]) (by simp [results, Try.results8, go_sem, s0, s1]) rfl ⟨v, rfl, (close_map (w := w) (TS := 34) (a := a) (h := false) (k := 7) (r := r) (x := x) hl hb (by decide) _ _).1, (close_map (w := w) (TS := 34) (a := a) (h := false) (k := 7) (r := r) (x := x) hl hb (by decide) _ _).2⟩
  · rcases hr with hr | hr
    · go_enter Try.func8, Try.ntmps8
      go_wp2_with fail
      refine (find_any (some ⟨w.heap.size + 1 + 1 + 1, 0, none⟩) altRows 13 r a _ (by decide) ?_ hr0 hr1).mono ?_
      · have := rows_new (laid w 34 a true 7 r x) altRows
        rw [laid_size] at this
        exact this
      rintro e w1 ⟨v, rfl, hl, hb0⟩
      have hb : Below (laid w 34 a true 7 r x).heap.size (laid w 34 a true 7 r x) w1 := ((Below.refl _ (laid w 34 a true 7 r x)).alloc (Nat.le_refl _) _).trans (hb0.mono (by rw [laid_size]; simp))
      clear hb0
      obtain ⟨⟨a0, a1⟩, ⟨k0, k1, k2⟩, ⟨s0, s1, f0, f1⟩, hz⟩ := laid_later (w := w) (TS := 34) (a := a) (h := true) (k := 7) (r := r) (x := x) hb
      go_wp2_with fail
      exact bodyPost_ret (v := .tuple #[.agg #[.int .i64 0, .bool false], v]) (by simp [results, Try.results8, go_sem, s0, s1]) rfl ⟨v, rfl, (close_map (w := w) (TS := 34) (a := a) (h := true) (k := 7) (r := r) (x := x) hl hb (by decide) _ _).1, (close_map (w := w) (TS := 34) (a := a) (h := true) (k := 7) (r := r) (x := x) hl hb (by decide) _ _).2⟩
    · go_enter Try.func8, Try.ntmps8
      go_wp2_with fail
      refine (find_any (some ⟨w.heap.size + 1 + 1 + 1, 0, none⟩) altRows 13 r a _ (by decide) ?_ hr0 hr1).mono ?_
      · have := rows_new (laid w 34 a true 7 r x) altRows
        rw [laid_size] at this
        exact this
      rintro e w1 ⟨v, rfl, hl, hb0⟩
      have hb : Below (laid w 34 a true 7 r x).heap.size (laid w 34 a true 7 r x) w1 := ((Below.refl _ (laid w 34 a true 7 r x)).alloc (Nat.le_refl _) _).trans (hb0.mono (by rw [laid_size]; simp))
      clear hb0
      obtain ⟨⟨a0, a1⟩, ⟨k0, k1, k2⟩, ⟨s0, s1, f0, f1⟩, hz⟩ := laid_later (w := w) (TS := 34) (a := a) (h := true) (k := 7) (r := r) (x := x) hb
      go_wp2_with fail
      exact bodyPost_ret (v := .tuple #[.agg #[.int .i64 0, .bool false], v]) (by simp [results, Try.results8, go_sem, s0, s1]) rfl ⟨v, rfl, (close_map (w := w) (TS := 34) (a := a) (h := true) (k := 7) (r := r) (x := x) hl hb (by decide) _ _).1, (close_map (w := w) (TS := 34) (a := a) (h := true) (k := 7) (r := r) (x := x) hl hb (by decide) _ _).2⟩

set_option maxHeartbeats 1600000 in
theorem rmap_none (a : Int) (h : Bool) (r : Int) (x : ByteArray) (w : World)  :
    Calls Try.prog 8 #[.agg #[.int .i64 a, .bool h], .agg #[.int .i64 0, .int .i32 r, .string x]] w (GivesM 50 ((a, h), none) w) := by
  go_enter Try.func8, Try.ntmps8
  go_wp2_with fail
  exact bodyPost_ret (v := .tuple #[.agg #[.int .i64 a, .bool h], .slice none 0 0]) (by simp [results, Try.results8, go_sem]) rfl ⟨_, rfl, rfl, (((Below.refl _ _).alloc (Nat.le_refl _) _).alloc (by simp) _).alloc (by simp; omega) _⟩

set_option maxHeartbeats 1600000 in
theorem rmap_digit (a : Int) (h : Bool) (r : Int) (x : ByteArray) (w : World) (h0 : 48 ≤ r) (h1 : r ≤ 57) :
    Calls Try.prog 8 #[.agg #[.int .i64 a, .bool h], .agg #[.int .i64 7, .int .i32 r, .string x]] w (GivesM 50 ((digitF a r, true), none) w) := by
  have hc : a < 0 ∨ (0 ≤ a ∧ a ≤ 99) ∨ 99 < a := by omega
  rcases hc with hc | ⟨hc, hc2⟩ | hc
  · have hd : digitF a r = r - 48 := by unfold digitF; omega
    rw [hd]
    go_enter Try.func8, Try.ntmps8
    go_wp2_with fail
    exact bodyPost_ret (v := .tuple #[.agg #[.int .i64 (r - 48), .bool true], .slice none 0 0]) (by simp [results, Try.results8, go_sem]) rfl ⟨_, rfl, rfl, (((Below.refl _ _).alloc (Nat.le_refl _) _).alloc (by simp) _).alloc (by simp; omega) _⟩
  · have hd : digitF a r = a * 10 + r - 48 := by unfold digitF; omega
    rw [hd]
    go_enter Try.func8, Try.ntmps8
    go_wp2_with fail
    exact bodyPost_ret (v := .tuple #[.agg #[.int .i64 (a * 10 + r - 48), .bool true], .slice none 0 0]) (by simp [results, Try.results8, go_sem]) rfl ⟨_, rfl, rfl, (((Below.refl _ _).alloc (Nat.le_refl _) _).alloc (by simp) _).alloc (by simp; omega) _⟩
  · have hd : digitF a r = 999 := by unfold digitF; omega
    rw [hd]
    go_enter Try.func8, Try.ntmps8
    go_wp2_with fail
    exact bodyPost_ret (v := .tuple #[.agg #[.int .i64 999, .bool true], .slice none 0 0]) (by simp [results, Try.results8, go_sem]) rfl ⟨_, rfl, rfl, (((Below.refl _ _).alloc (Nat.le_refl _) _).alloc (by simp) _).alloc (by simp; omega) _⟩

set_option maxHeartbeats 1600000 in
theorem rmap_rest (a : Int) (h : Bool) (k r : Int) (x : ByteArray) (w : World) (h0 : (k == 0) = false) (h6 : (k == 6) = false) (h7 : (k == 7) = false) :
    Calls Try.prog 8 #[.agg #[.int .i64 a, .bool h], .agg #[.int .i64 k, .int .i32 r, .string x]] w (GivesM 50 ((0, false), namedF k (putF r) x (if h then a else 1)) w) := by
  cases h
  · go_enter Try.func8, Try.ntmps8
    go_wp2_with fail
    refine (rplain_any k r 1 x _).mono ?_
    rintro e w1 ⟨v, rfl, hl, hb⟩
    obtain ⟨⟨a0, a1⟩, ⟨k0, k1, k2⟩, ⟨s0, s1, f0, f1⟩, hz⟩ := laid_later (w := w) (TS := 34) (a := a) (h := false) (k := k) (r := r) (x := x) hb
    go_wp2_with fail
    exact bodyPost_ret (v := .tuple #[.agg #[.int .i64 0, .bool false], v]) (by simp [results, Try.results8, go_sem, s0, s1]) rfl ⟨v, rfl, (close_map (w := w) (TS := 34) (a := a) (h := false) (k := k) (r := r) (x := x) hl hb (by decide) _ _).1, (close_map (w := w) (TS := 34) (a := a) (h := false) (k := k) (r := r) (x := x) hl hb (by decide) _ _).2⟩
  · go_enter Try.func8, Try.ntmps8
    go_wp2_with fail
    refine (rplain_any k r a x _).mono ?_
    rintro e w1 ⟨v, rfl, hl, hb⟩
    obtain ⟨⟨a0, a1⟩, ⟨k0, k1, k2⟩, ⟨s0, s1, f0, f1⟩, hz⟩ := laid_later (w := w) (TS := 34) (a := a) (h := true) (k := k) (r := r) (x := x) hb
    go_wp2_with fail
    exact bodyPost_ret (v := .tuple #[.agg #[.int .i64 0, .bool false], v]) (by simp [results, Try.results8, go_sem, s0, s1]) rfl ⟨v, rfl, (close_map (w := w) (TS := 34) (a := a) (h := true) (k := k) (r := r) (x := x) hl hb (by decide) _ _).1, (close_map (w := w) (TS := 34) (a := a) (h := true) (k := k) (r := r) (x := x) hl hb (by decide) _ _).2⟩

theorem rmap_any (a : Int) (h : Bool) (k r : Int) (x : ByteArray) (w : World) (hr0 : -2147483648 ≤ r) (hr1 : r ≤ 2147483647) :
    Calls Try.prog 8 #[.agg #[.int .i64 a, .bool h], .agg #[.int .i64 k, .int .i32 r, .string x]] w (GivesM 50 (mapF a h k r (putF r) x) w) := by
  unfold mapF keyF
  by_cases hd : k = 7 ∧ 48 ≤ r ∧ r ≤ 57
  · rw [if_pos hd]
    obtain ⟨rfl, h0, h1⟩ := hd
    exact rmap_digit a h r x w h0 h1
  · rw [if_neg hd]
    by_cases h0 : k = 0
    · rw [if_pos h0]; subst h0; exact rmap_none a h r x w
    · rw [if_neg h0]
      by_cases h6 : k = 6
      · rw [if_pos h6]; subst h6; exact rmap_ctrl a h r x w hr0 hr1
      · rw [if_neg h6]
        by_cases h7 : k = 7
        · rw [if_pos h7]; subst h7; exact rmap_alt a h r x w hr0 hr1 (by omega)
        · rw [if_neg h7]
          exact rmap_rest a h k r x w (by rw [beq_eq_false_iff_ne]; omega) (by rw [beq_eq_false_iff_ne]; omega) (by rw [beq_eq_false_iff_ne]; omega)

end Go.Proofs.Ytoepnajioaiaaaa
