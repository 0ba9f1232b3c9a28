/- The contract of emacs.Map. -/
import Derived.Test.YtpjlpbammgoieaaNamed
namespace Go.Proofs.Ytpjlpbammgoieaa
open Go.RowKit

def GivesM (T : TypeId) (m : (Int × Bool) × Option CmdD) (w : World) (e : Ending) (w' : World) : Prop :=
  ∃ v, e = .returned (.tuple #[.agg #[.int .i64 m.1.1, .bool m.1.2], v]) ∧ Lst w' T v m.2 ∧ Below w.heap.size w w'

/-- The three blocks that Map lays first. -/
def laid (w : World) (TS : TypeId) (a : Int) (h : Bool) (k r : Int) (x : ByteArray) : World :=
  ((w.alloc (.cells #[.int .i64 a, .bool h] TS)).alloc (.cells #[.int .i64 k, .int .i32 r, .string x] 25)).alloc (.cells #[.int .i64 0, .bool false] TS)

theorem laid_size (w : World) (TS : TypeId) (a : Int) (h : Bool) (k r : Int) (x : ByteArray) : (laid w TS a h k r x).heap.size = w.heap.size + 1 + 1 + 1 := by unfold laid; simp
theorem laid_below (w : World) (TS : TypeId) (a : Int) (h : Bool) (k r : Int) (x : ByteArray) : Below w.heap.size w (laid w TS a h k r x) :=
  (((Below.refl _ _).alloc (Nat.le_refl _) _).alloc (by simp) _).alloc (by simp; omega) _
theorem laid_blocks (w : World) (TS : TypeId) (a : Int) (h : Bool) (k r : Int) (x : ByteArray) :
    (laid w TS a h k r x).heap[w.heap.size]? = some (.cells #[.int .i64 a, .bool h] TS (0, 0)) ∧ (laid w TS a h k r x).heap[w.heap.size + 1]? = some (.cells #[.int .i64 k, .int .i32 r, .string x] 25 (0, 0)) ∧
    (laid w TS a h k r x).heap[w.heap.size + 1 + 1]? = some (.cells #[.int .i64 0, .bool false] TS (0, 0)) := by
  unfold laid
  refine ⟨?_, ?_, ?_⟩
  · rw [Below.heap_alloc _ _ _ (by simp; omega), Below.heap_alloc _ _ _ (by simp)]; exact heap_alloc_new w _
  · rw [Below.heap_alloc _ _ _ (by simp)]; exact two_new _ _ _
  · have := heap_alloc_new ((w.alloc (.cells #[.int .i64 a, .bool h] TS)).alloc (.cells #[.int .i64 k, .int .i32 r, .string x] 25)) (.cells #[.int .i64 0, .bool false] TS)
    simpa using this

/-- What the three blocks read in a later world. -/
theorem laid_later {w w1 : World} {TS : TypeId} {a : Int} {h : Bool} {k r : Int} {x : ByteArray} (hb : Below (laid w TS a h k r x).heap.size (laid w TS a h k r x) w1) :
    (w1.cell? ⟨w.heap.size, 0, none⟩ = some (.int .i64 a) ∧ w1.cell? ⟨w.heap.size, 1, none⟩ = some (.bool h)) ∧
    (w1.cell? ⟨w.heap.size + 1, 0, none⟩ = some (.int .i64 k) ∧ w1.cell? ⟨w.heap.size + 1, 1, none⟩ = some (.int .i32 r) ∧ w1.cell? ⟨w.heap.size + 1, 2, none⟩ = some (.string x)) ∧
    (w1.cell? ⟨w.heap.size + 1 + 1, 0, none⟩ = some (.int .i64 0) ∧ w1.cell? ⟨w.heap.size + 1 + 1, 1, none⟩ = some (.bool false) ∧ w1.frozen? ⟨w.heap.size + 1 + 1, 0, none⟩ = false ∧ w1.frozen? ⟨w.heap.size + 1 + 1, 1, none⟩ = false) ∧
    w.heap.size + 1 + 1 + 1 ≤ w1.heap.size := by
  have hs := laid_size w TS a h k r x
  obtain ⟨h0, h1, h2⟩ := laid_blocks w TS a h k r x
  have g0 := (hb.block w.heap.size (by omega)).trans h0
  have g1 := (hb.block (w.heap.size + 1) (by omega)).trans h1
  have g2 := (hb.block (w.heap.size + 1 + 1) (by omega)).trans h2
  refine ⟨⟨cell_of_row w1 _ 0 _ TS (0, 0) g0, cell_of_row w1 _ 1 _ TS (0, 0) g0⟩, ⟨cell_of_row w1 _ 0 _ 25 (0, 0) g1, cell_of_row w1 _ 1 _ 25 (0, 0) g1, cell_of_row w1 _ 2 _ 25 (0, 0) g1⟩,
    ⟨cell_of_row w1 _ 0 _ TS (0, 0) g2, cell_of_row w1 _ 1 _ TS (0, 0) g2, frozen_of_row w1 _ 0 _ TS g2, frozen_of_row w1 _ 1 _ TS g2⟩, ?_⟩
  have := hb.size
  omega

theorem Lst.set {w : World} {T TS : TypeId} {v : Value} {o : Option CmdD} {P j : Nat} {cs : Array Value} (h : Lst w T v o) (hP : w.heap[P]? = some (.cells cs TS (0, 0))) (hne : TS ≠ T) (u : Value) : Lst (w.setCell ⟨P, j, none⟩ u) T v o := by
  cases o with
  | none => exact h
  | some c =>
    obtain ⟨g, e, hg⟩ := h
    refine ⟨g, e, (Below.heap_setCell w ⟨P, j, none⟩ u g ?_).trans hg⟩
    rintro rfl
    rw [hP] at hg
    injection hg with hg
    injection hg with _ ht
    exact hne ht

theorem close_map {w w1 : World} {T TS : TypeId} {v : Value} {o : Option CmdD} {a : Int} {h : Bool} {k r : Int} {x : ByteArray} (hl : Lst w1 T v o) (hb : Below (laid w TS a h k r x).heap.size (laid w TS a h k r x) w1) (hne : TS ≠ T) (u0 u1 : Value) :
    Lst ((w1.setCell ⟨w.heap.size + 1 + 1, 0, none⟩ u0).setCell ⟨w.heap.size + 1 + 1, 1, none⟩ u1) T v o ∧ Below w.heap.size w ((w1.setCell ⟨w.heap.size + 1 + 1, 0, none⟩ u0).setCell ⟨w.heap.size + 1 + 1, 1, none⟩ u1) := by
  have hs := laid_size w TS a h k r x
  obtain ⟨_, _, h2⟩ := laid_blocks w TS a h k r x
  have g2 := (hb.block (w.heap.size + 1 + 1) (by omega)).trans h2
  refine ⟨(hl.set g2 hne u0).set (heap_setCell_same w1 _ 0 _ TS u0 g2) hne u1, ((((laid_below w TS a h k r x).trans (hb.mono (by omega))).setCell (by simp; omega) u0).setCell (by simp; omega) u1)⟩

set_option maxHeartbeats 800000 in
theorem map_named (a : Int) (h : Bool) (k r : Int) (x : ByteArray) (w : World) (hB : namedB k = true) (h0 : (k == 0) = false) (h7 : (k == 7) = false) :
    Calls Try.prog 17 #[.agg #[.int .i64 a, .bool h], .agg #[.int .i64 k, .int .i32 r, .string x]] w (GivesM 34 ((0, false), namedF k (putF r) x (if h then a else 1)) w) := by
  cases h
  · go_enter Try.func17, Try.ntmps17
    go_wp2_with fail
    refine (plain_any k r 1 x _).mono ?_
    rw [hB]
    rintro e w1 ⟨v, rfl, hl, hb⟩
    obtain ⟨⟨a0, a1⟩, ⟨k0, k1, k2⟩, ⟨s0, s1, f0, f1⟩, hz⟩ := laid_later (w := w) (TS := 49) (a := a) (h := false) (k := k) (r := r) (x := x) hb
    go_wp2_with fail
    exact bodyPost_ret (v := .tuple #[.agg #[.int .i64 0, .bool false], v]) (by simp [results, Try.results17, go_sem, s0, s1]) rfl ⟨v, rfl, (close_map (w := w) (TS := 49) (a := a) (h := false) (k := k) (r := r) (x := x) hl hb (by decide) _ _).1, (close_map (w := w) (TS := 49) (a := a) (h := false) (k := k) (r := r) (x := x) hl hb (by decide) _ _).2⟩
  · go_enter Try.func17, Try.ntmps17
    go_wp2_with fail
    refine (plain_any k r a x _).mono ?_
    rw [hB]
    rintro e w1 ⟨v, rfl, hl, hb⟩
    obtain ⟨⟨a0, a1⟩, ⟨k0, k1, k2⟩, ⟨s0, s1, f0, f1⟩, hz⟩ := laid_later (w := w) (TS := 49) (a := a) (h := true) (k := k) (r := r) (x := x) hb
    go_wp2_with fail
    exact bodyPost_ret (v := .tuple #[.agg #[.int .i64 0, .bool false], v]) (by simp [results, Try.results17, go_sem, s0, s1]) rfl ⟨v, rfl, (close_map (w := w) (TS := 49) (a := a) (h := true) (k := k) (r := r) (x := x) hl hb (by decide) _ _).1, (close_map (w := w) (TS := 49) (a := a) (h := true) (k := k) (r := r) (x := x) hl hb (by decide) _ _).2⟩

set_option maxHeartbeats 800000 in
theorem map_none (a : Int) (h : Bool) (r : Int) (x : ByteArray) (w : World) :
    Calls Try.prog 17 #[.agg #[.int .i64 a, .bool h], .agg #[.int .i64 0, .int .i32 r, .string x]] w (GivesM 34 ((a, h), none) w) := by
  go_enter Try.func17, Try.ntmps17
  go_wp2_with fail
  exact bodyPost_ret (v := .tuple #[.agg #[.int .i64 a, .bool h], .slice none 0 0]) (by simp [results, Try.results17, go_sem]) rfl ⟨_, rfl, rfl, (((Below.refl _ _).alloc (Nat.le_refl _) _).alloc (by simp) _).alloc (by simp; omega) _⟩

set_option maxHeartbeats 800000 in
theorem map_digit (a : Int) (h : Bool) (r : Int) (x : ByteArray) (w : World) (h0 : 48 ≤ r) (h1 : r ≤ 57) :
    Calls Try.prog 17 #[.agg #[.int .i64 a, .bool h], .agg #[.int .i64 7, .int .i32 r, .string x]] w (GivesM 34 ((digitF a r, true), none) w) := by
  have hc : a < 0 ∨ (0 ≤ a ∧ a ≤ 99) ∨ (99 < a ∧ a ≤ 999) ∨ 999 < a := by omega
  rcases hc with hc | ⟨hc, hc2⟩ | ⟨hc, hc2⟩ | hc
  · have hd : digitF a r = r - 48 := by unfold digitF; omega
    rw [hd]
    go_enter Try.func17, Try.ntmps17
    go_wp2_with fail
    exact bodyPost_ret (v := .tuple #[.agg #[.int .i64 (r - 48), .bool true], .slice none 0 0]) (by simp [results, Try.results17, go_sem]) rfl ⟨_, rfl, rfl, (((Below.refl _ _).alloc (Nat.le_refl _) _).alloc (by simp) _).alloc (by simp; omega) _⟩
  · have hd : digitF a r = a * 10 + (r - 48) := by unfold digitF; omega
    rw [hd]
    go_enter Try.func17, Try.ntmps17
    go_wp2_with fail
    exact bodyPost_ret (v := .tuple #[.agg #[.int .i64 (a * 10 + (r - 48)), .bool true], .slice none 0 0]) (by simp [results, Try.results17, go_sem]) rfl ⟨_, rfl, rfl, (((Below.refl _ _).alloc (Nat.le_refl _) _).alloc (by simp) _).alloc (by simp; omega) _⟩
  · have hd : digitF a r = 999 := by unfold digitF; omega
    rw [hd]
    go_enter Try.func17, Try.ntmps17
    go_wp2_with fail
    exact bodyPost_ret (v := .tuple #[.agg #[.int .i64 999, .bool true], .slice none 0 0]) (by simp [results, Try.results17, go_sem]) rfl ⟨_, rfl, rfl, (((Below.refl _ _).alloc (Nat.le_refl _) _).alloc (by simp) _).alloc (by simp; omega) _⟩
  · have hd : digitF a r = 999 := by unfold digitF; omega
    rw [hd]
    go_enter Try.func17, Try.ntmps17
    go_wp2_with fail
    exact bodyPost_ret (v := .tuple #[.agg #[.int .i64 999, .bool true], .slice none 0 0]) (by simp [results, Try.results17, go_sem]) rfl ⟨_, rfl, rfl, (((Below.refl _ _).alloc (Nat.le_refl _) _).alloc (by simp) _).alloc (by simp; omega) _⟩

set_option maxHeartbeats 1600000 in
theorem map_ctrl (a : Int) (h : Bool) (r : Int) (x : ByteArray) (w : World)  :
    Calls Try.prog 17 #[.agg #[.int .i64 a, .bool h], .agg #[.int .i64 6, .int .i32 r, .string x]] w (GivesM 34 ((0, false), some (findF ctrlRows r (if h then a else 1))) w) := by
  cases h
  · go_enter Try.func17, Try.ntmps17
    go_wp2_with fail
    refine (plain_any 6 r 1 x _).mono ?_
    rw [show namedB 6 = false from rfl]
    rintro e w1 ⟨v, rfl, _, hb⟩
    obtain ⟨⟨a0, a1⟩, ⟨k0, k1, k2⟩, _, hz⟩ := laid_later (w := w) (TS := 49) (a := a) (h := false) (k := 6) (r := r) (x := x) hb
    go_wp2_with fail
    refine (ctrl_any r 1 _).mono ?_
    rintro e w2 ⟨v2, rfl, hl2, hb2⟩
    have hbb := hb.trans (hb2.mono hb.size)
    clear a0 a1 k0 k1 k2 hz
    obtain ⟨⟨a0, a1⟩, ⟨k0, k1, k2⟩, ⟨s0, s1, f0, f1⟩, hz⟩ := laid_later (w := w) (TS := 49) (a := a) (h := false) (k := 6) (r := r) (x := x) hbb
    go_wp2_with fail
    exact bodyPost_ret (v := .tuple #[.agg #[.int .i64 0, .bool false], v2]) (by simp [results, Try.results17, go_sem, s0, s1]) rfl ⟨v2, rfl, (close_map (w := w) (TS := 49) (a := a) (h := false) (k := 6) (r := r) (x := x) hl2 hbb (by decide) _ _).1, (close_map (w := w) (TS := 49) (a := a) (h := false) (k := 6) (r := r) (x := x) hl2 hbb (by decide) _ _).2⟩
  · go_enter Try.func17, Try.ntmps17
    go_wp2_with fail
    refine (plain_any 6 r a x _).mono ?_
    rw [show namedB 6 = false from rfl]
    rintro e w1 ⟨v, rfl, _, hb⟩
    obtain ⟨⟨a0, a1⟩, ⟨k0, k1, k2⟩, _, hz⟩ := laid_later (w := w) (TS := 49) (a := a) (h := true) (k := 6) (r := r) (x := x) hb
    go_wp2_with fail
    refine (ctrl_any r a _).mono ?_
    rintro e w2 ⟨v2, rfl, hl2, hb2⟩
    have hbb := hb.trans (hb2.mono hb.size)
    clear a0 a1 k0 k1 k2 hz
    obtain ⟨⟨a0, a1⟩, ⟨k0, k1, k2⟩, ⟨s0, s1, f0, f1⟩, hz⟩ := laid_later (w := w) (TS := 49) (a := a) (h := true) (k := 6) (r := r) (x := x) hbb
    go_wp2_with fail
    exact bodyPost_ret (v := .tuple #[.agg #[.int .i64 0, .bool false], v2]) (by simp [results, Try.results17, go_sem, s0, s1]) rfl ⟨v2, rfl, (close_map (w := w) (TS := 49) (a := a) (h := true) (k := 6) (r := r) (x := x) hl2 hbb (by decide) _ _).1, (close_map (w := w) (TS := 49) (a := a) (h := true) (k := 6) (r := r) (x := x) hl2 hbb (by decide) _ _).2⟩

set_option maxHeartbeats 1600000 in
theorem map_alt (a : Int) (h : Bool) (r : Int) (x : ByteArray) (w : World) (hr : r < 48 ∨ 57 < r) :
    Calls Try.prog 17 #[.agg #[.int .i64 a, .bool h], .agg #[.int .i64 7, .int .i32 r, .string x]] w (GivesM 34 ((0, false), some (findF altRows r (if h then a else 1))) w) := by
  cases h
  · rcases hr with hr | hr
    · go_enter Try.func17, Try.ntmps17
      go_wp2_with fail
      refine (plain_any 7 r 1 x _).mono ?_
      rw [show namedB 7 = false from rfl]
      rintro e w1 ⟨v, rfl, _, hb⟩
      obtain ⟨⟨a0, a1⟩, ⟨k0, k1, k2⟩, _, hz⟩ := laid_later (w := w) (TS := 49) (a := a) (h := false) (k := 7) (r := r) (x := x) hb
      go_wp2_with fail
      refine (alt_any r 1 _).mono ?_
      rintro e w2 ⟨v2, rfl, hl2, hb2⟩
      have hbb := hb.trans (hb2.mono hb.size)
      clear a0 a1 k0 k1 k2 hz
      obtain ⟨⟨a0, a1⟩, ⟨k0, k1, k2⟩, ⟨s0, s1, f0, f1⟩, hz⟩ := laid_later (w := w) (TS := 49) (a := a) (h := false) (k := 7) (r := r) (x := x) hbb
      go_wp2_with fail
      exact bodyPost_ret (v := .tuple #[.agg #[.int .i64 0, .bool false], v2]) (by simp [results, Try.results17, go_sem, s0, s1]) rfl ⟨v2, rfl, (close_map (w := w) (TS := 49) (a := a) (h := false) (k := 7) (r := r) (x := x) hl2 hbb (by decide) _ _).1, (close_map (w := w) (TS := 49) (a := a) (h := false) (k := 7) (r := r) (x := x) hl2 hbb (by decide) _ _).2⟩
    · go_enter Try.func17, Try.ntmps17
      go_wp2_with fail
      refine (plain_any 7 r 1 x _).mono ?_
      rw [show namedB 7 = false from rfl]
      rintro e w1 ⟨v, rfl, _, hb⟩
      obtain ⟨⟨a0, a1⟩, ⟨k0, k1, k2⟩, _, hz⟩ := laid_later (w := w) (TS := 49) (a := a) (h := false) (k := 7) (r := r) (x := x) hb
      go_wp2_with fail
      refine (alt_any r 1 _).mono ?_
      rintro e w2 ⟨v2, rfl, hl2, hb2⟩
      have hbb := hb.trans (hb2.mono hb.size)
      clear a0 a1 k0 k1 k2 hz
      obtain ⟨⟨a0, a1⟩, ⟨k0, k1, k2⟩, ⟨s0, s1, f0, f1⟩, hz⟩ := laid_later (w := w) (TS := 49) (a := a) (h := false) (k := 7) (r := r) (x := x) hbb
      go_wp2_with fail
      exact bodyPost_ret (v := .tuple #[.agg #[.int .i64 0, .bool false], v2]) (by simp [results, Try.results17, go_sem, s0, s1]) rfl ⟨v2, rfl, (close_map (w := w) (TS := 49) (a := a) (h := false) (k := 7) (r := r) (x := x) hl2 hbb (by decide) _ _).1, (close_map (w := w) (TS := 49) (a := a) (h := false) (k := 7) (r := r) (x := x) hl2 hbb (by decide) _ _).2⟩
  · rcases hr with hr | hr
    · go_enter Try.func17, Try.ntmps17
      go_wp2_with fail
      refine (plain_any 7 r a x _).mono ?_
      rw [show namedB 7 = false from rfl]
      rintro e w1 ⟨v, rfl, _, hb⟩
      obtain ⟨⟨a0, a1⟩, ⟨k0, k1, k2⟩, _, hz⟩ := laid_later (w := w) (TS := 49) (a := a) (h := true) (k := 7) (r := r) (x := x) hb
      go_wp2_with fail
      refine (alt_any r a _).mono ?_
      rintro e w2 ⟨v2, rfl, hl2, hb2⟩
      have hbb := hb.trans (hb2.mono hb.size)
      clear a0 a1 k0 k1 k2 hz
      obtain ⟨⟨a0, a1⟩, ⟨k0, k1, k2⟩, ⟨s0, s1, f0, f1⟩, hz⟩ := laid_later (w := w) (TS := 49) (a := a) (h := true) (k := 7) (r := r) (x := x) hbb
      go_wp2_with fail
      exact bodyPost_ret (v := .tuple #[.agg #[.int .i64 0, .bool false], v2]) (by simp [results, Try.results17, go_sem, s0, s1]) rfl ⟨v2, rfl, (close_map (w := w) (TS := 49) (a := a) (h := true) (k := 7) (r := r) (x := x) hl2 hbb (by decide) _ _).1, (close_map (w := w) (TS := 49) (a := a) (h := true) (k := 7) (r := r) (x := x) hl2 hbb (by decide) _ _).2⟩
    · go_enter Try.func17, Try.ntmps17
      go_wp2_with fail
      refine (plain_any 7 r a x _).mono ?_
      rw [show namedB 7 = false from rfl]
      rintro e w1 ⟨v, rfl, _, hb⟩
      obtain ⟨⟨a0, a1⟩, ⟨k0, k1, k2⟩, _, hz⟩ := laid_later (w := w) (TS := 49) (a := a) (h := true) (k := 7) (r := r) (x := x) hb
      go_wp2_with fail
      refine (alt_any r a _).mono ?_
      rintro e w2 ⟨v2, rfl, hl2, hb2⟩
      have hbb := hb.trans (hb2.mono hb.size)
      clear a0 a1 k0 k1 k2 hz
      obtain ⟨⟨a0, a1⟩, ⟨k0, k1, k2⟩, ⟨s0, s1, f0, f1⟩, hz⟩ := laid_later (w := w) (TS := 49) (a := a) (h := true) (k := 7) (r := r) (x := x) hbb
      go_wp2_with fail
      exact bodyPost_ret (v := .tuple #[.agg #[.int .i64 0, .bool false], v2]) (by simp [results, Try.results17, go_sem, s0, s1]) rfl ⟨v2, rfl, (close_map (w := w) (TS := 49) (a := a) (h := true) (k := 7) (r := r) (x := x) hl2 hbb (by decide) _ _).1, (close_map (w := w) (TS := 49) (a := a) (h := true) (k := 7) (r := r) (x := x) hl2 hbb (by decide) _ _).2⟩

set_option maxHeartbeats 1600000 in
theorem map_other (a : Int) (h : Bool) (k r : Int) (x : ByteArray) (w : World) (hk : k < 0 ∨ 15 < k) :
    Calls Try.prog 17 #[.agg #[.int .i64 a, .bool h], .agg #[.int .i64 k, .int .i32 r, .string x]] w (GivesM 34 ((0, false), none) w) := by
  have hB : namedB k = false := by unfold namedB; simp; omega
  have h0 : (k == 0) = false := by rw [beq_eq_false_iff_ne]; omega
  have h6 : (k == 6) = false := by rw [beq_eq_false_iff_ne]; omega
  have h7 : (k == 7) = false := by rw [beq_eq_false_iff_ne]; omega
  have hN : ∀ n, namedF k (putF r) x n = none := fun n => namedF_none _ _ _ (by omega)
  clear hk
  cases h
  · go_enter Try.func17, Try.ntmps17
    go_wp2_with fail
    refine (plain_any k r 1 x _).mono ?_
    rw [hB, hN]
    rintro e w1 ⟨v, rfl, hl, hb⟩
    obtain rfl : v = .slice none 0 0 := hl
    obtain ⟨⟨a0, a1⟩, ⟨k0, k1, k2⟩, ⟨s0, s1, f0, f1⟩, hz⟩ := laid_later (w := w) (TS := 49) (a := a) (h := false) (k := k) (r := r) (x := x) hb
    go_wp2_with fail
    exact bodyPost_ret (v := .tuple #[.agg #[.int .i64 0, .bool false], .slice none 0 0]) (by simp [results, Try.results17, go_sem, s0, s1]) rfl ⟨_, rfl, rfl, (close_map (T := 34) (v := .slice none 0 0) (o := none) (w := w) (TS := 49) (a := a) (h := false) (k := k) (r := r) (x := x) rfl hb (by decide) _ _).2⟩
  · go_enter Try.func17, Try.ntmps17
    go_wp2_with fail
    refine (plain_any k r a x _).mono ?_
    rw [hB, hN]
    rintro e w1 ⟨v, rfl, hl, hb⟩
    obtain rfl : v = .slice none 0 0 := hl
    obtain ⟨⟨a0, a1⟩, ⟨k0, k1, k2⟩, ⟨s0, s1, f0, f1⟩, hz⟩ := laid_later (w := w) (TS := 49) (a := a) (h := true) (k := k) (r := r) (x := x) hb
    go_wp2_with fail
    exact bodyPost_ret (v := .tuple #[.agg #[.int .i64 0, .bool false], .slice none 0 0]) (by simp [results, Try.results17, go_sem, s0, s1]) rfl ⟨_, rfl, rfl, (close_map (T := 34) (v := .slice none 0 0) (o := none) (w := w) (TS := 49) (a := a) (h := true) (k := k) (r := r) (x := x) rfl hb (by decide) _ _).2⟩

theorem map_any (a : Int) (h : Bool) (k r : Int) (x : ByteArray) (w : World) :
    Calls Try.prog 17 #[.agg #[.int .i64 a, .bool h], .agg #[.int .i64 k, .int .i32 r, .string x]] w (GivesM 34 (mapF a h k r (putF r) x) w) := by
  unfold mapF keyF
  by_cases hd : k = 7 ∧ 48 ≤ r ∧ r ≤ 57
  · rw [if_pos hd]
    obtain ⟨rfl, h0, h1⟩ := hd
    exact map_digit a h r x w h0 h1
  · rw [if_neg hd]
    by_cases h0 : k = 0
    · rw [if_pos h0]; subst h0; exact map_none a h r x w
    · rw [if_neg h0]
      by_cases h6 : k = 6
      · rw [if_pos h6]; subst h6; exact map_ctrl a h r x w
      · rw [if_neg h6]
        by_cases h7 : k = 7
        · rw [if_pos h7]; subst h7; exact map_alt a h r x w (by omega)
        · rw [if_neg h7]
          by_cases ho : k < 0 ∨ 15 < k
          · rw [namedF_none _ _ _ (by omega)]; exact map_other a h k r x w ho
          · exact map_named a h k r x w (by unfold namedB; simp; omega) (by rw [beq_eq_false_iff_ne]; omega) (by rw [beq_eq_false_iff_ne]; omega)

end Go.Proofs.Ytpjlpbammgoieaa
