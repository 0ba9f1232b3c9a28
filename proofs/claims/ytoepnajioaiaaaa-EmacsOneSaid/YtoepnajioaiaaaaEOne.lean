/- EmacsOne: a key leads to one command at most. -/
import Derived.Test.YtoepnajioaiaaaaOpens
namespace Go.Proofs.Ytoepnajioaiaaaa
open Go.RowKit

def Fair (c : CmdD) : Prop := 1 ≤ c.kind ∧ c.kind ≤ 33 ∧ c.incl = false
theorem fair_find {l : List Row4} {r n : Int} (h : ∀ x ∈ l, 1 ≤ x.kind ∧ x.kind ≤ 33) : Fair (findF l r n) := by
  induction l with
  | nil => exact ⟨by simp [findF, cmd], by simp [findF, cmd], rfl⟩
  | cons x l ih =>
    rw [findF]
    by_cases hx : x.r = r
    · rw [if_pos hx]; exact ⟨(h x (by simp)).1, (h x (by simp)).2, rfl⟩
    · rw [if_neg hx]; exact ih fun y hy => h y (by simp [hy])
theorem fair_named {k n : Int} {p x : ByteArray} {c : CmdD} (h : namedF k p x n = some c) : Fair c := by
  rcases kinds16 k with rfl | rfl | rfl | rfl | rfl | rfl | rfl | rfl | rfl | rfl | rfl | rfl | rfl | rfl | rfl | rfl | hk | hk
  case inr.inr.inr.inr.inr.inr.inr.inr.inr.inr.inr.inr.inr.inr.inr.inr.inl => rw [namedF_none _ _ _ (by omega)] at h; cases h
  case inr.inr.inr.inr.inr.inr.inr.inr.inr.inr.inr.inr.inr.inr.inr.inr.inr => rw [namedF_none _ _ _ (by omega)] at h; cases h
  all_goals
    first
      | (rw [namedF_none _ _ _ (by omega)] at h; cases h; done)
      | (simp [namedF] at h
         subst h
         exact ⟨by simp [cmd], by simp [cmd], rfl⟩)
theorem fair_key {k r n : Int} {p x : ByteArray} {c : CmdD} (h : keyF k r p x n = some c) : Fair c := by
  unfold keyF at h
  split at h
  · cases h; exact fair_find (by decide)
  · split at h
    · cases h; exact fair_find (by decide)
    · exact fair_named h
theorem map_some {a : Int} {b : Bool} {k r : Int} {p x : ByteArray} {c : CmdD} {s : Int × Bool} (h : mapF a b k r p x = (s, some c)) : s = (0, false) ∧ Fair c := by
  unfold mapF at h
  split at h
  · cases h
  · split at h
    · cases h
    · simp only [Prod.mk.injEq] at h
      exact ⟨h.1.symm, fair_key h.2⟩

set_option maxHeartbeats 400000 in
theorem eone_big (a : Int) (h : Bool) (k r : Int) (x : ByteArray) (w : World) (hx : 1000 < x.size) (hm : x.size ≤ maxLen) :
    Calls Try.prog 5 #[.agg #[.int .i64 a, .bool h], .agg #[.int .i64 k, .int .i32 r, .string x]] w fun e w' => e = .returned (.bool true) ∧ Below w.heap.size w w' := by
  unfold maxLen at hm
  go_enter Try.func5, Try.ntmps5
  go_wp2_with fail
  refine (keyed_true _).mono ?_
  rintro e w1 ⟨rfl, hb1⟩
  go_wp2_with fail
  go_ret
  exact ⟨rfl, (((Below.refl _ _).alloc (Nat.le_refl _) _).alloc (by simp) _).trans (hb1.mono (by simp; omega))⟩

/-- The state's box and the key's. -/
structure Two (w0 : World) (a : Int) (h : Bool) (k r : Int) (x : ByteArray) (w : World) : Prop where
  s : w.heap[w0.heap.size]? = some (.cells #[.int .i64 a, .bool h] 25 (0, 0))
  k : w.heap[w0.heap.size + 1]? = some (.cells #[.int .i64 k, .int .i32 r, .string x] 30 (0, 0))
  old : Below w0.heap.size w0 w
theorem Two.next {w0 w w' : World} {a : Int} {h : Bool} {k r : Int} {x : ByteArray} (H : Two w0 a h k r x w) (hb : Below w.heap.size w w') : Two w0 a h k r x w' :=
  ⟨(hb.block _ (Array.getElem?_eq_some_iff.1 H.s).1).trans H.s, (hb.block _ (Array.getElem?_eq_some_iff.1 H.k).1).trans H.k, H.old.trans (hb.mono H.old.size)⟩
theorem Two.alloc {w0 w : World} {a : Int} {h : Bool} {k r : Int} {x : ByteArray} (H : Two w0 a h k r x w) (o : Obj) : Two w0 a h k r x (w.alloc o) := H.next ((Below.refl _ _).alloc (Nat.le_refl _) _)
theorem Two.cells {w0 w : World} {a : Int} {h : Bool} {k r : Int} {x : ByteArray} (H : Two w0 a h k r x w) :
    (w.cell? ⟨w0.heap.size, 0, none⟩ = some (.int .i64 a) ∧ w.cell? ⟨w0.heap.size, 1, none⟩ = some (.bool h)) ∧
    (w.cell? ⟨w0.heap.size + 1, 0, none⟩ = some (.int .i64 k) ∧ w.cell? ⟨w0.heap.size + 1, 1, none⟩ = some (.int .i32 r) ∧ w.cell? ⟨w0.heap.size + 1, 2, none⟩ = some (.string x)) ∧ w0.heap.size < w.heap.size ∧ w0.heap.size + 1 < w.heap.size :=
  ⟨⟨cell_of_row w _ 0 _ 25 (0, 0) H.s, cell_of_row w _ 1 _ 25 (0, 0) H.s⟩, ⟨cell_of_row w _ 0 _ 30 (0, 0) H.k, cell_of_row w _ 1 _ 30 (0, 0) H.k, cell_of_row w _ 2 _ 30 (0, 0) H.k⟩, (Array.getElem?_eq_some_iff.1 H.s).1, (Array.getElem?_eq_some_iff.1 H.k).1⟩

theorem two_start (w : World) (a : Int) (h : Bool) (k r : Int) (x : ByteArray) : Two w a h k r x ((w.alloc (.cells #[.int .i64 a, .bool h] 25)).alloc (.cells #[.int .i64 k, .int .i32 r, .string x] 30)) :=
  ⟨(Below.heap_alloc _ _ _ (by simp)).trans (heap_alloc_new w _), two_new _ _ _, ((Below.refl _ _).alloc (Nat.le_refl _) _).alloc (by simp) _⟩

set_option maxRecDepth 100000 in
set_option maxHeartbeats 4000000 in
theorem eone_small (a : Int) (h : Bool) (k r : Int) (x : ByteArray) (w : World) (hx : x.size ≤ 1000) :
    Calls Try.prog 5 #[.agg #[.int .i64 a, .bool h], .agg #[.int .i64 k, .int .i32 r, .string x]] w fun e w' => e = .returned (.bool true) ∧ Below w.heap.size w w' := by
  have H0 := two_start w a h k r x
  obtain ⟨a', h', o, hm⟩ : ∃ a' h' o, mapF a h k r (putF r) x = ((a', h'), o) := ⟨_, _, _, rfl⟩
  have HM := Lib.hid hm
  clear hm
  have m0 : mapF a h 0 r (putF r) x = ((a, h), none) := by unfold mapF; rw [if_neg (by omega), if_pos rfl]
  have M0 := Lib.hid m0
  clear m0
  go_enter Try.func5, Try.ntmps5
  go_wp2_with fail
  refine (map_any a h k r x _).mono ?_
  rw [HM.out]
  rintro e w1 ⟨v1, rfl, hl1, hb1⟩
  have H1 := H0.next hb1
  clear H0 hb1
  cases o with
  | none =>
    obtain rfl : v1 = .slice none 0 0 := hl1
    obtain ⟨⟨s0, s1⟩, ⟨k0, k1, k2⟩, ls, lk⟩ := H1.cells
    go_wp2_with fail
    refine (map_any a h 0 r x _).mono ?_
    rw [M0.out]
    rintro e w2 ⟨v2, rfl, hl2, hb2⟩
    obtain rfl : v2 = .slice none 0 0 := hl2
    have H2 := (H1.alloc _).next hb2
    clear hb2 H1 s0 s1 k0 k1 k2 ls lk
    obtain ⟨⟨s0, s1⟩, ⟨k0, k1, k2⟩, ls, lk⟩ := H2.cells
    go_wp2_with fail
    refine (seek_any 0 0 x _).mono ?_
    rw [show seekF 0 0 (putF 0) = none from rfl]
    rintro e w3 ⟨v3, rfl, hl3, hb3⟩
    obtain rfl : v3 = .slice none 0 0 := hl3
    have H3 := (H2.alloc _).next hb3
    clear hb3 H2 s0 s1 k0 k1 k2 ls lk
    obtain ⟨⟨s0, s1⟩, ⟨k0, k1, k2⟩, ls, lk⟩ := H3.cells
    go_wp2_with fail
    refine (seek_any k r x _).mono ?_
    rintro e w4 ⟨v4, rfl, hl4, hb4⟩
    have H4 := H3.next hb4
    clear hb4 H3 s0 s1 k0 k1 k2 ls lk
    obtain ⟨A4, n4, c4, rfl, hn4⟩ : ∃ A4 n4 c4, v4 = .slice A4 n4 c4 ∧ n4 ≤ 1 := by
      cases hs : seekF k r (putF r) with
      | none => rw [hs] at hl4; exact ⟨_, _, _, hl4, by omega⟩
      | some c' => rw [hs] at hl4; obtain ⟨g, hv, _⟩ := hl4; exact ⟨_, _, _, hv, by omega⟩
    go_wp2_with fail
    refine (keyed_true _).mono ?_
    rintro e w5 ⟨rfl, hb5⟩
    go_wp2_with fail
    go_ret
    exact ⟨rfl, H4.old.trans (hb5.mono H4.old.size)⟩
  | some c =>
    obtain ⟨hst, hc1, hc2, hc3⟩ := map_some HM.out
    simp only [Prod.mk.injEq] at hst
    obtain ⟨rfl, rfl⟩ := hst
    obtain ⟨g, rfl, hg⟩ := hl1
    obtain ⟨c0, _, _, _, c4⟩ := cmd_cells hg
    rw [hc3] at c4
    have lg := (Array.getElem?_eq_some_iff.1 hg).1
    clear hg hc3
    obtain ⟨⟨s0, s1⟩, ⟨k0, k1, k2⟩, ls, lk⟩ := H1.cells
    go_wp2_with fail
    refine (map_any a h 0 r x _).mono ?_
    rw [M0.out]
    rintro e w2 ⟨v2, rfl, hl2, hb2⟩
    obtain rfl : v2 = .slice none 0 0 := hl2
    have H2 := (H1.alloc _).next hb2
    clear hb2 H1 s0 s1 k0 k1 k2 ls lk c0 c4 lg
    obtain ⟨⟨s0, s1⟩, ⟨k0, k1, k2⟩, ls, lk⟩ := H2.cells
    go_wp2_with fail
    refine (seek_any 0 0 x _).mono ?_
    rw [show seekF 0 0 (putF 0) = none from rfl]
    rintro e w3 ⟨v3, rfl, hl3, hb3⟩
    obtain rfl : v3 = .slice none 0 0 := hl3
    have H3 := (H2.alloc _).next hb3
    clear hb3 H2 s0 s1 k0 k1 k2 ls lk
    obtain ⟨⟨s0, s1⟩, ⟨k0, k1, k2⟩, ls, lk⟩ := H3.cells
    go_wp2_with fail
    refine (seek_any k r x _).mono ?_
    rintro e w4 ⟨v4, rfl, hl4, hb4⟩
    have H4 := H3.next hb4
    clear hb4 H3 s0 s1 k0 k1 k2 ls lk
    obtain ⟨A4, n4, c4, rfl, hn4⟩ : ∃ A4 n4 c4, v4 = .slice A4 n4 c4 ∧ n4 ≤ 1 := by
      cases hs : seekF k r (putF r) with
      | none => rw [hs] at hl4; exact ⟨_, _, _, hl4, by omega⟩
      | some c' => rw [hs] at hl4; obtain ⟨g, hv, _⟩ := hl4; exact ⟨_, _, _, hv, by omega⟩
    go_wp2_with fail
    refine (keyed_true _).mono ?_
    rintro e w5 ⟨rfl, hb5⟩
    go_wp2_with fail
    go_ret
    exact ⟨rfl, H4.old.trans (hb5.mono H4.old.size)⟩

theorem eone_any (a : Int) (h : Bool) (k r : Int) (x : ByteArray) (w : World) (hm : x.size ≤ maxLen) :
    Calls Try.prog 5 #[.agg #[.int .i64 a, .bool h], .agg #[.int .i64 k, .int .i32 r, .string x]] w fun e w' => e = .returned (.bool true) ∧ Below w.heap.size w w' := by
  by_cases hx : 1000 < x.size
  · exact eone_big a h k r x w hx hm
  · exact eone_small a h k r x w (by omega)

end Go.Proofs.Ytoepnajioaiaaaa
