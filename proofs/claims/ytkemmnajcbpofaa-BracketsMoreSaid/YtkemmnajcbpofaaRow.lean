/- The contracts of limnerlaw16.Row and some. -/
import Derived.Test.YtkemmnajcbpofaaMatch
namespace Go.Proofs.Ytkemmnajcbpofaa
open Go.RowKit

theorem tok_info : (Try.prog.info? 31).map (fun i => (i.zero, i.size, i.bytes)) = some (some (.agg #[.int .i64 0, .int .i64 0, .int .i64 0]), 3, 24) := by kernel_rfl

/-- The cells of a row, three a byte. -/
def rowCells (t : List Nat) : Nat → List Value
  | 0 => []
  | n + 1 => rowCells t n ++ [.int .i64 (kindB (t.getD n 0)), .int .i64 n, .int .i64 (n + 1)]
theorem rowCells_length (t : List Nat) (n : Nat) : (rowCells t n).length = n * 3 := by
  induction n with
  | zero => rfl
  | succ n ih => simp [rowCells, ih]; omega
theorem rowCells_get (t : List Nat) (n i : Nat) (hi : i < n) : (rowCells t n)[i * 3]? = some (.int .i64 (kindB (t.getD i 0))) ∧ (rowCells t n)[i * 3 + 1]? = some (.int .i64 i) ∧ (rowCells t n)[i * 3 + 2]? = some (.int .i64 (i + 1)) := by
  induction n with
  | zero => omega
  | succ n ih =>
    have hl := rowCells_length t n
    by_cases h : i < n
    · obtain ⟨h1, h2, h3⟩ := ih h
      unfold rowCells
      rw [List.getElem?_append_left (by omega), List.getElem?_append_left (by omega), List.getElem?_append_left (by omega)]
      exact ⟨h1, h2, h3⟩
    · obtain rfl : i = n := by omega
      unfold rowCells
      rw [List.getElem?_append_right (by omega), List.getElem?_append_right (by omega), List.getElem?_append_right (by omega), hl]
      refine ⟨?_, ?_, ?_⟩
      · rw [Nat.sub_self]; rfl
      · rw [show i * 3 + 1 - i * 3 = 1 by omega]; rfl
      · rw [show i * 3 + 2 - i * 3 = 2 by omega]; rfl

theorem new_cells (W : World) (cs : Array Value) (e : TypeId) : ∀ (j : Nat) (u : Value), cs.toList[j]? = some u → (W.alloc (.cells cs e)).cell? ((⟨W.heap.size, 0, none⟩ : Addr).add j) = some u := by
  intro j u hu
  have hadd : (⟨W.heap.size, 0, none⟩ : Addr).add j = ⟨W.heap.size, j, none⟩ := by unfold Addr.add; split <;> simp_all
  rw [hadd, cell_of_row _ _ j cs e (0, 0) (heap_alloc_new W _)]
  simpa using hu

theorem byte_cases (b : Nat) : b = 40 ∨ b = 91 ∨ b = 123 ∨ b = 41 ∨ b = 93 ∨ b = 125 ∨
    (((b : Int) == 40) = false ∧ ((b : Int) == 91) = false ∧ ((b : Int) == 123) = false ∧ ((b : Int) == 41) = false ∧ ((b : Int) == 93) = false ∧ ((b : Int) == 125) = false) := by
  by_cases h : b = 40 ∨ b = 91 ∨ b = 123 ∨ b = 41 ∨ b = 93 ∨ b = 125
  · omega
  · refine .inr (.inr (.inr (.inr (.inr (.inr ?_)))))
    simp only [beq_eq_false_iff_ne]
    omega

set_option maxHeartbeats 400000 in
theorem row_own (s : ByteArray) (w : World) (hs : s.size ≤ 1000) :
    Calls Try.prog 7 #[.string s] w fun e w' => ∃ v, e = .returned v ∧ w'.ownsRow w.heap.size 31 3 v s.size (rowCells (bytesOf s) s.size) ∧ Below w.heap.size w w' := by
  obtain ⟨i0, hi0, hz0, hz1, hz2⟩ := info_parts tok_info
  go_enter Try.func7, Try.ntmps7
  go_wp2_with fail
  go_loopg [4, 3] s.size (fun k i v wr => ∃ m : Nat, m ≤ s.size ∧ k = s.size - m ∧ i = .int .i64 m ∧ wr.ownsRow w.heap.size 31 3 v m (rowCells (bytesOf s) m) ∧ Below w.heap.size w wr)
  case atStart => exact ⟨0, by omega, by omega, rfl, World.ownsRow_nil _ _ _ _, Below.refl _ _⟩
  case round =>
    obtain ⟨m, hm, hk, rfl, hown, hb⟩ := hrel
    have Hk := Lib.hid hk
    clear hk
    by_cases hlt : m < s.size
    · have hget : (bytesOf s).getD m 0 = (s[m]).toNat := by rw [List.getD_eq_getElem?_getD, bytesOf_get s m hlt]; rfl
      have Hget := Lib.hid hget
      clear hget
      have hl := rowCells_length (bytesOf s) m
      have Hl := Lib.hid hl
      clear hl
      rcases byte_cases (s[m]).toNat with hb0 | hb0 | hb0 | hb0 | hb0 | hb0 | ⟨e1, e2, e3, e4, e5, e6⟩
      case inr.inr.inr.inr.inr.inr =>
        have HK : kindB (s[m]).toNat = 3 := by
          simp only [beq_eq_false_iff_ne] at e1 e2 e3 e4 e5 e6
          unfold kindB; rw [if_neg (by omega), if_neg (by omega)]
        have HK := Lib.hid HK
        go_wp2_with (at_builtin; refine wpList_append_own _ rfl _ _ 25 rfl w.heap.size 31 i0 _ 3 24 Try.underlying25 hi0 hz0 hz1 hz2 rfl (by decide) _ _ _ rfl (hown.alloc _) ⟨wr.heap.size, 0, none⟩ 1 1 [.int .i64 3, .int .i64 m, .int .i64 (m + 1)] rfl rfl ?_ ?_ (by unfold maxLen; omega) (by omega) (by have := hb.size; simp; omega) ?_)
        case refine_1 => exact new_cells _ _ _
        case refine_2 => intro u hu; simp at hu; rcases hu with rfl | rfl | rfl <;> rfl
        intro v' w1 hown' hgrow _
        go_wp2_with fail
        go_roundg (s.size - (m + 1))
        case measure => have := Hk.out; omega
        case rel =>
          refine ⟨m + 1, by omega, rfl, by go_num, ?_, (hb.alloc hb.size _).grown hgrow (by have := hb.size; simp; omega) (fun k hk => (hown.lt k hk).1)⟩
          unfold rowCells
          rw [Hget.out, HK.out]
          exact hown'
      · have test : ∀ x : Int, (((s[m]).toNat : Int) == x) = (((40 : Nat) : Int) == x) := fun x => by rw [hb0]
        have HK := Lib.hid (show kindB (s[m]).toNat = 7 by rw [hb0]; rfl)
        clear hb0
        go_wp2_with (at_builtin; refine wpList_append_own _ rfl _ _ 25 rfl w.heap.size 31 i0 _ 3 24 Try.underlying25 hi0 hz0 hz1 hz2 rfl (by decide) _ _ _ rfl (hown.alloc _) ⟨wr.heap.size, 0, none⟩ 1 1 [.int .i64 7, .int .i64 m, .int .i64 (m + 1)] rfl rfl ?_ ?_ (by unfold maxLen; omega) (by omega) (by have := hb.size; simp; omega) ?_)
        case refine_1 => exact new_cells _ _ _
        case refine_2 => intro u hu; simp at hu; rcases hu with rfl | rfl | rfl <;> rfl
        intro v' w1 hown' hgrow _
        go_wp2_with fail
        go_roundg (s.size - (m + 1))
        case measure => have := Hk.out; omega
        case rel =>
          refine ⟨m + 1, by omega, rfl, by go_num, ?_, (hb.alloc hb.size _).grown hgrow (by have := hb.size; simp; omega) (fun k hk => (hown.lt k hk).1)⟩
          unfold rowCells
          rw [Hget.out, HK.out]
          exact hown'
      · have test : ∀ x : Int, (((s[m]).toNat : Int) == x) = (((91 : Nat) : Int) == x) := fun x => by rw [hb0]
        have HK := Lib.hid (show kindB (s[m]).toNat = 7 by rw [hb0]; rfl)
        clear hb0
        go_wp2_with (at_builtin; refine wpList_append_own _ rfl _ _ 25 rfl w.heap.size 31 i0 _ 3 24 Try.underlying25 hi0 hz0 hz1 hz2 rfl (by decide) _ _ _ rfl (hown.alloc _) ⟨wr.heap.size, 0, none⟩ 1 1 [.int .i64 7, .int .i64 m, .int .i64 (m + 1)] rfl rfl ?_ ?_ (by unfold maxLen; omega) (by omega) (by have := hb.size; simp; omega) ?_)
        case refine_1 => exact new_cells _ _ _
        case refine_2 => intro u hu; simp at hu; rcases hu with rfl | rfl | rfl <;> rfl
        intro v' w1 hown' hgrow _
        go_wp2_with fail
        go_roundg (s.size - (m + 1))
        case measure => have := Hk.out; omega
        case rel =>
          refine ⟨m + 1, by omega, rfl, by go_num, ?_, (hb.alloc hb.size _).grown hgrow (by have := hb.size; simp; omega) (fun k hk => (hown.lt k hk).1)⟩
          unfold rowCells
          rw [Hget.out, HK.out]
          exact hown'
      · have test : ∀ x : Int, (((s[m]).toNat : Int) == x) = (((123 : Nat) : Int) == x) := fun x => by rw [hb0]
        have HK := Lib.hid (show kindB (s[m]).toNat = 7 by rw [hb0]; rfl)
        clear hb0
        go_wp2_with (at_builtin; refine wpList_append_own _ rfl _ _ 25 rfl w.heap.size 31 i0 _ 3 24 Try.underlying25 hi0 hz0 hz1 hz2 rfl (by decide) _ _ _ rfl (hown.alloc _) ⟨wr.heap.size, 0, none⟩ 1 1 [.int .i64 7, .int .i64 m, .int .i64 (m + 1)] rfl rfl ?_ ?_ (by unfold maxLen; omega) (by omega) (by have := hb.size; simp; omega) ?_)
        case refine_1 => exact new_cells _ _ _
        case refine_2 => intro u hu; simp at hu; rcases hu with rfl | rfl | rfl <;> rfl
        intro v' w1 hown' hgrow _
        go_wp2_with fail
        go_roundg (s.size - (m + 1))
        case measure => have := Hk.out; omega
        case rel =>
          refine ⟨m + 1, by omega, rfl, by go_num, ?_, (hb.alloc hb.size _).grown hgrow (by have := hb.size; simp; omega) (fun k hk => (hown.lt k hk).1)⟩
          unfold rowCells
          rw [Hget.out, HK.out]
          exact hown'
      · have test : ∀ x : Int, (((s[m]).toNat : Int) == x) = (((41 : Nat) : Int) == x) := fun x => by rw [hb0]
        have HK := Lib.hid (show kindB (s[m]).toNat = 8 by rw [hb0]; rfl)
        clear hb0
        go_wp2_with (at_builtin; refine wpList_append_own _ rfl _ _ 25 rfl w.heap.size 31 i0 _ 3 24 Try.underlying25 hi0 hz0 hz1 hz2 rfl (by decide) _ _ _ rfl (hown.alloc _) ⟨wr.heap.size, 0, none⟩ 1 1 [.int .i64 8, .int .i64 m, .int .i64 (m + 1)] rfl rfl ?_ ?_ (by unfold maxLen; omega) (by omega) (by have := hb.size; simp; omega) ?_)
        case refine_1 => exact new_cells _ _ _
        case refine_2 => intro u hu; simp at hu; rcases hu with rfl | rfl | rfl <;> rfl
        intro v' w1 hown' hgrow _
        go_wp2_with fail
        go_roundg (s.size - (m + 1))
        case measure => have := Hk.out; omega
        case rel =>
          refine ⟨m + 1, by omega, rfl, by go_num, ?_, (hb.alloc hb.size _).grown hgrow (by have := hb.size; simp; omega) (fun k hk => (hown.lt k hk).1)⟩
          unfold rowCells
          rw [Hget.out, HK.out]
          exact hown'
      · have test : ∀ x : Int, (((s[m]).toNat : Int) == x) = (((93 : Nat) : Int) == x) := fun x => by rw [hb0]
        have HK := Lib.hid (show kindB (s[m]).toNat = 8 by rw [hb0]; rfl)
        clear hb0
        go_wp2_with (at_builtin; refine wpList_append_own _ rfl _ _ 25 rfl w.heap.size 31 i0 _ 3 24 Try.underlying25 hi0 hz0 hz1 hz2 rfl (by decide) _ _ _ rfl (hown.alloc _) ⟨wr.heap.size, 0, none⟩ 1 1 [.int .i64 8, .int .i64 m, .int .i64 (m + 1)] rfl rfl ?_ ?_ (by unfold maxLen; omega) (by omega) (by have := hb.size; simp; omega) ?_)
        case refine_1 => exact new_cells _ _ _
        case refine_2 => intro u hu; simp at hu; rcases hu with rfl | rfl | rfl <;> rfl
        intro v' w1 hown' hgrow _
        go_wp2_with fail
        go_roundg (s.size - (m + 1))
        case measure => have := Hk.out; omega
        case rel =>
          refine ⟨m + 1, by omega, rfl, by go_num, ?_, (hb.alloc hb.size _).grown hgrow (by have := hb.size; simp; omega) (fun k hk => (hown.lt k hk).1)⟩
          unfold rowCells
          rw [Hget.out, HK.out]
          exact hown'
      · have test : ∀ x : Int, (((s[m]).toNat : Int) == x) = (((125 : Nat) : Int) == x) := fun x => by rw [hb0]
        have HK := Lib.hid (show kindB (s[m]).toNat = 8 by rw [hb0]; rfl)
        clear hb0
        go_wp2_with (at_builtin; refine wpList_append_own _ rfl _ _ 25 rfl w.heap.size 31 i0 _ 3 24 Try.underlying25 hi0 hz0 hz1 hz2 rfl (by decide) _ _ _ rfl (hown.alloc _) ⟨wr.heap.size, 0, none⟩ 1 1 [.int .i64 8, .int .i64 m, .int .i64 (m + 1)] rfl rfl ?_ ?_ (by unfold maxLen; omega) (by omega) (by have := hb.size; simp; omega) ?_)
        case refine_1 => exact new_cells _ _ _
        case refine_2 => intro u hu; simp at hu; rcases hu with rfl | rfl | rfl <;> rfl
        intro v' w1 hown' hgrow _
        go_wp2_with fail
        go_roundg (s.size - (m + 1))
        case measure => have := Hk.out; omega
        case rel =>
          refine ⟨m + 1, by omega, rfl, by go_num, ?_, (hb.alloc hb.size _).grown hgrow (by have := hb.size; simp; omega) (fun k hk => (hown.lt k hk).1)⟩
          unfold rowCells
          rw [Hget.out, HK.out]
          exact hown'
    · obtain rfl : m = s.size := by omega
      go_wp2_with fail
      go_ret
      exact ⟨_, rfl, hown, hb⟩

end Go.Proofs.Ytkemmnajcbpofaa
