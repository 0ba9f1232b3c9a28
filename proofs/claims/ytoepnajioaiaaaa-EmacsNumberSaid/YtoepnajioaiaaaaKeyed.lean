/- The chapter's keys: limnerlaw21.keyed returns true. -/
import Derived.Test.YtoepnajioaiaaaaSame
namespace Go.Proofs.Ytoepnajioaiaaaa
open Go.RowKit

set_option maxRecDepth 100000 in
set_option maxHeartbeats 4000000 in
theorem keyed_true (w : World) : Calls Try.prog 6 #[] w fun e w' => e = .returned (.bool true) ∧ Below w.heap.size w w' := by
  have m1 : mapF 0 false 7 49 (putF 49) ⟨#[]⟩ = ((1, true), none) := rfl
  have m2 : mapF 1 true 7 50 (putF 50) ⟨#[]⟩ = ((12, true), none) := rfl
  have m3 : mapF 12 true 1 120 (putF 120) ⟨#[]⟩ = ((0, false), some ⟨2, 0, 12, ⟨#[120]⟩, false⟩) := rfl
  have m4 : mapF 0 false 6 107 (putF 107) ⟨#[]⟩ = ((0, false), some ⟨5, 3, 1, ⟨#[]⟩, false⟩) := rfl
  have m5 : mapF 0 false 6 113 (putF 113) ⟨#[]⟩ = ((0, false), some ⟨1, 0, 1, ⟨#[]⟩, false⟩) := rfl
  have M1 := Lib.hid m1
  have M2 := Lib.hid m2
  have M3 := Lib.hid m3
  have M4 := Lib.hid m4
  have M5 := Lib.hid m5
  clear m1 m2 m3 m4 m5
  go_enter Try.func6, Try.ntmps6
  go_wp2_with fail
  refine (map_any _ _ _ _ _ _).mono ?_
  rw [M1.out]
  rintro e w1 ⟨v1, rfl, hl1, hb1⟩
  obtain rfl : v1 = .slice none 0 0 := hl1
  go_wp2_with fail
  refine (map_any _ _ _ _ _ _).mono ?_
  rw [M2.out]
  rintro e w2 ⟨v2, rfl, hl2, hb2⟩
  obtain rfl : v2 = .slice none 0 0 := hl2
  have hB2 : Below w.heap.size w w2 := (hb1.alloc hb1.size _).trans (hb2.mono (by have := hb1.size; simp; omega))
  clear hb1 hb2
  go_wp2_with fail
  refine (map_any _ _ _ _ _ _).mono ?_
  rw [M3.out]
  rintro e w3 ⟨v3, rfl, hl3, hb3⟩
  have t3 : w3.heap[w2.heap.size]? = some (.cells #[.int .i64 12, .bool true] 25 (0, 0)) := (hb3.block _ (by simp)).trans (heap_alloc_new w2 _)
  have hB3 : Below w.heap.size w w3 := (hB2.alloc hB2.size _).trans (hb3.mono (by have := hB2.size; simp; omega))
  have z3 := hb3.size
  simp at z3
  obtain ⟨g3, rfl, c3⟩ := hl3
  clear hb3 hB2
  go_wp2_with fail
  refine (map_any _ _ _ _ _ _).mono ?_
  rw [M4.out]
  rintro e w4 ⟨v4, rfl, ⟨g4, rfl, c4⟩, hb4⟩
  have u4 : w4.heap[w3.heap.size]? = some (.cells #[.int .i64 0, .bool false] 25 (0, 0)) := (hb4.block _ (by simp)).trans (heap_alloc_new w3 _)
  have t4 : w4.heap[w2.heap.size]? = some (.cells #[.int .i64 12, .bool true] 25 (0, 0)) := ((hb4.block _ (by simp; omega)).trans (Below.heap_alloc _ _ _ (by omega))).trans t3
  have c34 := ((hb4.block g3 (by have := (Array.getElem?_eq_some_iff.1 c3).1; simp; omega)).trans (Below.heap_alloc _ _ _ (Array.getElem?_eq_some_iff.1 c3).1)).trans c3
  have hB4 : Below w.heap.size w w4 := (hB3.alloc hB3.size _).trans (hb4.mono (by have := hB3.size; simp; omega))
  have z4 := hb4.size
  simp at z4
  clear hb4 hB3 t3 c3
  have u40 := cell_of_row w4 _ 0 _ 25 (0, 0) u4
  have u41 := cell_of_row w4 _ 1 _ 25 (0, 0) u4
  have z40 : w3.heap.size < w4.heap.size := by omega
  go_wp2_with fail
  refine (map_any _ _ _ _ _ _).mono ?_
  rw [M5.out]
  rintro e w5 ⟨v5, rfl, ⟨g5, rfl, c5⟩, hb5⟩
  have u5 : w5.heap[w3.heap.size]? = some (.cells #[.int .i64 0, .bool false] 25 (0, 0)) := ((hb5.block _ (by simp; omega)).trans (Below.heap_alloc _ _ _ (by omega))).trans u4
  have t5 : w5.heap[w2.heap.size]? = some (.cells #[.int .i64 12, .bool true] 25 (0, 0)) := ((hb5.block _ (by simp; omega)).trans (Below.heap_alloc _ _ _ (by omega))).trans t4
  have c35 := ((hb5.block g3 (by have := (Array.getElem?_eq_some_iff.1 c34).1; simp; omega)).trans (Below.heap_alloc _ _ _ (Array.getElem?_eq_some_iff.1 c34).1)).trans c34
  have c45 := ((hb5.block g4 (by have := (Array.getElem?_eq_some_iff.1 c4).1; simp; omega)).trans (Below.heap_alloc _ _ _ (Array.getElem?_eq_some_iff.1 c4).1)).trans c4
  have hB5 : Below w.heap.size w w5 := (hB4.alloc hB4.size _).trans (hb5.mono (by have := hB4.size; simp; omega))
  clear hb5 hB4 u4 t4 c34 c4 u40 u41 z3 z4 z40 M1 M2 M3 M4 M5
  have u50 := cell_of_row w5 _ 0 _ 25 (0, 0) u5
  have u51 := cell_of_row w5 _ 1 _ 25 (0, 0) u5
  have t50 := cell_of_row w5 _ 0 _ 25 (0, 0) t5
  have t51 := cell_of_row w5 _ 1 _ 25 (0, 0) t5
  obtain ⟨x0, x1, x2, x3, x4⟩ := cmd_cells c35
  obtain ⟨y0, y1, y2, y3, y4⟩ := cmd_cells c45
  obtain ⟨q0, q1, q2, q3, q4⟩ := cmd_cells c5
  have z5 : w2.heap.size < w5.heap.size ∧ w3.heap.size < w5.heap.size ∧ g3 < w5.heap.size ∧ g4 < w5.heap.size ∧ g5 < w5.heap.size :=
    ⟨(Array.getElem?_eq_some_iff.1 t5).1, (Array.getElem?_eq_some_iff.1 u5).1, (Array.getElem?_eq_some_iff.1 c35).1, (Array.getElem?_eq_some_iff.1 c45).1, (Array.getElem?_eq_some_iff.1 c5).1⟩
  obtain ⟨z51, z52, z53, z54, z55⟩ := z5
  clear u5 t5 c35 c45 c5
  go_wp2_with fail
  go_ret
  exact ⟨rfl, hB5.alloc hB5.size _⟩

end Go.Proofs.Ytoepnajioaiaaaa
