/- The chapter's brackets: limnerlaw16.matched returns true. -/
import Derived.Test.YtkemmnajcbpofaaSome
namespace Go.Proofs.Ytkemmnajcbpofaa
open Go.RowKit

set_option maxHeartbeats 400000 in
theorem matched_true (w : World) : Calls Try.prog 5 #[] w fun e w' => e = .returned (.bool true) ∧ Below w.heap.size w w' := by
  go_enter Try.func5, Try.ntmps5
  go_wp2_with fail
  refine (row_any ⟨#[40, 97, 91, 98, 93, 41]⟩ _ (by decide)).mono ?_
  rintro e w1 ⟨A1, c1, rfl, r1, hb1⟩
  go_wp2_with fail
  refine (look_any ⟨#[40, 97, 91, 98, 93, 41]⟩ A1 c1 _ (by decide) r1).mono ?_
  have e1 : lookF (bytesOf ⟨#[40, 97, 91, 98, 93, 41]⟩) 0 [] = (0, 0) := by decide
  rw [e1]
  rintro e w2 ⟨rfl, hb2⟩
  clear r1 e1
  go_wp2_with fail
  refine (row_any ⟨#[40, 97, 91, 98, 93, 41]⟩ _ (by decide)).mono ?_
  rintro e w3 ⟨A3, c3, rfl, r3, hb3⟩
  go_wp2_with fail
  refine (match_any ⟨#[40, 97, 91, 98, 93, 41]⟩ A3 c3 0 _ (by decide) r3).mono ?_
  have e1 : matchF 0 (bytesOf ⟨#[40, 97, 91, 98, 93, 41]⟩) 0 [] = (5, true) := by decide
  rw [e1]
  rintro e w4 ⟨rfl, hb4⟩
  clear r3 e1
  go_wp2_with fail
  refine (row_any ⟨#[40, 97, 91, 98, 93, 41]⟩ _ (by decide)).mono ?_
  rintro e w5 ⟨A5, c5, rfl, r5, hb5⟩
  go_wp2_with fail
  refine (match_any ⟨#[40, 97, 91, 98, 93, 41]⟩ A5 c5 2 _ (by decide) r5).mono ?_
  have e1 : matchF 2 (bytesOf ⟨#[40, 97, 91, 98, 93, 41]⟩) 0 [] = (4, true) := by decide
  rw [e1]
  rintro e w6 ⟨rfl, hb6⟩
  clear r5 e1
  go_wp2_with fail
  refine (row_any ⟨#[40, 93]⟩ _ (by decide)).mono ?_
  rintro e w7 ⟨A7, c7, rfl, r7, hb7⟩
  go_wp2_with fail
  refine (look_any ⟨#[40, 93]⟩ A7 c7 _ (by decide) r7).mono ?_
  have e1 : lookF (bytesOf ⟨#[40, 93]⟩) 0 [] = (2, 1) := by decide
  rw [e1]
  rintro e w8 ⟨rfl, hb8⟩
  clear r7 e1
  go_wp2_with fail
  refine (row_any ⟨#[40, 91]⟩ _ (by decide)).mono ?_
  rintro e w9 ⟨A9, c9, rfl, r9, hb9⟩
  go_wp2_with fail
  refine (look_any ⟨#[40, 91]⟩ A9 c9 _ (by decide) r9).mono ?_
  have e1 : lookF (bytesOf ⟨#[40, 91]⟩) 0 [] = (1, 2) := by decide
  rw [e1]
  rintro e wA ⟨rfl, hbA⟩
  clear r9 e1
  go_wp2_with fail
  refine (row_any ⟨#[40, 91]⟩ _ (by decide)).mono ?_
  rintro e wB ⟨AB, cB, rfl, rB, hbB⟩
  go_wp2_with fail
  refine (depth_any ⟨#[40, 91]⟩ AB cB 1 _ (by decide) rB).mono ?_
  have e1 : depthF 1 (bytesOf ⟨#[40, 91]⟩) 0 [] = 1 := by decide
  rw [e1]
  rintro e wC ⟨rfl, hbC⟩
  clear rB e1
  go_wp2_with fail
  refine (indent_small 3 (by decide) _).mono ?_
  rintro e wD ⟨rfl, rfl⟩
  go_wp2_with fail
  refine (indent_big 99 (by decide) (by decide) _).mono ?_
  rintro e wD ⟨rfl, rfl⟩
  go_wp2_with fail
  go_ret
  have z1 := hb1.size
  have z2 := hb2.size
  have z3 := hb3.size
  have z4 := hb4.size
  have z5 := hb5.size
  have z6 := hb6.size
  have z7 := hb7.size
  have z8 := hb8.size
  have z9 := hb9.size
  have zA := hbA.size
  have zB := hbB.size
  exact ⟨rfl, (((((((((((hb1.trans (hb2.mono (by omega))).trans (hb3.mono (by omega))).trans (hb4.mono (by omega))).trans (hb5.mono (by omega))).trans (hb6.mono (by omega))).trans (hb7.mono (by omega))).trans (hb8.mono (by omega))).trans (hb9.mono (by omega))).trans (hbA.mono (by omega))).trans (hbB.mono (by omega))).trans (hbC.mono (by omega)))⟩

end Go.Proofs.Ytkemmnajcbpofaa
