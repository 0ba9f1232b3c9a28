/- The chapter's text of styles: limnerlaw17.painted returns true. -/
import Derived.Test.YtidkaekibemagaaRef
import Derived.Deep.QuietTactic
import Derived.BigQuiet
namespace Go.Proofs.Ytidkaekibemagaa
open Go.RowKit

theorem row_sty {w : World} {g N : Nat} {T : Int → Int} {V : Int → Bool} (h : w.rowIs g 28 N (paint T V)) (i : Nat) (hi : i * 4 + 3 < N) :
    w.cell? ⟨g, i * 4, none⟩ = some (.int .i64 (fgOf (T i))) ∧ w.cell? ⟨g, i * 4 + 1, none⟩ = some (.bool (boldOf (T i))) ∧ w.cell? ⟨g, i * 4 + 2, none⟩ = some (.bool (underOf (T i))) ∧ w.cell? ⟨g, i * 4 + 3, none⟩ = some (.bool (V i)) := by
  refine ⟨?_, ?_, ?_, ?_⟩
  · rw [h.cell (by omega)]; unfold paint; rw [if_pos (by omega), show i * 4 / 4 = i by omega]
  · rw [h.cell (by omega)]; unfold paint; rw [if_neg (by omega), if_pos (by omega), show (i * 4 + 1) / 4 = i by omega]
  · rw [h.cell (by omega)]; unfold paint; rw [if_neg (by omega), if_neg (by omega), if_pos (by omega), show (i * 4 + 2) / 4 = i by omega]
  · rw [h.cell (by omega)]; unfold paint; rw [if_neg (by omega), if_neg (by omega), if_neg (by omega), show (i * 4 + 3) / 4 = i by omega]

set_option maxHeartbeats 400000 in
theorem painted_true (w : World) : Calls Try.prog 5 #[] w fun e w' => e = .returned (.bool true) ∧ Below w.heap.size w w' := by
  go_enter Try.func5, Try.ntmps5
  go_wp2_with fail
  refine (all_any ⟨#[49, 43]⟩ _ none [⟨5, 0, 1⟩] 1 [] 0 _ (by decide) (by decide) (by decide) ?_ ?_).mono ?_
  · intro _
    refine ⟨w.heap.size, 0, rfl, by simp, fun i t h => ?_⟩
    have : i = 0 := by
      rcases i with _ | i
      · rfl
      · simp at h
    subst this
    simp at h
    subst h
    simp
  · intro h; simp at h
  rintro e w1 ⟨g, rfl, hb1, hrow1⟩
  have hz := hb1.size
  simp at hz
  go_wp2_with fail
  have ht1 : ∀ j : Nat, j < 3 → w1.cell? ⟨w.heap.size, j, none⟩ = (#[Value.int .i64 5, .int .i64 0, .int .i64 1])[j]? := by
    intro j _
    rw [hb1.cell (p := ⟨w.heap.size, j, none⟩) (by simp)]
    exact cell_of_row _ _ j _ 34 (0, 0) (heap_alloc_new w _)
  have t0 := ht1 0 (by omega)
  have t1 := ht1 1 (by omega)
  have t2 := ht1 2 (by omega)
  clear ht1
  refine (all_any ⟨#[49, 43]⟩ _ (some ⟨w1.heap.size, 0, none⟩) [⟨5, 0, 1⟩] 1 [1] 1 _ (by decide) (by decide) (by decide) ?_ ?_).mono ?_
  · intro _
    refine ⟨w.heap.size, 0, rfl, by simp; omega, fun i t h => ?_⟩
    have : i = 0 := by
      rcases i with _ | i
      · rfl
      · simp at h
    subst this
    simp at h
    subst h
    refine ⟨?_, ?_, ?_⟩
    · exact (World.cell?_alloc_lt _ _ _ (by simp; omega)).trans t0
    · exact (World.cell?_alloc_lt _ _ _ (by simp; omega)).trans t1
    · exact (World.cell?_alloc_lt _ _ _ (by simp; omega)).trans t2
  · intro _
    refine ⟨w1.heap.size, 0, rfl, by simp, fun i x h => ?_⟩
    have : i = 0 := by
      rcases i with _ | i
      · rfl
      · simp at h
    subst this
    simp at h
    subst h
    exact cell_of_row _ _ 0 _ 3 (0, 0) (heap_alloc_new w1 _)
  rintro e w2 ⟨g2, rfl, hb2, hrow2⟩
  have hz2 := hb2.size
  simp at hz2
  have hrow := (hrow1.alloc (.cells #[.int .i64 1] 3)).of_block (hb2.block g (by have := hrow1.lt; simp; omega))
  obtain ⟨a0, a1, a2, a3⟩ := row_sty hrow 0 (by decide)
  obtain ⟨b0, b1, b2, b3⟩ := row_sty hrow 1 (by decide)
  obtain ⟨c0, c1, c2, c3⟩ := row_sty hrow2 0 (by decide)
  obtain ⟨d0, d1, d2, d3⟩ := row_sty hrow2 1 (by decide)
  have T0 : tone [⟨5, 0, 1⟩] 0 = 5 := by decide
  have T1 : tone [⟨5, 0, 1⟩] 1 = 1 := by decide
  have F0 : fgOf 5 = 3 ∧ boldOf 5 = false ∧ underOf 5 = false := by decide
  have F1 : fgOf 1 = 0 ∧ boldOf 1 = false ∧ underOf 1 = false := by decide
  have M0 : decide ((0 : Int) ∈ ([] : List Int)) = false := by decide
  have M1 : decide ((1 : Int) ∈ ([] : List Int)) = false := by decide
  have M2 : decide ((0 : Int) ∈ ([1] : List Int)) = false := by decide
  have M3 : decide ((1 : Int) ∈ ([1] : List Int)) = true := by decide
  simp only [Int.cast_ofNat_Int, M0, M1, M2, M3, T0, T1, F0.1, F0.2.1, F0.2.2, F1.1, F1.2.1, F1.2.2, Nat.zero_mul, Nat.one_mul, Nat.zero_add, Nat.reduceAdd] at a0 a1 a2 a3 b0 b1 b2 b3 c0 c1 c2 c3 d0 d1 d2 d3
  clear M0 M1 M2 M3 T0 T1 F0 F1 hrow hrow2 hrow1 t0 t1 t2
  go_wp2_with fail
  go_quiet (fail)
  go_wp2_with fail
  go_ret
  refine ⟨rfl, below_drewN (((((Below.refl _ _).alloc (Nat.le_refl _) _).trans (hb1.mono (by simp))).alloc (by omega) _).trans (hb2.mono (by simp; omega))) _⟩

end Go.Proofs.Ytidkaekibemagaa
