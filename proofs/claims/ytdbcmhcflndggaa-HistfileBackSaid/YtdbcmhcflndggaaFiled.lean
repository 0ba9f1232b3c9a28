/- limnerlaw35.filed returns true; and a list of texts that came in. -/
import Derived.Test.YtdbcmhcflndggaaRMerge
namespace Go.Proofs.Ytdbcmhcflndggaa
open Go.RowKit

def tx : ByteArray := ⟨#[120]⟩
def ty : ByteArray := ⟨#[121]⟩
def tz : ByteArray := ⟨#[122]⟩
def tab : ByteArray := ⟨#[97, 92, 98]⟩
def tcd : ByteArray := ⟨#[99, 10, 100]⟩
theorem f_once : onceF [tx, ty, tx] = [ty, tx] := by decide +kernel
theorem f_merge : mergeF [tx] [tx, ty] [tx, tz] = [tx, ty, tz] := by decide +kernel
theorem f_put : txt (putF (listsOf [tab, tcd])) = ⟨#[97, 92, 92, 98, 10, 99, 92, 110, 100, 10]⟩ := by decide +kernel

theorem strs_new (w : World) (l : List ByteArray) (B : Nat) (hB : w.heap.size < B) : Strs (w.alloc (.cells (l.map Value.string).toArray 9)) B (some ⟨w.heap.size, 0, none⟩) l := fun _ => by
  refine ⟨_, _, rfl, hB, fun i x hx => ?_⟩
  rw [cell_of_row _ _ (0 + i) _ 9 (0, 0) (heap_alloc_new w _)]
  simp [hx]

set_option maxHeartbeats 4000000 in
set_option maxRecDepth 100000 in
theorem filed_true (w : World) : Calls Try.prog 8 #[] w fun e w' => e = .returned (.bool true) ∧ Below w.heap.size w w' := by
  go_enter Try.func8, Try.ntmps8
  go_wp2_with fail
  refine (once_any _ [tx, ty, tx] _ _ (by simp) (by decide +kernel) (strs_new w [tx, ty, tx] _ (by simp))).mono ?_
  rintro e w1 ⟨v1, rfl, hrow1, hb1⟩
  rw [f_once] at hrow1
  obtain ⟨A1, d1, rfl, hd1, hA1⟩ := strsV_own hrow1
  have hbb1 : Below w.heap.size w w1 := ((Below.refl _ w).alloc (Nat.le_refl _) _).trans (hb1.mono (by simp))
  clear hrow1 hb1
  go_wp2_with fail
  obtain ⟨W1, hW1⟩ : ∃ W1, W1 = w1.alloc (.cells #[.string tx] 9) := ⟨_, rfl⟩
  obtain ⟨W2, hW2⟩ : ∃ W2, W2 = W1.alloc (.cells #[.string tx, .string ty] 9) := ⟨_, rfl⟩
  obtain ⟨W3, hW3⟩ : ∃ W3, W3 = W2.alloc (.cells #[.string tx, .string tz] 9) := ⟨_, rfl⟩
  have z1 : W1.heap.size = w1.heap.size + 1 := by rw [hW1]; simp
  have z2 : W2.heap.size = w1.heap.size + 1 + 1 := by rw [hW2, World.size_alloc, z1]
  have b1 : Below w1.heap.size w1 W1 := by rw [hW1]; exact (Below.refl _ _).alloc (Nat.le_refl _) _
  have b2 : Below W1.heap.size W1 W2 := by rw [hW2]; exact (Below.refl _ _).alloc (Nat.le_refl _) _
  have b3 : Below W2.heap.size W2 W3 := by rw [hW3]; exact (Below.refl _ _).alloc (Nat.le_refl _) _
  have s1 : Strs W1 W1.heap.size (some ⟨w1.heap.size, 0, none⟩) [tx] := by rw [hW1]; exact strs_new w1 [tx] _ (by simp)
  have s2 : Strs W2 W2.heap.size (some ⟨w1.heap.size + 1, 0, none⟩) [tx, ty] := by rw [hW2, ← z1]; exact strs_new W1 [tx, ty] _ (by simp)
  have s3 : Strs W3 W3.heap.size (some ⟨w1.heap.size + 1 + 1, 0, none⟩) [tx, tz] := by rw [hW3, ← z2]; exact strs_new W2 [tx, tz] _ (by simp)
  have s1' := (s1.next b2).next b3
  have s2' := s2.next b3
  have hw3 : ((w1.alloc (.cells #[.string ⟨#[120]⟩] 9)).alloc (.cells #[.string ⟨#[120]⟩, .string ⟨#[121]⟩] 9)).alloc (.cells #[.string ⟨#[120]⟩, .string ⟨#[122]⟩] 9) = W3 := by rw [hW3, hW2, hW1]; rfl
  rw [hw3]
  have hbb3 : Below w.heap.size w W3 := ((hbb1.trans (b1.mono hbb1.size)).trans (b2.mono (by have := hbb1.size; omega))).trans (b3.mono (by have := hbb1.size; omega))
  have hA13 : Strs W3 W3.heap.size A1 [ty, tx] := ((hA1.next b1).next b2).next b3
  clear hw3 hW1 hW2 hW3 z1 z2 b1 b2 b3 s1 s2 hA1 hbb1
  refine (merge_any _ [tx] _ _ [tx, ty] _ _ [tx, tz] _ W3 (by simp) (by simp) (by simp) (by simp) (by simp) (by simp) (by decide) (by decide) (by decide +kernel) (by decide +kernel) (by decide +kernel) s1' s2' s3).mono ?_
  rintro e w4 ⟨v4, rfl, hv4, hb4⟩
  rw [f_merge] at hv4
  obtain ⟨A4, d4, rfl, hd4, hA4⟩ := hv4
  have hbb4 := hbb3.trans (hb4.mono hbb3.size)
  have hA14 := hA13.next hb4
  clear s1' s2' s3 hA13 hbb3 hb4
  go_wp2_with fail
  obtain ⟨W5, hW5⟩ : ∃ W5, W5 = w4.alloc (.cells #[.string tab, .string tcd] 9) := ⟨_, rfl⟩
  have b5 : Below w4.heap.size w4 W5 := by rw [hW5]; exact (Below.refl _ _).alloc (Nat.le_refl _) _
  have s5 : Strs W5 W5.heap.size (some ⟨w4.heap.size, 0, none⟩) [tab, tcd] := by rw [hW5]; exact strs_new w4 [tab, tcd] _ (by simp)
  have hw5 : w4.alloc (.cells #[.string ⟨#[97, 92, 98]⟩, .string ⟨#[99, 10, 100]⟩] 9) = W5 := by rw [hW5]; rfl
  rw [hw5]
  have hA15 := hA14.next b5
  have hA45 := hA4.next b5
  have hbb5 := hbb4.trans (b5.mono hbb4.size)
  clear hw5 hW5 b5 hA14 hA4 hbb4
  refine (put_any _ [tab, tcd] _ W5 (by simp) (by decide +kernel) s5).mono ?_
  rintro e w6 ⟨rfl, hb6⟩
  rw [f_put]
  have hA16 := hA15.next hb6
  have hA46 := hA45.next hb6
  have hbb6 := hbb5.trans (hb6.mono hbb5.size)
  clear hA15 hA45 hbb5 hb6 s5
  go_wp2_with fail
  have s7 : Strs (w6.alloc (.cells #[.string ty, .string tx] 9)) (w6.alloc (.cells #[.string ty, .string tx] 9)).heap.size (some ⟨w6.heap.size, 0, none⟩) [ty, tx] := strs_new w6 [ty, tx] _ (by simp)
  have b7 : Below w6.heap.size w6 (w6.alloc (.cells #[.string ty, .string tx] 9)) := (Below.refl _ _).alloc (Nat.le_refl _) _
  refine (texts_any A1 [ty, tx] d1 _ [ty, tx] _ (w6.alloc (.cells #[.string ty, .string tx] 9)) (by simp) (by simp) (hA16.next b7) s7).mono ?_
  rintro e w8 ⟨rfl, hb8⟩
  have hA48 := (hA46.next b7).next hb8
  have hbb8 := (hbb6.trans (b7.mono hbb6.size)).trans (hb8.mono (by have := hbb6.size; simp; omega))
  clear s7 b7 hA16 hA46 hbb6 hb8
  rw [decide_eq_true rfl]
  go_wp2_with fail
  have s9 : Strs (w8.alloc (.cells #[.string tx, .string ty, .string tz] 9)) (w8.alloc (.cells #[.string tx, .string ty, .string tz] 9)).heap.size (some ⟨w8.heap.size, 0, none⟩) [tx, ty, tz] := strs_new w8 [tx, ty, tz] _ (by simp)
  have b9 : Below w8.heap.size w8 (w8.alloc (.cells #[.string tx, .string ty, .string tz] 9)) := (Below.refl _ _).alloc (Nat.le_refl _) _
  refine (texts_any A4 [tx, ty, tz] d4 _ [tx, ty, tz] _ (w8.alloc (.cells #[.string tx, .string ty, .string tz] 9)) (by simp) (by simp) (hA48.next b9) s9).mono ?_
  rintro e w10 ⟨rfl, hb10⟩
  have hbb10 := (hbb8.trans (b9.mono hbb8.size)).trans (hb10.mono (by have := hbb8.size; simp; omega))
  clear s9 b9 hA48 hbb8 hb10
  rw [decide_eq_true rfl]
  go_wp2_with fail
  go_ret
  exact ⟨rfl, hbb10⟩
end Go.Proofs.Ytdbcmhcflndggaa
