/- The contracts of emacs.plain and limnerref21.plain. -/
import Derived.Test.YtpjlpbammgoieaaPut
namespace Go.Proofs.Ytpjlpbammgoieaa
open Go.RowKit

def Gives2 (T : TypeId) (o : Option CmdD) (ok : Bool) (w : World) (e : Ending) (w' : World) : Prop := ∃ v, e = .returned (.tuple #[v, .bool ok]) ∧ Lst w' T v o ∧ Below w.heap.size w w'
def Gives0 (T : TypeId) (o : Option CmdD) (w : World) (e : Ending) (w' : World) : Prop := ∃ v, e = .returned v ∧ Lst w' T v o ∧ Below w.heap.size w w'

theorem two_new (w : World) (o1 o2 : Obj) : ((w.alloc o1).alloc o2).heap[w.heap.size + 1]? = some o2 := by
  have := heap_alloc_new (w.alloc o1) o2
  rwa [World.size_alloc] at this

theorem kinds16 (k : Int) : k = 1 ∨ k = 15 ∨ k = 3 ∨ k = 2 ∨ k = 4 ∨ k = 14 ∨ k = 10 ∨ k = 11 ∨ k = 12 ∨ k = 13 ∨ k = 8 ∨ k = 9 ∨ k = 0 ∨ k = 5 ∨ k = 6 ∨ k = 7 ∨ k < 0 ∨ 15 < k := by omega

set_option maxHeartbeats 8000000 in
theorem plain_any (k r n : Int) (x : ByteArray) (w : World) : Calls Try.prog 21 #[.agg #[.int .i64 k, .int .i32 r, .string x], .int .i64 n] w (Gives2 34 (namedF k (putF r) x n) (namedB k) w) := by
  rcases kinds16 k with rfl | rfl | rfl | rfl | rfl | rfl | rfl | rfl | rfl | rfl | rfl | rfl | rfl | rfl | rfl | rfl | hk | hk
  · go_enter Try.func21, Try.ntmps21
    go_wp2_with fail
    refine (put_any r _).mono ?_
    rintro e w1 ⟨rfl, rfl⟩
    go_wp2_with fail
    go_ret2
    exact ⟨_, rfl, ⟨w.heap.size + 1, rfl, two_new _ _ _⟩, ((Below.refl _ _).alloc (Nat.le_refl _) _).alloc (by simp) _⟩
  · go_enter Try.func21, Try.ntmps21
    go_wp2_with fail
    go_ret2
    exact ⟨_, rfl, ⟨w.heap.size + 1, rfl, two_new _ _ _⟩, ((Below.refl _ _).alloc (Nat.le_refl _) _).alloc (by simp) _⟩
  · go_enter Try.func21, Try.ntmps21
    go_wp2_with fail
    go_ret2
    exact ⟨_, rfl, ⟨w.heap.size + 1, rfl, two_new _ _ _⟩, ((Below.refl _ _).alloc (Nat.le_refl _) _).alloc (by simp) _⟩
  · go_enter Try.func21, Try.ntmps21
    go_wp2_with fail
    refine (one_any _ _ _ _).mono ?_
    rintro e w1 ⟨v, rfl, hl, hb⟩
    go_wp2_with fail
    go_ret2
    exact ⟨_, rfl, hl, ((Below.refl _ _).alloc (Nat.le_refl _) _).trans (hb.mono (by simp))⟩
  · go_enter Try.func21, Try.ntmps21
    go_wp2_with fail
    refine (one_any _ _ _ _).mono ?_
    rintro e w1 ⟨v, rfl, hl, hb⟩
    go_wp2_with fail
    go_ret2
    exact ⟨_, rfl, hl, ((Below.refl _ _).alloc (Nat.le_refl _) _).trans (hb.mono (by simp))⟩
  · go_enter Try.func21, Try.ntmps21
    go_wp2_with fail
    refine (one_any _ _ _ _).mono ?_
    rintro e w1 ⟨v, rfl, hl, hb⟩
    go_wp2_with fail
    go_ret2
    exact ⟨_, rfl, hl, ((Below.refl _ _).alloc (Nat.le_refl _) _).trans (hb.mono (by simp))⟩
  · go_enter Try.func21, Try.ntmps21
    go_wp2_with fail
    refine (one_any _ _ _ _).mono ?_
    rintro e w1 ⟨v, rfl, hl, hb⟩
    go_wp2_with fail
    go_ret2
    exact ⟨_, rfl, hl, ((Below.refl _ _).alloc (Nat.le_refl _) _).trans (hb.mono (by simp))⟩
  · go_enter Try.func21, Try.ntmps21
    go_wp2_with fail
    refine (one_any _ _ _ _).mono ?_
    rintro e w1 ⟨v, rfl, hl, hb⟩
    go_wp2_with fail
    go_ret2
    exact ⟨_, rfl, hl, ((Below.refl _ _).alloc (Nat.le_refl _) _).trans (hb.mono (by simp))⟩
  · go_enter Try.func21, Try.ntmps21
    go_wp2_with fail
    refine (one_any _ _ _ _).mono ?_
    rintro e w1 ⟨v, rfl, hl, hb⟩
    go_wp2_with fail
    go_ret2
    exact ⟨_, rfl, hl, ((Below.refl _ _).alloc (Nat.le_refl _) _).trans (hb.mono (by simp))⟩
  · go_enter Try.func21, Try.ntmps21
    go_wp2_with fail
    refine (one_any _ _ _ _).mono ?_
    rintro e w1 ⟨v, rfl, hl, hb⟩
    go_wp2_with fail
    go_ret2
    exact ⟨_, rfl, hl, ((Below.refl _ _).alloc (Nat.le_refl _) _).trans (hb.mono (by simp))⟩
  · go_enter Try.func21, Try.ntmps21
    go_wp2_with fail
    refine (one_any _ _ _ _).mono ?_
    rintro e w1 ⟨v, rfl, hl, hb⟩
    go_wp2_with fail
    go_ret2
    exact ⟨_, rfl, hl, ((Below.refl _ _).alloc (Nat.le_refl _) _).trans (hb.mono (by simp))⟩
  · go_enter Try.func21, Try.ntmps21
    go_wp2_with fail
    refine (one_any _ _ _ _).mono ?_
    rintro e w1 ⟨v, rfl, hl, hb⟩
    go_wp2_with fail
    go_ret2
    exact ⟨_, rfl, hl, ((Below.refl _ _).alloc (Nat.le_refl _) _).trans (hb.mono (by simp))⟩
  · go_enter Try.func21, Try.ntmps21
    go_wp2_with fail
    go_ret2
    exact ⟨_, rfl, rfl, (Below.refl _ _).alloc (Nat.le_refl _) _⟩
  · go_enter Try.func21, Try.ntmps21
    go_wp2_with fail
    go_ret2
    exact ⟨_, rfl, rfl, (Below.refl _ _).alloc (Nat.le_refl _) _⟩
  · go_enter Try.func21, Try.ntmps21
    go_wp2_with fail
    go_ret2
    exact ⟨_, rfl, rfl, (Below.refl _ _).alloc (Nat.le_refl _) _⟩
  · go_enter Try.func21, Try.ntmps21
    go_wp2_with fail
    go_ret2
    exact ⟨_, rfl, rfl, (Below.refl _ _).alloc (Nat.le_refl _) _⟩
  · rw [namedF_none _ _ _ (by omega)]
    have hB : namedB k = false := by unfold namedB; simp; omega
    rw [hB]
    go_enter Try.func21, Try.ntmps21
    go_wp2_with fail
    go_ret2
    exact ⟨_, rfl, rfl, (Below.refl _ _).alloc (Nat.le_refl _) _⟩
  · rw [namedF_none _ _ _ (by omega)]
    have hB : namedB k = false := by unfold namedB; simp; omega
    rw [hB]
    go_enter Try.func21, Try.ntmps21
    go_wp2_with fail
    go_ret2
    exact ⟨_, rfl, rfl, (Below.refl _ _).alloc (Nat.le_refl _) _⟩

end Go.Proofs.Ytpjlpbammgoieaa
