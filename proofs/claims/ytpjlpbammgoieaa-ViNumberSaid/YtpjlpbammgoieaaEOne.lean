/- The contracts of emacs.one, limnerref21.One, emacs.ctrl and emacs.alt. -/
import Derived.Test.YtpjlpbammgoieaaRows
import Derived.Test.YtpjlpbammgoieaaPlain
import Derived.WalkKit
import Derived.WalkSpells
import Derived.WalkLawsBesides
import Derived.Deep.OwnRows
import Derived.Deep.LoopGhost
import Derived.Lib.Hide
import Derived.Deep.QuietTactic
import Derived.BigQuiet
namespace Go.Proofs.Ytpjlpbammgoieaa
open Go.RowKit

def cmdCells (c : CmdD) : Array Value := #[.int .i64 c.kind, .int .i64 c.way, .int .i64 c.n, .string c.text, .bool c.incl]

/-- A slice of at most one command, its elements of type T. -/
def Lst (w : World) (T : TypeId) (v : Value) : Option CmdD → Prop
  | none => v = .slice none 0 0
  | some c => ∃ g, v = .slice (some ⟨g, 0, none⟩) 1 1 ∧ w.heap[g]? = some (.cells (cmdCells c) T (0, 0))

theorem Lst.next {w w' : World} {T : TypeId} {v : Value} {o : Option CmdD} (h : Lst w T v o) (hb : Below w.heap.size w w') : Lst w' T v o := by
  cases o with
  | none => exact h
  | some c =>
    obtain ⟨g, e, hg⟩ := h
    exact ⟨g, e, (hb.block g (Array.getElem?_eq_some_iff.1 hg).1).trans hg⟩

/-- What a call answers that makes one command. -/
def Gives (T : TypeId) (c : CmdD) (w : World) (e : Ending) (w' : World) : Prop := ∃ v, e = .returned v ∧ Lst w' T v (some c) ∧ Below w.heap.size w w'

theorem gives_new (T : TypeId) (k y n : Int) (w : World) : Gives T (cmd k y n) w (.returned (.slice (some ⟨w.heap.size, 0, none⟩) 1 1)) (w.alloc (.cells #[.int .i64 k, .int .i64 y, .int .i64 n, .string ⟨#[]⟩, .bool false] T)) :=
  ⟨_, rfl, ⟨w.heap.size, rfl, heap_alloc_new w _⟩, (Below.refl _ _).alloc (Nat.le_refl _) _⟩

set_option maxHeartbeats 400000 in
theorem one_any (k y n : Int) (w : World) : Calls Try.prog 25 #[.int .i64 k, .int .i64 y, .int .i64 n] w (Gives 34 (cmd k y n) w) := by
  go_enter Try.func25, Try.ntmps25
  go_wp2
  go_ret
  exact gives_new 34 k y n w

set_option maxHeartbeats 4000000 in
theorem ctrl_any (r n : Int) (w : World) : Calls Try.prog 22 #[.int .i32 r, .int .i64 n] w (Gives 34 (findF ctrlRows r n) w) := by
  by_cases h : r = 97 ∨ r = 101 ∨ r = 98 ∨ r = 102 ∨ r = 112 ∨ r = 110 ∨ r = 100 ∨ r = 107 ∨ r = 117 ∨ r = 119 ∨ r = 121 ∨ r = 116 ∨ r = 122 ∨ r = 114 ∨ r = 103
  · rcases h with rfl | rfl | rfl | rfl | rfl | rfl | rfl | rfl | rfl | rfl | rfl | rfl | rfl | rfl | rfl
    all_goals
      go_enter Try.func22, Try.ntmps22
      go_wp2_with fail
      refine (one_any _ _ _ _).mono ?_
      rintro e w1 ⟨v, rfl, hl, hb⟩
      go_wp2_with fail
      go_ret
      exact ⟨v, rfl, hl, hb⟩
  · have hf : findF ctrlRows r n = cmd 1 0 1 := findF_none (by
      intro x hx
      simp only [ctrlRows, List.mem_cons, List.not_mem_nil, or_false] at hx
      rcases hx with rfl | rfl | rfl | rfl | rfl | rfl | rfl | rfl | rfl | rfl | rfl | rfl | rfl | rfl | rfl <;> (simp only; omega))
    rw [hf]
    have e97 : (r == 97) = false := by rw [beq_eq_false_iff_ne]; omega
    have e101 : (r == 101) = false := by rw [beq_eq_false_iff_ne]; omega
    have e98 : (r == 98) = false := by rw [beq_eq_false_iff_ne]; omega
    have e102 : (r == 102) = false := by rw [beq_eq_false_iff_ne]; omega
    have e112 : (r == 112) = false := by rw [beq_eq_false_iff_ne]; omega
    have e110 : (r == 110) = false := by rw [beq_eq_false_iff_ne]; omega
    have e100 : (r == 100) = false := by rw [beq_eq_false_iff_ne]; omega
    have e107 : (r == 107) = false := by rw [beq_eq_false_iff_ne]; omega
    have e117 : (r == 117) = false := by rw [beq_eq_false_iff_ne]; omega
    have e119 : (r == 119) = false := by rw [beq_eq_false_iff_ne]; omega
    have e121 : (r == 121) = false := by rw [beq_eq_false_iff_ne]; omega
    have e116 : (r == 116) = false := by rw [beq_eq_false_iff_ne]; omega
    have e122 : (r == 122) = false := by rw [beq_eq_false_iff_ne]; omega
    have e114 : (r == 114) = false := by rw [beq_eq_false_iff_ne]; omega
    have e103 : (r == 103) = false := by rw [beq_eq_false_iff_ne]; omega
    clear h hf
    go_enter Try.func22, Try.ntmps22
    go_wp2_with fail
    refine (one_any _ _ _ _).mono ?_
    rintro e w1 ⟨v, rfl, hl, hb⟩
    go_wp2_with fail
    go_ret
    exact ⟨v, rfl, hl, hb⟩

set_option maxHeartbeats 4000000 in
theorem alt_any (r n : Int) (w : World) : Calls Try.prog 23 #[.int .i32 r, .int .i64 n] w (Gives 34 (findF altRows r n) w) := by
  by_cases h : r = 102 ∨ r = 98 ∨ r = 100 ∨ r = 108 ∨ r = 117 ∨ r = 99 ∨ r = 121 ∨ r = 122 ∨ r = 112 ∨ r = 110 ∨ r = 60 ∨ r = 62 ∨ r = 118
  · rcases h with rfl | rfl | rfl | rfl | rfl | rfl | rfl | rfl | rfl | rfl | rfl | rfl | rfl
    all_goals
      go_enter Try.func23, Try.ntmps23
      go_wp2_with fail
      refine (one_any _ _ _ _).mono ?_
      rintro e w1 ⟨v, rfl, hl, hb⟩
      go_wp2_with fail
      go_ret
      exact ⟨v, rfl, hl, hb⟩
  · have hf : findF altRows r n = cmd 1 0 1 := findF_none (by
      intro x hx
      simp only [altRows, List.mem_cons, List.not_mem_nil, or_false] at hx
      rcases hx with rfl | rfl | rfl | rfl | rfl | rfl | rfl | rfl | rfl | rfl | rfl | rfl | rfl <;> (simp only; omega))
    rw [hf]
    have e102 : (r == 102) = false := by rw [beq_eq_false_iff_ne]; omega
    have e98 : (r == 98) = false := by rw [beq_eq_false_iff_ne]; omega
    have e100 : (r == 100) = false := by rw [beq_eq_false_iff_ne]; omega
    have e108 : (r == 108) = false := by rw [beq_eq_false_iff_ne]; omega
    have e117 : (r == 117) = false := by rw [beq_eq_false_iff_ne]; omega
    have e99 : (r == 99) = false := by rw [beq_eq_false_iff_ne]; omega
    have e121 : (r == 121) = false := by rw [beq_eq_false_iff_ne]; omega
    have e122 : (r == 122) = false := by rw [beq_eq_false_iff_ne]; omega
    have e112 : (r == 112) = false := by rw [beq_eq_false_iff_ne]; omega
    have e110 : (r == 110) = false := by rw [beq_eq_false_iff_ne]; omega
    have e60 : (r == 60) = false := by rw [beq_eq_false_iff_ne]; omega
    have e62 : (r == 62) = false := by rw [beq_eq_false_iff_ne]; omega
    have e118 : (r == 118) = false := by rw [beq_eq_false_iff_ne]; omega
    clear h hf
    go_enter Try.func23, Try.ntmps23
    go_wp2_with fail
    refine (one_any _ _ _ _).mono ?_
    rintro e w1 ⟨v, rfl, hl, hb⟩
    go_wp2_with fail
    go_ret
    exact ⟨v, rfl, hl, hb⟩

end Go.Proofs.Ytpjlpbammgoieaa
