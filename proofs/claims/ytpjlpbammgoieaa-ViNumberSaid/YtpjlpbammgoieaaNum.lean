/- ViNumber: the law returns true. -/
import Derived.Test.YtpjlpbammgoieaaOpens
namespace Go.Proofs.Ytpjlpbammgoieaa
open Go.ChangeShapes Go.WideShapes Go.RowKit

/-- A slice that reads as numbers of eight bits. -/
def U8s (w : World) (A : Option Addr) (l : List Int) : Prop :=
  0 < l.length → ∃ b off, A = some ⟨b, off, none⟩ ∧ b < w.heap.size ∧ ∀ (i : Nat) (x : Int), l[i]? = some x → w.cell? ⟨b, off + i, none⟩ = some (.int .u8 x) ∧ 0 ≤ x ∧ x ≤ 255

set_option maxRecDepth 100000 in
set_option maxHeartbeats 400000 in
theorem num_out (A : Option Addr) (n c : Nat) (q : Int) (w : World) (hn : n = 0 ∨ 6 < n) (hm : n ≤ maxLen) :
    Calls Try.prog 4 #[.slice A n c, .int .u8 q] w fun e w' => e = .returned (.bool true) ∧ Below w.heap.size w w' := by
  unfold maxLen at hm
  rcases hn with rfl | hn
  · go_enter Try.func4, Try.ntmps4
    go_wp2_with fail
    refine (typed_true _).mono ?_
    rintro e w1 ⟨rfl, hb1⟩
    go_wp2_with fail
    go_ret
    exact ⟨rfl, hb1⟩
  · go_enter Try.func4, Try.ntmps4
    go_wp2_with fail
    refine (typed_true _).mono ?_
    rintro e w1 ⟨rfl, hb1⟩
    go_wp2_with fail
    go_ret
    exact ⟨rfl, hb1⟩

set_option maxRecDepth 100000 in
set_option maxHeartbeats 400000 in
theorem num_zero (A : Option Addr) (l : List Int) (c : Nat) (q : Int) (w : World) (h0 : 0 < l.length) (hl : l.length ≤ 6) (hA : U8s w A l) (hz : ∀ x, l[0]? = some x → x % 10 = 0) :
    Calls Try.prog 4 #[.slice A l.length c, .int .u8 q] w fun e w' => e = .returned (.bool true) ∧ Below w.heap.size w w' := by
  obtain ⟨b, off, rfl, hbs, hcells⟩ := hA h0
  obtain ⟨x, hx⟩ : ∃ x, l[0]? = some x := ⟨l[0], List.getElem?_eq_getElem h0⟩
  obtain ⟨c0, x0, x1⟩ := hcells 0 x hx
  have hz0 := hz x hx
  have hmod : (x % 10 == 0) = true := by rw [beq_iff_eq]; exact hz0
  have h6 : decide (6 < (l.length : Int)) = false := by rw [decide_eq_false_iff_not]; omega
  have hne : ((l.length : Int) == 0) = false := by rw [beq_eq_false_iff_ne]; omega
  rw [Nat.add_zero] at c0
  have Hm := Lib.hid hz0
  clear hcells hx hz hz0 hA
  go_enter Try.func4, Try.ntmps4
  go_wp2_with fail
  refine (typed_true _).mono ?_
  rintro e w1 ⟨rfl, hb1⟩
  go_wp2_with fail
  go_ret
  exact ⟨rfl, hb1⟩

end Go.Proofs.Ytpjlpbammgoieaa
