/- The contracts of codes.Put and limnerref01.Put: a rune's bytes. -/
import Derived.Test.YtpjlpbammgoieaaEOne
namespace Go.Proofs.Ytpjlpbammgoieaa
open Go.RowKit

/-- Is a number a rune? -/
def isRune (r : Int) : Bool := decide (0 ≤ r ∧ r < 55296) || decide (57343 < r ∧ r ≤ 1114111)
/-- A rune's bytes; of what is none: none. -/
def putF (r : Int) : ByteArray := if isRune r then Utf8.encode r else ⟨#[]⟩

set_option maxHeartbeats 4000000 in
theorem put_any (r : Int) (w : World) : Calls Try.prog 18 #[.int .i32 r] w fun e w' => e = .returned (.string (putF r)) ∧ w = w' := by
  have h5 : (0 ≤ r ∧ r < 55296) ∨ (57343 < r ∧ r ≤ 1114111) ∨ r < 0 ∨ (55296 ≤ r ∧ r ≤ 57343) ∨ 1114111 < r := by omega
  rcases h5 with ⟨h0, h1⟩ | ⟨h0, h1⟩ | h0 | ⟨h0, h1⟩ | h0
  all_goals
    have hp : putF r = putF r := rfl
    conv at hp => rhs; unfold putF isRune
    simp only [decide_eq_true_eq, Bool.or_eq_true] at hp
    first
      | rw [if_pos (by omega)] at hp
      | rw [if_neg (by omega)] at hp
    have Hp := Lib.hid hp
    clear hp
    go_enter Try.func18, Try.ntmps18
    go_wp2
    go_ret
    rw [Hp.out]
    exact ⟨rfl, rfl⟩

end Go.Proofs.Ytpjlpbammgoieaa
