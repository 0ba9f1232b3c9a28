/- A state and a key that came in, in plain words. -/
import Derived.Test.YtpjlpbammgoieaaRest
import Derived.Lib.SmallJoins
import Derived.OpenShut
namespace Go.Proofs.Ytpjlpbammgoieaa
open Go.Joins Go.ChangeShapes Go.WideShapes Go.RowKit

section
variable {H : Type} {enc : TypeId × Value → H} {w : World} {base b0 : Nat} {spare : Nat → Bool} {held : Bool} {r : Reach} {v : Value} {d : DataW H} {p : List MemPlace}
theorem state_of (hv : Value.okWide Try.prog w r b0 23 v) (h : DataW.Trod enc Try.prog w base spare held 23 v d p) : ∃ (a b : Int), v = .agg #[.int .i64 a, .int .i32 b] := by
  obtain ⟨c0, c1, y0, y1, n, rfl, _, _, h0, h1⟩ := open_agg2 Try.underlying23 (by kernel_rfl) (by kernel_rfl) hv h
  obtain ⟨a, e0, _, _⟩ := DataW.trod_int Try.underlying3 h0
  obtain ⟨b, e1, _, _⟩ := DataW.trod_int Try.underlying21 h1
  simp at e0 e1
  subst e0 e1
  exact ⟨a, b, rfl⟩
theorem key_of (hv : Value.okWide Try.prog w r b0 25 v) (h : DataW.Trod enc Try.prog w base spare held 25 v d p) :
    ∃ (k q : Int) (x : ByteArray), v = .agg #[.int .i64 k, .int .i32 q, .string x] ∧ (-2147483648 ≤ q ∧ q ≤ 2147483647) ∧ x.size ≤ maxLen := by
  obtain ⟨c0, c1, c2, y0, y1, y2, n, rfl, _, _, h0, h1, h2⟩ := open_agg3 Try.underlying25 (by kernel_rfl) (by kernel_rfl) hv h
  obtain ⟨k, e0, _, _⟩ := DataW.trod_int Try.underlying3 h0
  obtain ⟨q, e1, _, hq⟩ := DataW.trod_int Try.underlying21 h1
  obtain ⟨x, e2, _, hx⟩ := DataW.trod_string Try.underlying9 h2
  simp at e0 e1 e2
  subst e0 e1 e2
  exact ⟨k, q, x, rfl, bounds_i32 hq, by first | exact hx | simpa using hx⟩
end

end Go.Proofs.Ytpjlpbammgoieaa
