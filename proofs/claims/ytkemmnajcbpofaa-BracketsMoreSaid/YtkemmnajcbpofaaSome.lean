/- The contract of limnerlaw16.some: a text as long as the list of numbers. -/
import Derived.Test.YtkemmnajcbpofaaRow
namespace Go.Proofs.Ytkemmnajcbpofaa
open Go.RowKit

/-- A slice that reads as numbers of eight bits. -/
def U8s (w : World) (A : Option Addr) (l : List Int) : Prop :=
  0 < l.length → ∃ b off, A = some ⟨b, off, none⟩ ∧ b < w.heap.size ∧ ∀ (i : Nat) (x : Int), l[i]? = some x → w.cell? ⟨b, off + i, none⟩ = some (.int .u8 x) ∧ 0 ≤ x ∧ x ≤ 255

set_option maxHeartbeats 400000 in
theorem some_any (A : Option Addr) (l : List Int) (c : Nat) (w : World) (hl : l.length ≤ 100) (hA : U8s w A l) :
    Calls Try.prog 6 #[.slice A l.length c] w fun e w' => ∃ r : ByteArray, e = .returned (.string r) ∧ r.size = l.length ∧ Below w.heap.size w w' := by
  go_enter Try.func6, Try.ntmps6
  go_wp2_with fail
  go_loopg [4, 3] l.length (fun k i v wr => ∃ (m : Nat) (r : ByteArray), m ≤ l.length ∧ k = l.length - m ∧ i = .int .i64 m ∧ v = .string r ∧ r.size = m ∧ Below w.heap.size w wr)
  case atStart => exact ⟨0, ByteArray.empty, by omega, by omega, rfl, rfl, rfl, Below.refl _ _⟩
  case round =>
    obtain ⟨m, r, hm, hk, rfl, rfl, hr, hb⟩ := hrel
    have Hk := Lib.hid hk
    have Hr := Lib.hid hr
    have hr2 : r.size ≤ 100 := by omega
    clear hk hr
    by_cases hlt : m < l.length
    · obtain ⟨b, off, rfl, hbs, hcells⟩ := hA (by omega)
      obtain ⟨x, hx⟩ : ∃ x, l[m]? = some x := ⟨l[m], List.getElem?_eq_getElem hlt⟩
      obtain ⟨c0, x0, x1⟩ := hcells m x hx
      have d0 := (hb.cell (p := ⟨b, off + m, none⟩) hbs).trans c0
      obtain ⟨q, hq, hq8⟩ : ∃ q : Nat, x.tmod 8 = (q : Int) ∧ q < 8 := ⟨(x % 8).toNat, by rw [Int.tmod_eq_emod_of_nonneg x0]; omega, by omega⟩
      have z1 : IntKind.u8.wrap ((q : Int) + 1) = (q : Int) + 1 := by rw [IntKind.wrap_u8]; omega
      have z2 : (0 : Int) ≤ (q : Int) := by omega
      have z3 : (q : Int) ≤ (q : Int) + 1 := by omega
      have z4 : (q : Int) + 1 ≤ 8 := by omega
      have z5 : (0 : Int) ≤ (m : Int) := by omega
      have z6 : (m : Int) < (l.length : Int) := by omega
      clear hcells c0 hx x0 x1
      go_wp2_with fail
      go_quiet (fail)
      go_wp2_with fail
      go_roundg (l.length - (m + 1))
      case measure => have := Hk.out; omega
      case rel =>
        refine ⟨m + 1, _, by omega, rfl, by go_num, rfl, ?_, below_drewN hb _⟩
        have h8 : (ByteArray.mk #[40, 41, 91, 93, 123, 125, 120, 121]).size = 8 := rfl
        rw [ByteArray.size_append, ByteArray.size_extract, h8, Hr.out]
        omega
    · obtain hge : l.length ≤ m := by omega
      go_wp2_with fail
      go_ret
      exact ⟨r, rfl, by rw [Hr.out]; omega, hb⟩

/-- The row of a text, as a slice that reads as it. -/
theorem row_any (s : ByteArray) (w : World) (hs : s.size ≤ 1000) :
    Calls Try.prog 7 #[.string s] w fun e w' => ∃ A c, e = .returned (.slice A s.size c) ∧ RowOf w' A s ∧ Below w.heap.size w w' := by
  refine (row_own s w hs).mono fun e w' ⟨v, he, hown, hb⟩ => ?_
  subst he
  rcases hown.2 with ⟨rfl, h0⟩ | ⟨g, cap, cur, rfl, _, hg, _⟩
  · exact ⟨none, 0, by rw [h0], fun h => absurd h (by omega), hb⟩
  · refine ⟨_, _, rfl, fun _ => ⟨g, rfl, (Array.getElem?_eq_some_iff.1 hg).1, fun i hi => ?_⟩, hb⟩
    obtain ⟨h1, h2, h3⟩ := rowCells_get (bytesOf s) s.size i hi
    have hget : (bytesOf s).getD i 0 = (s[i]).toNat := by rw [List.getD_eq_getElem?_getD, bytesOf_get s i hi]; rfl
    rw [hget] at h1
    exact ⟨(hown.cellAt _ (by omega)).trans h1, (hown.cellAt _ (by omega)).trans h2, (hown.cellAt _ (by omega)).trans h3⟩

end Go.Proofs.Ytkemmnajcbpofaa
