/- A list of texts that came in, in plain words. -/
import Derived.Test.YtdbcmhcflndggaaPut
import Derived.SliceStrings
import Derived.OpenShut
namespace Go.Proofs.Ytdbcmhcflndggaa
open Go.ChangeShapes Go.WideShapes Go.RowKit

theorem block_lt {w : World} {a : Addr} {v : Value} (h : w.cell? a = some v) : a.block < w.heap.size := by
  rcases Nat.lt_or_ge a.block w.heap.size with hlt | hge
  · exact hlt
  · unfold World.cell? at h; rw [Array.getElem?_eq_none hge] at h; simp at h
theorem spot_of {w : World} {a : Addr} {k : Nat} {v : Value} (hk : k = 0) (h : w.cell? (a.add k) = some v) : a.spot = none := by
  subst hk
  have := World.cell?_spot h
  simpa [Addr.add] using this

theorem strs_of {H : Type} {enc : TypeId × Value → H} {w : World} {spare : Nat → Bool} {held : Bool} {a : Option Addr} {len cap fuel : Nat} {x : DataW H × List MemPlace}
    (h : DataW.trod enc Try.prog w 0 spare held fuel 22 [.slice a len cap] = some x) : ∃ l : List ByteArray, l.length = len ∧ len ≤ maxLen ∧ len ≤ cap ∧ cap ≤ maxLen ∧ Strs w w.heap.size a l := by
  rcases open_strings Try.underlying22 Try.underlying9 (by kernel_rfl) h with ⟨hcs, _⟩ | ⟨x, l, c, ss, hcs, hq, hl, hm, hz, _, hcell, hws⟩
  · simp at hcs
    obtain ⟨rfl, rfl, rfl⟩ := hcs
    exact ⟨[], rfl, by simp [maxLen], by simp, by simp [maxLen], fun h => absurd h (by simp)⟩
  · simp at hcs
    obtain ⟨rfl, rfl, rfl⟩ := hcs
    have hzl : len ≤ ss.length := by rw [hz]; split <;> omega
    refine ⟨ss.take len, by rw [List.length_take]; omega, by omega, hl, hm, fun hpos => ?_⟩
    have hpos' : 0 < ss.length := by simp at hpos; omega
    obtain ⟨b, off, spot⟩ := x
    have hsp : spot = none := spot_of (a := ⟨b, off, spot⟩) rfl (hcell 0 hpos')
    subst hsp
    refine ⟨b, off, rfl, ?_, fun i t hit => ?_⟩
    · have := block_lt (hcell 0 hpos')
      rw [add_at] at this; exact this
    · rw [List.getElem?_take] at hit
      split at hit
      · have hil := (List.getElem?_eq_some_iff.1 hit).1
        have hh := hcell i hil
        rw [add_at] at hh
        rw [hh, List.getD_eq_getElem?_getD, hit]
        rfl
      · cases hit
end Go.Proofs.Ytdbcmhcflndggaa
