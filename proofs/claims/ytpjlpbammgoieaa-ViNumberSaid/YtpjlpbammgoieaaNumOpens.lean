/- A slice of numbers of eight bits that came in, in plain words; and the number of eight bits. -/
import Derived.Test.YtpjlpbammgoieaaNumIn
import Derived.OpenShut
namespace Go.Proofs.Ytpjlpbammgoieaa
open Go.ChangeShapes Go.WideShapes Go.RowKit

theorem block_lt {w : World} {a : Addr} {v : Value} (h : w.cell? a = some v) : a.block < w.heap.size := by
  rcases Nat.lt_or_ge a.block w.heap.size with hlt | hge
  · exact hlt
  · unfold World.cell? at h; rw [Array.getElem?_eq_none hge] at h; simp at h

theorem add_at (b off k : Nat) : (⟨b, off, none⟩ : Addr).add k = ⟨b, off + k, none⟩ := by
  unfold Addr.add; split <;> simp_all

theorem spot_of {w : World} {a : Addr} {k : Nat} {v : Value} (hk : k = 0) (h : w.cell? (a.add k) = some v) : a.spot = none := by
  subst hk
  have := World.cell?_spot h
  simpa [Addr.add] using this

theorem u8s_of {H : Type} {enc : TypeId × Value → H} {w : World} {spare : Nat → Bool} {held : Bool} {a : Option Addr} {len cap fuel : Nat} {x : DataW H × List MemPlace}
    (h : DataW.trod enc Try.prog w 0 spare held fuel 31 [.slice a len cap] = some x) : ∃ l : List Int, l.length = len ∧ len ≤ maxLen ∧ U8s w a l := by
  rcases open_ints Try.underlying31 Try.underlying5 (by kernel_rfl) h with ⟨hcs, _⟩ | ⟨x, l, c, zs, hcs, _, hl, hm, hz, _, hcell, hwz⟩
  · simp at hcs
    obtain ⟨rfl, rfl, rfl⟩ := hcs
    exact ⟨[], rfl, by simp [maxLen], fun h => absurd h (by simp)⟩
  · simp at hcs
    obtain ⟨rfl, rfl, rfl⟩ := hcs
    have hzl : len ≤ zs.length := by rw [hz]; split <;> omega
    refine ⟨zs.take len, by rw [List.length_take]; omega, by omega, fun hpos => ?_⟩
    have hpos' : 0 < zs.length := by simp at hpos; omega
    obtain ⟨b, off, spot⟩ := x
    have hsp : spot = none := spot_of (a := ⟨b, off, spot⟩) rfl (hcell 0 hpos')
    subst hsp
    refine ⟨b, off, rfl, ?_, fun i t hit => ?_⟩
    · have := block_lt (hcell 0 hpos')
      rw [add_at] at this; exact this
    · rw [List.getElem?_take] at hit
      split at hit
      · have hil := (List.getElem?_eq_some_iff.1 hit).1
        have hmem : t ∈ zs := List.mem_of_getElem? hit
        have hbd := bounds_u8 (hwz t hmem)
        have hh := hcell i hil
        rw [add_at] at hh
        rw [hh, List.getD_eq_getElem?_getD, hit]
        exact ⟨rfl, hbd.1, hbd.2⟩
      · cases hit

end Go.Proofs.Ytpjlpbammgoieaa
