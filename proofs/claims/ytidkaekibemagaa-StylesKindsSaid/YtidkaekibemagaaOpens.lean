/- A slice of tokens, or of numbers, that came in: what it holds, in plain words. -/
import Derived.Test.YtidkaekibemagaaTell
import Derived.Deep.Slices
import Derived.Deep.Fields
import Derived.ChangeSame
namespace Go.Proofs.Ytidkaekibemagaa
open Go.ChangeShapes Go.WideShapes Go.Deep Go.RowKit

instance : Inhabited Tok := ⟨⟨0, 0, 0⟩⟩

theorem block_lt {w : World} {a : Addr} {v : Value} (h : w.cell? a = some v) : a.block < w.heap.size := by
  rcases Nat.lt_or_ge a.block w.heap.size with hlt | hge
  · exact hlt
  · unfold World.cell? at h; rw [Array.getElem?_eq_none hge] at h; simp at h

theorem add_at (b off k : Nat) : (⟨b, off, none⟩ : Addr).add k = ⟨b, off + k, none⟩ := by
  unfold Addr.add; split <;> simp_all

theorem spot_of {w : World} {a : Addr} {k : Nat} {v : Value} (hk : k = 0) (h : w.cell? (a.add k) = some v) : a.spot = none := by
  subst hk
  have := World.cell?_spot h
  simpa [Addr.add] using this

section
variable {H : Type} {enc : TypeId × Value → H} {w : World} {spare : Nat → Bool} {held : Bool}

theorem toks_of {a : Option Addr} {len cap fuel : Nat} {x : DataW H × List MemPlace} (h : DataW.trod enc Try.prog w 0 spare held fuel 22 [.slice a len cap] = some x) :
    ∃ l : List Tok, l.length = len ∧ len ≤ maxLen ∧ Toks w a l := by
  rcases open_slice Try.underlying22 h with ⟨hcs, _⟩ | ⟨a', len', cap', m, n, D, Pl, hcs, _, hl, hm, hmm, _, hi⟩
  · simp at hcs
    obtain ⟨rfl, rfl, rfl⟩ := hcs
    exact ⟨[], rfl, by simp [maxLen], fun h => absurd h (by simp)⟩
  · simp at hcs
    obtain ⟨rfl, rfl, rfl⟩ := hcs
    have hcl : Try.prog.cellsOf 34 = 3 := by kernel_rfl
    have h3 : Try.prog.cellsOf 3 = 1 := by kernel_rfl
    rw [hcl] at hi
    have hlm : len ≤ m := by rw [hmm]; split <;> omega
    have hp : ∀ i, i < len → ∃ t : Tok, w.cell? (a'.add (i * 3)) = some (.int .i64 t.kind) ∧ w.cell? ((a'.add (i * 3)).add 1) = some (.int .i64 t.lo) ∧ w.cell? ((a'.add (i * 3)).add 2) = some (.int .i64 t.hi) := by
      intro i hil
      obtain ⟨cs, hc, ht⟩ := hi i (by omega)
      obtain ⟨ys, n', _, _, hlen, hyl, hf⟩ := DataW.trod_struct Try.underlying34 ht
      obtain ⟨_, hcl', hat⟩ := World.cells?_some hc
      rw [hcl] at hlen
      match cs, hlen with
      | [c0, c1, c2], _ =>
        have g0 := hf 0 _ rfl
        have g1 := hf 1 _ rfl
        have g2 := hf 2 _ rfl
        change DataW.trod enc Try.prog w 0 spare held n' 3 (([c0, c1, c2].drop 0).take (Try.prog.cellsOf 3)) = ys[0]? at g0
        change DataW.trod enc Try.prog w 0 spare held n' 3 (([c0, c1, c2].drop 1).take (Try.prog.cellsOf 3)) = ys[1]? at g1
        change DataW.trod enc Try.prog w 0 spare held n' 3 (([c0, c1, c2].drop 2).take (Try.prog.cellsOf 3)) = ys[2]? at g2
        rw [h3] at g0 g1 g2
        rw [List.getElem?_eq_getElem (by rw [hyl]; decide)] at g0 g1 g2
        obtain ⟨x0, e0, _, _⟩ := DataW.trod_int Try.underlying3 g0
        obtain ⟨x1, e1, _, _⟩ := DataW.trod_int Try.underlying3 g1
        obtain ⟨x2, e2, _, _⟩ := DataW.trod_int Try.underlying3 g2
        simp at e0 e1 e2
        subst e0 e1 e2
        have k0 := hat 0 (by omega)
        have k1 := hat 1 (by omega)
        have k2 := hat 2 (by omega)
        have ez : (a'.add (i * 3)).add 0 = a'.add (i * 3) := by unfold Addr.add; simp
        rw [ez] at k0
        exact ⟨⟨x0, x1, x2⟩, k0, k1, k2⟩
    obtain ⟨T, hT⟩ := choose_lt hp
    refine ⟨(List.range len).map T, by simp, by omega, fun hpos => ?_⟩
    have hpos' : 0 < len := by simpa using hpos
    obtain ⟨b, off, spot⟩ := a'
    have hsp : spot = none := spot_of (a := ⟨b, off, spot⟩) rfl (hT 0 hpos').1
    subst hsp
    refine ⟨b, off, rfl, ?_, fun i t hit => ?_⟩
    · have := block_lt (hT 0 hpos').1
      rw [add_at] at this; exact this
    · have hil : i < len := by
        have := (List.getElem?_eq_some_iff.1 hit).1; simpa using this
      have : t = T i := by
        rw [List.getElem?_map, List.getElem?_range hil] at hit
        simpa using hit.symm
      subst this
      have hh := hT i hil
      simp only [add_at] at hh
      exact hh

theorem nums_of {a : Option Addr} {len cap fuel : Nat} {x : DataW H × List MemPlace} (h : DataW.trod enc Try.prog w 0 spare held fuel 23 [.slice a len cap] = some x) :
    ∃ l : List Int, l.length = len ∧ len ≤ maxLen ∧ Nums w a l := by
  rcases open_ints Try.underlying23 Try.underlying3 (by kernel_rfl) h with ⟨hcs, _⟩ | ⟨x, l, c, zs, hcs, _, hl, hm, hz, _, hcell, hwz⟩
  · simp at hcs
    obtain ⟨rfl, rfl, rfl⟩ := hcs
    exact ⟨[], rfl, by simp [maxLen], fun h => absurd h (by simp)⟩
  · simp at hcs
    obtain ⟨rfl, rfl, rfl⟩ := hcs
    have hzl : len ≤ zs.length := by rw [hz]; split <;> omega
    refine ⟨zs.take len, by rw [List.length_take]; omega, by omega, fun hpos => ?_⟩
    have hpos' : 0 < zs.length := by simp at hpos; omega
    obtain ⟨b, off, spot⟩ := x
    have hsp : spot = none := spot_of (a := ⟨b, off, spot⟩) rfl (hcell 0 hpos')
    subst hsp
    refine ⟨b, off, rfl, ?_, fun i t hit => ?_⟩
    · have := block_lt (hcell 0 hpos')
      rw [add_at] at this; exact this
    · rw [List.getElem?_take] at hit
      split at hit
      · have hil := (List.getElem?_eq_some_iff.1 hit).1
        have hh := hcell i hil
        rw [add_at] at hh
        rw [hh, List.getD_eq_getElem?_getD, hit]
        rfl
      · cases hit
end
end Go.Proofs.Ytidkaekibemagaa
