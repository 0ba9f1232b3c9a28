/- Plain words for the styles of a text: which kind colors a place, which places are marked, and when a slice reads as tokens or as numbers. -/
import Derived.Test.YtidkaekibemagaaOf
import Derived.Deep.OwnRows
import Derived.Deep.LoopGhost
import Derived.Lib.Hide
namespace Go.Proofs.Ytidkaekibemagaa
open Go.RowKit

structure Tok where
  kind : Int
  lo : Int
  hi : Int

/-- The kind whose look a place has (1: the usual look): the last token over it. -/
def tone (l : List Tok) (i : Int) : Int := l.foldl (fun x t => if t.lo ≤ i ∧ i < t.hi then t.kind else x) 1
theorem tone_snoc (l : List Tok) (t : Tok) (i : Int) : tone (l ++ [t]) i = if t.lo ≤ i ∧ i < t.hi then t.kind else tone l i := by
  unfold tone; rw [List.foldl_append]; rfl

/-- The cells of places, four a place. -/
def paint (T : Int → Int) (V : Int → Bool) (j : Nat) : Value :=
  if j % 4 = 0 then .int .i64 (fgOf (T (j / 4 : Nat))) else if j % 4 = 1 then .bool (boldOf (T (j / 4 : Nat))) else if j % 4 = 2 then .bool (underOf (T (j / 4 : Nat))) else .bool (V (j / 4 : Nat))

/-- A slice that reads as tokens. -/
def Toks (w : World) (A : Option Addr) (l : List Tok) : Prop :=
  0 < l.length → ∃ b off, A = some ⟨b, off, none⟩ ∧ b < w.heap.size ∧ ∀ (i : Nat) (t : Tok), l[i]? = some t →
    w.cell? ⟨b, off + i * 3, none⟩ = some (.int .i64 t.kind) ∧ w.cell? ⟨b, off + i * 3 + 1, none⟩ = some (.int .i64 t.lo) ∧ w.cell? ⟨b, off + i * 3 + 2, none⟩ = some (.int .i64 t.hi)

/-- A slice that reads as numbers. -/
def Nums (w : World) (A : Option Addr) (l : List Int) : Prop :=
  0 < l.length → ∃ b off, A = some ⟨b, off, none⟩ ∧ b < w.heap.size ∧ ∀ (i : Nat) (x : Int), l[i]? = some x → w.cell? ⟨b, off + i, none⟩ = some (.int .i64 x)

end Go.Proofs.Ytidkaekibemagaa
