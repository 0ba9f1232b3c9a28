/-
  No cell of these rows narrows 'for every input' (looked for: loops, veiled, ifaces, maps, wideKeys, modest, calm, conditions, laid).
  DERIVED. THE GIVEN ROWS OF THIS SEAT. 2 by the template 'for every input the law returns true; each argument reads behind the call as it read before'; 0 by the template 'total and deterministic' (their statements: YtidkaekibemagaaTotals.lean).
  GIVEN WITH THE SEED: the statements are not yours to turn. If you find one false, say at which input.
  Laid BY PROGRAM, IN A SANDBOX (cutbox-rows.mjs): the forced cells as the released guide's own fill.sh prints them over the translation ff3e994a743781a8… (all of the seat's roots in one cut). By AI agents, Wed Nov 11 2026. No macro, syntax, notation, axiom, sorry.
-/
import Derived.Test.YtidkaekibemagaaChecked
import GoSem.Claim
import GoSem.ClaimJoined
import GoSem.ClaimMapViews
import Derived.JoinedTies
import Derived.KernelRfl
namespace Go.Proofs.Ytidkaekibemagaa
/- THE CELL 'sum', in the pinned program and in every row, IS THE sha256 OF THE DUMP (.gsa) THAT YtidkaekibemagaaProg.lean LOADS. Nothing in Lean hashes anything: it is a label: what it is worth is what the hold of that sum in a sandbox is worth. -/
noncomputable def Try.pinned : Pinned := { name := "ytidkaekibemagaa", sum := "ff3e994a743781a8d0de3de3490766197b194ab49cee4e53bd27ff634f44f709", checked := Try.checked }
namespace Rows
def none {H : Type} : Left H := { results := [], args := [] }

/-- 'limnerlaw17.StylesTell': WHATEVER THE INPUT: true; the input reads as it did. -/
def stylesTellSpec : ChangeSpec := { name := "stylesTell", fn := fun _ => fun
  | [d1, d2, d3] => { results := [.lit (.bool true)], args := [d1, d2, d3] }
  | _ => none }
def stylesTellRow : OpenClaim := { program := "ytidkaekibemagaa", sum := "ff3e994a743781a8d0de3de3490766197b194ab49cee4e53bd27ff634f44f709", func := "limner/limnerlaw17.StylesTell", spec := "stylesTell", apart := false }
def StylesTellSaid : Prop := stylesTellRow.holds Try.pinned (OpenSpec.ofChange stylesTellSpec)

/-- ITS FALSE NEIGHBOUR: 'it returns false'. Refute it at one input. -/
def stylesTellWrong : ChangeSpec := { name := "stylesTell", fn := fun _ => fun
  | [d1, d2, d3] => { results := [.lit (.bool false)], args := [d1, d2, d3] }
  | _ => none }
def StylesTellWrongFalsely : Prop := stylesTellRow.holds Try.pinned (OpenSpec.ofChange stylesTellWrong)

/-- 'limnerlaw17.StylesKinds': WHATEVER THE INPUT: true; the input reads as it did. -/
def stylesKindsSpec : ChangeSpec := { name := "stylesKinds", fn := fun _ => fun
  | [d] => { results := [.lit (.bool true)], args := [d] }
  | _ => none }
def stylesKindsRow : OpenClaim := { program := "ytidkaekibemagaa", sum := "ff3e994a743781a8d0de3de3490766197b194ab49cee4e53bd27ff634f44f709", func := "limner/limnerlaw17.StylesKinds", spec := "stylesKinds", apart := false }
def StylesKindsSaid : Prop := stylesKindsRow.holds Try.pinned (OpenSpec.ofChange stylesKindsSpec)

/-- ITS FALSE NEIGHBOUR: 'it returns false'. Refute it at one input. -/
def stylesKindsWrong : ChangeSpec := { name := "stylesKinds", fn := fun _ => fun
  | [d] => { results := [.lit (.bool false)], args := [d] }
  | _ => none }
def StylesKindsWrongFalsely : Prop := stylesKindsRow.holds Try.pinned (OpenSpec.ofChange stylesKindsWrong)

/- THE SECOND FORM. 'bulk': how many values and letters a reading holds, each counted each time it is reached (what is shared counts as often as it is met; a slice's spare places count too). A statement '..UptoSaid' is the law's where the arguments, and the package variables that the reading takes, are together of bulk at most 1048576: NARROWER than '..Said'. Prove '..Said' where nothing that the law and all that it calls make is longer than what came in: it says more and counts as full. Else prove '..UptoSaid'. A law counts once. -/
mutual
def uptoBulk {H : Type} : DataW H → Nat
  | .lit (.string bytes) => bytes.length + 1
  | .lit _ => 1
  | .nil => 1
  | .ptr d => uptoBulk d + 1
  | .slice elems spare => uptoBulkAll elems + uptoBulkAll spare + 1
  | .agg parts => uptoBulkAll parts + 1
  | .iface _ d => uptoBulk d + 1
  | .map entries => uptoBulkEntries entries + 1
  | .held _ => 1
def uptoBulkAll {H : Type} : List (DataW H) → Nat
  | [] => 0
  | d :: r => uptoBulk d + uptoBulkAll r
def uptoBulkEntries {H : Type} : List (Lit × DataW H) → Nat
  | [] => 0
  | x :: r => uptoBulkEntry x + uptoBulkEntries r
def uptoBulkEntry {H : Type} : Lit × DataW H → Nat
  | (.string bytes, d) => bytes.length + uptoBulk d + 1
  | (_, d) => uptoBulk d + 1
 end
def uptoSmall : (H : Type) → List (DataW H) → Bool := fun _ ds => decide (uptoBulkAll ds ≤ 1048576)
def OpenSpec.upto (s : _root_.Go.ChangeSpec) : _root_.Go.OpenSpec := { _root_.Go.OpenSpec.ofChange s with cond := some uptoSmall }

/-- 'limnerlaw17.StylesTell', WHERE WHAT IT READS IS OF BULK AT MOST 1048576: true; the input reads as it did. -/
def stylesTellUptoRow : OpenClaim := { program := "ytidkaekibemagaa", sum := "ff3e994a743781a8d0de3de3490766197b194ab49cee4e53bd27ff634f44f709", func := "limner/limnerlaw17.StylesTell", spec := "stylesTell", apart := false, narrowed := true }
def StylesTellUptoSaid : Prop := stylesTellUptoRow.holds Try.pinned (OpenSpec.upto stylesTellSpec)

/-- 'limnerlaw17.StylesKinds', WHERE WHAT IT READS IS OF BULK AT MOST 1048576: true; the input reads as it did. -/
def stylesKindsUptoRow : OpenClaim := { program := "ytidkaekibemagaa", sum := "ff3e994a743781a8d0de3de3490766197b194ab49cee4e53bd27ff634f44f709", func := "limner/limnerlaw17.StylesKinds", spec := "stylesKinds", apart := false, narrowed := true }
def StylesKindsUptoSaid : Prop := stylesKindsUptoRow.holds Try.pinned (OpenSpec.upto stylesKindsSpec)

end Rows
end Go.Proofs.Ytidkaekibemagaa
