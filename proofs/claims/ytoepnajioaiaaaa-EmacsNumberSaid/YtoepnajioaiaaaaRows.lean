/-
  No cell of these rows narrows 'for every input' (looked for: loops, veiled, ifaces, maps, wideKeys, modest, calm, conditions, laid).
  DERIVED. THE GIVEN ROWS OF THIS SEAT. 3 by the template 'for every input the law returns true; each argument reads behind the call as it read before'; 0 by the template 'total and deterministic' (their statements: YtoepnajioaiaaaaTotals.lean).
  GIVEN WITH THE SEED: the statements are not yours to turn. If you find one false, say at which input.
  Laid BY PROGRAM, IN A SANDBOX (cutbox-rows.mjs): the forced cells as the released guide's own fill.sh prints them over the translation 17f450ff4569178f… (all of the seat's roots in one cut). By AI agents, Wed Nov 11 2026. No macro, syntax, notation, axiom, sorry.
-/
import Derived.Test.YtoepnajioaiaaaaChecked
import GoSem.Claim
import GoSem.ClaimJoined
import GoSem.ClaimMapViews
import Derived.JoinedTies
import Derived.KernelRfl
namespace Go.Proofs.Ytoepnajioaiaaaa
/- THE CELL 'sum', in the pinned program and in every row, IS THE sha256 OF THE DUMP (.gsa) THAT YtoepnajioaiaaaaProg.lean LOADS. Nothing in Lean hashes anything: it is a label: what it is worth is what the hold of that sum in a sandbox is worth. -/
noncomputable def Try.pinned : Pinned := { name := "ytoepnajioaiaaaa", sum := "17f450ff4569178f17c3073a03ccb9a4ad6b59fdd10d9abc7f2239c97952e8c7", checked := Try.checked }
namespace Rows
def none {H : Type} : Left H := { results := [], args := [] }

/-- 'limnerlaw21.EmacsNumber': WHATEVER THE INPUT: true; the input reads as it did. -/
def emacsNumberSpec : ChangeSpec := { name := "emacsNumber", fn := fun _ => fun
  | [d] => { results := [.lit (.bool true)], args := [d] }
  | _ => none }
def emacsNumberRow : OpenClaim := { program := "ytoepnajioaiaaaa", sum := "17f450ff4569178f17c3073a03ccb9a4ad6b59fdd10d9abc7f2239c97952e8c7", func := "limner/limnerlaw21.EmacsNumber", spec := "emacsNumber", apart := false }
def EmacsNumberSaid : Prop := emacsNumberRow.holds Try.pinned (OpenSpec.ofChange emacsNumberSpec)

/-- ITS FALSE NEIGHBOUR: 'it returns false'. Refute it at one input. -/
def emacsNumberWrong : ChangeSpec := { name := "emacsNumber", fn := fun _ => fun
  | [d] => { results := [.lit (.bool false)], args := [d] }
  | _ => none }
def EmacsNumberWrongFalsely : Prop := emacsNumberRow.holds Try.pinned (OpenSpec.ofChange emacsNumberWrong)

/-- 'limnerlaw21.EmacsTell': WHATEVER THE INPUT: true; the input reads as it did. -/
def emacsTellSpec : ChangeSpec := { name := "emacsTell", fn := fun _ => fun
  | [d1, d2] => { results := [.lit (.bool true)], args := [d1, d2] }
  | _ => none }
def emacsTellRow : OpenClaim := { program := "ytoepnajioaiaaaa", sum := "17f450ff4569178f17c3073a03ccb9a4ad6b59fdd10d9abc7f2239c97952e8c7", func := "limner/limnerlaw21.EmacsTell", spec := "emacsTell", apart := false }
def EmacsTellSaid : Prop := emacsTellRow.holds Try.pinned (OpenSpec.ofChange emacsTellSpec)

/-- ITS FALSE NEIGHBOUR: 'it returns false'. Refute it at one input. -/
def emacsTellWrong : ChangeSpec := { name := "emacsTell", fn := fun _ => fun
  | [d1, d2] => { results := [.lit (.bool false)], args := [d1, d2] }
  | _ => none }
def EmacsTellWrongFalsely : Prop := emacsTellRow.holds Try.pinned (OpenSpec.ofChange emacsTellWrong)

/-- 'limnerlaw21.EmacsOne': WHATEVER THE INPUT: true; the input reads as it did. -/
def emacsOneSpec : ChangeSpec := { name := "emacsOne", fn := fun _ => fun
  | [d1, d2] => { results := [.lit (.bool true)], args := [d1, d2] }
  | _ => none }
def emacsOneRow : OpenClaim := { program := "ytoepnajioaiaaaa", sum := "17f450ff4569178f17c3073a03ccb9a4ad6b59fdd10d9abc7f2239c97952e8c7", func := "limner/limnerlaw21.EmacsOne", spec := "emacsOne", apart := false }
def EmacsOneSaid : Prop := emacsOneRow.holds Try.pinned (OpenSpec.ofChange emacsOneSpec)

/-- ITS FALSE NEIGHBOUR: 'it returns false'. Refute it at one input. -/
def emacsOneWrong : ChangeSpec := { name := "emacsOne", fn := fun _ => fun
  | [d1, d2] => { results := [.lit (.bool false)], args := [d1, d2] }
  | _ => none }
def EmacsOneWrongFalsely : Prop := emacsOneRow.holds Try.pinned (OpenSpec.ofChange emacsOneWrong)

/- THE SECOND FORM. 'bulk': how many values and letters a reading holds, each counted each time it is reached (what is shared counts as often as it is met; a slice's spare places count too). A statement '..UptoSaid' is the law's where the arguments, and the package variables that the reading takes, are together of bulk at most 1048576: NARROWER than '..Said'. Prove '..Said' where nothing that the law and all that it calls make is longer than what came in: it says more and counts as full. Else prove '..UptoSaid'. A law counts once. -/
mutual
def uptoBulk {H : Type} : DataW H → Nat
  | .lit (.string bytes) => bytes.length + 1
  | .lit _ => 1
  | .nil => 1
  | .ptr d => uptoBulk d + 1
  | .slice elems spare => uptoBulkAll elems + uptoBulkAll spare + 1
  | .agg parts => uptoBulkAll parts + 1
  | .iface _ d => uptoBulk d + 1
  | .map entries => uptoBulkEntries entries + 1
  | .held _ => 1
def uptoBulkAll {H : Type} : List (DataW H) → Nat
  | [] => 0
  | d :: r => uptoBulk d + uptoBulkAll r
def uptoBulkEntries {H : Type} : List (Lit × DataW H) → Nat
  | [] => 0
  | x :: r => uptoBulkEntry x + uptoBulkEntries r
def uptoBulkEntry {H : Type} : Lit × DataW H → Nat
  | (.string bytes, d) => bytes.length + uptoBulk d + 1
  | (_, d) => uptoBulk d + 1
 end
def uptoSmall : (H : Type) → List (DataW H) → Bool := fun _ ds => decide (uptoBulkAll ds ≤ 1048576)
def OpenSpec.upto (s : _root_.Go.ChangeSpec) : _root_.Go.OpenSpec := { _root_.Go.OpenSpec.ofChange s with cond := some uptoSmall }

/-- 'limnerlaw21.EmacsNumber', WHERE WHAT IT READS IS OF BULK AT MOST 1048576: true; the input reads as it did. -/
def emacsNumberUptoRow : OpenClaim := { program := "ytoepnajioaiaaaa", sum := "17f450ff4569178f17c3073a03ccb9a4ad6b59fdd10d9abc7f2239c97952e8c7", func := "limner/limnerlaw21.EmacsNumber", spec := "emacsNumber", apart := false, narrowed := true }
def EmacsNumberUptoSaid : Prop := emacsNumberUptoRow.holds Try.pinned (OpenSpec.upto emacsNumberSpec)

/-- 'limnerlaw21.EmacsTell', WHERE WHAT IT READS IS OF BULK AT MOST 1048576: true; the input reads as it did. -/
def emacsTellUptoRow : OpenClaim := { program := "ytoepnajioaiaaaa", sum := "17f450ff4569178f17c3073a03ccb9a4ad6b59fdd10d9abc7f2239c97952e8c7", func := "limner/limnerlaw21.EmacsTell", spec := "emacsTell", apart := false, narrowed := true }
def EmacsTellUptoSaid : Prop := emacsTellUptoRow.holds Try.pinned (OpenSpec.upto emacsTellSpec)

/-- 'limnerlaw21.EmacsOne', WHERE WHAT IT READS IS OF BULK AT MOST 1048576: true; the input reads as it did. -/
def emacsOneUptoRow : OpenClaim := { program := "ytoepnajioaiaaaa", sum := "17f450ff4569178f17c3073a03ccb9a4ad6b59fdd10d9abc7f2239c97952e8c7", func := "limner/limnerlaw21.EmacsOne", spec := "emacsOne", apart := false, narrowed := true }
def EmacsOneUptoSaid : Prop := emacsOneUptoRow.holds Try.pinned (OpenSpec.upto emacsOneSpec)

end Rows
end Go.Proofs.Ytoepnajioaiaaaa
