/-
  No cell of these rows narrows 'for every input' (looked for: loops, veiled, ifaces, maps, wideKeys, modest, calm, conditions, laid).
  DERIVED. THE GIVEN ROWS OF THIS SEAT. 4 by the template 'for every input the law returns true; each argument reads behind the call as it read before'; 0 by the template 'total and deterministic' (their statements: YtdbcmhcflndggaaTotals.lean).
  GIVEN WITH THE SEED: the statements are not yours to turn. If you find one false, say at which input.
  Laid BY PROGRAM, IN A SANDBOX (cutbox-rows.mjs): the forced cells as the released guide's own fill.sh prints them over the translation ee3b86ca3a382e4f… (all of the seat's roots in one cut). By AI agents, Wed Nov 11 2026. No macro, syntax, notation, axiom, sorry.
-/
import Derived.Test.YtdbcmhcflndggaaChecked
import GoSem.Claim
import GoSem.ClaimJoined
import GoSem.ClaimMapViews
import Derived.JoinedTies
import Derived.KernelRfl
namespace Go.Proofs.Ytdbcmhcflndggaa
/- THE CELL 'sum', in the pinned program and in every row, IS THE sha256 OF THE DUMP (.gsa) THAT YtdbcmhcflndggaaProg.lean LOADS. Nothing in Lean hashes anything: it is a label: what it is worth is what the hold of that sum in a sandbox is worth. -/
noncomputable def Try.pinned : Pinned := { name := "ytdbcmhcflndggaa", sum := "ee3b86ca3a382e4f767d0c4740162601ff91778fc87bf3214d2267aa59577f1b", checked := Try.checked }
namespace Rows
def none {H : Type} : Left H := { results := [], args := [] }

/-- 'limnerlaw35.HistfilePut': WHATEVER THE INPUT: true; the input reads as it did. -/
def histfilePutSpec : ChangeSpec := { name := "histfilePut", fn := fun _ => fun
  | [d1, d2, d3] => { results := [.lit (.bool true)], args := [d1, d2, d3] }
  | _ => none }
def histfilePutRow : OpenClaim := { program := "ytdbcmhcflndggaa", sum := "ee3b86ca3a382e4f767d0c4740162601ff91778fc87bf3214d2267aa59577f1b", func := "limner/limnerlaw35.HistfilePut", spec := "histfilePut", inPlace := ["internal/abi.NoEscape"], apart := false }
def HistfilePutSaid : Prop := histfilePutRow.holds Try.pinned (OpenSpec.ofChange histfilePutSpec)

/-- ITS FALSE NEIGHBOUR: 'it returns false'. Refute it at one input. -/
def histfilePutWrong : ChangeSpec := { name := "histfilePut", fn := fun _ => fun
  | [d1, d2, d3] => { results := [.lit (.bool false)], args := [d1, d2, d3] }
  | _ => none }
def HistfilePutWrongFalsely : Prop := histfilePutRow.holds Try.pinned (OpenSpec.ofChange histfilePutWrong)

/-- 'limnerlaw35.HistfileMerge': WHATEVER THE INPUT: true; the input reads as it did. -/
def histfileMergeSpec : ChangeSpec := { name := "histfileMerge", fn := fun _ => fun
  | [d1, d2, d3] => { results := [.lit (.bool true)], args := [d1, d2, d3] }
  | _ => none }
def histfileMergeRow : OpenClaim := { program := "ytdbcmhcflndggaa", sum := "ee3b86ca3a382e4f767d0c4740162601ff91778fc87bf3214d2267aa59577f1b", func := "limner/limnerlaw35.HistfileMerge", spec := "histfileMerge", inPlace := ["internal/abi.NoEscape"], apart := false }
def HistfileMergeSaid : Prop := histfileMergeRow.holds Try.pinned (OpenSpec.ofChange histfileMergeSpec)

/-- ITS FALSE NEIGHBOUR: 'it returns false'. Refute it at one input. -/
def histfileMergeWrong : ChangeSpec := { name := "histfileMerge", fn := fun _ => fun
  | [d1, d2, d3] => { results := [.lit (.bool false)], args := [d1, d2, d3] }
  | _ => none }
def HistfileMergeWrongFalsely : Prop := histfileMergeRow.holds Try.pinned (OpenSpec.ofChange histfileMergeWrong)

/-- 'limnerlaw35.HistfileGet': WHATEVER THE INPUT: true; the input reads as it did. -/
def histfileGetSpec : ChangeSpec := { name := "histfileGet", fn := fun _ => fun
  | [d] => { results := [.lit (.bool true)], args := [d] }
  | _ => none }
def histfileGetRow : OpenClaim := { program := "ytdbcmhcflndggaa", sum := "ee3b86ca3a382e4f767d0c4740162601ff91778fc87bf3214d2267aa59577f1b", func := "limner/limnerlaw35.HistfileGet", spec := "histfileGet", inPlace := ["internal/abi.NoEscape", "internal/bytealg.IndexByteString"], unfollowed := true, recurses := true, apart := false }
def HistfileGetSaid : Prop := histfileGetRow.holds Try.pinned (OpenSpec.ofChange histfileGetSpec)

/-- ITS FALSE NEIGHBOUR: 'it returns false'. Refute it at one input. -/
def histfileGetWrong : ChangeSpec := { name := "histfileGet", fn := fun _ => fun
  | [d] => { results := [.lit (.bool false)], args := [d] }
  | _ => none }
def HistfileGetWrongFalsely : Prop := histfileGetRow.holds Try.pinned (OpenSpec.ofChange histfileGetWrong)

/-- 'limnerlaw35.HistfileBack': WHATEVER THE INPUT: true; the input reads as it did. -/
def histfileBackSpec : ChangeSpec := { name := "histfileBack", fn := fun _ => fun
  | [d1, d2] => { results := [.lit (.bool true)], args := [d1, d2] }
  | _ => none }
def histfileBackRow : OpenClaim := { program := "ytdbcmhcflndggaa", sum := "ee3b86ca3a382e4f767d0c4740162601ff91778fc87bf3214d2267aa59577f1b", func := "limner/limnerlaw35.HistfileBack", spec := "histfileBack", inPlace := ["internal/abi.NoEscape", "internal/bytealg.IndexByteString"], unfollowed := true, recurses := true, apart := false }
def HistfileBackSaid : Prop := histfileBackRow.holds Try.pinned (OpenSpec.ofChange histfileBackSpec)

/-- ITS FALSE NEIGHBOUR: 'it returns false'. Refute it at one input. -/
def histfileBackWrong : ChangeSpec := { name := "histfileBack", fn := fun _ => fun
  | [d1, d2] => { results := [.lit (.bool false)], args := [d1, d2] }
  | _ => none }
def HistfileBackWrongFalsely : Prop := histfileBackRow.holds Try.pinned (OpenSpec.ofChange histfileBackWrong)

/- THE SECOND FORM. 'bulk': how many values and letters a reading holds, each counted each time it is reached (what is shared counts as often as it is met; a slice's spare places count too). A statement '..UptoSaid' is the law's where the arguments, and the package variables that the reading takes, are together of bulk at most 1048576: NARROWER than '..Said'. Prove '..Said' where nothing that the law and all that it calls make is longer than what came in: it says more and counts as full. Else prove '..UptoSaid'. A law counts once. -/
mutual
def uptoBulk {H : Type} : DataW H → Nat
  | .lit (.string bytes) => bytes.length + 1
  | .lit _ => 1
  | .nil => 1
  | .ptr d => uptoBulk d + 1
  | .slice elems spare => uptoBulkAll elems + uptoBulkAll spare + 1
  | .agg parts => uptoBulkAll parts + 1
  | .iface _ d => uptoBulk d + 1
  | .map entries => uptoBulkEntries entries + 1
  | .held _ => 1
def uptoBulkAll {H : Type} : List (DataW H) → Nat
  | [] => 0
  | d :: r => uptoBulk d + uptoBulkAll r
def uptoBulkEntries {H : Type} : List (Lit × DataW H) → Nat
  | [] => 0
  | x :: r => uptoBulkEntry x + uptoBulkEntries r
def uptoBulkEntry {H : Type} : Lit × DataW H → Nat
  | (.string bytes, d) => bytes.length + uptoBulk d + 1
  | (_, d) => uptoBulk d + 1
 end
def uptoSmall : (H : Type) → List (DataW H) → Bool := fun _ ds => decide (uptoBulkAll ds ≤ 1048576)
def OpenSpec.upto (s : _root_.Go.ChangeSpec) : _root_.Go.OpenSpec := { _root_.Go.OpenSpec.ofChange s with cond := some uptoSmall }

/-- 'limnerlaw35.HistfilePut', WHERE WHAT IT READS IS OF BULK AT MOST 1048576: true; the input reads as it did. -/
def histfilePutUptoRow : OpenClaim := { program := "ytdbcmhcflndggaa", sum := "ee3b86ca3a382e4f767d0c4740162601ff91778fc87bf3214d2267aa59577f1b", func := "limner/limnerlaw35.HistfilePut", spec := "histfilePut", inPlace := ["internal/abi.NoEscape"], apart := false, narrowed := true }
def HistfilePutUptoSaid : Prop := histfilePutUptoRow.holds Try.pinned (OpenSpec.upto histfilePutSpec)

/-- 'limnerlaw35.HistfileMerge', WHERE WHAT IT READS IS OF BULK AT MOST 1048576: true; the input reads as it did. -/
def histfileMergeUptoRow : OpenClaim := { program := "ytdbcmhcflndggaa", sum := "ee3b86ca3a382e4f767d0c4740162601ff91778fc87bf3214d2267aa59577f1b", func := "limner/limnerlaw35.HistfileMerge", spec := "histfileMerge", inPlace := ["internal/abi.NoEscape"], apart := false, narrowed := true }
def HistfileMergeUptoSaid : Prop := histfileMergeUptoRow.holds Try.pinned (OpenSpec.upto histfileMergeSpec)

/-- 'limnerlaw35.HistfileGet', WHERE WHAT IT READS IS OF BULK AT MOST 1048576: true; the input reads as it did. -/
def histfileGetUptoRow : OpenClaim := { program := "ytdbcmhcflndggaa", sum := "ee3b86ca3a382e4f767d0c4740162601ff91778fc87bf3214d2267aa59577f1b", func := "limner/limnerlaw35.HistfileGet", spec := "histfileGet", inPlace := ["internal/abi.NoEscape", "internal/bytealg.IndexByteString"], unfollowed := true, recurses := true, apart := false, narrowed := true }
def HistfileGetUptoSaid : Prop := histfileGetUptoRow.holds Try.pinned (OpenSpec.upto histfileGetSpec)

/-- 'limnerlaw35.HistfileBack', WHERE WHAT IT READS IS OF BULK AT MOST 1048576: true; the input reads as it did. -/
def histfileBackUptoRow : OpenClaim := { program := "ytdbcmhcflndggaa", sum := "ee3b86ca3a382e4f767d0c4740162601ff91778fc87bf3214d2267aa59577f1b", func := "limner/limnerlaw35.HistfileBack", spec := "histfileBack", inPlace := ["internal/abi.NoEscape", "internal/bytealg.IndexByteString"], unfollowed := true, recurses := true, apart := false, narrowed := true }
def HistfileBackUptoSaid : Prop := histfileBackUptoRow.holds Try.pinned (OpenSpec.upto histfileBackSpec)

end Rows
end Go.Proofs.Ytdbcmhcflndggaa
