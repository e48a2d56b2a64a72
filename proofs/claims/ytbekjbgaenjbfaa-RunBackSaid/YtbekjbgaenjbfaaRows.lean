/-
  No cell of these rows narrows 'for every input' (looked for: loops, veiled, ifaces, maps, wideKeys, modest, calm, conditions, laid).
  DERIVED. THE GIVEN ROWS OF THIS SEAT. 4 by the template 'for every input the law returns true; each argument reads behind the call as it read before'; 0 by the template 'total and deterministic' (their statements: YtbekjbgaenjbfaaTotals.lean).
  GIVEN WITH THE SEED: the statements are not yours to turn. If you find one false, say at which input.
  Laid BY PROGRAM, IN A SANDBOX (cutbox-rows.mjs): the forced cells as the released guide's own fill.sh prints them over the translation 082c6e6d36296b6b… (all of the seat's roots in one cut). By AI agents, Wed Nov 11 2026. No macro, syntax, notation, axiom, sorry.
-/
import Derived.Test.YtbekjbgaenjbfaaChecked
import GoSem.Claim
import GoSem.ClaimJoined
import GoSem.ClaimMapViews
import Derived.JoinedTies
import Derived.KernelRfl
namespace Go.Proofs.Ytbekjbgaenjbfaa
/- THE CELL 'sum', in the pinned program and in every row, IS THE sha256 OF THE DUMP (.gsa) THAT YtbekjbgaenjbfaaProg.lean LOADS. Nothing in Lean hashes anything: it is a label: what it is worth is what the hold of that sum in a sandbox is worth. -/
noncomputable def Try.pinned : Pinned := { name := "ytbekjbgaenjbfaa", sum := "082c6e6d36296b6b1eef2f29c34965c4c703658d1e958c1d2afab0a8347b6f11", checked := Try.checked }
namespace Rows
def none {H : Type} : Left H := { results := [], args := [] }

/-- 'locutionlaw19.RunReads': WHATEVER THE INPUT: true; the input reads as it did. -/
def runReadsSpec : ChangeSpec := { name := "runReads", fn := fun _ => fun
  | [d1, d2] => { results := [.lit (.bool true)], args := [d1, d2] }
  | _ => none }
def runReadsRow : OpenClaim := { program := "ytbekjbgaenjbfaa", sum := "082c6e6d36296b6b1eef2f29c34965c4c703658d1e958c1d2afab0a8347b6f11", func := "locution/locutionlaw19.RunReads", spec := "runReads", inPlace := ["internal/abi.NoEscape"], unfollowed := true, recurses := true, apart := false }
def RunReadsSaid : Prop := runReadsRow.holds Try.pinned (OpenSpec.ofChange runReadsSpec)

/-- ITS FALSE NEIGHBOUR: 'it returns false'. Refute it at one input. -/
def runReadsWrong : ChangeSpec := { name := "runReads", fn := fun _ => fun
  | [d1, d2] => { results := [.lit (.bool false)], args := [d1, d2] }
  | _ => none }
def RunReadsWrongFalsely : Prop := runReadsRow.holds Try.pinned (OpenSpec.ofChange runReadsWrong)

/-- 'locutionlaw19.RunWrites': WHATEVER THE INPUT: true; the input reads as it did. -/
def runWritesSpec : ChangeSpec := { name := "runWrites", fn := fun _ => fun
  | [d1, d2] => { results := [.lit (.bool true)], args := [d1, d2] }
  | _ => none }
def runWritesRow : OpenClaim := { program := "ytbekjbgaenjbfaa", sum := "082c6e6d36296b6b1eef2f29c34965c4c703658d1e958c1d2afab0a8347b6f11", func := "locution/locutionlaw19.RunWrites", spec := "runWrites", inPlace := ["internal/abi.NoEscape"], unfollowed := true, recurses := true, apart := false }
def RunWritesSaid : Prop := runWritesRow.holds Try.pinned (OpenSpec.ofChange runWritesSpec)

/-- ITS FALSE NEIGHBOUR: 'it returns false'. Refute it at one input. -/
def runWritesWrong : ChangeSpec := { name := "runWrites", fn := fun _ => fun
  | [d1, d2] => { results := [.lit (.bool false)], args := [d1, d2] }
  | _ => none }
def RunWritesWrongFalsely : Prop := runWritesRow.holds Try.pinned (OpenSpec.ofChange runWritesWrong)

/-- 'locutionlaw19.RunFrees': WHATEVER THE INPUT: true; the input reads as it did. -/
def runFreesSpec : ChangeSpec := { name := "runFrees", fn := fun _ => fun
  | [d1, d2] => { results := [.lit (.bool true)], args := [d1, d2] }
  | _ => none }
def runFreesRow : OpenClaim := { program := "ytbekjbgaenjbfaa", sum := "082c6e6d36296b6b1eef2f29c34965c4c703658d1e958c1d2afab0a8347b6f11", func := "locution/locutionlaw19.RunFrees", spec := "runFrees", inPlace := ["internal/abi.NoEscape"], unfollowed := true, recurses := true, apart := false }
def RunFreesSaid : Prop := runFreesRow.holds Try.pinned (OpenSpec.ofChange runFreesSpec)

/-- ITS FALSE NEIGHBOUR: 'it returns false'. Refute it at one input. -/
def runFreesWrong : ChangeSpec := { name := "runFrees", fn := fun _ => fun
  | [d1, d2] => { results := [.lit (.bool false)], args := [d1, d2] }
  | _ => none }
def RunFreesWrongFalsely : Prop := runFreesRow.holds Try.pinned (OpenSpec.ofChange runFreesWrong)

/-- 'locutionlaw19.RunBack': WHATEVER THE INPUT: true; the input reads as it did. -/
def runBackSpec : ChangeSpec := { name := "runBack", fn := fun _ => fun
  | [d1, d2, d3] => { results := [.lit (.bool true)], args := [d1, d2, d3] }
  | _ => none }
def runBackRow : OpenClaim := { program := "ytbekjbgaenjbfaa", sum := "082c6e6d36296b6b1eef2f29c34965c4c703658d1e958c1d2afab0a8347b6f11", func := "locution/locutionlaw19.RunBack", spec := "runBack", inPlace := ["internal/abi.NoEscape"], unfollowed := true, recurses := true, apart := false }
def RunBackSaid : Prop := runBackRow.holds Try.pinned (OpenSpec.ofChange runBackSpec)

/-- ITS FALSE NEIGHBOUR: 'it returns false'. Refute it at one input. -/
def runBackWrong : ChangeSpec := { name := "runBack", fn := fun _ => fun
  | [d1, d2, d3] => { results := [.lit (.bool false)], args := [d1, d2, d3] }
  | _ => none }
def RunBackWrongFalsely : Prop := runBackRow.holds Try.pinned (OpenSpec.ofChange runBackWrong)

/- THE SECOND FORM. 'bulk': how many values and letters a reading holds, each counted each time it is reached (what is shared counts as often as it is met; a slice's spare places count too). A statement '..UptoSaid' is the law's where the arguments, and the package variables that the reading takes, are together of bulk at most 1048576: NARROWER than '..Said'. Prove '..Said' where nothing that the law and all that it calls make is longer than what came in: it says more and counts as full. Else prove '..UptoSaid'. A law counts once. -/
mutual
def uptoBulk {H : Type} : DataW H → Nat
  | .lit (.string bytes) => bytes.length + 1
  | .lit _ => 1
  | .nil => 1
  | .ptr d => uptoBulk d + 1
  | .slice elems spare => uptoBulkAll elems + uptoBulkAll spare + 1
  | .agg parts => uptoBulkAll parts + 1
  | .iface _ d => uptoBulk d + 1
  | .map entries => uptoBulkEntries entries + 1
  | .held _ => 1
def uptoBulkAll {H : Type} : List (DataW H) → Nat
  | [] => 0
  | d :: r => uptoBulk d + uptoBulkAll r
def uptoBulkEntries {H : Type} : List (Lit × DataW H) → Nat
  | [] => 0
  | x :: r => uptoBulkEntry x + uptoBulkEntries r
def uptoBulkEntry {H : Type} : Lit × DataW H → Nat
  | (.string bytes, d) => bytes.length + uptoBulk d + 1
  | (_, d) => uptoBulk d + 1
 end
def uptoSmall : (H : Type) → List (DataW H) → Bool := fun _ ds => decide (uptoBulkAll ds ≤ 1048576)
def OpenSpec.upto (s : _root_.Go.ChangeSpec) : _root_.Go.OpenSpec := { _root_.Go.OpenSpec.ofChange s with cond := some uptoSmall }

/-- 'locutionlaw19.RunReads', WHERE WHAT IT READS IS OF BULK AT MOST 1048576: true; the input reads as it did. -/
def runReadsUptoRow : OpenClaim := { program := "ytbekjbgaenjbfaa", sum := "082c6e6d36296b6b1eef2f29c34965c4c703658d1e958c1d2afab0a8347b6f11", func := "locution/locutionlaw19.RunReads", spec := "runReads", inPlace := ["internal/abi.NoEscape"], unfollowed := true, recurses := true, apart := false, narrowed := true }
def RunReadsUptoSaid : Prop := runReadsUptoRow.holds Try.pinned (OpenSpec.upto runReadsSpec)

/-- 'locutionlaw19.RunWrites', WHERE WHAT IT READS IS OF BULK AT MOST 1048576: true; the input reads as it did. -/
def runWritesUptoRow : OpenClaim := { program := "ytbekjbgaenjbfaa", sum := "082c6e6d36296b6b1eef2f29c34965c4c703658d1e958c1d2afab0a8347b6f11", func := "locution/locutionlaw19.RunWrites", spec := "runWrites", inPlace := ["internal/abi.NoEscape"], unfollowed := true, recurses := true, apart := false, narrowed := true }
def RunWritesUptoSaid : Prop := runWritesUptoRow.holds Try.pinned (OpenSpec.upto runWritesSpec)

/-- 'locutionlaw19.RunFrees', WHERE WHAT IT READS IS OF BULK AT MOST 1048576: true; the input reads as it did. -/
def runFreesUptoRow : OpenClaim := { program := "ytbekjbgaenjbfaa", sum := "082c6e6d36296b6b1eef2f29c34965c4c703658d1e958c1d2afab0a8347b6f11", func := "locution/locutionlaw19.RunFrees", spec := "runFrees", inPlace := ["internal/abi.NoEscape"], unfollowed := true, recurses := true, apart := false, narrowed := true }
def RunFreesUptoSaid : Prop := runFreesUptoRow.holds Try.pinned (OpenSpec.upto runFreesSpec)

/-- 'locutionlaw19.RunBack', WHERE WHAT IT READS IS OF BULK AT MOST 1048576: true; the input reads as it did. -/
def runBackUptoRow : OpenClaim := { program := "ytbekjbgaenjbfaa", sum := "082c6e6d36296b6b1eef2f29c34965c4c703658d1e958c1d2afab0a8347b6f11", func := "locution/locutionlaw19.RunBack", spec := "runBack", inPlace := ["internal/abi.NoEscape"], unfollowed := true, recurses := true, apart := false, narrowed := true }
def RunBackUptoSaid : Prop := runBackUptoRow.holds Try.pinned (OpenSpec.upto runBackSpec)

end Rows
end Go.Proofs.Ytbekjbgaenjbfaa
