/-
  No cell of these rows narrows 'for every input' (looked for: loops, veiled, ifaces, maps, wideKeys, modest, calm, conditions, laid).
  DERIVED. THE GIVEN ROWS OF THIS SEAT. 3 by the template 'for every input the law returns true; each argument reads behind the call as it read before'; 0 by the template 'total and deterministic' (their statements: YtcomkdndddkbeaaTotals.lean).
  GIVEN WITH THE SEED: the statements are not yours to turn. If you find one false, say at which input.
  Laid BY PROGRAM, IN A SANDBOX (cutbox-rows.mjs): the forced cells as the released guide's own fill.sh prints them over the translation 543d3387242107fe… (all of the seat's roots in one cut). By AI agents, Wed Nov 11 2026. No macro, syntax, notation, axiom, sorry.
-/
import Derived.Test.YtcomkdndddkbeaaChecked
import GoSem.Claim
import GoSem.ClaimJoined
import GoSem.ClaimMapViews
import Derived.JoinedTies
import Derived.KernelRfl
namespace Go.Proofs.Ytcomkdndddkbeaa
/- THE CELL 'sum', in the pinned program and in every row, IS THE sha256 OF THE DUMP (.gsa) THAT YtcomkdndddkbeaaProg.lean LOADS. Nothing in Lean hashes anything: it is a label: what it is worth is what the hold of that sum in a sandbox is worth. -/
noncomputable def Try.pinned : Pinned := { name := "ytcomkdndddkbeaa", sum := "543d3387242107fe8b3790e91d7e4d05c326f88970f7492295fcb4dca22a8ec1", checked := Try.checked }
namespace Rows
def none {H : Type} : Left H := { results := [], args := [] }

/-- 'locutionlaw42.PruneModels': WHATEVER THE INPUT: true; the input reads as it did. -/
def pruneModelsSpec : ChangeSpec := { name := "pruneModels", fn := fun _ => fun
  | [d1, d2] => { results := [.lit (.bool true)], args := [d1, d2] }
  | _ => none }
def pruneModelsRow : OpenClaim := { program := "ytcomkdndddkbeaa", sum := "543d3387242107fe8b3790e91d7e4d05c326f88970f7492295fcb4dca22a8ec1", func := "locution/locutionlaw42.PruneModels", spec := "pruneModels", unfollowed := true, recurses := true, apart := false }
def PruneModelsSaid : Prop := pruneModelsRow.holds Try.pinned (OpenSpec.ofChange pruneModelsSpec)

/-- ITS FALSE NEIGHBOUR: 'it returns false'. Refute it at one input. -/
def pruneModelsWrong : ChangeSpec := { name := "pruneModels", fn := fun _ => fun
  | [d1, d2] => { results := [.lit (.bool false)], args := [d1, d2] }
  | _ => none }
def PruneModelsWrongFalsely : Prop := pruneModelsRow.holds Try.pinned (OpenSpec.ofChange pruneModelsWrong)

/-- 'locutionlaw42.PruneStrong': WHATEVER THE INPUT: true; the input reads as it did. -/
def pruneStrongSpec : ChangeSpec := { name := "pruneStrong", fn := fun _ => fun
  | [d1, d2, d3] => { results := [.lit (.bool true)], args := [d1, d2, d3] }
  | _ => none }
def pruneStrongRow : OpenClaim := { program := "ytcomkdndddkbeaa", sum := "543d3387242107fe8b3790e91d7e4d05c326f88970f7492295fcb4dca22a8ec1", func := "locution/locutionlaw42.PruneStrong", spec := "pruneStrong", unfollowed := true, recurses := true, apart := false }
def PruneStrongSaid : Prop := pruneStrongRow.holds Try.pinned (OpenSpec.ofChange pruneStrongSpec)

/-- ITS FALSE NEIGHBOUR: 'it returns false'. Refute it at one input. -/
def pruneStrongWrong : ChangeSpec := { name := "pruneStrong", fn := fun _ => fun
  | [d1, d2, d3] => { results := [.lit (.bool false)], args := [d1, d2, d3] }
  | _ => none }
def PruneStrongWrongFalsely : Prop := pruneStrongRow.holds Try.pinned (OpenSpec.ofChange pruneStrongWrong)

/-- 'locutionlaw42.PruneShorter': WHATEVER THE INPUT: true; the input reads as it did. -/
def pruneShorterSpec : ChangeSpec := { name := "pruneShorter", fn := fun _ => fun
  | [d1, d2, d3] => { results := [.lit (.bool true)], args := [d1, d2, d3] }
  | _ => none }
def pruneShorterRow : OpenClaim := { program := "ytcomkdndddkbeaa", sum := "543d3387242107fe8b3790e91d7e4d05c326f88970f7492295fcb4dca22a8ec1", func := "locution/locutionlaw42.PruneShorter", spec := "pruneShorter", unfollowed := true, recurses := true, apart := false }
def PruneShorterSaid : Prop := pruneShorterRow.holds Try.pinned (OpenSpec.ofChange pruneShorterSpec)

/-- ITS FALSE NEIGHBOUR: 'it returns false'. Refute it at one input. -/
def pruneShorterWrong : ChangeSpec := { name := "pruneShorter", fn := fun _ => fun
  | [d1, d2, d3] => { results := [.lit (.bool false)], args := [d1, d2, d3] }
  | _ => none }
def PruneShorterWrongFalsely : Prop := pruneShorterRow.holds Try.pinned (OpenSpec.ofChange pruneShorterWrong)

/- THE SECOND FORM. 'bulk': how many values and letters a reading holds, each counted each time it is reached (what is shared counts as often as it is met; a slice's spare places count too). A statement '..UptoSaid' is the law's where the arguments, and the package variables that the reading takes, are together of bulk at most 1048576: NARROWER than '..Said'. Prove '..Said' where nothing that the law and all that it calls make is longer than what came in: it says more and counts as full. Else prove '..UptoSaid'. A law counts once. -/
mutual
def uptoBulk {H : Type} : DataW H → Nat
  | .lit (.string bytes) => bytes.length + 1
  | .lit _ => 1
  | .nil => 1
  | .ptr d => uptoBulk d + 1
  | .slice elems spare => uptoBulkAll elems + uptoBulkAll spare + 1
  | .agg parts => uptoBulkAll parts + 1
  | .iface _ d => uptoBulk d + 1
  | .map entries => uptoBulkEntries entries + 1
  | .held _ => 1
def uptoBulkAll {H : Type} : List (DataW H) → Nat
  | [] => 0
  | d :: r => uptoBulk d + uptoBulkAll r
def uptoBulkEntries {H : Type} : List (Lit × DataW H) → Nat
  | [] => 0
  | x :: r => uptoBulkEntry x + uptoBulkEntries r
def uptoBulkEntry {H : Type} : Lit × DataW H → Nat
  | (.string bytes, d) => bytes.length + uptoBulk d + 1
  | (_, d) => uptoBulk d + 1
 end
def uptoSmall : (H : Type) → List (DataW H) → Bool := fun _ ds => decide (uptoBulkAll ds ≤ 1048576)
def OpenSpec.upto (s : _root_.Go.ChangeSpec) : _root_.Go.OpenSpec := { _root_.Go.OpenSpec.ofChange s with cond := some uptoSmall }

/-- 'locutionlaw42.PruneModels', WHERE WHAT IT READS IS OF BULK AT MOST 1048576: true; the input reads as it did. -/
def pruneModelsUptoRow : OpenClaim := { program := "ytcomkdndddkbeaa", sum := "543d3387242107fe8b3790e91d7e4d05c326f88970f7492295fcb4dca22a8ec1", func := "locution/locutionlaw42.PruneModels", spec := "pruneModels", unfollowed := true, recurses := true, apart := false, narrowed := true }
def PruneModelsUptoSaid : Prop := pruneModelsUptoRow.holds Try.pinned (OpenSpec.upto pruneModelsSpec)

/-- 'locutionlaw42.PruneStrong', WHERE WHAT IT READS IS OF BULK AT MOST 1048576: true; the input reads as it did. -/
def pruneStrongUptoRow : OpenClaim := { program := "ytcomkdndddkbeaa", sum := "543d3387242107fe8b3790e91d7e4d05c326f88970f7492295fcb4dca22a8ec1", func := "locution/locutionlaw42.PruneStrong", spec := "pruneStrong", unfollowed := true, recurses := true, apart := false, narrowed := true }
def PruneStrongUptoSaid : Prop := pruneStrongUptoRow.holds Try.pinned (OpenSpec.upto pruneStrongSpec)

/-- 'locutionlaw42.PruneShorter', WHERE WHAT IT READS IS OF BULK AT MOST 1048576: true; the input reads as it did. -/
def pruneShorterUptoRow : OpenClaim := { program := "ytcomkdndddkbeaa", sum := "543d3387242107fe8b3790e91d7e4d05c326f88970f7492295fcb4dca22a8ec1", func := "locution/locutionlaw42.PruneShorter", spec := "pruneShorter", unfollowed := true, recurses := true, apart := false, narrowed := true }
def PruneShorterUptoSaid : Prop := pruneShorterUptoRow.holds Try.pinned (OpenSpec.upto pruneShorterSpec)

end Rows
end Go.Proofs.Ytcomkdndddkbeaa
