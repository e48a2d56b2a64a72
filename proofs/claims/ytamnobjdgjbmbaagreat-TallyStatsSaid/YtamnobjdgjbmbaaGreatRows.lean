/-
  No cell of these rows narrows 'for every input' (looked for: loops, veiled, ifaces, maps, wideKeys, modest, calm, conditions, laid).
  DERIVED. THE GIVEN ROWS OF THIS SEAT. 5 by the template 'for every input the law returns true; each argument reads behind the call as it read before'; 0 by the template 'total and deterministic' (their statements: YtamnobjdgjbmbaaGreatTotals.lean).
  GIVEN WITH THE SEED: the statements are not yours to turn. If you find one false, say at which input.
  Laid BY PROGRAM, IN A SANDBOX (cutbox-rows.mjs): the forced cells as the released guide's own fill.sh prints them over the translation 48dfb05339d2dc15… (all of the seat's roots in one cut). By AI agents, Wed Nov 11 2026. No macro, syntax, notation, axiom, sorry.
-/
import Derived.Test.YtamnobjdgjbmbaaGreatChecked
import GoSem.Claim
import GoSem.ClaimJoined
import GoSem.ClaimMapViews
import Derived.JoinedTies
import Derived.KernelRfl
namespace Go.Proofs.YtamnobjdgjbmbaaGreat
/- THE CELL 'sum', in the pinned program and in every row, IS THE sha256 OF THE DUMP (.gsa) THAT YtamnobjdgjbmbaaGreatProg.lean LOADS. Nothing in Lean hashes anything: it is a label: what it is worth is what the hold of that sum in a sandbox is worth. -/
noncomputable def Tryz.pinned : Pinned := { name := "ytamnobjdgjbmbaagreat", sum := "48dfb05339d2dc157da56ca6444f4d55d10eda4ebe4ba01803eb7febd528764e", checked := Tryz.checked }
namespace Rows
def none {H : Type} : Left H := { results := [], args := [] }

/-- 'locutionlaw21.MergeRuns': WHATEVER THE INPUT: true; the input reads as it did. -/
def mergeRunsSpec : ChangeSpec := { name := "mergeRuns", fn := fun _ => fun
  | [d1, d2, d3] => { results := [.lit (.bool true)], args := [d1, d2, d3] }
  | _ => none }
def mergeRunsRow : OpenClaim := { program := "ytamnobjdgjbmbaagreat", sum := "48dfb05339d2dc157da56ca6444f4d55d10eda4ebe4ba01803eb7febd528764e", func := "locution/locutionlaw21.MergeRuns", spec := "mergeRuns", inPlace := ["internal/abi.NoEscape"], unfollowed := true, recurses := true, apart := false }
def MergeRunsSaid : Prop := mergeRunsRow.holds Tryz.pinned (OpenSpec.ofChange mergeRunsSpec)

/-- ITS FALSE NEIGHBOUR: 'it returns false'. Refute it at one input. -/
def mergeRunsWrong : ChangeSpec := { name := "mergeRuns", fn := fun _ => fun
  | [d1, d2, d3] => { results := [.lit (.bool false)], args := [d1, d2, d3] }
  | _ => none }
def MergeRunsWrongFalsely : Prop := mergeRunsRow.holds Tryz.pinned (OpenSpec.ofChange mergeRunsWrong)

/-- 'locutionlaw21.MergeRefuses': WHATEVER THE INPUT: true; the input reads as it did. -/
def mergeRefusesSpec : ChangeSpec := { name := "mergeRefuses", fn := fun _ => fun
  | [d1, d2, d3] => { results := [.lit (.bool true)], args := [d1, d2, d3] }
  | _ => none }
def mergeRefusesRow : OpenClaim := { program := "ytamnobjdgjbmbaagreat", sum := "48dfb05339d2dc157da56ca6444f4d55d10eda4ebe4ba01803eb7febd528764e", func := "locution/locutionlaw21.MergeRefuses", spec := "mergeRefuses", inPlace := ["internal/abi.NoEscape"], unfollowed := true, recurses := true, apart := false }
def MergeRefusesSaid : Prop := mergeRefusesRow.holds Tryz.pinned (OpenSpec.ofChange mergeRefusesSpec)

/-- ITS FALSE NEIGHBOUR: 'it returns false'. Refute it at one input. -/
def mergeRefusesWrong : ChangeSpec := { name := "mergeRefuses", fn := fun _ => fun
  | [d1, d2, d3] => { results := [.lit (.bool false)], args := [d1, d2, d3] }
  | _ => none }
def MergeRefusesWrongFalsely : Prop := mergeRefusesRow.holds Tryz.pinned (OpenSpec.ofChange mergeRefusesWrong)

/-- 'locutionlaw22.TallyCounts': WHATEVER THE INPUT: true; the input reads as it did. -/
def tallyCountsSpec : ChangeSpec := { name := "tallyCounts", fn := fun _ => fun
  | [d1, d2, d3] => { results := [.lit (.bool true)], args := [d1, d2, d3] }
  | _ => none }
def tallyCountsRow : OpenClaim := { program := "ytamnobjdgjbmbaagreat", sum := "48dfb05339d2dc157da56ca6444f4d55d10eda4ebe4ba01803eb7febd528764e", func := "locution/locutionlaw22.TallyCounts", spec := "tallyCounts", inPlace := ["internal/abi.NoEscape"], unfollowed := true, recurses := true, apart := false }
def TallyCountsSaid : Prop := tallyCountsRow.holds Tryz.pinned (OpenSpec.ofChange tallyCountsSpec)

/-- ITS FALSE NEIGHBOUR: 'it returns false'. Refute it at one input. -/
def tallyCountsWrong : ChangeSpec := { name := "tallyCounts", fn := fun _ => fun
  | [d1, d2, d3] => { results := [.lit (.bool false)], args := [d1, d2, d3] }
  | _ => none }
def TallyCountsWrongFalsely : Prop := tallyCountsRow.holds Tryz.pinned (OpenSpec.ofChange tallyCountsWrong)

/-- 'locutionlaw22.TallyStats': WHATEVER THE INPUT: true; the input reads as it did. -/
def tallyStatsSpec : ChangeSpec := { name := "tallyStats", fn := fun _ => fun
  | [d1, d2, d3] => { results := [.lit (.bool true)], args := [d1, d2, d3] }
  | _ => none }
def tallyStatsRow : OpenClaim := { program := "ytamnobjdgjbmbaagreat", sum := "48dfb05339d2dc157da56ca6444f4d55d10eda4ebe4ba01803eb7febd528764e", func := "locution/locutionlaw22.TallyStats", spec := "tallyStats", inPlace := ["internal/abi.NoEscape"], unfollowed := true, recurses := true, apart := false }
def TallyStatsSaid : Prop := tallyStatsRow.holds Tryz.pinned (OpenSpec.ofChange tallyStatsSpec)

/-- ITS FALSE NEIGHBOUR: 'it returns false'. Refute it at one input. -/
def tallyStatsWrong : ChangeSpec := { name := "tallyStats", fn := fun _ => fun
  | [d1, d2, d3] => { results := [.lit (.bool false)], args := [d1, d2, d3] }
  | _ => none }
def TallyStatsWrongFalsely : Prop := tallyStatsRow.holds Tryz.pinned (OpenSpec.ofChange tallyStatsWrong)

/-- 'locutionlaw22.TallyFree': WHATEVER THE INPUT: true; the input reads as it did. -/
def tallyFreeSpec : ChangeSpec := { name := "tallyFree", fn := fun _ => fun
  | [d1, d2, d3] => { results := [.lit (.bool true)], args := [d1, d2, d3] }
  | _ => none }
def tallyFreeRow : OpenClaim := { program := "ytamnobjdgjbmbaagreat", sum := "48dfb05339d2dc157da56ca6444f4d55d10eda4ebe4ba01803eb7febd528764e", func := "locution/locutionlaw22.TallyFree", spec := "tallyFree", inPlace := ["internal/abi.NoEscape"], unfollowed := true, recurses := true, apart := false }
def TallyFreeSaid : Prop := tallyFreeRow.holds Tryz.pinned (OpenSpec.ofChange tallyFreeSpec)

/-- ITS FALSE NEIGHBOUR: 'it returns false'. Refute it at one input. -/
def tallyFreeWrong : ChangeSpec := { name := "tallyFree", fn := fun _ => fun
  | [d1, d2, d3] => { results := [.lit (.bool false)], args := [d1, d2, d3] }
  | _ => none }
def TallyFreeWrongFalsely : Prop := tallyFreeRow.holds Tryz.pinned (OpenSpec.ofChange tallyFreeWrong)

/- THE SECOND FORM. 'bulk': how many values and letters a reading holds, each counted each time it is reached (what is shared counts as often as it is met; a slice's spare places count too). A statement '..UptoSaid' is the law's where the arguments, and the package variables that the reading takes, are together of bulk at most 1048576: NARROWER than '..Said'. Prove '..Said' where nothing that the law and all that it calls make is longer than what came in: it says more and counts as full. Else prove '..UptoSaid'. A law counts once. -/
mutual
def uptoBulk {H : Type} : DataW H → Nat
  | .lit (.string bytes) => bytes.length + 1
  | .lit _ => 1
  | .nil => 1
  | .ptr d => uptoBulk d + 1
  | .slice elems spare => uptoBulkAll elems + uptoBulkAll spare + 1
  | .agg parts => uptoBulkAll parts + 1
  | .iface _ d => uptoBulk d + 1
  | .map entries => uptoBulkEntries entries + 1
  | .held _ => 1
def uptoBulkAll {H : Type} : List (DataW H) → Nat
  | [] => 0
  | d :: r => uptoBulk d + uptoBulkAll r
def uptoBulkEntries {H : Type} : List (Lit × DataW H) → Nat
  | [] => 0
  | x :: r => uptoBulkEntry x + uptoBulkEntries r
def uptoBulkEntry {H : Type} : Lit × DataW H → Nat
  | (.string bytes, d) => bytes.length + uptoBulk d + 1
  | (_, d) => uptoBulk d + 1
 end
def uptoSmall : (H : Type) → List (DataW H) → Bool := fun _ ds => decide (uptoBulkAll ds ≤ 1048576)
def OpenSpec.upto (s : _root_.Go.ChangeSpec) : _root_.Go.OpenSpec := { _root_.Go.OpenSpec.ofChange s with cond := some uptoSmall }

/-- 'locutionlaw21.MergeRuns', WHERE WHAT IT READS IS OF BULK AT MOST 1048576: true; the input reads as it did. -/
def mergeRunsUptoRow : OpenClaim := { program := "ytamnobjdgjbmbaagreat", sum := "48dfb05339d2dc157da56ca6444f4d55d10eda4ebe4ba01803eb7febd528764e", func := "locution/locutionlaw21.MergeRuns", spec := "mergeRuns", inPlace := ["internal/abi.NoEscape"], unfollowed := true, recurses := true, apart := false, narrowed := true }
def MergeRunsUptoSaid : Prop := mergeRunsUptoRow.holds Tryz.pinned (OpenSpec.upto mergeRunsSpec)

/-- 'locutionlaw21.MergeRefuses', WHERE WHAT IT READS IS OF BULK AT MOST 1048576: true; the input reads as it did. -/
def mergeRefusesUptoRow : OpenClaim := { program := "ytamnobjdgjbmbaagreat", sum := "48dfb05339d2dc157da56ca6444f4d55d10eda4ebe4ba01803eb7febd528764e", func := "locution/locutionlaw21.MergeRefuses", spec := "mergeRefuses", inPlace := ["internal/abi.NoEscape"], unfollowed := true, recurses := true, apart := false, narrowed := true }
def MergeRefusesUptoSaid : Prop := mergeRefusesUptoRow.holds Tryz.pinned (OpenSpec.upto mergeRefusesSpec)

/-- 'locutionlaw22.TallyCounts', WHERE WHAT IT READS IS OF BULK AT MOST 1048576: true; the input reads as it did. -/
def tallyCountsUptoRow : OpenClaim := { program := "ytamnobjdgjbmbaagreat", sum := "48dfb05339d2dc157da56ca6444f4d55d10eda4ebe4ba01803eb7febd528764e", func := "locution/locutionlaw22.TallyCounts", spec := "tallyCounts", inPlace := ["internal/abi.NoEscape"], unfollowed := true, recurses := true, apart := false, narrowed := true }
def TallyCountsUptoSaid : Prop := tallyCountsUptoRow.holds Tryz.pinned (OpenSpec.upto tallyCountsSpec)

/-- 'locutionlaw22.TallyStats', WHERE WHAT IT READS IS OF BULK AT MOST 1048576: true; the input reads as it did. -/
def tallyStatsUptoRow : OpenClaim := { program := "ytamnobjdgjbmbaagreat", sum := "48dfb05339d2dc157da56ca6444f4d55d10eda4ebe4ba01803eb7febd528764e", func := "locution/locutionlaw22.TallyStats", spec := "tallyStats", inPlace := ["internal/abi.NoEscape"], unfollowed := true, recurses := true, apart := false, narrowed := true }
def TallyStatsUptoSaid : Prop := tallyStatsUptoRow.holds Tryz.pinned (OpenSpec.upto tallyStatsSpec)

/-- 'locutionlaw22.TallyFree', WHERE WHAT IT READS IS OF BULK AT MOST 1048576: true; the input reads as it did. -/
def tallyFreeUptoRow : OpenClaim := { program := "ytamnobjdgjbmbaagreat", sum := "48dfb05339d2dc157da56ca6444f4d55d10eda4ebe4ba01803eb7febd528764e", func := "locution/locutionlaw22.TallyFree", spec := "tallyFree", inPlace := ["internal/abi.NoEscape"], unfollowed := true, recurses := true, apart := false, narrowed := true }
def TallyFreeUptoSaid : Prop := tallyFreeUptoRow.holds Tryz.pinned (OpenSpec.upto tallyFreeSpec)

end Rows
end Go.Proofs.YtamnobjdgjbmbaaGreat
