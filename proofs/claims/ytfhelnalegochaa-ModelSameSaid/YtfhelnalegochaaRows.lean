/-
  No cell of these rows narrows 'for every input' (looked for: loops, veiled, ifaces, maps, wideKeys, modest, calm, conditions, laid).
  DERIVED. THE GIVEN ROWS OF THIS SEAT. 12 by the template 'for every input the law returns true; each argument reads behind the call as it read before'; 0 by the template 'total and deterministic' (their statements: YtfhelnalegochaaTotals.lean).
  GIVEN WITH THE SEED: the statements are not yours to turn. If you find one false, say at which input.
  Laid BY PROGRAM, IN A SANDBOX (cutbox-rows.mjs): the forced cells as the released guide's own fill.sh prints them over the translation 936d3d122aab7b58… (all of the seat's roots in one cut). By AI agents, Wed Nov 11 2026. No macro, syntax, notation, axiom, sorry.
-/
import Derived.Test.YtfhelnalegochaaChecked
import GoSem.Claim
import GoSem.ClaimJoined
import GoSem.ClaimMapViews
import Derived.JoinedTies
import Derived.KernelRfl
namespace Go.Proofs.Ytfhelnalegochaa
/- THE CELL 'sum', in the pinned program and in every row, IS THE sha256 OF THE DUMP (.gsa) THAT YtfhelnalegochaaProg.lean LOADS. Nothing in Lean hashes anything: it is a label: what it is worth is what the hold of that sum in a sandbox is worth. -/
noncomputable def Try.pinned : Pinned := { name := "ytfhelnalegochaa", sum := "936d3d122aab7b584f4cf0e2023116764a41bbc6299e696c3dc880320c71c602", checked := Try.checked }
namespace Rows
def none {H : Type} : Left H := { results := [], args := [] }

/-- 'locutionlaw21.MergeLists': WHATEVER THE INPUT: true; the input reads as it did. -/
def mergeListsSpec : ChangeSpec := { name := "mergeLists", fn := fun _ => fun
  | [d] => { results := [.lit (.bool true)], args := [d] }
  | _ => none }
def mergeListsRow : OpenClaim := { program := "ytfhelnalegochaa", sum := "936d3d122aab7b584f4cf0e2023116764a41bbc6299e696c3dc880320c71c602", func := "locution/locutionlaw21.MergeLists", spec := "mergeLists", unfollowed := true, recurses := true, apart := false }
def MergeListsSaid : Prop := mergeListsRow.holds Try.pinned (OpenSpec.ofChange mergeListsSpec)

/-- ITS FALSE NEIGHBOUR: 'it returns false'. Refute it at one input. -/
def mergeListsWrong : ChangeSpec := { name := "mergeLists", fn := fun _ => fun
  | [d] => { results := [.lit (.bool false)], args := [d] }
  | _ => none }
def MergeListsWrongFalsely : Prop := mergeListsRow.holds Try.pinned (OpenSpec.ofChange mergeListsWrong)

/-- 'locutionlaw21.MergePasses': WHATEVER THE INPUT: true; the input reads as it did. -/
def mergePassesSpec : ChangeSpec := { name := "mergePasses", fn := fun _ => fun
  | [d1, d2] => { results := [.lit (.bool true)], args := [d1, d2] }
  | _ => none }
def mergePassesRow : OpenClaim := { program := "ytfhelnalegochaa", sum := "936d3d122aab7b584f4cf0e2023116764a41bbc6299e696c3dc880320c71c602", func := "locution/locutionlaw21.MergePasses", spec := "mergePasses", unfollowed := true, recurses := true, apart := false }
def MergePassesSaid : Prop := mergePassesRow.holds Try.pinned (OpenSpec.ofChange mergePassesSpec)

/-- ITS FALSE NEIGHBOUR: 'it returns false'. Refute it at one input. -/
def mergePassesWrong : ChangeSpec := { name := "mergePasses", fn := fun _ => fun
  | [d1, d2] => { results := [.lit (.bool false)], args := [d1, d2] }
  | _ => none }
def MergePassesWrongFalsely : Prop := mergePassesRow.holds Try.pinned (OpenSpec.ofChange mergePassesWrong)

/-- 'locutionlaw16.WindowGrams': WHATEVER THE INPUT: true; the input reads as it did. -/
def windowGramsSpec : ChangeSpec := { name := "windowGrams", fn := fun _ => fun
  | [d1, d2, d3] => { results := [.lit (.bool true)], args := [d1, d2, d3] }
  | _ => none }
def windowGramsRow : OpenClaim := { program := "ytfhelnalegochaa", sum := "936d3d122aab7b584f4cf0e2023116764a41bbc6299e696c3dc880320c71c602", func := "locution/locutionlaw16.WindowGrams", spec := "windowGrams", unfollowed := true, recurses := true, apart := false }
def WindowGramsSaid : Prop := windowGramsRow.holds Try.pinned (OpenSpec.ofChange windowGramsSpec)

/-- ITS FALSE NEIGHBOUR: 'it returns false'. Refute it at one input. -/
def windowGramsWrong : ChangeSpec := { name := "windowGrams", fn := fun _ => fun
  | [d1, d2, d3] => { results := [.lit (.bool false)], args := [d1, d2, d3] }
  | _ => none }
def WindowGramsWrongFalsely : Prop := windowGramsRow.holds Try.pinned (OpenSpec.ofChange windowGramsWrong)

/-- 'locutionlaw16.WindowEach': WHATEVER THE INPUT: true; the input reads as it did. -/
def windowEachSpec : ChangeSpec := { name := "windowEach", fn := fun _ => fun
  | [d1, d2, d3] => { results := [.lit (.bool true)], args := [d1, d2, d3] }
  | _ => none }
def windowEachRow : OpenClaim := { program := "ytfhelnalegochaa", sum := "936d3d122aab7b584f4cf0e2023116764a41bbc6299e696c3dc880320c71c602", func := "locution/locutionlaw16.WindowEach", spec := "windowEach", unfollowed := true, recurses := true, apart := false }
def WindowEachSaid : Prop := windowEachRow.holds Try.pinned (OpenSpec.ofChange windowEachSpec)

/-- ITS FALSE NEIGHBOUR: 'it returns false'. Refute it at one input. -/
def windowEachWrong : ChangeSpec := { name := "windowEach", fn := fun _ => fun
  | [d1, d2, d3] => { results := [.lit (.bool false)], args := [d1, d2, d3] }
  | _ => none }
def WindowEachWrongFalsely : Prop := windowEachRow.holds Try.pinned (OpenSpec.ofChange windowEachWrong)

/-- 'locutionlaw16.WindowCounts': WHATEVER THE INPUT: true; the input reads as it did. -/
def windowCountsSpec : ChangeSpec := { name := "windowCounts", fn := fun _ => fun
  | [d1, d2, d3] => { results := [.lit (.bool true)], args := [d1, d2, d3] }
  | _ => none }
def windowCountsRow : OpenClaim := { program := "ytfhelnalegochaa", sum := "936d3d122aab7b584f4cf0e2023116764a41bbc6299e696c3dc880320c71c602", func := "locution/locutionlaw16.WindowCounts", spec := "windowCounts", unfollowed := true, recurses := true, apart := false }
def WindowCountsSaid : Prop := windowCountsRow.holds Try.pinned (OpenSpec.ofChange windowCountsSpec)

/-- ITS FALSE NEIGHBOUR: 'it returns false'. Refute it at one input. -/
def windowCountsWrong : ChangeSpec := { name := "windowCounts", fn := fun _ => fun
  | [d1, d2, d3] => { results := [.lit (.bool false)], args := [d1, d2, d3] }
  | _ => none }
def WindowCountsWrongFalsely : Prop := windowCountsRow.holds Try.pinned (OpenSpec.ofChange windowCountsWrong)

/-- 'locutionlaw15.VocabLearns': WHATEVER THE INPUT: true; the input reads as it did. -/
def vocabLearnsSpec : ChangeSpec := { name := "vocabLearns", fn := fun _ => fun
  | [d1, d2] => { results := [.lit (.bool true)], args := [d1, d2] }
  | _ => none }
def vocabLearnsRow : OpenClaim := { program := "ytfhelnalegochaa", sum := "936d3d122aab7b584f4cf0e2023116764a41bbc6299e696c3dc880320c71c602", func := "locution/locutionlaw15.VocabLearns", spec := "vocabLearns", inPlace := ["internal/bytealg.IndexByteString", "internal/bytealg.IndexString"], unfollowed := true, recurses := true, named := ["internal/bytealg.MaxLen"], apart := false }
def VocabLearnsSaid : Prop := vocabLearnsRow.holds Try.pinned (OpenSpec.ofChange vocabLearnsSpec)

/-- ITS FALSE NEIGHBOUR: 'it returns false'. Refute it at one input. -/
def vocabLearnsWrong : ChangeSpec := { name := "vocabLearns", fn := fun _ => fun
  | [d1, d2] => { results := [.lit (.bool false)], args := [d1, d2] }
  | _ => none }
def VocabLearnsWrongFalsely : Prop := vocabLearnsRow.holds Try.pinned (OpenSpec.ofChange vocabLearnsWrong)

/-- 'locutionlaw31.ModelChecks': WHATEVER THE INPUT: true; the input reads as it did. -/
def modelChecksSpec : ChangeSpec := { name := "modelChecks", fn := fun _ => fun
  | [d] => { results := [.lit (.bool true)], args := [d] }
  | _ => none }
def modelChecksRow : OpenClaim := { program := "ytfhelnalegochaa", sum := "936d3d122aab7b584f4cf0e2023116764a41bbc6299e696c3dc880320c71c602", func := "locution/locutionlaw31.ModelChecks", spec := "modelChecks", unfollowed := true, recurses := true, apart := false }
def ModelChecksSaid : Prop := modelChecksRow.holds Try.pinned (OpenSpec.ofChange modelChecksSpec)

/-- ITS FALSE NEIGHBOUR: 'it returns false'. Refute it at one input. -/
def modelChecksWrong : ChangeSpec := { name := "modelChecks", fn := fun _ => fun
  | [d] => { results := [.lit (.bool false)], args := [d] }
  | _ => none }
def ModelChecksWrongFalsely : Prop := modelChecksRow.holds Try.pinned (OpenSpec.ofChange modelChecksWrong)

/-- 'locutionlaw31.ModelProbs': WHATEVER THE INPUT: true; the input reads as it did. -/
def modelProbsSpec : ChangeSpec := { name := "modelProbs", fn := fun _ => fun
  | [d1, d2, d3] => { results := [.lit (.bool true)], args := [d1, d2, d3] }
  | _ => none }
def modelProbsRow : OpenClaim := { program := "ytfhelnalegochaa", sum := "936d3d122aab7b584f4cf0e2023116764a41bbc6299e696c3dc880320c71c602", func := "locution/locutionlaw31.ModelProbs", spec := "modelProbs", unfollowed := true, recurses := true, apart := false }
def ModelProbsSaid : Prop := modelProbsRow.holds Try.pinned (OpenSpec.ofChange modelProbsSpec)

/-- ITS FALSE NEIGHBOUR: 'it returns false'. Refute it at one input. -/
def modelProbsWrong : ChangeSpec := { name := "modelProbs", fn := fun _ => fun
  | [d1, d2, d3] => { results := [.lit (.bool false)], args := [d1, d2, d3] }
  | _ => none }
def ModelProbsWrongFalsely : Prop := modelProbsRow.holds Try.pinned (OpenSpec.ofChange modelProbsWrong)

/-- 'locutionlaw31.ModelFinds': WHATEVER THE INPUT: true; the input reads as it did. -/
def modelFindsSpec : ChangeSpec := { name := "modelFinds", fn := fun _ => fun
  | [d1, d2] => { results := [.lit (.bool true)], args := [d1, d2] }
  | _ => none }
def modelFindsRow : OpenClaim := { program := "ytfhelnalegochaa", sum := "936d3d122aab7b584f4cf0e2023116764a41bbc6299e696c3dc880320c71c602", func := "locution/locutionlaw31.ModelFinds", spec := "modelFinds", unfollowed := true, recurses := true, apart := false }
def ModelFindsSaid : Prop := modelFindsRow.holds Try.pinned (OpenSpec.ofChange modelFindsSpec)

/-- ITS FALSE NEIGHBOUR: 'it returns false'. Refute it at one input. -/
def modelFindsWrong : ChangeSpec := { name := "modelFinds", fn := fun _ => fun
  | [d1, d2] => { results := [.lit (.bool false)], args := [d1, d2] }
  | _ => none }
def ModelFindsWrongFalsely : Prop := modelFindsRow.holds Try.pinned (OpenSpec.ofChange modelFindsWrong)

/-- 'locutionlaw15.VocabOf': WHATEVER THE INPUT: true; the input reads as it did. -/
def vocabOfSpec : ChangeSpec := { name := "vocabOf", fn := fun _ => fun
  | [d1, d2] => { results := [.lit (.bool true)], args := [d1, d2] }
  | _ => none }
def vocabOfRow : OpenClaim := { program := "ytfhelnalegochaa", sum := "936d3d122aab7b584f4cf0e2023116764a41bbc6299e696c3dc880320c71c602", func := "locution/locutionlaw15.VocabOf", spec := "vocabOf", inPlace := ["internal/bytealg.IndexByteString", "internal/bytealg.IndexString"], unfollowed := true, recurses := true, named := ["internal/bytealg.MaxLen"], apart := false }
def VocabOfSaid : Prop := vocabOfRow.holds Try.pinned (OpenSpec.ofChange vocabOfSpec)

/-- ITS FALSE NEIGHBOUR: 'it returns false'. Refute it at one input. -/
def vocabOfWrong : ChangeSpec := { name := "vocabOf", fn := fun _ => fun
  | [d1, d2] => { results := [.lit (.bool false)], args := [d1, d2] }
  | _ => none }
def VocabOfWrongFalsely : Prop := vocabOfRow.holds Try.pinned (OpenSpec.ofChange vocabOfWrong)

/-- 'locutionlaw15.VocabAdds': WHATEVER THE INPUT: true; the input reads as it did. -/
def vocabAddsSpec : ChangeSpec := { name := "vocabAdds", fn := fun _ => fun
  | [d1, d2] => { results := [.lit (.bool true)], args := [d1, d2] }
  | _ => none }
def vocabAddsRow : OpenClaim := { program := "ytfhelnalegochaa", sum := "936d3d122aab7b584f4cf0e2023116764a41bbc6299e696c3dc880320c71c602", func := "locution/locutionlaw15.VocabAdds", spec := "vocabAdds", inPlace := ["internal/bytealg.IndexByteString", "internal/bytealg.IndexString"], unfollowed := true, recurses := true, named := ["internal/bytealg.MaxLen"], apart := false }
def VocabAddsSaid : Prop := vocabAddsRow.holds Try.pinned (OpenSpec.ofChange vocabAddsSpec)

/-- ITS FALSE NEIGHBOUR: 'it returns false'. Refute it at one input. -/
def vocabAddsWrong : ChangeSpec := { name := "vocabAdds", fn := fun _ => fun
  | [d1, d2] => { results := [.lit (.bool false)], args := [d1, d2] }
  | _ => none }
def VocabAddsWrongFalsely : Prop := vocabAddsRow.holds Try.pinned (OpenSpec.ofChange vocabAddsWrong)

/-- 'locutionlaw31.ModelSame': WHATEVER THE INPUT: true; the input reads as it did. -/
def modelSameSpec : ChangeSpec := { name := "modelSame", fn := fun _ => fun
  | [d1, d2] => { results := [.lit (.bool true)], args := [d1, d2] }
  | _ => none }
def modelSameRow : OpenClaim := { program := "ytfhelnalegochaa", sum := "936d3d122aab7b584f4cf0e2023116764a41bbc6299e696c3dc880320c71c602", func := "locution/locutionlaw31.ModelSame", spec := "modelSame", unfollowed := true, recurses := true, apart := false }
def ModelSameSaid : Prop := modelSameRow.holds Try.pinned (OpenSpec.ofChange modelSameSpec)

/-- ITS FALSE NEIGHBOUR: 'it returns false'. Refute it at one input. -/
def modelSameWrong : ChangeSpec := { name := "modelSame", fn := fun _ => fun
  | [d1, d2] => { results := [.lit (.bool false)], args := [d1, d2] }
  | _ => none }
def ModelSameWrongFalsely : Prop := modelSameRow.holds Try.pinned (OpenSpec.ofChange modelSameWrong)

/- THE SECOND FORM. 'bulk': how many values and letters a reading holds, each counted each time it is reached (what is shared counts as often as it is met; a slice's spare places count too). A statement '..UptoSaid' is the law's where the arguments, and the package variables that the reading takes, are together of bulk at most 1048576: NARROWER than '..Said'. Prove '..Said' where nothing that the law and all that it calls make is longer than what came in: it says more and counts as full. Else prove '..UptoSaid'. A law counts once. -/
mutual
def uptoBulk {H : Type} : DataW H → Nat
  | .lit (.string bytes) => bytes.length + 1
  | .lit _ => 1
  | .nil => 1
  | .ptr d => uptoBulk d + 1
  | .slice elems spare => uptoBulkAll elems + uptoBulkAll spare + 1
  | .agg parts => uptoBulkAll parts + 1
  | .iface _ d => uptoBulk d + 1
  | .map entries => uptoBulkEntries entries + 1
  | .held _ => 1
def uptoBulkAll {H : Type} : List (DataW H) → Nat
  | [] => 0
  | d :: r => uptoBulk d + uptoBulkAll r
def uptoBulkEntries {H : Type} : List (Lit × DataW H) → Nat
  | [] => 0
  | x :: r => uptoBulkEntry x + uptoBulkEntries r
def uptoBulkEntry {H : Type} : Lit × DataW H → Nat
  | (.string bytes, d) => bytes.length + uptoBulk d + 1
  | (_, d) => uptoBulk d + 1
 end
def uptoSmall : (H : Type) → List (DataW H) → Bool := fun _ ds => decide (uptoBulkAll ds ≤ 1048576)
def OpenSpec.upto (s : _root_.Go.ChangeSpec) : _root_.Go.OpenSpec := { _root_.Go.OpenSpec.ofChange s with cond := some uptoSmall }

/-- 'locutionlaw21.MergeLists', WHERE WHAT IT READS IS OF BULK AT MOST 1048576: true; the input reads as it did. -/
def mergeListsUptoRow : OpenClaim := { program := "ytfhelnalegochaa", sum := "936d3d122aab7b584f4cf0e2023116764a41bbc6299e696c3dc880320c71c602", func := "locution/locutionlaw21.MergeLists", spec := "mergeLists", unfollowed := true, recurses := true, apart := false, narrowed := true }
def MergeListsUptoSaid : Prop := mergeListsUptoRow.holds Try.pinned (OpenSpec.upto mergeListsSpec)

/-- 'locutionlaw21.MergePasses', WHERE WHAT IT READS IS OF BULK AT MOST 1048576: true; the input reads as it did. -/
def mergePassesUptoRow : OpenClaim := { program := "ytfhelnalegochaa", sum := "936d3d122aab7b584f4cf0e2023116764a41bbc6299e696c3dc880320c71c602", func := "locution/locutionlaw21.MergePasses", spec := "mergePasses", unfollowed := true, recurses := true, apart := false, narrowed := true }
def MergePassesUptoSaid : Prop := mergePassesUptoRow.holds Try.pinned (OpenSpec.upto mergePassesSpec)

/-- 'locutionlaw16.WindowGrams', WHERE WHAT IT READS IS OF BULK AT MOST 1048576: true; the input reads as it did. -/
def windowGramsUptoRow : OpenClaim := { program := "ytfhelnalegochaa", sum := "936d3d122aab7b584f4cf0e2023116764a41bbc6299e696c3dc880320c71c602", func := "locution/locutionlaw16.WindowGrams", spec := "windowGrams", unfollowed := true, recurses := true, apart := false, narrowed := true }
def WindowGramsUptoSaid : Prop := windowGramsUptoRow.holds Try.pinned (OpenSpec.upto windowGramsSpec)

/-- 'locutionlaw16.WindowEach', WHERE WHAT IT READS IS OF BULK AT MOST 1048576: true; the input reads as it did. -/
def windowEachUptoRow : OpenClaim := { program := "ytfhelnalegochaa", sum := "936d3d122aab7b584f4cf0e2023116764a41bbc6299e696c3dc880320c71c602", func := "locution/locutionlaw16.WindowEach", spec := "windowEach", unfollowed := true, recurses := true, apart := false, narrowed := true }
def WindowEachUptoSaid : Prop := windowEachUptoRow.holds Try.pinned (OpenSpec.upto windowEachSpec)

/-- 'locutionlaw16.WindowCounts', WHERE WHAT IT READS IS OF BULK AT MOST 1048576: true; the input reads as it did. -/
def windowCountsUptoRow : OpenClaim := { program := "ytfhelnalegochaa", sum := "936d3d122aab7b584f4cf0e2023116764a41bbc6299e696c3dc880320c71c602", func := "locution/locutionlaw16.WindowCounts", spec := "windowCounts", unfollowed := true, recurses := true, apart := false, narrowed := true }
def WindowCountsUptoSaid : Prop := windowCountsUptoRow.holds Try.pinned (OpenSpec.upto windowCountsSpec)

/-- 'locutionlaw15.VocabLearns', WHERE WHAT IT READS IS OF BULK AT MOST 1048576: true; the input reads as it did. -/
def vocabLearnsUptoRow : OpenClaim := { program := "ytfhelnalegochaa", sum := "936d3d122aab7b584f4cf0e2023116764a41bbc6299e696c3dc880320c71c602", func := "locution/locutionlaw15.VocabLearns", spec := "vocabLearns", inPlace := ["internal/bytealg.IndexByteString", "internal/bytealg.IndexString"], unfollowed := true, recurses := true, named := ["internal/bytealg.MaxLen"], apart := false, narrowed := true }
def VocabLearnsUptoSaid : Prop := vocabLearnsUptoRow.holds Try.pinned (OpenSpec.upto vocabLearnsSpec)

/-- 'locutionlaw31.ModelChecks', WHERE WHAT IT READS IS OF BULK AT MOST 1048576: true; the input reads as it did. -/
def modelChecksUptoRow : OpenClaim := { program := "ytfhelnalegochaa", sum := "936d3d122aab7b584f4cf0e2023116764a41bbc6299e696c3dc880320c71c602", func := "locution/locutionlaw31.ModelChecks", spec := "modelChecks", unfollowed := true, recurses := true, apart := false, narrowed := true }
def ModelChecksUptoSaid : Prop := modelChecksUptoRow.holds Try.pinned (OpenSpec.upto modelChecksSpec)

/-- 'locutionlaw31.ModelProbs', WHERE WHAT IT READS IS OF BULK AT MOST 1048576: true; the input reads as it did. -/
def modelProbsUptoRow : OpenClaim := { program := "ytfhelnalegochaa", sum := "936d3d122aab7b584f4cf0e2023116764a41bbc6299e696c3dc880320c71c602", func := "locution/locutionlaw31.ModelProbs", spec := "modelProbs", unfollowed := true, recurses := true, apart := false, narrowed := true }
def ModelProbsUptoSaid : Prop := modelProbsUptoRow.holds Try.pinned (OpenSpec.upto modelProbsSpec)

/-- 'locutionlaw31.ModelFinds', WHERE WHAT IT READS IS OF BULK AT MOST 1048576: true; the input reads as it did. -/
def modelFindsUptoRow : OpenClaim := { program := "ytfhelnalegochaa", sum := "936d3d122aab7b584f4cf0e2023116764a41bbc6299e696c3dc880320c71c602", func := "locution/locutionlaw31.ModelFinds", spec := "modelFinds", unfollowed := true, recurses := true, apart := false, narrowed := true }
def ModelFindsUptoSaid : Prop := modelFindsUptoRow.holds Try.pinned (OpenSpec.upto modelFindsSpec)

/-- 'locutionlaw15.VocabOf', WHERE WHAT IT READS IS OF BULK AT MOST 1048576: true; the input reads as it did. -/
def vocabOfUptoRow : OpenClaim := { program := "ytfhelnalegochaa", sum := "936d3d122aab7b584f4cf0e2023116764a41bbc6299e696c3dc880320c71c602", func := "locution/locutionlaw15.VocabOf", spec := "vocabOf", inPlace := ["internal/bytealg.IndexByteString", "internal/bytealg.IndexString"], unfollowed := true, recurses := true, named := ["internal/bytealg.MaxLen"], apart := false, narrowed := true }
def VocabOfUptoSaid : Prop := vocabOfUptoRow.holds Try.pinned (OpenSpec.upto vocabOfSpec)

/-- 'locutionlaw15.VocabAdds', WHERE WHAT IT READS IS OF BULK AT MOST 1048576: true; the input reads as it did. -/
def vocabAddsUptoRow : OpenClaim := { program := "ytfhelnalegochaa", sum := "936d3d122aab7b584f4cf0e2023116764a41bbc6299e696c3dc880320c71c602", func := "locution/locutionlaw15.VocabAdds", spec := "vocabAdds", inPlace := ["internal/bytealg.IndexByteString", "internal/bytealg.IndexString"], unfollowed := true, recurses := true, named := ["internal/bytealg.MaxLen"], apart := false, narrowed := true }
def VocabAddsUptoSaid : Prop := vocabAddsUptoRow.holds Try.pinned (OpenSpec.upto vocabAddsSpec)

/-- 'locutionlaw31.ModelSame', WHERE WHAT IT READS IS OF BULK AT MOST 1048576: true; the input reads as it did. -/
def modelSameUptoRow : OpenClaim := { program := "ytfhelnalegochaa", sum := "936d3d122aab7b584f4cf0e2023116764a41bbc6299e696c3dc880320c71c602", func := "locution/locutionlaw31.ModelSame", spec := "modelSame", unfollowed := true, recurses := true, apart := false, narrowed := true }
def ModelSameUptoSaid : Prop := modelSameUptoRow.holds Try.pinned (OpenSpec.upto modelSameSpec)

end Rows
end Go.Proofs.Ytfhelnalegochaa
