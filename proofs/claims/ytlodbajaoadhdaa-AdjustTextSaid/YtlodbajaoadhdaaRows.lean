/-
  No cell of these rows narrows 'for every input' (looked for: loops, veiled, ifaces, maps, wideKeys, modest, calm, conditions, laid).
  DERIVED. THE GIVEN ROWS OF THIS SEAT. 12 by the template 'for every input the law returns true; each argument reads behind the call as it read before'; 0 by the template 'total and deterministic' (their statements: YtlodbajaoadhdaaTotals.lean).
  GIVEN WITH THE SEED: the statements are not yours to turn. If you find one false, say at which input.
  Laid BY PROGRAM, IN A SANDBOX (cutbox-rows.mjs): the forced cells as the released guide's own fill.sh prints them over the translation c00d77722ecb9695… (all of the seat's roots in one cut). By AI agents, Wed Nov 11 2026. No macro, syntax, notation, axiom, sorry.
-/
import Derived.Test.YtlodbajaoadhdaaChecked
import GoSem.Claim
import GoSem.ClaimJoined
import GoSem.ClaimMapViews
import Derived.JoinedTies
import Derived.KernelRfl
namespace Go.Proofs.Ytlodbajaoadhdaa
/- THE CELL 'sum', in the pinned program and in every row, IS THE sha256 OF THE DUMP (.gsa) THAT YtlodbajaoadhdaaProg.lean LOADS. Nothing in Lean hashes anything: it is a label: what it is worth is what the hold of that sum in a sandbox is worth. -/
noncomputable def Try.pinned : Pinned := { name := "ytlodbajaoadhdaa", sum := "c00d77722ecb969560788a0d32b70aeb522483a7bdbde592b9f6de54cdb628e5", checked := Try.checked }
namespace Rows
def none {H : Type} : Left H := { results := [], args := [] }

/-- 'locutionlaw16.WindowPads': WHATEVER THE INPUT: true; the input reads as it did. -/
def windowPadsSpec : ChangeSpec := { name := "windowPads", fn := fun _ => fun
  | [d1, d2, d3] => { results := [.lit (.bool true)], args := [d1, d2, d3] }
  | _ => none }
def windowPadsRow : OpenClaim := { program := "ytlodbajaoadhdaa", sum := "c00d77722ecb969560788a0d32b70aeb522483a7bdbde592b9f6de54cdb628e5", func := "locution/locutionlaw16.WindowPads", spec := "windowPads", inPlace := ["internal/bytealg.IndexByteString", "internal/bytealg.IndexString"], unfollowed := true, recurses := true, named := ["internal/bytealg.MaxLen"], apart := false }
def WindowPadsSaid : Prop := windowPadsRow.holds Try.pinned (OpenSpec.ofChange windowPadsSpec)

/-- ITS FALSE NEIGHBOUR: 'it returns false'. Refute it at one input. -/
def windowPadsWrong : ChangeSpec := { name := "windowPads", fn := fun _ => fun
  | [d1, d2, d3] => { results := [.lit (.bool false)], args := [d1, d2, d3] }
  | _ => none }
def WindowPadsWrongFalsely : Prop := windowPadsRow.holds Try.pinned (OpenSpec.ofChange windowPadsWrong)

/-- 'locutionlaw15.VocabLines': WHATEVER THE INPUT: true; the input reads as it did. -/
def vocabLinesSpec : ChangeSpec := { name := "vocabLines", fn := fun _ => fun
  | [d1, d2, d3] => { results := [.lit (.bool true)], args := [d1, d2, d3] }
  | _ => none }
def vocabLinesRow : OpenClaim := { program := "ytlodbajaoadhdaa", sum := "c00d77722ecb969560788a0d32b70aeb522483a7bdbde592b9f6de54cdb628e5", func := "locution/locutionlaw15.VocabLines", spec := "vocabLines", inPlace := ["internal/bytealg.IndexByteString", "internal/bytealg.IndexString", "internal/abi.NoEscape", "internal/bytealg.MakeNoZero"], unfollowed := true, recurses := true, named := ["internal/bytealg.MaxLen"], apart := false }
def VocabLinesSaid : Prop := vocabLinesRow.holds Try.pinned (OpenSpec.ofChange vocabLinesSpec)

/-- ITS FALSE NEIGHBOUR: 'it returns false'. Refute it at one input. -/
def vocabLinesWrong : ChangeSpec := { name := "vocabLines", fn := fun _ => fun
  | [d1, d2, d3] => { results := [.lit (.bool false)], args := [d1, d2, d3] }
  | _ => none }
def VocabLinesWrongFalsely : Prop := vocabLinesRow.holds Try.pinned (OpenSpec.ofChange vocabLinesWrong)

/-- 'locutionlaw18.GramCompares': WHATEVER THE INPUT: true; the input reads as it did. -/
def gramComparesSpec : ChangeSpec := { name := "gramCompares", fn := fun _ => fun
  | [d1, d2] => { results := [.lit (.bool true)], args := [d1, d2] }
  | _ => none }
def gramComparesRow : OpenClaim := { program := "ytlodbajaoadhdaa", sum := "c00d77722ecb969560788a0d32b70aeb522483a7bdbde592b9f6de54cdb628e5", func := "locution/locutionlaw18.GramCompares", spec := "gramCompares", unfollowed := true, recurses := true, apart := false }
def GramComparesSaid : Prop := gramComparesRow.holds Try.pinned (OpenSpec.ofChange gramComparesSpec)

/-- ITS FALSE NEIGHBOUR: 'it returns false'. Refute it at one input. -/
def gramComparesWrong : ChangeSpec := { name := "gramCompares", fn := fun _ => fun
  | [d1, d2] => { results := [.lit (.bool false)], args := [d1, d2] }
  | _ => none }
def GramComparesWrongFalsely : Prop := gramComparesRow.holds Try.pinned (OpenSpec.ofChange gramComparesWrong)

/-- 'locutionlaw18.GramKeys': WHATEVER THE INPUT: true; the input reads as it did. -/
def gramKeysSpec : ChangeSpec := { name := "gramKeys", fn := fun _ => fun
  | [d1, d2] => { results := [.lit (.bool true)], args := [d1, d2] }
  | _ => none }
def gramKeysRow : OpenClaim := { program := "ytlodbajaoadhdaa", sum := "c00d77722ecb969560788a0d32b70aeb522483a7bdbde592b9f6de54cdb628e5", func := "locution/locutionlaw18.GramKeys", spec := "gramKeys", unfollowed := true, recurses := true, apart := false }
def GramKeysSaid : Prop := gramKeysRow.holds Try.pinned (OpenSpec.ofChange gramKeysSpec)

/-- ITS FALSE NEIGHBOUR: 'it returns false'. Refute it at one input. -/
def gramKeysWrong : ChangeSpec := { name := "gramKeys", fn := fun _ => fun
  | [d1, d2] => { results := [.lit (.bool false)], args := [d1, d2] }
  | _ => none }
def GramKeysWrongFalsely : Prop := gramKeysRow.holds Try.pinned (OpenSpec.ofChange gramKeysWrong)

/-- 'locutionlaw18.GramParses': WHATEVER THE INPUT: true; the input reads as it did. -/
def gramParsesSpec : ChangeSpec := { name := "gramParses", fn := fun _ => fun
  | [d] => { results := [.lit (.bool true)], args := [d] }
  | _ => none }
def gramParsesRow : OpenClaim := { program := "ytlodbajaoadhdaa", sum := "c00d77722ecb969560788a0d32b70aeb522483a7bdbde592b9f6de54cdb628e5", func := "locution/locutionlaw18.GramParses", spec := "gramParses", unfollowed := true, recurses := true, apart := false }
def GramParsesSaid : Prop := gramParsesRow.holds Try.pinned (OpenSpec.ofChange gramParsesSpec)

/-- ITS FALSE NEIGHBOUR: 'it returns false'. Refute it at one input. -/
def gramParsesWrong : ChangeSpec := { name := "gramParses", fn := fun _ => fun
  | [d] => { results := [.lit (.bool false)], args := [d] }
  | _ => none }
def GramParsesWrongFalsely : Prop := gramParsesRow.holds Try.pinned (OpenSpec.ofChange gramParsesWrong)

/-- 'locutionlaw30.QuantTrains': WHATEVER THE INPUT: true; the input reads as it did. -/
def quantTrainsSpec : ChangeSpec := { name := "quantTrains", fn := fun _ => fun
  | [d1, d2] => { results := [.lit (.bool true)], args := [d1, d2] }
  | _ => none }
def quantTrainsRow : OpenClaim := { program := "ytlodbajaoadhdaa", sum := "c00d77722ecb969560788a0d32b70aeb522483a7bdbde592b9f6de54cdb628e5", func := "locution/locutionlaw30.QuantTrains", spec := "quantTrains", recurses := true, apart := false }
def QuantTrainsSaid : Prop := quantTrainsRow.holds Try.pinned (OpenSpec.ofChange quantTrainsSpec)

/-- ITS FALSE NEIGHBOUR: 'it returns false'. Refute it at one input. -/
def quantTrainsWrong : ChangeSpec := { name := "quantTrains", fn := fun _ => fun
  | [d1, d2] => { results := [.lit (.bool false)], args := [d1, d2] }
  | _ => none }
def QuantTrainsWrongFalsely : Prop := quantTrainsRow.holds Try.pinned (OpenSpec.ofChange quantTrainsWrong)

/-- 'locutionlaw30.QuantFew': WHATEVER THE INPUT: true; the input reads as it did. -/
def quantFewSpec : ChangeSpec := { name := "quantFew", fn := fun _ => fun
  | [d1, d2] => { results := [.lit (.bool true)], args := [d1, d2] }
  | _ => none }
def quantFewRow : OpenClaim := { program := "ytlodbajaoadhdaa", sum := "c00d77722ecb969560788a0d32b70aeb522483a7bdbde592b9f6de54cdb628e5", func := "locution/locutionlaw30.QuantFew", spec := "quantFew", recurses := true, apart := false }
def QuantFewSaid : Prop := quantFewRow.holds Try.pinned (OpenSpec.ofChange quantFewSpec)

/-- ITS FALSE NEIGHBOUR: 'it returns false'. Refute it at one input. -/
def quantFewWrong : ChangeSpec := { name := "quantFew", fn := fun _ => fun
  | [d1, d2] => { results := [.lit (.bool false)], args := [d1, d2] }
  | _ => none }
def QuantFewWrongFalsely : Prop := quantFewRow.holds Try.pinned (OpenSpec.ofChange quantFewWrong)

/-- 'locutionlaw18.GramSums': WHATEVER THE INPUT: true; the input reads as it did. -/
def gramSumsSpec : ChangeSpec := { name := "gramSums", fn := fun _ => fun
  | [d1, d2] => { results := [.lit (.bool true)], args := [d1, d2] }
  | _ => none }
def gramSumsRow : OpenClaim := { program := "ytlodbajaoadhdaa", sum := "c00d77722ecb969560788a0d32b70aeb522483a7bdbde592b9f6de54cdb628e5", func := "locution/locutionlaw18.GramSums", spec := "gramSums", unfollowed := true, recurses := true, apart := false }
def GramSumsSaid : Prop := gramSumsRow.holds Try.pinned (OpenSpec.ofChange gramSumsSpec)

/-- ITS FALSE NEIGHBOUR: 'it returns false'. Refute it at one input. -/
def gramSumsWrong : ChangeSpec := { name := "gramSums", fn := fun _ => fun
  | [d1, d2] => { results := [.lit (.bool false)], args := [d1, d2] }
  | _ => none }
def GramSumsWrongFalsely : Prop := gramSumsRow.holds Try.pinned (OpenSpec.ofChange gramSumsWrong)

/-- 'locutionlaw30.QuantCodes': WHATEVER THE INPUT: true; the input reads as it did. -/
def quantCodesSpec : ChangeSpec := { name := "quantCodes", fn := fun _ => fun
  | [d1, d2, d3] => { results := [.lit (.bool true)], args := [d1, d2, d3] }
  | _ => none }
def quantCodesRow : OpenClaim := { program := "ytlodbajaoadhdaa", sum := "c00d77722ecb969560788a0d32b70aeb522483a7bdbde592b9f6de54cdb628e5", func := "locution/locutionlaw30.QuantCodes", spec := "quantCodes", recurses := true, apart := false }
def QuantCodesSaid : Prop := quantCodesRow.holds Try.pinned (OpenSpec.ofChange quantCodesSpec)

/-- ITS FALSE NEIGHBOUR: 'it returns false'. Refute it at one input. -/
def quantCodesWrong : ChangeSpec := { name := "quantCodes", fn := fun _ => fun
  | [d1, d2, d3] => { results := [.lit (.bool false)], args := [d1, d2, d3] }
  | _ => none }
def QuantCodesWrongFalsely : Prop := quantCodesRow.holds Try.pinned (OpenSpec.ofChange quantCodesWrong)

/-- 'locutionlaw23.AdjustCounts': WHATEVER THE INPUT: true; the input reads as it did. -/
def adjustCountsSpec : ChangeSpec := { name := "adjustCounts", fn := fun _ => fun
  | [d] => { results := [.lit (.bool true)], args := [d] }
  | _ => none }
def adjustCountsRow : OpenClaim := { program := "ytlodbajaoadhdaa", sum := "c00d77722ecb969560788a0d32b70aeb522483a7bdbde592b9f6de54cdb628e5", func := "locution/locutionlaw23.AdjustCounts", spec := "adjustCounts", unfollowed := true, recurses := true, apart := false }
def AdjustCountsSaid : Prop := adjustCountsRow.holds Try.pinned (OpenSpec.ofChange adjustCountsSpec)

/-- ITS FALSE NEIGHBOUR: 'it returns false'. Refute it at one input. -/
def adjustCountsWrong : ChangeSpec := { name := "adjustCounts", fn := fun _ => fun
  | [d] => { results := [.lit (.bool false)], args := [d] }
  | _ => none }
def AdjustCountsWrongFalsely : Prop := adjustCountsRow.holds Try.pinned (OpenSpec.ofChange adjustCountsWrong)

/-- 'locutionlaw23.AdjustEnds': WHATEVER THE INPUT: true; the input reads as it did. -/
def adjustEndsSpec : ChangeSpec := { name := "adjustEnds", fn := fun _ => fun
  | [d1, d2] => { results := [.lit (.bool true)], args := [d1, d2] }
  | _ => none }
def adjustEndsRow : OpenClaim := { program := "ytlodbajaoadhdaa", sum := "c00d77722ecb969560788a0d32b70aeb522483a7bdbde592b9f6de54cdb628e5", func := "locution/locutionlaw23.AdjustEnds", spec := "adjustEnds", unfollowed := true, recurses := true, apart := false }
def AdjustEndsSaid : Prop := adjustEndsRow.holds Try.pinned (OpenSpec.ofChange adjustEndsSpec)

/-- ITS FALSE NEIGHBOUR: 'it returns false'. Refute it at one input. -/
def adjustEndsWrong : ChangeSpec := { name := "adjustEnds", fn := fun _ => fun
  | [d1, d2] => { results := [.lit (.bool false)], args := [d1, d2] }
  | _ => none }
def AdjustEndsWrongFalsely : Prop := adjustEndsRow.holds Try.pinned (OpenSpec.ofChange adjustEndsWrong)

/-- 'locutionlaw23.AdjustText': WHATEVER THE INPUT: true; the input reads as it did. -/
def adjustTextSpec : ChangeSpec := { name := "adjustText", fn := fun _ => fun
  | [d1, d2] => { results := [.lit (.bool true)], args := [d1, d2] }
  | _ => none }
def adjustTextRow : OpenClaim := { program := "ytlodbajaoadhdaa", sum := "c00d77722ecb969560788a0d32b70aeb522483a7bdbde592b9f6de54cdb628e5", func := "locution/locutionlaw23.AdjustText", spec := "adjustText", unfollowed := true, recurses := true, apart := false }
def AdjustTextSaid : Prop := adjustTextRow.holds Try.pinned (OpenSpec.ofChange adjustTextSpec)

/-- ITS FALSE NEIGHBOUR: 'it returns false'. Refute it at one input. -/
def adjustTextWrong : ChangeSpec := { name := "adjustText", fn := fun _ => fun
  | [d1, d2] => { results := [.lit (.bool false)], args := [d1, d2] }
  | _ => none }
def AdjustTextWrongFalsely : Prop := adjustTextRow.holds Try.pinned (OpenSpec.ofChange adjustTextWrong)

/- THE SECOND FORM. 'bulk': how many values and letters a reading holds, each counted each time it is reached (what is shared counts as often as it is met; a slice's spare places count too). A statement '..UptoSaid' is the law's where the arguments, and the package variables that the reading takes, are together of bulk at most 1048576: NARROWER than '..Said'. Prove '..Said' where nothing that the law and all that it calls make is longer than what came in: it says more and counts as full. Else prove '..UptoSaid'. A law counts once. -/
mutual
def uptoBulk {H : Type} : DataW H → Nat
  | .lit (.string bytes) => bytes.length + 1
  | .lit _ => 1
  | .nil => 1
  | .ptr d => uptoBulk d + 1
  | .slice elems spare => uptoBulkAll elems + uptoBulkAll spare + 1
  | .agg parts => uptoBulkAll parts + 1
  | .iface _ d => uptoBulk d + 1
  | .map entries => uptoBulkEntries entries + 1
  | .held _ => 1
def uptoBulkAll {H : Type} : List (DataW H) → Nat
  | [] => 0
  | d :: r => uptoBulk d + uptoBulkAll r
def uptoBulkEntries {H : Type} : List (Lit × DataW H) → Nat
  | [] => 0
  | x :: r => uptoBulkEntry x + uptoBulkEntries r
def uptoBulkEntry {H : Type} : Lit × DataW H → Nat
  | (.string bytes, d) => bytes.length + uptoBulk d + 1
  | (_, d) => uptoBulk d + 1
 end
def uptoSmall : (H : Type) → List (DataW H) → Bool := fun _ ds => decide (uptoBulkAll ds ≤ 1048576)
def OpenSpec.upto (s : _root_.Go.ChangeSpec) : _root_.Go.OpenSpec := { _root_.Go.OpenSpec.ofChange s with cond := some uptoSmall }

/-- 'locutionlaw16.WindowPads', WHERE WHAT IT READS IS OF BULK AT MOST 1048576: true; the input reads as it did. -/
def windowPadsUptoRow : OpenClaim := { program := "ytlodbajaoadhdaa", sum := "c00d77722ecb969560788a0d32b70aeb522483a7bdbde592b9f6de54cdb628e5", func := "locution/locutionlaw16.WindowPads", spec := "windowPads", inPlace := ["internal/bytealg.IndexByteString", "internal/bytealg.IndexString"], unfollowed := true, recurses := true, named := ["internal/bytealg.MaxLen"], apart := false, narrowed := true }
def WindowPadsUptoSaid : Prop := windowPadsUptoRow.holds Try.pinned (OpenSpec.upto windowPadsSpec)

/-- 'locutionlaw15.VocabLines', WHERE WHAT IT READS IS OF BULK AT MOST 1048576: true; the input reads as it did. -/
def vocabLinesUptoRow : OpenClaim := { program := "ytlodbajaoadhdaa", sum := "c00d77722ecb969560788a0d32b70aeb522483a7bdbde592b9f6de54cdb628e5", func := "locution/locutionlaw15.VocabLines", spec := "vocabLines", inPlace := ["internal/bytealg.IndexByteString", "internal/bytealg.IndexString", "internal/abi.NoEscape", "internal/bytealg.MakeNoZero"], unfollowed := true, recurses := true, named := ["internal/bytealg.MaxLen"], apart := false, narrowed := true }
def VocabLinesUptoSaid : Prop := vocabLinesUptoRow.holds Try.pinned (OpenSpec.upto vocabLinesSpec)

/-- 'locutionlaw18.GramCompares', WHERE WHAT IT READS IS OF BULK AT MOST 1048576: true; the input reads as it did. -/
def gramComparesUptoRow : OpenClaim := { program := "ytlodbajaoadhdaa", sum := "c00d77722ecb969560788a0d32b70aeb522483a7bdbde592b9f6de54cdb628e5", func := "locution/locutionlaw18.GramCompares", spec := "gramCompares", unfollowed := true, recurses := true, apart := false, narrowed := true }
def GramComparesUptoSaid : Prop := gramComparesUptoRow.holds Try.pinned (OpenSpec.upto gramComparesSpec)

/-- 'locutionlaw18.GramKeys', WHERE WHAT IT READS IS OF BULK AT MOST 1048576: true; the input reads as it did. -/
def gramKeysUptoRow : OpenClaim := { program := "ytlodbajaoadhdaa", sum := "c00d77722ecb969560788a0d32b70aeb522483a7bdbde592b9f6de54cdb628e5", func := "locution/locutionlaw18.GramKeys", spec := "gramKeys", unfollowed := true, recurses := true, apart := false, narrowed := true }
def GramKeysUptoSaid : Prop := gramKeysUptoRow.holds Try.pinned (OpenSpec.upto gramKeysSpec)

/-- 'locutionlaw18.GramParses', WHERE WHAT IT READS IS OF BULK AT MOST 1048576: true; the input reads as it did. -/
def gramParsesUptoRow : OpenClaim := { program := "ytlodbajaoadhdaa", sum := "c00d77722ecb969560788a0d32b70aeb522483a7bdbde592b9f6de54cdb628e5", func := "locution/locutionlaw18.GramParses", spec := "gramParses", unfollowed := true, recurses := true, apart := false, narrowed := true }
def GramParsesUptoSaid : Prop := gramParsesUptoRow.holds Try.pinned (OpenSpec.upto gramParsesSpec)

/-- 'locutionlaw30.QuantTrains', WHERE WHAT IT READS IS OF BULK AT MOST 1048576: true; the input reads as it did. -/
def quantTrainsUptoRow : OpenClaim := { program := "ytlodbajaoadhdaa", sum := "c00d77722ecb969560788a0d32b70aeb522483a7bdbde592b9f6de54cdb628e5", func := "locution/locutionlaw30.QuantTrains", spec := "quantTrains", recurses := true, apart := false, narrowed := true }
def QuantTrainsUptoSaid : Prop := quantTrainsUptoRow.holds Try.pinned (OpenSpec.upto quantTrainsSpec)

/-- 'locutionlaw30.QuantFew', WHERE WHAT IT READS IS OF BULK AT MOST 1048576: true; the input reads as it did. -/
def quantFewUptoRow : OpenClaim := { program := "ytlodbajaoadhdaa", sum := "c00d77722ecb969560788a0d32b70aeb522483a7bdbde592b9f6de54cdb628e5", func := "locution/locutionlaw30.QuantFew", spec := "quantFew", recurses := true, apart := false, narrowed := true }
def QuantFewUptoSaid : Prop := quantFewUptoRow.holds Try.pinned (OpenSpec.upto quantFewSpec)

/-- 'locutionlaw18.GramSums', WHERE WHAT IT READS IS OF BULK AT MOST 1048576: true; the input reads as it did. -/
def gramSumsUptoRow : OpenClaim := { program := "ytlodbajaoadhdaa", sum := "c00d77722ecb969560788a0d32b70aeb522483a7bdbde592b9f6de54cdb628e5", func := "locution/locutionlaw18.GramSums", spec := "gramSums", unfollowed := true, recurses := true, apart := false, narrowed := true }
def GramSumsUptoSaid : Prop := gramSumsUptoRow.holds Try.pinned (OpenSpec.upto gramSumsSpec)

/-- 'locutionlaw30.QuantCodes', WHERE WHAT IT READS IS OF BULK AT MOST 1048576: true; the input reads as it did. -/
def quantCodesUptoRow : OpenClaim := { program := "ytlodbajaoadhdaa", sum := "c00d77722ecb969560788a0d32b70aeb522483a7bdbde592b9f6de54cdb628e5", func := "locution/locutionlaw30.QuantCodes", spec := "quantCodes", recurses := true, apart := false, narrowed := true }
def QuantCodesUptoSaid : Prop := quantCodesUptoRow.holds Try.pinned (OpenSpec.upto quantCodesSpec)

/-- 'locutionlaw23.AdjustCounts', WHERE WHAT IT READS IS OF BULK AT MOST 1048576: true; the input reads as it did. -/
def adjustCountsUptoRow : OpenClaim := { program := "ytlodbajaoadhdaa", sum := "c00d77722ecb969560788a0d32b70aeb522483a7bdbde592b9f6de54cdb628e5", func := "locution/locutionlaw23.AdjustCounts", spec := "adjustCounts", unfollowed := true, recurses := true, apart := false, narrowed := true }
def AdjustCountsUptoSaid : Prop := adjustCountsUptoRow.holds Try.pinned (OpenSpec.upto adjustCountsSpec)

/-- 'locutionlaw23.AdjustEnds', WHERE WHAT IT READS IS OF BULK AT MOST 1048576: true; the input reads as it did. -/
def adjustEndsUptoRow : OpenClaim := { program := "ytlodbajaoadhdaa", sum := "c00d77722ecb969560788a0d32b70aeb522483a7bdbde592b9f6de54cdb628e5", func := "locution/locutionlaw23.AdjustEnds", spec := "adjustEnds", unfollowed := true, recurses := true, apart := false, narrowed := true }
def AdjustEndsUptoSaid : Prop := adjustEndsUptoRow.holds Try.pinned (OpenSpec.upto adjustEndsSpec)

/-- 'locutionlaw23.AdjustText', WHERE WHAT IT READS IS OF BULK AT MOST 1048576: true; the input reads as it did. -/
def adjustTextUptoRow : OpenClaim := { program := "ytlodbajaoadhdaa", sum := "c00d77722ecb969560788a0d32b70aeb522483a7bdbde592b9f6de54cdb628e5", func := "locution/locutionlaw23.AdjustText", spec := "adjustText", unfollowed := true, recurses := true, apart := false, narrowed := true }
def AdjustTextUptoSaid : Prop := adjustTextUptoRow.holds Try.pinned (OpenSpec.upto adjustTextSpec)

end Rows
end Go.Proofs.Ytlodbajaoadhdaa
