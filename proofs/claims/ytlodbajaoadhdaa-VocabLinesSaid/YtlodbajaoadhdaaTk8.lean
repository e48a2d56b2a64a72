/- TokenWords: the walk. Conditions: none. -/
import Derived.Test.YtlodbajaoadhdaaTk7
namespace Go.Proofs.Ytlodbajaoadhdaa
open Go Go.Fw Go.RowKit
set_option linter.unusedVariables false
set_option linter.unusedSimpArgs false
set_option maxRecDepth 100000
set_option maxHeartbeats 16000000
set_option synthInstance.maxHeartbeats 200000
set_option synthInstance.maxSize 100000
attribute [local irreducible] WPA WLA WDA WDQ WDE QQ seqQ blockQ loopQ fnQ OpP OpT Tr TrP SL SLd OwnS LitS Bk BkE Ob

theorem wordsL_len (s : ByteArray) : (wordsL s).length ≤ s.size + 1 := by
  have h1 := pcs_len s (s.size + 1) 0
  have h2 : ∀ l : List ByteArray, (l.flatMap wd).length ≤ l.length := by
    intro l
    induction l with
    | nil => simp
    | cons a l ih => rw [List.flatMap_cons, List.length_append, List.length_cons]; have := wd_len a; omega
  exact Nat.le_trans (h2 _) h1
end Go.Proofs.Ytlodbajaoadhdaa
