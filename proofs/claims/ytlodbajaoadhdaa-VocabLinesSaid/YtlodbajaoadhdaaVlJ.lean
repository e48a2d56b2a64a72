/- Texts joined, in this program. Conditions: none. -/
import Derived.Test.YtlodbajaoadhdaaSlJoin
import Derived.Test.YtlodbajaoadhdaaSlLc
namespace Go.Proofs.Ytlodbajaoadhdaa
open Go Go.Fw Go.RowKit Go.Proofs
set_option maxRecDepth 100000
theorem extraJ : Go.Proofs.Builder.Extra Try.prog Try.join_ren where
  sizeBuilder := by kernel_rfl
  liesBuilder := by kernel_rfl
  t5 := by kernel_rfl
  a5 := fun w => by kernel_rfl
  z5 := fun w => by kernel_rfl
  v5 := fun w => by kernel_rfl
  infoByte := by kernel_rfl
  cellsByte := by kernel_rfl
  sizeByte := by kernel_rfl
  neB5 := by decide
end Go.Proofs.Ytlodbajaoadhdaa
