/- slices.BinarySearchFunc at string, slices.Clone, slices.EqualFunc. -/
import Derived.Test.YtfkhelihepbehaaArr
import Derived.Test.YtfkhelihepbehaaSl
import Derived.Test.YtfkhelihepbehaaProg
namespace Go.Proofs.Ytfkhelihepbehaa
open Go.RowKit
set_option linter.unusedVariables false

theorem elemStr : ElemT Try.prog 22 9 1 16 (.string ⟨#[]⟩) := ⟨by kernel_rfl, by kernel_rfl, rfl, by decide⟩

end Go.Proofs.Ytfkhelihepbehaa
