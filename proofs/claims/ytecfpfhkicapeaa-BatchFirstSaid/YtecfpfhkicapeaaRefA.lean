/- Part RefA of the proofs about the benches of the accordion maker: see the last text of the claim for what is proved. -/
import Derived.Test.YtecfpfhkicapeaaSaysC
import Derived.Test.YtecfpfhkicapeaaBatH
set_option linter.unusedVariables false
set_option linter.unusedSimpArgs false
set_option linter.unnecessarySimpa false
set_option linter.constructorNameAsVariable false

namespace Go.Batch
end Go.Batch

namespace Go.Batch
end Go.Batch

namespace Go.Proofs.Ytecfpfhkicapeaa
open Go Go.Abs Go.Proofs Go.Batch
end Go.Proofs.Ytecfpfhkicapeaa

namespace Go.Proofs.Ytecfpfhkicapeaa
open Go Go.Abs Go.Proofs Go.Batch
theorem Z4q {l : List Int} {k : Nat} (h : k < l.length) : l[k]? = some (l.getD k 0) := by
 rw [List.getD_eq_getElem?_getD, List.getElem?_eq_getElem h]; rfl
end Go.Proofs.Ytecfpfhkicapeaa
