/- Part WrkA of the proofs about the benches of the accordion maker: see the last text of the claim for what is proved. -/
import Derived.Test.YthljpccegkmdnaaGreatDoorRunS
import Derived.Test.YthljpccegkmdnaaGreatDoorRunV
import Derived.Test.YthljpccegkmdnaaGreatDoorRunM
import Derived.Test.YthljpccegkmdnaaGreatDoorRunO
import Derived.Test.YthljpccegkmdnaaGreatDoorRunH
set_option linter.unusedVariables false
set_option linter.unusedSimpArgs false
set_option linter.unnecessarySimpa false
set_option linter.constructorNameAsVariable false

namespace Go.Proofs.YthljpccegkmdnaaGreatDoor
open Go Go.Abs Go.Proofs Go.Batch
end Go.Proofs.YthljpccegkmdnaaGreatDoor

namespace Go.Proofs.YthljpccegkmdnaaGreatDoor
open Go Go.Abs Go.Proofs Go.Batch
end Go.Proofs.YthljpccegkmdnaaGreatDoor
