/- Part RefG of the proofs about the benches of the accordion maker: see the last text of the claim for what is proved. -/
import Derived.Test.YtecfpfhkicapeaaRefC
import Derived.Test.YtecfpfhkicapeaaWroB
set_option linter.unusedVariables false
set_option linter.unusedSimpArgs false
set_option linter.unnecessarySimpa false
set_option linter.constructorNameAsVariable false

namespace Go.Proofs.Ytecfpfhkicapeaa
open Go Go.Abs Go.Proofs Go.Batch
section
variable {j : Jn} {FL ML : List D}
theorem JLim.bl (h : JLim j FL ML) : (Z6 j.moves).length <= 100 := by
 have h1 : (Z6 j.moves).length <= j.moves.length := by
  unfold Z6; rw [List.length_map]; exact List.length_filter_le _ _
 have := h.m; omega
end
theorem JLim.sameI (L : List Int) (hl : L.length <= 1000) (L0 : List D) (h0 : L0 = L.map I) (Q) (hq : Q (RA.ret (.v (.bool true))) []) : CallA Try.prog 25 [.sl 1 L0, .sl 1 L0] [] Q :=
 Zaq L L L0 L0 h0 h0 (by omega) true (decide_eq_true rfl).symm Q hq
end Go.Proofs.Ytecfpfhkicapeaa
