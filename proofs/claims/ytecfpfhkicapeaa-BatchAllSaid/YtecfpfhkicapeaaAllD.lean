/- This text proves that the law BatchAll gives true at every input and leaves the input as it was; there is no condition. -/
import Derived.Test.YtecfpfhkicapeaaCloseA
import Derived.Test.YtecfpfhkicapeaaAllC
set_option linter.unusedVariables false
set_option linter.unusedSimpArgs false
set_option linter.unnecessarySimpa false
set_option linter.constructorNameAsVariable false

namespace Go.Proofs.Ytecfpfhkicapeaa
open Go Go.Abs Go.Proofs
open Go.ChangeShapes Go.WideShapes Go.RowKit
set_option maxRecDepth 100000 in
theorem batchAll_lifted (os : Os) (started : os.Started) (H : Type) (enc : TypeId × Value -> H) :
  ReturnsInHanded {} Try.checked os 11 .any (Rows.batchAllSpec.pre6 enc Try.prog Try.f11 [] false) (Rows.batchAllSpec.post enc Try.prog Try.f11 false true false false) := by
 refine returnsInHanded_of_change (C := Try.checked) own started (by kernel_rfl) Try.func11
  (ChangeSpec.witness6 (enc := enc) (C := Try.checked) false ⟨#[], #[.slice none 0 0], []⟩ 30 (by kernel_rfl) (by kernel_rfl) (by kernel_rfl) (by kernel_rfl)) ?_
 intro W base args ds gs Z7o hval0 hW _ _;exact Z11q (s := Rows.batchAllSpec) rfl (fun H d => rfl) Try.params11 (by kernel_rfl) (fun L nums hL hl Q hq => Z149 L nums hL hl Q hq) hval0 hW
theorem batchAll_holds : Rows.BatchAllSaid :=
 OpenClaim.holds_of_wide 11 Try.f11 rfl rfl rfl rfl rfl rfl rfl ⟨rfl, rfl, rfl, rfl, rfl⟩ rfl rfl rfl rfl rfl (by kernel_rfl) Try.func11 (by kernel_rfl)
  (of_decide_eq_true (by kernel_rfl)) (by unfold Func.isWrapper; first | (rw [if_pos (by decide +kernel)]; kernel_rfl) | (rw [if_neg (of_decide_eq_false (by kernel_rfl))]; exact ⟨rfl, rfl⟩))
  (fun os started H enc _ => batchAll_lifted os started H enc)
end Go.Proofs.Ytecfpfhkicapeaa
