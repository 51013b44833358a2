/- This text proves that the law BatchBetter gives true at every input and leaves the input as it was; there is no condition. -/
import Derived.Test.YtecfpfhkicapeaaCloseA
import Derived.Test.YtecfpfhkicapeaaBetA
set_option linter.unusedVariables false
set_option linter.unusedSimpArgs false
set_option linter.unnecessarySimpa false
set_option linter.constructorNameAsVariable false

/-! T37 -/
namespace Go.Proofs.Ytecfpfhkicapeaa
open Go Go.Abs Go.Proofs
open Go.ChangeShapes Go.WideShapes Go.RowKit
set_option maxRecDepth 100000 in
theorem batchBetter_lifted (os : Os) (started : os.Started) (H : Type) (enc : TypeId × Value → H) :
    ReturnsInHanded {} Try.checked os 13 .any (Rows.batchBetterSpec.pre6 enc Try.prog Try.f13 [] false) (Rows.batchBetterSpec.post enc Try.prog Try.f13 false true false false) := by
  refine returnsInHanded_of_change (C := Try.checked) own started (by kernel_rfl) Try.func13
    (ChangeSpec.witness6 (enc := enc) (C := Try.checked) false ⟨#[], #[.slice none 0 0], []⟩ 30 (by kernel_rfl) (by kernel_rfl) (by kernel_rfl) (by kernel_rfl)) ?_
  intro W base args ds gs before hval0 hW _ _
  exact nums_post (s := Rows.batchBetterSpec) rfl (fun H d => rfl) Try.params13 (by kernel_rfl) (fun L nums hL hl Q hq => wBatchBetter L nums hL hl Q hq) hval0 hW
theorem batchBetter_holds : Rows.BatchBetterSaid :=
  OpenClaim.holds_of_wide 13 Try.f13 rfl rfl rfl rfl rfl rfl rfl ⟨rfl, rfl, rfl, rfl, rfl⟩ rfl rfl rfl rfl rfl (by kernel_rfl) Try.func13 (by kernel_rfl)
    (of_decide_eq_true (by kernel_rfl)) (by unfold Func.isWrapper; first | (rw [if_pos (by decide +kernel)]; kernel_rfl) | (rw [if_neg (of_decide_eq_false (by kernel_rfl))]; exact ⟨rfl, rfl⟩))
    (fun os started H enc _ => batchBetter_lifted os started H enc)
end Go.Proofs.Ytecfpfhkicapeaa
