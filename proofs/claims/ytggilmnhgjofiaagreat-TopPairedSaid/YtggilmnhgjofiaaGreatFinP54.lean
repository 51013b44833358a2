/- This text proves that the law of paired tongues (TopPaired) gives true at every input and leaves the input as it was: the end of the proof. -/
import Derived.Test.YtggilmnhgjofiaaGreatTxBM
set_option linter.unusedVariables false
set_option linter.unusedSimpArgs false
set_option linter.unnecessarySimpa false
set_option linter.constructorNameAsVariable false

namespace Go.Proofs.YtggilmnhgjofiaaGreat
open Go Go.Abs Go.Proofs Go.Conc
open Go.ChangeShapes Go.WideShapes Go.RowKit
set_option maxRecDepth 100000 in
theorem topPaired_lifted (os : Os) (started : os.Started) (H : Type) (enc : TypeId × Value -> H) :
  ReturnsInLeavingWide {} Tryz.checked os 3 .any (Rows.topPairedSpec.pre6 enc Tryz.prog Tryz.f3 [] false) (Rows.topPairedSpec.post enc Tryz.prog Tryz.f3 false true false false) := by
 refine returnsInLeavingWide_of_change_sized (C := Tryz.checked) own started Tryz.func3
  (ChangeSpec.witness6 (enc := enc) (C := Tryz.checked) false ⟨#[], #[.slice none 0 0], []⟩ 30 (by kernel_rfl) (by kernel_rfl) (by kernel_rfl) (by kernel_rfl)) ?_
 intro W base args ds gs before hval0 hW _ _ _;exact Z23x (fun L nums hL hl Q hp hq => Z22n nums L hL hl Q hp hq) hval0 hW
theorem topPaired_holds : Rows.TopPairedSaid :=
 OpenClaim.holds_of_wide_leaving 3 Tryz.f3 rfl rfl rfl rfl rfl rfl rfl ⟨rfl, rfl, rfl, rfl, rfl⟩ rfl rfl rfl rfl rfl (by kernel_rfl) Tryz.func3 (by kernel_rfl)
  (of_decide_eq_true (by kernel_rfl)) (by unfold Func.isWrapper; first | (rw [if_pos (by decide +kernel)]; kernel_rfl) | (rw [if_neg (of_decide_eq_false (by kernel_rfl))]; exact ⟨rfl, rfl⟩))
  (fun os started H enc _ => topPaired_lifted os started H enc)
end Go.Proofs.YtggilmnhgjofiaaGreat
