/- This text proves that the law BatchRecalls gives true at every input and leaves the input as it was; there is no condition. -/
import Derived.Test.YtecfpfhkicapeaaCloseC
import Derived.Test.YtecfpfhkicapeaaRclA
set_option linter.unusedVariables false
set_option linter.unusedSimpArgs false
set_option linter.unnecessarySimpa false
set_option linter.constructorNameAsVariable false

namespace Go.Proofs.Ytecfpfhkicapeaa
open Go Go.Abs Go.Proofs
open Go.ChangeShapes Go.WideShapes Go.RowKit
set_option maxRecDepth 100000 in
theorem batchRecalls_types : ∀ t ∈ ([25, 30, 30, 30, 30] : List TypeId), Try.prog.readableRec t = true /\ t < Try.prog.types.size := fun t ht => by
 simp only [List.mem_cons, List.not_mem_nil, or_false] at ht;rcases ht with rfl | rfl | rfl | rfl | rfl <;> exact ⟨by kernel_rfl, of_decide_eq_true (by kernel_rfl)⟩
set_option maxRecDepth 100000 in
theorem batchRecalls_lifted (os : Os) (started : os.Started) (H : Type) (enc : TypeId × Value -> H) :
  ReturnsInHanded {} Try.checked os 12 .any (Rows.batchRecallsSpec.pre6 enc Try.prog Try.f12 [] false) (Rows.batchRecallsSpec.post enc Try.prog Try.f12 false true false false) := by
 refine returnsInHanded_of_change_sized (C := Try.checked) own started (by kernel_rfl) Try.func12
  (ChangeSpec.witness6 (enc := enc) (C := Try.checked) false ⟨#[], #[.agg #[.int .i64 0, .slice none 0 0, .slice none 0 0], .slice none 0 0, .slice none 0 0, .slice none 0 0, .slice none 0 0], []⟩ 30 (by kernel_rfl) (by kernel_rfl) (by kernel_rfl) (by kernel_rfl)) ?_
 intro W base args ds gs Z7o hval0 hW _ hsz _;exact Ztp (s := Rows.batchRecallsSpec) [25, 30, 30, 30, 30] rfl (fun H ds hl => by match ds, hl with | [a0, a1, a2, a3, a4], _ => rfl) (by rw [Try.params12]) (by kernel_rfl) batchRecalls_types (Z102 fun j hj FL ML hF hM BL bs hB hbl XL xs hX hxl YL ys hY hyl L nums hL hl Q hq => Zzy j hj FL ML hF hM BL bs hB hbl XL xs hX hxl YL ys hY hyl L nums hL hl Q hq) hval0 hW hsz
theorem batchRecalls_holds : Rows.BatchRecallsSaid :=
 OpenClaim.holds_of_wide 12 Try.f12 rfl rfl rfl rfl rfl rfl rfl ⟨rfl, rfl, rfl, rfl, rfl⟩ rfl rfl rfl rfl rfl (by kernel_rfl) Try.func12 (by kernel_rfl)
  (of_decide_eq_true (by kernel_rfl)) (by unfold Func.isWrapper; first | (rw [if_pos (by decide +kernel)]; kernel_rfl) | (rw [if_neg (of_decide_eq_false (by kernel_rfl))]; exact ⟨rfl, rfl⟩))
  (fun os started H enc _ => batchRecalls_lifted os started H enc)
end Go.Proofs.Ytecfpfhkicapeaa
