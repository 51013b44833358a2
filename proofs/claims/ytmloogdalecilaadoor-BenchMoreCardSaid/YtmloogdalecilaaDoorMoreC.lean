/- For all lists of numbers: Go's function BenchMore returns true and leaves its argument as it was (the tied card of its row): with more hours, or later ready, no work begins or ends sooner, and the best plan ends no sooner; and with an order less it ends no later. The row's own conditions, and no others: the listed variable errors.errorType holds what the program's text lays. -/
import Derived.Test.YtmloogdalecilaaDoorTie
import Derived.Test.YtmloogdalecilaaDoorCards
import Derived.SevenTiedAt
import Derived.Test.YtmloogdalecilaaDoorBenchF
import Derived.Test.YtmloogdalecilaaDoorMoreB
set_option linter.unusedVariables false
set_option linter.unusedSimpArgs false
set_option linter.unnecessarySimpa false
set_option linter.constructorNameAsVariable false

/-! C20 -/
namespace Go.Proofs.YtmloogdalecilaaDoor
open Go Go.Abs Go.Proofs
open Go.ChangeShapes Go.WideShapes Go.RowKit

set_option maxRecDepth 100000 in
theorem benchMore_lifted (os : Os) (started : os.Started) (H : Type) (enc : TypeId × Value → H) :
    ReturnsInHanded {} Tryd.checked os 6 .any (fun w args => (Rows.benchMoreSpec.pre enc Tryd.prog Tryd.f6 [] false w args ∧ laidMetH Tryd.prog laidL w) ∧ sizedMet enc Tryd.prog Tryd.f6 (OpenSpec.ofChange Rows.benchMoreSpec) false w args)
      (Rows.benchMoreSpec.post enc Tryd.prog Tryd.f6 false true false false) := by
  refine returnsInHanded_of_change_and (C := Tryd.checked) (X := fun w _ => laidMetH Tryd.prog laidL w) (fun _ _ _ hh h => h.of_heap hh) own started (by kernel_rfl) Tryd.func6
    (ChangeSpec.witness_at (enc := enc) (C := Tryd.checked) (os := os) (X := fun w _ => laidMetH Tryd.prog laidL w) false (laidWorld os #[.slice none 0 0]) #[.slice none 0 0] 6 rfl (by kernel_rfl) (by kernel_rfl) (by kernel_rfl) (by kernel_rfl) (by kernel_rfl) (laidWorld_met os _)) ?_
  intro W base args ds gs before hval0 hW _ _ hL _
  exact nums_post (s := Rows.benchMoreSpec) rfl (fun H d => rfl) Tryd.params6 (by kernel_rfl) (fun L nums hL hl Q hq => wBenchMore L nums hL hl Q hq) (know_of_laid hL) hval0 hW

theorem benchMore_holds : Rows.BenchMoreSaid :=
  OpenClaim.holds_of_wide 6 Tryd.f6 rfl rfl rfl rfl rfl rfl rfl ⟨rfl, rfl, rfl, rfl, rfl⟩ rfl rfl rfl rfl rfl (by kernel_rfl) Tryd.func6 (by kernel_rfl)
    (of_decide_eq_true (by kernel_rfl)) (by unfold Func.isWrapper; first | (rw [if_pos (by decide +kernel)]; kernel_rfl) | (rw [if_neg (of_decide_eq_false (by kernel_rfl))]; exact ⟨rfl, rfl⟩))
    (fun os started H enc _ => benchMore_lifted os started H enc)

theorem benchMore_card : Rows.BenchMoreCardSaid :=
  Claim7.holds_tied_plain_at .later [] [.handle] true (true, "ccac167340912cc7b937f82d9ddb332534b19e7b4a045a2ad7d654cfcdf53808") true
    benchMore_holds (fun _ h => by cases h) (by kernel_rfl) (fun _ h => by cases h) benchMore_row_tie rfl ⟨rfl, rfl⟩ (by kernel_rfl) rfl
    (fun f fn hf hfn => by
      obtain rfl : f = 6 := Option.some.inj ((show Tryd.prog.funcNamed "musette/musettelaw07.BenchMore" = some 6 by kernel_rfl).symm.trans hf) |>.symm
      obtain rfl : fn = Tryd.f6 := (Option.some.inj (Tryd.func6.symm.trans hfn)).symm
      exact ⟨by kernel_rfl, fun j t ht => by
        rw [Tryd.params6] at ht
        have h3 : t = 26 := by
          rcases j with _ | j
          · simpa using ht.symm
          · simp at ht
        subst h3
        exact (show Tryd.prog.wantsStandIn 26 = false by kernel_rfl)⟩)
    (by kernel_rfl)
end Go.Proofs.YtmloogdalecilaaDoor
