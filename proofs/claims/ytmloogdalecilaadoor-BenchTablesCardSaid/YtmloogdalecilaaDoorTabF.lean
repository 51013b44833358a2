/- For all shops, all timetables, all numbers and all lists of numbers: Go's function BenchTables returns true and leaves its arguments as they were (the tied card of its row). The row's own conditions, and no others: the listed variable errors.errorType holds what the program's text lays. -/
import Derived.Test.YtmloogdalecilaaDoorTie
import Derived.Test.YtmloogdalecilaaDoorCards
import Derived.SevenTiedAt
import Derived.Test.YtmloogdalecilaaDoorShopA
import Derived.Test.YtmloogdalecilaaDoorTabE
set_option linter.unusedVariables false
set_option linter.unusedSimpArgs false
set_option linter.unnecessarySimpa false
set_option linter.constructorNameAsVariable false

/-! C15 -/
namespace Go.Proofs.YtmloogdalecilaaDoor
open Go Go.Abs Go.Proofs
open Go.ChangeShapes Go.WideShapes Go.RowKit

set_option maxRecDepth 100000 in
theorem benchTables_types : ∀ t ∈ [24, 25, 3, 3, 26], Tryd.prog.readableRec t = true ∧ t < Tryd.prog.types.size := fun t ht => by
  simp only [List.mem_cons, List.not_mem_nil, or_false] at ht
  rcases ht with rfl | rfl | rfl | rfl | rfl <;> exact ⟨by kernel_rfl, of_decide_eq_true (by kernel_rfl)⟩

set_option maxRecDepth 100000 in
theorem benchTables_lifted (os : Os) (started : os.Started) (H : Type) (enc : TypeId × Value → H) :
    ReturnsInHanded {} Tryd.checked os 3 .any (fun w args => (Rows.benchTablesSpec.pre enc Tryd.prog Tryd.f3 [] false w args ∧ laidMetH Tryd.prog laidL w) ∧ sizedMet enc Tryd.prog Tryd.f3 (OpenSpec.ofChange Rows.benchTablesSpec) false w args)
      (Rows.benchTablesSpec.post enc Tryd.prog Tryd.f3 false true false false) := by
  refine returnsInHanded_of_change_and (C := Tryd.checked) (X := fun w _ => laidMetH Tryd.prog laidL w) (fun _ _ _ hh h => h.of_heap hh) own started (by kernel_rfl) Tryd.func3
    (ChangeSpec.witness_at (enc := enc) (C := Tryd.checked) (os := os) (X := fun w _ => laidMetH Tryd.prog laidL w) false (laidWorld os #[.agg #[.int .i64 0, .slice none 0 0], .slice none 0 0, .int .i64 0, .int .i64 0, .slice none 0 0]) #[.agg #[.int .i64 0, .slice none 0 0], .slice none 0 0, .int .i64 0, .int .i64 0, .slice none 0 0] 3 rfl (by kernel_rfl) (by kernel_rfl) (by kernel_rfl) (by kernel_rfl) (by kernel_rfl) (laidWorld_met os _)) ?_
  intro W base args ds gs before hval0 hW _ hsz hL _
  exact law_post (s := Rows.benchTablesSpec) [24, 25, 3, 3, 26] rfl (fun H ds hl => by match ds, hl with | [a0, a1, a2, a3, a4], _ => rfl) (by rw [Tryd.params3]) (by kernel_rfl) benchTables_types (runs_tables) (know_of_laid hL) hval0 hW hsz

theorem benchTables_holds : Rows.BenchTablesSaid :=
  OpenClaim.holds_of_wide 3 Tryd.f3 rfl rfl rfl rfl rfl rfl rfl ⟨rfl, rfl, rfl, rfl, rfl⟩ rfl rfl rfl rfl rfl (by kernel_rfl) Tryd.func3 (by kernel_rfl)
    (of_decide_eq_true (by kernel_rfl)) (by unfold Func.isWrapper; first | (rw [if_pos (by decide +kernel)]; kernel_rfl) | (rw [if_neg (of_decide_eq_false (by kernel_rfl))]; exact ⟨rfl, rfl⟩))
    (fun os started H enc _ => benchTables_lifted os started H enc)

theorem benchTables_card : Rows.BenchTablesCardSaid :=
  Claim7.holds_tied_plain_at .later [] [.handle] true (true, "ccac167340912cc7b937f82d9ddb332534b19e7b4a045a2ad7d654cfcdf53808") true
    benchTables_holds (fun _ h => by cases h) (by kernel_rfl) (fun _ h => by cases h) benchTables_row_tie rfl ⟨rfl, rfl⟩ (by kernel_rfl) rfl
    (fun f fn hf hfn => by
      obtain rfl : f = 3 := Option.some.inj ((show Tryd.prog.funcNamed "musette/musettelaw07.BenchTables" = some 3 by kernel_rfl).symm.trans hf) |>.symm
      obtain rfl : fn = Tryd.f3 := (Option.some.inj (Tryd.func3.symm.trans hfn)).symm
      exact ⟨by kernel_rfl, fun j t ht => by
        rw [Tryd.params3] at ht
        match j, ht with
        | 0, ht =>
          have h3 : t = 24 := by simpa using ht.symm
          subst h3
          exact (show Tryd.prog.wantsStandIn 24 = false by kernel_rfl)
        | 1, ht =>
          have h3 : t = 25 := by simpa using ht.symm
          subst h3
          exact (show Tryd.prog.wantsStandIn 25 = false by kernel_rfl)
        | 2, ht =>
          have h3 : t = 3 := by simpa using ht.symm
          subst h3
          exact (show Tryd.prog.wantsStandIn 3 = false by kernel_rfl)
        | 3, ht =>
          have h3 : t = 3 := by simpa using ht.symm
          subst h3
          exact (show Tryd.prog.wantsStandIn 3 = false by kernel_rfl)
        | 4, ht =>
          have h3 : t = 26 := by simpa using ht.symm
          subst h3
          exact (show Tryd.prog.wantsStandIn 26 = false by kernel_rfl)
        | j + 5, ht => simp at ht⟩)
    (by kernel_rfl)
end Go.Proofs.YtmloogdalecilaaDoor
