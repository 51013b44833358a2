/- For all shops, all plans, all orders and all lists of numbers: Go's function BenchPutIn returns true and leaves its arguments as they were (the tied card of its row). The row's own conditions, and no others: the listed variable errors.errorType holds what the program's text lays. -/
import Derived.Test.YtmloogdalecilaaGreatDoorTie
import Derived.Test.YtmloogdalecilaaGreatDoorCards
import Derived.SevenTiedAt
import Derived.Test.YtmloogdalecilaaGreatDoorCardZ
import Derived.Test.YtmloogdalecilaaGreatDoorPutZ
set_option linter.unusedVariables false
set_option linter.unusedSimpArgs false
set_option linter.unnecessarySimpa false
set_option linter.constructorNameAsVariable false

/-! Y7 -/
namespace Go.Proofs.YtmloogdalecilaaGreatDoor
open Go Go.Abs Go.Proofs
open Go.ChangeShapes Go.WideShapes Go.RowKit

set_option maxRecDepth 100000 in
theorem benchPutIn_types : ∀ t ∈ [24, 25, 28, 25], Tryz.prog.readableRec t = true ∧ t < Tryz.prog.types.size := fun t ht => by
  simp only [List.mem_cons, List.not_mem_nil, or_false] at ht
  rcases ht with rfl | rfl | rfl | rfl <;> exact ⟨by kernel_rfl, of_decide_eq_true (by kernel_rfl)⟩

set_option maxRecDepth 100000 in
theorem benchPutIn_lifted (os : Os) (started : os.Started) (H : Type) (enc : TypeId × Value → H) :
    ReturnsInHanded {} Tryz.checked os 3 .any (fun w args => (Rows.benchPutInSpec.pre enc Tryz.prog Tryz.f3 [] false w args ∧ laidMetH Tryz.prog laidL w) ∧ sizedMet enc Tryz.prog Tryz.f3 (OpenSpec.ofChange Rows.benchPutInSpec) false w args)
      (Rows.benchPutInSpec.post enc Tryz.prog Tryz.f3 false true false false) := by
  refine returnsInHanded_of_change_and (C := Tryz.checked) (X := fun w _ => laidMetH Tryz.prog laidL w) (fun _ _ _ hh h => h.of_heap hh) own started (by kernel_rfl) Tryz.func3
    (ChangeSpec.witness_at (enc := enc) (C := Tryz.checked) (os := os) (X := fun w _ => laidMetH Tryz.prog laidL w) false (laidWorld os #[.agg #[.int .i64 0, .slice none 0 0], .slice none 0 0, .agg #[.int .i64 0, .int .i64 0, .slice none 0 0], .slice none 0 0]) #[.agg #[.int .i64 0, .slice none 0 0], .slice none 0 0, .agg #[.int .i64 0, .int .i64 0, .slice none 0 0], .slice none 0 0] 3 rfl (by kernel_rfl) (by kernel_rfl) (by kernel_rfl) (by kernel_rfl) (by kernel_rfl) (laidWorld_met os _)) ?_
  intro W base args ds gs before hval0 hW _ hsz hL _
  exact law_post (s := Rows.benchPutInSpec) [24, 25, 28, 25] rfl (fun H ds hl => by match ds, hl with | [a0, a1, a2, a3], _ => rfl) (by rw [Tryz.params3]) (by kernel_rfl) benchPutIn_types (runs_shop_plan_task_nums fun s hs TL hT pl PL hP t ht WL hW L nums hL hl Q hq => wBenchPutIn s hs TL hT pl PL hP t ht WL hW L nums hL hl Q hq) (know_of_laid hL) hval0 hW hsz

theorem benchPutIn_holds : Rows.BenchPutInSaid :=
  OpenClaim.holds_of_wide 3 Tryz.f3 rfl rfl rfl rfl rfl rfl rfl ⟨rfl, rfl, rfl, rfl, rfl⟩ rfl rfl rfl rfl rfl (by kernel_rfl) Tryz.func3 (by kernel_rfl)
    (of_decide_eq_true (by kernel_rfl)) (by unfold Func.isWrapper; first | (rw [if_pos (by decide +kernel)]; kernel_rfl) | (rw [if_neg (of_decide_eq_false (by kernel_rfl))]; exact ⟨rfl, rfl⟩))
    (fun os started H enc _ => benchPutIn_lifted os started H enc)

theorem benchPutIn_card : Rows.BenchPutInCardSaid :=
  Claim7.holds_tied_plain_at .later [] [.handle] true (true, "2a5c0340aedce39a066093667409f84c28fd32dca6682288e922abc4f1ef2cae") true
    benchPutIn_holds (fun _ h => by cases h) (by kernel_rfl) (fun _ h => by cases h) benchPutIn_row_tie rfl ⟨rfl, rfl⟩ (by kernel_rfl) rfl
    (fun f fn hf hfn => by
      obtain rfl : f = 3 := Option.some.inj ((show Tryz.prog.funcNamed "musette/musettelaw07.BenchPutIn" = some 3 by kernel_rfl).symm.trans hf) |>.symm
      obtain rfl : fn = Tryz.f3 := (Option.some.inj (Tryz.func3.symm.trans hfn)).symm
      exact ⟨by kernel_rfl, fun j t ht => by
        rw [Tryz.params3] at ht
        match j, ht with
        | 0, ht =>
          have h3 : t = 24 := by simpa using ht.symm
          subst h3
          exact (show Tryz.prog.wantsStandIn 24 = false by kernel_rfl)
        | 1, ht =>
          have h3 : t = 25 := by simpa using ht.symm
          subst h3
          exact (show Tryz.prog.wantsStandIn 25 = false by kernel_rfl)
        | 2, ht =>
          have h3 : t = 28 := by simpa using ht.symm
          subst h3
          exact (show Tryz.prog.wantsStandIn 28 = false by kernel_rfl)
        | 3, ht =>
          have h3 : t = 25 := by simpa using ht.symm
          subst h3
          exact (show Tryz.prog.wantsStandIn 25 = false by kernel_rfl)
        | j + 4, ht => simp at ht⟩)
    (by kernel_rfl)
end Go.Proofs.YtmloogdalecilaaGreatDoor
