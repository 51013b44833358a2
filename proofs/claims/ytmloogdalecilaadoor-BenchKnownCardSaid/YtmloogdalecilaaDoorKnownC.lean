/- Go's function BenchKnown, which has no argument, returns true (the tied card of its row): the chapter's examples have the results given there. The row's own conditions, and no others: the listed variables errors.errorType, internal/strconv.uint64pow10, math/bits.deBruijn32tab and math/bits.deBruijn64tab hold what the program's text lays. -/
import Derived.Test.YtmloogdalecilaaDoorTie
import Derived.Test.YtmloogdalecilaaDoorCards
import Derived.SevenTiedAt
import Derived.Lay
import Derived.Test.YtmloogdalecilaaDoorShopA
import Derived.Test.YtmloogdalecilaaDoorKnownB
set_option linter.unusedVariables false
set_option linter.unusedSimpArgs false
set_option linter.unnecessarySimpa false
set_option linter.constructorNameAsVariable false

/-! C19 -/
namespace Go.Proofs.YtmloogdalecilaaDoor
open Go Go.Abs Go.Proofs
open Go.ChangeShapes Go.WideShapes Go.RowKit

/-- The three tables of numbers that the row lists. -/
def laid3 : List (String × DataW Unit) := [("math/bits.deBruijn32tab", Rows.laid_math_bits_deBruijn32tab), ("math/bits.deBruijn64tab", Rows.laid_math_bits_deBruijn64tab), ("internal/strconv.uint64pow10", Rows.laid_internal_strconv_uint64pow10)]
def laidK : List (String × DataW Unit) := [("math/bits.deBruijn32tab", Rows.laid_math_bits_deBruijn32tab), ("math/bits.deBruijn64tab", Rows.laid_math_bits_deBruijn64tab), ("internal/strconv.uint64pow10", Rows.laid_internal_strconv_uint64pow10), ("errors.errorType", Rows.laid_errors_errorType)]

/-- A world that meets the row's condition. -/
noncomputable def laidWorldK (os : Os) : World :=
  let w0 := World.laidAll Tryd.prog os laid3
  { w0 with heap := w0.heap.modify 0 fun
      | .cells _ t frozen => .cells #[.iface 183 (.agg #[.pointer (some ⟨4, 149, none⟩)])] t frozen
      | o => o }

set_option maxRecDepth 100000 in
theorem laidWorldK_met (os : Os) (args : Array Value) : laidMetH Tryd.prog laidK ((laidWorldK os).forCall (fun _ _ => 0) ⟨#[], args, []⟩).memory :=
  laidMetH_of_parts (laidMet_of_run' 8 (by kernel_rfl) (by kernel_rfl)) (by kernel_rfl)

theorem know_of_laidK {W : World} (h : laidMetH Tryd.prog laidK W) : KnowW W := by
  have h' : laidMet Tryd.prog laid3 W ∧ handlesMet Tryd.prog laidL W := h
  obtain ⟨name, u, ty, e1, e2, e3, e4, e5⟩ := h'.2 _ (List.mem_singleton.2 rfl)
  have en : name = [101, 114, 114, 111, 114] := (Option.some.inj e1).symm
  subst en
  obtain rfl := Option.some.inj (lay_rt.symm.trans e2)
  have hm : ty ∈ (List.range 242).filter fun t => Tryd.prog.rowNamed t [101, 114, 114, 111, 114] := List.mem_filter.2 ⟨List.mem_range.2 (by rw [← lay_size]; exact e3), e4⟩
  rw [lay_row] at hm
  obtain rfl := List.mem_singleton.1 hm
  have hh : typeHandle Tryd.prog 149 = .pointer (some ⟨4, 149, none⟩) := by kernel_rfl
  rw [hh] at e5
  show W.cell? ⟨0, 0, none⟩ = some hndlV
  simpa [hndlV] using World.var?_cell lay_et e5 0

set_option maxRecDepth 100000 in
theorem benchKnown_lifted (os : Os) (started : os.Started) (H : Type) (enc : TypeId × Value → H) :
    ReturnsInHanded {} Tryd.checked os 16 .any (fun w args => (Rows.benchKnownSpec.pre enc Tryd.prog Tryd.f16 [] false w args ∧ laidMetH Tryd.prog laidK w) ∧ sizedMet enc Tryd.prog Tryd.f16 (OpenSpec.ofChange Rows.benchKnownSpec) false w args)
      (Rows.benchKnownSpec.post enc Tryd.prog Tryd.f16 false true false false) := by
  refine returnsInHanded_of_change_and (C := Tryd.checked) (X := fun w _ => laidMetH Tryd.prog laidK w) (fun _ _ _ hh h => h.of_heap hh) own started (by kernel_rfl) Tryd.func16
    (ChangeSpec.witness_at (enc := enc) (C := Tryd.checked) (os := os) (X := fun w _ => laidMetH Tryd.prog laidK w) false (laidWorldK os) #[] 16 rfl (by kernel_rfl) (by kernel_rfl) (by kernel_rfl) (by kernel_rfl) (by kernel_rfl) (laidWorldK_met os _)) ?_
  intro W base args ds gs before hval0 hW _ hsz hL _
  exact law_post (s := Rows.benchKnownSpec) [] rfl (fun H ds hl => by match ds, hl with | [], _ => rfl) (by rw [Tryd.params16]) (by kernel_rfl) (fun t ht => by cases ht)
    (fun vs ds p h _ _ => by
      match vs, h with
      | [], _ => exact ⟨[], rfl, fun i d v hd => by simp at hd, fun Q hq => wBenchKnown Q hq⟩
      | v :: vs, h => cases ds <;> cases h) (know_of_laidK hL) hval0 hW hsz

theorem benchKnown_holds : Rows.BenchKnownSaid :=
  OpenClaim.holds_of_wide 16 Tryd.f16 rfl rfl rfl rfl rfl rfl rfl ⟨rfl, rfl, rfl, rfl, rfl⟩ rfl rfl rfl rfl rfl (by kernel_rfl) Tryd.func16 (by kernel_rfl)
    (of_decide_eq_true (by kernel_rfl)) (by unfold Func.isWrapper; first | (rw [if_pos (by decide +kernel)]; kernel_rfl) | (rw [if_neg (of_decide_eq_false (by kernel_rfl))]; exact ⟨rfl, rfl⟩))
    (fun os started H enc _ => benchKnown_lifted os started H enc)

theorem benchKnown_card : Rows.BenchKnownCardSaid :=
  Claim7.holds_tied_plain_at .later [] [.data, .data, .data, .handle] true (true, "ccac167340912cc7b937f82d9ddb332534b19e7b4a045a2ad7d654cfcdf53808") true
    benchKnown_holds (fun _ h => by cases h) (by kernel_rfl) (fun _ h => by cases h) benchKnown_row_tie rfl ⟨rfl, rfl⟩ (by kernel_rfl) rfl
    (fun f fn hf hfn => by
      obtain rfl : f = 16 := Option.some.inj ((show Tryd.prog.funcNamed "musette/musettelaw07.BenchKnown" = some 16 by kernel_rfl).symm.trans hf) |>.symm
      obtain rfl : fn = Tryd.f16 := (Option.some.inj (Tryd.func16.symm.trans hfn)).symm
      exact ⟨by kernel_rfl, fun j t ht => by
        rw [Tryd.params16] at ht
        simp at ht⟩)
    (by kernel_rfl)
end Go.Proofs.YtmloogdalecilaaDoor
