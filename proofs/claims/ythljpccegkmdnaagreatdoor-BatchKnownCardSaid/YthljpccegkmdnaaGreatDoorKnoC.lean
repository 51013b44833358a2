/- This text proves the tied card of the law BatchKnown: the examples of the chapter have the results given there, where the laid variables of the program are as its text lays them. -/
import Derived.Test.YthljpccegkmdnaaGreatDoorTie
import Derived.Test.YthljpccegkmdnaaGreatDoorCards
import Derived.SevenTiedAt
import Derived.Lay
import Derived.Test.YthljpccegkmdnaaGreatDoorWrkD
import Derived.Test.YthljpccegkmdnaaGreatDoorKnoB
set_option linter.unusedVariables false
set_option linter.unusedSimpArgs false
set_option linter.unnecessarySimpa false
set_option linter.constructorNameAsVariable false

namespace Go.Proofs.YthljpccegkmdnaaGreatDoor
open Go Go.Abs Go.Proofs
open Go.ChangeShapes Go.WideShapes Go.RowKit
def laid3 : List (String × DataW Unit) := [("math/bits.deBruijn32tab", Rows.laid_math_bits_deBruijn32tab), ("math/bits.deBruijn64tab", Rows.laid_math_bits_deBruijn64tab), ("internal/strconv.uint64pow10", Rows.laid_internal_strconv_uint64pow10)]
def laidK : List (String × DataW Unit) := [("math/bits.deBruijn32tab", Rows.laid_math_bits_deBruijn32tab), ("math/bits.deBruijn64tab", Rows.laid_math_bits_deBruijn64tab), ("internal/strconv.uint64pow10", Rows.laid_internal_strconv_uint64pow10), ("errors.errorType", Rows.laid_errors_errorType)]
noncomputable def laidWorldK (os : Os) : World :=
 let w0 := World.laidAll Tryz.prog os laid3
 { w0 with heap := w0.heap.modify 0 fun
   | .cells _ t frozen => .cells #[.iface 299 (.agg #[.pointer (some ⟨9, 207, none⟩)])] t frozen
   | o => o }
set_option maxRecDepth 100000 in
theorem laidWorldK_met (os : Os) (args : Array Value) : laidMetH Tryz.prog laidK ((laidWorldK os).forCall (fun _ _ => 0) ⟨#[], args, []⟩).memory :=
 laidMetH_of_parts (laidMet_of_run' 8 (by kernel_rfl) (by kernel_rfl)) (by kernel_rfl)
theorem know_of_laidK {W : World} (h : laidMetH Tryz.prog laidK W) : Z1d5 W := by
 have h' : laidMet Tryz.prog laid3 W /\ handlesMet Tryz.prog Z1dh W := h;obtain ⟨name, u, ty, e1, e2, e3, e4, e5⟩ := h'.2 _ (List.mem_singleton.2 rfl);have en : name = [101, 114, 114, 111, 114] := (Option.some.inj e1).symm;subst en;obtain rfl := Option.some.inj (Z1e6.symm.trans e2);have hm : ty ∈ (List.range 370).filter fun t => Tryz.prog.rowNamed t [101, 114, 114, 111, 114] := List.mem_filter.2 ⟨List.mem_range.2 (by rw [<- Z1dt]; exact e3), e4⟩;rw [Z1dx] at hm;obtain rfl := List.mem_singleton.1 hm;have hh : typeHandle Tryz.prog 207 = .pointer (some ⟨9, 207, none⟩) := by kernel_rfl
 rw [hh] at e5;show W.cell? ⟨0, 0, none⟩ = some Zxj;simpa [Zxj] using World.var?_cell Z1e5 e5 0
set_option maxRecDepth 100000 in
theorem batchKnown_lifted (os : Os) (started : os.Started) (H : Type) (enc : TypeId × Value -> H) :
  ReturnsInHanded {} Tryz.checked os 3 .any (fun w args => (Rows.batchKnownSpec.pre enc Tryz.prog Tryz.f3 [] false w args /\ laidMetH Tryz.prog laidK w) /\ sizedMet enc Tryz.prog Tryz.f3 (OpenSpec.ofChange Rows.batchKnownSpec) false w args)
   (Rows.batchKnownSpec.post enc Tryz.prog Tryz.f3 false true false false) := by
 refine returnsInHanded_of_change_and (C := Tryz.checked) (X := fun w _ => laidMetH Tryz.prog laidK w) (fun _ _ _ hh h => h.of_heap hh) own started (by kernel_rfl) Tryz.func3
  (ChangeSpec.witness_at (enc := enc) (C := Tryz.checked) (os := os) (X := fun w _ => laidMetH Tryz.prog laidK w) false (laidWorldK os) #[] 3 rfl (by kernel_rfl) (by kernel_rfl) (by kernel_rfl) (by kernel_rfl) (by kernel_rfl) (laidWorldK_met os _)) ?_
 intro W base args ds gs Z7o hval0 hW _ hsz hL _;exact Ztp (s := Rows.batchKnownSpec) [] rfl (fun H ds hl => by match ds, hl with | [], _ => rfl) (by rw [Tryz.params3]) (by kernel_rfl) (fun t ht => by cases ht)
  (fun vs ds p h _ _ => by
   match vs, h with
   | [], _ => exact ⟨[], rfl, fun i d v hd => by simp at hd, fun Q hq => Z1ee Q hq⟩
   | v :: vs, h => cases ds <;> cases h) (know_of_laidK hL) hval0 hW hsz
theorem batchKnown_holds : Rows.BatchKnownSaid :=
 OpenClaim.holds_of_wide 3 Tryz.f3 rfl rfl rfl rfl rfl rfl rfl ⟨rfl, rfl, rfl, rfl, rfl⟩ rfl rfl rfl rfl rfl (by kernel_rfl) Tryz.func3 (by kernel_rfl)
  (of_decide_eq_true (by kernel_rfl)) (by unfold Func.isWrapper; first | (rw [if_pos (by decide +kernel)]; kernel_rfl) | (rw [if_neg (of_decide_eq_false (by kernel_rfl))]; exact ⟨rfl, rfl⟩))
  (fun os started H enc _ => batchKnown_lifted os started H enc)
theorem batchKnown_card : Rows.BatchKnownCardSaid :=
 Claim7.holds_tied_plain_at .later [] [.data, .data, .data, .handle] true (true, "3c989383dad3484e259f7b0912bf952c3f073f166cc277654c97eae8ce231b08") true
  batchKnown_holds (fun _ h => by cases h) (by kernel_rfl) (fun _ h => by cases h) batchKnown_row_tie rfl ⟨rfl, rfl⟩ (by kernel_rfl) rfl
  (fun f fn hf hfn => by
   obtain rfl : f = 3 := Option.some.inj ((show Tryz.prog.funcNamed "musette/musettelaw09.BatchKnown" = some 3 by kernel_rfl).symm.trans hf) |>.symm
   obtain rfl : fn = Tryz.f3 := (Option.some.inj (Tryz.func3.symm.trans hfn)).symm
   exact ⟨by kernel_rfl, fun j t ht => by
    rw [Tryz.params3] at ht
    simp at ht⟩)
  (by kernel_rfl)
end Go.Proofs.YthljpccegkmdnaaGreatDoor
