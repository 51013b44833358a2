/- This text proves the tied card of the law TopSlips: it gives true at every input and leaves the input as it was, where the laid variable of the program is as its text lays it. -/
import Derived.Test.YtegjabljeepbdaaGreatDoorTie
import Derived.Test.YtegjabljeepbdaaGreatDoorCards
import Derived.SevenTiedAt
import Derived.LaidLaws
import Derived.LaidHandle
import Derived.Stop.Joined
import Derived.Test.YtegjabljeepbdaaGreatDoorRunJ
import Derived.Test.YtegjabljeepbdaaGreatDoorSlpB
set_option linter.unusedVariables false
set_option linter.unusedSimpArgs false
set_option linter.unnecessarySimpa false
set_option linter.constructorNameAsVariable false

namespace Go.Proofs.YtegjabljeepbdaaGreatDoor
open Go Go.Abs Go.Proofs
open Go.ChangeShapes Go.WideShapes Go.RowKit
noncomputable def laidWorld (os : Os) (args : Array Value) : World :=
 let w0 := World.holding Tryz.prog os ⟨#[], args, []⟩
 { w0 with heap := w0.heap.modify 0 fun
   | .cells _ t frozen => .cells #[.iface 221 (.agg #[.pointer (some ⟨1, 163, none⟩)])] t frozen
   | o => o }
def laidL : List (String × DataW Unit) := [("errors.errorType", Rows.laid_errors_errorType)]
theorem laidWorld_met (os : Os) (args : Array Value) : laidMetH Tryz.prog laidL ((laidWorld os args).forCall (fun _ _ => 0) ⟨#[], args, []⟩).memory :=
 laidMetH_of_parts (laidMet_nil _ _) (by kernel_rfl)
theorem lay_et : Tryz.prog.globalNamed "errors.errorType" = some 0 := by kernel_rfl
theorem lay_rt : (Tryz.prog.cutTypes.find? (·.1 == "internal/reflectlite.rtype")).map (·.2) = some 221 := by kernel_rfl
set_option maxRecDepth 100000 in
theorem topSlips_lifted (os : Os) (started : os.Started) (H : Type) (enc : TypeId × Value -> H) :
  ReturnsInHanded {} Tryz.checked os 3 .any (fun w args => (Rows.topSlipsSpec.pre enc Tryz.prog Tryz.f3 [] false w args /\ laidMetH Tryz.prog laidL w) /\ sizedMet enc Tryz.prog Tryz.f3 (OpenSpec.ofChange Rows.topSlipsSpec) false w args)
   (Rows.topSlipsSpec.post enc Tryz.prog Tryz.f3 false true false false) := by
 refine returnsInHanded_of_change_and (C := Tryz.checked) (X := fun w _ => laidMetH Tryz.prog laidL w) (fun _ _ _ hh h => h.of_heap hh) own started (by kernel_rfl) Tryz.func3
  (ChangeSpec.witness_at (enc := enc) (C := Tryz.checked) (os := os) (X := fun w _ => laidMetH Tryz.prog laidL w) false (laidWorld os #[.slice none 0 0]) #[.slice none 0 0] 3 rfl (by kernel_rfl) (by kernel_rfl) (by kernel_rfl) (by kernel_rfl) (by kernel_rfl) (laidWorld_met os _)) ?_
 intro W base args ds gs before hval0 hW _ _ hL _;exact Z11q (s := Rows.topSlipsSpec) rfl (fun H d => rfl) Tryz.params3 (by kernel_rfl) (fun L nums hL hl Q hq => Z1cp L nums hL hl Q hq) hval0 hW
theorem topSlips_holds : Rows.TopSlipsSaid :=
 OpenClaim.holds_of_wide 3 Tryz.f3 rfl rfl rfl rfl rfl rfl rfl ⟨rfl, rfl, rfl, rfl, rfl⟩ rfl rfl rfl rfl rfl (by kernel_rfl) Tryz.func3 (by kernel_rfl)
  (of_decide_eq_true (by kernel_rfl)) (by unfold Func.isWrapper; first | (rw [if_pos (by decide +kernel)]; kernel_rfl) | (rw [if_neg (of_decide_eq_false (by kernel_rfl))]; exact ⟨rfl, rfl⟩))
  (fun os started H enc _ => topSlips_lifted os started H enc)
theorem topSlips_card : Rows.TopSlipsCardSaid :=
 Claim7.holds_tied_plain_at .later [] [.handle] true (true, "0eacd5d6e497d09a877d845a2d7d330112979391fa1c65076ec4eb2b0ae2fe63") true
  topSlips_holds (fun _ h => by cases h) (by kernel_rfl) (fun _ h => by cases h) topSlips_row_tie rfl ⟨rfl, rfl⟩ (by kernel_rfl) rfl
  (fun f fn hf hfn => by
   obtain rfl : f = 3 := Option.some.inj ((show Tryz.prog.funcNamed "musette/musettetop.TopSlips" = some 3 by kernel_rfl).symm.trans hf) |>.symm
   obtain rfl : fn = Tryz.f3 := (Option.some.inj (Tryz.func3.symm.trans hfn)).symm
   exact ⟨by kernel_rfl, fun j t ht => by
    rw [Tryz.params3] at ht
    have h3 : t = 22 := by
     rcases j with _ | j
     ·simpa using ht.symm
     ·simp at ht
    subst h3
    exact (show Tryz.prog.wantsStandIn 22 = false by kernel_rfl)⟩)
  (by kernel_rfl)
end Go.Proofs.YtegjabljeepbdaaGreatDoor
