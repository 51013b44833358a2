/- This text proves the tied card of the law BatchWorks: it gives true at every input and leaves the input as it was, where the laid variable of the program is as its text lays it. -/
import Derived.Test.YtegjabljeepbdaaGreatDoorTie
import Derived.Test.YtegjabljeepbdaaGreatDoorCards
import Derived.SevenTiedAt
import Derived.Test.YtegjabljeepbdaaGreatDoorWrkC
import Derived.Test.YtegjabljeepbdaaGreatDoorWrkD
set_option linter.unusedVariables false
set_option linter.unusedSimpArgs false
set_option linter.unnecessarySimpa false
set_option linter.constructorNameAsVariable false

namespace Go.Proofs.YtegjabljeepbdaaGreatDoor
open Go Go.Abs Go.Proofs
open Go.ChangeShapes Go.WideShapes Go.RowKit
set_option maxRecDepth 100000 in
theorem batchWorks_types : ∀ t ∈ [40, 27, 22, 22], Tryz.prog.readableRec t = true /\ t < Tryz.prog.types.size := fun t ht => by
 simp only [List.mem_cons, List.not_mem_nil, or_false] at ht;rcases ht with rfl | rfl | rfl | rfl <;> exact ⟨by kernel_rfl, of_decide_eq_true (by kernel_rfl)⟩
set_option maxRecDepth 100000 in
theorem batchWorks_lifted (os : Os) (started : os.Started) (H : Type) (enc : TypeId × Value -> H) :
  ReturnsInHanded {} Tryz.checked os 5 .any (fun w args => (Rows.batchWorksSpec.pre enc Tryz.prog Tryz.f5 [] false w args /\ laidMetH Tryz.prog Z1dh w) /\ sizedMet enc Tryz.prog Tryz.f5 (OpenSpec.ofChange Rows.batchWorksSpec) false w args)
   (Rows.batchWorksSpec.post enc Tryz.prog Tryz.f5 false true false false) := by
 refine returnsInHanded_of_change_and (C := Tryz.checked) (X := fun w _ => laidMetH Tryz.prog Z1dh w) (fun _ _ _ hh h => h.of_heap hh) own started (by kernel_rfl) Tryz.func5
  (ChangeSpec.witness_at (enc := enc) (C := Tryz.checked) (os := os) (X := fun w _ => laidMetH Tryz.prog Z1dh w) false (Z1dg os #[.agg #[.int .i64 0, .slice none 0 0, .slice none 0 0], .agg #[.int .i64 0, .slice none 0 0], .slice none 0 0, .slice none 0 0]) #[.agg #[.int .i64 0, .slice none 0 0, .slice none 0 0], .agg #[.int .i64 0, .slice none 0 0], .slice none 0 0, .slice none 0 0] 5 rfl (by kernel_rfl) (by kernel_rfl) (by kernel_rfl) (by kernel_rfl) (by kernel_rfl) (Z1db os _)) ?_
 intro W base args ds gs Z7o hval0 hW _ hsz hL _;exact Ztp (s := Rows.batchWorksSpec) [40, 27, 22, 22] rfl (fun H ds hl => by match ds, hl with | [a0, a1, a2, a3], _ => rfl) (by rw [Tryz.params5]) (by kernel_rfl) batchWorks_types (Z1ds fun j FL ML hF hM s hs TL hT pl hpl PL hP L nums hL hl Q hq => Z1dl j FL ML hF hM s hs TL hT pl hpl PL hP L nums hL hl Q hq) (Z1di hL) hval0 hW hsz
theorem batchWorks_holds : Rows.BatchWorksSaid :=
 OpenClaim.holds_of_wide 5 Tryz.f5 rfl rfl rfl rfl rfl rfl rfl ⟨rfl, rfl, rfl, rfl, rfl⟩ rfl rfl rfl rfl rfl (by kernel_rfl) Tryz.func5 (by kernel_rfl)
  (of_decide_eq_true (by kernel_rfl)) (by unfold Func.isWrapper; first | (rw [if_pos (by decide +kernel)]; kernel_rfl) | (rw [if_neg (of_decide_eq_false (by kernel_rfl))]; exact ⟨rfl, rfl⟩))
  (fun os started H enc _ => batchWorks_lifted os started H enc)
theorem batchWorks_card : Rows.BatchWorksCardSaid :=
 Claim7.holds_tied_plain_at .later [] [.handle] true (true, "0eacd5d6e497d09a877d845a2d7d330112979391fa1c65076ec4eb2b0ae2fe63") true
  batchWorks_holds (fun _ h => by cases h) (by kernel_rfl) (fun _ h => by cases h) batchWorks_row_tie rfl ⟨rfl, rfl⟩ (by kernel_rfl) rfl
  (fun f fn hf hfn => by
   obtain rfl : f = 5 := Option.some.inj ((show Tryz.prog.funcNamed "musette/musettelaw09.BatchWorks" = some 5 by kernel_rfl).symm.trans hf) |>.symm
   obtain rfl : fn = Tryz.f5 := (Option.some.inj (Tryz.func5.symm.trans hfn)).symm
   exact ⟨by kernel_rfl, fun j t ht => by
    rw [Tryz.params5] at ht
    match j, ht with
    | 0, ht =>
     have h3 : t = 40 := by simpa using ht.symm
     subst h3
     exact (show Tryz.prog.wantsStandIn 40 = false by kernel_rfl)
    | 1, ht =>
     have h3 : t = 27 := by simpa using ht.symm
     subst h3
     exact (show Tryz.prog.wantsStandIn 27 = false by kernel_rfl)
    | 2, ht =>
     have h3 : t = 22 := by simpa using ht.symm
     subst h3
     exact (show Tryz.prog.wantsStandIn 22 = false by kernel_rfl)
    | 3, ht =>
     have h3 : t = 22 := by simpa using ht.symm
     subst h3
     exact (show Tryz.prog.wantsStandIn 22 = false by kernel_rfl)
    | j + 4, ht => simp at ht⟩)
  (by kernel_rfl)
end Go.Proofs.YtegjabljeepbdaaGreatDoor
