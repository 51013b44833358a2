/- This text proves the tied card of the law BatchTexts: it gives true at every input and leaves the input as it was, where the library's variables are as their texts lay them. -/
import Derived.Test.YthljpccegkmdnaaGreatDoorTie
import Derived.Test.YthljpccegkmdnaaGreatDoorCards
import Derived.SevenTiedAt
import Derived.Lay
import Derived.Test.YthljpccegkmdnaaGreatDoorTxBG
import Derived.Test.YthljpccegkmdnaaGreatDoorTxBL
set_option linter.unusedVariables false
set_option linter.unusedSimpArgs false
set_option linter.unnecessarySimpa false
set_option linter.constructorNameAsVariable false

namespace Go.Proofs.YthljpccegkmdnaaGreatDoor
open Go Go.Abs Go.Proofs
open Go.ChangeShapes Go.WideShapes Go.RowKit
set_option maxRecDepth 100000 in
theorem batchTexts_types : ∀ t ∈ [25, 9, 44, 3, 3, 5], Tryz.prog.readableRec t = true /\ t < Tryz.prog.types.size := fun t ht => by
 simp only [List.mem_cons, List.not_mem_nil, or_false] at ht;rcases ht with rfl | rfl | rfl | rfl | rfl | rfl <;> exact ⟨by kernel_rfl, of_decide_eq_true (by kernel_rfl)⟩
set_option maxRecDepth 100000 in
theorem batchTexts_met (os : Os) (args : Array Value) : laidMetH Tryz.prog Z1he (((World.laidAll Tryz.prog os Z1he)).forCall (fun _ _ => 0) ⟨#[], args, []⟩).memory :=
 show laidMet Tryz.prog Z1he _ from laidMet_of_run' 8 (by kernel_rfl) (by kernel_rfl)
set_option maxRecDepth 100000 in
theorem batchTexts_lifted (os : Os) (started : os.Started) (H : Type) (enc : TypeId × Value -> H) :
  ReturnsInHanded {} Tryz.checked os 6 .any (fun w args => (Rows.batchTextsSpec.pre enc Tryz.prog Tryz.f6 [] false w args /\ laidMetH Tryz.prog Z1he w) /\ sizedMet enc Tryz.prog Tryz.f6 (OpenSpec.ofChange Rows.batchTextsSpec) false w args)
   (Rows.batchTextsSpec.post enc Tryz.prog Tryz.f6 false true false false) := by
 refine Z1hp (C := Tryz.checked) (X := fun w _ => laidMetH Tryz.prog Z1he w) (fun _ _ _ hh h => h.of_heap hh) own started (by kernel_rfl) Tryz.func6
  (ChangeSpec.witness_at (enc := enc) (C := Tryz.checked) (os := os) (X := fun w _ => laidMetH Tryz.prog Z1he w) false (World.laidAll Tryz.prog os Z1he) #[.agg #[.int .i64 0, .slice none 0 0, .slice none 0 0], .string ⟨#[]⟩, .slice none 0 0, .int .i64 0, .int .i64 0, .int .u8 0] 5 rfl (by kernel_rfl) (by kernel_rfl) (by kernel_rfl) (by kernel_rfl) (by kernel_rfl) (batchTexts_met os _)) ?_
 intro W base args ds gs before hval0 hW hsz hL hsh;exact Ztp (s := Rows.batchTextsSpec) [25, 9, 44, 3, 3, 5] rfl (fun H ds hl => by match ds, hl with | [a0, a1, a2, a3, a4, a5], _ => rfl) (by rw [Tryz.params6]) (by kernel_rfl) batchTexts_types (Z1ii fun j FL ML hF hM hf hm t L nums hL hl a b z c hz Q hq => Z1if j FL ML hF hM hf hm t L nums hL hl a b z c hz Q hq) (Z1k6 hL hsh) hval0 hW hsz
theorem batchTexts_holds : Rows.BatchTextsSaid :=
 OpenClaim.holds_of_wide 6 Tryz.f6 rfl rfl rfl rfl rfl rfl rfl ⟨rfl, rfl, rfl, rfl, rfl⟩ rfl rfl rfl rfl rfl (by kernel_rfl) Tryz.func6 (by kernel_rfl)
  (of_decide_eq_true (by kernel_rfl)) (by unfold Func.isWrapper; first | (rw [if_pos (by decide +kernel)]; kernel_rfl) | (rw [if_neg (of_decide_eq_false (by kernel_rfl))]; exact ⟨rfl, rfl⟩))
  (fun os started H enc _ => batchTexts_lifted os started H enc)
theorem batchTexts_card : Rows.BatchTextsCardSaid :=
 Claim7.holds_tied_plain_at .later [] [.data, .data, .data, .data, .sentinel, .sentinel, .pinned] true (true, "3c989383dad3484e259f7b0912bf952c3f073f166cc277654c97eae8ce231b08") true
  batchTexts_holds (fun _ h => by cases h) (by kernel_rfl) (fun _ h => by cases h) batchTexts_row_tie rfl ⟨rfl, rfl⟩ (by kernel_rfl) rfl
  (fun f fn hf hfn => by
   obtain rfl : f = 6 := Option.some.inj ((show Tryz.prog.funcNamed "musette/musettelaw09.BatchTexts" = some 6 by kernel_rfl).symm.trans hf) |>.symm
   obtain rfl : fn = Tryz.f6 := (Option.some.inj (Tryz.func6.symm.trans hfn)).symm
   exact ⟨by kernel_rfl, fun j t ht => by
    rw [Tryz.params6] at ht
    match j, ht with
    | 0, ht =>
     have h3 : t = 25 := by simpa using ht.symm
     subst h3
     exact (show Tryz.prog.wantsStandIn 25 = false by kernel_rfl)
    | 1, ht =>
     have h3 : t = 9 := by simpa using ht.symm
     subst h3
     exact (show Tryz.prog.wantsStandIn 9 = false by kernel_rfl)
    | 2, ht =>
     have h3 : t = 44 := by simpa using ht.symm
     subst h3
     exact (show Tryz.prog.wantsStandIn 44 = false by kernel_rfl)
    | 3, ht =>
     have h3 : t = 3 := by simpa using ht.symm
     subst h3
     exact (show Tryz.prog.wantsStandIn 3 = false by kernel_rfl)
    | 4, ht =>
     have h3 : t = 3 := by simpa using ht.symm
     subst h3
     exact (show Tryz.prog.wantsStandIn 3 = false by kernel_rfl)
    | 5, ht =>
     have h3 : t = 5 := by simpa using ht.symm
     subst h3
     exact (show Tryz.prog.wantsStandIn 5 = false by kernel_rfl)
    | j + 6, ht => simp at ht⟩)
  (by kernel_rfl)
end Go.Proofs.YthljpccegkmdnaaGreatDoor
