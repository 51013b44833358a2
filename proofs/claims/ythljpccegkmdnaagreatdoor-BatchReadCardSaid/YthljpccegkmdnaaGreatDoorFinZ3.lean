/- This text proves the tied card of the law BatchRead: it gives true at every input and leaves the input as it was, where the library's variables are as their texts lay them. -/
import Derived.Test.YthljpccegkmdnaaGreatDoorTie
import Derived.Test.YthljpccegkmdnaaGreatDoorCards
import Derived.SevenTiedAt
import Derived.Lay
import Derived.Test.YthljpccegkmdnaaGreatDoorTxBG
import Derived.Test.YthljpccegkmdnaaGreatDoorTxBN
set_option linter.unusedVariables false
set_option linter.unusedSimpArgs false
set_option linter.unnecessarySimpa false
set_option linter.constructorNameAsVariable false

namespace Go.Proofs.YthljpccegkmdnaaGreatDoor
open Go Go.Abs Go.Proofs
open Go.ChangeShapes Go.WideShapes Go.RowKit
set_option maxRecDepth 100000 in
theorem batchRead_types : ∀ t ∈ [44, 9], Tryz.prog.readableRec t = true /\ t < Tryz.prog.types.size := fun t ht => by
 simp only [List.mem_cons, List.not_mem_nil, or_false] at ht;rcases ht with rfl | rfl <;> exact ⟨by kernel_rfl, of_decide_eq_true (by kernel_rfl)⟩
set_option maxRecDepth 100000 in
theorem batchRead_met (os : Os) (args : Array Value) : laidMetH Tryz.prog Z1he (((World.laidAll Tryz.prog os Z1he)).forCall (fun _ _ => 0) ⟨#[], args, []⟩).memory :=
 show laidMet Tryz.prog Z1he _ from laidMet_of_run' 8 (by kernel_rfl) (by kernel_rfl)
set_option maxRecDepth 100000 in
theorem batchRead_lifted (os : Os) (started : os.Started) (H : Type) (enc : TypeId × Value -> H) :
  ReturnsInHanded {} Tryz.checked os 7 .any (fun w args => (Rows.batchReadSpec.pre enc Tryz.prog Tryz.f7 [] false w args /\ laidMetH Tryz.prog Z1he w) /\ sizedMet enc Tryz.prog Tryz.f7 (OpenSpec.ofChange Rows.batchReadSpec) false w args)
   (Rows.batchReadSpec.post enc Tryz.prog Tryz.f7 false true false false) := by
 refine Z1hp (C := Tryz.checked) (X := fun w _ => laidMetH Tryz.prog Z1he w) (fun _ _ _ hh h => h.of_heap hh) own started (by kernel_rfl) Tryz.func7
  (ChangeSpec.witness_at (enc := enc) (C := Tryz.checked) (os := os) (X := fun w _ => laidMetH Tryz.prog Z1he w) false (World.laidAll Tryz.prog os Z1he) #[.slice none 0 0, .string ⟨#[]⟩] 5 rfl (by kernel_rfl) (by kernel_rfl) (by kernel_rfl) (by kernel_rfl) (by kernel_rfl) (batchRead_met os _)) ?_
 intro W base args ds gs before hval0 hW hsz hL hsh;exact Ztp (s := Rows.batchReadSpec) [44, 9] rfl (fun H ds hl => by match ds, hl with | [a0, a1], _ => rfl) (by rw [Tryz.params7]) (by kernel_rfl) batchRead_types (Z1kn fun L nums hL hl t Q hq => Z1l3 L nums hL hl t Q hq) (Z1k6 hL hsh) hval0 hW hsz
theorem batchRead_holds : Rows.BatchReadSaid :=
 OpenClaim.holds_of_wide 7 Tryz.f7 rfl rfl rfl rfl rfl rfl rfl ⟨rfl, rfl, rfl, rfl, rfl⟩ rfl rfl rfl rfl rfl (by kernel_rfl) Tryz.func7 (by kernel_rfl)
  (of_decide_eq_true (by kernel_rfl)) (by unfold Func.isWrapper; first | (rw [if_pos (by decide +kernel)]; kernel_rfl) | (rw [if_neg (of_decide_eq_false (by kernel_rfl))]; exact ⟨rfl, rfl⟩))
  (fun os started H enc _ => batchRead_lifted os started H enc)
theorem batchRead_card : Rows.BatchReadCardSaid :=
 Claim7.holds_tied_plain_at .later [] [.data, .data, .data, .data, .sentinel, .sentinel, .pinned] true (true, "3c989383dad3484e259f7b0912bf952c3f073f166cc277654c97eae8ce231b08") true
  batchRead_holds (fun _ h => by cases h) (by kernel_rfl) (fun _ h => by cases h) batchRead_row_tie rfl ⟨rfl, rfl⟩ (by kernel_rfl) rfl
  (fun f fn hf hfn => by
   obtain rfl : f = 7 := Option.some.inj ((show Tryz.prog.funcNamed "musette/musettelaw09.BatchRead" = some 7 by kernel_rfl).symm.trans hf) |>.symm
   obtain rfl : fn = Tryz.f7 := (Option.some.inj (Tryz.func7.symm.trans hfn)).symm
   exact ⟨by kernel_rfl, fun j t ht => by
    rw [Tryz.params7] at ht
    match j, ht with
    | 0, ht =>
     have h3 : t = 44 := by simpa using ht.symm
     subst h3
     exact (show Tryz.prog.wantsStandIn 44 = false by kernel_rfl)
    | 1, ht =>
     have h3 : t = 9 := by simpa using ht.symm
     subst h3
     exact (show Tryz.prog.wantsStandIn 9 = false by kernel_rfl)
    | j + 2, ht => simp at ht⟩)
  (by kernel_rfl)
end Go.Proofs.YthljpccegkmdnaaGreatDoor
