/- This text proves the tied card of the law BenchRead: it gives true at every input and leaves the input as it was, where the library's variables are as their texts lay them. -/
import Derived.Test.YthljpccegkmdnaaGreatDoorTie
import Derived.Test.YthljpccegkmdnaaGreatDoorCards
import Derived.SevenTiedAt
import Derived.Lay
import Derived.Test.YthljpccegkmdnaaGreatDoorTyBA
import Derived.Test.YthljpccegkmdnaaGreatDoorTyBJ
set_option linter.unusedVariables false
set_option linter.unusedSimpArgs false
set_option linter.unnecessarySimpa false
set_option linter.constructorNameAsVariable false

namespace Go.Proofs.YthljpccegkmdnaaGreatDoor
open Go Go.Abs Go.Proofs
open Go.ChangeShapes Go.WideShapes Go.RowKit
set_option maxRecDepth 100000 in
theorem benchRead_types : ∀ t ∈ [44, 9], Tryz.prog.readableRec t = true /\ t < Tryz.prog.types.size := fun t ht => by
 simp only [List.mem_cons, List.not_mem_nil, or_false] at ht;rcases ht with rfl | rfl <;> exact ⟨by kernel_rfl, of_decide_eq_true (by kernel_rfl)⟩
set_option maxRecDepth 100000 in
theorem benchRead_met (os : Os) (args : Array Value) : laidMetH Tryz.prog Z1m8 ((Z1lv os).forCall (fun _ _ => 0) ⟨#[], args, []⟩).memory :=
 laidMetH_of_parts (laidMet_of_run' 8 (by kernel_rfl) (by kernel_rfl)) (by kernel_rfl)
set_option maxRecDepth 100000 in
theorem benchRead_lifted (os : Os) (started : os.Started) (H : Type) (enc : TypeId × Value -> H) :
  ReturnsInHanded {} Tryz.checked os 5 .any (fun w args => (Rows.benchReadSpec.pre enc Tryz.prog Tryz.f5 [] false w args /\ laidMetH Tryz.prog Z1m8 w) /\ sizedMet enc Tryz.prog Tryz.f5 (OpenSpec.ofChange Rows.benchReadSpec) false w args)
   (Rows.benchReadSpec.post enc Tryz.prog Tryz.f5 false true false false) := by
 refine Z1hp (C := Tryz.checked) (X := fun w _ => laidMetH Tryz.prog Z1m8 w) (fun _ _ _ hh h => h.of_heap hh) own started (by kernel_rfl) Tryz.func5
  (ChangeSpec.witness_at (enc := enc) (C := Tryz.checked) (os := os) (X := fun w _ => laidMetH Tryz.prog Z1m8 w) false (Z1lv os) #[.slice none 0 0, .string ⟨#[]⟩] 5 rfl (by kernel_rfl) (by kernel_rfl) (by kernel_rfl) (by kernel_rfl) (by kernel_rfl) (benchRead_met os _)) ?_
 intro W base args ds gs before hval0 hW hsz hL hsh;exact Ztp (s := Rows.benchReadSpec) [44, 9] rfl (fun H ds hl => by match ds, hl with | [a0, a1], _ => rfl) (by rw [Tryz.params5]) (by kernel_rfl) benchRead_types (Z1kn fun L nums hL hl t Q hq => Z1nx L nums hL hl t Q hq) (Z1p4 hL hsh) hval0 hW hsz
theorem benchRead_holds : Rows.BenchReadSaid :=
 OpenClaim.holds_of_wide 5 Tryz.f5 rfl rfl rfl rfl rfl rfl rfl ⟨rfl, rfl, rfl, rfl, rfl⟩ rfl rfl rfl rfl rfl (by kernel_rfl) Tryz.func5 (by kernel_rfl)
  (of_decide_eq_true (by kernel_rfl)) (by unfold Func.isWrapper; first | (rw [if_pos (by decide +kernel)]; kernel_rfl) | (rw [if_neg (of_decide_eq_false (by kernel_rfl))]; exact ⟨rfl, rfl⟩))
  (fun os started H enc _ => benchRead_lifted os started H enc)
theorem benchRead_card : Rows.BenchReadCardSaid :=
 Claim7.holds_tied_plain_at .later [] [.data, .data, .data, .data, .handle, .sentinel, .sentinel, .pinned] true (true, "3c989383dad3484e259f7b0912bf952c3f073f166cc277654c97eae8ce231b08") true
  benchRead_holds (fun _ h => by cases h) (by kernel_rfl) (fun _ h => by cases h) benchRead_row_tie rfl ⟨rfl, rfl⟩ (by kernel_rfl) rfl
  (fun f fn hf hfn => by
   obtain rfl : f = 5 := Option.some.inj ((show Tryz.prog.funcNamed "musette/musettelaw07.BenchRead" = some 5 by kernel_rfl).symm.trans hf) |>.symm
   obtain rfl : fn = Tryz.f5 := (Option.some.inj (Tryz.func5.symm.trans hfn)).symm
   exact ⟨by kernel_rfl, fun j t ht => by
    rw [Tryz.params5] at ht
    match j, ht with
    | 0, ht =>
     have h3 : t = 44 := by simpa using ht.symm
     subst h3
     exact (show Tryz.prog.wantsStandIn 44 = false by kernel_rfl)
    | 1, ht =>
     have h3 : t = 9 := by simpa using ht.symm
     subst h3
     exact (show Tryz.prog.wantsStandIn 9 = false by kernel_rfl)
    | j + 2, ht => simp at ht⟩)
  (by kernel_rfl)
end Go.Proofs.YthljpccegkmdnaaGreatDoor
