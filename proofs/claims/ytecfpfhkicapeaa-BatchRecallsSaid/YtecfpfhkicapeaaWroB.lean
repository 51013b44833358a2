/- Part WroB of the proofs about the benches of the accordion maker: see the last text of the claim for what is proved. -/
import Derived.Test.YtecfpfhkicapeaaWroA
import Derived.Test.YtecfpfhkicapeaaBatG
import Derived.Test.YtecfpfhkicapeaaBatJ
import Derived.Test.YtecfpfhkicapeaaCloseB
set_option linter.unusedVariables false
set_option linter.unusedSimpArgs false
set_option linter.unnecessarySimpa false
set_option linter.constructorNameAsVariable false

namespace Go.Proofs.Ytecfpfhkicapeaa
open Go Go.Abs Go.Proofs Go.Batch
set_option maxRecDepth 20000 in
set_option maxHeartbeats 4000000 in
theorem Zj8 (ins : Int) (FL ML : List D) (n m : Nat) (hF : FL.length = n) (hM : ML.length = m) (hn : n <= 1000) (hm : m <= 1000) (Q) (hq : Q (RA.ret (.agg [I ins, .sl 1 FL, .sl 5 ML])) []) :
  CallA Try.prog 22 [.agg [I ins, .sl 1 FL, .sl 5 ML]] [] Q := by
 obtain ⟨A, hA⟩ : ∃ A, A = ar := ⟨_, rfl⟩;have e1 : A.addN 0 (A.len FL) = n := by rw [Z2e hA, Z9m hA hF, Nat.zero_add]
 have e2 : A.addN 0 (A.len ML) = m := by rw [Z2e hA, Z9m hA hM, Nat.zero_add]
 have a1 : A.app [] FL = FL := by rw [Z33 hA, List.nil_append]
 have a2 : A.app [] ML = ML := by rw [Z33 hA, List.nil_append]
 have r1 : A.room (A.addN 0 (A.len FL)) 1 := by
  rw [e1]; subst hA; exact ⟨by show n * 1 <= 140737488355328; omega, by show n <= 4611686018427387904; omega⟩
 have r2 : A.room (A.addN 0 (A.len ML)) 40 := by
  rw [e2]; subst hA; exact ⟨by show m * 40 <= 140737488355328; omega, by show m <= 4611686018427387904; omega⟩
 have wk : WkD (.agg [I ins, .o 4 1 (A.addN 0 (A.len FL)), .o 5 5 (A.addN 0 (A.len ML))]) (.agg [I ins, .o 4 1 n, .o 5 5 m]) := WkD.eq (by rw [e1, e2]);refine Z5 Z0 hA Try.func22 rfl rfl rfl rfl rfl fun S hS => ?_;cbv;refine Z5j Z0 hA hS [7] [0, 1, 2, 4, 5, 6, 3, 8, 7, 9, 10, 11] rfl rfl fun Dk hD => ?_;cbv;refine ⟨Ze hA rfl, r1, ?_⟩;refine Z9o Z0 hA hD rfl rfl rfl rfl rfl rfl rfl rfl rfl rfl rfl ?_ ?_
 ·cbv;refine ⟨Ze hA rfl, r2, ?_⟩;rw [hD];refine Zx Z0 hA hD ?_;cbv;refine Z37 wk ?_;exact Z2 [4, 5] (by decide) Z9 (H' := [.els 1 FL, .els 5 ML]) (d' := .agg [I ins, .o 0 1 n, .o 1 5 m]) ⟨congrArg (fun l => some (Blk.els 1 l)) a1, congrArg (fun l => some (Blk.els 5 l)) a2, trivial⟩ rfl (by
   refine Z1w [0, 1] ?_
   cbv
   exact ⟨by cases FL <;> exact hF.symm, by cases ML <;> exact hM.symm, Z2 [] (by decide) Z9 (H' := []) (d' := .agg [I ins, .sl 1 FL, .sl 5 ML]) trivial rfl (Z1 hq)⟩)
 ·cbv;rw [hD];refine Zx Z0 hA hD ?_;cbv;refine ⟨Ze hA rfl, r2, ?_⟩;refine Z37 wk ?_;exact Z2 [4, 5] (by decide) Z9 (H' := [.els 1 FL, .els 5 ML]) (d' := .agg [I ins, .o 0 1 n, .o 1 5 m]) ⟨congrArg (fun l => some (Blk.els 1 l)) a1, congrArg (fun l => some (Blk.els 5 l)) a2, trivial⟩ rfl (by
   refine Z1w [0, 1] ?_
   cbv
   exact ⟨by cases FL <;> exact hF.symm, by cases ML <;> exact hM.symm, Z2 [] (by decide) Z9 (H' := []) (d' := .agg [I ins, .sl 1 FL, .sl 5 ML]) trivial rfl (Z1 hq)⟩)
theorem Zyl {A : Ar} (hA : A = ar) (x : Int) : A.cmp .neq x x = false := by subst hA; simp [ar, Z25]
section
structure JLim (j : Jn) (FL ML : List D) : Prop where
 F : FL = j.first.map Zv
 M : ML = j.moves.map mvD
 f : j.first.length <= 100
 m : j.moves.length <= 100
variable {j : Jn} {FL ML : List D}
theorem JLim.fl (h : JLim j FL ML) : j.first.length <= 1152921504606846976 := by have := h.f; omega
theorem JLim.ml (h : JLim j FL ML) : j.moves.length <= 1152921504606846976 := by have := h.m; omega
theorem JLim.copy (h : JLim j FL ML) (ins : Int) (Q) (hq : Q (RA.ret (.agg [I ins, .sl 1 FL, .sl 5 ML])) []) : CallA Try.prog 22 [.agg [I ins, .sl 1 FL, .sl 5 ML]] [] Q :=
 Zj8 ins FL ML j.first.length j.moves.length (by rw [h.F, List.length_map]) (by rw [h.M, List.length_map]) (by have := h.f; omega) (by have := h.m; omega) Q hq
theorem JLim.same (h : JLim j FL ML) (Q) (hq : Q (RA.ret (.v (.bool true))) []) : CallA Try.prog 26 [.agg [I j.ins, .sl 1 FL, .sl 5 ML], .agg [I j.ins, .sl 1 FL, .sl 5 ML]] [] Q :=
 Zgg j FL ML h.F h.M (by have := h.f; omega) (by have := h.m; omega) Q hq
end
end Go.Proofs.Ytecfpfhkicapeaa
