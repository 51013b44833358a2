/- Part BatG of the proofs about the benches of the accordion maker: see the last text of the claim for what is proved. -/
import Derived.Test.YtecfpfhkicapeaaBatA
import Derived.Test.YtecfpfhkicapeaaMachE
set_option linter.unusedVariables false
set_option linter.unusedSimpArgs false
set_option linter.unnecessarySimpa false
set_option linter.constructorNameAsVariable false

/-! T20 -/
namespace Go.Proofs.Ytecfpfhkicapeaa
open Go Go.Abs Go.Proofs Go.Batch

set_option maxRecDepth 20000 in
set_option maxHeartbeats 4000000 in
/-- CopyJournal: rows of its own. -/
theorem kCopyJournal (ins : Int) (FL ML : List D) (n m : Nat) (hF : FL.length = n) (hM : ML.length = m) (hn : n ≤ 1000) (hm : m ≤ 1000) (Q) (hq : Q (RA.ret (.agg [I ins, .o 0 1 n, .o 1 5 m])) [.els 1 FL, .els 5 ML]) :
    CallA Try.prog 22 [.agg [I ins, .sl 1 FL, .sl 5 ML]] [] Q := by
  obtain ⟨A, hA⟩ : ∃ A, A = ar := ⟨_, rfl⟩
  have e1 : A.addN 0 (A.len FL) = n := by rw [xaddN hA, xlen hA hF, Nat.zero_add]
  have e2 : A.addN 0 (A.len ML) = m := by rw [xaddN hA, xlen hA hM, Nat.zero_add]
  have a1 : A.app [] FL = FL := by rw [xapp hA, List.nil_append]
  have a2 : A.app [] ML = ML := by rw [xapp hA, List.nil_append]
  have r1 : A.room (A.addN 0 (A.len FL)) 1 := by
    rw [e1]; subst hA; exact ⟨by show n * 1 ≤ 140737488355328; omega, by show n ≤ 4611686018427387904; omega⟩
  have r2 : A.room (A.addN 0 (A.len ML)) 40 := by
    rw [e2]; subst hA; exact ⟨by show m * 40 ≤ 140737488355328; omega, by show m ≤ 4611686018427387904; omega⟩
  have wk : WkD (.agg [I ins, .o 4 1 (A.addN 0 (A.len FL)), .o 5 5 (A.addN 0 (A.len ML))]) (.agg [I ins, .o 4 1 n, .o 5 5 m]) := WkD.eq (by rw [e1, e2])
  refine callA_start tokT hA Try.func22 rfl rfl rfl rfl rfl fun S hS => ?_
  cbv
  refine draw_goE tokT hA hS [7] [0, 1, 2, 4, 5, 6, 3, 8, 7, 9, 10, 11] rfl rfl fun Dk hD => ?_
  cbv
  refine ⟨yeqLen hA rfl, r1, ?_⟩
  refine draw_two tokT hA hD rfl rfl rfl rfl rfl rfl rfl rfl rfl rfl rfl ?_ ?_
  · cbv
    refine ⟨yeqLen hA rfl, r2, ?_⟩
    rw [hD]
    refine draw_on tokT hA hD ?_
    cbv
    refine gh_weak wk ?_
    exact gh_view [4, 5] (by decide) pre0 (H' := [.els 1 FL, .els 5 ML]) (d' := .agg [I ins, .o 0 1 n, .o 1 5 m]) ⟨congrArg (fun l => some (Blk.els 1 l)) a1, congrArg (fun l => some (Blk.els 5 l)) a2, trivial⟩ rfl (gh_done hq)
  · cbv
    rw [hD]
    refine draw_on tokT hA hD ?_
    cbv
    refine ⟨yeqLen hA rfl, r2, ?_⟩
    refine gh_weak wk ?_
    exact gh_view [4, 5] (by decide) pre0 (H' := [.els 1 FL, .els 5 ML]) (d' := .agg [I ins, .o 0 1 n, .o 1 5 m]) ⟨congrArg (fun l => some (Blk.els 1 l)) a1, congrArg (fun l => some (Blk.els 5 l)) a2, trivial⟩ rfl (gh_done hq)
end Go.Proofs.Ytecfpfhkicapeaa
