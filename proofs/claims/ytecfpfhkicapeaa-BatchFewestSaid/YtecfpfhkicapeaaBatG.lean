/- Part BatG of the proofs about the benches of the accordion maker: see the last text of the claim for what is proved. -/
import Derived.Test.YtecfpfhkicapeaaBatA
import Derived.Test.YtecfpfhkicapeaaMachE
set_option linter.unusedVariables false
set_option linter.unusedSimpArgs false
set_option linter.unnecessarySimpa false
set_option linter.constructorNameAsVariable false

/-! T20 -/
namespace Go.Proofs.Ytecfpfhkicapeaa
open Go Go.Abs Go.Proofs Go.Batch
set_option maxRecDepth 20000 in
set_option maxHeartbeats 4000000 in
/-- CopyJournal: rows of its own. -/
theorem kCopyJournal (ins : Int) (FL ML : List D) (n m : Nat) (hF : FL.length = n) (hM : ML.length = m) (hn : n ≤ 1000) (hm : m ≤ 1000) (Q) (hq : Q (RA.ret (.agg [I ins, .o 0 1 n, .o 1 5 m])) [.els 1 FL, .els 5 ML]) :
    CallA Try.prog 22 [.agg [I ins, .sl 1 FL, .sl 5 ML]] [] Q := by
  obtain ⟨A, hA⟩ : ∃ A, A = ar := ⟨_, rfl⟩
  have e1 : A.addN 0 (A.len FL) = n := by rw [xaddN hA, xlen hA hF, Nat.zero_add]
  have e2 : A.addN 0 (A.len ML) = m := by rw [xaddN hA, xlen hA hM, Nat.zero_add]
  have a1 : A.app [] FL = FL := by rw [xapp hA, List.nil_append]
  have a2 : A.app [] ML = ML := by rw [xapp hA, List.nil_append]
  have r1 : A.room (A.addN 0 (A.len FL)) 1 := by
    rw [e1]; subst hA; exact ⟨by show n * 1 ≤ 140737488355328; omega, by show n ≤ 4611686018427387904; omega⟩
  have r2 : A.room (A.addN 0 (A.len ML)) 40 := by
    rw [e2]; subst hA; exact ⟨by show m * 40 ≤ 140737488355328; omega, by show m ≤ 4611686018427387904; omega⟩
  have wk : WkD (.agg [I ins, .o 4 1 (A.addN 0 (A.len FL)), .o 5 5 (A.addN 0 (A.len ML))]) (.agg [I ins, .o 4 1 n, .o 5 5 m]) := WkD.eq (by rw [e1, e2])
  refine callA_start tokT hA Try.func22 rfl rfl rfl rfl rfl fun S hS => ?_
  cbv
  refine draw_goE tokT hA hS [7] [0, 1, 2, 4, 5, 6, 3, 8, 7, 9, 10, 11] rfl rfl fun Dk hD => ?_
  cbv
  refine ⟨yeqLen hA rfl, r1, ?_⟩
  refine draw_two tokT hA hD rfl rfl rfl rfl rfl rfl rfl rfl rfl rfl rfl ?_ ?_
  · cbv
    refine ⟨yeqLen hA rfl, r2, ?_⟩
    rw [hD]
    refine draw_on tokT hA hD ?_
    cbv
    refine gh_weak wk ?_
    exact gh_view [4, 5] (by decide) pre0 (H' := [.els 1 FL, .els 5 ML]) (d' := .agg [I ins, .o 0 1 n, .o 1 5 m]) ⟨congrArg (fun l => some (Blk.els 1 l)) a1, congrArg (fun l => some (Blk.els 5 l)) a2, trivial⟩ rfl (gh_done hq)
  · cbv
    rw [hD]
    refine draw_on tokT hA hD ?_
    cbv
    refine ⟨yeqLen hA rfl, r2, ?_⟩
    refine gh_weak wk ?_
    exact gh_view [4, 5] (by decide) pre0 (H' := [.els 1 FL, .els 5 ML]) (d' := .agg [I ins, .o 0 1 n, .o 1 5 m]) ⟨congrArg (fun l => some (Blk.els 1 l)) a1, congrArg (fun l => some (Blk.els 5 l)) a2, trivial⟩ rfl (gh_done hq)
end Go.Proofs.Ytecfpfhkicapeaa

/-! TN -/
namespace Go.Proofs.Ytecfpfhkicapeaa
open Go Go.Abs Go.Proofs
/-- NewPot, of numbers of any length. -/
theorem newPotL (L : List D) (nums : List Int) (hL : L = nums.map I) (hl : L.length ≤ 9223372036854775807) (Q) (hq : ∀ x, Q (RA.ret (.b 0 0)) [.box (.agg [U x])]) :
    CallA Try.prog 18 [.sl 1 L] [] Q := by
  obtain ⟨A, hA⟩ : ∃ A, A = ar := ⟨_, rfl⟩
  refine callA_start tokT hA Try.func18 rfl rfl rfl rfl rfl fun S hS => ?_
  cbv
  refine at_code hS ?_
  refine wpa_loopV (α := Int × Nat × Int) (fun x => { env := [(0, .sl 1 L), (3, .b 0 0), (4, .v (.int .i64 x.1))], H := [.box (.agg [U x.2.2])], nt := 41, dfs := [] }) (fun x => L.length - x.2.1) (fun x => x.2.1 ≤ L.length ∧ x.1 = x.2.1) (0, 0, 2611923443488327891) ⟨Nat.zero_le _, rfl⟩ [0] ?_ ?_
  · exact ⟨by decide, fun i hi => absurd hi (by simp), ⟨rfl, trivial⟩, ⟨rfl, rfl, rfl, trivial⟩, rfl, rfl⟩
  rintro ⟨i, k, x⟩ ⟨hk, hi⟩
  replace hk : k ≤ L.length := hk
  replace hi : i = (k : Int) := hi
  refine wp_go tokT hA hS ?_
  cbv
  split
  · rename_i hc
    cbv
    replace hi : i = (k : Int) := hi
    have hlt : k < L.length := by subst hA; simp [ar, cmpI] at hc; omega
    refine draw_go tokT hA hS [0, 1, 2, 3, 4, 5, 6, 7, 8, 9, 10, 11, 12, 13, 14] rfl rfl fun Dk hD => ?_
    cbv
    replace hi : i = (k : Int) := hi
    obtain ⟨y, hy⟩ : ∃ y, y = nums[k]'(by rw [hL] at hlt; simpa using hlt) := ⟨_, rfl⟩
    refine ⟨by subst hA; simp [ar]; omega, ⟨.v (.int .i64 y), by subst hA; simp [ar, hL, hi, hy, I], ?_⟩⟩
    cbv
    refine draw_go tokT hA hS [0, 1, 2, 3, 4, 5, 6, 7, 8, 9, 10, 11, 12, 13] rfl rfl fun Dk hD2 => ?_
    cbv
    replace hi : i = (k : Int) := hi
    subst hA
    refine ⟨by simp [ar], i64_ok (by simp [ar]; omega), (i + 1, k + 1, _), [0], ⟨by simp; omega, by simp; omega⟩, by simp; omega, by decide, fun i hi => absurd hi (by simp), ⟨rfl, trivial⟩, ⟨rfl, rfl, rfl, trivial⟩, rfl, rfl⟩
  · rename_i hc
    cbv
    refine gh_done (hq x)
end Go.Proofs.Ytecfpfhkicapeaa
