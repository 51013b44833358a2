/- Part PlansA of the proofs about the benches of the accordion maker: see the last text of the claim for what is proved. -/
import Derived.Test.YtmloogdalecilaaDoorBenchD
set_option linter.unusedVariables false
set_option linter.unusedSimpArgs false
set_option linter.unnecessarySimpa false
set_option linter.constructorNameAsVariable false

/-! P22 -/
namespace Go.Proofs.YtmloogdalecilaaDoor
open Go Go.Abs Go.Proofs

theorem plansF_all {n : Nat} : ∀ (r : Nat) (left p : List Nat), p.length = r → (∀ i ∈ p, i < n) → (∀ i, p.count i = left.getD i 0) → p ∈ plansF n r left
  | 0, left, p, h1, _, _ => by rw [List.length_eq_zero_iff.1 h1]; simp [plansF]
  | r + 1, left, [], h1, _, _ => by simp at h1
  | r + 1, left, i :: q, h1, h2, h3 => by
    have h0 : left.getD i 0 ≠ 0 := by rw [← h3 i, List.count_cons_self]; omega
    have hil : i < left.length := by
      apply Nat.lt_of_not_le; intro h; apply h0; rw [List.getD_eq_getElem?_getD, List.getElem?_eq_none h]; rfl
    simp only [plansF, List.mem_flatMap, List.mem_range]
    refine ⟨i, h2 i (List.mem_cons_self ..), ?_⟩
    rw [if_neg h0]
    refine List.mem_map.2 ⟨q, plansF_all r _ q (by simpa using h1) (fun j hj => h2 j (List.mem_cons_of_mem _ hj)) (fun j => ?_), rfl⟩
    rw [getD_set _ _ _ _ _ hil]
    have := h3 j
    rw [List.count_cons] at this
    by_cases e : j = i
    · subst e; rw [if_pos rfl]; simp at this; simp; omega
    · rw [if_neg e]
      rw [if_neg (by simpa using fun h => e h.symm)] at this
      omega

theorem plansS_all {s : Sh} (hlen : s.tasks.length ≤ 4) {p : List Nat} (hp : PlanOk s p) : p ∈ plansS s := by
  refine plansF_all _ _ _ hp.len hp.lt fun i => ?_
  by_cases hi : i < s.tasks.length
  · rw [hp.cnt i hi, leftS_at (List.getElem?_eq_getElem hi), List.getD_eq_getElem?_getD, List.getElem?_eq_getElem hi]; rfl
  · rw [leftS_out (by omega)]
    exact List.count_eq_zero.2 fun h => hi (hp.lt i h)
end Go.Proofs.YtmloogdalecilaaDoor
