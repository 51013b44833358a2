/- Part SaysE of the proofs about the benches of the accordion maker: see the last text of the claim for what is proved. -/
import Derived.Test.YtecfpfhkicapeaaSaysD
set_option linter.unusedVariables false
set_option linter.unusedSimpArgs false
set_option linter.unnecessarySimpa false
set_option linter.constructorNameAsVariable false

namespace Go.Batch
theorem withoutL_nil : ∀ (ms : List Mv) (i : Nat), withoutL [] ms i = ms
  | [], _ => rfl
  | m :: ms, i => by simp only [withoutL, withoutL_nil ms (i + 1)]; rw [if_neg (by simp)]
theorem withoutJ_nil (j : Jn) : withoutJ j [] = j := by unfold withoutJ; rw [withoutL_nil]
theorem wrong_empty {j : Jn} (hs : standsJ j = true) : wrongJ j = some [] ∧ standsJ (withoutJ j (countsJ j)) = true := by
  have h0 : standsJ (withoutJ j []) = true := by rw [withoutJ_nil]; exact hs
  refine ⟨?_, stands_more (fun n h => h) (fun n h => by simp at h) h0⟩
  exact (noneOf_0 j).hit (Nat.zero_le _) (show (choicesL (countsJ j) 0)[0]? = some [] by cases countsJ j <;> rfl) h0
def ownK (n : Int) (truth : List (Int × List Int)) (k b : Nat) : Int := amtT n b (truth.take k)
theorem ownK_zero (n : Int) (truth : List (Int × List Int)) (b : Nat) : ownK n truth 0 b = 0 := rfl
theorem ownK_succ {n : Int} {truth : List (Int × List Int)} {k : Nat} {t : Int} {of : List Int} (h : truth[k]? = some (t, of)) (b : Nat) : ownK n truth (k + 1) b = ownK n truth k b + if t = n then of.getD b 0 else 0 := by
  unfold ownK
  rw [List.take_add_one, h, Option.toList_some, amtT_app]
  simp [amtT]
theorem ownK_end (n : Int) (truth : List (Int × List Int)) (b : Nat) : ownK n truth truth.length b = amtT n b truth := by unfold ownK; rw [List.take_length]
theorem ownK_b {n : Int} {truth : List (Int × List Int)} (h : ∀ t ∈ truth, ∀ k, 0 ≤ t.2.getD k 0 ∧ t.2.getD k 0 ≤ 5) (b : Nat) : ∀ k, k ≤ truth.length → 0 ≤ ownK n truth k b ∧ ownK n truth k b ≤ 5 * k
  | 0, _ => by rw [ownK_zero]; omega
  | k + 1, hk => by
    obtain ⟨x, hx⟩ : ∃ x, truth[k]? = some x := ⟨_, List.getElem?_eq_getElem (by omega)⟩
    obtain ⟨t, of⟩ := x
    have ih := ownK_b (n := n) h b k (by omega)
    have hb := h _ (List.mem_of_getElem? hx) b
    rw [ownK_succ hx]
    simp only at hb
    split <;> omega
end Go.Batch
