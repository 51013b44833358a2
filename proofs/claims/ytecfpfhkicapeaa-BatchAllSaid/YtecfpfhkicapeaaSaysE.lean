/- Part SaysE of the proofs about the benches of the accordion maker: see the last text of the claim for what is proved. -/
import Derived.Test.YtecfpfhkicapeaaSaysD
set_option linter.unusedVariables false
set_option linter.unusedSimpArgs false
set_option linter.unnecessarySimpa false
set_option linter.constructorNameAsVariable false

namespace Go.Batch
theorem Zcr : ∀ (ms : List Mv) (i : Nat), Zu [] ms i = ms
 | [], _ => rfl
 | m :: ms, i => by simp only [Zu, Zcr ms (i + 1)]; rw [if_neg (by simp)]
theorem Ziz (j : Jn) : Z12 j [] = j := by unfold Z12; rw [Zcr]
theorem Zkw {j : Jn} (hs : Zc j = true) : Z6c j = some [] /\ Zc (Z12 j (Zp j)) = true := by
 have h0 : Zc (Z12 j []) = true := by rw [Ziz]; exact hs
 refine ⟨?_, Zkv (fun n h => h) (fun n h => by simp at h) h0⟩;exact (Zsm j).hit (Nat.zero_le _) (show (Zw (Zp j) 0)[0]? = some [] by cases Zp j <;> rfl) h0
end Go.Batch
