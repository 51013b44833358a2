/- Part BatG of the proofs about the benches of the accordion maker: see the last text of the claim for what is proved. -/
import Derived.Test.YtecfpfhkicapeaaBatA
import Derived.Test.YtecfpfhkicapeaaMachE
set_option linter.unusedVariables false
set_option linter.unusedSimpArgs false
set_option linter.unnecessarySimpa false
set_option linter.constructorNameAsVariable false

namespace Go.Proofs.Ytecfpfhkicapeaa
open Go Go.Abs Go.Proofs Go.Batch
end Go.Proofs.Ytecfpfhkicapeaa

namespace Go.Proofs.Ytecfpfhkicapeaa
open Go Go.Abs Go.Proofs
theorem Zvp (L : List D) (nums : List Int) (hL : L = nums.map I) (hl : L.length <= 9223372036854775807) (Q) (hq : ∀ x, Q (RA.ret (.b 0 0)) [.box (.agg [U x])]) :
  CallA Try.prog 18 [.sl 1 L] [] Q := by
 obtain ⟨A, hA⟩ : ∃ A, A = ar := ⟨_, rfl⟩;refine Z5 Z0 hA Try.func18 rfl rfl rfl rfl rfl fun S hS => ?_;cbv;refine Zb hS ?_;refine Zgw (α := Int × Nat × Int) (fun x => { env := [(0, .sl 1 L), (3, .b 0 0), (4, .v (.int .i64 x.1))], H := [.box (.agg [U x.2.2])], nt := 41, dfs := [] }) (fun x => L.length - x.2.1) (fun x => x.2.1 <= L.length /\ x.1 = x.2.1) (0, 0, 2611923443488327891) ⟨Nat.zero_le _, rfl⟩ [0] ?_ ?_
 ·exact ⟨by decide, fun i hi => absurd hi (by simp), ⟨rfl, trivial⟩, ⟨rfl, rfl, rfl, trivial⟩, rfl, rfl⟩
 rintro ⟨i, k, x⟩ ⟨hk, hi⟩
 replace hk : k <= L.length := hk
 replace hi : i = (k : Int) := hi
 refine Zi Z0 hA hS ?_;cbv
 split
 ·rename_i hc
  cbv
  replace hi : i = (k : Int) := hi
  have hlt : k < L.length := by subst hA; simp [ar, Z25] at hc; omega
  refine Z16 Z0 hA hS [0, 1, 2, 3, 4, 5, 6, 7, 8, 9, 10, 11, 12, 13, 14] rfl rfl fun Dk hD => ?_;cbv
  replace hi : i = (k : Int) := hi
  obtain ⟨y, hy⟩ : ∃ y, y = nums[k]'(by rw [hL] at hlt; simpa using hlt) := ⟨_, rfl⟩;refine ⟨by subst hA; simp [ar]; omega, ⟨.v (.int .i64 y), by subst hA; simp [ar, hL, hi, hy, I], ?_⟩⟩;cbv;refine Z16 Z0 hA hS [0, 1, 2, 3, 4, 5, 6, 7, 8, 9, 10, 11, 12, 13] rfl rfl fun Dk hD2 => ?_;cbv
  replace hi : i = (k : Int) := hi
  subst hA;refine ⟨by simp [ar], Zdh (by simp [ar]; omega), (i + 1, k + 1, _), [0], ⟨by simp; omega, by simp; omega⟩, by simp; omega, by decide, fun i hi => absurd hi (by simp), ⟨rfl, trivial⟩, ⟨rfl, rfl, rfl, trivial⟩, rfl, rfl⟩
 ·rename_i hc
  cbv;refine Z1 (hq x)
end Go.Proofs.Ytecfpfhkicapeaa
