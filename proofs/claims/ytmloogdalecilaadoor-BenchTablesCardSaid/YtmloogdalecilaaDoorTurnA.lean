/- Part TurnA of the proofs about the benches of the accordion maker: see the last text of the claim for what is proved. -/
import Derived.Test.YtmloogdalecilaaDoorTrueA
set_option linter.unusedVariables false
set_option linter.unusedSimpArgs false
set_option linter.unnecessarySimpa false
set_option linter.constructorNameAsVariable false

/-! K2 -/
namespace Go.Proofs.YtmloogdalecilaaDoor
open Go Go.Abs Go.Proofs

theorem turn_at (x : Int) {n : Nat} (hn : 0 < n) : ∃ k : Nat, k < n ∧ (x.tmod n + n).tmod n = (k : Int) := by
  have h1 := Int.tmod_lt_of_pos x (show (0 : Int) < n by omega)
  have h2 := Int.lt_tmod_of_pos x (show (0 : Int) < n by omega)
  have h0 : (0 : Int) ≤ x.tmod n + n := by omega
  have h3 := Int.tmod_lt_of_pos (x.tmod n + n) (show (0 : Int) < n by omega)
  have h4 := Int.tmod_nonneg (n : Int) h0
  exact ⟨((x.tmod n + n).tmod n).toNat, by omega, by omega⟩

set_option maxRecDepth 20000 in
set_option maxHeartbeats 2000000 in
/-- Turn. -/
theorem kTurn (x y : Int) (n : Nat) (hy : IsI y n) (hn0 : 0 < n) (hn : n ≤ 1000000) (Q) (hq : ∀ (i : Int) (k : Nat), IsI i k → k < n → Q (RA.ret (I i)) []) : CallA Tryd.prog 24 [I x, I y] [] Q := by
  obtain ⟨A, hA⟩ : ∃ A, A = ar := ⟨_, rfl⟩
  have hye := hy.eq
  have hy0 : y ≠ 0 := fun h => by rw [hye] at h; omega
  refine callA_start tokT hA Tryd.func24 rfl rfl rfl rfl rfl fun S hS => ?_
  cbv
  refine bm (fun c => ?_) (fun c => ?_)
  · have hq0 := hq 0 0 ⟨rfl⟩ hn0
    cbv
    exact gh_view [] (by decide) pre0 (H' := []) (d' := I 0) trivial rfl (gh_done hq0)
  · obtain ⟨k, hk, he⟩ := turn_at x hn0
    have h1 := Int.tmod_lt_of_pos x (show (0 : Int) < n by omega)
    have h2 := Int.lt_tmod_of_pos x (show (0 : Int) < n by omega)
    have nz : A.nz y := by subst hA; exact hy0
    have hf : A.fits .i64 (A.add (A.rem x y) y) := by
      subst hA; show IntKind.wrap .i64 (x.tmod y + y) = _
      rw [hye]; exact fits64 (n := x.tmod n + n) (by omega)
    have hr : A.rem (A.add (A.rem x y) y) y = (k : Int) := by subst hA; show (x.tmod y + y).tmod y = _; rw [hye]; exact he
    have hq1 := hq (A.rem (A.add (A.rem x y) y) y) k ⟨hr⟩ hk
    cbv
    refine ⟨nz, hf, nz, ?_⟩
    exact gh_view [] (by decide) pre0 (H' := []) (d' := I (A.rem (A.add (A.rem x y) y) y)) trivial rfl (gh_done hq1)
end Go.Proofs.YtmloogdalecilaaDoor
