/- Part RefC of the proofs about the benches of the accordion maker: see the last text of the claim for what is proved. -/
import Derived.Test.YtecfpfhkicapeaaRefA
import Derived.Test.YtecfpfhkicapeaaSaysB
set_option linter.unusedVariables false
set_option linter.unusedSimpArgs false
set_option linter.unnecessarySimpa false
set_option linter.constructorNameAsVariable false

namespace Go.Batch
structure LyI (S : List (Ste Int)) (f : List Int -> Int) (n : Nat) (sm : Bool) (lo hi : Int) : Prop where
 no : sm = false -> ∀ s ∈ S, ¬ Z1i s < n
 lo1 : sm = true -> ∃ s ∈ S, f s.1 = lo
 hi1 : sm = true -> ∃ s ∈ S, f s.1 = hi
 bd : ∀ s ∈ S, Z1i s < n -> lo <= f s.1 /\ f s.1 <= hi
theorem LyI.start (S : List (Ste Int)) (f : List Int -> Int) : LyI S f 0 false 0 0 :=
 ⟨fun _ s _ h => absurd h (Nat.not_lt_zero _), fun h => Bool.noConfusion h, fun h => Bool.noConfusion h, fun s _ h => absurd h (Nat.not_lt_zero _)⟩
theorem LyI.skip {S : List (Ste Int)} {f : List Int -> Int} {n : Nat} {sm : Bool} {lo hi : Int} (h : LyI S f n sm lo hi) (hs : ∀ s ∈ S, LOk s.1 /\ 0 <= s.2) (hn : ¬ Z3o n ∈ S) : LyI S f (n + 1) sm lo hi := by
 have key : ∀ s ∈ S, Z1i s < n + 1 -> Z1i s < n := fun s h1 h2 => by
  rcases Nat.lt_or_eq_of_le (Nat.le_of_lt_succ h2) with g | g
  ·exact g
  ·have := Z57 (hs s h1).1 (hs s h1).2;rw [g] at this;rw [this] at hn;exact absurd h1 hn
 exact ⟨fun h1 s h2 h3 => h.no h1 s h2 (key s h2 h3), h.lo1, h.hi1, fun s h1 h2 => h.bd s h1 (key s h1 h2)⟩
theorem LyI.first {S : List (Ste Int)} {f : List Int -> Int} {n : Nat} {lo hi : Int} (h : LyI S f n false lo hi) (hs : ∀ s ∈ S, LOk s.1 /\ 0 <= s.2) (hn : Z3o n ∈ S) : LyI S f (n + 1) true (f (Z1z (n % 1296))) (f (Z1z (n % 1296))) :=
 ⟨fun h => Bool.noConfusion h, fun _ => ⟨_, hn, rfl⟩, fun _ => ⟨_, hn, rfl⟩, fun s h1 h2 => by
  rcases Nat.lt_or_eq_of_le (Nat.le_of_lt_succ h2) with g | g
  ·exact absurd g (h.no rfl s h1)
  ·have := Z57 (hs s h1).1 (hs s h1).2
   rw [g] at this
   rw [<- this]
   exact ⟨Int.le_refl _, Int.le_refl _⟩⟩
theorem LyI.next {S : List (Ste Int)} {f : List Int -> Int} {n : Nat} {lo hi : Int} (h : LyI S f n true lo hi) (hs : ∀ s ∈ S, LOk s.1 /\ 0 <= s.2) (hn : Z3o n ∈ S) : LyI S f (n + 1) true (min lo (f (Z1z (n % 1296)))) (max hi (f (Z1z (n % 1296)))) := by
 refine ⟨fun h => Bool.noConfusion h, fun _ => ?_, fun _ => ?_, fun s h1 h2 => ?_⟩
 ·by_cases g : lo <= f (Z1z (n % 1296))
  ·rw [Int.min_eq_left g]; exact h.lo1 rfl
  ·rw [Int.min_eq_right (by omega)]; exact ⟨_, hn, rfl⟩
 ·by_cases g : f (Z1z (n % 1296)) <= hi
  ·rw [Int.max_eq_left g]; exact h.hi1 rfl
  ·rw [Int.max_eq_right (by omega)]; exact ⟨_, hn, rfl⟩
 ·rcases Nat.lt_or_eq_of_le (Nat.le_of_lt_succ h2) with g | g
  ·have := h.bd s h1 g; omega
  ·have := Z57 (hs s h1).1 (hs s h1).2;rw [g] at this;have e : f s.1 = f (Z1z (n % 1296)) := by rw [<- this]; rfl
   omega
theorem Zli {L : List Int} {lo hi : Int} (h1 : lo ∈ L) (h2 : hi ∈ L) (h : ∀ x ∈ L, lo <= x /\ x <= hi) : Zs L = (lo, hi) := by
 have hne : L ≠ [] := fun e => by rw [e] at h1; cases h1
 have a1 := Z4b h1;have a2 := (h _ (Z50 hne)).1;have a3 := Z4k h2;have a4 := (h _ (Z6v hne)).2;unfold Zs;rw [Int.le_antisymm a1 a2, Int.le_antisymm a4 a3]
theorem LyI.all {S : List (Ste Int)} {f : List Int -> Int} {sm : Bool} {lo hi : Int} (h : LyI S f 1296 sm lo hi) (hs : ∀ s ∈ S, LOk s.1 /\ s.2 = 0) (hne : S ≠ []) : Zs (S.map fun s => f s.1) = (lo, hi) := by
 have hp : ∀ s ∈ S, Z1i s < 1296 := fun s h1 => by
  have := Z9x (hs s h1).1;unfold Z1i;rw [(hs s h1).2];omega
 cases sm with
 | false =>
  obtain ⟨s, l, e⟩ := List.exists_cons_of_ne_nil hne;have hm : s ∈ S := by rw [e]; exact List.mem_cons_self
  exact absurd (hp s hm) (h.no rfl s hm)
 | true =>
  obtain ⟨s, h1, e1⟩ := h.lo1 rfl;obtain ⟨t, h2, e2⟩ := h.hi1 rfl;exact Zli (List.mem_map.2 ⟨s, h1, e1⟩) (List.mem_map.2 ⟨t, h2, e2⟩) fun x hx => by
   obtain ⟨u, hu, rfl⟩ := List.mem_map.1 hx;exact h.bd u hu (hp u hu)
theorem n21 : ¬ (2 : Int) = 1 := by decide
theorem n23 : ¬ (2 : Int) = 3 := by decide
theorem Zw6 (i : Int) (b : Nat) : Zm ⟨2, i, b, []⟩ = Z2v i b := by
 funext x i' b' n
 unfold Zm Z2v;rw [if_neg (fun h => absurd h.1 n21)]
 by_cases c : i' = i /\ b' = b
 ·rw [if_pos c, if_pos ⟨rfl, by show (b : Int) = b'; omega, c.1.symm⟩]
 ·rw [if_neg c, if_neg (fun h => c ⟨h.2.2.symm, by have : (b : Int) = b' := h.2.1; omega⟩), if_neg (fun h => absurd h.1 n23)]
end Go.Batch
