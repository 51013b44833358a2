/- Part SaysD of the proofs about the benches of the accordion maker: see the last text of the claim for what is proved. -/
import Derived.Test.YtecfpfhkicapeaaSaysB
set_option linter.unusedVariables false
set_option linter.unusedSimpArgs false
set_option linter.unnecessarySimpa false
set_option linter.constructorNameAsVariable false

namespace Go.Batch
theorem Z8r {ν : Type} {j : Jn} {tk : Tk ν} {bins : List Int} {l l' : List Nat} : ∀ (ms : List Mv) (i b : Nat) (now now' : List (Ste ν)), (∀ s ∈ now, s ∈ now') ->
  (∀ k m, ms[k]? = some m -> (i + k ∈ l -> i + k ∈ l') /\ (i + k ∈ l' -> m.kind = 3)) -> ∀ s ∈ Z2u j tk bins (Zu l ms i) b now, s ∈ Z2u j tk bins (Zu l' ms i) b now'
 | [], i, b, now, now', hn, _, s, hs => hn s hs
 | m :: ms, i, b, now, now', hn, h, s, hs => by
  have h0 := h 0 m rfl;rw [Nat.add_zero] at h0;have hk : ∀ k m', ms[k]? = some m' -> (i + 1 + k ∈ l -> i + 1 + k ∈ l') /\ (i + 1 + k ∈ l' -> m'.kind = 3) := fun k m' hm => by
   have := h (k + 1) m' (by simpa using hm)
   rwa [show i + (k + 1) = i + 1 + k by omega] at this
  simp only [Zu] at hs ⊢
  by_cases h1 : i ∈ l
  ·rw [if_pos h1] at hs;rw [if_pos (h0.1 h1)];exact Z8r ms (i + 1) b now now' hn hk s hs
  ·rw [if_neg h1] at hs
   by_cases h2 : i ∈ l'
   ·rw [if_pos h2];have hm := h0.2 h2;simp only [Z2u] at hs;rw [if_neg (by omega)] at hs;refine Z8r ms (i + 1) b _ now' (fun y hy => ?_) hk s hs;obtain ⟨z, hz, hy⟩ := List.mem_flatMap.1 hy;unfold Z22 at hy;rw [if_neg (by omega), if_neg (by omega)] at hy
    split at hy
    ·simp at hy; subst hy; exact hn _ hz
    ·simp at hy
   ·rw [if_neg h2];simp only [Z2u] at hs ⊢;refine Z8r ms (i + 1) _ _ _ (fun y hy => ?_) hk s hs;obtain ⟨z, hz, hy⟩ := List.mem_flatMap.1 hy;exact List.mem_flatMap.2 ⟨z, hn z hz, hy⟩
theorem Z9y {l : List Nat} : ∀ (ms : List Mv) (i : Nat), (∀ k m, ms[k]? = some m -> i + k ∈ l -> m.kind = 3) -> Z6 (Zu l ms i) = Z6 ms
 | [], i, _ => rfl
 | m :: ms, i, h => by
  have h0 := h 0 m rfl;rw [Nat.add_zero] at h0;have ih := Z9y (l := l) ms (i + 1) fun k m' hm hk => h (k + 1) m' (by simpa using hm) (by rwa [show i + (k + 1) = i + 1 + k by omega]);simp only [Zu]
  by_cases h1 : i ∈ l
  ·rw [if_pos h1, ih, Z2b, if_neg (by have := h0 h1; omega)]
  ·rw [if_neg h1, Z2b, Z2b, ih]
theorem Ze4 : ∀ (ms : List Mv) (i n : Nat), n ∈ Z1h ms i -> i <= n /\ ∃ m, ms[n - i]? = some m /\ m.kind = 3
 | [], i, n, h => by simp [Z1h] at h
 | m :: ms, i, n, h => by
  simp only [Z1h] at h;have key : n ∈ Z1h ms (i + 1) -> i <= n /\ ∃ m', (m :: ms)[n - i]? = some m' /\ m'.kind = 3 := fun h => by
   obtain ⟨h1, m', h2, h3⟩ := Ze4 ms (i + 1) n h;refine ⟨by omega, m', ?_, h3⟩;rw [show n - i = (n - (i + 1)) + 1 by omega, List.getElem?_cons_succ]; exact h2
  split at h
  ·rename_i hm
   rcases List.mem_cons.1 h with e | h
   ·subst e; exact ⟨Nat.le_refl _, m, by simp, hm⟩
   ·exact key h
  ·exact key h
theorem Zkv {j : Jn} {l l' : List Nat} (h' : ∀ n ∈ l', n ∈ Zp j) (h : ∀ n ∈ l, n ∈ l') (hs : Zc (Z12 j l) = true) : Zc (Z12 j l') = true := by
 have hk : ∀ k m, j.moves[k]? = some m -> (0 + k ∈ l -> 0 + k ∈ l') /\ (0 + k ∈ l' -> m.kind = 3) := fun k m hm => ⟨fun g => h _ g, fun g => by
  obtain ⟨-, m', h1, h2⟩ := Ze4 j.moves 0 (0 + k) (h' _ g)
  rw [show 0 + k - 0 = k by omega, hm] at h1
  cases h1; exact h2⟩
 have e1 := Z9y (l := l) j.moves 0 fun k m hm hk' => (hk k m hm).2 ((hk k m hm).1 hk');have e2 := Z9y (l := l') j.moves 0 fun k m hm hk' => (hk k m hm).2 hk';have hne := Zoo hs
 cases e : Zd (Z12 j l) Z1f [] with
 | nil => exact absurd e hne
 | cons y r =>
  have hy : y ∈ Zd (Z12 j l) Z1f [] := by rw [e]; simp
  refine Zh8 (j := Z12 j l') (x := y) ?_;unfold Zd Z12 at hy ⊢;simp only [e1] at hy;simp only [e2];rw [Zcl (j := { j with moves := Zu l j.moves 0 }) (j' := j) rfl rfl] at hy;rw [Zcl (j := { j with moves := Zu l' j.moves 0 }) (j' := j) rfl rfl];exact Z8r j.moves 0 0 _ _ (fun s h => h) hk y hy
end Go.Batch
