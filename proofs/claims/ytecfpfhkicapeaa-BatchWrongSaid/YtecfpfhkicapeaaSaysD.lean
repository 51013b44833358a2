/- Part SaysD of the proofs about the benches of the accordion maker: see the last text of the claim for what is proved. -/
import Derived.Test.YtecfpfhkicapeaaSaysB
set_option linter.unusedVariables false
set_option linter.unusedSimpArgs false
set_option linter.unnecessarySimpa false
set_option linter.constructorNameAsVariable false

namespace Go.Batch
theorem ends_dropc {ν : Type} {j : Jn} {tk : Tk ν} {bins : List Int} {l l' : List Nat} : ∀ (ms : List Mv) (i b : Nat) (now now' : List (Ste ν)), (∀ s ∈ now, s ∈ now') →
    (∀ k m, ms[k]? = some m → (i + k ∈ l → i + k ∈ l') ∧ (i + k ∈ l' → m.kind = 3)) → ∀ s ∈ endsF j tk bins (withoutL l ms i) b now, s ∈ endsF j tk bins (withoutL l' ms i) b now'
  | [], i, b, now, now', hn, _, s, hs => hn s hs
  | m :: ms, i, b, now, now', hn, h, s, hs => by
    have h0 := h 0 m rfl
    rw [Nat.add_zero] at h0
    have hk : ∀ k m', ms[k]? = some m' → (i + 1 + k ∈ l → i + 1 + k ∈ l') ∧ (i + 1 + k ∈ l' → m'.kind = 3) := fun k m' hm => by
      have := h (k + 1) m' (by simpa using hm)
      rwa [show i + (k + 1) = i + 1 + k by omega] at this
    simp only [withoutL] at hs ⊢
    by_cases h1 : i ∈ l
    · rw [if_pos h1] at hs
      rw [if_pos (h0.1 h1)]
      exact ends_dropc ms (i + 1) b now now' hn hk s hs
    · rw [if_neg h1] at hs
      by_cases h2 : i ∈ l'
      · rw [if_pos h2]
        have hm := h0.2 h2
        simp only [endsF] at hs
        rw [if_neg (by omega)] at hs
        refine ends_dropc ms (i + 1) b _ now' (fun y hy => ?_) hk s hs
        obtain ⟨z, hz, hy⟩ := List.mem_flatMap.1 hy
        unfold stepS at hy
        rw [if_neg (by omega), if_neg (by omega)] at hy
        split at hy
        · simp at hy; subst hy; exact hn _ hz
        · simp at hy
      · rw [if_neg h2]
        simp only [endsF] at hs ⊢
        refine ends_dropc ms (i + 1) _ _ _ (fun y hy => ?_) hk s hs
        obtain ⟨z, hz, hy⟩ := List.mem_flatMap.1 hy
        exact List.mem_flatMap.2 ⟨z, hn z hz, hy⟩
theorem binsOf_drop {l : List Nat} : ∀ (ms : List Mv) (i : Nat), (∀ k m, ms[k]? = some m → i + k ∈ l → m.kind = 3) → binsOf (withoutL l ms i) = binsOf ms
  | [], i, _ => rfl
  | m :: ms, i, h => by
    have h0 := h 0 m rfl
    rw [Nat.add_zero] at h0
    have ih := binsOf_drop (l := l) ms (i + 1) fun k m' hm hk => h (k + 1) m' (by simpa using hm) (by rwa [show i + (k + 1) = i + 1 + k by omega])
    simp only [withoutL]
    by_cases h1 : i ∈ l
    · rw [if_pos h1, ih, binsOf_cons, if_neg (by have := h0 h1; omega)]
    · rw [if_neg h1, binsOf_cons, binsOf_cons, ih]
theorem counts_kind : ∀ (ms : List Mv) (i n : Nat), n ∈ countsL ms i → i ≤ n ∧ ∃ m, ms[n - i]? = some m ∧ m.kind = 3
  | [], i, n, h => by simp [countsL] at h
  | m :: ms, i, n, h => by
    simp only [countsL] at h
    have key : n ∈ countsL ms (i + 1) → i ≤ n ∧ ∃ m', (m :: ms)[n - i]? = some m' ∧ m'.kind = 3 := fun h => by
      obtain ⟨h1, m', h2, h3⟩ := counts_kind ms (i + 1) n h
      refine ⟨by omega, m', ?_, h3⟩
      rw [show n - i = (n - (i + 1)) + 1 by omega, List.getElem?_cons_succ]; exact h2
    split at h
    · rename_i hm
      rcases List.mem_cons.1 h with e | h
      · subst e; exact ⟨Nat.le_refl _, m, by simp, hm⟩
      · exact key h
    · exact key h
theorem stands_more {j : Jn} {l l' : List Nat} (h' : ∀ n ∈ l', n ∈ countsJ j) (h : ∀ n ∈ l, n ∈ l') (hs : standsJ (withoutJ j l) = true) : standsJ (withoutJ j l') = true := by
  have hk : ∀ k m, j.moves[k]? = some m → (0 + k ∈ l → 0 + k ∈ l') ∧ (0 + k ∈ l' → m.kind = 3) := fun k m hm => ⟨fun g => h _ g, fun g => by
    obtain ⟨-, m', h1, h2⟩ := counts_kind j.moves 0 (0 + k) (h' _ g)
    rw [show 0 + k - 0 = k by omega, hm] at h1
    cases h1; exact h2⟩
  have e1 := binsOf_drop (l := l) j.moves 0 fun k m hm hk' => (hk k m hm).2 ((hk k m hm).1 hk')
  have e2 := binsOf_drop (l := l') j.moves 0 fun k m hm hk' => (hk k m hm).2 hk'
  have hne := ends_ne hs
  cases e : endsS (withoutJ j l) tkAll [] with
  | nil => exact absurd e hne
  | cons y r =>
    have hy : y ∈ endsS (withoutJ j l) tkAll [] := by rw [e]; simp
    refine stands_of (j := withoutJ j l') (x := y) ?_
    unfold endsS withoutJ at hy ⊢
    simp only [e1] at hy
    simp only [e2]
    rw [endsF_j (j := { j with moves := withoutL l j.moves 0 }) (j' := j) rfl rfl] at hy
    rw [endsF_j (j := { j with moves := withoutL l' j.moves 0 }) (j' := j) rfl rfl]
    exact ends_dropc j.moves 0 0 _ _ (fun s h => h) hk y hy
theorem wrong_none {j : Jn} (h : standsJ (withoutJ j (countsJ j)) = false) : wrongJ j = none := by
  unfold wrongJ
  rw [List.find?_eq_none]
  intro x hx hs
  unfold wrongTry at hx
  obtain ⟨k, -, hx⟩ := List.mem_flatMap.1 hx
  have := stands_more (j := j) (fun n h => h) (fun n hn => (choicesL_mem _ _ x hx).2 n hn) hs
  rw [h] at this; cases this
end Go.Batch
