/- Part DrnA of the proofs about the benches of the accordion maker: see the last text of the claim for what is proved. -/
import Derived.Test.YtegjabljeepbdaaGreatDoorRunL
set_option linter.unusedVariables false
set_option linter.unusedSimpArgs false
set_option linter.unnecessarySimpa false
set_option linter.constructorNameAsVariable false

namespace Go.Proofs.YtegjabljeepbdaaGreatDoor.Bn
open Go Go.Abs Go.Proofs
theorem Z1c9 {q : Sl -> Bool} {l : List Sl} {j : Nat} {x y : Sl} (hx : l[j + 1]? = some x) (hy : l[j]? = some y) (h : x.bh < y.bh) (hs : Z1ay (l.filter q)) : (swpB l (j + 1)).filter q = l.filter q := by
 obtain ⟨A, B, e1, -, e2⟩ := Z16e hx hy;rw [e2];rw [e1] at hs ⊢
 cases hqx : q x <;> cases hqy : q y <;> simp only [List.filter_append, List.filter_cons, hqx, hqy, if_true, if_false, Bool.false_eq_true]
 exfalso
 unfold Z1ay at hs;simp only [List.filter_append, List.filter_cons, hqx, hqy, ite_true] at hs;have := (List.pairwise_append.1 hs).2.1;have := (List.pairwise_cons.1 this).1 x (by simp);omega
theorem Z1bq {q : Sl -> Bool} : ∀ (j : Nat) (l : List Sl), Z1ay (l.filter q) -> (bubB l j).filter q = l.filter q
 | 0, _, _ => rfl
 | j + 1, l, hs => by
  unfold bubB
  split
  ·rename_i x y hx hy
   split
   ·rename_i h
    have e := Z1c9 hx hy h hs;rw [Z1bq j _ (by rw [e]; exact hs), e]
   ·rfl
  ·rfl
theorem Z1br {q : Sl -> Bool} : ∀ (n i : Nat) (l : List Sl), Z1ay (l.filter q) -> (insB l i n).filter q = l.filter q
 | 0, _, _, _ => rfl
 | n + 1, i, l, hs => by
  show (insB (bubB l i) (i + 1) n).filter q = _;have e := Z1bq i l hs;rw [Z1br n (i + 1) _ (by rw [e]; exact hs), e]
theorem Z1c1 {q : Sl -> Bool} {l : List Sl} (hs : Z1ay (l.filter q)) : (Z151 l).filter q = l.filter q := Z1br _ _ _ hs
section
variable {s : Sh} {p : List Nat}
end
end Go.Proofs.YtegjabljeepbdaaGreatDoor.Bn
