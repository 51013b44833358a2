/- Part RefB of the proofs about the benches of the accordion maker: see the last text of the claim for what is proved. -/
import Derived.Test.YtecfpfhkicapeaaRefA
import Derived.Test.YtecfpfhkicapeaaBatA
import Derived.Test.YtecfpfhkicapeaaBatD
set_option linter.unusedVariables false
set_option linter.unusedSimpArgs false
set_option linter.unnecessarySimpa false
set_option linter.constructorNameAsVariable false

namespace Go.Proofs.Ytecfpfhkicapeaa
open Go Go.Abs Go.Proofs Go.Batch
end Go.Proofs.Ytecfpfhkicapeaa

namespace Go.Proofs.Ytecfpfhkicapeaa
open Go Go.Abs Go.Proofs Go.Batch
theorem MarkV.is {NX : List D} {T : Ste Int -> Prop} (h : MarkV NX T) {n : Nat} (hn : n < 20736) : ∃ b, NX[n]? = some (.v (.bool b)) /\ (b = true ↔ T (Z3o n)) := by
 obtain ⟨L, rfl, h2⟩ := h.ex;have hl : n < L.length := by rw [Go.Batch.Marks.len h2]; exact hn
 refine ⟨L[n], ?_, ?_⟩
 ·unfold Zcz;rw [List.getElem?_map, List.getElem?_eq_getElem hl]; rfl
 ·rw [<- Go.Batch.Marks.at_ h2 n hn, List.getElem?_eq_getElem hl];exact ⟨fun h => by rw [h], fun h => Option.some.inj h⟩
end Go.Proofs.Ytecfpfhkicapeaa

namespace Go.Proofs.Ytecfpfhkicapeaa
open Go Go.Abs Go.Proofs Go.Batch
structure FndV (OL : List D) (T : Nat -> Prop) : Prop where
 ex : ∃ L : List Bool, OL = L.map Zv /\ L.length = 16 /\ ∀ m, m < 16 -> (L[m]? = some true ↔ T m)
theorem FndV.len {OL T} (h : FndV OL T) : OL.length = 16 := by
 obtain ⟨L, rfl, h2, -⟩ := h.ex;rw [List.length_map, h2]
theorem FndV.is {OL T} (h : FndV OL T) {m : Nat} (hm : m < 16) : ∃ b, OL[m]? = some (.v (.bool b)) /\ (b = true ↔ T m) := by
 obtain ⟨L, rfl, h2, h3⟩ := h.ex;refine ⟨L[m], ?_, ?_⟩
 ·rw [List.getElem?_map, List.getElem?_eq_getElem (by omega)]; rfl
 ·rw [<- h3 m hm, List.getElem?_eq_getElem (by omega)];exact ⟨fun h => by rw [h], fun h => Option.some.inj h⟩
theorem FndV.congr {OL} {T U : Nat -> Prop} (h : FndV OL T) (e : ∀ x, x < 16 -> (T x ↔ U x)) : FndV OL U := by
 obtain ⟨L, hL, h2, h3⟩ := h.ex;exact ⟨L, hL, h2, fun m hm => (h3 m hm).trans (e m hm)⟩
theorem FndV.set {OL T} (h : FndV OL T) {m : Nat} (b : Bool) : FndV (OL.set m (.v (.bool b))) fun x => if x = m then b = true else T x := by
 obtain ⟨L, rfl, h2, h3⟩ := h.ex;refine ⟨L.set m b, by rw [List.map_set]; rfl, by rw [List.length_set]; exact h2, fun x hx => ?_⟩;rw [List.getElem?_set]
 by_cases e : m = x
 ·subst e;rw [if_pos rfl, if_pos rfl, if_pos (by omega)];exact ⟨fun h => Option.some.inj h, fun h => by rw [h]⟩
 ·rw [if_neg e, if_neg fun g => e g.symm];exact h3 x hx
end Go.Proofs.Ytecfpfhkicapeaa

namespace Go.Proofs.Ytecfpfhkicapeaa
open Go Go.Abs Go.Proofs Go.Batch
def Za5 (j : Jn) : Int := if checkJ j ≠ 0 then checkJ j else if Zc j = true then 0 else 9
end Go.Proofs.Ytecfpfhkicapeaa
