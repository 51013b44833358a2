/- Part RefA of the proofs about the benches of the accordion maker: see the last text of the claim for what is proved. -/
import Derived.Test.YtecfpfhkicapeaaSaysC
import Derived.Test.YtecfpfhkicapeaaBatH
import Derived.Test.YtecfpfhkicapeaaBatD
set_option linter.unusedVariables false
set_option linter.unusedSimpArgs false
set_option linter.unnecessarySimpa false
set_option linter.constructorNameAsVariable false

namespace Go.Batch
end Go.Batch

namespace Go.Batch
theorem Zqp {ν : Type} {j : Jn} {tk : Tk ν} (bs ext : List Int) {m : Mv} {b : Nat} {l : List Int} {z : ν} (hb : bs.length <= 4) (hl : l.length = 4) (h0 : ∀ k, bs.length <= k -> l.getD k 0 = 0) : Z22 j tk (bs ++ ext) m b (l, z) = Z22 j tk bs m b (l, z) := by
 unfold Z22
 split
 ·rfl
 split
 ·congr 1; funext i; congr 1; funext n
  exact Zai bs ext 0 (l, z) n (fun k hk => h0 k (by omega)) (by simp only; omega)
 ·rw [Zix bs ext l h0]
end Go.Batch

namespace Go.Proofs.Ytecfpfhkicapeaa
open Go Go.Abs Go.Proofs Go.Batch
end Go.Proofs.Ytecfpfhkicapeaa

namespace Go.Proofs.Ytecfpfhkicapeaa
open Go Go.Abs Go.Proofs Go.Batch
end Go.Proofs.Ytecfpfhkicapeaa

namespace Go.Proofs.Ytecfpfhkicapeaa
open Go Go.Abs Go.Proofs Go.Batch
end Go.Proofs.Ytecfpfhkicapeaa

namespace Go.Batch
end Go.Batch
namespace Go.Proofs.Ytecfpfhkicapeaa
open Go Go.Abs Go.Proofs Go.Batch
end Go.Proofs.Ytecfpfhkicapeaa

namespace Go.Proofs.Ytecfpfhkicapeaa
open Go Go.Abs Go.Proofs Go.Batch
def Zcz (L : List Bool) : List D := L.map Zv
structure MarkV (NX : List D) (T : Ste Int -> Prop) : Prop where
 ex : ∃ L, NX = Zcz L /\ Marks L T
theorem MarkV.len {NX T} (h : MarkV NX T) : NX.length = 20736 := by
 obtain ⟨L, rfl, h2⟩ := h.ex;unfold Zcz; rw [List.length_map, Go.Batch.Marks.len h2]
theorem MarkV.get {NX T} (h : MarkV NX T) {n : Nat} (hn : n < 20736) : ∃ b, NX[n]? = some (.v (.bool b)) := by
 obtain ⟨L, rfl, h2⟩ := h.ex;have hl : n < L.length := by rw [Go.Batch.Marks.len h2]; exact hn
 refine ⟨L[n], ?_⟩;unfold Zcz;rw [List.getElem?_map, List.getElem?_eq_getElem hl]; rfl
theorem MarkV.set {NX T} (h : MarkV NX T) {s : Ste Int} (hl : LOk s.1) (h0 : 0 <= s.2) (h15 : s.2 <= 15) : MarkV (NX.set (Z1i s) (.v (.bool true))) fun x => T x ∨ x = s := by
 obtain ⟨L, rfl, h2⟩ := h.ex;exact ⟨L.set (Z1i s) true, by unfold Zcz; rw [List.map_set]; rfl, Go.Batch.Marks.set h2 hl h0 h15⟩
theorem MarkV.congr {NX} {T U : Ste Int -> Prop} (h : MarkV NX T) (e : ∀ x, T x ↔ U x) : MarkV NX U := by
 obtain ⟨L, hL, h2⟩ := h.ex;exact ⟨L, hL, Go.Batch.Marks.congr h2 e⟩
end Go.Proofs.Ytecfpfhkicapeaa

namespace Go.Proofs.Ytecfpfhkicapeaa
open Go Go.Abs Go.Proofs Go.Batch
end Go.Proofs.Ytecfpfhkicapeaa
