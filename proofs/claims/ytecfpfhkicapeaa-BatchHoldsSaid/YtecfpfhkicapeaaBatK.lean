/- Part BatK of the proofs about the benches of the accordion maker: see the last text of the claim for what is proved. -/
import Derived.Test.YtecfpfhkicapeaaBatJ
import Derived.Test.YtecfpfhkicapeaaBatD
import Derived.Test.YtecfpfhkicapeaaSaysB
import Derived.Test.YtecfpfhkicapeaaMachF
set_option linter.unusedVariables false
set_option linter.unusedSimpArgs false
set_option linter.unnecessarySimpa false
set_option linter.constructorNameAsVariable false

namespace Go.Proofs.Ytecfpfhkicapeaa
open Go Go.Abs Go.Proofs Go.Batch
set_option maxRecDepth 20000 in
set_option maxHeartbeats 4000000 in
theorem Zvs (j : Jn) (hm : j.moves.length <= 1000) (FL ML : List D) (hM : ML = j.moves.map mvD) (Q) (hq : ∀ CL, CL = Z1y (Zp j) -> Q (RA.ret (.sl 1 CL)) []) : CallA Try.prog 33 [.agg [I j.ins, .sl 1 FL, .sl 5 ML]] [] Q := by
 obtain ⟨A, hA⟩ : ∃ A, A = ar := ⟨_, rfl⟩;have hMl : ML.length = j.moves.length := by rw [hM]; simp
 refine Z5 Z0 hA Try.func33 rfl rfl rfl rfl rfl fun S hS => ?_;cbv;refine Zb hS ?_;refine Za (α := Int × Nat × Nat × List D) (fun q => { env := [(1, .b 0 0), (3, .o 1 1 q.2.2.1), (4, I q.1)], H := [.box (.agg [I j.ins, .sl 1 FL, .sl 5 ML]), .els 1 q.2.2.2], nt := 24, dfs := [] })
  (fun q => j.moves.length - q.2.1) (fun q => q.2.1 <= j.moves.length /\ IsI q.1 q.2.1 /\ q.2.2.1 = (Z1h (j.moves.take q.2.1) 0).length /\ q.2.2.2 = Z1y (Z1h (j.moves.take q.2.1) 0)) (0, 0, 0, []) ⟨Nat.zero_le _, ⟨rfl⟩, rfl, rfl⟩ ?_ ?_
 ·refine Z2a 3 1 rfl ?_;exact Zf [0, 1] ⟨by decide, Z9, ⟨rfl, rfl, trivial⟩, ⟨rfl, rfl, rfl, trivial⟩, rfl, rfl⟩
 rintro ⟨i, k, n0, R⟩ ⟨u1, u2, u3, u4⟩;dsimp only at u1 u2 u3 u4;have hRl : R.length = n0 := by rw [u4, u3]; simp [Z1y]
 have hn0 : n0 <= 1000000 := by
  rw [u3];have := Z7j (j.moves.take k) 0;rw [List.length_take] at this; omega
 have hyes : A.cmp .lss i (A.oi (A.len ML)) = true -> k < j.moves.length := fun c => Z31 hA hMl u2 c;have hno : A.cmp .lss i (A.oi (A.len ML)) = false -> k = j.moves.length := fun c => by have := Z21 hA hMl u2 c; omega
 have hie := u2.eq;refine Zi Z0 hA hS ?_;cbv;refine bm (fun c => ?_) (fun c => ?_)
 ·have hk := hyes c;obtain ⟨m, hmk⟩ : ∃ m, j.moves[k]? = some m := ⟨_, List.getElem?_eq_getElem hk⟩;have hMk : ML[k]? = some (.agg [I m.kind, I m.bin, I m.inst, I m.lo, I m.hi]) := by rw [hM]; simp [hmk, mvD]
  have hsn := Zcx hmk;have hin := Z1b hA hMl u2 hk;have hg := Z18 hA u2 hMk;have hf1 := Zy hA u2 (by omega);have hu2 := Zz hA u2;have hms : j.moves.length - (k + 1) < j.moves.length - k := by omega
  have hn1 : m.kind = 3 -> A.addN n0 1 = (Z1h (j.moves.take (k + 1)) 0).length := fun h => by rw [hsn, if_pos h, Z2e hA, u3]; simp
  have hr1 : m.kind = 3 -> A.app R [I i] = Z1y (Z1h (j.moves.take (k + 1)) 0) := fun h => by rw [hsn, if_pos h, Z33 hA, u4, hie]; simp [Z1y]
  have hn2 : m.kind ≠ 3 -> n0 = (Z1h (j.moves.take (k + 1)) 0).length := fun h => by rw [hsn, if_neg h, u3]
  have hr2 : m.kind ≠ 3 -> R = Z1y (Z1h (j.moves.take (k + 1)) 0) := fun h => by rw [hsn, if_neg h, u4]
  cbv;refine ⟨hin, ⟨_, hg, ?_⟩⟩;cbv;refine bm (fun c2 => ?_) (fun c2 => ?_)
  ·have h1 := hn1 (xeq hA c2);have h2 := hr1 (xeq hA c2);cbv;refine ⟨Ze hA hRl, Ze hA rfl, Z27 hA hn0 (by decide), hf1, ?_⟩;refine Z8 (A.add i 1, k + 1, A.addN n0 1, A.app R [I i]) [0, 3] ⟨hk, hu2, h1, h2⟩ hms ?_;exact ⟨by decide, Z9, ⟨rfl, rfl, trivial⟩, ⟨rfl, rfl, rfl, trivial⟩, rfl, rfl⟩
  ·have h1 := hn2 (Z2o hA c2);have h2 := hr2 (Z2o hA c2);cbv;refine ⟨hf1, ?_⟩;refine Z8 (A.add i 1, k + 1, n0, R) [0, 1] ⟨hk, hu2, h1, h2⟩ hms ?_;exact ⟨by decide, Z9, ⟨rfl, rfl, trivial⟩, ⟨rfl, rfl, rfl, trivial⟩, rfl, rfl⟩
 ·have hk := hno c;have hRE : R = Z1y (Zp j) := by rw [u4, hk, List.take_length]; rfl
  have hz := hq R hRE;cbv;refine Z7 ?_;cbv;refine Z1w [1] ?_;cbv;exact ⟨by cases R <;> exact hRl.symm, Z2 [] (by decide) Z9 (H' := []) (d' := .sl 1 R) trivial rfl (Z1 hz)⟩
end Go.Proofs.Ytecfpfhkicapeaa

namespace Go.Batch
end Go.Batch
namespace Go.Proofs.Ytecfpfhkicapeaa
open Go Go.Abs Go.Proofs Go.Batch
end Go.Proofs.Ytecfpfhkicapeaa
