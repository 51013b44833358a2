/- Part AmoA of the proofs about the benches of the accordion maker: see the last text of the claim for what is proved. -/
import Derived.Test.YtecfpfhkicapeaaBatI
import Derived.Test.YtecfpfhkicapeaaSaysC
set_option linter.unusedVariables false
set_option linter.unusedSimpArgs false
set_option linter.unnecessarySimpa false
set_option linter.constructorNameAsVariable false

namespace Go.Proofs.Ytecfpfhkicapeaa
open Go Go.Abs Go.Proofs Go.Batch
structure SumI (r1 : Int) (f : Nat -> Int) (t : Nat) (x : Int) : Prop where
 eq : x = r1 + sumR f t
theorem MdJ.amount {j : Jn} {ins : Int} {N n m : Nat} {FL ML : List D} (h : MdJ j ins N n m FL ML) {NB : Nat} (hNB : NB = (Z6 j.moves).length) {t b : Nat} {ti bi : Int} (ht : IsI ti t) (hb : IsI bi b) (htN : t < N) (hbN : b < NB) (Q)
  (hq : ∀ lo hi, lo = (Z4d j (Z2v (t : Int) b)).1 -> hi = (Z4d j (Z2v (t : Int) b)).2 -> 0 <= lo /\ lo <= hi /\ hi <= 640 -> Q (RA.ret (.tup [.agg [I lo, I hi], I 0])) []) : CallA Try.prog 38 [.agg [I ins, .sl 1 FL, .sl 5 ML], I ti, I bi] [] Q := by
 have e := h.ie;have hI := h.nI.eq;have e1 := ht.eq;have e2 := hb.eq;have hy1 : 0 <= ti /\ ti <= j.ins - 1 := by omega
 have hy2 : 0 <= bi /\ bi <= ((Z6 j.moves).length : Int) - 1 := by omega
 subst e1;subst e;have hbn : bi.toNat = b := by omega
 have hnb := Z12a h.ok h.st (Zok (t : Int) b);refine Z106 j h.fl h.ml _ bi FL ML h.F h.M Q (fun e h1 h2 => Z77 h.c0 h1 h2) (fun _ g => absurd ⟨hy1, hy2⟩ g) (fun _ _ _ g => Z7p h.st g) (fun _ _ _ _ lo hi h1 h2 => ?_);rw [hbn] at h1 h2;refine hq lo hi h1 h2 ?_;rw [h1, h2]; exact hnb
end Go.Proofs.Ytecfpfhkicapeaa
