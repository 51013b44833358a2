/- Part BatH of the proofs about the benches of the accordion maker: see the last text of the claim for what is proved. -/
import Derived.Test.YtecfpfhkicapeaaBatE
import Derived.Test.YtecfpfhkicapeaaBatF
import Derived.Test.YtecfpfhkicapeaaBatG
import Derived.Test.YtecfpfhkicapeaaSaysA
set_option linter.unusedVariables false
set_option linter.unusedSimpArgs false
set_option linter.unnecessarySimpa false
set_option linter.constructorNameAsVariable false

namespace Go.Proofs.Ytecfpfhkicapeaa
open Go Go.Abs Go.Proofs Go.Batch
structure MdJ (j : Jn) (ins : Int) (N n m : Nat) (FL ML : List D) : Prop where
 ok : JOk j
 st : Zc j = true
 ie : j.ins = ins
 nI : IsI ins N
 F : FL = j.first.map Zv
 M : ML = j.moves.map mvD
 n : j.first.length = n
 m : j.moves.length = m
section
variable {j : Jn} {ins : Int} {N n m : Nat} {FL ML : List D}
theorem MdJ.n2 (h : MdJ j ins N n m FL ML) : 1 <= n /\ n <= 2 := by have := h.ok.f1; have := h.ok.f2; have := h.n; omega
theorem MdJ.m10 (h : MdJ j ins N n m FL ML) : m <= 10 := by have := h.ok.m10; have := h.m; omega
theorem MdJ.N4 (h : MdJ j ins N n m FL ML) : 1 <= N /\ N <= 4 := by have := h.ok.i1; have := h.ok.i4; have := h.ie; have := h.nI.eq; omega
theorem MdJ.fl (h : MdJ j ins N n m FL ML) : j.first.length <= 1152921504606846976 := lim (by have := h.ok.f2; omega)
theorem MdJ.ml (h : MdJ j ins N n m FL ML) : j.moves.length <= 1152921504606846976 := lim (by have := h.ok.m10; omega)
theorem MdJ.c0 (h : MdJ j ins N n m FL ML) : checkJ j = 0 := Z81 h.ok
theorem MdJ.holds (h : MdJ j ins N n m FL ML) (Q) (hq : ∀ L, L = (Z5w j).map (fun l => .sl 1 (l.map I)) -> Q (RA.ret (.tup [.sl 1 L, I 0])) []) : CallA Try.prog 28 [.agg [I ins, .sl 1 FL, .sl 5 ML]] [] Q := by
 have e := h.ie;subst e;exact Zsy j h.fl h.ml FL ML h.F h.M Q (fun e h1 h2 => Z77 h.c0 h1 h2) (fun _ g => Z7p h.st g) (fun _ _ L hL => hq L hL)
theorem MdJ.rest (h : MdJ j ins N n m FL ML) (Q) (hq : ∀ L, L = (Z4c j).map rgD -> Q (RA.ret (.tup [.sl 2 L, I 0])) []) : CallA Try.prog 29 [.agg [I ins, .sl 1 FL, .sl 5 ML]] [] Q := by
 have e := h.ie;subst e;exact Zst j h.fl h.ml FL ML h.F h.M Q (fun e h1 h2 => Z77 h.c0 h1 h2) (fun _ g => Z7p h.st g) (fun _ _ L hL => hq L hL)
theorem MdJ.mixed (h : MdJ j ins N n m FL ML) (Q) (hq : ∀ L, L = (Z6b j).map I -> Q (RA.ret (.tup [.sl 1 L, I 0])) []) : CallA Try.prog 30 [.agg [I ins, .sl 1 FL, .sl 5 ML]] [] Q := by
 have e := h.ie;subst e;exact Zsv j h.fl h.ml FL ML h.F h.M Q (fun e h1 h2 => Z77 h.c0 h1 h2) (fun _ g => Z7p h.st g) (fun _ _ L hL => hq L hL)
end
end Go.Proofs.Ytecfpfhkicapeaa
