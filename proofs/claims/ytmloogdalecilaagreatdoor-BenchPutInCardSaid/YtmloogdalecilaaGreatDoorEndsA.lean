/- Part EndsA of the proofs about the benches of the accordion maker: see the last text of the claim for what is proved. -/
import Derived.Test.YtmloogdalecilaaGreatDoorBenchE
import Derived.Test.YtmloogdalecilaaGreatDoorBenchD
import Derived.Test.YtmloogdalecilaaGreatDoorMachD
set_option linter.unusedVariables false
set_option linter.unusedSimpArgs false
set_option linter.unnecessarySimpa false
set_option linter.constructorNameAsVariable false

/-! D33 -/
namespace Go.Proofs.YtmloogdalecilaaGreatDoor
open Go Go.Abs Go.Proofs

theorem xneF {A : Ar} (hA : A = ar) {x y : Int} (h : x = y) : A.cmp .neq x y = false := by subst hA; subst h; simp [ar, cmpI]
theorem xeqT {A : Ar} (hA : A = ar) {x y : Int} (h : x = y) : A.cmp .eql x y = true := by subst hA; subst h; simp [ar, cmpI]

end Go.Proofs.YtmloogdalecilaaGreatDoor
