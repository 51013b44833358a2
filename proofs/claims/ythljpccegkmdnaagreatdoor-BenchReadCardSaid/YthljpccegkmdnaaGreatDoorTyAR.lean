/- Part TyAR of the proofs about the benches of the accordion maker: see the last text of the claim for what is proved. -/
import Derived.Test.YthljpccegkmdnaaGreatDoorTyAQ
set_option linter.unusedVariables false
set_option linter.unusedSimpArgs false
set_option linter.unnecessarySimpa false
set_option linter.constructorNameAsVariable false

namespace Go.Abs
open Go
section
variable {P : Program} {T : TT} {r : Option Nat} {m : Nat} {Q : AX -> St -> Prop} {F : Fz} {μ : Mu} {w : World} {K : St -> Prop} {s : St}
end
end Go.Abs

namespace Go.Abs
open Go
section
variable {P : Program} {T : TT} {r : Option Nat} {m : Nat}
theorem bm2 {S : Stop} {α : Type} {b : Bool} {X Y : Prop} {c : Code} {Q : AX -> St -> Prop} (mk : α -> St) (Pr : α -> Prop) (h1 : (∀ x, Pr x -> S.code c Q (mk x)) -> b = true -> X) (h2 : (∀ x, Pr x -> S.code c Q (mk x)) -> b = false -> Y) (rest : ∀ x, Pr x -> S.code c Q (mk x)) :
  (match (generalizing := false) b with | true => X | false => Y) := by
 cases b
 ·exact h2 rest rfl
 ·exact h1 rest rfl
theorem Zof {S : Stop} (hS : S = Zo P r m) {α : Type} {Pr : α -> Prop} {mk : α -> St} {c : Code} {Q : AX -> St -> Prop} {s : St} (rest : ∀ x, Pr x -> S.code c Q (mk x)) (x : α) (hx : Pr x) (h : GS m (fun s' => s' = mk x) s) : S.code c Q s :=
 Z3h hS (Zei h fun s' e => by rw [e]; exact rest x hx)
end
end Go.Abs

namespace Go.Abs
open Go
def Z5t : Value := .slice none 0 0
structure GridOk (xs : List Value) (rows : List (List D)) : Prop where
 nil : ∀ j, j < xs.length -> rows.getD j [] = [] -> xs.getD j Z5t = Z5t
 fr : ∀ j, FrL (rows.getD j [])
section
variable {m : Nat} {K : St -> Prop} {E : List (Nat × D)} {b0 b3 b4 : Blk} {nt : Nat}
end
end Go.Abs

namespace Go.Abs
open Go
section
variable {P : Program} {T : TT} {r : Option Nat} {m : Nat} {Q : AX -> St -> Prop} {F : Fz} {μ : Mu} {w : World} {K : St -> Prop} {s : St}
end
end Go.Abs

namespace Go.Abs
open Go
section
variable {P : Program} {T : TT} {r : Option Nat} {m : Nat} {ops : Array Oper} {Q : AX -> St -> Prop} {s : St}
end
end Go.Abs
