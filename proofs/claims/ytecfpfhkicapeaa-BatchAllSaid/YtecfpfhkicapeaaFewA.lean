/- Part FewA of the proofs about the benches of the accordion maker: see the last text of the claim for what is proved. -/
import Derived.Test.YtecfpfhkicapeaaBatK
import Derived.Test.YtecfpfhkicapeaaSaysD
import Derived.Test.YtecfpfhkicapeaaBatE
set_option linter.unusedVariables false
set_option linter.unusedSimpArgs false
set_option linter.unnecessarySimpa false
set_option linter.constructorNameAsVariable false

namespace Go.Proofs.Ytecfpfhkicapeaa
open Go Go.Abs Go.Proofs Go.Batch
theorem Zqm {P : Program} {f : FuncId} {vs0 : List D} {H : List Blk} {Q Q' : RA -> List Blk -> Prop} (h : CallA P f vs0 H Q) (hq : ∀ d H', Q (.ret d) H' -> ∃ d', WkD d d' /\ Q' (.ret d') H') (hp : ∀ d H', Q (.pan d) H' -> Q' (.pan d) H') : CallA P f vs0 H Q' :=
 ⟨h.fn, fun F μ vs w h1 h2 h3 => CallsIn.mono (h.out F μ vs w h1 h2 h3) fun e w' he => by
  cases e with
  | returned v =>
   obtain ⟨F', μ', H', d, g1, g2, g3⟩ := he
   obtain ⟨d', hw, hk⟩ := hq _ _ g3
   exact ⟨F', μ', H', d', g1, hw.out _ _ _ g2, hk⟩
  | panicked ch => obtain ⟨F', μ', H', d, v, g1, g2, g3, g4⟩ := he; exact ⟨F', μ', H', d, v, g1, g2, g3, hp _ _ g4⟩
  | outgrown => exact he.elim⟩
theorem WkD.tup {cs ds : List D} (h : WkL cs ds) : WkD (.tup cs) (.tup ds) := ⟨fun F μ v hv => by
 obtain ⟨vs, rfl, hl, hr⟩ := hv.tup_inv
 exact .tup _ _ (by rw [<- h.length]; exact hl) (fun i c v hc hv => by
  obtain ⟨a, h1, h2⟩ := h.get hc
  exact h2.out _ _ _ (hr i a v h1 hv))⟩
structure WrongR (j : Jn) (WL : List D) (e : Int) : Prop where
 or : (e = 9 /\ WL = [] /\ Z6c j = none) ∨ (e = 0 /\ ∃ c, WL = Z1y c /\ Z6c j = some c)
structure NoneK (j : Jn) (k i : Nat) : Prop where
 none : Z6d j k i
end Go.Proofs.Ytecfpfhkicapeaa
