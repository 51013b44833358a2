/- Part ShopC of the proofs about the benches of the accordion maker: see the last text of the claim for what is proved. -/
import Derived.Test.YtmloogdalecilaaGreatDoorShopA
set_option linter.unusedVariables false
set_option linter.unusedSimpArgs false
set_option linter.unnecessarySimpa false
set_option linter.constructorNameAsVariable false

/-! C11 -/
namespace Go.Proofs.YtmloogdalecilaaGreatDoor
open Go Go.Abs Go.Proofs
open Go.ChangeShapes Go.WideShapes Go.RowKit

set_option maxRecDepth 100000 in
/-- A shop, a plan, and a list of numbers. -/
theorem runs_shop_plan_nums {fnum : FuncId} (walk : ∀ (s : Sh) (_ : Fin s) (TL : List D) (_ : TL = s.tasks.map taskD) (pl : List Int) (PL : List D) (_ : PL = pl.map I) (L : List D) (nums : List Int) (_ : L = nums.map I) (_ : L.length ≤ 9223372036854775807) (Q), Q (RA.ret (.v (.bool true))) [] → CallA Tryz.prog fnum [.agg [I s.benches, .sl 3 TL], .sl 1 PL, .sl 1 L] [] Q) : RunsTrue fnum [24, 25, 25] := by
  intro H enc W hk base vs ds p hA hval hlite
  obtain ⟨v0, v1, v2, d0, d1, d2, p0, p1, p2, ha, rfl, rfl, h0, h1, h2⟩ := trodAll_three (args := vs.toArray) (by simpa using hA)
  obtain rfl : vs = [v0, v1, v2] := by simpa using congrArg Array.toList ha
  obtain ⟨s, hs, k0⟩ := shop_vr (hk := hk) (hval 0 24 v0 rfl rfl) h0 (hlite 0 24 d0 rfl rfl)
  obtain ⟨pl, -, k1⟩ := nums_vr (hk := hk) (hval 1 25 v1 rfl rfl) h1
  obtain ⟨nums, hl, k2⟩ := nums_vr (hk := hk) (hval 2 25 v2 rfl rfl) h2
  exact ⟨[.agg [I s.benches, .sl 3 (s.tasks.map taskD)], .sl 1 (pl.map I), .sl 1 (nums.map I)], rfl, fun i d v hd hv => by
    match i, hd, hv with
    | 0, hd, hv => simp at hd hv; subst hd; subst hv; exact k0
    | 1, hd, hv => simp at hd hv; subst hd; subst hv; exact k1
    | 2, hd, hv => simp at hd hv; subst hd; subst hv; exact k2
    | i + 3, hd, hv => simp at hd, fun Q hq => walk s hs _ rfl pl _ rfl _ nums rfl hl Q hq⟩
end Go.Proofs.YtmloogdalecilaaGreatDoor
