/- Part CardZ of the proofs about the benches of the accordion maker: see the last text of the claim for what is proved. -/
import Derived.Test.YtmloogdalecilaaGreatDoorShopC
import Derived.Test.YtmloogdalecilaaGreatDoorShopB
set_option linter.unusedVariables false
set_option linter.unusedSimpArgs false
set_option linter.unnecessarySimpa false
set_option linter.constructorNameAsVariable false

/-! Y5 -/
namespace Go.Proofs.YtmloogdalecilaaGreatDoor
open Go Go.Abs Go.Proofs
open Go.ChangeShapes Go.WideShapes Go.RowKit

set_option maxRecDepth 100000 in
/-- An integer that is an argument. -/
theorem int_vr {W : World} {hk : KnowW W} {v : Value} {b0 : Nat} (hval : Value.okWide Tryz.prog W .any b0 3 v) : ∃ n : Int, VR (fzW W hk) mu0 (I n) v := by
  have h : ∃ n, v = .int .i64 n := by
    unfold Value.okWide at hval
    rw [Tryz.underlying3] at hval
    cases v with
    | int k n => exact ⟨n, by rw [hval.1]⟩
    | _ => simp at hval; unfold Cell.okWide at hval; rw [Tryz.underlying3] at hval; first | exact hval.elim | simp at hval
  obtain ⟨n, rfl⟩ := h
  exact ⟨n, .cl _ _ (.v _ rfl)⟩

set_option maxRecDepth 100000 in
/-- A shop, a plan, two numbers, and a list of numbers. -/
theorem runs_shop_plan_two_nums {fnum : FuncId} (walk : ∀ (s : Sh) (_ : Fin s) (TL : List D) (_ : TL = s.tasks.map taskD) (pl : List Int) (PL : List D) (_ : PL = pl.map I) (a b : Int) (L : List D) (nums : List Int) (_ : L = nums.map I) (_ : L.length ≤ 9223372036854775807) (Q), Q (RA.ret (.v (.bool true))) [] →
    CallA Tryz.prog fnum [.agg [I s.benches, .sl 3 TL], .sl 1 PL, I a, I b, .sl 1 L] [] Q) : RunsTrue fnum [24, 25, 3, 3, 25] := by
  intro H enc W hk base vs ds p hA hval hlite
  obtain ⟨v0, vs, d0, ds, p0, p, rfl, rfl, rfl, h0, hA⟩ := trodAll_cons hA
  obtain ⟨v1, vs, d1, ds, p1, p, rfl, rfl, rfl, h1, hA⟩ := trodAll_cons hA
  obtain ⟨v2, vs, d2, ds, p2, p, rfl, rfl, rfl, h2, hA⟩ := trodAll_cons hA
  obtain ⟨v3, vs, d3, ds, p3, p, rfl, rfl, rfl, h3, hA⟩ := trodAll_cons hA
  obtain ⟨v4, vs, d4, ds, p4, p, rfl, rfl, rfl, h4, hA⟩ := trodAll_cons hA
  obtain ⟨rfl, rfl, rfl⟩ := trodAll_nil hA
  obtain ⟨s, hs, k0⟩ := shop_vr (hk := hk) (hval 0 24 v0 rfl rfl) h0 (hlite 0 24 d0 rfl rfl)
  obtain ⟨pl, -, k1⟩ := nums_vr (hk := hk) (hval 1 25 v1 rfl rfl) h1
  obtain ⟨a, k2⟩ := int_vr (hk := hk) (hval 2 3 v2 rfl rfl)
  obtain ⟨b, k3⟩ := int_vr (hk := hk) (hval 3 3 v3 rfl rfl)
  obtain ⟨nums, hl, k4⟩ := nums_vr (hk := hk) (hval 4 25 v4 rfl rfl) h4
  exact ⟨[.agg [I s.benches, .sl 3 (s.tasks.map taskD)], .sl 1 (pl.map I), I a, I b, .sl 1 (nums.map I)], rfl, fun i d v hd hv => by
    match i, hd, hv with
    | 0, hd, hv => simp at hd hv; subst hd; subst hv; exact k0
    | 1, hd, hv => simp at hd hv; subst hd; subst hv; exact k1
    | 2, hd, hv => simp at hd hv; subst hd; subst hv; exact k2
    | 3, hd, hv => simp at hd hv; subst hd; subst hv; exact k3
    | 4, hd, hv => simp at hd hv; subst hd; subst hv; exact k4
    | i + 5, hd, hv => simp at hd, fun Q hq => walk s hs _ rfl pl _ rfl a b _ nums rfl hl Q hq⟩

set_option maxRecDepth 100000 in
/-- A shop, a plan, an order, and a list of numbers. -/
theorem runs_shop_plan_task_nums {fnum : FuncId} (walk : ∀ (s : Sh) (_ : Fin s) (TL : List D) (_ : TL = s.tasks.map taskD) (pl : List Int) (PL : List D) (_ : PL = pl.map I) (t : Tk) (_ : t.works.length ≤ 1152921504606846976) (WL : List D) (_ : WL = t.works.map workD) (L : List D) (nums : List Int) (_ : L = nums.map I) (_ : L.length ≤ 9223372036854775807) (Q), Q (RA.ret (.v (.bool true))) [] →
    CallA Tryz.prog fnum [.agg [I s.benches, .sl 3 TL], .sl 1 PL, .agg [I t.ready, I t.due, .sl 3 WL], .sl 1 L] [] Q) : RunsTrue fnum [24, 25, 28, 25] := by
  intro H enc W hk base vs ds p hA hval hlite
  obtain ⟨v0, vs, d0, ds, p0, p, rfl, rfl, rfl, h0, hA⟩ := trodAll_cons hA
  obtain ⟨v1, vs, d1, ds, p1, p, rfl, rfl, rfl, h1, hA⟩ := trodAll_cons hA
  obtain ⟨v2, vs, d2, ds, p2, p, rfl, rfl, rfl, h2, hA⟩ := trodAll_cons hA
  obtain ⟨v3, vs, d3, ds, p3, p, rfl, rfl, rfl, h3, hA⟩ := trodAll_cons hA
  obtain ⟨rfl, rfl, rfl⟩ := trodAll_nil hA
  obtain ⟨s, hs, k0⟩ := shop_vr (hk := hk) (hval 0 24 v0 rfl rfl) h0 (hlite 0 24 d0 rfl rfl)
  obtain ⟨pl, -, k1⟩ := nums_vr (hk := hk) (hval 1 25 v1 rfl rfl) h1
  obtain ⟨t, ht, k2⟩ := task_vr (hk := hk) (hval 2 28 v2 rfl rfl) h2 (hlite 2 28 d2 rfl rfl)
  obtain ⟨nums, hl, k3⟩ := nums_vr (hk := hk) (hval 3 25 v3 rfl rfl) h3
  exact ⟨[.agg [I s.benches, .sl 3 (s.tasks.map taskD)], .sl 1 (pl.map I), .agg [I t.ready, I t.due, .sl 3 (t.works.map workD)], .sl 1 (nums.map I)], rfl, fun i d v hd hv => by
    match i, hd, hv with
    | 0, hd, hv => simp at hd hv; subst hd; subst hv; exact k0
    | 1, hd, hv => simp at hd hv; subst hd; subst hv; exact k1
    | 2, hd, hv => simp at hd hv; subst hd; subst hv; exact k2
    | 3, hd, hv => simp at hd hv; subst hd; subst hv; exact k3
    | i + 4, hd, hv => simp at hd, fun Q hq => walk s hs _ rfl pl _ rfl t ht _ rfl _ nums rfl hl Q hq⟩
end Go.Proofs.YtmloogdalecilaaGreatDoor
