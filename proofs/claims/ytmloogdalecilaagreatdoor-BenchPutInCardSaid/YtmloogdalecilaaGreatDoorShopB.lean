/- Part ShopB of the proofs about the benches of the accordion maker: see the last text of the claim for what is proved. -/
import Derived.Test.YtmloogdalecilaaGreatDoorShopA
set_option linter.unusedVariables false
set_option linter.unusedSimpArgs false
set_option linter.unnecessarySimpa false
set_option linter.constructorNameAsVariable false

/-! C9 -/
namespace Go.Proofs.YtmloogdalecilaaGreatDoor
open Go Go.Abs Go.Proofs
open Go.ChangeShapes Go.WideShapes Go.RowKit

/-- Cells that are described, of a value made of them. -/
theorem rdl_vr {W : World} {hk : KnowW W} {cs : List Value} {ds : List D} {v : Value} (h1 : RdL W hk cs ds) (hv : v = .agg cs.toArray) : VR (fzW W hk) mu0 (.agg ds) v := by
  subst hv
  have hl := h1.len
  refine .cl _ _ (.agg _ _ (by simpa using hl) (fun i c v hc hv => ?_) (fun i v hv => ?_))
  · obtain ⟨v', g1, g2, g3⟩ := h1.cel i c hc
    simp only [List.getElem?_toArray] at hv
    rw [hv] at g1; cases g1; exact g3
  · simp only [List.getElem?_toArray] at hv
    have hi : i < ds.length := by rw [hl]; exact (List.getElem?_eq_some_iff.1 hv).1
    obtain ⟨v', g1, g2, g3⟩ := h1.cel i _ (List.getElem?_eq_getElem hi)
    rw [hv] at g1; cases g1; exact g2

section
variable {H : Type} {enc : TypeId × Value → H} {W : World} {hk : KnowW W} {base : Nat} {spare : Nat → Bool} {held : Bool}

set_option maxRecDepth 100000 in
/-- An order that is an argument. -/
theorem task_vr {v : Value} {d : DataW H} {ps : List MemPlace} {b0 : Nat} (hval : Value.okWide Tryz.prog W .any b0 28 v) (h : DataW.Trod enc Tryz.prog W base spare held 28 v d ps) (hw : Lite 28 d) :
    ∃ t : Tk, t.works.length ≤ 1152921504606846976 ∧ VR (fzW W hk) mu0 (.agg [I t.ready, I t.due, .sl 3 (t.works.map workD)]) v := by
  obtain ⟨fuel, hf⟩ := h
  obtain ⟨t, h1, h2⟩ := task_rd hf hw
  have ha : ∃ cs, v = .agg cs := by
    unfold Value.okWide at hval
    rw [Tryz.underlying28] at hval
    obtain ⟨cs, h, -⟩ := hval
    exact ⟨cs, h⟩
  obtain ⟨cs, rfl⟩ := ha
  have hb : reachBytes ≤ 1152921504606846976 := Nat.le_of_ble_eq_true rfl
  exact ⟨t, by omega, rdl_vr h1 (by simp [Value.cells])⟩
end

set_option maxRecDepth 100000 in
/-- A shop, an order, and a list of numbers. -/
theorem runs_shop_task_nums {fnum : FuncId} (walk : ∀ (s : Sh) (_ : Fin s) (TL : List D) (_ : TL = s.tasks.map taskD) (t : Tk) (_ : t.works.length ≤ 1152921504606846976) (WL : List D) (_ : WL = t.works.map workD) (L : List D) (nums : List Int) (_ : L = nums.map I) (_ : L.length ≤ 9223372036854775807) (Q), Q (RA.ret (.v (.bool true))) [] → CallA Tryz.prog fnum [.agg [I s.benches, .sl 3 TL], .agg [I t.ready, I t.due, .sl 3 WL], .sl 1 L] [] Q) : RunsTrue fnum [24, 28, 25] := by
  intro H enc W hk base vs ds p hA hval hlite
  obtain ⟨v0, v1, v2, d0, d1, d2, p0, p1, p2, ha, rfl, rfl, h0, h1, h2⟩ := trodAll_three (args := vs.toArray) (by simpa using hA)
  obtain rfl : vs = [v0, v1, v2] := by simpa using congrArg Array.toList ha
  obtain ⟨s, hs, k0⟩ := shop_vr (hk := hk) (hval 0 24 v0 rfl rfl) h0 (hlite 0 24 d0 rfl rfl)
  obtain ⟨t, ht, k1⟩ := task_vr (hk := hk) (hval 1 28 v1 rfl rfl) h1 (hlite 1 28 d1 rfl rfl)
  obtain ⟨nums, hl, k2⟩ := nums_vr (hk := hk) (hval 2 25 v2 rfl rfl) h2
  exact ⟨[.agg [I s.benches, .sl 3 (s.tasks.map taskD)], .agg [I t.ready, I t.due, .sl 3 (t.works.map workD)], .sl 1 (nums.map I)], rfl, fun i d v hd hv => by
    match i, hd, hv with
    | 0, hd, hv => simp at hd hv; subst hd; subst hv; exact k0
    | 1, hd, hv => simp at hd hv; subst hd; subst hv; exact k1
    | 2, hd, hv => simp at hd hv; subst hd; subst hv; exact k2
    | i + 3, hd, hv => simp at hd, fun Q hq => walk s hs _ rfl t ht _ rfl _ nums rfl hl Q hq⟩
end Go.Proofs.YtmloogdalecilaaGreatDoor
