/- Part TabE of the proofs about the benches of the accordion maker: see the last text of the claim for what is proved. -/
import Derived.Test.YtmloogdalecilaaDoorShopA
import Derived.Test.YtmloogdalecilaaDoorTabD
set_option linter.unusedVariables false
set_option linter.unusedSimpArgs false
set_option linter.unnecessarySimpa false
set_option linter.constructorNameAsVariable false

/-! C14 -/
namespace Go.Proofs.YtmloogdalecilaaDoor
open Go Go.Abs Go.Proofs
open Go.ChangeShapes Go.WideShapes Go.RowKit

set_option maxRecDepth 100000 in
/-- An integer that is an argument. -/
theorem int_vr {W : World} {hk : KnowW W} {v : Value} {b0 : Nat} (hval : Value.okWide Tryd.prog W .any b0 3 v) : ∃ n : Int, (-9223372036854775808 ≤ n ∧ n ≤ 9223372036854775807) ∧ VR (fzW W hk) mu0 (I n) v := by
  have h : ∃ n, v = .int .i64 n ∧ IntKind.i64.has n := by
    unfold Value.okWide at hval
    rw [Tryd.underlying3] at hval
    cases v with
    | int k n => obtain ⟨rfl, h2⟩ := hval; exact ⟨n, rfl, h2⟩
    | _ => simp at hval; unfold Cell.okWide at hval; rw [Tryd.underlying3] at hval; first | exact hval.elim | simp at hval
  obtain ⟨n, rfl, h2⟩ := h
  exact ⟨n, h2, .cl _ _ (.v _ rfl)⟩

section
variable {H : Type} {enc : TypeId × Value → H} {W : World} {hk : KnowW W} {base : Nat} {spare : Nat → Bool} {held : Bool}

set_option maxRecDepth 100000 in
theorem ints_rd {n : Nat} {cs : List Value} {x : DataW H × List MemPlace} (h : DataW.trod enc Tryd.prog W base spare held n 26 cs = some x) (hw : Lite 26 x.1) : ∃ l : List Int, RdL W hk cs [.sl 1 (l.map I)] ∧ l.length ≤ reachBytes := by
  obtain ⟨v, l, hv, v1, v2, -, v4⟩ := slice_rd (hk := hk) (e := 3) (sz := 1) Tryd.underlying26 cells3 (by decide) (of_decide_eq_true (by kernel_rfl)) (fun a : Int => I a) (fun _ => True) (fun n cs' x h _ => by
    have hl : ∃ v, cs' = [v] := by
      have := DataW.trod_int Tryd.underlying3 h
      obtain ⟨a, ha, -⟩ := this
      exact ⟨_, ha⟩
    obtain ⟨a, ha, -⟩ := DataW.trod_int Tryd.underlying3 h
    subst ha
    exact ⟨a, RdL.int a, trivial⟩) h hw
  subst hv
  exact ⟨l, RdL.one v1 v2, v4⟩

set_option maxRecDepth 100000 in
/-- A timetable that is an argument. -/
theorem lists_vr {v : Value} {d : DataW H} {ps : List MemPlace} {b0 : Nat} (hval : Value.okWide Tryd.prog W .any b0 25 v) (h : DataW.Trod enc Tryd.prog W base spare held 25 v d ps) (hw : Lite 25 d) :
    ∃ tb : List (List Int), (tb.length ≤ 1152921504606846976 ∧ ∀ l ∈ tb, l.length ≤ 1152921504606846976) ∧ VR (fzW W hk) mu0 (.sl 1 (tb.map fun l => .sl 1 (l.map I))) v := by
  obtain ⟨fuel, hf⟩ := h
  obtain ⟨a0, len, cap, rfl⟩ := okWide_slice Tryd.underlying25 hval
  obtain ⟨v, l, hv, v1, v2, v3, v4⟩ := slice_rd (hk := hk) (e := 26) (sz := 1) Tryd.underlying25 (by kernel_rfl) (by decide) (of_decide_eq_true (by kernel_rfl)) (fun l : List Int => .sl 1 (l.map I)) (fun l => l.length ≤ reachBytes) (fun n cs' x h hw => ints_rd h hw) hf hw
  have hb : reachBytes ≤ 1152921504606846976 := Nat.le_of_ble_eq_true rfl
  simp only [Value.cells, List.cons.injEq, and_true] at hv
  subst hv
  exact ⟨l, ⟨by omega, fun x hx => by have := v3 x hx; omega⟩, .cl _ _ v2⟩
end

set_option maxRecDepth 100000 in
/-- A shop, a timetable, two numbers, and a list of numbers. -/
theorem runs_tables : RunsTrue 3 [24, 25, 3, 3, 26] := by
  intro H enc W hk base vs ds p hA hval hlite
  obtain ⟨v0, vs, d0, ds, p0, p, rfl, rfl, rfl, h0, hA⟩ := trodAll_cons hA
  obtain ⟨v1, vs, d1, ds, p1, p, rfl, rfl, rfl, h1, hA⟩ := trodAll_cons hA
  obtain ⟨v2, vs, d2, ds, p2, p, rfl, rfl, rfl, h2, hA⟩ := trodAll_cons hA
  obtain ⟨v3, vs, d3, ds, p3, p, rfl, rfl, rfl, h3, hA⟩ := trodAll_cons hA
  obtain ⟨v4, vs, d4, ds, p4, p, rfl, rfl, rfl, h4, hA⟩ := trodAll_cons hA
  obtain ⟨rfl, rfl, rfl⟩ := trodAll_nil hA
  obtain ⟨s, hs, k0⟩ := shop_vr (hk := hk) (hval 0 24 v0 rfl rfl) h0 (hlite 0 24 d0 rfl rfl)
  obtain ⟨tb, htb, k1⟩ := lists_vr (hk := hk) (hval 1 25 v1 rfl rfl) h1 (hlite 1 25 d1 rfl rfl)
  obtain ⟨a, ha, k2⟩ := int_vr (hk := hk) (hval 2 3 v2 rfl rfl)
  obtain ⟨b, -, k3⟩ := int_vr (hk := hk) (hval 3 3 v3 rfl rfl)
  obtain ⟨nums, hl, k4⟩ := nums_vr (hk := hk) (hval 4 26 v4 rfl rfl) h4
  exact ⟨[.agg [I s.benches, .sl 3 (s.tasks.map taskD)], .sl 1 (tb.map fun l => .sl 1 (l.map I)), I a, I b, .sl 1 (nums.map I)], rfl, fun i d v hd hv => by
    match i, hd, hv with
    | 0, hd, hv => simp at hd hv; subst hd; subst hv; exact k0
    | 1, hd, hv => simp at hd hv; subst hd; subst hv; exact k1
    | 2, hd, hv => simp at hd hv; subst hd; subst hv; exact k2
    | 3, hd, hv => simp at hd hv; subst hd; subst hv; exact k3
    | 4, hd, hv => simp at hd hv; subst hd; subst hv; exact k4
    | i + 5, hd, hv => simp at hd, fun Q hq => wBenchTables s hs _ rfl tb htb _ rfl a b ha _ nums rfl hl Q hq⟩
end Go.Proofs.YtmloogdalecilaaDoor
