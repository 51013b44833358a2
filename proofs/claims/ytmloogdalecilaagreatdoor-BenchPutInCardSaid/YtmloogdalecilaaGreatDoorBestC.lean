/- Part BestC of the proofs about the benches of the accordion maker: see the last text of the claim for what is proved. -/
import Derived.Test.YtmloogdalecilaaGreatDoorBestB
import Derived.Test.YtmloogdalecilaaGreatDoorFirstA
import Derived.Test.YtmloogdalecilaaGreatDoorBestA
set_option linter.unusedVariables false
set_option linter.unusedSimpArgs false
set_option linter.unnecessarySimpa false
set_option linter.constructorNameAsVariable false

/-! D53 -/
namespace Go.Proofs.YtmloogdalecilaaGreatDoor
open Go Go.Abs Go.Proofs

/-- The place of the least so far. -/
structure LeastAt (num : List Nat → Int) (ps : List (List Nat)) (k at_ : Nat) : Prop where
  lt : at_ < ps.length
  zero : k = 0 → at_ = 0
  pos : 0 < k → ∀ qa, ps[at_]? = some qa → leastS num (ps.take k) = (true, qa, num qa)

theorem least_step {num : List Nat → Int} {ps : List (List Nat)} {k a : Nat} (h : LeastAt num ps k a) {qk qa : List Nat} (hk : ps[k]? = some qk) (ha : ps[a]? = some qa) :
    (num qk < num qa → LeastAt num ps (k + 1) k) ∧ (num qa ≤ num qk → LeastAt num ps (k + 1) a) := by
  have hkl := (List.getElem?_eq_some_iff.1 hk).1
  have e : ps.take (k + 1) = ps.take k ++ [qk] := by rw [List.take_add_one, hk]; rfl
  refine ⟨fun hl => ⟨hkl, fun h => by omega, fun _ q hq => ?_⟩, fun hl => ⟨h.lt, fun h => by omega, fun _ q hq => ?_⟩⟩
  · rw [hk] at hq; cases hq
    rw [e, leastS_snoc, if_pos]
    by_cases h0 : k = 0
    · have := h.zero h0
      subst this; subst h0
      rw [ha] at hk; cases hk; omega
    · rw [h.pos (by omega) qa ha]; exact .inr hl
  · rw [ha] at hq; cases hq
    rw [e, leastS_snoc]
    by_cases h0 : k = 0
    · have := h.zero h0
      subst this; subst h0
      rw [ha] at hk; cases hk
      rw [if_pos (.inl rfl)]
    · rw [h.pos (by omega) qa ha, if_neg]
      rintro (h | h)
      · cases h
      · simp only at h; omega

theorem shop_ok {s : Sh} (hs : Fin s) (h : chkS s = 0) : ShopOk s := ⟨h, (chkS_val h).len, hs⟩

end Go.Proofs.YtmloogdalecilaaGreatDoor

/-! D54 -/
namespace Go.Proofs.YtmloogdalecilaaGreatDoor
open Go Go.Abs Go.Proofs

theorem bBestAny (s : Sh) (hs : Fin s) (TL : List D) (hT : TL = s.tasks.map taskD) (Q) (h1 : chkS s ≠ 0 → Q (RA.ret (.tup [.v (.slice none 0 0), I 0, I (chkS s)])) []) (h2 : ShopOk s → ∀ PL n, PL = planL (bestS s).2.1 → n = (bestS s).2.2 → Q (RA.ret (.tup [.sl 1 PL, I n, I 0])) []) :
    CallA Tryz.prog 44 [.agg [I s.benches, .sl 3 TL]] [] Q := by
  by_cases h0 : chkS s = 0
  · exact bBest s (shop_ok hs h0) TL hT Q (h2 (shop_ok hs h0))
  replace h1 := h1 h0
  obtain ⟨A, hA⟩ : ∃ A, A = ar := ⟨_, rfl⟩
  obtain ⟨z, hz⟩ : ∃ z, z = chkS s := ⟨_, rfl⟩
  rw [← hz] at h0 h1
  refine callA_start tokT hA Tryz.func44 rfl rfl rfl rfl rfl fun S hS => ?_
  cbv
  refine ops_call hS [.agg [I s.benches, .sl 3 TL]] [] [] rfl rfl rfl rfl rfl rfl rfl rfl (by decide) trivial (bCheck s hs TL hT z hz _ ?_)
  refine ops_go tokT hA hS ?_
  cbv
  refine bm (fun c => ?_) (fun c => absurd (xnne hA c) h0)
  cbv
  exact gh_view [] (by decide) pre0 (H' := []) (d' := .tup [.v (.slice none 0 0), I 0, I z]) trivial rfl (gh_done h1)

end Go.Proofs.YtmloogdalecilaaGreatDoor
