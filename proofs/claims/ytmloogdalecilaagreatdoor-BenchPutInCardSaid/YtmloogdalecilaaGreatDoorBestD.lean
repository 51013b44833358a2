/- Part BestD of the proofs about the benches of the accordion maker: see the last text of the claim for what is proved. -/
import Derived.Test.YtmloogdalecilaaGreatDoorBestC
import Derived.Test.YtmloogdalecilaaGreatDoorBestA
import Derived.Test.YtmloogdalecilaaGreatDoorEndsA
set_option linter.unusedVariables false
set_option linter.unusedSimpArgs false
set_option linter.unnecessarySimpa false
set_option linter.constructorNameAsVariable false

/-! D55 -/
namespace Go.Proofs.YtmloogdalecilaaGreatDoor
open Go Go.Abs Go.Proofs

theorem leastS_mem {num : List Nat → Int} (l : List (List Nat)) : (leastS num l).2.1 = [] ∨ (leastS num l).2.1 ∈ l := by
  refine revInd (P := fun l => (leastS num l).2.1 = [] ∨ (leastS num l).2.1 ∈ l) (.inl rfl) (fun l x ih => ?_) l
  show (leastS num (l ++ [x])).2.1 = [] ∨ (leastS num (l ++ [x])).2.1 ∈ l ++ [x]
  rw [leastS_snoc]
  split
  · exact .inr (by simp)
  · rcases ih with h | h
    · exact .inl h
    · exact .inr (List.mem_append_left _ h)

theorem _root_.Go.Abs.WkD.tup {cs ds : List D} (h : WkL cs ds) : WkD (.tup cs) (.tup ds) := ⟨fun F μ v hv => by
  have : ∃ vs, v = .tuple vs ∧ cs.length = vs.size ∧ ∀ (i : Nat) (c : D) (v : Value), cs[i]? = some c → vs[i]? = some v → VR F μ c v := by
    cases hv with
    | cl _ _ hc => cases hc with | tup _ vs hl hh => exact ⟨vs, rfl, hl, fun i c v h1 h2 => .cl _ _ (hh i c v h1 h2)⟩
    | tup _ vs hl hh => exact ⟨vs, rfl, hl, hh⟩
  obtain ⟨vs, rfl, hl, hr⟩ := this
  exact .tup _ _ (by rw [← h.length]; exact hl) (fun i c v hc hv => by
    obtain ⟨a, h1, h2⟩ := h.get hc
    exact h2.out _ _ _ (hr i a v h1 hv))⟩

/-- What the search for the best plan says of any shop. -/
def outN (s : Sh) (b : Bool × List Nat × Int) : List Int × Int × Int := if chkS s = 0 then (b.2.1.map (fun i : Nat => (i : Int)), b.2.2, 0) else ([], 0, chkS s)

theorem outN_len {s : Sh} {num : List Nat → Int} (hs : Fin s) : (outN s (leastS num (plansS s))).1.length ≤ 20 := by
  unfold outN
  split
  · rename_i h
    have hv := chkS_val h
    rw [List.length_map]
    rcases leastS_mem (num := num) (plansS s) with h2 | h2
    · rw [h2]; simp
    · rw [(plansS_ok hv h2).len]; have := hv.sum; omega
  · simp

theorem planL_ints (q : List Nat) : planL q = (q.map (fun i : Nat => (i : Int))).map I := by rw [planL, List.map_map]; rfl

section
variable (s : Sh) (hs : Fin s) (TL : List D) (hT : TL = s.tasks.map taskD)
include hs hT

omit hs hT in
theorem any_of (f : FuncId) (b : Bool × List Nat × Int) (h : ∀ Q, (chkS s ≠ 0 → Q (RA.ret (.tup [.v (.slice none 0 0), I 0, I (chkS s)])) []) → (ShopOk s → ∀ PL n, PL = planL b.2.1 → n = b.2.2 → Q (RA.ret (.tup [.sl 1 PL, I n, I 0])) []) → CallA Tryz.prog f [.agg [I s.benches, .sl 3 TL]] [] Q)
    (Q) (hq : ∀ a n e, (a, n, e) = outN s b → ∀ PL, PL = a.map I → Q (RA.ret (.tup [.sl 1 PL, I n, I e])) []) : CallA Tryz.prog f [.agg [I s.benches, .sl 3 TL]] [] Q := by
  refine callA_gh (h (ghQ ([] : List Blk).length Q) (fun h0 => ?_) (fun hok PL n hP hn => ?_))
  · have := hq [] 0 (chkS s) (by rw [outN, if_neg h0]) [] rfl
    exact gh_weak (d' := .tup [.sl 1 [], I 0, I (chkS s)]) (.tup ⟨.nil, .rfl, .rfl, trivial⟩) (gh_done this)
  · have h0 := hok.chk
    exact gh_done (hq _ n 0 (by rw [outN, if_pos h0, hn]) PL (by rw [hP, planL_ints]))

theorem bBestAll (Q) (hq : ∀ a n e, (a, n, e) = outN s (bestS s) → ∀ PL, PL = a.map I → Q (RA.ret (.tup [.sl 1 PL, I n, I e])) []) : CallA Tryz.prog 44 [.agg [I s.benches, .sl 3 TL]] [] Q := any_of s TL 44 _ (bBestAny s hs TL hT) Q hq
end

theorem okS_small {n m : Nat} {s : Sh} (h : OkS n m s) (hn : n ≤ 4) (hm : m ≤ 8) : Fin s ∧ NotBig s := by
  have h1 := h.len
  refine ⟨⟨by omega, fun t ht => ?_⟩, by omega, fun t ht => ?_⟩
  · have := (h.tk t ht).w1; omega
  · have := (h.tk t ht).w1; omega

end Go.Proofs.YtmloogdalecilaaGreatDoor
