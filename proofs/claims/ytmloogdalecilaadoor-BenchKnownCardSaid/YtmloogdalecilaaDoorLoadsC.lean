/- Part LoadsC of the proofs about the benches of the accordion maker: see the last text of the claim for what is proved. -/
import Derived.Test.YtmloogdalecilaaDoorBestA
set_option linter.unusedVariables false
set_option linter.unusedSimpArgs false
set_option linter.unnecessarySimpa false
set_option linter.constructorNameAsVariable false

/-! D60 -/
namespace Go.Proofs.YtmloogdalecilaaDoor
open Go Go.Abs Go.Proofs

theorem set_self {α : Type} {l : List α} {k : Nat} {x : α} (h : l[k]? = some x) : l.set k x = l := by
  refine List.ext_getElem? fun j => ?_
  rw [List.getElem?_set]
  split
  · rename_i e; subst e
    split
    · exact h.symm
    · rename_i hl; rw [List.getElem?_eq_none (by omega)] at h; cases h
  · rfl

/-- Other words for the elements of a row. -/
theorem gh_elsE {m : Nat} {d : D} {H : List Blk} {K : D → List Blk → Prop} (k : Nat) {sz : Nat} {es es' : List D} (hk : nthB H k = some (.els sz es)) (e : es = es') (h : GhA m d (H.set k (.els sz es')) K) : GhA m d H K := by
  subst e
  rw [set_self ((nthB_eq H k).symm.trans hk)] at h
  exact h

set_option maxRecDepth 20000 in
set_option maxHeartbeats 4000000 in
/-- Added. -/
theorem kAdded (s : Sh) (hs : NotBig s) (TL : List D) (hT : TL = s.tasks.map taskD) (t : Tk) (WL : List D) (hW : WL = t.works.map workD) (Q) (hq : ∀ TL', TL' = (s.tasks ++ [t]).map taskD → Q (RA.ret (.agg [I s.benches, .sl 3 TL'])) []) :
    CallA Tryd.prog 48 [.agg [I s.benches, .sl 3 TL], .agg [I t.ready, I t.due, .sl 3 WL]] [] Q := by
  obtain ⟨A, hA⟩ : ∃ A, A = ar := ⟨_, rfl⟩
  obtain ⟨N, hN⟩ : ∃ N, N = s.tasks.length := ⟨_, rfl⟩
  have hTl : TL.length = N := by rw [hT, hN]; simp
  have hNb : N ≤ 20 := by rw [hN]; exact hs.1
  have hN2 : A.addN 0 (A.len TL) = N := by rw [xaddN hA, xlen hA, hTl]; simp
  have hr1 : A.room (A.addN 0 (A.len TL)) 40 := by rw [hN2]; exact yroomN hA (by omega) (by decide)
  have hTe : A.app [] TL = TL := by rw [xapp hA]; rfl
  refine callA_start tokT hA Tryd.func48 rfl rfl rfl rfl rfl fun S hS => ?_
  cbv
  refine draw_go tokT hA hS [0, 1, 2, 4, 5, 3, 6, 7, 8] rfl rfl fun Dk hD => ?_
  cbv
  have h1 : A.eqN (A.addN 0 (A.len TL)) (A.len (A.app [] TL)) := by refine xeqN hA ?_; rw [hN2, xlen hA, xapp hA]; exact hTl.symm
  have hr2 : A.room (A.addN (A.addN 0 (A.len TL)) 1) 40 := by rw [hN2, xaddN hA]; exact yroomN hA (by omega) (by decide)
  obtain ⟨n2, hn2⟩ : ∃ n2, n2 = A.addN (A.addN 0 (A.len TL)) 1 := ⟨_, rfl⟩
  obtain ⟨TL', hTL'⟩ : ∃ L, L = A.app (A.app [] TL) [.agg [I t.ready, I t.due, .sl 3 WL]] := ⟨_, rfl⟩
  have e1 : TL' = (s.tasks ++ [t]).map taskD := by rw [hTL', xapp hA, xapp hA, hT, hW]; simp [taskD]
  have e2 : n2 = TL'.length := by rw [hn2, hN2, xaddN hA, e1]; simp [hN]
  refine ⟨yeqLen hA rfl, hr1, h1, yeqLen hA rfl, hr2, ?_⟩
  refine gh_elsE 6 rfl hTL'.symm ?_
  refine gh_frz [6] ?_
  cbv
  rw [hn2] at e2
  have hq' := hq TL' e1
  clear hTL' e1
  exact ⟨by cases TL' <;> exact e2, by cases TL' <;> exact e2, by cases TL' <;> exact e2, gh_view [] (by decide) pre0 (H' := []) (d' := .agg [I s.benches, .sl 3 TL']) trivial rfl (gh_done hq')⟩
end Go.Proofs.YtmloogdalecilaaDoor
