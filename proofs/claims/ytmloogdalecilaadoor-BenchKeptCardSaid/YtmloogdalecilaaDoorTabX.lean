/- Part TabX of the proofs about the benches of the accordion maker: see the last text of the claim for what is proved. -/
import Derived.Test.YtmloogdalecilaaDoorTabA
import Derived.Test.YtmloogdalecilaaDoorMachF
set_option linter.unusedVariables false
set_option linter.unusedSimpArgs false
set_option linter.unnecessarySimpa false
set_option linter.constructorNameAsVariable false

/-! K3 -/
namespace Go.Proofs.YtmloogdalecilaaDoor
open Go Go.Abs Go.Proofs

/-- The hours of each order's works, of slots. -/
def tabN (N : Nat) (l : List Sl) : List (List Int) := (List.range N).map fun i => (l.filter fun x => decide (x.t = ((i : Nat) : Int))).map (·.bh)
def tabS (s : Sh) (p : List Nat) : List (List Int) := tabN s.tasks.length (runS s (fun _ => 0) p)
def rowsD (l : List (List Int)) : List (List D) := l.map fun r => r.map I

structure LtN (a b : Nat) : Prop where
  out : a < b

theorem tab_get {N : Nat} {l : List Sl} {j : Nat} (hj : j < N) : (rowsD (tabN N l)).getD j [] = ((l.filter fun x => decide (x.t = ((j : Nat) : Int))).map (·.bh)).map I := by
  simp [rowsD, tabN, List.getD_eq_getElem?_getD, hj]
theorem tab_out {N : Nat} {l : List Sl} {j : Nat} (hj : N ≤ j) : (rowsD (tabN N l)).getD j [] = [] := by
  rw [List.getD_eq_getElem?_getD, List.getElem?_eq_none (by simp [rowsD, tabN]; omega)]; rfl
theorem tab_len (N : Nat) (l : List Sl) (j : Nat) : ((rowsD (tabN N l)).getD j []).length ≤ l.length := by
  by_cases hj : j < N
  · rw [tab_get hj, List.length_map, List.length_map]; exact List.length_filter_le _ _
  · rw [tab_out (by omega)]; simp
theorem tab_next {N : Nat} {l : List Sl} {k tn : Nat} {x : Sl} (hx : l[k]? = some x) (ht : IsI x.t tn) (hN : tn < N) (j : Nat) : (rowsD (tabN N (l.take (k + 1)))).getD j [] = if j = tn then (rowsD (tabN N (l.take k))).getD tn [] ++ [I x.bh] else (rowsD (tabN N (l.take k))).getD j [] := by
  have htk : l.take (k + 1) = l.take k ++ [x] := by rw [List.take_add_one, hx]; rfl
  have hte := ht.eq
  by_cases hj : j < N
  · rw [tab_get hj, htk, List.filter_append]
    by_cases e : j = tn
    · subst e
      rw [if_pos rfl, tab_get hj]; simp [hte]
    · rw [if_neg e, tab_get hj]
      have : ¬ (x.t = ((j : Nat) : Int)) := by omega
      simp [this]
  · rw [tab_out (by omega), if_neg (by omega), tab_out (by omega)]

theorem tabS_row {s : Sh} {p : List Nat} {i : Nat} (hi : i < s.tasks.length) : ∃ l, (tabS s p)[i]? = some l ∧ l.length = p.count i := by
  refine ⟨_, by rw [tabS, tabN, List.getElem?_map, List.getElem?_range hi]; rfl, ?_⟩
  rw [List.length_map, ← List.countP_eq_length_filter]
  have e1 : (runS s (fun _ => 0) p).map (·.t) = p.map fun i : Nat => (i : Int) := by
    refine List.ext_getElem? fun n => ?_
    by_cases hn : n < p.length
    · simp [runS, hn, List.getD_eq_getElem?_getD]
    · rw [List.getElem?_eq_none (by simp [runS]; omega), List.getElem?_eq_none (by simp; omega)]
  have e2 : (runS s (fun _ => 0) p).countP (fun x => decide (x.t = ((i : Nat) : Int))) = ((runS s (fun _ => 0) p).map (·.t)).countP fun t => decide (t = ((i : Nat) : Int)) := by
    rw [List.countP_map]; rfl
  rw [e2, e1, List.countP_map, List.count_eq_countP]
  refine List.countP_congr fun x _ => ?_
  simp [Function.comp]
  omega

theorem tabS_ok {s : Sh} (hs : ShopOk s) {p : List Nat} (hp : PlanOk s p) : TbOk (tabS s p) ∧ ∀ l ∈ tabS s p, l ≠ [] := by
  have hv := chkS_val hs.chk
  have hlen : (tabS s p).length = s.tasks.length := by simp [tabS, tabN]
  have key : ∀ l ∈ tabS s p, ∃ i, i < s.tasks.length ∧ l.length = p.count i := fun l hl => by
    obtain ⟨i, hi⟩ := List.mem_iff_getElem?.1 hl
    have hil : i < s.tasks.length := by rw [← hlen]; exact (List.getElem?_eq_some_iff.1 hi).1
    obtain ⟨l', h1, h2⟩ := tabS_row (p := p) hil
    rw [hi] at h1; cases h1
    exact ⟨i, hil, h2⟩
  refine ⟨⟨by rw [hlen]; have := hv.len; omega, fun l hl => ?_⟩, fun l hl e => ?_⟩
  · obtain ⟨i, hi, h2⟩ := key l hl
    have h3 := List.count_le_length (a := i) (l := p)
    have h4 := hp.len
    have h5 := hv.sum
    omega
  · obtain ⟨i, hi, h2⟩ := key l hl
    have h3 := hp.cnt i hi
    rw [e] at h2
    have h4 := hv.ne (s.tasks.getD i default) (by rw [List.getD_eq_getElem?_getD, List.getElem?_eq_getElem hi]; exact List.getElem_mem hi)
    apply h4
    apply List.length_eq_zero_iff.1
    rw [← h3, ← h2]; rfl

theorem rows_set {tb : List (List Int)} {j : Nat} (hj : j < tb.length) (r : List Int) (i : Nat) : (rowsD (tb.set j r)).getD i [] = if i = j then r.map I else (rowsD tb).getD i [] := by
  rw [rowsD, List.getD_eq_getElem?_getD, List.getElem?_map, List.getElem?_set]
  by_cases e : j = i
  · subst e; rw [if_pos rfl, if_pos hj, if_pos rfl]; rfl
  · rw [if_neg e, if_neg (fun h => e h.symm), rowsD, List.getD_eq_getElem?_getD, List.getElem?_map]

theorem rows_all (tb : List (List Int)) {N : Nat} (hN : N = tb.length) : ((List.range N).map fun j => D.sl 1 ((rowsD tb).getD j [])) = tb.map fun l => .sl 1 (l.map I) := by
  refine List.ext_getElem? fun j => ?_
  by_cases hj : j < N
  · rw [List.getElem?_map, List.getElem?_range hj, Option.map_some, rowsD, List.getD_eq_getElem?_getD, List.getElem?_map, List.getElem?_map, List.getElem?_eq_getElem (by omega)]; rfl
  · rw [List.getElem?_eq_none (by simp; omega), List.getElem?_eq_none (by simp; omega)]
end Go.Proofs.YtmloogdalecilaaDoor
