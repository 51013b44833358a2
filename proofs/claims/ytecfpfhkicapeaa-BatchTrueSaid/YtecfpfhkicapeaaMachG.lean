/- Part MachG of the proofs about the benches of the accordion maker: see the last text of the claim for what is proved. -/
import Derived.Test.YtecfpfhkicapeaaMachE
set_option linter.unusedVariables false
set_option linter.unusedSimpArgs false
set_option linter.unnecessarySimpa false
set_option linter.constructorNameAsVariable false

namespace Go.Abs
open Go
section
variable {m : Nat} {K : St → Prop} {E : List (Nat × D)} {y0 y1 y2 y3 b4 b5 : Blk} {nt : Nat}
theorem grid_takeB {xs : List Value} {rows : List (List D)} {c t : Nat} (hx : GridOk xs rows) (ht : t < xs.length) (hc : c ≤ t) {r : List D} (hr : r = rows.getD t [])
    (h : GS m K { env := E, H := [.elo 1 ((gridE xs rows c).set t (.o 4 1 r.length)), y1, .ob (.gr 1 ((gridN xs rows c).set t (xs.getD t nilS, none))), y3, .els 1 r], nt := nt, dfs := [] }) :
    GS m K { env := E, H := [.els 1 (gridE xs rows c), y1, .ob (.gr 1 (gridN xs rows c)), y3], nt := nt, dfs := [] } := by
  have hg := gridE_get (rows := rows) (c := c) ht
  rw [if_neg (by omega)] at hg
  refine gs_elo 0 rfl ?_
  by_cases h0 : r = []
  · have hn : xs.getD t nilS = nilS := hx.nil t ht (by rw [← hr]; exact h0)
    have hN : (gridN xs rows c).set t (xs.getD t nilS, none) = gridN xs rows c := by
      refine List.ext_getElem? fun j => ?_
      rw [List.getElem?_set]
      split
      · rename_i e; subst e
        rw [gridN_len, if_pos ht, gridN_get ht, if_pos (.inr (by rw [← hr, h0]; rfl))]
      · rfl
    rw [hN] at h
    subst h0
    rw [hn] at hg
    exact gs_virtE 0 t 0 1 (.o 4 1 0) rfl hg rfl rfl h
  · have hne : ¬ (t < c ∨ (rows.getD t []).isEmpty = true) := by
      rintro (h1 | h1)
      · omega
      · exact h0 (by rw [hr]; exact isEmpty_nil h1)
    have hn := gridN_get (rows := rows) (c := c) ht
    rw [if_neg hne, ← hr] at hn
    exact gs_grTake 2 0 t t 0 (.o 4 1 r.length) rfl rfl hn hg rfl rfl h
theorem grid_putB {xs : List Value} {rows rows' : List (List D)} {t n0 sl : Nat} (hx : GridOk xs rows) (ht : t < xs.length) {r : List D} (hE : getE E sl = some (.o 0 1 n0)) (hr0 : 0 < r.length) (hfr : FrL r) (hr : ∀ j, rows'.getD j [] = if j = t then r else rows.getD j [])
    {es : List D} (hes : es = (gridE xs rows 0).set t (.o 6 1 r.length)) {gn : List Ent} (hgn : gn = (gridN xs rows 0).set t (xs.getD t nilS, none))
    (h : ∀ xs' : List Value, GridOk xs' rows' → xs'.length = xs.length → GS m K { env := E, H := [.els 1 (gridE xs' rows' 0), y1, .ob (.gr 1 (gridN xs' rows' 0)), y3, b4, b5, .dead], nt := nt, dfs := [] }) :
    GS m K { env := E, H := [.elo 1 es, y1, .ob (.gr 1 gn), y3, b4, b5, .els 1 r], nt := nt, dfs := [] } := by
  subst hgn
  have hg : es[t]? = some (.o 6 1 r.length) := by rw [hes, List.getElem?_set_self (by rw [gridE_len]; exact ht)]
  refine gs_grPut 2 0 6 t t 0 (fun x => .v x) rfl rfl rfl (.inl ⟨sl, 1, n0, hE⟩) (by rw [List.length_set, gridN_len]; omega) (fun e row' he => ?_) hr0 hg rfl (fun _ => rfl) fun x hx1 => ?_
  · rw [List.getElem?_set_self (by rw [gridN_len]; exact ht)] at he; cases he
  · have hgd : ∀ j, (xs.set t x).getD j nilS = if j = t then x else xs.getD j nilS := fun j => by
      rw [List.getD_eq_getElem?_getD, List.getElem?_set]
      by_cases e : t = j
      · subst e; rw [if_pos rfl, if_pos ht, if_pos rfl]; rfl
      · rw [if_neg e, if_neg (fun h => e h.symm), List.getD_eq_getElem?_getD]
    have e1 : es.set t (.v x) = gridE (xs.set t x) rows' 0 := by
      refine List.ext_getElem? fun j => ?_
      by_cases hj : j < xs.length
      · rw [gridE_get (by simpa using hj), if_neg (by omega), List.getElem?_set, hgd]
        by_cases e : t = j
        · subst e; rw [if_pos rfl, if_pos rfl, if_pos (by rw [hes]; simpa [gridE_len] using ht)]
        · rw [if_neg e, hes, List.getElem?_set, if_neg e, gridE_get hj, if_neg (by omega), if_neg (fun h => e h.symm)]
      · rw [List.getElem?_eq_none (by rw [List.length_set, hes, List.length_set, gridE_len]; omega), List.getElem?_eq_none (by rw [gridE_len, List.length_set]; omega)]
    have e2 : grPut ((gridN xs rows 0).set t (xs.getD t nilS, none)) t (x, some r) = gridN (xs.set t x) rows' 0 := by
      rw [grPut_set _ (by rw [List.length_set, gridN_len]; exact ht), List.set_set]
      refine List.ext_getElem? fun j => ?_
      by_cases hj : j < xs.length
      · rw [gridN_get (by simpa using hj), List.getElem?_set, hgd, hr]
        by_cases e : t = j
        · subst e
          rw [if_pos rfl, if_pos rfl, if_pos rfl, if_pos (by rw [gridN_len]; exact ht), if_neg]
          rintro (h1 | h1)
          · omega
          · rw [isEmpty_nil h1] at hr0; simp at hr0
        · have e' : ¬ j = t := fun h => e h.symm
          rw [if_neg e, gridN_get hj]
          simp only [if_neg e']
      · rw [List.getElem?_eq_none (by rw [List.length_set, gridN_len]; omega), List.getElem?_eq_none (by rw [gridN_len, List.length_set]; omega)]
    have hok : GridOk (xs.set t x) rows' := by
      refine ⟨fun j hj h0 => ?_, fun j => ?_⟩
      · rw [hr] at h0
        rw [hgd]
        by_cases e : j = t
        · rw [if_pos e] at h0; rw [h0] at hr0; simp at hr0
        · rw [if_neg e] at h0; rw [if_neg e]
          exact hx.nil j (by simpa using hj) h0
      · rw [hr]
        split
        · exact hfr
        · exact hx.fr j
    have h2 := h (xs.set t x) hok (by simp)
    rw [← e1, ← e2] at h2
    refine gs_els 0 rfl ?_ h2
    rw [e1]; exact gridE_fr
theorem grid_meltB {xs : List Value} {rows : List (List D)} {nd : Nat} (hx : GridOk xs rows) (hl : xs.length = nd)
    (hv2 : ∀ es bg, View m [0, 1, 2, 3] { env := E, H := [.els 1 es, y1, .ob (.gr 1 bg), y3], nt := nt, dfs := [] } { env := E, H := [.els 1 es, y1, .ob (.gr 1 bg), y3, .dead], nt := nt, dfs := [] })
    (h : GS m K { env := E, H := [.els 1 ((List.range nd).map fun j => .sl 1 (rows.getD j [])), y1, .ob (.gr 1 (gridN xs rows nd)), y3], nt := nt, dfs := [] }) :
    GS m K { env := E, H := [.els 1 (gridE xs rows 0), y1, .ob (.gr 1 (gridN xs rows 0)), y3], nt := nt, dfs := [] } := by
  have hend : gridE xs rows nd = (List.range nd).map fun j => .sl 1 (rows.getD j []) := by
    unfold gridE
    rw [hl]
    exact List.map_congr_left fun j hj => by rw [if_pos (List.mem_range.1 hj)]
  rw [← hend] at h
  refine gs_iter (fun c => { env := E, H := [.els 1 (gridE xs rows c), y1, .ob (.gr 1 (gridN xs rows c)), y3], nt := nt, dfs := [] }) nd (fun c hc K h => ?_) h
  have hcl : c < xs.length := by omega
  obtain ⟨r, hr⟩ : ∃ r, r = rows.getD c [] := ⟨_, rfl⟩
  refine grid_takeB hx hcl (Nat.le_refl _) hr ?_
  have e1 : (gridE xs rows (c + 1)) = (gridE xs rows c).set c (.sl 1 r) := by
    refine List.ext_getElem? fun j => ?_
    by_cases hj : j < xs.length
    · rw [gridE_get hj, List.getElem?_set]
      by_cases e : c = j
      · subst e; rw [if_pos (Nat.lt_succ_self _), if_pos rfl, if_pos (by rw [gridE_len]; exact hj), hr]
      · rw [if_neg e, gridE_get hj]
        by_cases h2 : j < c
        · rw [if_pos (by omega), if_pos h2]
        · rw [if_neg (by omega), if_neg h2]
    · rw [List.getElem?_eq_none (by rw [gridE_len]; omega), List.getElem?_eq_none (by rw [List.length_set, gridE_len]; omega)]
  have e2 : gridN xs rows (c + 1) = (gridN xs rows c).set c (xs.getD c nilS, none) := by
    refine List.ext_getElem? fun j => ?_
    by_cases hj : j < xs.length
    · rw [gridN_get hj, List.getElem?_set]
      by_cases e : c = j
      · subst e; rw [if_pos (.inl (Nat.lt_succ_self _)), if_pos rfl, if_pos (by rw [gridN_len]; exact hj)]
      · rw [if_neg e, gridN_get hj]
        by_cases h2 : j < c
        · rw [if_pos (.inl (by omega)), if_pos (.inl h2)]
        · congr 2
          by_cases h3 : (rows.getD j []).isEmpty = true
          · rw [if_pos (.inr h3), if_pos (.inr h3)]
          · rw [if_neg (fun h => h.elim (by omega) h3), if_neg (fun h => h.elim h2 h3)]
    · rw [List.getElem?_eq_none (by rw [gridN_len]; omega), List.getElem?_eq_none (by rw [List.length_set, gridN_len]; omega)]
  have hgs : (gridE xs rows c)[c]? = some (.v (xs.getD c nilS)) := by rw [gridE_get hcl, if_neg (Nat.lt_irrefl _)]
  refine gs_fzE 0 4 (isz := 1) (row := r) (es := (gridE xs rows c).set c (.o 4 1 r.length)) (es' := (gridE xs rows c).set c (.sl 1 r)) rfl rfl ⟨by simp, fun j x' hx' => ?_⟩ ?_
  · rw [List.getElem?_set] at hx'
    split at hx'
    · rename_i e; subst e
      split at hx'
      · cases hx'
        rename_i hl2
        refine ⟨.o 4 1 r.length, by rw [List.getElem?_set_self hl2], ⟨rfl, fun q c' hc' => ?_⟩⟩
        match q, hc' with
        | 0, hc' => simp [D.cells] at hc'; subst hc'; exact .inr ⟨rfl, rfl⟩
        | q + 1, hc' => simp [D.cells] at hc'
      · cases hx'
    · rename_i e
      exact ⟨x', by rw [List.getElem?_set_ne e]; exact hx', .same _⟩
  · show GS m K { env := E, H := [.elo 1 ((gridE xs rows c).set c (.sl 1 r)), y1, .ob (.gr 1 ((gridN xs rows c).set c (xs.getD c nilS, none))), y3, .dead], nt := nt, dfs := [] }
    rw [← e1, ← e2]
    refine gs_els 0 rfl gridE_fr ?_
    exact gs_view [0, 1, 2, 3] (hv2 _ _) h
theorem grid_takeG {xs : List Value} {rows : List (List D)} {c t : Nat} (hx : GridOk xs rows) (ht : t < xs.length) (hc : c ≤ t) {r : List D} (hr : r = rows.getD t [])
    (h : GS m K { env := E, H := [y0, .elo 1 ((gridE xs rows c).set t (.o 4 1 r.length)), y2, .ob (.gr 1 ((gridN xs rows c).set t (xs.getD t nilS, none))), .els 1 r], nt := nt, dfs := [] }) :
    GS m K { env := E, H := [y0, .els 1 (gridE xs rows c), y2, .ob (.gr 1 (gridN xs rows c))], nt := nt, dfs := [] } := by
  have hg := gridE_get (rows := rows) (c := c) ht
  rw [if_neg (by omega)] at hg
  refine gs_elo 1 rfl ?_
  by_cases h0 : r = []
  · have hn : xs.getD t nilS = nilS := hx.nil t ht (by rw [← hr]; exact h0)
    have hN : (gridN xs rows c).set t (xs.getD t nilS, none) = gridN xs rows c := by
      refine List.ext_getElem? fun j => ?_
      rw [List.getElem?_set]
      split
      · rename_i e; subst e
        rw [gridN_len, if_pos ht, gridN_get ht, if_pos (.inr (by rw [← hr, h0]; rfl))]
      · rfl
    rw [hN] at h
    subst h0
    rw [hn] at hg
    exact gs_virtE 1 t 0 1 (.o 4 1 0) rfl hg rfl rfl h
  · have hne : ¬ (t < c ∨ (rows.getD t []).isEmpty = true) := by
      rintro (h1 | h1)
      · omega
      · exact h0 (by rw [hr]; exact isEmpty_nil h1)
    have hn := gridN_get (rows := rows) (c := c) ht
    rw [if_neg hne, ← hr] at hn
    exact gs_grTake 3 1 t t 0 (.o 4 1 r.length) rfl rfl hn hg rfl rfl h
theorem grid_putG {xs : List Value} {rows rows' : List (List D)} {t n0 sl : Nat} (hx : GridOk xs rows) (ht : t < xs.length) {r : List D} (hE : getE E sl = some (.o 1 1 n0)) (hr0 : 0 < r.length) (hfr : FrL r) (hr : ∀ j, rows'.getD j [] = if j = t then r else rows.getD j [])
    {es : List D} (hes : es = (gridE xs rows 0).set t (.o 6 1 r.length)) {gn : List Ent} (hgn : gn = (gridN xs rows 0).set t (xs.getD t nilS, none))
    (h : ∀ xs' : List Value, GridOk xs' rows' → xs'.length = xs.length → GS m K { env := E, H := [y0, .els 1 (gridE xs' rows' 0), y2, .ob (.gr 1 (gridN xs' rows' 0)), b4, b5, .dead], nt := nt, dfs := [] }) :
    GS m K { env := E, H := [y0, .elo 1 es, y2, .ob (.gr 1 gn), b4, b5, .els 1 r], nt := nt, dfs := [] } := by
  subst hgn
  have hg : es[t]? = some (.o 6 1 r.length) := by rw [hes, List.getElem?_set_self (by rw [gridE_len]; exact ht)]
  refine gs_grPut 3 1 6 t t 0 (fun x => .v x) rfl rfl rfl (.inl ⟨sl, 1, n0, hE⟩) (by rw [List.length_set, gridN_len]; omega) (fun e row' he => ?_) hr0 hg rfl (fun _ => rfl) fun x hx1 => ?_
  · rw [List.getElem?_set_self (by rw [gridN_len]; exact ht)] at he; cases he
  · have hgd : ∀ j, (xs.set t x).getD j nilS = if j = t then x else xs.getD j nilS := fun j => by
      rw [List.getD_eq_getElem?_getD, List.getElem?_set]
      by_cases e : t = j
      · subst e; rw [if_pos rfl, if_pos ht, if_pos rfl]; rfl
      · rw [if_neg e, if_neg (fun h => e h.symm), List.getD_eq_getElem?_getD]
    have e1 : es.set t (.v x) = gridE (xs.set t x) rows' 0 := by
      refine List.ext_getElem? fun j => ?_
      by_cases hj : j < xs.length
      · rw [gridE_get (by simpa using hj), if_neg (by omega), List.getElem?_set, hgd]
        by_cases e : t = j
        · subst e; rw [if_pos rfl, if_pos rfl, if_pos (by rw [hes]; simpa [gridE_len] using ht)]
        · rw [if_neg e, hes, List.getElem?_set, if_neg e, gridE_get hj, if_neg (by omega), if_neg (fun h => e h.symm)]
      · rw [List.getElem?_eq_none (by rw [List.length_set, hes, List.length_set, gridE_len]; omega), List.getElem?_eq_none (by rw [gridE_len, List.length_set]; omega)]
    have e2 : grPut ((gridN xs rows 0).set t (xs.getD t nilS, none)) t (x, some r) = gridN (xs.set t x) rows' 0 := by
      rw [grPut_set _ (by rw [List.length_set, gridN_len]; exact ht), List.set_set]
      refine List.ext_getElem? fun j => ?_
      by_cases hj : j < xs.length
      · rw [gridN_get (by simpa using hj), List.getElem?_set, hgd, hr]
        by_cases e : t = j
        · subst e
          rw [if_pos rfl, if_pos rfl, if_pos rfl, if_pos (by rw [gridN_len]; exact ht), if_neg]
          rintro (h1 | h1)
          · omega
          · rw [isEmpty_nil h1] at hr0; simp at hr0
        · have e' : ¬ j = t := fun h => e h.symm
          rw [if_neg e, gridN_get hj]
          simp only [if_neg e']
      · rw [List.getElem?_eq_none (by rw [List.length_set, gridN_len]; omega), List.getElem?_eq_none (by rw [gridN_len, List.length_set]; omega)]
    have hok : GridOk (xs.set t x) rows' := by
      refine ⟨fun j hj h0 => ?_, fun j => ?_⟩
      · rw [hr] at h0
        rw [hgd]
        by_cases e : j = t
        · rw [if_pos e] at h0; rw [h0] at hr0; simp at hr0
        · rw [if_neg e] at h0; rw [if_neg e]
          exact hx.nil j (by simpa using hj) h0
      · rw [hr]
        split
        · exact hfr
        · exact hx.fr j
    have h2 := h (xs.set t x) hok (by simp)
    rw [← e1, ← e2] at h2
    refine gs_els 1 rfl ?_ h2
    rw [e1]; exact gridE_fr
theorem grid_meltG {xs : List Value} {rows : List (List D)} {nd : Nat} (hx : GridOk xs rows) (hl : xs.length = nd)
    (hv2 : ∀ es bg, View m [0, 1, 2, 3] { env := E, H := [y0, .els 1 es, y2, .ob (.gr 1 bg)], nt := nt, dfs := [] } { env := E, H := [y0, .els 1 es, y2, .ob (.gr 1 bg), .dead], nt := nt, dfs := [] })
    (h : GS m K { env := E, H := [y0, .els 1 ((List.range nd).map fun j => .sl 1 (rows.getD j [])), y2, .ob (.gr 1 (gridN xs rows nd))], nt := nt, dfs := [] }) :
    GS m K { env := E, H := [y0, .els 1 (gridE xs rows 0), y2, .ob (.gr 1 (gridN xs rows 0))], nt := nt, dfs := [] } := by
  have hend : gridE xs rows nd = (List.range nd).map fun j => .sl 1 (rows.getD j []) := by
    unfold gridE
    rw [hl]
    exact List.map_congr_left fun j hj => by rw [if_pos (List.mem_range.1 hj)]
  rw [← hend] at h
  refine gs_iter (fun c => { env := E, H := [y0, .els 1 (gridE xs rows c), y2, .ob (.gr 1 (gridN xs rows c))], nt := nt, dfs := [] }) nd (fun c hc K h => ?_) h
  have hcl : c < xs.length := by omega
  obtain ⟨r, hr⟩ : ∃ r, r = rows.getD c [] := ⟨_, rfl⟩
  refine grid_takeG hx hcl (Nat.le_refl _) hr ?_
  have e1 : (gridE xs rows (c + 1)) = (gridE xs rows c).set c (.sl 1 r) := by
    refine List.ext_getElem? fun j => ?_
    by_cases hj : j < xs.length
    · rw [gridE_get hj, List.getElem?_set]
      by_cases e : c = j
      · subst e; rw [if_pos (Nat.lt_succ_self _), if_pos rfl, if_pos (by rw [gridE_len]; exact hj), hr]
      · rw [if_neg e, gridE_get hj]
        by_cases h2 : j < c
        · rw [if_pos (by omega), if_pos h2]
        · rw [if_neg (by omega), if_neg h2]
    · rw [List.getElem?_eq_none (by rw [gridE_len]; omega), List.getElem?_eq_none (by rw [List.length_set, gridE_len]; omega)]
  have e2 : gridN xs rows (c + 1) = (gridN xs rows c).set c (xs.getD c nilS, none) := by
    refine List.ext_getElem? fun j => ?_
    by_cases hj : j < xs.length
    · rw [gridN_get hj, List.getElem?_set]
      by_cases e : c = j
      · subst e; rw [if_pos (.inl (Nat.lt_succ_self _)), if_pos rfl, if_pos (by rw [gridN_len]; exact hj)]
      · rw [if_neg e, gridN_get hj]
        by_cases h2 : j < c
        · rw [if_pos (.inl (by omega)), if_pos (.inl h2)]
        · congr 2
          by_cases h3 : (rows.getD j []).isEmpty = true
          · rw [if_pos (.inr h3), if_pos (.inr h3)]
          · rw [if_neg (fun h => h.elim (by omega) h3), if_neg (fun h => h.elim h2 h3)]
    · rw [List.getElem?_eq_none (by rw [gridN_len]; omega), List.getElem?_eq_none (by rw [List.length_set, gridN_len]; omega)]
  have hgs : (gridE xs rows c)[c]? = some (.v (xs.getD c nilS)) := by rw [gridE_get hcl, if_neg (Nat.lt_irrefl _)]
  refine gs_fzE 1 4 (isz := 1) (row := r) (es := (gridE xs rows c).set c (.o 4 1 r.length)) (es' := (gridE xs rows c).set c (.sl 1 r)) rfl rfl ⟨by simp, fun j x' hx' => ?_⟩ ?_
  · rw [List.getElem?_set] at hx'
    split at hx'
    · rename_i e; subst e
      split at hx'
      · cases hx'
        rename_i hl2
        refine ⟨.o 4 1 r.length, by rw [List.getElem?_set_self hl2], ⟨rfl, fun q c' hc' => ?_⟩⟩
        match q, hc' with
        | 0, hc' => simp [D.cells] at hc'; subst hc'; exact .inr ⟨rfl, rfl⟩
        | q + 1, hc' => simp [D.cells] at hc'
      · cases hx'
    · rename_i e
      exact ⟨x', by rw [List.getElem?_set_ne e]; exact hx', .same _⟩
  · show GS m K { env := E, H := [y0, .elo 1 ((gridE xs rows c).set c (.sl 1 r)), y2, .ob (.gr 1 ((gridN xs rows c).set c (xs.getD c nilS, none))), .dead], nt := nt, dfs := [] }
    rw [← e1, ← e2]
    refine gs_els 1 rfl gridE_fr ?_
    exact gs_view [0, 1, 2, 3] (hv2 _ _) h
end
end Go.Abs
