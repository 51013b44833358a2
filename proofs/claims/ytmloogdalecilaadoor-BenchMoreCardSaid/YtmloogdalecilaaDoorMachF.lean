/- Part MachF of the proofs about the benches of the accordion maker: see the last text of the claim for what is proved. -/
import Derived.Test.YtmloogdalecilaaDoorMachE
set_option linter.unusedVariables false
set_option linter.unusedSimpArgs false
set_option linter.unnecessarySimpa false
set_option linter.constructorNameAsVariable false

/-! A61 -/
namespace Go.Abs
open Go

def nilS : Value := .slice none 0 0
/-- The elements of a row of rows: those ahead of c are frozen, the others are named by the values xs. -/
def gridE (xs : List Value) (rows : List (List D)) (c : Nat) : List D := (List.range xs.length).map fun j => if j < c then .sl 1 (rows.getD j []) else .v (xs.getD j nilS)
def gridN (xs : List Value) (rows : List (List D)) (c : Nat) : List Ent := (List.range xs.length).map fun j => (xs.getD j nilS, if j < c ∨ (rows.getD j []).isEmpty = true then none else some (rows.getD j []))
/-- Where a row is empty, no array is named. -/
structure GridOk (xs : List Value) (rows : List (List D)) : Prop where
  nil : ∀ j, j < xs.length → rows.getD j [] = [] → xs.getD j nilS = nilS
  fr : ∀ j, FrL (rows.getD j [])

theorem gridE_len (xs rows c) : (gridE xs rows c).length = xs.length := by simp [gridE]
theorem gridN_len (xs rows c) : (gridN xs rows c).length = xs.length := by simp [gridN]
theorem gridE_get {xs : List Value} {rows c j} (h : j < xs.length) : (gridE xs rows c)[j]? = some (if j < c then .sl 1 (rows.getD j []) else .v (xs.getD j nilS)) := by simp [gridE, h]
theorem gridN_get {xs : List Value} {rows c j} (h : j < xs.length) : (gridN xs rows c)[j]? = some (xs.getD j nilS, if j < c ∨ (rows.getD j []).isEmpty = true then none else some (rows.getD j [])) := by simp [gridN, h]
theorem gridE_fr {xs : List Value} {rows : List (List D)} {c : Nat} : FrL (gridE xs rows c) := ⟨fun d hd => by
  obtain ⟨j, -, rfl⟩ := List.mem_map.1 hd
  split <;> rfl⟩
theorem gridN_none {n : Nat} {j : Nat} {e : Value} {row : List D} : (gridN (List.replicate n nilS) (List.replicate n []) 0)[j]? ≠ some (e, some row) := fun h => by
  by_cases hj : j < n
  · rw [gridN_get (by simpa using hj)] at h
    have e1 : (List.replicate n ([] : List D)).getD j [] = [] := by rw [List.getD_eq_getElem?_getD, List.getElem?_replicate]; split <;> rfl
    rw [e1, if_pos (.inr rfl)] at h
    cases h
  · rw [List.getElem?_eq_none (by rw [gridN_len]; simp; omega)] at h; cases h
theorem gridE_rep {n : Nat} : gridE (List.replicate n nilS) (List.replicate n []) 0 = List.replicate n (.v nilS) := by
  refine List.ext_getElem? fun j => ?_
  by_cases hj : j < n
  · rw [gridE_get (by simpa using hj), if_neg (by omega), List.getElem?_replicate, if_pos hj, List.getD_eq_getElem?_getD, List.getElem?_replicate, if_pos hj]; rfl
  · rw [List.getElem?_eq_none (by rw [gridE_len]; simp; omega), List.getElem?_eq_none (by simp; omega)]
theorem gridOk_rep {n : Nat} : GridOk (List.replicate n nilS) (List.replicate n []) := by
  have e1 : ∀ j, (List.replicate n ([] : List D)).getD j [] = [] := fun j => by rw [List.getD_eq_getElem?_getD, List.getElem?_replicate]; split <;> rfl
  refine ⟨fun j hj _ => ?_, fun j => by rw [e1]; exact .nil⟩
  rw [List.getD_eq_getElem?_getD, List.getElem?_replicate, if_pos (by simpa using hj)]; rfl
theorem isEmpty_nil {α : Type} {l : List α} (h : l.isEmpty = true) : l = [] := by cases l <;> simp_all

section
variable {m : Nat} {K : St → Prop} {E : List (Nat × D)} {b0 b3 b4 : Blk} {nt : Nat}

/-- None yet, so many places. -/
theorem gs_grNewN {s : St} (sz : Nat) (ents : List Ent) (hn0 : ∀ (j : Nat) (e : Value) (row : List D), ents[j]? ≠ some (e, some row)) (h : GS m K { s with H := s.H ++ [.ob (.gr sz ents)] }) : GS m K s := by
  refine gs_trans (s' := { s with H := s.H ++ [.ob (.gr sz ents)] }) (fun F μ act w h1 => ?_) h
  have hn : μ s.H.length = none := h1.hr.dom _ (Nat.le_refl _)
  have hat := updM_at μ s.H.length none
  have hget : (s.H ++ [Blk.ob (.gr sz ents)])[s.H.length]? = some (.ob (.gr sz ents)) := by simp
  have nf : ∀ b, ¬ Foot (updM μ s.H.length none) s.H.length b := fun b hf => by
    rcases hf with ⟨m, hm⟩ | hf
    · rw [hat] at hm; cases hm
    · exact absurd hf (h1.hr.non _ hn b)
  obtain ⟨r1, r2, r3⟩ := hr_on (μ' := updM μ s.H.length none) (w' := w) (H' := s.H ++ [.ob (.gr sz ents)]) (fun j => j = s.H.length) h1.hr (by simp) (fun k hk => by
      by_cases hlt : k < s.H.length
      · rw [List.getElem?_append_left hlt]
      · rw [List.getElem?_eq_none (by simp; omega), List.getElem?_eq_none (by omega)]) (fun j hj => updM_ne _ hj) (fun j b _ => Iff.rfl) (fun j hj y hy => by subst hj; rw [hn] at hy; cases hy) (Nat.le_refl _) rfl rfl rfl
    (fun _ _ _ => rfl) (fun k' b hk' _ hf => by subst hk'; exact absurd hf (nf b)) (fun k1 k2 b h1 h2 _ _ _ _ => h1.trans h2.symm) (fun k' hk' hle => by subst hk'; simp at hle; omega) (fun _ k' sz es hk' hb _ => by subst hk'; rw [blkOf_at hget] at hb; cases hb)
    (fun k' y hk' hb b => by subst hk'; rw [blkOf_at hget] at hb; cases hb) (fun hmono k' y hk' hyy _ => by
      subst hk'
      rw [obOf_at hget] at hyy; cases hyy
      exact ⟨hat, fun _ => 0, fun j e row he => absurd he (hn0 j e row), fun i j e e' row row' he => absurd he (hn0 i e row)⟩) (fun k' hk' he => by subst hk'; rw [hat] at he; cases he) (fun k' y hk' hyy => by
      subst hk'; rw [hget] at hyy; cases hyy; exact fun _ _ e => by cases e)
  refine ⟨_, _, r2, ⟨fun i hi => updM_ne _ (by have := h1.len; omega), fun i _ hk => ⟨obOf_app _ hk, fun _ e => e⟩⟩, r1, ⟨fun t d ht => ?_, h1.er.nt, h1.er.dfs.mono (fun _ _ _ e => e) r3 (fun j hj => ⟨obOf_app _ hj, fun _ e => e⟩)⟩, by have := h1.len; simp; omega⟩
  obtain ⟨v, v1, v2⟩ := h1.er.env t d ht
  exact ⟨v, v1, v2.mono (fun _ _ _ e => e) r3⟩

/-- A row is taken out. -/
theorem grid_take {xs : List Value} {rows : List (List D)} {c t : Nat} (hx : GridOk xs rows) (ht : t < xs.length) (hc : c ≤ t) {r : List D} (hr : r = rows.getD t [])
    (h : GS m K { env := E, H := [b0, .elo 1 ((gridE xs rows c).set t (.o 3 1 r.length)), .ob (.gr 1 ((gridN xs rows c).set t (xs.getD t nilS, none))), .els 1 r], nt := nt, dfs := [] }) :
    GS m K { env := E, H := [b0, .els 1 (gridE xs rows c), .ob (.gr 1 (gridN xs rows c))], nt := nt, dfs := [] } := by
  have hg := gridE_get (rows := rows) (c := c) ht
  rw [if_neg (by omega)] at hg
  refine gs_elo 1 rfl ?_
  by_cases h0 : r = []
  · have hn : xs.getD t nilS = nilS := hx.nil t ht (by rw [← hr]; exact h0)
    have hN : (gridN xs rows c).set t (xs.getD t nilS, none) = gridN xs rows c := by
      refine List.ext_getElem? fun j => ?_
      rw [List.getElem?_set]
      split
      · rename_i e; subst e
        rw [gridN_len, if_pos ht, gridN_get ht, if_pos (.inr (by rw [← hr, h0]; rfl))]
      · rfl
    rw [hN] at h
    subst h0
    rw [hn] at hg
    exact gs_virtE 1 t 0 1 (.o 3 1 0) rfl hg rfl rfl h
  · have hne : ¬ (t < c ∨ (rows.getD t []).isEmpty = true) := by
      rintro (h1 | h1)
      · omega
      · exact h0 (by rw [hr]; exact isEmpty_nil h1)
    have hn := gridN_get (rows := rows) (c := c) ht
    rw [if_neg hne, ← hr] at hn
    exact gs_grTake 2 1 t t 0 (.o 3 1 r.length) rfl rfl hn hg rfl rfl h

/-- It is put away, longer. -/
theorem grid_put {xs : List Value} {rows rows' : List (List D)} {t n0 sl : Nat} (hx : GridOk xs rows) (ht : t < xs.length) {r : List D} (hE : getE E sl = some (.o 1 1 n0)) (hr0 : 0 < r.length) (hfr : FrL r) (hr : ∀ j, rows'.getD j [] = if j = t then r else rows.getD j [])
    {es : List D} (hes : es = (gridE xs rows 0).set t (.o 5 1 r.length)) {gn : List Ent} (hgn : gn = (gridN xs rows 0).set t (xs.getD t nilS, none))
    (h : ∀ xs' : List Value, GridOk xs' rows' → xs'.length = xs.length → GS m K { env := E, H := [b0, .els 1 (gridE xs' rows' 0), .ob (.gr 1 (gridN xs' rows' 0)), b3, b4, .dead], nt := nt, dfs := [] }) :
    GS m K { env := E, H := [b0, .elo 1 es, .ob (.gr 1 gn), b3, b4, .els 1 r], nt := nt, dfs := [] } := by
  subst hgn
  have hg : es[t]? = some (.o 5 1 r.length) := by rw [hes, List.getElem?_set_self (by rw [gridE_len]; exact ht)]
  refine gs_grPut 2 1 5 t t 0 (fun x => .v x) rfl rfl rfl (.inl ⟨sl, 1, n0, hE⟩) (by rw [List.length_set, gridN_len]; omega) (fun e row' he => ?_) hr0 hg rfl (fun _ => rfl) fun x hx1 => ?_
  · rw [List.getElem?_set_self (by rw [gridN_len]; exact ht)] at he; cases he
  · have hgd : ∀ j, (xs.set t x).getD j nilS = if j = t then x else xs.getD j nilS := fun j => by
      rw [List.getD_eq_getElem?_getD, List.getElem?_set]
      by_cases e : t = j
      · subst e; rw [if_pos rfl, if_pos ht, if_pos rfl]; rfl
      · rw [if_neg e, if_neg (fun h => e h.symm), List.getD_eq_getElem?_getD]
    have e1 : es.set t (.v x) = gridE (xs.set t x) rows' 0 := by
      refine List.ext_getElem? fun j => ?_
      by_cases hj : j < xs.length
      · rw [gridE_get (by simpa using hj), if_neg (by omega), List.getElem?_set, hgd]
        by_cases e : t = j
        · subst e; rw [if_pos rfl, if_pos rfl, if_pos (by rw [hes]; simpa [gridE_len] using ht)]
        · rw [if_neg e, hes, List.getElem?_set, if_neg e, gridE_get hj, if_neg (by omega), if_neg (fun h => e h.symm)]
      · rw [List.getElem?_eq_none (by rw [List.length_set, hes, List.length_set, gridE_len]; omega), List.getElem?_eq_none (by rw [gridE_len, List.length_set]; omega)]
    have e2 : grPut ((gridN xs rows 0).set t (xs.getD t nilS, none)) t (x, some r) = gridN (xs.set t x) rows' 0 := by
      rw [grPut_set _ (by rw [List.length_set, gridN_len]; exact ht), List.set_set]
      refine List.ext_getElem? fun j => ?_
      by_cases hj : j < xs.length
      · rw [gridN_get (by simpa using hj), List.getElem?_set, hgd, hr]
        by_cases e : t = j
        · subst e
          rw [if_pos rfl, if_pos rfl, if_pos rfl, if_pos (by rw [gridN_len]; exact ht), if_neg]
          rintro (h1 | h1)
          · omega
          · rw [isEmpty_nil h1] at hr0; simp at hr0
        · have e' : ¬ j = t := fun h => e h.symm
          rw [if_neg e, gridN_get hj]
          simp only [if_neg e']
      · rw [List.getElem?_eq_none (by rw [List.length_set, gridN_len]; omega), List.getElem?_eq_none (by rw [gridN_len, List.length_set]; omega)]
    have hok : GridOk (xs.set t x) rows' := by
      refine ⟨fun j hj h0 => ?_, fun j => ?_⟩
      · rw [hr] at h0
        rw [hgd]
        by_cases e : j = t
        · rw [if_pos e] at h0; rw [h0] at hr0; simp at hr0
        · rw [if_neg e] at h0; rw [if_neg e]
          exact hx.nil j (by simpa using hj) h0
      · rw [hr]
        split
        · exact hfr
        · exact hx.fr j
    have h2 := h (xs.set t x) hok (by simp)
    rw [← e1, ← e2] at h2
    refine gs_els 1 rfl ?_ h2
    rw [e1]; exact gridE_fr

/-- All rows are frozen. -/
theorem grid_melt {xs : List Value} {rows : List (List D)} {nd : Nat} (hx : GridOk xs rows) (hl : xs.length = nd)
    (hv2 : ∀ es bg, View m [0, 1, 2] { env := E, H := [b0, .els 1 es, .ob (.gr 1 bg)], nt := nt, dfs := [] } { env := E, H := [b0, .els 1 es, .ob (.gr 1 bg), .dead], nt := nt, dfs := [] })
    (h : GS m K { env := E, H := [b0, .els 1 ((List.range nd).map fun j => .sl 1 (rows.getD j [])), .ob (.gr 1 (gridN xs rows nd))], nt := nt, dfs := [] }) :
    GS m K { env := E, H := [b0, .els 1 (gridE xs rows 0), .ob (.gr 1 (gridN xs rows 0))], nt := nt, dfs := [] } := by
  have hend : gridE xs rows nd = (List.range nd).map fun j => .sl 1 (rows.getD j []) := by
    unfold gridE
    rw [hl]
    exact List.map_congr_left fun j hj => by rw [if_pos (List.mem_range.1 hj)]
  rw [← hend] at h
  refine gs_iter (fun c => { env := E, H := [b0, .els 1 (gridE xs rows c), .ob (.gr 1 (gridN xs rows c))], nt := nt, dfs := [] }) nd (fun c hc K h => ?_) h
  have hcl : c < xs.length := by omega
  obtain ⟨r, hr⟩ : ∃ r, r = rows.getD c [] := ⟨_, rfl⟩
  refine grid_take hx hcl (Nat.le_refl _) hr ?_
  have e1 : (gridE xs rows (c + 1)) = (gridE xs rows c).set c (.sl 1 r) := by
    refine List.ext_getElem? fun j => ?_
    by_cases hj : j < xs.length
    · rw [gridE_get hj, List.getElem?_set]
      by_cases e : c = j
      · subst e; rw [if_pos (Nat.lt_succ_self _), if_pos rfl, if_pos (by rw [gridE_len]; exact hj), hr]
      · rw [if_neg e, gridE_get hj]
        by_cases h2 : j < c
        · rw [if_pos (by omega), if_pos h2]
        · rw [if_neg (by omega), if_neg h2]
    · rw [List.getElem?_eq_none (by rw [gridE_len]; omega), List.getElem?_eq_none (by rw [List.length_set, gridE_len]; omega)]
  have e2 : gridN xs rows (c + 1) = (gridN xs rows c).set c (xs.getD c nilS, none) := by
    refine List.ext_getElem? fun j => ?_
    by_cases hj : j < xs.length
    · rw [gridN_get hj, List.getElem?_set]
      by_cases e : c = j
      · subst e; rw [if_pos (.inl (Nat.lt_succ_self _)), if_pos rfl, if_pos (by rw [gridN_len]; exact hj)]
      · rw [if_neg e, gridN_get hj]
        by_cases h2 : j < c
        · rw [if_pos (.inl (by omega)), if_pos (.inl h2)]
        · congr 2
          by_cases h3 : (rows.getD j []).isEmpty = true
          · rw [if_pos (.inr h3), if_pos (.inr h3)]
          · rw [if_neg (fun h => h.elim (by omega) h3), if_neg (fun h => h.elim h2 h3)]
    · rw [List.getElem?_eq_none (by rw [gridN_len]; omega), List.getElem?_eq_none (by rw [List.length_set, gridN_len]; omega)]
  have hgs : (gridE xs rows c)[c]? = some (.v (xs.getD c nilS)) := by rw [gridE_get hcl, if_neg (Nat.lt_irrefl _)]
  refine gs_fzE 1 3 (isz := 1) (row := r) (es := (gridE xs rows c).set c (.o 3 1 r.length)) (es' := (gridE xs rows c).set c (.sl 1 r)) rfl rfl ⟨by simp, fun j x' hx' => ?_⟩ ?_
  · rw [List.getElem?_set] at hx'
    split at hx'
    · rename_i e; subst e
      split at hx'
      · cases hx'
        rename_i hl2
        refine ⟨.o 3 1 r.length, by rw [List.getElem?_set_self hl2], ⟨rfl, fun q c' hc' => ?_⟩⟩
        match q, hc' with
        | 0, hc' => simp [D.cells] at hc'; subst hc'; exact .inr ⟨rfl, rfl⟩
        | q + 1, hc' => simp [D.cells] at hc'
      · cases hx'
    · rename_i e
      exact ⟨x', by rw [List.getElem?_set_ne e]; exact hx', .same _⟩
  · show GS m K { env := E, H := [b0, .elo 1 ((gridE xs rows c).set c (.sl 1 r)), .ob (.gr 1 ((gridN xs rows c).set c (xs.getD c nilS, none))), .dead], nt := nt, dfs := [] }
    rw [← e1, ← e2]
    refine gs_els 1 rfl gridE_fr ?_
    exact gs_view [0, 1, 2] (hv2 _ _) h
end
end Go.Abs

/-! A62 -/
namespace Go.Abs
open Go
section
variable {P : Program} {T : TT} {r : Option Nat} {m : Nat} {Q : AX → St → Prop} {F : Fz} {μ : Mu} {w : World} {K : St → Prop} {s : St}

/-- A block, by another word for it. -/
theorem gs_blkE (k : Nat) {x y : Blk} (hk : nthB s.H k = some x) (e : x = y) (h : GS m K { s with H := s.H.set k y }) : GS m K s := by
  subst e
  have e1 : s.H.set k x = s.H := List.ext_getElem? fun i => by
    rw [List.getElem?_set]
    split
    · rename_i e; subst e
      split
      · exact (((nthB_eq s.H k).symm.trans hk)).symm
      · rw [List.getElem?_eq_none (by omega)]
    · rfl
  rw [e1] at h
  exact h

theorem setE_get {l : List (Nat × D)} {t : Nat} {d : D} : ∀ (n : Nat) (x : D), getE (setE l t d) n = some x → (n = t ∧ x = d) ∨ getE l n = some x := fun n x h => by
  rw [getE_setE] at h
  by_cases e : t = n
  · rw [if_pos e] at h; cases h; exact .inl ⟨e.symm, rfl⟩
  · rw [if_neg e] at h; exact .inr h

/-- A row that a slot names is put away at the place j. -/
theorem gs_grPutS (kg k' j t : Nat) {isz n0 : Nat} {row : List D} {ents : List Ent} (hn0 : n0 = row.length) (hg : nthB s.H kg = some (.ob (.gr isz ents))) (hk' : nthB s.H k' = some (.els isz row)) (ht : getE s.env t = some (.o k' isz n0))
    (hj : j ≤ ents.length) (hjo : ∀ e row', ents[j]? ≠ some (e, some row')) (hr0 : 0 < row.length)
    (h : ∀ x : Value, x.oneCell' = true → GS m K { s with env := setE s.env t (.v x), H := (s.H.set k' .dead).set kg (.ob (.gr isz (grPut ents j (x, some row)))) }) : GS m K s := ⟨fun F μ act w h1 => by
  subst hn0
  have hr := h1.hr
  have bk' := blk_els hk'
  have bg : obOf s.H kg = some (.gr isz ents) := by rw [nthB_eq] at hg; rw [obOf_at hg]; rfl
  have lk' := blk_lt bk'; have lg := obOf_lt bg
  have ne3 : kg ≠ k' := by rintro rfl; rw [ob_blk bg] at bk'; cases bk'
  have hfr : FrL row := hr.fr k' _ (by rw [← nthB_eq]; exact hk') _ _ rfl
  obtain ⟨o1, loc, o2, o3⟩ := hr.obj kg _ bg trivial
  obtain ⟨x, x1, x3⟩ := h1.er.env t _ ht
  obtain ⟨b0, m0, cap, q1, q2, q3, rfl⟩ : ∃ b0 m0 cap, μ k' = some (some (b0, m0)) ∧ row.length ≤ cap ∧ cap * isz ≤ m0 ∧ x = .slice (some ⟨b0, 0, none⟩) row.length cap := by
    generalize hn : row.length = n at x3
    cases x3 with
    | cl _ _ hc => cases hc
    | o _ _ _ b0 m0 cap g1 g2 g3 => exact ⟨b0, m0, cap, g1, by omega, g3, rfl⟩
    | oNil => omega
  rcases hr.row k' isz row bk' (by rw [q1]; simp) with ⟨e0, -⟩ | ⟨b1, m1, c1, t1, f1, f2, f3, f4, f5⟩
  · rw [q1] at e0; cases e0
  rw [q1] at f1; cases f1
  let μ' : Mu := ⟨μ.loc, fun a b => if a = kg then μ.inn kg b ∨ b = b0 else μ.inn a b⟩
  let H' : List Blk := (s.H.set k' .dead).set kg (.ob (.gr isz (grPut ents j (.slice (some ⟨b0, 0, none⟩) row.length cap, some row))))
  have hget : ∀ a, H'[a]? = if a = kg then some (.ob (.gr isz (grPut ents j (.slice (some ⟨b0, 0, none⟩) row.length cap, some row)))) else if a = k' then some .dead else s.H[a]? := fun a => by
    simp only [H', List.getElem?_set, List.length_set]
    by_cases a2 : a = kg
    · subst a2; simp [lg]
    · have a2' : ¬ kg = a := fun e => a2 e.symm
      by_cases a3 : a = k'
      · subst a3; simp [a2, a2', lk']
      · have a3' : ¬ k' = a := fun e => a3 e.symm
        simp only [if_neg a2, if_neg a2', if_neg a3, if_neg a3']
  have gg := hget kg; rw [if_pos rfl] at gg
  have gd := hget k'; rw [if_neg (Ne.symm ne3), if_pos rfl] at gd
  have hlv : liveB H' k' = false := by rw [liveB_at gd]; rfl
  have hown : ∀ a, μ.inn kg a → a ≠ b0 := fun a ha e => by
    subst e
    exact ne3 (hr.inj kg k' a (live_ob bg) (live_blk bk') (.inr ha) (.inl ⟨_, q1⟩))
  have eC : ∀ a, ¬ (a = kg ∨ a = k') → a ≠ kg ∧ a ≠ k' := fun a h => ⟨fun e => h (.inl e), fun e => h (.inr e)⟩
  have upm : ∀ a y, μ a = some y → μ' a = some y := fun _ _ e => e
  have r : HR F μ' H' w ∧ Post F μ s.H w F μ' H' w ∧ ∀ j y, μ j = some y → μ' j = some y := by
    refine hr_on (μ' := μ') (w' := w) (H' := H') (fun a => a = kg ∨ a = k') hr (by simp [H']) (fun a ha => by
      obtain ⟨n2, n3⟩ := eC a ha
      rw [hget, if_neg n2, if_neg n3]) (fun _ _ => rfl) (fun a b ha => by
      obtain ⟨n2, -⟩ := eC a ha
      show (if a = kg then _ else _) ↔ _
      rw [if_neg n2]) (fun _ _ _ e => e) (Nat.le_refl _) rfl rfl rfl (fun _ _ _ => rfl) (fun a b ha hl hft => ?_) (fun a a' b ha ha' hl hl' h4 h5 => ?_) (fun a ha hle => ?_) (fun _ a sz1 es1 ha hb1 hne => ?_) (fun a y ha hb1 b => ?_) (fun hmono a y ha hy _ => ?_) (fun a ha he b => ?_) (fun a y ha hy => ?_)
    · rcases ha with rfl | rfl
      · rcases hft with hm | hi
        · exact .inl ⟨a, .inl rfl, live_ob bg, .inl hm⟩
        · change (if a = a then _ else _) at hi
          rw [if_pos rfl] at hi
          rcases hi with hi | rfl
          · exact .inl ⟨a, .inl rfl, live_ob bg, .inr hi⟩
          · exact .inl ⟨k', .inr rfl, live_blk bk', .inl ⟨_, q1⟩⟩
      · rw [hlv] at hl; cases hl
    · rcases ha with rfl | rfl
      · rcases ha' with rfl | rfl
        · rfl
        · rw [hlv] at hl'; cases hl'
      · rw [hlv] at hl; cases hl
    · simp [H'] at hle
      rcases ha with rfl | rfl <;> omega
    · rcases ha with rfl | rfl
      · rw [blkOf_at gg] at hb1; cases hb1
      · rw [blkOf_at gd] at hb1; cases hb1
    · rcases ha with rfl | rfl
      · rw [blkOf_at gg] at hb1; cases hb1
      · rw [blkOf_at gd] at hb1; cases hb1
    · rcases ha with rfl | rfl
      · rw [obOf_at gg] at hy; cases hy
        refine ⟨o1, fun n => if n = j then b0 else loc n, fun n e row1 he => ?_, fun n n' e e' row1 row2 he he' hh => ?_⟩
        · rw [grPut_get _ hj] at he
          split at he
          · rename_i en
            cases he
            refine ⟨c1, t1, cap, by simp only [if_pos en], q2, by rw [f3]; exact q3, by simp only [if_pos en]; exact f2, f5.mono (fun _ _ _ e => e) upm, hfr, ?_⟩
            show (if a = a then _ else _)
            rw [if_pos rfl]; exact .inr (by simp only [if_pos en])
          · rename_i en
            obtain ⟨c2, t2, cap2, g1, g2, g3, g4, g5, g6, g7⟩ := o2 n e row1 he
            refine ⟨c2, t2, cap2, by simp only [if_neg en]; exact g1, g2, g3, by simp only [if_neg en]; exact g4, g5.mono (fun _ _ _ e => e) upm, g6, ?_⟩
            show (if a = a then _ else _)
            rw [if_pos rfl]; simp only [if_neg en]; exact .inl g7
        · rw [grPut_get _ hj] at he he'
          by_cases n1 : n = j <;> by_cases n2 : n' = j
          · omega
          · exfalso
            rw [if_neg n2] at he'
            simp only [if_pos n1, if_neg n2] at hh
            obtain ⟨_, _, _, _, _, _, _, _, _, g7⟩ := o2 n' _ _ he'
            exact hown _ g7 hh.symm
          · exfalso
            rw [if_neg n1] at he
            simp only [if_neg n1, if_pos n2] at hh
            obtain ⟨_, _, _, _, _, _, _, _, _, g7⟩ := o2 n _ _ he
            exact hown _ g7 hh
          · rw [if_neg n1] at he; rw [if_neg n2] at he'
            simp only [if_neg n1, if_neg n2] at hh
            exact o3 n n' _ _ _ _ he he' hh
      · rw [obOf_at gd] at hy; cases hy
    · rcases ha with rfl | rfl
      · change μ a = none at he; rw [o1] at he; cases he
      · change μ a = none at he; rw [q1] at he; cases he
    · rcases ha with rfl | rfl
      · rw [gg] at hy; cases hy; exact fun _ _ e => by cases e
      · rw [gd] at hy; cases hy; exact fun _ _ e => by cases e
  obtain ⟨r1, r2, r3⟩ := r
  have hob : ∀ a, obOf s.H a = some .mk → obOf H' a = some .mk ∧ ∀ b, μ.inn a b → μ'.inn a b := fun a ha => by
    have n2 : a ≠ kg := by rintro rfl; rw [ha] at bg; cases bg
    have n3 : a ≠ k' := by rintro rfl; rw [ob_blk ha] at bk'; cases bk'
    refine ⟨?_, fun b hb => ?_⟩
    · unfold obOf at ha ⊢; rw [hget, if_neg n2, if_neg n3]; exact ha
    · show (if a = kg then _ else _)
      rw [if_neg n2]; exact hb
  have rl : RL m F μ' { s with env := setE s.env t (.v (.slice (some ⟨b0, 0, none⟩) row.length cap)), H := H' } act w := ⟨r1, ⟨fun n d hd => by
      rcases setE_get n d hd with ⟨rfl, rfl⟩ | hd
      · exact ⟨_, x1, .cl _ _ (.v _ rfl)⟩
      · obtain ⟨v, v1, v2⟩ := h1.er.env n d hd
        exact ⟨v, v1, v2.mono (fun _ _ _ e => e) r3⟩, h1.er.nt, h1.er.dfs.mono (fun _ _ _ e => e) r3 (fun a ha => hob a ha)⟩, by simpa [H'] using h1.len⟩
  obtain ⟨F2, μ2, s2, k1, k2, k3, k4, k5⟩ := (h _ rfl).out F μ' act w rl
  exact ⟨F2, μ2, s2, r2.trans k1, Kp.trans (H := s.H) (H' := H') (μ := μ) (μ' := μ') ⟨fun _ _ => rfl, fun a _ ha => hob a ha⟩ k2, k3, fun d v hd hv => k4 d v hd (hv.mono (fun _ _ _ e => e) r3), k5⟩⟩
end

theorem grPut_at {α : Type} {l : List α} {k : Nat} (h : k = l.length) {x : α} : grPut l k x = l ++ [x] := by subst h; exact grPut_len _ _

theorem grid_app {xs : List Value} {rows rows' : List (List D)} {k : Nat} {r : List D} {x : Value} (hx : GridOk xs rows) (hk : xs.length = k) (hr0 : 0 < r.length) (hfr : FrL r) (hr : ∀ j, rows'.getD j [] = if j = k then r else rows.getD j []) :
    gridE xs rows 0 ++ [.v x] = gridE (xs ++ [x]) rows' 0 ∧ grPut (gridN xs rows 0) k (x, some r) = gridN (xs ++ [x]) rows' 0 ∧ GridOk (xs ++ [x]) rows' := by
  have hgd : ∀ j, j < k + 1 → (xs ++ [x]).getD j nilS = if j = k then x else xs.getD j nilS := fun j hj => by
    rw [List.getD_eq_getElem?_getD]
    by_cases e : j = k
    · rw [if_pos e, List.getElem?_append_right (by omega), e, hk]; simp
    · rw [if_neg e, List.getElem?_append_left (by omega), List.getD_eq_getElem?_getD]
  refine ⟨?_, ?_, ?_⟩
  · refine List.ext_getElem? fun j => ?_
    by_cases hj : j < k + 1
    · rw [gridE_get (by simp; omega), if_neg (by omega), hgd j hj]
      by_cases e : j = k
      · rw [if_pos e, List.getElem?_append_right (by rw [gridE_len]; omega), gridE_len, e, hk]; simp
      · rw [if_neg e, List.getElem?_append_left (by rw [gridE_len]; omega), gridE_get (by omega), if_neg (by omega)]
    · rw [List.getElem?_eq_none (by simp [gridE_len]; omega), List.getElem?_eq_none (by rw [gridE_len]; simp; omega)]
  · have hl : k = (gridN xs rows 0).length := by rw [gridN_len]; exact hk.symm
    rw [grPut_at hl]
    refine List.ext_getElem? fun j => ?_
    by_cases hj : j < k + 1
    · rw [gridN_get (by simp; omega), hgd j hj, hr]
      by_cases e : j = k
      · rw [if_pos e, if_pos e, List.getElem?_append_right (by rw [gridN_len]; omega), gridN_len, e, hk]
        rw [if_neg (by rintro (h | h); omega; rw [isEmpty_nil h] at hr0; simp at hr0)]; simp
      · rw [if_neg e, List.getElem?_append_left (by rw [gridN_len]; omega), gridN_get (by omega)]
        simp only [if_neg e]
    · rw [List.getElem?_eq_none (by simp [gridN_len]; omega), List.getElem?_eq_none (by rw [gridN_len]; simp; omega)]
  · refine ⟨fun j hj h0 => ?_, fun j => ?_⟩
    · have hj' : j < k + 1 := by simpa [hk] using hj
      rw [hr] at h0
      rw [hgd j hj']
      by_cases e : j = k
      · rw [if_pos e] at h0; rw [h0] at hr0; simp at hr0
      · rw [if_neg e] at h0; rw [if_neg e]
        exact hx.nil j (by omega) h0
    · rw [hr]
      split
      · exact hfr
      · exact hx.fr j
end Go.Abs
