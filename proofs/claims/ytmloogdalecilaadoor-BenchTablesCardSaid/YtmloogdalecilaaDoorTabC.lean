/- Part TabC of the proofs about the benches of the accordion maker: see the last text of the claim for what is proved. -/
import Derived.Test.YtmloogdalecilaaDoorTabB
import Derived.Test.YtmloogdalecilaaDoorRunsA
import Derived.Test.YtmloogdalecilaaDoorMachF
set_option linter.unusedVariables false
set_option linter.unusedSimpArgs false
set_option linter.unnecessarySimpa false
set_option linter.constructorNameAsVariable false

/-! D69 -/
namespace Go.Proofs.YtmloogdalecilaaDoor
open Go Go.Abs Go.Proofs

/-- The hours of each order's works, of slots. -/
def tabN (N : Nat) (l : List Sl) : List (List Int) := (List.range N).map fun i => (l.filter fun x => decide (x.t = ((i : Nat) : Int))).map (·.bh)
def tabS (s : Sh) (p : List Nat) : List (List Int) := tabN s.tasks.length (runS s (fun _ => 0) p)
def rowsD (l : List (List Int)) : List (List D) := l.map fun r => r.map I

structure LtN (a b : Nat) : Prop where
  out : a < b

theorem tab_get {N : Nat} {l : List Sl} {j : Nat} (hj : j < N) : (rowsD (tabN N l)).getD j [] = ((l.filter fun x => decide (x.t = ((j : Nat) : Int))).map (·.bh)).map I := by
  simp [rowsD, tabN, List.getD_eq_getElem?_getD, hj]
theorem tab_out {N : Nat} {l : List Sl} {j : Nat} (hj : N ≤ j) : (rowsD (tabN N l)).getD j [] = [] := by
  rw [List.getD_eq_getElem?_getD, List.getElem?_eq_none (by simp [rowsD, tabN]; omega)]; rfl
theorem tab_len (N : Nat) (l : List Sl) (j : Nat) : ((rowsD (tabN N l)).getD j []).length ≤ l.length := by
  by_cases hj : j < N
  · rw [tab_get hj, List.length_map, List.length_map]; exact List.length_filter_le _ _
  · rw [tab_out (by omega)]; simp
theorem tab_next {N : Nat} {l : List Sl} {k tn : Nat} {x : Sl} (hx : l[k]? = some x) (ht : IsI x.t tn) (hN : tn < N) (j : Nat) : (rowsD (tabN N (l.take (k + 1)))).getD j [] = if j = tn then (rowsD (tabN N (l.take k))).getD tn [] ++ [I x.bh] else (rowsD (tabN N (l.take k))).getD j [] := by
  have htk : l.take (k + 1) = l.take k ++ [x] := by rw [List.take_add_one, hx]; rfl
  have hte := ht.eq
  by_cases hj : j < N
  · rw [tab_get hj, htk, List.filter_append]
    by_cases e : j = tn
    · subst e
      rw [if_pos rfl, tab_get hj]; simp [hte]
    · rw [if_neg e, tab_get hj]
      have : ¬ (x.t = ((j : Nat) : Int)) := by omega
      simp [this]
  · rw [tab_out (by omega), if_neg (by omega), tab_out (by omega)]
theorem chkSP_okT {s : Sh} (hs : ShopOk s) {p : List Nat} (hp : PlanOk s p) {pl : List Int} (h : pl = p.map fun i : Nat => (i : Int)) : chkSP s pl = 0 := by
  have key : ∀ (rest p0 : List Nat), (∀ i ∈ rest, i < s.tasks.length) → (∀ i, i < s.tasks.length → (p0 ++ rest).count i ≤ (s.tasks.getD i default).works.length) → scanP s p0 (rest.map fun i : Nat => (i : Int)) = (0, p0 ++ rest) := by
    intro rest
    induction rest with
    | nil => intro p0 _ _; simp [scanP]
    | cons x rest ih =>
      intro p0 h1 h2
      have hx := h1 x List.mem_cons_self
      have hc := h2 x hx
      rw [List.count_append, List.count_cons_self] at hc
      rw [List.map_cons, scanP, if_neg (fun h => h ⟨by omega, by omega⟩), Int.toNat_natCast, if_neg (by omega)]
      rw [ih (p0 ++ [x]) (fun i hi => h1 i (List.mem_cons_of_mem _ hi)) (fun i hi => by rw [List.append_assoc]; exact h2 i hi)]
      simp
  have h1 := key p [] hp.lt (fun i hi => by rw [List.nil_append, hp.cnt i hi]; exact Nat.le_refl _)
  rw [chkSP, if_neg (fun h => h hs.chk), chkP, h, h1]
  rw [if_neg (by simp), if_neg (by have := hp.len; simp; omega)]

set_option maxRecDepth 20000 in
set_option maxHeartbeats 8000000 in
theorem kTableOf (s : Sh) (hs : ShopOk s) (p : List Nat) (hp : PlanOk s p) (TL PL : List D) (hT : TL = s.tasks.map taskD) (hP : PL = planL p) (Q) (hq : ∀ BL, BL = (tabS s p).map (fun l => .sl 1 (l.map I)) → Q (RA.ret (.sl 1 BL)) []) :
    CallA Tryd.prog 21 [.agg [I s.benches, .sl 3 TL], .sl 1 PL] [] Q := by
  obtain ⟨A, hA⟩ : ∃ A, A = ar := ⟨_, rfl⟩
  have hv := chkS_val hs.chk
  obtain ⟨N, hN⟩ : ∃ N, N = s.tasks.length := ⟨_, rfl⟩
  have hTl : TL.length = N := by rw [hT, hN]; simp
  have hN4 : N ≤ 4 := by rw [hN]; exact hv.len
  obtain ⟨n0, hn0'⟩ : ∃ n0, n0 = A.tn (A.oi (A.len TL)) := ⟨_, rfl⟩
  have hn0N : n0 = N := by rw [hn0', yoiL hA hTl]; subst hA; rfl
  have hrm2 : A.room (A.tn (A.oi (A.len TL))) 24 := by rw [← hn0', hn0N]; exact yroomN hA (by omega) (by decide)
  have hnn : A.nneg (A.oi (A.len TL)) := by subst hA; exact Int.natCast_nonneg _
  obtain ⟨pl, hpl⟩ : ∃ pl : List Int, pl = p.map (fun i : Nat => (i : Int)) := ⟨_, rfl⟩
  obtain ⟨l, hl⟩ : ∃ l, l = runS s (fun _ => 0) p := ⟨_, rfl⟩
  obtain ⟨M, hM⟩ : ∃ M, M = l.length := ⟨_, rfl⟩
  have hlt : ∀ x ∈ l, ∃ tn : Nat, IsI x.t tn ∧ LtN tn N := by
    rw [hN, hl]
    intro x hx
    have := (runS_t hv hp.le (by rw [hp.len]; exact hv.sum) x hx).1
    exact ⟨x.t.toNat, ⟨by omega⟩, ⟨by omega⟩⟩
  refine callA_startF tokT hA [] Tryd.func21 rfl rfl rfl rfl rfl fun S hS => ?_
  cbv
  refine ⟨hnn, hrm2, ?_⟩
  refine ops_call hS [.agg [I s.benches, .sl 3 TL], .sl 1 PL] [] [] rfl rfl rfl rfl rfl rfl rfl rfl (by decide) trivial (rRunPlan s hs p hp pl hpl (chkSP_okT hs hp hpl) TL PL hT hP _ fun RL hRL => ?_)
  rw [← hl] at hRL
  have hRl : RL.length = M := by rw [hRL, hM]; simp
  have hM8 : M ≤ 8 := by rw [hM, hl, runS_length, hp.len]; exact hv.sum
  have hp8 : p.length ≤ 8 := by rw [hp.len]; exact hv.sum
  have hE0 : A.rep (A.tn (A.oi (A.len TL))) (.v (.slice none 0 0)) = gridE (List.replicate N nilS) (List.replicate N []) 0 := by
    rw [gridE_rep, ← hn0', hn0N]; subst hA; rfl
  have hR0 : List.replicate N ([] : List D) = rowsD (tabN N (l.take 0)) := by
    refine List.ext_getElem? fun j => ?_
    by_cases hj : j < N
    · simp [rowsD, tabN, hj]
    · rw [List.getElem?_eq_none (by simp; omega), List.getElem?_eq_none (by simp [rowsD, tabN]; omega)]
  rw [hR0] at hE0
  have hok0 : GridOk (List.replicate N nilS) (rowsD (tabN N (l.take 0))) := by rw [← hR0]; exact gridOk_rep
  have hgn0 : ∀ (j : Nat) (e : Value) (row : List D), (gridN (List.replicate N nilS) (rowsD (tabN N (l.take 0))) 0)[j]? ≠ some (e, some row) := by rw [← hR0]; exact fun j e row => gridN_none
  refine ops_go tokT hA hS ?_
  cbv
  refine at_code hS ?_
  refine wpa_loopG (α := Int × Nat × List Value) (fun q => { env := [(5, .o 1 1 N), (6, .sl 7 RL), (8, I q.1)], H := [.box (.agg [I s.benches, .sl 3 TL]), .els 1 (gridE q.2.2 (rowsD (tabN N (l.take q.2.1))) 0), .ob (.gr 1 (gridN q.2.2 (rowsD (tabN N (l.take q.2.1))) 0))], nt := 49, dfs := [] })
    (fun q => M - q.2.1) (fun q => IsI q.1 q.2.1 ∧ q.2.1 ≤ M ∧ q.2.2.length = N ∧ GridOk q.2.2 (rowsD (tabN N (l.take q.2.1)))) (0, 0, List.replicate N nilS) ⟨⟨rfl⟩, Nat.zero_le _, List.length_replicate, hok0⟩ ?_ ?_
  · refine gs_elsE 1 rfl hE0 ?_
    refine gs_grNewN 1 (gridN (List.replicate N nilS) (rowsD (tabN N (l.take 0))) 0) hgn0 ?_
    exact gs_to [0, 1, 2] ⟨by decide, pre0, ⟨rfl, rfl, rfl, trivial⟩, ⟨by rw [← hn0N, hn0']; rfl, rfl, rfl, trivial⟩, rfl, rfl⟩
  rintro ⟨i, k, xs⟩ ⟨u1, u2, u3, u4⟩
  dsimp only at u1 u2 u3 u4
  have hmk1 : A.cmp .lss i (A.oi (A.len RL)) = false → M ≤ k := fun h => ynltL hA hRl u1 h
  have hmk2 : A.cmp .lss i (A.oi (A.len RL)) = true → k < M := fun h => yltL hA hRl u1 h
  by_cases hk : k < M
  · obtain ⟨x, hx⟩ : ∃ x, l[k]? = some x := ⟨_, List.getElem?_eq_getElem (by omega)⟩
    obtain ⟨tn, htn, ⟨htN⟩⟩ := hlt x (List.mem_of_getElem? hx)
    obtain ⟨rows, hrows⟩ : ∃ rows, rows = rowsD (tabN N (l.take k)) := ⟨_, rfl⟩
    obtain ⟨rows', hrows'⟩ : ∃ rows', rows' = rowsD (tabN N (l.take (k + 1))) := ⟨_, rfl⟩
    obtain ⟨r, hr⟩ : ∃ r, r = rows.getD tn [] := ⟨_, rfl⟩
    obtain ⟨n, hn⟩ : ∃ n, n = r.length := ⟨_, rfl⟩
    have hstep : ∀ j, rows'.getD j [] = if j = tn then r ++ [I x.bh] else rows.getD j [] := fun j => by
      rw [hrows', hr, hrows, tab_next hx htn htN]
    have hn8 : n ≤ 8 := by
      rw [hn, hr, hrows]; exact Nat.le_trans (tab_len _ _ _) (by rw [List.length_take]; omega)
    have hRk : RL[k]? = some (.agg [I x.t, I x.k, I x.b, I x.bl, I x.bh, I x.el, I x.eh]) := by rw [hRL]; simp [hx, slotD]
    have i1 := yinbL hA hRl u1 hk
    have g1 := yget hA u1 hRk
    have hf1 := yfit1 hA u1 (by omega)
    have hu1 := ysucc hA u1
    have hms : M - (k + 1) < M - k := by omega
    obtain ⟨es, hes⟩ : ∃ es, es = (gridE xs rows 0).set tn (.o 3 1 n) := ⟨_, rfl⟩
    obtain ⟨gn, hgn⟩ : ∃ gn, gn = (gridN xs rows 0).set tn (xs.getD tn nilS, none) := ⟨_, rfl⟩
    have hel : es.length = N := by rw [hes, List.length_set, gridE_len, u3]
    have het : es[tn]? = some (.o 3 1 n) := by rw [hes, List.getElem?_set_self (by rw [gridE_len, u3]; exact htN)]
    have i2 := yinb hA htn htN
    have g2 := yget hA htn het
    have hroom : A.room (A.addN n 1) 8 := by rw [xaddN hA]; exact yroomN hA (by omega) (by decide)
    rw [← hrows] at u4 ⊢
    refine wpa_gs (grid_take u4 (by rw [u3]; exact htN) (Nat.zero_le _) hr ?_)
    rw [← hn, ← hes, ← hgn]
    refine gs_done ?_
    refine wp_goF tokT hA hS [] ?_
    cbv
    refine bm (fun _ => ?_) (fun c => absurd (hmk1 c) (by omega))
    cbv
    refine draw_go tokT hA hS [0, 1, 2, 3, 4, 5, 6, 7, 8, 9, 10, 11, 12, 13, 14, 15, 16, 17, 18, 19, 20, 21, 22, 23] rfl rfl fun Dk hD => ?_
    cbv
    refine ⟨i1, ⟨_, g1, ?_⟩⟩
    cbv
    refine ⟨i1, ⟨_, g1, ?_⟩⟩
    cbv
    refine ⟨i2, ⟨_, g2, ?_⟩⟩
    cbv
    refine ⟨i1, ⟨_, g1, ?_⟩⟩
    cbv
    have en : A.eqN n (A.len r) := xeqN hA (by rw [xlen hA, hn])
    refine ⟨en, yeqLen hA rfl, hroom, (by repeat' (first | exact trivial | exact Need.mk ⟨_, g1, rfl⟩ | exact Need.mk ⟨_, g2, rfl⟩ | refine ⟨?_, ?_⟩)), ?_⟩
    refine ⟨i2, ⟨_, g2, ?_⟩⟩
    cbv
    refine ⟨hf1, ?_⟩
    obtain ⟨r', hr'⟩ : ∃ r', r' = A.app r [I x.bh] := ⟨_, rfl⟩
    have hr2 : r' = r ++ [I x.bh] := by rw [hr', xapp hA]
    have hrl : r'.length = A.addN n 1 := by rw [hr2, xaddN hA, hn]; simp
    have hfr' : FrL r' := by rw [hr2, hr]; exact (u4.fr tn).app ⟨fun d hd => by rw [List.mem_singleton.1 hd]; rfl⟩
    have hes2 : A.set es (A.tn x.t) (.o 5 1 (A.addN n 1)) = (gridE xs rows 0).set tn (.o 5 1 r'.length) := by
      rw [yset hA htn rfl, hes, List.set_set, hrl]
    rw [← hr2] at hstep
    refine gs_elsE 5 rfl hr'.symm ?_
    refine grid_put (sl := 5) (n0 := N) u4 (by rw [u3]; exact htN) rfl (by rw [hr2]; simp) hfr' hstep hes2 hgn fun xs' hok' hl' => ?_
    rw [hrows'] at hok'
    refine gs_loop (A.add i 1, k + 1, xs') [0, 1, 2] ⟨hu1, hk, hl'.trans u3, hok'⟩ hms ?_
    exact ⟨by decide, pre0, ⟨rfl, by rw [hrows']; rfl, by rw [hrows']; rfl, trivial⟩, ⟨rfl, rfl, rfl, trivial⟩, rfl, rfl⟩
  · have hkM : k = M := by omega
    obtain ⟨rows, hrows⟩ : ∃ rows, rows = rowsD (tabN N (l.take k)) := ⟨_, rfl⟩
    rw [← hrows] at u4 ⊢
    obtain ⟨BL, hBL⟩ : ∃ BL : List D, BL = (List.range N).map fun j => .sl 1 (rows.getD j []) := ⟨_, rfl⟩
    have hBE : BL = (tabS s p).map (fun l => .sl 1 (l.map I)) := by
      rw [hBL, tabS, ← hN, ← hl]
      have e : l.take k = l := List.take_of_length_le (by omega)
      rw [hrows, e]
      refine List.ext_getElem? fun j => ?_
      by_cases hj : j < N
      · rw [List.getElem?_map, List.getElem?_range hj, Option.map_some, tab_get hj]; simp [tabN, hj]
      · rw [List.getElem?_eq_none (by simp; omega), List.getElem?_eq_none (by simp [tabN]; omega)]
    have hBl : BL.length = N := by rw [hBL]; simp
    have hq' := hq BL hBE
    refine wpa_gs (grid_melt (nd := N) u4 u3 (fun es bg => ⟨by decide, pre0, ⟨rfl, rfl, rfl, trivial⟩, ⟨rfl, rfl, rfl, trivial⟩, rfl, rfl⟩) ?_)
    rw [← hBL]
    refine gs_done ?_
    refine wp_goF tokT hA hS [] ?_
    cbv
    refine bm (fun c => absurd (hmk2 c) hk) (fun _ => ?_)
    cbv
    refine gs_done ?_
    cbv
    refine gh_frz [1] ?_
    cbv
    exact ⟨by cases BL <;> exact hBl.symm, gh_view [] (by decide) pre0 (H' := []) (d' := .sl 1 BL) trivial rfl (gh_done hq')⟩
end Go.Proofs.YtmloogdalecilaaDoor

/-! D70 -/
namespace Go.Proofs.YtmloogdalecilaaDoor
open Go Go.Abs Go.Proofs

theorem rows_next {tb : List (List Int)} {k : Nat} {l : List Int} (hl : tb[k]? = some l) (j : Nat) : (rowsD (tb.take (k + 1))).getD j [] = if j = k then l.map I else (rowsD (tb.take k)).getD j [] := by
  have htk : tb.take (k + 1) = tb.take k ++ [l] := by rw [List.take_add_one, hl]; rfl
  have hk : k < tb.length := (List.getElem?_eq_some_iff.1 hl).1
  rw [htk, rowsD, List.map_append, List.getD_eq_getElem?_getD]
  have hlen : ((tb.take k).map fun r => r.map I).length = k := by simp; omega
  by_cases e : j = k
  · rw [if_pos e, List.getElem?_append_right (by omega), hlen, e]; simp
  · rw [if_neg e]
    by_cases h2 : j < k
    · rw [List.getElem?_append_left (by omega), List.getD_eq_getElem?_getD]; rfl
    · rw [List.getElem?_append_right (by omega), hlen, List.getElem?_eq_none (by simp; omega), List.getD_eq_getElem?_getD, List.getElem?_eq_none (by simp [rowsD]; omega)]

set_option maxRecDepth 20000 in
set_option maxHeartbeats 8000000 in
theorem kListsGrid (tb : List (List Int)) (hb : TbOk tb) (hne : ∀ l ∈ tb, l ≠ []) (BL : List D) (hB : BL = tb.map fun l => .sl 1 (l.map I)) (N : Nat) (hN : N = tb.length) (Q)
    (hq : ∀ xs, GridOk xs (rowsD tb) → xs.length = N → Q (RA.ret (.o 0 1 N)) [.els 1 (gridE xs (rowsD tb) 0), .ob (.gr 1 (gridN xs (rowsD tb) 0))]) : CallA Tryd.prog 23 [.sl 1 BL] [] Q := by
  obtain ⟨A, hA⟩ : ∃ A, A = ar := ⟨_, rfl⟩
  have hN20 : N ≤ 20 := by rw [hN]; exact hb.len
  have hBl : BL.length = N := by rw [hB, hN]; simp
  have hok0 : GridOk [] (rowsD (tb.take 0)) := ⟨fun j hj => by simp at hj, fun j => by simp [rowsD]; exact .nil⟩
  refine callA_startF tokT hA [] Tryd.func23 rfl rfl rfl rfl rfl fun S hS => ?_
  cbv
  refine at_code hS ?_
  refine wpa_loopG (α := Int × Nat × List Value) (fun q => { env := [(0, .sl 1 BL), (3, .o 0 1 q.2.1), (4, I q.1)], H := [.els 1 (gridE q.2.2 (rowsD (tb.take q.2.1)) 0), .ob (.gr 1 (gridN q.2.2 (rowsD (tb.take q.2.1)) 0))], nt := 20, dfs := [] })
    (fun q => N - q.2.1) (fun q => IsI q.1 q.2.1 ∧ q.2.1 ≤ N ∧ q.2.2.length = q.2.1 ∧ GridOk q.2.2 (rowsD (tb.take q.2.1))) (0, 0, []) ⟨⟨rfl⟩, Nat.zero_le _, rfl, hok0⟩ ?_ ?_
  · refine gs_virt 3 1 rfl ?_
    refine gs_grNewN 1 [] (fun j e row h => by simp at h) ?_
    exact gs_to [0, 1] ⟨by decide, pre0, ⟨rfl, rfl, trivial⟩, ⟨rfl, rfl, rfl, trivial⟩, rfl, rfl⟩
  rintro ⟨i, k, xs⟩ ⟨u1, u2, u3, u4⟩
  dsimp only at u1 u2 u3 u4
  have hmk1 : A.cmp .lss i (A.oi (A.len BL)) = false → N ≤ k := fun h => ynltL hA hBl u1 h
  have hmk2 : A.cmp .lss i (A.oi (A.len BL)) = true → k < N := fun h => yltL hA hBl u1 h
  by_cases hk : k < N
  · obtain ⟨l, hl⟩ : ∃ l, tb[k]? = some l := ⟨_, List.getElem?_eq_getElem (by omega)⟩
    obtain ⟨r, hr⟩ : ∃ r, r = l.map I := ⟨_, rfl⟩
    have hr20 : r.length ≤ 20 := by rw [hr, List.length_map]; exact hb.row l (List.mem_of_getElem? hl)
    have hr0 : 0 < r.length := by rw [hr, List.length_map]; exact List.length_pos_iff.2 (hne l (List.mem_of_getElem? hl))
    have hBk : BL[k]? = some (.sl 1 r) := by rw [hB, List.getElem?_map, hl, hr]; rfl
    have hfr : FrL r := by rw [hr]; exact ⟨fun d hd => by obtain ⟨x, -, rfl⟩ := List.mem_map.1 hd; rfl⟩
    obtain ⟨rows, hrows⟩ : ∃ rows, rows = rowsD (tb.take k) := ⟨_, rfl⟩
    obtain ⟨rows', hrows'⟩ : ∃ rows', rows' = rowsD (tb.take (k + 1)) := ⟨_, rfl⟩
    have hstep : ∀ j, rows'.getD j [] = if j = k then r else rows.getD j [] := fun j => by rw [hrows', hrows, hr]; exact rows_next hl j
    have i1 := yinbL hA hBl u1 hk
    have g1 := yget hA u1 hBk
    have hf1 := yfit1 hA u1 (by omega)
    have hu1 := ysucc hA u1
    have hms : N - (k + 1) < N - k := by omega
    rw [← hrows] at u4 ⊢
    obtain ⟨es, hes⟩ : ∃ es, es = gridE xs rows 0 := ⟨_, rfl⟩
    obtain ⟨gn, hgn⟩ : ∃ gn, gn = gridN xs rows 0 := ⟨_, rfl⟩
    have hel : es.length = k := by rw [hes, gridE_len, u3]
    have hgl : gn.length = k := by rw [hgn, gridN_len, u3]
    rw [← hes, ← hgn]
    have hroom : A.room (A.addN k 1) 24 := by rw [xaddN hA]; exact yroomN hA (by omega) (by decide)
    refine wp_goF tokT hA hS [] ?_
    cbv
    refine bm (fun _ => ?_) (fun c => absurd (hmk1 c) (by omega))
    cbv
    refine ⟨i1, ⟨_, g1, ?_⟩⟩
    cbv
    refine ops_call hS [.sl 1 r] [] [] rfl rfl rfl rfl rfl rfl rfl rfl (by decide) trivial (ints r (by omega) _ fun n hn => ?_)
    refine opsA_gs (gs_grPutS (ents := gn) (row := r) 1 2 k 16 hn rfl rfl rfl (Nat.le_of_eq hgl.symm) (fun e row' he => by rw [List.getElem?_eq_none (Nat.le_of_eq hgl)] at he; cases he) hr0 fun x hx1 => ?_)
    have hap := grid_app (x := x) u4 u3 hr0 hfr hstep
    rw [← hes, ← hgn] at hap
    obtain ⟨hap1, hap2, hap3⟩ := hap
    obtain ⟨gn2, hgn2⟩ : ∃ gn2, gn2 = gridN (xs ++ [x]) rows' 0 := ⟨_, rfl⟩
    rw [← hgn2] at hap2
    refine gs_blkE 1 rfl (congrArg (fun g => Blk.ob (.gr 1 g)) hap2) (gs_done ?_)
    have hnx1 : A.app es [.v x] = gridE (xs ++ [x]) rows' 0 := by rw [xapp hA]; exact hap1
    rw [hrows'] at hap3
    have hxl : (xs ++ [x]).length = k + 1 := by rw [List.length_append, u3]; rfl
    have en : A.eqN k (A.len es) := xeqN hA (by rw [xlen hA, hel])
    have ekk : A.addN k 1 = k + 1 := xaddN hA _ _
    refine ops_go tokT hA hS ?_
    cbv
    refine ⟨en, yeqLen hA rfl, hroom, hf1, ?_⟩
    refine gs_loop (A.add i 1, k + 1, xs ++ [x]) [4, 1] ⟨hu1, hk, hxl, hap3⟩ hms ?_
    exact ⟨by decide, pre0, ⟨by rw [← hrows', ← hnx1]; rfl, by rw [← hrows', ← hgn2]; rfl, trivial⟩, ⟨rfl, by rw [← ekk]; rfl, rfl, trivial⟩, rfl, rfl⟩
  · have hkN : k = N := by omega
    have htk : tb.take k = tb := List.take_of_length_le (by omega)
    rw [htk] at u4 ⊢
    have hq' := hq xs u4 (by rw [u3, hkN])
    rw [← hkN] at hq'
    obtain ⟨es, hes⟩ : ∃ es, es = gridE xs (rowsD tb) 0 := ⟨_, rfl⟩
    obtain ⟨gn, hgn⟩ : ∃ gn, gn = gridN xs (rowsD tb) 0 := ⟨_, rfl⟩
    rw [← hes, ← hgn] at hq' ⊢
    refine wp_goF tokT hA hS [] ?_
    cbv
    refine bm (fun c => absurd (hmk2 c) hk) (fun _ => ?_)
    cbv
    refine gs_done ?_
    cbv
    exact gh_view [0, 1] (by decide) pre0 (H' := [.els 1 es, .ob (.gr 1 gn)]) (d' := .o 0 1 k) ⟨rfl, rfl, trivial⟩ rfl (gh_done hq')
end Go.Proofs.YtmloogdalecilaaDoor

/-! D71 -/
namespace Go.Proofs.YtmloogdalecilaaDoor
open Go Go.Abs Go.Proofs

set_option maxRecDepth 20000 in
set_option maxHeartbeats 4000000 in
/-- SameLists, of lists and themselves. -/
theorem kSameLists (tb : List (List Int)) (hb : TbOk tb) (BL : List D) (hB : BL = tb.map fun l => .sl 1 (l.map I)) (Q) (hq : Q (RA.ret (.v (.bool true))) []) : CallA Tryd.prog 29 [.sl 1 BL, .sl 1 BL] [] Q := by
  obtain ⟨A, hA⟩ : ∃ A, A = ar := ⟨_, rfl⟩
  obtain ⟨N, hN⟩ : ∃ N, N = tb.length := ⟨_, rfl⟩
  have hN20 : N ≤ 20 := by rw [hN]; exact hb.len
  have hBl : BL.length = N := by rw [hB, hN]; simp
  have e0 := yeqT hA (A.oi (A.len BL))
  refine callA_startF tokT hA [] Tryd.func29 rfl rfl rfl rfl rfl fun S hS => ?_
  cbv
  refine at_code hS ?_
  refine wpa_loopG (α := Int × Nat) (fun q => { env := [(0, .sl 1 BL), (1, .sl 1 BL), (5, .v (.bool true)), (6, I q.1)], H := [], nt := 31, dfs := [] })
    (fun q => N - q.2) (fun q => q.2 ≤ N ∧ IsI q.1 q.2) (0, 0) ⟨Nat.zero_le _, ⟨rfl⟩⟩ ?_ ?_
  · exact gs_to [] ⟨by decide, pre0, trivial, ⟨rfl, rfl, by rw [← e0]; rfl, rfl, trivial⟩, rfl, rfl⟩
  rintro ⟨i, k⟩ ⟨u1, u2⟩
  dsimp only at u1 u2
  refine wp_goF tokT hA hS [] ?_
  cbv
  refine bm (fun c => ?_) (fun c => ?_)
  · have hk : k < N := yltL hA hBl u2 c
    obtain ⟨l, hl⟩ : ∃ l, tb[k]? = some l := ⟨_, List.getElem?_eq_getElem (by omega)⟩
    have hl20 : l.length ≤ 1152921504606846976 := by have := hb.row l (List.mem_of_getElem? hl); omega
    obtain ⟨LL, hLL⟩ : ∃ LL, LL = l.map I := ⟨_, rfl⟩
    have hBk : BL[k]? = some (.sl 1 LL) := by rw [hB, List.getElem?_map, hl, hLL]; rfl
    have i1 := yinbL hA hBl u2 hk
    have g1 := yget hA u2 hBk
    have hf := yfit1 hA u2 (by omega)
    have hu2 := ysucc hA u2
    have hms : N - (k + 1) < N - k := by omega
    cbv
    refine draw_go tokT hA hS [0, 1, 2, 3, 4, 5, 6, 7, 8, 9] rfl rfl fun Dk hD => ?_
    cbv
    refine ⟨i1, ⟨_, g1, ?_⟩⟩
    cbv
    refine ⟨i1, ⟨_, g1, ?_⟩⟩
    cbv
    refine draw_call hA hD [.sl 1 LL, .sl 1 LL] [] [] rfl rfl rfl rfl rfl rfl rfl rfl rfl rfl rfl (by decide) trivial (kSameInts l l LL LL hLL hLL hl20 true (decide_eq_true rfl).symm _ ⟨by cbv; repeat' (first | exact trivial | exact Need.mk ⟨_, g1, rfl⟩ | refine ⟨?_, ?_⟩), draw_on tokT hA hD ?_⟩)
    cbv
    refine ⟨hf, ?_⟩
    refine gs_loop (A.add i 1, k + 1) [] ⟨hk, hu2⟩ hms ?_
    exact ⟨by decide, pre0, trivial, ⟨rfl, rfl, rfl, rfl, trivial⟩, rfl, rfl⟩
  · cbv
    refine gs_done ?_
    cbv
    exact gh_view [] (by decide) pre0 (H' := []) (d' := .v (.bool true)) trivial rfl (gh_done hq)

/-- Each order has as many slots as works in the plan. -/
theorem tabS_row {s : Sh} {p : List Nat} {i : Nat} (hi : i < s.tasks.length) : ∃ l, (tabS s p)[i]? = some l ∧ l.length = p.count i := by
  refine ⟨_, by rw [tabS, tabN, List.getElem?_map, List.getElem?_range hi]; rfl, ?_⟩
  rw [List.length_map, ← List.countP_eq_length_filter]
  have e1 : (runS s (fun _ => 0) p).map (·.t) = p.map fun i : Nat => (i : Int) := by
    refine List.ext_getElem? fun n => ?_
    by_cases hn : n < p.length
    · simp [runS, hn, List.getD_eq_getElem?_getD]
    · rw [List.getElem?_eq_none (by simp [runS]; omega), List.getElem?_eq_none (by simp; omega)]
  have e2 : (runS s (fun _ => 0) p).countP (fun x => decide (x.t = ((i : Nat) : Int))) = ((runS s (fun _ => 0) p).map (·.t)).countP fun t => decide (t = ((i : Nat) : Int)) := by
    rw [List.countP_map]; rfl
  rw [e2, e1, List.countP_map, List.count_eq_countP]
  refine List.countP_congr fun x _ => ?_
  simp [Function.comp]
  omega

theorem tabS_ok {s : Sh} (hs : ShopOk s) {p : List Nat} (hp : PlanOk s p) : TbOk (tabS s p) ∧ ∀ l ∈ tabS s p, l ≠ [] := by
  have hv := chkS_val hs.chk
  have hlen : (tabS s p).length = s.tasks.length := by simp [tabS, tabN]
  have key : ∀ l ∈ tabS s p, ∃ i, i < s.tasks.length ∧ l.length = p.count i := fun l hl => by
    obtain ⟨i, hi⟩ := List.mem_iff_getElem?.1 hl
    have hil : i < s.tasks.length := by rw [← hlen]; exact (List.getElem?_eq_some_iff.1 hi).1
    obtain ⟨l', h1, h2⟩ := tabS_row (p := p) hil
    rw [hi] at h1; cases h1
    exact ⟨i, hil, h2⟩
  refine ⟨⟨by rw [hlen]; have := hv.len; omega, fun l hl => ?_⟩, fun l hl e => ?_⟩
  · obtain ⟨i, hi, h2⟩ := key l hl
    have h3 := List.count_le_length (a := i) (l := p)
    have h4 := hp.len
    have h5 := hv.sum
    omega
  · obtain ⟨i, hi, h2⟩ := key l hl
    have h3 := hp.cnt i hi
    rw [e] at h2
    have h4 := hv.ne (s.tasks.getD i default) (by rw [List.getD_eq_getElem?_getD, List.getElem?_eq_getElem hi]; exact List.getElem_mem hi)
    apply h4
    apply List.length_eq_zero_iff.1
    rw [← h3, ← h2]; rfl
end Go.Proofs.YtmloogdalecilaaDoor
