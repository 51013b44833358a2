/- Part TabD of the proofs about the benches of the accordion maker: see the last text of the claim for what is proved. -/
import Derived.Test.YtmloogdalecilaaDoorTabC
import Derived.Test.YtmloogdalecilaaDoorTurnA
set_option linter.unusedVariables false
set_option linter.unusedSimpArgs false
set_option linter.unnecessarySimpa false
set_option linter.constructorNameAsVariable false

/-! D72 -/
namespace Go.Proofs.YtmloogdalecilaaDoor
open Go Go.Abs Go.Proofs

theorem ynz8 {A : Ar} (hA : A = ar) : A.nz 8 := by subst hA; show (8 : Int) ≠ 0; decide

theorem yfitq {A : Ar} (hA : A = ar) {x : Int} (h : -9223372036854775808 ≤ x ∧ x ≤ 9223372036854775807) : A.fits .i64 (A.quo x 8) := by
  subst hA
  have e : (x.tdiv 8).natAbs = x.natAbs / 8 := by rw [Int.natAbs_tdiv]; rfl
  have h2 : x.natAbs ≤ 9223372036854775808 := by omega
  exact fits64 (n := x.tdiv 8) (by omega)

theorem rows_set {tb : List (List Int)} {j : Nat} (hj : j < tb.length) (r : List Int) (i : Nat) : (rowsD (tb.set j r)).getD i [] = if i = j then r.map I else (rowsD tb).getD i [] := by
  rw [rowsD, List.getD_eq_getElem?_getD, List.getElem?_map, List.getElem?_set]
  by_cases e : j = i
  · subst e; rw [if_pos rfl, if_pos hj, if_pos rfl]; rfl
  · rw [if_neg e, if_neg (fun h => e h.symm), rowsD, List.getD_eq_getElem?_getD, List.getElem?_map]

theorem rows_all (tb : List (List Int)) {N : Nat} (hN : N = tb.length) : ((List.range N).map fun j => D.sl 1 ((rowsD tb).getD j [])) = tb.map fun l => .sl 1 (l.map I) := by
  refine List.ext_getElem? fun j => ?_
  by_cases hj : j < N
  · rw [List.getElem?_map, List.getElem?_range hj, Option.map_some, rowsD, List.getD_eq_getElem?_getD, List.getElem?_map, List.getElem?_map, List.getElem?_eq_getElem (by omega)]; rfl
  · rw [List.getElem?_eq_none (by simp; omega), List.getElem?_eq_none (by simp; omega)]

set_option maxRecDepth 20000 in
set_option maxHeartbeats 16000000 in
/-- BenchTables. -/
theorem wBenchTables (s : Sh) (hs : Fin s) (TL : List D) (hT : TL = s.tasks.map taskD) (tb0 : List (List Int)) (hb0 : tb0.length ≤ 1152921504606846976 ∧ ∀ l ∈ tb0, l.length ≤ 1152921504606846976) (BL : List D) (hB : BL = tb0.map fun l => .sl 1 (l.map I)) (at_ by_ : Int) (hat : -9223372036854775808 ≤ at_ ∧ at_ ≤ 9223372036854775807) (L : List D) (nums : List Int) (hL : L = nums.map I) (hl : L.length ≤ 9223372036854775807) (Q) (hq : Q (RA.ret (.v (.bool true))) []) :
    CallA Tryd.prog 3 [.agg [I s.benches, .sl 3 TL], .sl 1 BL, I at_, I by_, .sl 1 L] [] Q := by
  obtain ⟨A, hA⟩ : ∃ A, A = ar := ⟨_, rfl⟩
  have hbn : A.bnot true = false := by subst hA; rfl
  have hfq : A.fits .i64 (A.quo at_ 8) := yfitq hA hat
  obtain ⟨N0, hN0⟩ : ∃ N0, N0 = tb0.length := ⟨_, rfl⟩
  have hBl : BL.length = N0 := by rw [hB, hN0]; simp
  refine callA_startF tokT hA [16] Tryd.func3 rfl rfl rfl rfl rfl fun S hS => ?_
  cbv
  refine ops_call hS [.agg [I s.benches, .sl 3 TL]] [] [] rfl rfl rfl rfl rfl rfl rfl rfl (by decide) trivial (kBig s hs TL hT _ ?_ fun hnb => ?_)
  · refine ops_go tokT hA hS ?_
    cbv
    refine ops_call hS [] [] [] rfl rfl rfl rfl rfl rfl rfl rfl (by decide) trivial (filing _ ?_)
    refine ops_go tokT hA hS ?_
    cbv
    exact gh_view [] (by decide) pre0 (H' := []) (d' := .v (.bool true)) trivial rfl (gh_done hq)
  refine ops_go tokT hA hS ?_
  cbv
  refine bm (fun c => ?_) (fun c => ?_)
  · cbv
    refine ops_call hS [] [] [] rfl rfl rfl rfl rfl rfl rfl rfl (by decide) trivial (filing _ ?_)
    refine ops_go tokT hA hS ?_
    cbv
    exact gh_view [] (by decide) pre0 (H' := []) (d' := .v (.bool true)) trivial rfl (gh_done hq)
  have hN20 : N0 ≤ 20 := by
    have h : A.oi (A.len BL) ≤ 20 := xngt hA c
    rw [yoiL hA hBl] at h; omega
  cbv
  refine at_code hS ?_
  refine wpa_loopG (α := Int × Nat) (fun q => { env := [(1, .sl 1 BL), (2, I at_), (3, I by_), (4, .sl 1 L), (5, .b 0 0), (11, I q.1)], H := [.box (.agg [I s.benches, .sl 3 TL])], nt := 159, dfs := [] })
    (fun q => N0 - q.2) (fun q => q.2 ≤ N0 ∧ IsI q.1 q.2 ∧ ∀ j l, j < q.2 → tb0[j]? = some l → l.length ≤ 20) (0, 0) ⟨Nat.zero_le _, ⟨rfl⟩, fun j l h => absurd h (Nat.not_lt_zero j)⟩ ?_ ?_
  · exact gs_to [0] ⟨by decide, pre0, ⟨rfl, trivial⟩, ⟨rfl, rfl, rfl, rfl, rfl, rfl, trivial⟩, rfl, rfl⟩
  rintro ⟨i, k⟩ ⟨u1, u2, u3⟩
  dsimp only at u1 u2 u3
  refine wp_goF tokT hA hS [16] ?_
  cbv
  refine bm (fun c => ?_) (fun c => ?_)
  · have hk : k < N0 := yltL hA hBl u2 c
    obtain ⟨l, hlk⟩ : ∃ l, tb0[k]? = some l := ⟨_, List.getElem?_eq_getElem (by omega)⟩
    obtain ⟨LL, hLL⟩ : ∃ LL, LL = l.map I := ⟨_, rfl⟩
    have hLl : LL.length = l.length := by rw [hLL]; simp
    have hBk : BL[k]? = some (.sl 1 LL) := by rw [hB, List.getElem?_map, hlk, hLL]; rfl
    have i1 := yinbL hA hBl u2 hk
    have g1 := yget hA u2 hBk
    have hf := yfit1 hA u2 (by omega)
    have hu2 := ysucc hA u2
    have hms : N0 - (k + 1) < N0 - k := by omega
    have hnx : A.cmp .gtr (A.oi (A.len LL)) 20 = false → ∀ j l, j < k + 1 → tb0[j]? = some l → l.length ≤ 20 := fun h j l' hj hl' => by
      by_cases e : j = k
      · have h2 : A.oi (A.len LL) ≤ 20 := xngt hA h
        rw [yoiL hA hLl] at h2
        rw [e, hlk] at hl'; cases hl'; omega
      · exact u3 j l' (by omega) hl'
    cbv
    refine ⟨i1, ⟨_, g1, ?_⟩⟩
    cbv
    refine bm (fun c2 => ?_) (fun c2 => ?_)
    · cbv
      refine ops_call hS [] [] [] rfl rfl rfl rfl rfl rfl rfl rfl (by decide) trivial (filing _ ?_)
      refine ops_go tokT hA hS ?_
      cbv
      refine gs_done ?_
      cbv
      exact gh_view [] (by decide) pre0 (H' := []) (d' := .v (.bool true)) trivial rfl (gh_done hq)
    · have hx := hnx c2
      cbv
      refine ⟨hf, ?_⟩
      refine gs_loop (A.add i 1, k + 1) [0] ⟨hk, hu2, hx⟩ hms ?_
      exact ⟨by decide, pre0, ⟨rfl, trivial⟩, ⟨rfl, rfl, rfl, rfl, rfl, rfl, trivial⟩, rfl, rfl⟩
  have hkN : k = N0 := by have := ynltL hA hBl u2 c; omega
  have hTb0 : TbOk tb0 := ⟨by omega, fun l hl => by
    obtain ⟨j, hj⟩ := List.mem_iff_getElem?.1 hl
    exact u3 j l (by have := (List.getElem?_eq_some_iff.1 hj).1; omega) hj⟩
  cbv
  refine gs_done ?_
  cbv
  refine ops_call hS [.sl 1 L] [] [] rfl rfl rfl rfl rfl rfl rfl rfl (by decide) trivial (newPotL L nums hL hl _ fun x0 => ?_)
  refine ops_go tokT hA hS ?_
  cbv
  refine ops_call hS [.b 0 0, I 4, I 8] [1] [pot x0] rfl rfl rfl rfl rfl rfl rfl rfl (by decide) ⟨rfl, trivial⟩ (shopOf x0 4 8 (by decide) (by decide) _ fun m x1 hok => ?_)
  obtain ⟨hm1, hm2⟩ := okS_small hok (by decide) (by decide)
  have hmk : ShopOk m := okS_shop hok (by decide) (by decide)
  have hmv := chkS_val hmk.chk
  obtain ⟨ML, hM⟩ : ∃ ML, ML = m.tasks.map taskD := ⟨_, rfl⟩
  unfold shopD
  rw [← hM]
  refine ops_go tokT hA hS ?_
  cbv
  refine draw_go tokT hA hS [0, 1, 2, 3, 4, 5] rfl rfl fun Dk hD => ?_
  cbv
  refine draw_call hA hD [.b 0 0, .agg [I m.benches, .sl 3 ML]] [1] [pot x1] rfl rfl rfl rfl rfl rfl rfl rfl rfl rfl rfl (by decide) ⟨rfl, trivial⟩ (planOf x1 m (by have := hmv.sum; omega) (by have := hmv.len; omega) ML hM _ fun mp MP x2 hmp hMP => ⟨by cbv, draw_on tokT hA hD ?_⟩)
  cbv
  refine draw_call hA hD [.agg [I m.benches, .sl 3 ML], .sl 1 MP] [] [] rfl rfl rfl rfl rfl rfl rfl rfl rfl rfl rfl (by decide) trivial (kTableOf m hmk mp hmp ML MP hM hMP _ fun BL1 hB1 => ⟨by cbv, draw_on tokT hA hD ?_⟩)
  obtain ⟨tb1, htb1⟩ : ∃ tb1, tb1 = tabS m mp := ⟨_, rfl⟩
  obtain ⟨hTb1, hne1⟩ : TbOk tb1 ∧ ∀ l ∈ tb1, l ≠ [] := by rw [htb1]; exact tabS_ok hmk hmp
  rw [← htb1] at hB1
  obtain ⟨N1, hN1⟩ : ∃ N1, N1 = tb1.length := ⟨_, rfl⟩
  have hN120 : N1 ≤ 20 := by rw [hN1]; exact hTb1.len
  cbv
  refine ops_call hS [.sl 1 BL1] [] [] rfl rfl rfl rfl rfl rfl rfl rfl (by decide) trivial (kListsGrid tb1 hTb1 hne1 BL1 hB1 N1 hN1 _ fun xs hgo hxl => ?_)
  obtain ⟨es, hes⟩ : ∃ es, es = gridE xs (rowsD tb1) 0 := ⟨_, rfl⟩
  obtain ⟨gn, hgn⟩ : ∃ gn, gn = gridN xs (rowsD tb1) 0 := ⟨_, rfl⟩
  rw [← hes, ← hgn]
  have hel : es.length = N1 := by rw [hes, gridE_len, hxl]
  refine opsA_gs (gs_frz hA [0, 2] ?_)
  cbv
  refine gs_view (a := { env := [(1, .sl 1 BL), (2, I at_), (3, I by_), (5, .cb (.agg [I s.benches, .sl 3 TL]) 0), (13, .cb (.agg [I m.benches, .sl 3 ML]) 0), (14, .sl 1 BL1), (59, .o 1 1 N1)], H := [.box (.agg [U x2]), .els 1 es, .ob (.gr 1 gn)], nt := 159, dfs := [] }) [1, 3, 4] ⟨by decide, pre0, ⟨rfl, rfl, rfl, trivial⟩, ⟨rfl, rfl, rfl, rfl, rfl, rfl, rfl, trivial⟩, rfl, rfl⟩ (gs_done ?_)
  refine ops_go tokT hA hS ?_
  cbv
  refine' bm2 (S := S) (α := List D) (fun OL => { env := [(1, .sl 1 BL), (5, .cb (.agg [I s.benches, .sl 3 TL]) 0), (13, .cb (.agg [I m.benches, .sl 3 ML]) 0), (14, .sl 1 BL1), (15, .sl 1 OL)], H := [], nt := 159, dfs := [] }) (fun OL => ∃ tb2, OL = tb2.map (fun l => D.sl 1 (l.map I)) ∧ TbOk tb2) (fun rest c2 => ?h1) (fun rest c2 => ?h2) ?h3
  case h1 =>
    have hn0 : 0 < N1 := by have h : 0 < A.oi N1 := xgt hA c2; rw [xoi hA] at h; omega
    have hio : IsI (A.oi N1) N1 := ⟨xoi hA N1⟩
    cbv
    refine ops_call hS [I at_, I (A.oi N1)] [] [] rfl rfl rfl rfl rfl rfl rfl rfl (by decide) trivial (kTurn at_ (A.oi N1) N1 hio hn0 (by omega) _ fun ti tk hti htk => ?_)
    obtain ⟨l, hlk⟩ : ∃ l, tb1[tk]? = some l := ⟨_, List.getElem?_eq_getElem (by omega)⟩
    obtain ⟨r, hr⟩ : ∃ r, r = (rowsD tb1).getD tk [] := ⟨_, rfl⟩
    have hrl : r = l.map I := by rw [hr, rowsD, List.getD_eq_getElem?_getD, List.getElem?_map, hlk]; rfl
    obtain ⟨n, hn⟩ : ∃ n, n = r.length := ⟨_, rfl⟩
    have hnl : n = l.length := by rw [hn, hrl]; simp
    have hn20 : n ≤ 20 := by rw [hnl]; exact hTb1.row l (List.mem_of_getElem? hlk)
    have hn1 : 0 < n := by rw [hnl]; exact List.length_pos_iff.2 (hne1 l (List.mem_of_getElem? hlk))
    obtain ⟨es2, hes2⟩ : ∃ es2, es2 = (gridE xs (rowsD tb1) 0).set tk (.o 3 1 n) := ⟨_, rfl⟩
    obtain ⟨gn2, hgn2⟩ : ∃ gn2, gn2 = (gridN xs (rowsD tb1) 0).set tk (xs.getD tk nilS, none) := ⟨_, rfl⟩
    have hel2 : es2.length = N1 := by rw [hes2, List.length_set, gridE_len, hxl]
    have het : es2[tk]? = some (.o 3 1 n) := by rw [hes2, List.getElem?_set_self (by rw [gridE_len, hxl]; exact htk)]
    have i2 := yinb hA hti htk
    have g2 := yget hA hti het
    have hni : IsI (A.oi n) n := ⟨xoi hA n⟩
    have hng : A.cmp .gtr (A.oi n) 0 = true := xgtT3 hA (by rw [xoi hA]; omega)
    have hnz : A.nz 8 := ynz8 hA
    refine opsA_gs (gs_elsE 1 rfl hes (gs_blkE 2 rfl (congrArg (fun g => Blk.ob (.gr 1 g)) hgn) (grid_take hgo (by rw [hxl]; exact htk) (Nat.zero_le _) hr ?_)))
    rw [← hn, ← hes2, ← hgn2]
    refine gs_done ?_
    refine ops_go tokT hA hS ?_
    cbv
    refine ⟨i2, ⟨_, g2, ?_⟩⟩
    cbv
    refine bm (fun _ => ?_) (fun c => Bool.noConfusion (hng.symm.trans c))
    cbv
    refine ⟨hnz, hfq, ?_⟩
    refine ops_call hS [I (A.quo at_ 8), I (A.oi n)] [] [] rfl rfl rfl rfl rfl rfl rfl rfl (by decide) trivial (kTurn (A.quo at_ 8) (A.oi n) n hni hn1 (by omega) _ fun ci ck hci hck => ?_)
    obtain ⟨y, hy⟩ : ∃ y, l[ck]? = some y := ⟨_, List.getElem?_eq_getElem (by omega)⟩
    have hry : r[ck]? = some (I y) := by rw [hrl, List.getElem?_map, hy]; rfl
    have i3 := yinb hA hci hck
    have g3 := yget hA hci hry
    obtain ⟨l2, hl2⟩ : ∃ l2, l2 = l.set ck by_ := ⟨_, rfl⟩
    obtain ⟨r2, hr2⟩ : ∃ r2, r2 = l2.map I := ⟨_, rfl⟩
    have hset : A.set r (A.tn ci) (I by_) = r2 := by rw [yset hA hci rfl, hr2, hl2, hrl, List.map_set]
    have hr2n : r2.length = n := by rw [hr2, hl2, hnl]; simp
    have hfr2 : FrL r2 := by rw [hr2]; exact ⟨fun d hd => by obtain ⟨x, -, rfl⟩ := List.mem_map.1 hd; rfl⟩
    obtain ⟨tb2, htb2⟩ : ∃ tb2, tb2 = tb1.set tk l2 := ⟨_, rfl⟩
    have hTb2 : TbOk tb2 := by
      rw [htb2]
      refine ⟨by rw [List.length_set, ← hN1]; exact hN120, fun z hz => ?_⟩
      rcases List.mem_or_eq_of_mem_set hz with hz | rfl
      · exact hTb1.row z hz
      · rw [hl2, List.length_set, ← hnl]; exact hn20
    have hstep : ∀ j, (rowsD tb2).getD j [] = if j = tk then r2 else (rowsD tb1).getD j [] := fun j => by rw [htb2, hr2]; exact rows_set (by omega) l2 j
    have hN2 : N1 = tb2.length := by rw [htb2, List.length_set, hN1]
    obtain ⟨OL, hOL⟩ : ∃ OL, OL = (List.range N1).map fun j => D.sl 1 ((rowsD tb2).getD j []) := ⟨_, rfl⟩
    have hOL2 : OL = tb2.map fun l => .sl 1 (l.map I) := by rw [hOL]; exact rows_all tb2 hN2
    have hOl : OL.length = N1 := by rw [hOL]; simp
    have eo : A.eqN N1 (A.len OL) := xeqN hA (by rw [xlen hA, hOl])
    have hes3 : es2 = (gridE xs (rowsD tb1) 0).set tk (.o 3 1 r2.length) := by rw [hr2n]; exact hes2
    refine ops_go tokT hA hS ?_
    cbv
    refine ⟨i3, ⟨_, g3, ?_⟩⟩
    cbv
    refine join_at hS rest OL ⟨tb2, hOL2, hTb2⟩ ?_
    refine gs_elsE 3 rfl hset ?_
    refine grid_put3 (sl := 15) (n0 := N1) hgo (by rw [hxl]; exact htk) rfl (by rw [hr2n]; exact hn1) hfr2 hstep hes3 hgn2 fun xs' hgo' hxl' => ?_
    refine gs_view (a := { env := [(1, .sl 1 BL), (5, .cb (.agg [I s.benches, .sl 3 TL]) 0), (13, .cb (.agg [I m.benches, .sl 3 ML]) 0), (14, .sl 1 BL1), (15, .o 1 1 N1)], H := [.box (.agg [U x2]), .els 1 (gridE xs' (rowsD tb2) 0), .ob (.gr 1 (gridN xs' (rowsD tb2) 0))], nt := 159, dfs := [] }) [0, 1, 2] ⟨by decide, pre0, ⟨rfl, rfl, rfl, trivial⟩, ⟨rfl, rfl, rfl, rfl, rfl, trivial⟩, rfl, rfl⟩ ?_
    refine grid_melt (nd := N1) hgo' (hxl'.trans hxl) (fun es bg => ⟨by decide, pre0, ⟨rfl, rfl, rfl, trivial⟩, ⟨rfl, rfl, rfl, rfl, rfl, trivial⟩, rfl, rfl⟩) ?_
    rw [← hOL]
    refine gs_frz hA [1] ?_
    cbv
    repeat (refine And.intro eo ?_)
    exact gs_to [] ⟨by decide, pre0, trivial, ⟨rfl, rfl, rfl, rfl, rfl, trivial⟩, rfl, rfl⟩
  case h2 =>
    obtain ⟨OL, hOL⟩ : ∃ OL, OL = (List.range N1).map fun j => D.sl 1 ((rowsD tb1).getD j []) := ⟨_, rfl⟩
    have hOL2 : OL = tb1.map fun l => .sl 1 (l.map I) := by rw [hOL]; exact rows_all tb1 hN1
    have hOl : OL.length = N1 := by rw [hOL]; simp
    have eo : A.eqN N1 (A.len OL) := xeqN hA (by rw [xlen hA, hOl])
    cbv
    refine join_at hS rest OL ⟨tb1, hOL2, hTb1⟩ ?_
    refine gs_view (a := { env := [(1, .sl 1 BL), (5, .cb (.agg [I s.benches, .sl 3 TL]) 0), (13, .cb (.agg [I m.benches, .sl 3 ML]) 0), (14, .sl 1 BL1), (15, .o 1 1 N1)], H := [.box (.agg [U x2]), .els 1 es, .ob (.gr 1 gn)], nt := 159, dfs := [] }) [0, 1, 2] ⟨by decide, pre0, ⟨rfl, rfl, rfl, trivial⟩, ⟨rfl, rfl, rfl, rfl, rfl, trivial⟩, rfl, rfl⟩ ?_
    refine gs_elsE 1 rfl hes (gs_blkE 2 rfl (congrArg (fun g => Blk.ob (.gr 1 g)) hgn) ?_)
    refine grid_melt (nd := N1) hgo hxl (fun es bg => ⟨by decide, pre0, ⟨rfl, rfl, rfl, trivial⟩, ⟨rfl, rfl, rfl, rfl, rfl, trivial⟩, rfl, rfl⟩) ?_
    rw [← hOL]
    refine gs_frz hA [1] ?_
    cbv
    repeat (refine And.intro eo ?_)
    exact gs_to [] ⟨by decide, pre0, trivial, ⟨rfl, rfl, rfl, rfl, rfl, trivial⟩, rfl, rfl⟩
  rintro OL ⟨tb2, hOL, hTb2⟩
  obtain ⟨SS, hSS⟩ : ∃ SS : List D, SS = [.agg [I s.benches, .sl 3 TL], .agg [I m.benches, .sl 3 ML], .agg [I m.benches, .sl 3 ML], .agg [I m.benches, .sl 3 ML]] := ⟨_, rfl⟩
  have hSl : SS.length = 4 := by rw [hSS]; rfl
  obtain ⟨PS, hPS⟩ : ∃ PS : List D, PS = [.sl 1 BL, .sl 1 BL1, .sl 1 OL, .sl 1 BL] := ⟨_, rfl⟩
  have hPSl : PS.length = 4 := by rw [hPS]; rfl
  refine at_code hS ?_
  refine wp_go tokT hA hS ?_
  cbv
  refine at_code hS ?_
  refine wpa_loopG (α := Int × Nat) (fun q => { env := [(17, .sl 2 SS), (18, .sl 1 PS), (19, I q.1)], H := [], nt := 159, dfs := [] })
    (fun q => 4 - q.2) (fun q => q.2 ≤ 4 ∧ IsI q.1 q.2) (0, 0) ⟨by decide, ⟨rfl⟩⟩ ?_ ?_
  · refine gs_frz hA [0, 1] ?_
    cbv
    repeat (refine And.intro (yeqLen hA rfl) ?_)
    exact gs_to [] ⟨by decide, pre0, trivial, ⟨by rw [hSS]; rfl, by rw [hPS]; rfl, rfl, trivial⟩, rfl, rfl⟩
  rintro ⟨i, k⟩ ⟨u1, u2⟩
  dsimp only at u1 u2
  refine wp_goF tokT hA hS [] ?_
  cbv
  refine bm (fun c => ?_) (fun c => ?_)
  · have hk : k < 4 := yltL hA hSl u2 c
    obtain ⟨z, ZL, q, QL, hz1, hz2, hZ, hq20, hQ, hSk, hPk⟩ : ∃ (z : Sh) (ZL : List D) (q : List (List Int)) (QL : List D), Fin z ∧ NotBig z ∧ ZL = z.tasks.map taskD ∧ TbOk q ∧ QL = q.map (fun l => D.sl 1 (l.map I)) ∧ SS[k]? = some (.agg [I z.benches, .sl 3 ZL]) ∧ PS[k]? = some (.sl 1 QL) := by
      match k, hk with
      | 0, _ => exact ⟨s, TL, tb0, BL, hs, hnb, hT, hTb0, hB, by rw [hSS]; rfl, by rw [hPS]; rfl⟩
      | 1, _ => exact ⟨m, ML, tb1, BL1, hm1, hm2, hM, hTb1, hB1, by rw [hSS]; rfl, by rw [hPS]; rfl⟩
      | 2, _ => exact ⟨m, ML, tb2, OL, hm1, hm2, hM, hTb2, hOL, by rw [hSS]; rfl, by rw [hPS]; rfl⟩
      | 3, _ => exact ⟨m, ML, tb0, BL, hm1, hm2, hM, hTb0, hB, by rw [hSS]; rfl, by rw [hPS]; rfl⟩
    have iS := yinbL hA hSl u2 hk
    have gS := yget hA u2 hSk
    have iP := yinbL hA hPSl u2 hk
    have gP := yget hA u2 hPk
    have hf := yfit1 hA u2 (by omega)
    have hu2 := ysucc hA u2
    have hms : 4 - (k + 1) < 4 - k := by omega
    have hQi : QL = q.map IL := by rw [hQ]; rfl
    have hql1 : q.length ≤ 1048576 := by have := hq20.len; omega
    have hql2 : ∀ l ∈ q, l.length ≤ 1048576 := fun l hl => by have := hq20.row l hl; omega
    cbv
    refine draw_go tokT hA hS [0, 1, 2, 3, 5, 6, 7, 8, 10, 4, 9, 11, 12] rfl rfl fun Dk hD => ?_
    cbv
    refine ⟨iS, ⟨_, gS, ?_⟩⟩
    cbv
    refine ⟨iP, ⟨_, gP, ?_⟩⟩
    cbv
    refine draw_call hA hD [.agg [I z.benches, .sl 3 ZL]] [] [] rfl rfl rfl rfl rfl rfl rfl rfl rfl rfl rfl (by decide) trivial (kCopyShop z hz2 ZL hZ _ ⟨by cbv; repeat' (first | exact trivial | exact Need.mk ⟨_, gS, rfl⟩ | exact Need.mk ⟨_, gP, rfl⟩ | refine ⟨?_, ?_⟩), draw_on tokT hA hD ?_⟩)
    cbv
    refine draw_call hA hD [.sl 1 QL] [] [] rfl rfl rfl rfl rfl rfl rfl rfl rfl rfl rfl (by decide) trivial (lists q QL hQi hql1 hql2 _ ⟨by cbv; repeat' (first | exact trivial | exact Need.mk ⟨_, gS, rfl⟩ | exact Need.mk ⟨_, gP, rfl⟩ | refine ⟨?_, ?_⟩), draw_on tokT hA hD ?_⟩)
    cbv
    refine ops_call hS [.agg [I z.benches, .sl 3 ZL], .sl 1 QL] [] [] rfl rfl rfl rfl rfl rfl rfl rfl (by decide) trivial (bClashAny z hz1 q hq20 ZL QL hZ hQ _ fun a1 b1 e1 h1 => ?_)
    refine ops_go tokT hA hS ?_
    cbv
    refine draw_go tokT hA hS [0, 1, 2, 3, 4, 5, 6, 7, 8, 9, 10, 11, 12, 13, 14, 15] rfl rfl fun Dk hD => ?_
    cbv
    refine ⟨iS, ⟨_, gS, ?_⟩⟩
    cbv
    refine ⟨iP, ⟨_, gP, ?_⟩⟩
    cbv
    refine draw_call hA hD [.agg [I z.benches, .sl 3 ZL], .sl 1 QL] [] [] rfl rfl rfl rfl rfl rfl rfl rfl rfl rfl rfl (by decide) trivial (rClashAny z q ZL QL hZ hQ hz1 hq20 _ fun a2 b2 e2 h2 => ⟨by cbv; repeat' (first | exact trivial | exact Need.mk ⟨_, gS, rfl⟩ | exact Need.mk ⟨_, gP, rfl⟩ | refine ⟨?_, ?_⟩), draw_on tokT hA hD ?_⟩)
    have x1 := h1.trans h2.symm
    have ea : a1 = a2 := congrArg Prod.fst x1
    have eb : b1 = b2 := congrArg (fun x => x.2.1) x1
    have ee : e1 = e2 := congrArg (fun x => x.2.2) x1
    have n1 : A.cmp .neq a1 a2 = false := xneF hA ea
    have n2 : A.cmp .neq b1 b2 = false := xneF hA eb
    have n3 : A.cmp .neq e1 e2 = false := xneF hA ee
    cbv
    refine draw_goE tokT hA hS [2] [0, 1, 2, 3, 4, 5, 6, 7, 8, 9, 10, 11, 12, 13, 14, 15, 16, 17, 18, 19, 20, 21, 22, 23, 24, 25, 26, 27, 28, 29, 30] rfl rfl fun Dk hD => ?_
    cbv
    refine draw_val tokT hA hD [6] (.v (.bool false)) rfl rfl rfl rfl rfl rfl (congrArg (fun b => D.v (.bool b)) n1) ?_
    cbv
    refine draw_valG tokT hA hD [11] (.v (.bool false)) rfl rfl rfl rfl rfl rfl rfl rfl rfl (congrArg (fun b => D.v (.bool b)) n2) ?_
    cbv
    refine draw_valG tokT hA hD [] (.v (.bool false)) rfl rfl rfl rfl rfl rfl rfl rfl rfl (congrArg (fun b => D.v (.bool b)) n3) ?_
    cbv
    refine ⟨iS, ⟨_, gS, ?_⟩⟩
    cbv
    refine draw_callG hA hD (b := false) rfl rfl rfl rfl rfl rfl rfl rfl rfl rfl rfl (fun _ => ⟨[], _, [.agg [I z.benches, .sl 3 ZL], .agg [I z.benches, .sl 3 ZL]], [], [], rfl, rfl, rfl, by decide, trivial, kSameShops z hz1 ZL hZ _ ⟨by cbv; repeat' (first | exact trivial | exact Need.mk ⟨_, gS, rfl⟩ | exact Need.mk ⟨_, gP, rfl⟩ | refine ⟨?_, ?_⟩), draw_onE tokT hA hD [20] ?_⟩⟩) (fun h => absurd rfl h)
    cbv
    refine draw_valG tokT hA hD [] (.v (.bool false)) rfl rfl rfl rfl rfl rfl rfl rfl rfl (congrArg (fun b => D.v (.bool b)) hbn) ?_
    cbv
    refine ⟨iP, ⟨_, gP, ?_⟩⟩
    cbv
    refine draw_callG hA hD (b := false) rfl rfl rfl rfl rfl rfl rfl rfl rfl rfl rfl (fun _ => ⟨[], _, [.sl 1 QL, .sl 1 QL], [], [], rfl, rfl, rfl, by decide, trivial, kSameLists q hq20 QL hQ _ ⟨by cbv; repeat' (first | exact trivial | exact Need.mk ⟨_, gS, rfl⟩ | exact Need.mk ⟨_, gP, rfl⟩ | refine ⟨?_, ?_⟩), draw_onE tokT hA hD [29] ?_⟩⟩) (fun h => absurd rfl h)
    cbv
    refine draw_valG tokT hA hD [] (.v (.bool false)) rfl rfl rfl rfl rfl rfl rfl rfl rfl (congrArg (fun b => D.v (.bool b)) hbn) ?_
    cbv
    refine ⟨hf, ?_⟩
    refine gs_loop (A.add i 1, k + 1) [] ⟨hk, hu2⟩ hms ?_
    exact ⟨by decide, pre0, trivial, ⟨rfl, rfl, rfl, trivial⟩, rfl, rfl⟩
  · cbv
    refine gs_done ?_
    cbv
    refine ops_call hS [] [] [] rfl rfl rfl rfl rfl rfl rfl rfl (by decide) trivial (filing _ ?_)
    refine ops_go tokT hA hS ?_
    cbv
    exact gh_view [] (by decide) pre0 (H' := []) (d' := .v (.bool true)) trivial rfl (gh_done hq)
end Go.Proofs.YtmloogdalecilaaDoor
