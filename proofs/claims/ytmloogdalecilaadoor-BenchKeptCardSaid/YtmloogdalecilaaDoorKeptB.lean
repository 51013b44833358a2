/- Part KeptB of the proofs about the benches of the accordion maker: see the last text of the claim for what is proved. -/
import Derived.Test.YtmloogdalecilaaDoorTabX
import Derived.Test.YtmloogdalecilaaDoorMachF
import Derived.Test.YtmloogdalecilaaDoorBenchE
import Derived.Test.YtmloogdalecilaaDoorBenchD
import Derived.Test.YtmloogdalecilaaDoorKeptA
import Derived.Test.YtmloogdalecilaaDoorMachG
set_option linter.unusedVariables false
set_option linter.unusedSimpArgs false
set_option linter.unnecessarySimpa false
set_option linter.constructorNameAsVariable false

/-! D77 -/
namespace Go.Proofs.YtmloogdalecilaaDoor
open Go Go.Abs Go.Proofs

theorem xltF7 {A : Ar} (hA : A = ar) {x y : Int} (h : y ≤ x) : A.cmp .lss x y = false := by subst hA; simp [ar, cmpI]; omega
theorem xgeF7 {A : Ar} (hA : A = ar) {x y : Int} (h : x < y) : A.cmp .geq x y = false := by subst hA; simp [ar, cmpI]; omega
theorem xgeT7 {A : Ar} (hA : A = ar) {x y : Int} (h : y ≤ x) : A.cmp .geq x y = true := by subst hA; simp [ar, cmpI]; omega

/-- The arguments of Clash, lent. -/
theorem lend_tab {F : Fz} {μ : Mu} {H : List Blk} {w : World} {hk : w.cell? ⟨0, 0, none⟩ = some hndlV} (hr : HR F μ H w) {k kg N : Nat} {es : List D} {gn : List Ent} {xs : List Value} {tb : List (List Int)} (hkk : H[k]? = some (.els 1 es)) (hg : H[kg]? = some (.ob (.gr 1 gn))) (hes : es = gridE xs (rowsD tb) 0) (hgn : gn = gridN xs (rowsD tb) 0) (hx : GridOk xs (rowsD tb)) (hl : xs.length = tb.length) (hN : N = tb.length) {BL : List D} (hBL : BL = tb.map fun l => .sl 1 (l.map I)) {b : Int} {TL : List D} :
    ∀ (i : Nat) (d d' : D) (v : Value), ([.agg [I b, .sl 3 TL], .o k 1 N] : List D)[i]? = some d → ([.agg [I b, .sl 3 TL], .sl 1 BL] : List D)[i]? = some d' → VR F μ d v → CR (snapF w hk) d' v
  | 0, d, d', v, h1, h2, hv => by cases h1; cases h2; exact snap_fr hr rfl hv
  | 1, d, d', v, h1, h2, hv => by
    cases h1; cases h2
    have e : BL = (rowsD tb).map (.sl 1) := by rw [hBL, rowsD, List.map_map]; rfl
    rw [e]
    exact snap_grid hr (hkk.trans (by rw [hes])) (hg.trans (by rw [hgn])) hx (by rw [rowsD, List.length_map]; exact hl) (hN.trans hl.symm) hv
  | i + 2, d, d', v, h1, h2, hv => by simp at h1

set_option maxRecDepth 20000 in
set_option maxHeartbeats 16000000 in
/-- BenchKept. -/
theorem wBenchKept (L : List D) (nums : List Int) (hL : L = nums.map I) (hl : L.length ≤ 9223372036854775807) (Q) (hq : Q (RA.ret (.v (.bool true))) []) : CallA Tryd.prog 5 [.sl 1 L] [] Q := by
  obtain ⟨A, hA⟩ : ∃ A, A = ar := ⟨_, rfl⟩
  have hn0 : A.cmp .neq 0 0 = false := by subst hA; rfl
  refine callA_startF tokT hA [5, 40] Tryd.func5 rfl rfl rfl rfl rfl fun S hS => ?_
  cbv
  refine ops_call hS [.sl 1 L] [] [] rfl rfl rfl rfl rfl rfl rfl rfl (by decide) trivial (newPotL L nums hL hl _ fun x0 => ?_)
  refine ops_go tokT hA hS ?_
  cbv
  refine ops_call hS [.b 0 0, I 3, I 5] [0] [pot x0] rfl rfl rfl rfl rfl rfl rfl rfl (by decide) ⟨rfl, trivial⟩ (shopOf x0 3 5 (by decide) (by decide) _ fun s x1 hok => ?_)
  have hs : ShopOk s := okS_shop hok (by decide) (by decide)
  have hv := chkS_val hs.chk
  obtain ⟨TL, hT⟩ : ∃ TL, TL = s.tasks.map taskD := ⟨_, rfl⟩
  unfold shopD
  rw [← hT]
  obtain ⟨N, hN⟩ : ∃ N, N = s.tasks.length := ⟨_, rfl⟩
  have hTl : TL.length = N := by rw [hT, hN]; simp
  have hNb : N ≤ 3 := by rw [hN]; exact hok.len
  refine ops_go tokT hA hS ?_
  cbv
  refine draw_go tokT hA hS [0, 1, 2, 3, 4, 5, 6, 7, 8, 9] rfl rfl fun Dk hD => ?_
  cbv
  refine draw_call hA hD [.b 0 0, .agg [I s.benches, .sl 3 TL]] [0] [pot x1] rfl rfl rfl rfl rfl rfl rfl rfl rfl rfl rfl (by decide) ⟨rfl, trivial⟩ (planOf x1 s (by have := hv.sum; omega) (by have := hv.len; omega) TL hT _ fun p PL x2 hp hP => ⟨by cbv, draw_on tokT hA hD ?_⟩)
  cbv
  refine draw_call hA hD [.agg [I s.benches, .sl 3 TL], .sl 1 PL] [] [] rfl rfl rfl rfl rfl rfl rfl rfl rfl rfl rfl (by decide) trivial (bRunPlan s hs p hp TL PL hT hP _ fun RL hRL => ⟨by cbv, draw_on tokT hA hD ?_⟩)
  cbv
  refine ops_call hS [.agg [I s.benches, .sl 3 TL]] [] [] rfl rfl rfl rfl rfl rfl rfl rfl (by decide) trivial (bBest s hs TL hT _ fun BE bst hBE hbst => ?_)
  have hbb : 0 ≤ bst ∧ bst ≤ 106 := by rw [hbst]; exact best_bound hok hv hp
  refine ops_go tokT hA hS ?_
  cbv
  refine region_part tokT hA hS [0, 1] [2, 3, 4, 5] rfl ?_
  cbv
  refine part_is tokT hA hS 43 (.v (.bool false)) rfl (congrArg (fun b => D.v (.bool b)) hn0) [2, 3, 4] [5] ?_
  cbv
  refine part_is tokT hA hS 46 (.v (.bool false)) rfl (congrArg (fun b => D.v (.bool b)) hn0) [5] [] ?_
  cbv
  refine at_ops hS (ops_go tokT hA hS ?_)
  cbv
  obtain ⟨n0, hn0'⟩ : ∃ n0, n0 = A.tn (A.oi (A.len TL)) := ⟨_, rfl⟩
  have hn0N : n0 = N := by rw [hn0', yoiL hA hTl]; subst hA; rfl
  have hrm2 : A.room (A.tn (A.oi (A.len TL))) 24 := by rw [← hn0', hn0N]; exact yroomN hA (by omega) (by decide)
  have hnn : A.nneg (A.oi (A.len TL)) := by subst hA; exact Int.natCast_nonneg _
  obtain ⟨l, hl⟩ : ∃ l, l = runS s (fun _ => 0) p := ⟨_, rfl⟩
  obtain ⟨M, hM⟩ : ∃ M, M = l.length := ⟨_, rfl⟩
  have hlt : ∀ x ∈ l, ∃ tn : Nat, IsI x.t tn ∧ LtN tn N := by
    rw [hN, hl]
    intro x hx
    have := (runS_t hv hp.le (by rw [hp.len]; exact hv.sum) x hx).1
    exact ⟨x.t.toNat, ⟨by omega⟩, ⟨by omega⟩⟩
  rw [← hl] at hRL
  have hRl : RL.length = M := by rw [hRL, hM]; simp
  have hM8 : M ≤ 8 := by rw [hM, hl, runS_length, hp.len]; exact hv.sum
  have hE0 : A.rep (A.tn (A.oi (A.len TL))) (.v (.slice none 0 0)) = gridE (List.replicate N nilS) (List.replicate N []) 0 := by
    rw [gridE_rep, ← hn0', hn0N]; subst hA; rfl
  have hR0 : List.replicate N ([] : List D) = rowsD (tabN N (l.take 0)) := by
    refine List.ext_getElem? fun j => ?_
    by_cases hj : j < N
    · simp [rowsD, tabN, hj]
    · rw [List.getElem?_eq_none (by simp; omega), List.getElem?_eq_none (by simp [rowsD, tabN]; omega)]
  rw [hR0] at hE0
  have hok0 : GridOk (List.replicate N nilS) (rowsD (tabN N (l.take 0))) := by rw [← hR0]; exact gridOk_rep
  have hgn0 : ∀ (j : Nat) (e : Value) (row : List D), (gridN (List.replicate N nilS) (rowsD (tabN N (l.take 0))) 0)[j]? ≠ some (e, some row) := by rw [← hR0]; exact fun j e row => gridN_none
  refine ⟨hnn, hrm2, ?_⟩
  refine at_code hS ?_
  refine wpa_loopG (α := Int × Nat × List Value) (fun q => { env := [(3, .b 0 0), (4, .cb (.agg [I s.benches, .sl 3 TL]) 0), (5, .sl 7 RL), (8, I bst), (10, .o 1 1 N), (11, I q.1)], H := [pot x2, .els 1 (gridE q.2.2 (rowsD (tabN N (l.take q.2.1))) 0), .ob (.gr 1 (gridN q.2.2 (rowsD (tabN N (l.take q.2.1))) 0))], nt := 225, dfs := [] })
    (fun q => M - q.2.1) (fun q => IsI q.1 q.2.1 ∧ q.2.1 ≤ M ∧ q.2.2.length = N ∧ GridOk q.2.2 (rowsD (tabN N (l.take q.2.1)))) (0, 0, List.replicate N nilS) ⟨⟨rfl⟩, Nat.zero_le _, List.length_replicate, hok0⟩ ?_ ?_
  · refine gs_frz hA [1] ?_
    cbv
    refine gs_view (a := { env := [(3, .b 0 0), (4, .cb (.agg [I s.benches, .sl 3 TL]) 0), (5, .sl 7 RL), (8, I bst), (10, .o 1 1 (A.tn (A.oi (A.len TL)))), (11, I 0)], H := [pot x2, .els 1 (A.rep (A.tn (A.oi (A.len TL))) (.v (.slice none 0 0)))], nt := 225, dfs := [] }) [0, 2] ⟨by decide, pre0, ⟨rfl, rfl, trivial⟩, ⟨rfl, rfl, rfl, rfl, rfl, rfl, trivial⟩, rfl, rfl⟩ ?_
    refine gs_elsE 1 rfl hE0 ?_
    refine gs_grNewN 1 (gridN (List.replicate N nilS) (rowsD (tabN N (l.take 0))) 0) hgn0 ?_
    exact gs_to [0, 1, 2] ⟨by decide, pre0, ⟨rfl, rfl, rfl, trivial⟩, ⟨rfl, rfl, rfl, rfl, by rw [← hn0N, hn0']; rfl, rfl, trivial⟩, rfl, rfl⟩
  rintro ⟨i, k, xs⟩ ⟨u1, u2, u3, u4⟩
  dsimp only at u1 u2 u3 u4
  have hmk1 : A.cmp .lss i (A.oi (A.len RL)) = false → M ≤ k := fun h => ynltL hA hRl u1 h
  have hmk2 : A.cmp .lss i (A.oi (A.len RL)) = true → k < M := fun h => yltL hA hRl u1 h
  by_cases hk : k < M
  · obtain ⟨x, hx⟩ : ∃ x, l[k]? = some x := ⟨_, List.getElem?_eq_getElem (by omega)⟩
    obtain ⟨tn, htn, ⟨htN⟩⟩ := hlt x (List.mem_of_getElem? hx)
    obtain ⟨rows, hrows⟩ : ∃ rows, rows = rowsD (tabN N (l.take k)) := ⟨_, rfl⟩
    obtain ⟨rows', hrows'⟩ : ∃ rows', rows' = rowsD (tabN N (l.take (k + 1))) := ⟨_, rfl⟩
    obtain ⟨r, hr⟩ : ∃ r, r = rows.getD tn [] := ⟨_, rfl⟩
    obtain ⟨n, hn⟩ : ∃ n, n = r.length := ⟨_, rfl⟩
    have hstep : ∀ j, rows'.getD j [] = if j = tn then r ++ [I x.bh] else rows.getD j [] := fun j => by
      rw [hrows', hr, hrows, tab_next hx htn htN]
    have hn8 : n ≤ 8 := by
      rw [hn, hr, hrows]; exact Nat.le_trans (tab_len _ _ _) (by rw [List.length_take]; omega)
    have hRk : RL[k]? = some (.agg [I x.t, I x.k, I x.b, I x.bl, I x.bh, I x.el, I x.eh]) := by rw [hRL]; simp [hx, slotD]
    have i1 := yinbL hA hRl u1 hk
    have g1 := yget hA u1 hRk
    have hf1 := yfit1 hA u1 (by omega)
    have hu1 := ysucc hA u1
    have hms : M - (k + 1) < M - k := by omega
    have f1 : A.cmp .lss x.t 0 = false := xltF7 hA (by have := htn.eq; omega)
    have f2 : A.cmp .geq x.t (A.oi N) = false := xgeF7 hA (by rw [xoi hA]; have := htn.eq; omega)
    obtain ⟨es, hes⟩ : ∃ es, es = (gridE xs rows 0).set tn (.o 3 1 n) := ⟨_, rfl⟩
    obtain ⟨gn, hgn⟩ : ∃ gn, gn = (gridN xs rows 0).set tn (xs.getD tn nilS, none) := ⟨_, rfl⟩
    have hel : es.length = N := by rw [hes, List.length_set, gridE_len, u3]
    have het : es[tn]? = some (.o 3 1 n) := by rw [hes, List.getElem?_set_self (by rw [gridE_len, u3]; exact htN)]
    have i2 := yinb hA htn htN
    have g2 := yget hA htn het
    have hroom : A.room (A.addN n 1) 8 := by rw [xaddN hA]; exact yroomN hA (by omega) (by decide)
    rw [← hrows] at u4 ⊢
    refine wpa_gs (grid_take u4 (by rw [u3]; exact htN) (Nat.zero_le _) hr ?_)
    rw [← hn, ← hes, ← hgn]
    refine gs_done ?_
    refine wp_goF tokT hA hS [11] ?_
    cbv
    refine bm (fun _ => ?_) (fun c => absurd (hmk1 c) (by omega))
    cbv
    refine region_part tokT hA hS [0, 1, 2, 3, 4, 5] [6, 7, 8, 9, 10, 11, 12, 13, 14, 15] rfl ?_
    cbv
    refine ⟨i1, ⟨_, g1, ?_⟩⟩
    cbv
    refine part_is tokT hA hS 63 (.v (.bool false)) rfl (congrArg (fun b => D.v (.bool b)) f1) [6, 7, 8, 9, 10, 11, 12, 13, 14] [15] ?_
    cbv
    refine ⟨i1, ⟨_, g1, ?_⟩⟩
    cbv
    refine part_is tokT hA hS 72 (.v (.bool false)) rfl (congrArg (fun b => D.v (.bool b)) f2) [15] [] ?_
    cbv
    refine at_ops hS (ops_go tokT hA hS ?_)
    cbv
    refine draw_go tokT hA hS [0, 1, 2, 3, 4, 5, 6, 7, 8, 9, 10, 11, 12, 13, 14, 15, 16, 17, 18, 19, 20, 21, 22, 23] rfl rfl fun Dk hD => ?_
    cbv
    refine ⟨i1, ⟨_, g1, ?_⟩⟩
    cbv
    refine ⟨i1, ⟨_, g1, ?_⟩⟩
    cbv
    refine ⟨i2, ⟨_, g2, ?_⟩⟩
    cbv
    refine ⟨i1, ⟨_, g1, ?_⟩⟩
    cbv
    have en : A.eqN n (A.len r) := xeqN hA (by rw [xlen hA, hn])
    refine ⟨en, yeqLen hA rfl, hroom, (by repeat' (first | exact trivial | exact Need.mk ⟨_, g1, rfl⟩ | exact Need.mk ⟨_, g2, rfl⟩ | refine ⟨?_, ?_⟩)), ?_⟩
    refine ⟨i2, ⟨_, g2, ?_⟩⟩
    cbv
    refine ⟨hf1, ?_⟩
    obtain ⟨r', hr'⟩ : ∃ r', r' = A.app r [I x.bh] := ⟨_, rfl⟩
    have hr2 : r' = r ++ [I x.bh] := by rw [hr', xapp hA]
    have hrl : r'.length = A.addN n 1 := by rw [hr2, xaddN hA, hn]; simp
    have hfr' : FrL r' := by rw [hr2, hr]; exact (u4.fr tn).app ⟨fun d hd => by rw [List.mem_singleton.1 hd]; rfl⟩
    have hes2 : A.set es (A.tn x.t) (.o 5 1 (A.addN n 1)) = (gridE xs rows 0).set tn (.o 5 1 r'.length) := by
      rw [yset hA htn rfl, hes, List.set_set, hrl]
    rw [← hr2] at hstep
    refine gs_elsE 5 rfl hr'.symm ?_
    refine grid_put (sl := 10) (n0 := N) u4 (by rw [u3]; exact htN) rfl (by rw [hr2]; simp) hfr' hstep hes2 hgn fun xs' hok' hl' => ?_
    rw [hrows'] at hok'
    refine gs_loop (A.add i 1, k + 1, xs') [0, 1, 2] ⟨hu1, hk, hl'.trans u3, hok'⟩ hms ?_
    exact ⟨by decide, pre0, ⟨rfl, by rw [hrows']; rfl, by rw [hrows']; rfl, trivial⟩, ⟨rfl, rfl, rfl, rfl, rfl, rfl, trivial⟩, rfl, rfl⟩
  have hkM : k = M := by omega
  have hlk : l.take k = l := List.take_of_length_le (by omega)
  obtain ⟨tb0, htb0⟩ : ∃ tb0, tb0 = tabS s p := ⟨_, rfl⟩
  have hrw : rowsD (tabN N (l.take k)) = rowsD tb0 := by rw [hlk, htb0, tabS, hN, hl]
  rw [hrw] at u4 ⊢
  have hI0 : InvT s tb0 0 0 := by rw [htb0]; exact inv_start hok hv hp
  have hG0 : TbGood s tb0 := by rw [htb0]; exact tab_good hv hp
  obtain ⟨es, hes⟩ : ∃ es, es = gridE xs (rowsD tb0) 0 := ⟨_, rfl⟩
  obtain ⟨gn, hgn⟩ : ∃ gn, gn = gridN xs (rowsD tb0) 0 := ⟨_, rfl⟩
  rw [← hes, ← hgn]
  refine wp_goF tokT hA hS [] ?_
  cbv
  refine bm (fun c => absurd (hmk2 c) hk) (fun _ => ?_)
  cbv
  refine gs_done ?_
  cbv
  have hTb0 : TbOk tb0 := by rw [htb0]; exact (tabS_ok hs hp).1
  obtain ⟨BL0, hBL0⟩ : ∃ BL0 : List D, BL0 = tb0.map fun l => .sl 1 (l.map I) := ⟨_, rfl⟩
  have hln0 : tb0.length = N := by rw [hI0.ln, hN]
  refine ops_lend hS [.agg [I s.benches, .sl 3 TL], .sl 1 BL0] rfl rfl rfl rfl rfl rfl rfl rfl (fun F μ w hk hr => lend_tab hr (k := 1) (kg := 2) rfl rfl hes hgn u4 (u3.trans hln0.symm) hln0.symm hBL0) (bClashAny s hs.fin tb0 hTb0 TL BL0 hT hBL0 _ fun a1 b1 e1 h1 => ⟨.tup _ (fun c hc => by simp at hc; rcases hc with rfl | rfl | rfl <;> exact ⟨_, rfl⟩), ?_⟩)
  rw [clash_good hs.chk (inv_tabE hI0) hG0] at h1
  obtain ⟨rfl, rfl, rfl⟩ : a1 = 0 ∧ b1 = 0 ∧ e1 = 11 := ⟨congrArg Prod.fst h1, congrArg (fun x => x.2.1) h1, congrArg (fun x => x.2.2) h1⟩
  have hn11 : A.cmp .neq 11 11 = false := xneF hA rfl
  refine ops_go tokT hA hS ?_
  cbv
  refine bm (fun c => Bool.noConfusion (hn11.symm.trans c)) (fun _ => ?_)
  cbv
  refine at_code hS ?_
  refine wpa_loopG (α := Int × Nat × Int × List Value × List (List Int)) (fun q => { env := [(3, .b 0 0), (4, .cb (.agg [I s.benches, .sl 3 TL]) 0), (8, I bst), (10, .o 1 1 N), (15, I q.1)], H := [pot q.2.2.1, .els 1 (gridE q.2.2.2.1 (rowsD q.2.2.2.2) 0), .ob (.gr 1 (gridN q.2.2.2.1 (rowsD q.2.2.2.2) 0))], nt := 225, dfs := [] })
    (fun q => N - q.2.1) (fun q => q.2.1 ≤ N ∧ IsI q.1 q.2.1 ∧ q.2.2.2.1.length = N ∧ GridOk q.2.2.2.1 (rowsD q.2.2.2.2) ∧ InvT s q.2.2.2.2 q.2.1 0) (0, 0, x2, xs, tb0) ⟨Nat.zero_le _, ⟨rfl⟩, u3, u4, hI0⟩ ?_ ?_
  · exact gs_to [0, 1, 2] ⟨by decide, pre0, ⟨rfl, by rw [hes]; rfl, by rw [hgn]; rfl, trivial⟩, ⟨rfl, rfl, rfl, rfl, rfl, trivial⟩, rfl, rfl⟩
  clear hes hgn u4 u3 es gn
  rintro ⟨i2, k2, y0, xs2, tb⟩ ⟨v1, v2, v3, v4, v5⟩
  dsimp only at v1 v2 v3 v4 v5
  have hlnT : tb.length = N := by rw [v5.ln, hN]
  obtain ⟨es, hes⟩ : ∃ es, es = gridE xs2 (rowsD tb) 0 := ⟨_, rfl⟩
  obtain ⟨gn, hgn⟩ : ∃ gn, gn = gridN xs2 (rowsD tb) 0 := ⟨_, rfl⟩
  rw [← hes, ← hgn]
  refine wp_goF tokT hA hS [] ?_
  cbv
  refine bm (fun c => ?_) (fun c => ?_)
  · have hk2 : k2 < N := yltN hA v2 c
    have hk2s : k2 < s.tasks.length := by omega
    obtain ⟨W, hW⟩ : ∃ W, W = lenT s k2 := ⟨_, rfl⟩
    have htok := hok.tk _ (getD_mem (d := default) hk2s)
    have hWb : W ≤ 3 := by rw [hW]; exact htok.w1
    have hW0 : 0 < W := by rw [hW]; exact htok.w0
    have hfo := yfit1 hA v2 (by omega)
    have hvo := ysucc hA v2
    have hmo : N - (k2 + 1) < N - k2 := by omega
    cbv
    refine ops_call hS [.b 0 0, I 3] [0] [pot y0] rfl rfl rfl rfl rfl rfl rfl rfl (by decide) ⟨rfl, trivial⟩ (upto y0 3 (by decide) _ fun m1 y1 hm1 hm2 => ?_)
    refine ops_go tokT hA hS ?_
    cbv
    refine ops_gs hS (gs_frz hA [3] ?_)
    cbv
    refine ⟨yeqLen hA rfl, gs_done ?_⟩
    refine ops_call hS [.b 0 0, .sl 1 [I 0, I 0, I m1]] [0] [pot y1] rfl rfl rfl rfl rfl rfl rfl rfl (by decide) ⟨rfl, trivial⟩ (of_ y1 [I 0, I 0, I m1] [0, 0, m1] rfl (by simp) (by simp) _ fun by_ y2 hby => ?_)
    have hby2 : 0 ≤ by_ ∧ by_ ≤ 3 := by
      simp at hby
      rcases hby with rfl | rfl
      · omega
      · rcases hm2 with h | h <;> omega
    refine ops_go tokT hA hS ?_
    cbv
    refine at_code hS ?_
    refine wpa_loopG (α := Int × Nat × Int × List Value × List (List Int)) (fun q => { env := [(3, .b 0 0), (4, .cb (.agg [I s.benches, .sl 3 TL]) 0), (8, I bst), (10, .o 1 1 N), (15, I i2), (16, I by_), (17, I q.1)], H := [pot q.2.2.1, .els 1 (gridE q.2.2.2.1 (rowsD q.2.2.2.2) 0), .ob (.gr 1 (gridN q.2.2.2.1 (rowsD q.2.2.2.2) 0))], nt := 225, dfs := [] })
      (fun q => W - q.2.1) (fun q => q.2.1 ≤ W ∧ IsI q.1 q.2.1 ∧ q.2.2.2.1.length = N ∧ GridOk q.2.2.2.1 (rowsD q.2.2.2.2) ∧ InvT s q.2.2.2.2 k2 q.2.1) (0, 0, y2, xs2, tb) ⟨Nat.zero_le _, ⟨rfl⟩, v3, v4, v5⟩ ?_ ?_
    · exact gs_to [0, 1, 2] ⟨by decide, pre0, ⟨rfl, by rw [hes]; rfl, by rw [hgn]; rfl, trivial⟩, ⟨rfl, rfl, rfl, rfl, rfl, rfl, rfl, trivial⟩, rfl, rfl⟩
    clear hes hgn v4 v3 v5 es gn hlnT
    rintro ⟨j, c, y3, xs3, tb3⟩ ⟨w1, w2, w3, w4, w5⟩
    dsimp only at w1 w2 w3 w4 w5
    have hlnT : tb3.length = N := by rw [w5.ln, hN]
    obtain ⟨T, hTr⟩ : ∃ T, T = tb3.getD k2 [] := ⟨_, rfl⟩
    obtain ⟨r, hr⟩ : ∃ r, r = (rowsD tb3).getD k2 [] := ⟨_, rfl⟩
    have hrT : r = T.map I := by rw [hr, hTr, rowsD, List.getD_eq_getElem?_getD, List.getElem?_map, List.getD_eq_getElem?_getD, List.getElem?_eq_getElem (by omega)]; rfl
    have hTl3 : T.length = W := by rw [hTr, w5.rl k2 hk2s, hW]
    have hrl : r.length = W := by rw [hrT, List.length_map, hTl3]
    obtain ⟨es, hes⟩ : ∃ es, es = (gridE xs3 (rowsD tb3) 0).set k2 (.o 3 1 W) := ⟨_, rfl⟩
    obtain ⟨gn, hgn⟩ : ∃ gn, gn = (gridN xs3 (rowsD tb3) 0).set k2 (xs3.getD k2 nilS, none) := ⟨_, rfl⟩
    have het : es[k2]? = some (.o 3 1 W) := by rw [hes, List.getElem?_set_self (by rw [gridE_len, w3]; exact hk2)]
    have i5 := yinb hA v2 hk2
    have g5 := yget hA v2 het
    refine wpa_gs (grid_take w4 (by rw [w3]; exact hk2) (Nat.zero_le _) hr ?_)
    rw [hrl, ← hes, ← hgn]
    refine gs_done ?_
    refine wp_goF tokT hA hS [] ?_
    cbv
    refine ⟨i5, ⟨_, g5, ?_⟩⟩
    cbv
    refine bm (fun c4 => ?_) (fun c4 => ?_)
    · have hc : c < W := yltN hA w2 c4
      have hcs : c < lenT s k2 := by omega
      obtain ⟨y, hy⟩ : ∃ y, y = bgT tb3 k2 c := ⟨_, rfl⟩
      have hTc : T[c]? = some y := by
        rw [hy, bgT, ← hTr, List.getD_eq_getElem?_getD, List.getElem?_eq_getElem (by omega)]; rfl
      have hrc : r[c]? = some (I y) := by rw [hrT, List.getElem?_map, hTc]; rfl
      have hyb : 0 ≤ y ∧ y ≤ 106 := by rw [hy]; exact ⟨(w5.b0 k2 c hk2s hcs).1, w5.b1 k2 c hk2s hcs (.inr ⟨rfl, Nat.le_refl _⟩)⟩
      have i6 := yinb hA w2 hc
      have g6 := yget hA w2 hrc
      have hfa : A.fits .i64 (A.add y by_) := by rw [xadd hA]; exact xfit hA (by omega)
      obtain ⟨v, hvv⟩ : ∃ v, v = A.add y by_ := ⟨_, rfl⟩
      have hvb : 0 ≤ v ∧ v ≤ 109 := by rw [hvv, xadd hA]; omega
      obtain ⟨r2, hr2⟩ : ∃ r2, r2 = A.set r (A.tn j) (I (A.add y by_)) := ⟨_, rfl⟩
      have hr2T : r2 = (T.set c v).map I := by rw [hr2, yset hA w2 rfl, hrT, List.map_set, hvv]
      have hr2c : r2[c]? = some (I v) := by rw [hr2T, List.getElem?_map, List.getElem?_set_self (by omega)]; rfl
      have g7 := yget hA w2 hr2c
      have hf2 := yfit1 hA w2 (by omega)
      have hw2 := ysucc hA w2
      have hms2 : W - (c + 1) < W - c := by omega
      have put : ∀ (u : Int), 0 ≤ u ∧ u ≤ 109 → ∀ (ru : List D), ru = (T.set c u).map I → InvT s (setT tb3 k2 c u) k2 (c + 1) ∧ 0 < ru.length ∧ FrL ru ∧ (∀ j, (rowsD (setT tb3 k2 c u)).getD j [] = if j = k2 then ru else (rowsD tb3).getD j []) ∧ es = (gridE xs3 (rowsD tb3) 0).set k2 (.o 3 1 ru.length) := fun u hu ru hru => by
        have hl' : ru.length = W := by rw [hru, List.length_map, List.length_set, hTl3]
        refine ⟨inv_set w5 (Nat.le_succ c) hk2s hcs hu, by omega, ?_, fun j => ?_, by rw [hl']; exact hes⟩
        · rw [hru]; exact ⟨fun d hd => by obtain ⟨z, -, rfl⟩ := List.mem_map.1 hd; rfl⟩
        · rw [setT, rows_set (by omega), ← hTr, hru]
      cbv
      refine draw_go tokT hA hS [0, 1, 2, 3, 4, 5, 6, 7, 8, 9, 10, 11, 12, 13, 14, 15] rfl rfl fun Dk hD => ?_
      cbv
      refine ⟨i5, ⟨_, g5, ?_⟩⟩
      cbv
      refine ⟨i5, ⟨_, g5, ?_⟩⟩
      cbv
      refine ⟨i6, ⟨_, g6, ?_⟩⟩
      cbv
      refine ⟨hfa, ?_⟩
      refine ⟨i6, ⟨_, g6, ?_⟩⟩
      cbv
      refine ops_call hS [.b 0 0, I 1, I 6] [0] [pot y3] rfl rfl rfl rfl rfl rfl rfl rfl (by decide) ⟨rfl, trivial⟩ (odds y3 1 6 (by decide) _ fun bo y4 => ?_)
      cases bo
      · refine ops_go tokT hA hS ?_
        cbv
        refine ⟨hf2, ?_⟩
        obtain ⟨p1, p2, p3, p4, p5⟩ := put v hvb r2 hr2T
        refine gs_elsE 3 rfl hr2.symm ?_
        refine grid_put3 (sl := 10) (n0 := N) w4 (by rw [w3]; exact hk2) rfl p2 p3 p4 p5 hgn fun xs' hok' hl' => ?_
        refine gs_loop (A.add j 1, c + 1, y4, xs', setT tb3 k2 c v) [0, 1, 2] ⟨hc, hw2, hl'.trans w3, hok', p1⟩ hms2 ?_
        exact ⟨by decide, pre0, ⟨rfl, rfl, rfl, trivial⟩, ⟨rfl, rfl, rfl, rfl, rfl, rfl, rfl, trivial⟩, rfl, rfl⟩
      · have g7' : A.get (A.set r (A.tn j) (I (A.add y by_))) (A.tn j) = some (I v) := by rw [← hr2]; exact g7
        refine ops_go tokT hA hS ?_
        cbv
        refine draw_go tokT hA hS [0, 1, 2, 3, 4, 5, 6, 7, 8, 9] rfl rfl fun Dk hD => ?_
        cbv
        refine ⟨i5, ⟨_, g5, ?_⟩⟩
        cbv
        refine draw_call hA hD [.b 0 0, I bst] [0] [pot y4] rfl rfl rfl rfl rfl rfl rfl rfl rfl rfl rfl (by decide) ⟨rfl, trivial⟩ (upto y4 bst (by omega) _ fun m2 y5 hm3 hm4 => ⟨by cbv; repeat' (first | exact trivial | exact Need.mk ⟨_, g5, rfl⟩ | refine ⟨?_, ?_⟩), draw_on tokT hA hD ?_⟩)
        have hm5 : 0 ≤ m2 ∧ m2 ≤ 109 := by rcases hm4 with h | h <;> omega
        obtain ⟨r3, hr3⟩ : ∃ r3, r3 = A.set (A.set r (A.tn j) (I (A.add y by_))) (A.tn j) (I m2) := ⟨_, rfl⟩
        have hr3T : r3 = (T.set c m2).map I := by rw [hr3, ← hr2, hr2T, yset hA w2 rfl, ← List.map_set, List.set_set]
        cbv
        refine ⟨i6, ⟨_, g7', ?_⟩⟩
        cbv
        refine ⟨hf2, ?_⟩
        obtain ⟨p1, p2, p3, p4, p5⟩ := put m2 hm5 r3 hr3T
        refine gs_elsE 3 rfl hr3.symm ?_
        refine grid_put3 (sl := 10) (n0 := N) w4 (by rw [w3]; exact hk2) rfl p2 p3 p4 p5 hgn fun xs' hok' hl' => ?_
        refine gs_loop (A.add j 1, c + 1, y5, xs', setT tb3 k2 c m2) [0, 1, 2] ⟨hc, hw2, hl'.trans w3, hok', p1⟩ hms2 ?_
        exact ⟨by decide, pre0, ⟨rfl, rfl, rfl, trivial⟩, ⟨rfl, rfl, rfl, rfl, rfl, rfl, rfl, trivial⟩, rfl, rfl⟩
    · have hcW : c = W := by have := ynltN hA w2 c4; omega
      have hinv : InvT s tb3 (k2 + 1) 0 := inv_row (by rw [← hW, ← hcW]; exact w5)
      have hfr : FrL r := by rw [hrT]; exact ⟨fun d hd => by obtain ⟨z, -, rfl⟩ := List.mem_map.1 hd; rfl⟩
      have hsame : ∀ j, (rowsD tb3).getD j [] = if j = k2 then r else (rowsD tb3).getD j [] := fun j => by
        by_cases e : j = k2
        · rw [if_pos e, e, hr]
        · rw [if_neg e]
      cbv
      refine grid_put3 (sl := 10) (n0 := N) w4 (by rw [w3]; exact hk2) rfl (by rw [hrl]; exact hW0) hfr hsame (by rw [hrl]; exact hes) hgn fun xs' hok' hl' => ?_
      obtain ⟨es9, hes9⟩ : ∃ es9, es9 = gridE xs' (rowsD tb3) 0 := ⟨_, rfl⟩
      obtain ⟨gn9, hgn9⟩ : ∃ gn9, gn9 = gridN xs' (rowsD tb3) 0 := ⟨_, rfl⟩
      rw [← hes9, ← hgn9]
      refine gs_done ?_
      cbv
      refine ⟨hfo, ?_⟩
      refine gs_loop (A.add i2 1, k2 + 1, y3, xs', tb3) [0, 1, 2] ⟨hk2, hvo, hl'.trans w3, hok', hinv⟩ hmo ?_
      exact ⟨by decide, pre0, ⟨rfl, by rw [hes9]; rfl, by rw [hgn9]; rfl, trivial⟩, ⟨rfl, rfl, rfl, rfl, rfl, trivial⟩, rfl, rfl⟩
  have hkN : k2 = N := by have := ynltN hA v2 c; omega
  obtain ⟨OL, hOL⟩ : ∃ OL, OL = (List.range N).map fun j => D.sl 1 ((rowsD tb).getD j []) := ⟨_, rfl⟩
  have hOL2 : OL = tb.map fun l => .sl 1 (l.map I) := by rw [hOL]; exact rows_all tb hlnT.symm
  have hOl : OL.length = N := by rw [hOL]; simp
  have eo : A.eqN N (A.len OL) := xeqN hA (by rw [xlen hA, hOl])
  have hTbT : TbOk tb := ⟨by omega, fun l' hl' => by
    obtain ⟨a, ha⟩ := List.mem_iff_getElem?.1 hl'
    have hal : a < s.tasks.length := by have := (List.getElem?_eq_some_iff.1 ha).1; omega
    have h1 := v5.rl a hal
    rw [List.getD_eq_getElem?_getD, ha] at h1
    have h2 := (hok.tk _ (getD_mem (d := default) hal)).w1
    have h3 : l'.length = lenT s a := h1
    unfold lenT at h3
    omega⟩
  cbv
  refine gs_view (a := { env := [(3, .b 0 0), (4, .cb (.agg [I s.benches, .sl 3 TL]) 0), (8, I bst), (10, .o 1 1 N)], H := [pot y0, .els 1 es, .ob (.gr 1 gn)], nt := 225, dfs := [] }) [0, 1, 2] ⟨by decide, pre0, ⟨rfl, rfl, rfl, trivial⟩, ⟨rfl, rfl, rfl, rfl, trivial⟩, rfl, rfl⟩ ?_
  refine gs_elsE 1 rfl hes (gs_blkE 2 rfl (congrArg (fun g => Blk.ob (.gr 1 g)) hgn) ?_)
  refine grid_melt (nd := N) v4 v3 (fun es bg => ⟨by decide, pre0, ⟨rfl, rfl, rfl, trivial⟩, ⟨rfl, rfl, rfl, rfl, trivial⟩, rfl, rfl⟩) ?_
  obtain ⟨gn8, hgn8⟩ : ∃ gn8, gn8 = gridN xs2 (rowsD tb) N := ⟨_, rfl⟩
  rw [← hOL, ← hgn8]
  refine gs_frz hA [1] ?_
  cbv
  refine ⟨eo, ?_⟩
  refine gs_done ?_
  cbv
  refine ops_call hS [.agg [I s.benches, .sl 3 TL], .sl 1 OL] [] [] rfl rfl rfl rfl rfl rfl rfl rfl (by decide) trivial (bClashAny s hs.fin tb hTbT TL OL hT hOL2 _ fun a2 b2 e2 h2 => ?_)
  have he2 : e2 = (clashN s tb).2.2 := congrArg (fun x => x.2.2) h2
  rcases clash_of hs.chk (inv_tabE v5) with h0 | ⟨h11, hbad⟩
  · obtain rfl : e2 = 0 := he2.trans h0
    have hT0 : A.cmp .eql 0 0 = true := by subst hA; rfl
    refine ops_go tokT hA hS ?_
    cbv
    refine bm (fun _ => ?_) (fun c => Bool.noConfusion (hT0.symm.trans c))
    cbv
    refine ops_call hS [] [] [] rfl rfl rfl rfl rfl rfl rfl rfl (by decide) trivial (filing _ ?_)
    refine ops_go tokT hA hS ?_
    cbv
    exact gh_view [] (by decide) pre0 (H' := []) (d' := .v (.bool true)) trivial rfl (gh_done hq)
  obtain rfl : e2 = 11 := he2.trans h11
  have hF0 : A.cmp .eql 11 0 = false := by subst hA; rfl
  have hT11 : A.cmp .eql 11 11 = true := by subst hA; rfl
  refine ops_go tokT hA hS ?_
  cbv
  refine bm (fun c => Bool.noConfusion (hF0.symm.trans c)) (fun _ => ?_)
  cbv
  refine at_code hS ?_
  have hG : TbGood s tb := inv_good v5 hbad
  refine wpa_loopG (α := Int × Nat × Int) (fun q => { env := [(4, .cb (.agg [I s.benches, .sl 3 TL]) 0), (8, I bst), (10, .sl 1 OL), (20, I 11), (21, I q.2.2), (22, I q.1)], H := [], nt := 225, dfs := [] })
    (fun q => N - q.2.1) (fun q => q.2.1 ≤ N ∧ IsI q.1 q.2.1 ∧ EndT s tb q.2.1 0 q.2.2) (0, 0, 0) ⟨Nat.zero_le _, ⟨rfl⟩, end_zero⟩ ?_ ?_
  · exact gs_to [] ⟨by decide, pre0, trivial, ⟨rfl, rfl, rfl, rfl, rfl, rfl, trivial⟩, rfl, rfl⟩
  rintro ⟨i7, k7, e7⟩ ⟨z1, z2, z3⟩
  dsimp only at z1 z2 z3
  refine wp_goF tokT hA hS [32] ?_
  cbv
  by_cases hk7 : k7 < N
  · have c7 : A.cmp .lss i7 (A.oi (A.len OL)) = true := by
      cases h : A.cmp .lss i7 (A.oi (A.len OL)) with
      | true => rfl
      | false => have := ynltL hA hOl z2 h; omega
    have hk7s : k7 < s.tasks.length := by omega
    obtain ⟨t, ht⟩ : ∃ t, s.tasks[k7]? = some t := ⟨_, List.getElem?_eq_getElem hk7s⟩
    have htD : s.tasks.getD k7 default = t := by rw [List.getD_eq_getElem?_getD, ht]; rfl
    have htok := hok.tk t (List.mem_of_getElem? ht)
    obtain ⟨W, hW⟩ : ∃ W, W = t.works.length := ⟨_, rfl⟩
    have hWl : W = lenT s k7 := by rw [lenT, htD, hW]
    have hWb : W ≤ 3 := by rw [hW]; exact htok.w1
    obtain ⟨WL, hWL⟩ : ∃ WL, WL = t.works.map workD := ⟨_, rfl⟩
    have hWLl : WL.length = W := by rw [hWL, List.length_map, hW]
    have hTk : TL[k7]? = some (.agg [I t.ready, I t.due, .sl 3 WL]) := by rw [hT, List.getElem?_map, ht, hWL]; rfl
    have iT := yinbL hA hTl z2 hk7
    have gT := yget hA z2 hTk
    obtain ⟨T, hTr⟩ : ∃ T, T = tb.getD k7 [] := ⟨_, rfl⟩
    obtain ⟨OR, hOR⟩ : ∃ OR, OR = T.map I := ⟨_, rfl⟩
    have hOk : OL[k7]? = some (.sl 1 OR) := by rw [hOL2, List.getElem?_map, hOR, hTr, List.getD_eq_getElem?_getD, List.getElem?_eq_getElem (by omega)]; rfl
    have iO := yinbL hA hOl z2 hk7
    have gO := yget hA z2 hOk
    have hTl7 : T.length = W := by rw [hTr, v5.rl k7 hk7s, hWl]
    have hORl : OR.length = W := by rw [hOR, List.length_map, hTl7]
    have hnl : A.cmp .neq (A.oi (A.len OR)) (A.oi (A.len WL)) = false := xneF hA (by rw [yoiL hA hORl, yoiL hA hWLl])
    have hf7 := yfit1 hA z2 (by omega)
    have hz2 := ysucc hA z2
    have hm7 : N - (k7 + 1) < N - k7 := by omega
    refine region_part tokT hA hS [0, 1, 2, 3] [4, 5, 6, 7] rfl ?_
    cbv
    refine part_is tokT hA hS 165 (.v (.bool true)) rfl (congrArg (fun b => D.v (.bool b)) c7) [4, 5, 6] [7] ?_
    cbv
    refine part_is tokT hA hS 168 (.v (.bool true)) rfl (congrArg (fun b => D.v (.bool b)) hT11) [7] [] ?_
    cbv
    refine at_ops hS (ops_go tokT hA hS ?_)
    cbv
    refine draw_go tokT hA hS [0, 1, 2, 3, 4, 5, 6, 7, 8, 9, 10, 11, 12] rfl rfl fun Dk hD => ?_
    cbv
    refine ⟨iO, ⟨_, gO, ?_⟩⟩
    cbv
    refine ⟨iT, ⟨_, gT, ?_⟩⟩
    cbv
    refine bm (fun c => Bool.noConfusion (hnl.symm.trans c)) (fun _ => ?_)
    cbv
    refine at_code hS ?_
    refine wpa_loopG (α := Int × Nat × Int) (fun q => { env := [(4, .cb (.agg [I s.benches, .sl 3 TL]) 0), (8, I bst), (10, .sl 1 OL), (20, I 11), (21, I q.2.2), (22, I i7), (23, I q.1)], H := [], nt := 225, dfs := [] })
      (fun q => W - q.2.1) (fun q => q.2.1 ≤ W ∧ IsI q.1 q.2.1 ∧ EndT s tb k7 q.2.1 q.2.2) (0, 0, e7) ⟨Nat.zero_le _, ⟨rfl⟩, z3⟩ ?_ ?_
    · exact gs_to [] ⟨by decide, pre0, trivial, ⟨rfl, rfl, rfl, rfl, rfl, rfl, rfl, trivial⟩, rfl, rfl⟩
    rintro ⟨j8, c8, e8⟩ ⟨q1, q2, q3⟩
    dsimp only at q1 q2 q3
    refine wp_goF tokT hA hS [] ?_
    cbv
    refine ⟨iO, ⟨_, gO, ?_⟩⟩
    cbv
    refine bm (fun c => ?_) (fun c => ?_)
    · have hc8 : c8 < W := yltL hA hORl q2 c
      have hc8s : c8 < lenT s k7 := by omega
      obtain ⟨w, hw⟩ : ∃ w, t.works[c8]? = some w := ⟨_, List.getElem?_eq_getElem (by omega)⟩
      have hwA : workAt s k7 c8 = w := by unfold workAt; rw [htD, List.getD_eq_getElem?_getD, hw]; rfl
      obtain ⟨y, hy⟩ : ∃ y, y = bgT tb k7 c8 := ⟨_, rfl⟩
      have hTc : T[c8]? = some y := by
        rw [hy, bgT, ← hTr, List.getD_eq_getElem?_getD, List.getElem?_eq_getElem (by omega)]; rfl
      have hRc : OR[c8]? = some (I y) := by rw [hOR, List.getElem?_map, hTc]; rfl
      have hWc : WL[c8]? = some (.agg [I w.b, I w.lo, I w.hi]) := by rw [hWL, List.getElem?_map, hw]; rfl
      have iR := yinbL hA hORl q2 hc8
      have gR := yget hA q2 hRc
      have iW := yinbL hA hWLl q2 hc8
      have gW := yget hA q2 hWc
      have hyb := v5.b0 k7 c8 hk7s hc8s
      rw [← hy] at hyb
      have hwok := htok.wk w (List.mem_of_getElem? hw)
      have hfa : A.fits .i64 (A.add y w.hi) := by rw [xadd hA]; have := hwok.lo; have := hwok.le; have := hwok.hi; exact xfit hA (by omega)
      have hmx : A.max e8 (A.add y w.hi) = max e8 (bgT tb k7 c8 + (workAt s k7 c8).hi) := by rw [maxI hA, xadd hA, hwA, hy]
      have hEnd : EndT s tb k7 (c8 + 1) (A.max e8 (A.add y w.hi)) := by rw [hmx]; exact end_next hv q3 v5 hk7s hc8s
      have hf8 := yfit1 hA q2 (by omega)
      have hq2 := ysucc hA q2
      have hm8 : W - (c8 + 1) < W - c8 := by omega
      cbv
      refine draw_go tokT hA hS [0, 1, 2, 3, 4, 5, 6, 7, 8, 9, 10, 11, 12, 13, 14, 15, 16, 17, 18, 19, 20, 21] rfl rfl fun Dk hD => ?_
      cbv
      refine ⟨iO, ⟨_, gO, ?_⟩⟩
      cbv
      refine ⟨iR, ⟨_, gR, ?_⟩⟩
      cbv
      refine ⟨iT, ⟨_, gT, ?_⟩⟩
      cbv
      refine ⟨iW, ⟨_, gW, ?_⟩⟩
      cbv
      refine ⟨hfa, hf8, ?_⟩
      refine gs_loop (A.add j8 1, c8 + 1, A.max e8 (A.add y w.hi)) [] ⟨hc8, hq2, hEnd⟩ hm8 ?_
      exact ⟨by decide, pre0, trivial, ⟨rfl, rfl, rfl, rfl, rfl, rfl, rfl, trivial⟩, rfl, rfl⟩
    · have hcW : c8 = W := by have := ynltL hA hORl q2 c; omega
      have hEnd : EndT s tb (k7 + 1) 0 e8 := end_row (by rw [← hWl, ← hcW]; exact q3)
      cbv
      refine gs_done ?_
      cbv
      refine ⟨hf7, ?_⟩
      refine gs_loop (A.add i7 1, k7 + 1, e8) [] ⟨hk7, hz2, hEnd⟩ hm7 ?_
      exact ⟨by decide, pre0, trivial, ⟨rfl, rfl, rfl, rfl, rfl, rfl, trivial⟩, rfl, rfl⟩
  · have hk7N : k7 = s.tasks.length := by omega
    have c7 : A.cmp .lss i7 (A.oi (A.len OL)) = false := by
      cases h : A.cmp .lss i7 (A.oi (A.len OL)) with
      | false => rfl
      | true => have := yltL hA hOl z2 h; omega
    have hge : A.cmp .geq e7 bst = true := xgeT7 hA (by rw [hbst]; exact end_best hv hG (by rw [← hk7N]; exact z3))
    refine region_part tokT hA hS [0, 1, 2, 3] [4, 5, 6, 7] rfl ?_
    cbv
    refine part_is tokT hA hS 165 (.v (.bool false)) rfl (congrArg (fun b => D.v (.bool b)) c7) [4, 5, 6, 7] [] ?_
    cbv
    refine at_ops hS (ops_go tokT hA hS ?_)
    cbv
    refine gs_done ?_
    cbv
    refine region_part tokT hA hS [0, 1] [2, 3, 4, 5, 6, 7, 8, 9, 10] rfl ?_
    cbv
    refine part_is tokT hA hS 216 (.v (.bool true)) rfl (congrArg (fun b => D.v (.bool b)) hT11) [2, 3, 4, 5] [6, 7, 8, 9, 10] ?_
    cbv
    refine part_is tokT hA hS 220 (.v (.bool true)) rfl (congrArg (fun b => D.v (.bool b)) hge) [6, 7, 8, 9, 10] [] ?_
    cbv
    refine ops_callG hS (b := true) rfl rfl rfl rfl rfl rfl rfl rfl (fun _ => ⟨[], _, [], [], [], rfl, rfl, rfl, by decide, trivial, filing _ ?_⟩) (fun h => absurd rfl h)
    refine ops_go tokT hA hS ?_
    cbv
    exact gh_view [] (by decide) pre0 (H' := []) (d' := .v (.bool true)) trivial rfl (gh_done hq)
end Go.Proofs.YtmloogdalecilaaDoor
