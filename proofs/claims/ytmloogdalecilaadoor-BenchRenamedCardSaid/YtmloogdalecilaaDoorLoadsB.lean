/- Part LoadsB of the proofs about the benches of the accordion maker: see the last text of the claim for what is proved. -/
import Derived.Test.YtmloogdalecilaaDoorLoadsA
import Derived.Test.YtmloogdalecilaaDoorBestA
import Derived.Test.YtmloogdalecilaaDoorMachD
set_option linter.unusedVariables false
set_option linter.unusedSimpArgs false
set_option linter.unnecessarySimpa false
set_option linter.constructorNameAsVariable false

/-! D58 -/
namespace Go.Proofs.YtmloogdalecilaaDoor
open Go Go.Abs Go.Proofs

set_option maxRecDepth 20000 in
set_option maxHeartbeats 8000000 in
/-- Bound. -/
theorem bBound (s : Sh) (hs : Fin s) (TL : List D) (hT : TL = s.tasks.map taskD) (Q) (h1 : chkS s ≠ 0 → Q (RA.ret (.tup [I 0, I (chkS s)])) []) (h2 : ShopOk s → ∀ v, v = bdAt s s.benches.toNat → Q (RA.ret (.tup [I v, I 0])) []) :
    CallA Tryd.prog 30 [.agg [I s.benches, .sl 3 TL]] [] Q := by
  obtain ⟨A, hA⟩ : ∃ A, A = ar := ⟨_, rfl⟩
  obtain ⟨z, hz⟩ : ∃ z, z = chkS s := ⟨_, rfl⟩
  refine callA_start tokT hA Tryd.func30 rfl rfl rfl rfl rfl fun S hS => ?_
  cbv
  refine ops_call hS [.agg [I s.benches, .sl 3 TL]] [] [] rfl rfl rfl rfl rfl rfl rfl rfl (by decide) trivial (bCheck s hs TL hT z hz _ ?_)
  refine ops_go tokT hA hS ?_
  cbv
  refine bm (fun c => ?_) (fun c => ?_)
  · have hq := h1 (by rw [← hz]; exact xne hA c)
    rw [← hz] at hq
    cbv
    exact gh_view [] (by decide) pre0 (H' := []) (d' := .tup [I 0, I z]) trivial rfl (gh_done hq)
  have hok : ShopOk s := shop_ok hs (by rw [← hz]; exact xnne hA c)
  have hv := chkS_val hok.chk
  have hlen := hv.len
  have hb0 := hv.b0
  have hb1 := hv.b1
  replace h2 := h2 hok
  obtain ⟨N, hN⟩ : ∃ N, N = s.tasks.length := ⟨_, rfl⟩
  have hTl : TL.length = N := by rw [hT, hN]; simp
  obtain ⟨nb, hnb⟩ : ∃ nb, nb = s.benches.toNat := ⟨_, rfl⟩
  rw [← hnb] at h2
  cbv
  refine at_code hS ?_
  refine wpa_loopG (α := Int × Nat × Int × List (List Int × D)) (fun q => { env := [(1, .b 0 0), (5, .mv 1), (6, I q.2.2.1), (29, .sl 3 TL), (30, I (A.oi (A.len TL))), (31, I q.1)], H := [.box (.agg [I s.benches, .sl 3 TL]), .ob (.mp 2 q.2.2.2)], nt := 146, dfs := [] })
    (fun q => N - q.2.1) (fun q => q.2.1 ≤ N ∧ IsI q.1 q.2.1 ∧ q.2.2.1 = bd0 s q.2.1 ∧ HeadOk s A q.2.2.2 q.2.1 0) (0, 0, 0, []) ⟨Nat.zero_le _, ⟨rfl⟩, rfl, fun i' k' t x y _ _ _ h => by dsimp only at h; omega⟩ ?_ ?_
  · exact gs_to [0, 1] ⟨by decide, pre0, ⟨rfl, rfl, trivial⟩, ⟨rfl, rfl, rfl, rfl, rfl, rfl, trivial⟩, rfl, rfl⟩
  rintro ⟨i, k, o, ents⟩ ⟨u1, u2, u3, u4⟩
  dsimp only at u1 u2 u3 u4
  refine wp_goF tokT hA hS [] ?_
  cbv
  refine bm (fun c => ?_) (fun c => ?_)
  · have hk : k < N := yltL hA hTl u2 c
    obtain ⟨t, ht⟩ : ∃ t, t = s.tasks[k] := ⟨_, rfl⟩
    have htk : s.tasks[k]? = some t := by rw [ht]; exact List.getElem?_eq_getElem (by omega)
    have htm : t ∈ s.tasks := List.mem_of_getElem? htk
    obtain ⟨WL, hWL⟩ : ∃ WL, WL = t.works.map workD := ⟨_, rfl⟩
    obtain ⟨M, hM⟩ : ∃ M, M = t.works.length := ⟨_, rfl⟩
    have hWl : WL.length = M := by rw [hWL, hM]; simp
    have hM8 : M ≤ 8 := by rw [hM]; exact works_le hv htm
    have hTk : TL[k]? = some (.agg [I t.ready, I t.due, .sl 3 WL]) := by rw [hT]; simp [htk, hWL, taskD]
    have hin := yinbL hA hTl u2 hk
    have hg := yget hA u2 hTk
    have hf := yfit1 hA u2 (by omega)
    have hu2 := ysucc hA u2
    have hms : N - (k + 1) < N - k := by omega
    cbv
    refine ⟨hin, ⟨_, hg, ?_⟩⟩
    cbv
    refine at_code hS ?_
    refine wpa_loopG (α := Int × Nat × Int × List (List Int × D)) (fun q => { env := [(1, .b 0 0), (5, .mv 1), (6, I o), (7, I i), (8, .b 2 0), (9, I q.2.2.1), (29, .sl 3 TL), (30, I (A.oi (A.len TL))), (31, I i), (39, .sl 3 WL), (40, I (A.oi (A.len WL))), (41, I q.1)], H := [.box (.agg [I s.benches, .sl 3 TL]), .ob (.mp 2 q.2.2.2), .box (.agg [I t.ready, I t.due, .sl 3 WL])], nt := 146, dfs := [] })
      (fun q => M - q.2.1) (fun q => q.2.1 ≤ M ∧ IsI q.1 q.2.1 ∧ q.2.2.1 = preH t q.2.1 ∧ HeadOk s A q.2.2.2 k q.2.1) (0, 0, t.ready, ents) ⟨Nat.zero_le _, ⟨rfl⟩, (preH_zero t).symm, u4⟩ ?_ ?_
    · exact gs_to [0, 1, 2] ⟨by decide, pre0, ⟨rfl, rfl, rfl, trivial⟩, ⟨rfl, rfl, rfl, rfl, rfl, rfl, rfl, rfl, rfl, rfl, rfl, rfl, trivial⟩, rfl, rfl⟩
    rintro ⟨j, m, h, en⟩ ⟨v1, v2, v3, v4⟩
    dsimp only at v1 v2 v3 v4
    refine wp_goF tokT hA hS [] ?_
    cbv
    refine bm (fun c2 => ?_) (fun c2 => ?_)
    · have hm : m < M := yltL hA hWl v2 c2
      obtain ⟨w, hw⟩ : ∃ w, w = t.works[m] := ⟨_, rfl⟩
      have hwk : t.works[m]? = some w := by rw [hw]; exact List.getElem?_eq_getElem (by omega)
      have hwm := hv.wk t htm w (List.mem_of_getElem? hwk)
      have hWk : WL[m]? = some (.agg [I w.b, I w.lo, I w.hi]) := by rw [hWL]; simp [hwk, workD]
      have iw := yinbL hA hWl v2 hm
      have gw := yget hA v2 hWk
      have hfm := yfit1 hA v2 (by omega)
      have hv2 := ysucc hA v2
      have hms2 : M - (m + 1) < M - m := by omega
      have hpb := preH_btw hv htm m
      have hfa : A.fits .i64 (A.add h w.hi) := xfitE hA (xadd hA _ _) (by rw [v3]; omega)
      have hnx : A.add h w.hi = preH t (m + 1) := by rw [xadd hA, v3, preH_succ hwk]
      have hhd := head_put hA v4 htk u2 v2 v3
      cbv
      refine ⟨iw, ⟨_, gw, ?_⟩⟩
      cbv
      refine ⟨[i, j], ⟨rfl, rfl⟩, ?_⟩
      cbv
      refine ⟨hfa, hfm, ?_⟩
      refine gs_loop (A.add j 1, m + 1, A.add h w.hi, A.mput en [i, j] (I h)) [0, 1, 2] ⟨hm, hv2, hnx, hhd⟩ hms2 ?_
      exact ⟨by decide, pre0, ⟨rfl, rfl, rfl, trivial⟩, ⟨rfl, rfl, rfl, rfl, rfl, rfl, rfl, rfl, rfl, rfl, rfl, rfl, trivial⟩, rfl, rfl⟩
    · have hm : m = M := by have := ynltL hA hWl v2 c2; omega
      rw [hm] at v3 v4
      have hMi : IsI (A.oi (A.len WL)) M := ⟨yoiL hA hWl⟩
      have hhd := head_put hA v4 htk u2 hMi v3
      rw [hM] at hhd
      have hhn := head_next htk hhd
      have hnx : A.max o h = bd0 s (k + 1) := by rw [xmax hA, bd0_succ htk, u3, v3, hM]
      cbv
      refine gs_done ?_
      cbv
      refine ⟨[i, A.oi (A.len WL)], ⟨rfl, rfl⟩, ?_⟩
      cbv
      refine ⟨hf, ?_⟩
      refine gs_loop (A.add i 1, k + 1, A.max o h, A.mput en [i, A.oi (A.len WL)] (I h)) [0, 1] ⟨hk, hu2, hnx, hhn⟩ hms ?_
      exact ⟨by decide, pre0, ⟨rfl, rfl, trivial⟩, ⟨rfl, rfl, rfl, rfl, rfl, rfl, trivial⟩, rfl, rfl⟩
  have hk : k = N := by have := ynltL hA hTl u2 c; omega
  rw [hk] at u3 u4
  cbv
  refine gs_done ?_
  cbv
  refine at_code hS ?_
  refine wpa_loopG (α := Int × Nat × Int) (fun q => { env := [(1, .b 0 0), (5, .mv 1), (6, I q.2.2), (69, I s.benches), (70, I q.1)], H := [.box (.agg [I s.benches, .sl 3 TL]), .ob (.mp 2 ents)], nt := 146, dfs := [] })
    (fun q => nb - q.2.1) (fun q => q.2.1 ≤ nb ∧ IsI q.1 q.2.1 ∧ q.2.2 = bdAt s q.2.1) (0, 0, o) ⟨Nat.zero_le _, ⟨rfl⟩, by rw [u3, bdAt_zero, hN]⟩ ?_ ?_
  · exact gs_to [0, 1] ⟨by decide, pre0, ⟨rfl, rfl, trivial⟩, ⟨rfl, rfl, rfl, rfl, rfl, trivial⟩, rfl, rfl⟩
  clear u1 u2 u3 hk c
  clear i k o
  rintro ⟨b, n, o⟩ ⟨x1, x2, x3⟩
  dsimp only at x1 x2 x3
  refine wp_goF tokT hA hS [] ?_
  cbv
  refine bm (fun c => ?_) (fun c => ?_)
  · have hn : n < nb := by have h : b < s.benches := xlt hA c; have := x2.eq; omega
    have hfb := yfit1 hA x2 (by omega)
    have hx2 := ysucc hA x2
    have hmsb : nb - (n + 1) < nb - n := by omega
    cbv
    refine at_code hS ?_
    refine wpa_loopG (α := Int × Nat × Int × Int × Int) (fun q => { env := [(1, .b 0 0), (5, .mv 1), (6, I o), (12, I b), (13, I q.2.2.1), (14, I q.2.2.2.1), (15, I q.2.2.2.2), (69, I s.benches), (70, I b), (74, .sl 3 TL), (75, I (A.oi (A.len TL))), (76, I q.1)], H := [.box (.agg [I s.benches, .sl 3 TL]), .ob (.mp 2 ents)], nt := 146, dfs := [] })
      (fun q => N - q.2.1) (fun q => q.2.1 ≤ N ∧ IsI q.1 q.2.1 ∧ q.2.2 = frAt s n q.2.1 0) (0, 0, -1, -1, 0) ⟨Nat.zero_le _, ⟨rfl⟩, frAt_00.symm⟩ ?_ ?_
    · exact gs_to [0, 1] ⟨by decide, pre0, ⟨rfl, rfl, trivial⟩, ⟨rfl, rfl, rfl, rfl, rfl, rfl, rfl, rfl, rfl, rfl, rfl, rfl, trivial⟩, rfl, rfl⟩
    rintro ⟨i, k, F, R, L⟩ ⟨u1, u2, u3⟩
    dsimp only at u1 u2 u3
    refine wp_goF tokT hA hS [] ?_
    cbv
    refine bm (fun c1 => ?_) (fun c1 => ?_)
    · have hk : k < N := yltL hA hTl u2 c1
      obtain ⟨t, ht⟩ : ∃ t, t = s.tasks[k] := ⟨_, rfl⟩
      have htk : s.tasks[k]? = some t := by rw [ht]; exact List.getElem?_eq_getElem (by omega)
      have htm : t ∈ s.tasks := List.mem_of_getElem? htk
      obtain ⟨WL, hWL⟩ : ∃ WL, WL = t.works.map workD := ⟨_, rfl⟩
      obtain ⟨M, hM⟩ : ∃ M, M = t.works.length := ⟨_, rfl⟩
      have hWl : WL.length = M := by rw [hWL, hM]; simp
      have hM8 : M ≤ 8 := by rw [hM]; exact works_le hv htm
      have hTk : TL[k]? = some (.agg [I t.ready, I t.due, .sl 3 WL]) := by rw [hT]; simp [htk, hWL, taskD]
      have hin := yinbL hA hTl u2 hk
      have hg := yget hA u2 hTk
      have hf := yfit1 hA u2 (by omega)
      have hu2 := ysucc hA u2
      have hms : N - (k + 1) < N - k := by omega
      have hMi : IsI (A.oi (A.len WL)) M := ⟨yoiL hA hWl⟩
      cbv
      refine ⟨hin, ⟨_, hg, ?_⟩⟩
      cbv
      refine at_code hS ?_
      refine wpa_loopG (α := Int × Nat × Int × Int × Int) (fun q => { env := [(1, .b 0 0), (5, .mv 1), (6, I o), (12, I b), (13, I q.2.2.1), (14, I q.2.2.2.1), (15, I q.2.2.2.2), (16, I i), (17, .b 2 0), (69, I s.benches), (70, I b), (74, .sl 3 TL), (75, I (A.oi (A.len TL))), (76, I i), (82, .sl 3 WL), (83, I (A.oi (A.len WL))), (84, I q.1)], H := [.box (.agg [I s.benches, .sl 3 TL]), .ob (.mp 2 ents), .box (.agg [I t.ready, I t.due, .sl 3 WL])], nt := 146, dfs := [] })
        (fun q => M - q.2.1) (fun q => q.2.1 ≤ M ∧ IsI q.1 q.2.1 ∧ q.2.2 = frAt s n k q.2.1) (0, 0, F, R, L) ⟨Nat.zero_le _, ⟨rfl⟩, u3⟩ ?_ ?_
      · exact gs_to [0, 1, 2] ⟨by decide, pre0, ⟨rfl, rfl, rfl, trivial⟩, ⟨rfl, rfl, rfl, rfl, rfl, rfl, rfl, rfl, rfl, rfl, rfl, rfl, rfl, rfl, rfl, rfl, rfl, trivial⟩, rfl, rfl⟩
      rintro ⟨j, m, f, r, l⟩ ⟨v1, v2, v3⟩
      dsimp only at v1 v2 v3
      refine wp_goF tokT hA hS [32, 34] ?_
      cbv
      refine bm (fun c2 => ?_) (fun c2 => ?_)
      · have hm : m < M := yltL hA hWl v2 c2
        obtain ⟨w, hw⟩ : ∃ w, w = t.works[m] := ⟨_, rfl⟩
        have hwk : t.works[m]? = some w := by rw [hw]; exact List.getElem?_eq_getElem (by omega)
        have hwm := hv.wk t htm w (List.mem_of_getElem? hwk)
        have hWk : WL[m]? = some (.agg [I w.b, I w.lo, I w.hi]) := by rw [hWL]; simp [hwk, workD]
        have iw := yinbL hA hWl v2 hm
        have gw := yget hA v2 hWk
        have hfm := yfit1 hA v2 (by omega)
        have hv2 := ysucc hA v2
        have hms2 : M - (m + 1) < M - m := by omega
        obtain ⟨a1, a2, a3, a4, a5, a6, a7⟩ := (v3 ▸ frAt_ok hv : FrOk (f, r, l) 100)
        dsimp only at a1 a2 a3 a4 a5 a6 a7
        obtain ⟨p0, hp0⟩ : ∃ p, p = preH t m := ⟨_, rfl⟩
        obtain ⟨p2, hp2⟩ : ∃ p, p = preH t M := ⟨_, rfl⟩
        obtain ⟨p3, hp3⟩ : ∃ p, p = preH t (m + 1) := ⟨_, rfl⟩
        have hl1 := u4 k m t i j htk u2 v2 (.inl ⟨hk, by omega⟩)
        have hl2 := u4 k M t i (A.oi (A.len WL)) htk u2 hMi (.inl ⟨hk, by omega⟩)
        have hl3 := u4 k (m + 1) t i (A.add j 1) htk u2 hv2 (.inl ⟨hk, by omega⟩)
        rw [← hp0] at hl1
        rw [← hp2] at hl2
        rw [← hp3] at hl3
        have hpb := preH_btw hv htm m
        have hpb2 := preH_btw hv htm M
        have hpb3 := preH_btw hv htm (m + 1)
        rw [← hp0] at hpb
        rw [← hp2] at hpb2
        rw [← hp3] at hpb3
        obtain ⟨p1, hp1⟩ : ∃ p, p = A.sub p2 p3 := ⟨_, rfl⟩
        have hp1e : p1 = sufH t (m + 1) := by rw [hp1, xsub hA, hp2, hp3, hM, preH_suf]
        have hfs : A.fits .i64 (A.sub p2 p3) := xfitE hA (xsub hA _ _) (by omega)
        have hfl : A.fits .i64 (A.add l w.hi) := xfitE hA (xadd hA _ _) (by omega)
        cbv
        refine ⟨iw, ⟨_, gw, ?_⟩⟩
        cbv
        refine bm (fun c3 => ?_) (fun c3 => ?_)
        · have hnx : (f, r, l) = frAt s n k (m + 1) := by
            rw [frAt_succ htk hwk, ← v3, frS, if_neg]
            have h : ¬ w.b = b := xne hA c3
            have := x2.eq; dsimp only; omega
          cbv
          refine ⟨hfm, ?_⟩
          refine gs_loop (A.add j 1, m + 1, f, r, l) [0, 1, 2] ⟨hm, hv2, hnx⟩ hms2 ?_
          exact ⟨by decide, pre0, ⟨rfl, rfl, rfl, trivial⟩, ⟨rfl, rfl, rfl, rfl, rfl, rfl, rfl, rfl, rfl, rfl, rfl, rfl, rfl, rfl, rfl, rfl, rfl, trivial⟩, rfl, rfl⟩
        obtain ⟨f', hf'⟩ : ∃ x, x = mnm f p0 := ⟨_, rfl⟩
        obtain ⟨r', hr'⟩ : ∃ x, x = mnm r p1 := ⟨_, rfl⟩
        have hnx : (f', r', A.add l w.hi) = frAt s n k (m + 1) := by
          rw [frAt_succ htk hwk, ← v3, frS, if_pos, hf', hr', xadd hA, hp0, hp1e]
          have h : w.b = b := xnne hA c3
          have := x2.eq; dsimp only; omega
        obtain ⟨b1, hb1⟩ : ∃ b, b = decide (f < 0 ∨ p0 < f) := ⟨_, rfl⟩
        obtain ⟨b2, hb2⟩ : ∃ b, b = decide (r < 0 ∨ p1 < r) := ⟨_, rfl⟩
        cbv
        refine ⟨[i, j], ⟨rfl, rfl⟩, ⟨_, hl1, ?_⟩⟩
        cbv
        refine draw_go tokT hA hS [0, 1, 2, 3, 4, 5, 6, 7, 8, 9, 10, 11, 12, 13, 14] rfl rfl fun Dk hD => ?_
        cbv
        refine ⟨[i, A.oi (A.len WL)], ⟨rfl, rfl⟩, ⟨_, hl2, ?_⟩⟩
        cbv
        refine ⟨hfm, ⟨[i, A.add j 1], ⟨rfl, rfl⟩, ⟨_, hl3, ?_⟩⟩⟩
        cbv
        refine ⟨hfs, ?_⟩
        refine code_cut hS { env := [(1, .b 0 0), (5, .mv 1), (6, I o), (12, I b), (13, I f), (14, I r), (15, I l), (16, I i), (17, .b 2 0), (19, .b 3 0), (20, I p0), (21, I p1), (69, I s.benches), (70, I b), (74, .sl 3 TL), (75, I (A.oi (A.len TL))), (76, I i), (82, .sl 3 WL), (83, I (A.oi (A.len WL))), (84, I j), (118, .v (.bool b1))], H := [.box (.agg [I s.benches, .sl 3 TL]), .ob (.mp 2 ents), .box (.agg [I t.ready, I t.due, .sl 3 WL]), .box (.agg [I w.b, I w.lo, I w.hi])], nt := 146, dfs := [] } ?_ ?_
        · refine region_part tokT hA hS [0, 1, 2] [3, 4, 5, 6] rfl ?_
          cbv
          by_cases h0 : f < 0
          · have e0 : A.cmp .lss f 0 = true := yltT hA h0
            have e : b1 = true := by rw [hb1]; exact decide_eq_true (.inl h0)
            refine part_is tokT hA hS 114 (.v (.bool true)) rfl (congrArg (fun b => D.v (.bool b)) e0) [3, 4, 5, 6] [] ?_
            cbv
            refine at_ops hS (ops_go tokT hA hS ?_)
            cbv
            exact gs_to [0, 1, 2, 3] ⟨by decide, pre0, ⟨rfl, rfl, rfl, rfl, trivial⟩, ⟨(by first | rfl | (rw [hp1]; rfl)), (by first | rfl | (rw [hp1]; rfl)), (by first | rfl | (rw [hp1]; rfl)), (by first | rfl | (rw [hp1]; rfl)), (by first | rfl | (rw [hp1]; rfl)), (by first | rfl | (rw [hp1]; rfl)), (by first | rfl | (rw [hp1]; rfl)), (by first | rfl | (rw [hp1]; rfl)), (by first | rfl | (rw [hp1]; rfl)), (by first | rfl | (rw [hp1]; rfl)), (by first | rfl | (rw [hp1]; rfl)), (by first | rfl | (rw [hp1]; rfl)), (by first | rfl | (rw [hp1]; rfl)), (by first | rfl | (rw [hp1]; rfl)), (by first | rfl | (rw [hp1]; rfl)), (by first | rfl | (rw [hp1]; rfl)), (by first | rfl | (rw [hp1]; rfl)), (by first | rfl | (rw [hp1]; rfl)), (by first | rfl | (rw [hp1]; rfl)), (by first | rfl | (rw [hp1]; rfl)), by first | (rw [e]; done) | (rw [e]; rfl) | (rw [e, hp1]; rfl), trivial⟩, rfl, rfl⟩
          · have e0 : A.cmp .lss f 0 = false := yltF hA (by omega)
            have e : b1 = A.cmp .lss p0 f := by rw [hb1]; subst hA; exact decide_eq_decide.2 ⟨fun h => h.resolve_left h0, .inr⟩
            refine part_is tokT hA hS 114 (.v (.bool false)) rfl (congrArg (fun b => D.v (.bool b)) e0) [3, 4, 5, 6] [] ?_
            cbv
            refine at_ops hS (ops_go tokT hA hS ?_)
            cbv
            exact gs_to [0, 1, 2, 3] ⟨by decide, pre0, ⟨rfl, rfl, rfl, rfl, trivial⟩, ⟨(by first | rfl | (rw [hp1]; rfl)), (by first | rfl | (rw [hp1]; rfl)), (by first | rfl | (rw [hp1]; rfl)), (by first | rfl | (rw [hp1]; rfl)), (by first | rfl | (rw [hp1]; rfl)), (by first | rfl | (rw [hp1]; rfl)), (by first | rfl | (rw [hp1]; rfl)), (by first | rfl | (rw [hp1]; rfl)), (by first | rfl | (rw [hp1]; rfl)), (by first | rfl | (rw [hp1]; rfl)), (by first | rfl | (rw [hp1]; rfl)), (by first | rfl | (rw [hp1]; rfl)), (by first | rfl | (rw [hp1]; rfl)), (by first | rfl | (rw [hp1]; rfl)), (by first | rfl | (rw [hp1]; rfl)), (by first | rfl | (rw [hp1]; rfl)), (by first | rfl | (rw [hp1]; rfl)), (by first | rfl | (rw [hp1]; rfl)), (by first | rfl | (rw [hp1]; rfl)), (by first | rfl | (rw [hp1]; rfl)), by first | (rw [e]; done) | (rw [e]; rfl) | (rw [e, hp1]; rfl), trivial⟩, rfl, rfl⟩
        cbv
        refine bm (fun c4 => ?_) (fun c4 => ?_)
        · have hf1 : p0 = f' := by rw [c4] at hb1; rw [hf', mnm, if_pos (of_decide_eq_true hb1.symm)]
          cbv
          refine code_cut hS { env := [(1, .b 0 0), (5, .mv 1), (6, I o), (12, I b), (13, I f'), (14, I r), (15, I l), (16, I i), (17, .b 2 0), (19, .b 3 0), (20, I p0), (21, I p1), (69, I s.benches), (70, I b), (74, .sl 3 TL), (75, I (A.oi (A.len TL))), (76, I i), (82, .sl 3 WL), (83, I (A.oi (A.len WL))), (84, I j), (126, .v (.bool b2))], H := [.box (.agg [I s.benches, .sl 3 TL]), .ob (.mp 2 ents), .box (.agg [I t.ready, I t.due, .sl 3 WL]), .box (.agg [I w.b, I w.lo, I w.hi])], nt := 146, dfs := [] } ?_ ?_
          · refine region_part tokT hA hS [0, 1, 2] [3, 4, 5, 6] rfl ?_
            cbv
            by_cases h0 : r < 0
            · have e0 : A.cmp .lss r 0 = true := yltT hA h0
              have e : b2 = true := by rw [hb2]; exact decide_eq_true (.inl h0)
              refine part_is tokT hA hS 122 (.v (.bool true)) rfl (congrArg (fun b => D.v (.bool b)) e0) [3, 4, 5, 6] [] ?_
              cbv
              refine at_ops hS (ops_go tokT hA hS ?_)
              cbv
              exact gs_to [0, 1, 2, 3] ⟨by decide, pre0, ⟨rfl, rfl, rfl, rfl, trivial⟩, ⟨(by first | rfl | (rw [hf1]; rfl)), (by first | rfl | (rw [hf1]; rfl)), (by first | rfl | (rw [hf1]; rfl)), (by first | rfl | (rw [hf1]; rfl)), (by first | rfl | (rw [hf1]; rfl)), (by first | rfl | (rw [hf1]; rfl)), (by first | rfl | (rw [hf1]; rfl)), (by first | rfl | (rw [hf1]; rfl)), (by first | rfl | (rw [hf1]; rfl)), (by first | rfl | (rw [hf1]; rfl)), (by first | rfl | (rw [hf1]; rfl)), (by first | rfl | (rw [hf1]; rfl)), (by first | rfl | (rw [hf1]; rfl)), (by first | rfl | (rw [hf1]; rfl)), (by first | rfl | (rw [hf1]; rfl)), (by first | rfl | (rw [hf1]; rfl)), (by first | rfl | (rw [hf1]; rfl)), (by first | rfl | (rw [hf1]; rfl)), (by first | rfl | (rw [hf1]; rfl)), (by first | rfl | (rw [hf1]; rfl)), by first | (rw [e]; done) | (rw [e]; rfl) | (rw [e, hf1]; rfl), trivial⟩, rfl, rfl⟩
            · have e0 : A.cmp .lss r 0 = false := yltF hA (by omega)
              have e : b2 = A.cmp .lss p1 r := by rw [hb2]; subst hA; exact decide_eq_decide.2 ⟨fun h => h.resolve_left h0, .inr⟩
              refine part_is tokT hA hS 122 (.v (.bool false)) rfl (congrArg (fun b => D.v (.bool b)) e0) [3, 4, 5, 6] [] ?_
              cbv
              refine at_ops hS (ops_go tokT hA hS ?_)
              cbv
              exact gs_to [0, 1, 2, 3] ⟨by decide, pre0, ⟨rfl, rfl, rfl, rfl, trivial⟩, ⟨(by first | rfl | (rw [hf1]; rfl)), (by first | rfl | (rw [hf1]; rfl)), (by first | rfl | (rw [hf1]; rfl)), (by first | rfl | (rw [hf1]; rfl)), (by first | rfl | (rw [hf1]; rfl)), (by first | rfl | (rw [hf1]; rfl)), (by first | rfl | (rw [hf1]; rfl)), (by first | rfl | (rw [hf1]; rfl)), (by first | rfl | (rw [hf1]; rfl)), (by first | rfl | (rw [hf1]; rfl)), (by first | rfl | (rw [hf1]; rfl)), (by first | rfl | (rw [hf1]; rfl)), (by first | rfl | (rw [hf1]; rfl)), (by first | rfl | (rw [hf1]; rfl)), (by first | rfl | (rw [hf1]; rfl)), (by first | rfl | (rw [hf1]; rfl)), (by first | rfl | (rw [hf1]; rfl)), (by first | rfl | (rw [hf1]; rfl)), (by first | rfl | (rw [hf1]; rfl)), (by first | rfl | (rw [hf1]; rfl)), by first | (rw [e]; done) | (rw [e]; rfl) | (rw [e, hf1]; rfl), trivial⟩, rfl, rfl⟩
          cbv
          refine bm (fun c5 => ?_) (fun c5 => ?_)
          · have hr1 : p1 = r' := by rw [c5] at hb2; rw [hr', mnm, if_pos (of_decide_eq_true hb2.symm)]
            cbv
            refine ⟨hfl, hfm, ?_⟩
            refine gs_loop (A.add j 1, m + 1, f', r', A.add l w.hi) [0, 1, 2] ⟨hm, hv2, hnx⟩ hms2 ?_
            exact ⟨by decide, pre0, ⟨rfl, rfl, rfl, trivial⟩, ⟨(by first | rfl | (rw [hr1]; rfl)), (by first | rfl | (rw [hr1]; rfl)), (by first | rfl | (rw [hr1]; rfl)), (by first | rfl | (rw [hr1]; rfl)), (by first | rfl | (rw [hr1]; rfl)), (by first | rfl | (rw [hr1]; rfl)), (by first | rfl | (rw [hr1]; rfl)), (by first | rfl | (rw [hr1]; rfl)), (by first | rfl | (rw [hr1]; rfl)), (by first | rfl | (rw [hr1]; rfl)), (by first | rfl | (rw [hr1]; rfl)), (by first | rfl | (rw [hr1]; rfl)), (by first | rfl | (rw [hr1]; rfl)), (by first | rfl | (rw [hr1]; rfl)), (by first | rfl | (rw [hr1]; rfl)), (by first | rfl | (rw [hr1]; rfl)), (by first | rfl | (rw [hr1]; rfl)), trivial⟩, rfl, rfl⟩
          · have hr1 : r = r' := by rw [c5] at hb2; rw [hr', mnm, if_neg (of_decide_eq_false hb2.symm)]
            cbv
            refine ⟨hfl, hfm, ?_⟩
            refine gs_loop (A.add j 1, m + 1, f', r', A.add l w.hi) [0, 1, 2] ⟨hm, hv2, hnx⟩ hms2 ?_
            exact ⟨by decide, pre0, ⟨rfl, rfl, rfl, trivial⟩, ⟨(by first | rfl | (rw [hr1]; rfl)), (by first | rfl | (rw [hr1]; rfl)), (by first | rfl | (rw [hr1]; rfl)), (by first | rfl | (rw [hr1]; rfl)), (by first | rfl | (rw [hr1]; rfl)), (by first | rfl | (rw [hr1]; rfl)), (by first | rfl | (rw [hr1]; rfl)), (by first | rfl | (rw [hr1]; rfl)), (by first | rfl | (rw [hr1]; rfl)), (by first | rfl | (rw [hr1]; rfl)), (by first | rfl | (rw [hr1]; rfl)), (by first | rfl | (rw [hr1]; rfl)), (by first | rfl | (rw [hr1]; rfl)), (by first | rfl | (rw [hr1]; rfl)), (by first | rfl | (rw [hr1]; rfl)), (by first | rfl | (rw [hr1]; rfl)), (by first | rfl | (rw [hr1]; rfl)), trivial⟩, rfl, rfl⟩
        · have hf1 : f = f' := by rw [c4] at hb1; rw [hf', mnm, if_neg (of_decide_eq_false hb1.symm)]
          cbv
          refine code_cut hS { env := [(1, .b 0 0), (5, .mv 1), (6, I o), (12, I b), (13, I f'), (14, I r), (15, I l), (16, I i), (17, .b 2 0), (19, .b 3 0), (20, I p0), (21, I p1), (69, I s.benches), (70, I b), (74, .sl 3 TL), (75, I (A.oi (A.len TL))), (76, I i), (82, .sl 3 WL), (83, I (A.oi (A.len WL))), (84, I j), (126, .v (.bool b2))], H := [.box (.agg [I s.benches, .sl 3 TL]), .ob (.mp 2 ents), .box (.agg [I t.ready, I t.due, .sl 3 WL]), .box (.agg [I w.b, I w.lo, I w.hi])], nt := 146, dfs := [] } ?_ ?_
          · refine region_part tokT hA hS [0, 1, 2] [3, 4, 5, 6] rfl ?_
            cbv
            by_cases h0 : r < 0
            · have e0 : A.cmp .lss r 0 = true := yltT hA h0
              have e : b2 = true := by rw [hb2]; exact decide_eq_true (.inl h0)
              refine part_is tokT hA hS 122 (.v (.bool true)) rfl (congrArg (fun b => D.v (.bool b)) e0) [3, 4, 5, 6] [] ?_
              cbv
              refine at_ops hS (ops_go tokT hA hS ?_)
              cbv
              exact gs_to [0, 1, 2, 3] ⟨by decide, pre0, ⟨rfl, rfl, rfl, rfl, trivial⟩, ⟨(by first | rfl | (rw [hf1]; rfl)), (by first | rfl | (rw [hf1]; rfl)), (by first | rfl | (rw [hf1]; rfl)), (by first | rfl | (rw [hf1]; rfl)), (by first | rfl | (rw [hf1]; rfl)), (by first | rfl | (rw [hf1]; rfl)), (by first | rfl | (rw [hf1]; rfl)), (by first | rfl | (rw [hf1]; rfl)), (by first | rfl | (rw [hf1]; rfl)), (by first | rfl | (rw [hf1]; rfl)), (by first | rfl | (rw [hf1]; rfl)), (by first | rfl | (rw [hf1]; rfl)), (by first | rfl | (rw [hf1]; rfl)), (by first | rfl | (rw [hf1]; rfl)), (by first | rfl | (rw [hf1]; rfl)), (by first | rfl | (rw [hf1]; rfl)), (by first | rfl | (rw [hf1]; rfl)), (by first | rfl | (rw [hf1]; rfl)), (by first | rfl | (rw [hf1]; rfl)), (by first | rfl | (rw [hf1]; rfl)), by first | (rw [e]; done) | (rw [e]; rfl) | (rw [e, hf1]; rfl), trivial⟩, rfl, rfl⟩
            · have e0 : A.cmp .lss r 0 = false := yltF hA (by omega)
              have e : b2 = A.cmp .lss p1 r := by rw [hb2]; subst hA; exact decide_eq_decide.2 ⟨fun h => h.resolve_left h0, .inr⟩
              refine part_is tokT hA hS 122 (.v (.bool false)) rfl (congrArg (fun b => D.v (.bool b)) e0) [3, 4, 5, 6] [] ?_
              cbv
              refine at_ops hS (ops_go tokT hA hS ?_)
              cbv
              exact gs_to [0, 1, 2, 3] ⟨by decide, pre0, ⟨rfl, rfl, rfl, rfl, trivial⟩, ⟨(by first | rfl | (rw [hf1]; rfl)), (by first | rfl | (rw [hf1]; rfl)), (by first | rfl | (rw [hf1]; rfl)), (by first | rfl | (rw [hf1]; rfl)), (by first | rfl | (rw [hf1]; rfl)), (by first | rfl | (rw [hf1]; rfl)), (by first | rfl | (rw [hf1]; rfl)), (by first | rfl | (rw [hf1]; rfl)), (by first | rfl | (rw [hf1]; rfl)), (by first | rfl | (rw [hf1]; rfl)), (by first | rfl | (rw [hf1]; rfl)), (by first | rfl | (rw [hf1]; rfl)), (by first | rfl | (rw [hf1]; rfl)), (by first | rfl | (rw [hf1]; rfl)), (by first | rfl | (rw [hf1]; rfl)), (by first | rfl | (rw [hf1]; rfl)), (by first | rfl | (rw [hf1]; rfl)), (by first | rfl | (rw [hf1]; rfl)), (by first | rfl | (rw [hf1]; rfl)), (by first | rfl | (rw [hf1]; rfl)), by first | (rw [e]; done) | (rw [e]; rfl) | (rw [e, hf1]; rfl), trivial⟩, rfl, rfl⟩
          cbv
          refine bm (fun c5 => ?_) (fun c5 => ?_)
          · have hr1 : p1 = r' := by rw [c5] at hb2; rw [hr', mnm, if_pos (of_decide_eq_true hb2.symm)]
            cbv
            refine ⟨hfl, hfm, ?_⟩
            refine gs_loop (A.add j 1, m + 1, f', r', A.add l w.hi) [0, 1, 2] ⟨hm, hv2, hnx⟩ hms2 ?_
            exact ⟨by decide, pre0, ⟨rfl, rfl, rfl, trivial⟩, ⟨(by first | rfl | (rw [hr1]; rfl)), (by first | rfl | (rw [hr1]; rfl)), (by first | rfl | (rw [hr1]; rfl)), (by first | rfl | (rw [hr1]; rfl)), (by first | rfl | (rw [hr1]; rfl)), (by first | rfl | (rw [hr1]; rfl)), (by first | rfl | (rw [hr1]; rfl)), (by first | rfl | (rw [hr1]; rfl)), (by first | rfl | (rw [hr1]; rfl)), (by first | rfl | (rw [hr1]; rfl)), (by first | rfl | (rw [hr1]; rfl)), (by first | rfl | (rw [hr1]; rfl)), (by first | rfl | (rw [hr1]; rfl)), (by first | rfl | (rw [hr1]; rfl)), (by first | rfl | (rw [hr1]; rfl)), (by first | rfl | (rw [hr1]; rfl)), (by first | rfl | (rw [hr1]; rfl)), trivial⟩, rfl, rfl⟩
          · have hr1 : r = r' := by rw [c5] at hb2; rw [hr', mnm, if_neg (of_decide_eq_false hb2.symm)]
            cbv
            refine ⟨hfl, hfm, ?_⟩
            refine gs_loop (A.add j 1, m + 1, f', r', A.add l w.hi) [0, 1, 2] ⟨hm, hv2, hnx⟩ hms2 ?_
            exact ⟨by decide, pre0, ⟨rfl, rfl, rfl, trivial⟩, ⟨(by first | rfl | (rw [hr1]; rfl)), (by first | rfl | (rw [hr1]; rfl)), (by first | rfl | (rw [hr1]; rfl)), (by first | rfl | (rw [hr1]; rfl)), (by first | rfl | (rw [hr1]; rfl)), (by first | rfl | (rw [hr1]; rfl)), (by first | rfl | (rw [hr1]; rfl)), (by first | rfl | (rw [hr1]; rfl)), (by first | rfl | (rw [hr1]; rfl)), (by first | rfl | (rw [hr1]; rfl)), (by first | rfl | (rw [hr1]; rfl)), (by first | rfl | (rw [hr1]; rfl)), (by first | rfl | (rw [hr1]; rfl)), (by first | rfl | (rw [hr1]; rfl)), (by first | rfl | (rw [hr1]; rfl)), (by first | rfl | (rw [hr1]; rfl)), (by first | rfl | (rw [hr1]; rfl)), trivial⟩, rfl, rfl⟩
      · have hm : m = M := by have := ynltL hA hWl v2 c2; omega
        have hnx : (f, r, l) = frAt s n (k + 1) 0 := by rw [v3, hm, hM, frAt_all htk]
        cbv
        refine gs_done ?_
        cbv
        refine ⟨hf, ?_⟩
        refine gs_loop (A.add i 1, k + 1, f, r, l) [0, 1] ⟨hk, hu2, hnx⟩ hms ?_
        exact ⟨by decide, pre0, ⟨rfl, rfl, trivial⟩, ⟨rfl, rfl, rfl, rfl, rfl, rfl, rfl, rfl, rfl, rfl, rfl, rfl, trivial⟩, rfl, rfl⟩
    · have hk : k = N := by have := ynltL hA hTl u2 c1; omega
      rw [hk] at u3
      obtain ⟨a1, a2, a3, a4, a5, a6, a7⟩ := (u3 ▸ frAt_ok hv : FrOk (F, R, L) 100)
      dsimp only at a1 a2 a3 a4 a5 a6 a7
      have hfa : A.fits .i64 (A.add F L) := xfitE hA (xadd hA _ _) (by omega)
      have hfc : A.fits .i64 (A.add (A.add F L) R) := xfitE hA (by rw [xadd hA, xadd hA]) (by omega)
      have hst := bdAt_succ (s := s) n
      rw [bdS, ← hN, ← u3, ← x3] at hst
      dsimp only at hst
      cbv
      refine gs_done ?_
      cbv
      refine bm (fun c2 => ?_) (fun c2 => ?_)
      · have hnx : A.max o (A.add (A.add F L) R) = bdAt s (n + 1) := by rw [hst, if_pos (xgt hA c2), xmax hA, xadd hA, xadd hA]
        cbv
        refine ⟨hfa, hfc, hfb, ?_⟩
        refine gs_loop (A.add b 1, n + 1, A.max o (A.add (A.add F L) R)) [0, 1] ⟨hn, hx2, hnx⟩ hmsb ?_
        exact ⟨by decide, pre0, ⟨rfl, rfl, trivial⟩, ⟨rfl, rfl, rfl, rfl, rfl, trivial⟩, rfl, rfl⟩
      · have hnx : o = bdAt s (n + 1) := by rw [hst, if_neg (by have := xngt hA c2; omega)]
        cbv
        refine ⟨hfb, ?_⟩
        refine gs_loop (A.add b 1, n + 1, o) [0, 1] ⟨hn, hx2, hnx⟩ hmsb ?_
        exact ⟨by decide, pre0, ⟨rfl, rfl, trivial⟩, ⟨rfl, rfl, rfl, rfl, rfl, trivial⟩, rfl, rfl⟩
  · have hn : n = nb := by have h : s.benches ≤ b := xnlt hA c; have := x2.eq; omega
    rw [hn] at x3
    cbv
    refine gs_done ?_
    cbv
    exact gh_view [] (by decide) pre0 (H' := []) (d' := .tup [I o, I 0]) trivial rfl (gh_done (h2 o x3))
end Go.Proofs.YtmloogdalecilaaDoor

/-! D59 -/
namespace Go.Proofs.YtmloogdalecilaaDoor
open Go Go.Abs Go.Proofs

theorem ysubLo {A : Ar} (hA : A = ar) {l l' : List D} {j : Int} {m : Nat} (e : IsI j m) (h : l.take m = l') : A.sub2 l 0 j = l' := by
  subst hA; have := e.eq; subst this; subst h; simp [ar]
theorem ysubLoOK {A : Ar} (hA : A = ar) {l : List D} {j : Int} {m : Nat} (e : IsI j m) (h : m ≤ l.length) : A.sub2OK l 0 j := by
  subst hA; have := e.eq; subst this; simp [ar]; omega
theorem ysubHi {A : Ar} (hA : A = ar) {l l' : List D} {j : Int} {m : Nat} (e : IsI j m) (h : l.drop m = l') : A.sub2 l j (A.oi (A.len l)) = l' := by
  subst hA; have := e.eq; subst this; subst h; simp [ar]
theorem ysubHiOK {A : Ar} (hA : A = ar) {l : List D} {j : Int} {m : Nat} (e : IsI j m) (h : m ≤ l.length) : A.sub2OK l j (A.oi (A.len l)) := by
  subst hA; have := e.eq; subst this; simp [ar]; omega

set_option maxRecDepth 20000 in
set_option maxHeartbeats 8000000 in
/-- Bound, the documents' own. -/
theorem rBound (s : Sh) (hs : Fin s) (TL : List D) (hT : TL = s.tasks.map taskD) (Q) (h1 : chkS s ≠ 0 → Q (RA.ret (.tup [I 0, I (chkS s)])) []) (h2 : ShopOk s → ∀ v, v = bdAt s s.benches.toNat → Q (RA.ret (.tup [I v, I 0])) []) :
    CallA Tryd.prog 51 [.agg [I s.benches, .sl 3 TL]] [] Q := by
  obtain ⟨A, hA⟩ : ∃ A, A = ar := ⟨_, rfl⟩
  obtain ⟨z, hz⟩ : ∃ z, z = chkS s := ⟨_, rfl⟩
  rw [← hz] at h1
  refine callA_start tokT hA Tryd.func51 rfl rfl rfl rfl rfl fun S hS => ?_
  cbv
  refine ops_call hS [.agg [I s.benches, .sl 3 TL]] [] [] rfl rfl rfl rfl rfl rfl rfl rfl (by decide) trivial (rLoad s hs TL hT _ (fun h0 => ?_) fun hok LL hLL => ?_)
  · rw [← hz] at h0 ⊢
    refine ops_go tokT hA hS ?_
    cbv
    refine bm (fun c => ?_) (fun c => ?_)
    · cbv
      exact gh_view [] (by decide) pre0 (H' := []) (d' := .tup [I 0, I z]) trivial rfl (gh_done (h1 h0))
    · exact absurd (xnne hA c) h0
  have hv := chkS_val hok.chk
  have hlen := hv.len
  have hb0 := hv.b0
  have hb1 := hv.b1
  replace h2 := h2 hok
  obtain ⟨N, hN⟩ : ∃ N, N = s.tasks.length := ⟨_, rfl⟩
  have hTl : TL.length = N := by rw [hT, hN]; simp
  obtain ⟨nb, hnb⟩ : ∃ nb, nb = s.benches.toNat := ⟨_, rfl⟩
  rw [← hnb] at h2 hLL
  rw [← hN] at hLL
  have hLl : LL.length = nb := by rw [hLL, ldD_len]
  refine ops_go tokT hA hS ?_
  cbv
  refine bm (fun c => absurd rfl (xne hA c)) (fun _ => ?_)
  cbv
  refine at_code hS ?_
  refine wpa_loopG (α := Int × Nat × Int) (fun q => { env := [(1, .b 0 0), (4, .sl 2 LL), (6, I q.2.2), (7, I q.1)], H := [.box (.agg [I s.benches, .sl 3 TL])], nt := 124, dfs := [] })
    (fun q => N - q.2.1) (fun q => q.2.1 ≤ N ∧ IsI q.1 q.2.1 ∧ q.2.2 = bd0 s q.2.1) (0, 0, 0) ⟨Nat.zero_le _, ⟨rfl⟩, rfl⟩ ?_ ?_
  · exact gs_to [0] ⟨by decide, pre0, ⟨rfl, trivial⟩, ⟨rfl, rfl, rfl, rfl, trivial⟩, rfl, rfl⟩
  rintro ⟨i, k, o⟩ ⟨u1, u2, u3⟩
  dsimp only at u1 u2 u3
  refine wp_goF tokT hA hS [] ?_
  cbv
  refine bm (fun c => ?_) (fun c => ?_)
  · have hk : k < N := yltL hA hTl u2 c
    obtain ⟨t, ht⟩ : ∃ t, t = s.tasks[k] := ⟨_, rfl⟩
    have htk : s.tasks[k]? = some t := by rw [ht]; exact List.getElem?_eq_getElem (by omega)
    have htm : t ∈ s.tasks := List.mem_of_getElem? htk
    obtain ⟨WL, hWL⟩ : ∃ WL, WL = t.works.map workD := ⟨_, rfl⟩
    have hM8 := works_le hv htm
    have hTk : TL[k]? = some (.agg [I t.ready, I t.due, .sl 3 WL]) := by rw [hT]; simp [htk, hWL, taskD]
    have hin := yinbL hA hTl u2 hk
    have hg := yget hA u2 hTk
    have hf := yfit1 hA u2 (by omega)
    have hu2 := ysucc hA u2
    have hms : N - (k + 1) < N - k := by omega
    obtain ⟨v, hv1⟩ : ∃ v, v = sumI (t.works.map (·.hi)) := ⟨_, rfl⟩
    have hpe : t.ready + v = preH t t.works.length := by rw [preH, List.take_length, hv1]
    have hpb := preH_btw hv htm t.works.length
    have hfa : A.fits .i64 (A.add t.ready v) := xfitE hA (by rw [xadd hA, hpe]) (by omega)
    have hnx : A.max o (A.add t.ready v) = bd0 s (k + 1) := by rw [xmax hA, xadd hA, hpe, bd0_succ htk, u3]
    cbv
    refine draw_go tokT hA hS [0, 1, 2, 3, 4, 5, 6, 7, 8, 9, 10, 11, 12, 13, 14, 15, 16] rfl rfl fun Dk hD => ?_
    cbv
    refine ⟨hin, ⟨_, hg, ?_⟩⟩
    cbv
    refine ⟨hin, ⟨_, hg, ?_⟩⟩
    cbv
    refine draw_call hA hD [.sl 3 WL] [] [] rfl rfl rfl rfl rfl rfl rfl rfl rfl rfl rfl (by decide) trivial (rLongest t.works WL hWL (by omega) (fun w hw => by have := hv.wk t htm w hw; omega) v hv1 _ ⟨by cbv; repeat' (first | exact trivial | exact Need.mk ⟨_, hg, rfl⟩ | refine ⟨?_, ?_⟩), draw_on tokT hA hD ?_⟩)
    cbv
    refine ⟨hfa, hf, ?_⟩
    refine gs_loop (A.add i 1, k + 1, A.max o (A.add t.ready v)) [0] ⟨hk, hu2, hnx⟩ hms ?_
    exact ⟨by decide, pre0, ⟨rfl, trivial⟩, ⟨rfl, rfl, rfl, rfl, trivial⟩, rfl, rfl⟩
  have hk : k = N := by have := ynltL hA hTl u2 c; omega
  rw [hk] at u3
  cbv
  refine gs_done ?_
  cbv
  refine at_code hS ?_
  refine wpa_loopG (α := Int × Nat × Int) (fun q => { env := [(1, .b 0 0), (4, .sl 2 LL), (6, I q.2.2), (8, I q.1)], H := [.box (.agg [I s.benches, .sl 3 TL])], nt := 124, dfs := [] })
    (fun q => nb - q.2.1) (fun q => q.2.1 ≤ nb ∧ IsI q.1 q.2.1 ∧ q.2.2 = bdAt s q.2.1) (0, 0, o) ⟨Nat.zero_le _, ⟨rfl⟩, by rw [u3, bdAt_zero, hN]⟩ ?_ ?_
  · exact gs_to [0] ⟨by decide, pre0, ⟨rfl, trivial⟩, ⟨rfl, rfl, rfl, rfl, trivial⟩, rfl, rfl⟩
  clear u1 u2 u3 hk c
  clear i k o
  rintro ⟨b, n, o⟩ ⟨x1, x2, x3⟩
  dsimp only at x1 x2 x3
  refine wp_goF tokT hA hS [] ?_
  cbv
  refine bm (fun c => ?_) (fun c => ?_)
  · have hn : n < nb := by have h : b < s.benches := xlt hA c; have := x2.eq; omega
    have hfb := yfit1 hA x2 (by omega)
    have hx2 := ysucc hA x2
    have hmsb : nb - (n + 1) < nb - n := by omega
    cbv
    refine at_code hS ?_
    refine wpa_loopG (α := Int × Nat × Int × Int × Int) (fun q => { env := [(1, .b 0 0), (4, .sl 2 LL), (6, I o), (8, I b), (9, I q.2.2.1), (10, I q.2.2.2.1), (11, I q.1)], H := [.box (.agg [I s.benches, .sl 3 TL])], nt := 124, dfs := [] })
      (fun q => N - q.2.1) (fun q => q.2.1 ≤ N ∧ IsI q.1 q.2.1 ∧ q.2.2 = frAt s n q.2.1 0) (0, 0, -1, -1, 0) ⟨Nat.zero_le _, ⟨rfl⟩, frAt_00.symm⟩ ?_ ?_
    · exact gs_to [0] ⟨by decide, pre0, ⟨rfl, trivial⟩, ⟨rfl, rfl, rfl, rfl, rfl, rfl, rfl, trivial⟩, rfl, rfl⟩
    rintro ⟨i, k, F, R, L⟩ ⟨u1, u2, u3⟩
    dsimp only at u1 u2 u3
    refine wp_goF tokT hA hS [] ?_
    cbv
    refine bm (fun c1 => ?_) (fun c1 => ?_)
    · have hk : k < N := yltL hA hTl u2 c1
      obtain ⟨t, ht⟩ : ∃ t, t = s.tasks[k] := ⟨_, rfl⟩
      have htk : s.tasks[k]? = some t := by rw [ht]; exact List.getElem?_eq_getElem (by omega)
      have htm : t ∈ s.tasks := List.mem_of_getElem? htk
      obtain ⟨WL, hWL⟩ : ∃ WL, WL = t.works.map workD := ⟨_, rfl⟩
      obtain ⟨M, hM⟩ : ∃ M, M = t.works.length := ⟨_, rfl⟩
      have hWl : WL.length = M := by rw [hWL, hM]; simp
      have hM8 : M ≤ 8 := by rw [hM]; exact works_le hv htm
      have hTk : TL[k]? = some (.agg [I t.ready, I t.due, .sl 3 WL]) := by rw [hT]; simp [htk, hWL, taskD]
      have hin := yinbL hA hTl u2 hk
      have hg := yget hA u2 hTk
      have hf := yfit1 hA u2 (by omega)
      have hu2 := ysucc hA u2
      have hms : N - (k + 1) < N - k := by omega
      cbv
      refine ⟨hin, ⟨_, hg, ?_⟩⟩
      cbv
      refine at_code hS ?_
      refine wpa_loopG (α := Int × Nat × Int × Int × Int) (fun q => { env := [(1, .b 0 0), (4, .sl 2 LL), (6, I o), (8, I b), (9, I q.2.2.1), (10, I q.2.2.2.1), (11, I i), (12, .b 1 0), (13, I q.1)], H := [.box (.agg [I s.benches, .sl 3 TL]), .box (.agg [I t.ready, I t.due, .sl 3 WL])], nt := 124, dfs := [] })
        (fun q => M - q.2.1) (fun q => q.2.1 ≤ M ∧ IsI q.1 q.2.1 ∧ q.2.2 = frAt s n k q.2.1) (0, 0, F, R, L) ⟨Nat.zero_le _, ⟨rfl⟩, u3⟩ ?_ ?_
      · exact gs_to [0, 1] ⟨by decide, pre0, ⟨rfl, rfl, trivial⟩, ⟨rfl, rfl, rfl, rfl, rfl, rfl, rfl, rfl, rfl, trivial⟩, rfl, rfl⟩
      rintro ⟨j, m, f, r, l⟩ ⟨v1, v2, v3⟩
      dsimp only at v1 v2 v3
      refine wp_goF tokT hA hS [22, 24] ?_
      cbv
      refine bm (fun c2 => ?_) (fun c2 => ?_)
      · have hm : m < M := yltL hA hWl v2 c2
        obtain ⟨w, hw⟩ : ∃ w, w = t.works[m] := ⟨_, rfl⟩
        have hwk : t.works[m]? = some w := by rw [hw]; exact List.getElem?_eq_getElem (by omega)
        have hwm := hv.wk t htm w (List.mem_of_getElem? hwk)
        have hWk : WL[m]? = some (.agg [I w.b, I w.lo, I w.hi]) := by rw [hWL]; simp [hwk, workD]
        have iw := yinbL hA hWl v2 hm
        have gw := yget hA v2 hWk
        have hfm := yfit1 hA v2 (by omega)
        have hv2 := ysucc hA v2
        have hms2 : M - (m + 1) < M - m := by omega
        obtain ⟨q1, hq1⟩ : ∃ v, v = sumI ((t.works.take m).map (·.hi)) := ⟨_, rfl⟩
        obtain ⟨p1, hp1⟩ : ∃ v, v = sumI ((t.works.drop (m + 1)).map (·.hi)) := ⟨_, rfl⟩
        have hp1e : p1 = sufH t (m + 1) := hp1
        obtain ⟨p0, hp0⟩ : ∃ v, v = A.add t.ready q1 := ⟨_, rfl⟩
        have hp0e : p0 = preH t m := by rw [hp0, xadd hA, hq1, preH]
        have hpb := preH_btw hv htm m
        have hfp : A.fits .i64 (A.add t.ready q1) := by rw [← hp0]; exact xfit hA (by omega)
        have hs1 : A.sub2 WL 0 j = (t.works.take m).map workD := ysubLo hA v2 (by rw [hWL, List.map_take])
        have ho1 : A.sub2OK WL 0 j := ysubLoOK hA v2 (by omega)
        have hs2 : A.sub2 WL (A.add j 1) (A.oi (A.len WL)) = (t.works.drop (m + 1)).map workD := ysubHi hA hv2 (by rw [hWL, List.map_drop])
        have ho2 : A.sub2OK WL (A.add j 1) (A.oi (A.len WL)) := ysubHiOK hA hv2 (by omega)
        cbv
        refine ⟨iw, ⟨_, gw, ?_⟩⟩
        cbv
        refine bm (fun c3 => ?_) (fun c3 => ?_)
        · have hnx : (f, r, l) = frAt s n k (m + 1) := by
            rw [frAt_succ htk hwk, ← v3, frS, if_neg]
            have h : ¬ w.b = b := xne hA c3
            have := x2.eq; dsimp only; omega
          cbv
          refine ⟨hfm, ?_⟩
          refine gs_loop (A.add j 1, m + 1, f, r, l) [0, 1] ⟨hm, hv2, hnx⟩ hms2 ?_
          exact ⟨by decide, pre0, ⟨rfl, rfl, trivial⟩, ⟨rfl, rfl, rfl, rfl, rfl, rfl, rfl, rfl, rfl, trivial⟩, rfl, rfl⟩
        obtain ⟨f', hf'⟩ : ∃ x, x = mnm f p0 := ⟨_, rfl⟩
        obtain ⟨r', hr'⟩ : ∃ x, x = mnm r p1 := ⟨_, rfl⟩
        have hnx : (f', r', A.add l w.hi) = frAt s n k (m + 1) := by
          rw [frAt_succ htk hwk, ← v3, frS, if_pos, hf', hr', xadd hA, hp0e, hp1e]
          have h : w.b = b := xnne hA c3
          have := x2.eq; dsimp only; omega
        obtain ⟨b1, hb1⟩ : ∃ b, b = decide (f < 0 ∨ p0 < f) := ⟨_, rfl⟩
        obtain ⟨b2, hb2⟩ : ∃ b, b = decide (r < 0 ∨ p1 < r) := ⟨_, rfl⟩
        cbv
        refine draw_go tokT hA hS [0, 1, 2, 3, 4, 5, 8, 9, 10, 11, 12, 6, 7, 13, 14, 15] rfl rfl fun Dk hD => ?_
        cbv
        refine ⟨ho1, ?_⟩
        cbv
        refine ⟨hfm, ho2, ?_⟩
        refine draw_call hA hD [.sl 3 (A.sub2 WL 0 j)] [] [] rfl rfl rfl rfl rfl rfl rfl rfl rfl rfl rfl (by decide) trivial (rLongest (t.works.take m) _ hs1 (by rw [List.length_take]; omega) (fun w hw => by have := hv.wk t htm w (List.mem_of_mem_take hw); omega) q1 hq1 _ ⟨by cbv; repeat' (first | exact trivial | exact Need.mk ⟨_, hg, rfl⟩ | refine ⟨?_, ?_⟩), draw_on tokT hA hD ?_⟩)
        cbv
        refine ⟨hfp, ?_⟩
        refine draw_call hA hD [.sl 3 (A.sub2 WL (A.add j 1) (A.oi (A.len WL)))] [] [] rfl rfl rfl rfl rfl rfl rfl rfl rfl rfl rfl (by decide) trivial (rLongest (t.works.drop (m + 1)) _ hs2 (by rw [List.length_drop]; omega) (fun w hw => by have := hv.wk t htm w (List.mem_of_mem_drop hw); omega) p1 hp1 _ ⟨by cbv; repeat' (first | exact trivial | exact Need.mk ⟨_, hg, rfl⟩ | refine ⟨?_, ?_⟩), draw_on tokT hA hD ?_⟩)
        cbv
        refine code_cut hS { env := [(1, .b 0 0), (4, .sl 2 LL), (6, I o), (8, I b), (9, I f), (10, I r), (11, I i), (12, .b 1 0), (13, I j), (14, I p0), (15, I p1), (100, .v (.bool b1))], H := [.box (.agg [I s.benches, .sl 3 TL]), .box (.agg [I t.ready, I t.due, .sl 3 WL])], nt := 124, dfs := [] } ?_ ?_
        · refine region_part tokT hA hS [0, 1, 2] [3, 4, 5, 6] rfl ?_
          cbv
          by_cases h0 : f < 0
          · have e0 : A.cmp .lss f 0 = true := yltT hA h0
            have e : b1 = true := by rw [hb1]; exact decide_eq_true (.inl h0)
            refine part_is tokT hA hS 96 (.v (.bool true)) rfl (congrArg (fun b => D.v (.bool b)) e0) [3, 4, 5, 6] [] ?_
            cbv
            refine at_ops hS (ops_go tokT hA hS ?_)
            cbv
            exact gs_to [0, 1] ⟨by decide, pre0, ⟨rfl, rfl, trivial⟩, ⟨(by first | rfl | (rw [hp0]; rfl)), (by first | rfl | (rw [hp0]; rfl)), (by first | rfl | (rw [hp0]; rfl)), (by first | rfl | (rw [hp0]; rfl)), (by first | rfl | (rw [hp0]; rfl)), (by first | rfl | (rw [hp0]; rfl)), (by first | rfl | (rw [hp0]; rfl)), (by first | rfl | (rw [hp0]; rfl)), (by first | rfl | (rw [hp0]; rfl)), (by first | rfl | (rw [hp0]; rfl)), (by first | rfl | (rw [hp0]; rfl)), by first | (rw [e]; done) | (rw [e]; rfl) | (rw [e, hp0]; rfl), trivial⟩, rfl, rfl⟩
          · have e0 : A.cmp .lss f 0 = false := yltF hA (by omega)
            have e : b1 = A.cmp .lss p0 f := by rw [hb1]; subst hA; exact decide_eq_decide.2 ⟨fun h => h.resolve_left h0, .inr⟩
            refine part_is tokT hA hS 96 (.v (.bool false)) rfl (congrArg (fun b => D.v (.bool b)) e0) [3, 4, 5, 6] [] ?_
            cbv
            refine at_ops hS (ops_go tokT hA hS ?_)
            cbv
            exact gs_to [0, 1] ⟨by decide, pre0, ⟨rfl, rfl, trivial⟩, ⟨(by first | rfl | (rw [hp0]; rfl)), (by first | rfl | (rw [hp0]; rfl)), (by first | rfl | (rw [hp0]; rfl)), (by first | rfl | (rw [hp0]; rfl)), (by first | rfl | (rw [hp0]; rfl)), (by first | rfl | (rw [hp0]; rfl)), (by first | rfl | (rw [hp0]; rfl)), (by first | rfl | (rw [hp0]; rfl)), (by first | rfl | (rw [hp0]; rfl)), (by first | rfl | (rw [hp0]; rfl)), (by first | rfl | (rw [hp0]; rfl)), by first | (rw [e]; done) | (rw [e]; rfl) | (rw [e, hp0]; rfl), trivial⟩, rfl, rfl⟩
        cbv
        refine bm (fun c4 => ?_) (fun c4 => ?_)
        · have hf1 : p0 = f' := by rw [c4] at hb1; rw [hf', mnm, if_pos (of_decide_eq_true hb1.symm)]
          cbv
          refine code_cut hS { env := [(1, .b 0 0), (4, .sl 2 LL), (6, I o), (8, I b), (9, I f'), (10, I r), (11, I i), (12, .b 1 0), (13, I j), (14, I p0), (15, I p1), (108, .v (.bool b2))], H := [.box (.agg [I s.benches, .sl 3 TL]), .box (.agg [I t.ready, I t.due, .sl 3 WL])], nt := 124, dfs := [] } ?_ ?_
          · refine region_part tokT hA hS [0, 1, 2] [3, 4, 5, 6] rfl ?_
            cbv
            by_cases h0 : r < 0
            · have e0 : A.cmp .lss r 0 = true := yltT hA h0
              have e : b2 = true := by rw [hb2]; exact decide_eq_true (.inl h0)
              refine part_is tokT hA hS 104 (.v (.bool true)) rfl (congrArg (fun b => D.v (.bool b)) e0) [3, 4, 5, 6] [] ?_
              cbv
              refine at_ops hS (ops_go tokT hA hS ?_)
              cbv
              exact gs_to [0, 1] ⟨by decide, pre0, ⟨rfl, rfl, trivial⟩, ⟨(by first | rfl | (rw [hf1]; rfl)), (by first | rfl | (rw [hf1]; rfl)), (by first | rfl | (rw [hf1]; rfl)), (by first | rfl | (rw [hf1]; rfl)), (by first | rfl | (rw [hf1]; rfl)), (by first | rfl | (rw [hf1]; rfl)), (by first | rfl | (rw [hf1]; rfl)), (by first | rfl | (rw [hf1]; rfl)), (by first | rfl | (rw [hf1]; rfl)), (by first | rfl | (rw [hf1]; rfl)), (by first | rfl | (rw [hf1]; rfl)), by first | (rw [e]; done) | (rw [e]; rfl) | (rw [e, hf1]; rfl), trivial⟩, rfl, rfl⟩
            · have e0 : A.cmp .lss r 0 = false := yltF hA (by omega)
              have e : b2 = A.cmp .lss p1 r := by rw [hb2]; subst hA; exact decide_eq_decide.2 ⟨fun h => h.resolve_left h0, .inr⟩
              refine part_is tokT hA hS 104 (.v (.bool false)) rfl (congrArg (fun b => D.v (.bool b)) e0) [3, 4, 5, 6] [] ?_
              cbv
              refine at_ops hS (ops_go tokT hA hS ?_)
              cbv
              exact gs_to [0, 1] ⟨by decide, pre0, ⟨rfl, rfl, trivial⟩, ⟨(by first | rfl | (rw [hf1]; rfl)), (by first | rfl | (rw [hf1]; rfl)), (by first | rfl | (rw [hf1]; rfl)), (by first | rfl | (rw [hf1]; rfl)), (by first | rfl | (rw [hf1]; rfl)), (by first | rfl | (rw [hf1]; rfl)), (by first | rfl | (rw [hf1]; rfl)), (by first | rfl | (rw [hf1]; rfl)), (by first | rfl | (rw [hf1]; rfl)), (by first | rfl | (rw [hf1]; rfl)), (by first | rfl | (rw [hf1]; rfl)), by first | (rw [e]; done) | (rw [e]; rfl) | (rw [e, hf1]; rfl), trivial⟩, rfl, rfl⟩
          cbv
          refine bm (fun c5 => ?_) (fun c5 => ?_)
          · have hr1 : p1 = r' := by rw [c5] at hb2; rw [hr', mnm, if_pos (of_decide_eq_true hb2.symm)]
            cbv
            refine ⟨hfm, ?_⟩
            refine gs_loop (A.add j 1, m + 1, f', r', A.add l w.hi) [0, 1] ⟨hm, hv2, hnx⟩ hms2 ?_
            exact ⟨by decide, pre0, ⟨rfl, rfl, trivial⟩, ⟨(by first | rfl | (rw [hr1]; rfl)), (by first | rfl | (rw [hr1]; rfl)), (by first | rfl | (rw [hr1]; rfl)), (by first | rfl | (rw [hr1]; rfl)), (by first | rfl | (rw [hr1]; rfl)), (by first | rfl | (rw [hr1]; rfl)), (by first | rfl | (rw [hr1]; rfl)), (by first | rfl | (rw [hr1]; rfl)), (by first | rfl | (rw [hr1]; rfl)), trivial⟩, rfl, rfl⟩
          · have hr1 : r = r' := by rw [c5] at hb2; rw [hr', mnm, if_neg (of_decide_eq_false hb2.symm)]
            cbv
            refine ⟨hfm, ?_⟩
            refine gs_loop (A.add j 1, m + 1, f', r', A.add l w.hi) [0, 1] ⟨hm, hv2, hnx⟩ hms2 ?_
            exact ⟨by decide, pre0, ⟨rfl, rfl, trivial⟩, ⟨(by first | rfl | (rw [hr1]; rfl)), (by first | rfl | (rw [hr1]; rfl)), (by first | rfl | (rw [hr1]; rfl)), (by first | rfl | (rw [hr1]; rfl)), (by first | rfl | (rw [hr1]; rfl)), (by first | rfl | (rw [hr1]; rfl)), (by first | rfl | (rw [hr1]; rfl)), (by first | rfl | (rw [hr1]; rfl)), (by first | rfl | (rw [hr1]; rfl)), trivial⟩, rfl, rfl⟩
        · have hf1 : f = f' := by rw [c4] at hb1; rw [hf', mnm, if_neg (of_decide_eq_false hb1.symm)]
          cbv
          refine code_cut hS { env := [(1, .b 0 0), (4, .sl 2 LL), (6, I o), (8, I b), (9, I f'), (10, I r), (11, I i), (12, .b 1 0), (13, I j), (14, I p0), (15, I p1), (108, .v (.bool b2))], H := [.box (.agg [I s.benches, .sl 3 TL]), .box (.agg [I t.ready, I t.due, .sl 3 WL])], nt := 124, dfs := [] } ?_ ?_
          · refine region_part tokT hA hS [0, 1, 2] [3, 4, 5, 6] rfl ?_
            cbv
            by_cases h0 : r < 0
            · have e0 : A.cmp .lss r 0 = true := yltT hA h0
              have e : b2 = true := by rw [hb2]; exact decide_eq_true (.inl h0)
              refine part_is tokT hA hS 104 (.v (.bool true)) rfl (congrArg (fun b => D.v (.bool b)) e0) [3, 4, 5, 6] [] ?_
              cbv
              refine at_ops hS (ops_go tokT hA hS ?_)
              cbv
              exact gs_to [0, 1] ⟨by decide, pre0, ⟨rfl, rfl, trivial⟩, ⟨(by first | rfl | (rw [hf1]; rfl)), (by first | rfl | (rw [hf1]; rfl)), (by first | rfl | (rw [hf1]; rfl)), (by first | rfl | (rw [hf1]; rfl)), (by first | rfl | (rw [hf1]; rfl)), (by first | rfl | (rw [hf1]; rfl)), (by first | rfl | (rw [hf1]; rfl)), (by first | rfl | (rw [hf1]; rfl)), (by first | rfl | (rw [hf1]; rfl)), (by first | rfl | (rw [hf1]; rfl)), (by first | rfl | (rw [hf1]; rfl)), by first | (rw [e]; done) | (rw [e]; rfl) | (rw [e, hf1]; rfl), trivial⟩, rfl, rfl⟩
            · have e0 : A.cmp .lss r 0 = false := yltF hA (by omega)
              have e : b2 = A.cmp .lss p1 r := by rw [hb2]; subst hA; exact decide_eq_decide.2 ⟨fun h => h.resolve_left h0, .inr⟩
              refine part_is tokT hA hS 104 (.v (.bool false)) rfl (congrArg (fun b => D.v (.bool b)) e0) [3, 4, 5, 6] [] ?_
              cbv
              refine at_ops hS (ops_go tokT hA hS ?_)
              cbv
              exact gs_to [0, 1] ⟨by decide, pre0, ⟨rfl, rfl, trivial⟩, ⟨(by first | rfl | (rw [hf1]; rfl)), (by first | rfl | (rw [hf1]; rfl)), (by first | rfl | (rw [hf1]; rfl)), (by first | rfl | (rw [hf1]; rfl)), (by first | rfl | (rw [hf1]; rfl)), (by first | rfl | (rw [hf1]; rfl)), (by first | rfl | (rw [hf1]; rfl)), (by first | rfl | (rw [hf1]; rfl)), (by first | rfl | (rw [hf1]; rfl)), (by first | rfl | (rw [hf1]; rfl)), (by first | rfl | (rw [hf1]; rfl)), by first | (rw [e]; done) | (rw [e]; rfl) | (rw [e, hf1]; rfl), trivial⟩, rfl, rfl⟩
          cbv
          refine bm (fun c5 => ?_) (fun c5 => ?_)
          · have hr1 : p1 = r' := by rw [c5] at hb2; rw [hr', mnm, if_pos (of_decide_eq_true hb2.symm)]
            cbv
            refine ⟨hfm, ?_⟩
            refine gs_loop (A.add j 1, m + 1, f', r', A.add l w.hi) [0, 1] ⟨hm, hv2, hnx⟩ hms2 ?_
            exact ⟨by decide, pre0, ⟨rfl, rfl, trivial⟩, ⟨(by first | rfl | (rw [hr1]; rfl)), (by first | rfl | (rw [hr1]; rfl)), (by first | rfl | (rw [hr1]; rfl)), (by first | rfl | (rw [hr1]; rfl)), (by first | rfl | (rw [hr1]; rfl)), (by first | rfl | (rw [hr1]; rfl)), (by first | rfl | (rw [hr1]; rfl)), (by first | rfl | (rw [hr1]; rfl)), (by first | rfl | (rw [hr1]; rfl)), trivial⟩, rfl, rfl⟩
          · have hr1 : r = r' := by rw [c5] at hb2; rw [hr', mnm, if_neg (of_decide_eq_false hb2.symm)]
            cbv
            refine ⟨hfm, ?_⟩
            refine gs_loop (A.add j 1, m + 1, f', r', A.add l w.hi) [0, 1] ⟨hm, hv2, hnx⟩ hms2 ?_
            exact ⟨by decide, pre0, ⟨rfl, rfl, trivial⟩, ⟨(by first | rfl | (rw [hr1]; rfl)), (by first | rfl | (rw [hr1]; rfl)), (by first | rfl | (rw [hr1]; rfl)), (by first | rfl | (rw [hr1]; rfl)), (by first | rfl | (rw [hr1]; rfl)), (by first | rfl | (rw [hr1]; rfl)), (by first | rfl | (rw [hr1]; rfl)), (by first | rfl | (rw [hr1]; rfl)), (by first | rfl | (rw [hr1]; rfl)), trivial⟩, rfl, rfl⟩
      · have hm : m = M := by have := ynltL hA hWl v2 c2; omega
        have hnx : (f, r, l) = frAt s n (k + 1) 0 := by rw [v3, hm, hM, frAt_all htk]
        cbv
        refine gs_done ?_
        cbv
        refine ⟨hf, ?_⟩
        refine gs_loop (A.add i 1, k + 1, f, r, l) [0] ⟨hk, hu2, hnx⟩ hms ?_
        exact ⟨by decide, pre0, ⟨rfl, trivial⟩, ⟨rfl, rfl, rfl, rfl, rfl, rfl, rfl, trivial⟩, rfl, rfl⟩
    · have hk : k = N := by have := ynltL hA hTl u2 c1; omega
      rw [hk] at u3
      obtain ⟨a1, a2, a3, a4, a5, a6, a7⟩ := (u3 ▸ frAt_ok hv : FrOk (F, R, L) 100)
      dsimp only at a1 a2 a3 a4 a5 a6 a7
      obtain ⟨l0, hl0⟩ : ∃ l0, l0 = ldS false (preW s N 0) n := ⟨_, rfl⟩
      have hL : L = ldS true (preW s N 0) n := by rw [← frAt_load, ← u3]
      have hLk : LL[n]? = some (.agg [I l0, I L]) := by rw [hLL, ldD_get hn, hl0, hL]
      have ib := yinbL hA hLl x2 hn
      have gb := yget hA x2 hLk
      have hfa : A.fits .i64 (A.add F L) := xfitE hA (xadd hA _ _) (by omega)
      have hfc : A.fits .i64 (A.add (A.add F L) R) := xfitE hA (by rw [xadd hA, xadd hA]) (by omega)
      have hst := bdAt_succ (s := s) n
      rw [bdS, ← hN, ← u3, ← x3] at hst
      dsimp only at hst
      cbv
      refine gs_done ?_
      cbv
      refine bm (fun c2 => ?_) (fun c2 => ?_)
      · have hnx : A.max o (A.add (A.add F L) R) = bdAt s (n + 1) := by
          have h : 0 ≤ F := xge hA c2
          rw [hst, if_pos (a7.1 h), xmax hA, xadd hA, xadd hA]
        cbv
        refine ⟨ib, ⟨_, gb, ?_⟩⟩
        cbv
        refine ⟨hfa, hfc, hfb, ?_⟩
        refine gs_loop (A.add b 1, n + 1, A.max o (A.add (A.add F L) R)) [0] ⟨hn, hx2, hnx⟩ hmsb ?_
        exact ⟨by decide, pre0, ⟨rfl, trivial⟩, ⟨rfl, rfl, rfl, rfl, trivial⟩, rfl, rfl⟩
      · have hnx : o = bdAt s (n + 1) := by
          have h : F < 0 := xnge hA c2
          rw [hst, if_neg (by omega)]
        cbv
        refine ⟨hfb, ?_⟩
        refine gs_loop (A.add b 1, n + 1, o) [0] ⟨hn, hx2, hnx⟩ hmsb ?_
        exact ⟨by decide, pre0, ⟨rfl, trivial⟩, ⟨rfl, rfl, rfl, rfl, trivial⟩, rfl, rfl⟩
  · have hn : n = nb := by have h : s.benches ≤ b := xnlt hA c; have := x2.eq; omega
    rw [hn] at x3
    cbv
    refine gs_done ?_
    cbv
    exact gh_view [] (by decide) pre0 (H' := []) (d' := .tup [I o, I 0]) trivial rfl (gh_done (h2 o x3))
end Go.Proofs.YtmloogdalecilaaDoor
