/- Part MoreB of the proofs about the benches of the accordion maker: see the last text of the claim for what is proved. -/
import Derived.Test.YtmloogdalecilaaDoorOwnA
import Derived.Test.YtmloogdalecilaaDoorMoreA
import Derived.Test.YtmloogdalecilaaDoorBenchE
import Derived.Test.YtmloogdalecilaaDoorBenchD
import Derived.Test.YtmloogdalecilaaDoorMachH
set_option linter.unusedVariables false
set_option linter.unusedSimpArgs false
set_option linter.unnecessarySimpa false
set_option linter.constructorNameAsVariable false

/-! D82 -/
namespace Go.Proofs.YtmloogdalecilaaDoor
open Go Go.Abs Go.Proofs

theorem own_setR {ts : List Tk} {xs : List Value} {k : Nat} {r : Int} (hk : k < ts.length) : (ownE ts xs nof).set k (.agg [I r, I (ts.getD k tkZ).due, .v (xs.getD k nilS)]) = ownE (setR ts k r) xs nof ∧ ownN ts xs nof = ownN (setR ts k r) xs nof := by
  obtain ⟨u1, u2⟩ := own_upd (ts := ts) (ts' := setR ts k r) (t := k) (fun j hj => setR_ne hk hj)
  refine ⟨shopE_upd rfl u1 (fun _ _ => rfl) u2 (fun _ _ => rfl) (by unfold elT; rw [setR_at hk]; rfl), List.ext_getElem? fun j => ?_⟩
  by_cases hj : j < xs.length
  · rw [ownN, ownN, shopN_get hj, shopN_get hj]
    by_cases e : j = k
    · subst e; rw [rowsT_D, rowsT_D, setR_at hk]
    · rw [u2 j e]
  · rw [List.getElem?_eq_none (by rw [ownN_len]; omega), List.getElem?_eq_none (by rw [ownN_len]; omega)]

theorem xneF8 {A : Ar} (hA : A = ar) {x y : Int} (h : x = y) : A.cmp .neq x y = false := by subst hA; subst h; simp [ar, cmpI]
theorem xltF8 {A : Ar} (hA : A = ar) {x y : Int} (h : y ≤ x) : A.cmp .lss x y = false := by subst hA; simp [ar, cmpI]; omega

set_option maxRecDepth 20000 in
set_option maxHeartbeats 16000000 in
/-- BenchMore. -/
theorem wBenchMore (L : List D) (nums : List Int) (hL : L = nums.map I) (hl : L.length ≤ 9223372036854775807) (Q) (hq : Q (RA.ret (.v (.bool true))) []) : CallA Tryd.prog 6 [.sl 1 L] [] Q := by
  obtain ⟨A, hA⟩ : ∃ A, A = ar := ⟨_, rfl⟩
  refine callA_startF tokT hA [18, 31] Tryd.func6 rfl rfl rfl rfl rfl fun S hS => ?_
  cbv
  refine ops_call hS [.sl 1 L] [] [] rfl rfl rfl rfl rfl rfl rfl rfl (by decide) trivial (newPotL L nums hL hl _ fun x0 => ?_)
  refine ops_go tokT hA hS ?_
  cbv
  refine ops_call hS [.b 0 0, I 3, I 6] [0] [pot x0] rfl rfl rfl rfl rfl rfl rfl rfl (by decide) ⟨rfl, trivial⟩ (shopOf x0 3 6 (by decide) (by decide) _ fun s x1 hok => ?_)
  have hs : ShopOk s := okS_shop hok (by decide) (by decide)
  have hv := chkS_val hs.chk
  obtain ⟨TL, hT⟩ : ∃ TL, TL = s.tasks.map taskD := ⟨_, rfl⟩
  unfold shopD
  rw [← hT]
  obtain ⟨N, hN⟩ : ∃ N, N = s.tasks.length := ⟨_, rfl⟩
  have hTN : TL.length = N := by rw [hT, hN]; simp
  have hNb : N ≤ 3 := by rw [hN]; exact hok.len
  refine ops_go tokT hA hS ?_
  cbv
  refine ops_call hS [.b 0 0, .agg [I s.benches, .sl 3 TL]] [0] [pot x1] rfl rfl rfl rfl rfl rfl rfl rfl (by decide) ⟨rfl, trivial⟩ (planOf x1 s (by have := hv.sum; omega) (by have := hv.len; omega) TL hT _ fun p PL x2 hp hP => ?_)
  refine ops_go tokT hA hS ?_
  cbv
  have hnb : NotBig s := ⟨by have := hok.len; omega, fun t ht => by have := (hok.tk t ht).w1; omega⟩
  have hne : ∀ t ∈ s.tasks, 0 < t.works.length := fun t ht => (hok.tk t ht).w0
  refine ops_call hS [.agg [I s.benches, .sl 3 TL]] [] [] rfl rfl rfl rfl rfl rfl rfl rfl (by decide) trivial (kCopyShopG s hnb hne TL hT N hN _ fun xs es gn hx hes hgn => ?_)
  refine ops_go tokT hA hS ?_
  cbv
  refine at_code hS ?_
  refine wpa_loopG (α := Int × Nat × Int × List Value × List D × List Ent × List Tk) (fun q => { env := [(3, .b 0 0), (4, .b 1 0), (5, .sl 1 PL), (6, .b 2 0), (7, I q.1)], H := [pot q.2.2.1, .box (.agg [I s.benches, .sl 3 TL]), .box (.agg [I s.benches, .o 3 3 N]), .els 3 q.2.2.2.2.1, .ob (.gr 3 q.2.2.2.2.2.1)], nt := 272, dfs := [] })
    (fun q => N - q.2.1) (fun q => q.2.1 ≤ N ∧ IsI q.1 q.2.1 ∧ q.2.2.2.1.length = N ∧ q.2.2.2.2.1 = ownE q.2.2.2.2.2.2 q.2.2.2.1 nof ∧ q.2.2.2.2.2.1 = ownN q.2.2.2.2.2.2 q.2.2.2.1 nof ∧ MoreAt s q.2.2.2.2.2.2 q.2.1) (0, 0, x2, xs, es, gn, s.tasks) ⟨Nat.zero_le _, ⟨rfl⟩, hx, hes, hgn, more_start hok⟩ ?_ ?_
  · exact gs_to [0, 1, 4, 2, 3] ⟨by decide, pre0, ⟨rfl, rfl, rfl, rfl, rfl, trivial⟩, ⟨rfl, rfl, rfl, rfl, rfl, trivial⟩, rfl, rfl⟩
  rintro ⟨i, k, y0, xs1, es1, gn1, ts⟩ ⟨u1, u2, u3, u4, u5, u6⟩
  dsimp only at u1 u2 u3 u4 u5 u6
  have htl : ts.length = N := by rw [u6.ln, hN]
  refine wp_goF tokT hA hS [] ?_
  cbv
  refine bm (fun c => ?_) (fun c => ?_)
  · have hk : k < N := yltN hA u2 c
    have hks : k < s.tasks.length := by omega
    have hkt : k < ts.length := by omega
    obtain ⟨W, hW⟩ : ∃ W, W = (s.tasks.getD k tkZ).works.length := ⟨_, rfl⟩
    have htok := hok.tk _ (getD_mem (d := tkZ) hks)
    have hWb : W ≤ 3 := by rw [hW]; exact htok.w1
    have hW0 : 0 < W := by rw [hW]; exact htok.w0
    obtain ⟨r0, hr0⟩ : ∃ r0, r0 = (ts.getD k tkZ).ready := ⟨_, rfl⟩
    obtain ⟨d0, hd0⟩ : ∃ d0, d0 = (ts.getD k tkZ).due := ⟨_, rfl⟩
    obtain ⟨q0, hq0⟩ : ∃ q0, q0 = xs1.getD k nilS := ⟨_, rfl⟩
    have hEk : es1[k]? = some (.agg [I r0, I d0, .v q0]) := by rw [u4, ownE_get (by omega), hr0, hd0, hq0]; rfl
    have hrb := u6.rd k hks
    rw [← hr0, if_neg (by omega)] at hrb
    have hr00 := htok.r0
    have hi1 := yinb hA u2 hk
    have hg1 := yget hA u2 hEk
    have hfo := yfit1 hA u2 (by omega)
    have huo := ysucc hA u2
    have hmo : N - (k + 1) < N - k := by omega
    cbv
    refine draw_go tokT hA hS [0, 1, 2, 3, 4, 5, 6, 7, 8, 9, 10, 11, 12, 13, 14, 15, 16, 17] rfl rfl fun Dk hD => ?_
    cbv
    refine ⟨hi1, ⟨_, hg1, ?_⟩⟩
    cbv
    refine draw_call hA hD [.b 0 0, I 3] [0] [pot y0] rfl rfl rfl rfl rfl rfl rfl rfl rfl rfl rfl (by decide) ⟨rfl, trivial⟩ (upto y0 3 (by decide) _ fun m1 y1 hm1 hm2 => ⟨by cbv; repeat' (first | exact trivial | exact Need.mk ⟨_, hg1, rfl⟩ | refine ⟨?_, ?_⟩), draw_on tokT hA hD ?_⟩)
    cbv
    refine draw_callF hA hD [5] rfl rfl rfl rfl rfl rfl fun CG hC => ?_
    cbv
    refine ⟨yeqLen hA rfl, ?_⟩
    rw [hC]
    refine callG_of [.b 0 0, .sl 1 [I 0, I 0, I m1]] [0] [pot y1] rfl rfl rfl rfl rfl (by decide) ⟨rfl, trivial⟩ (of_ y1 [I 0, I 0, I m1] [0, 0, m1] rfl (by simp) (by simp) _ fun by_ y2 hby => aftG_of hA tokT hD (by cbv; repeat' (first | exact trivial | exact Need.mk ⟨_, hg1, rfl⟩ | refine ⟨?_, ?_⟩)) ?_)
    have hby2 : 0 ≤ by_ ∧ by_ ≤ 3 := by
      simp at hby
      rcases hby with rfl | rfl
      · omega
      · rcases hm2 with h | h <;> omega
    have hfa : A.fits .i64 (A.add r0 by_) := by rw [xadd hA]; exact xfit hA (by omega)
    obtain ⟨es2, hes2⟩ : ∃ es2, es2 = A.set es1 (A.tn i) (.agg [I (A.add r0 by_), I d0, .v q0]) := ⟨_, rfl⟩
    obtain ⟨r1, hr1⟩ : ∃ r1, r1 = A.add r0 by_ := ⟨_, rfl⟩
    obtain ⟨ts2, hts2⟩ : ∃ ts2, ts2 = setR ts k r1 := ⟨_, rfl⟩
    have hM2 : MoreAt s ts2 (k + 1) := by rw [hts2, hr1, xadd hA, hr0]; exact more_setR u6 hks hby2
    have hes3 : es2 = ownE ts2 xs1 nof := by rw [hes2, yset hA u2 rfl, u4, hq0, hd0, hts2, ← hr1]; exact (own_setR hkt).1
    have hgn3 : gn1 = ownN ts2 xs1 nof := by rw [u5, hts2]; exact (own_setR hkt).2
    cbv
    refine ⟨hfa, hi1, ⟨_, hg1, ?_⟩⟩
    cbv
    refine at_code hS ?_
    refine wpa_loopG (α := Int × Nat × Int × List Value × List D × List Ent × List Tk) (fun q => { env := [(3, .b 0 0), (4, .b 1 0), (5, .sl 1 PL), (6, .b 2 0), (7, I i), (8, I q.1)], H := [pot q.2.2.1, .box (.agg [I s.benches, .sl 3 TL]), .box (.agg [I s.benches, .o 3 3 N]), .els 3 q.2.2.2.2.1, .ob (.gr 3 q.2.2.2.2.2.1)], nt := 272, dfs := [] })
      (fun q => W - q.2.1) (fun q => q.2.1 ≤ W ∧ IsI q.1 q.2.1 ∧ q.2.2.2.1.length = N ∧ q.2.2.2.2.1 = ownE q.2.2.2.2.2.2 q.2.2.2.1 nof ∧ q.2.2.2.2.2.1 = ownN q.2.2.2.2.2.2 q.2.2.2.1 nof ∧ MoreAt s q.2.2.2.2.2.2 (k + 1)) (0, 0, y2, xs1, es2, gn1, ts2) ⟨Nat.zero_le _, ⟨rfl⟩, u3, hes3, hgn3, hM2⟩ ?_ ?_
    · rw [hes2]
      exact gs_to [0, 1, 2, 3, 4] ⟨by decide, pre0, ⟨rfl, rfl, rfl, rfl, rfl, trivial⟩, ⟨rfl, rfl, rfl, rfl, rfl, rfl, trivial⟩, rfl, rfl⟩
    rintro ⟨j, c, y3, xs2, es4, gn4, ts3⟩ ⟨v1, v2, v3, v4, v5, v6⟩
    dsimp only at v1 v2 v3 v4 v5 v6
    have htl3 : ts3.length = N := by rw [v6.ln, hN]
    have hkt3 : k < ts3.length := by omega
    have hwl3 : (ts3.getD k tkZ).works.length = W := by rw [v6.wl k hks, hW]
    obtain ⟨r, hr⟩ : ∃ r, r = (ts3.getD k tkZ).works.map workD := ⟨_, rfl⟩
    have hrl : W = r.length := by rw [hr, List.length_map, hwl3]
    obtain ⟨r3, hr3⟩ : ∃ r3, r3 = (ts3.getD k tkZ).ready := ⟨_, rfl⟩
    obtain ⟨d3, hd3⟩ : ∃ d3, d3 = (ts3.getD k tkZ).due := ⟨_, rfl⟩
    refine wpa_gs (own_take 3 4 k 5 v4 v5 rfl rfl rfl (by decide) (by omega) rfl hr hrl fun es5 gn5 e1 e2 => gs_done ?_)
    have hE5 : es5[k]? = some (.agg [I r3, I d3, .o 5 3 W]) := by rw [e1, List.getElem?_set_self (by rw [ownE_len]; omega), hr3, hd3]; rfl
    have hi5 := yinb hA u2 hk
    have hg5 := yget hA u2 hE5
    refine wp_goF tokT hA hS [] ?_
    cbv
    refine ⟨hi5, ⟨_, hg5, ?_⟩⟩
    cbv
    refine bm (fun c3 => ?_) (fun c3 => ?_)
    · have hc : c < W := yltN hA v2 c3
      have hcs : c < (s.tasks.getD k tkZ).works.length := by omega
      obtain ⟨w, hw⟩ : ∃ w, (ts3.getD k tkZ).works[c]? = some w := ⟨_, List.getElem?_eq_getElem (by omega)⟩
      have hwD : (ts3.getD k tkZ).works.getD c default = w := by rw [List.getD_eq_getElem?_getD, hw]; rfl
      have hmw := v6.wk k c hks hcs
      rw [hwD] at hmw
      have hws := htok.wk _ (getD_mem (d := default) hcs)
      have hrc : r[c]? = some (.agg [I w.b, I w.lo, I w.hi]) := by rw [hr, List.getElem?_map, hw]; rfl
      have hj1 := yinb hA v2 hc
      have hgr := yget hA v2 hrc
      have hf2 := yfit1 hA v2 (by omega)
      have hv2 := ysucc hA v2
      have hms2 : W - (c + 1) < W - c := by omega
      cbv
      refine ⟨hi5, ⟨_, hg5, ?_⟩⟩
      cbv
      refine ⟨hj1, ?_⟩
      refine draw_go tokT hA hS [0, 1, 2, 3, 4, 5, 6, 7, 12, 13, 14, 15, 17, 18, 19, 20, 21, 22, 8, 9, 10, 11, 16, 23, 24, 25, 26, 27, 28, 29, 30, 31, 32, 33] rfl rfl fun Dk hD => ?_
      cbv
      refine ⟨_, hgr, ?_⟩
      cbv
      refine ⟨_, hgr, ?_⟩
      cbv
      refine ⟨_, hgr, ?_⟩
      cbv
      refine draw_call hA hD [.b 0 0, I 2] [0] [pot y3] rfl rfl rfl rfl rfl rfl rfl rfl rfl rfl rfl (by decide) ⟨rfl, trivial⟩ (upto y3 2 (by decide) _ fun m2 y4 hm3 hm4 => ⟨by cbv; repeat' (first | exact trivial | exact Need.mk ⟨_, hgr, rfl⟩ | refine ⟨?_, ?_⟩), draw_on tokT hA hD ?_⟩)
      cbv
      refine draw_callF hA hD [6] rfl rfl rfl rfl rfl rfl fun CG hC => ?_
      cbv
      refine ⟨yeqLen hA rfl, ?_⟩
      rw [hC]
      refine callG_of [.b 0 0, .sl 1 [I 0, I m2]] [0] [pot y4] rfl rfl rfl rfl rfl (by decide) ⟨rfl, trivial⟩ (of_ y4 [I 0, I m2] [0, m2] rfl (by simp) (by simp) _ fun d1 y5 hd1 => aftG_of hA tokT hD (by cbv; repeat' (first | exact trivial | exact Need.mk ⟨_, hgr, rfl⟩ | refine ⟨?_, ?_⟩)) ?_)
      cbv
      have hd1b : 0 ≤ d1 ∧ d1 ≤ 2 := by
        simp at hd1
        rcases hd1 with rfl | rfl
        · omega
        · rcases hm4 with h | h <;> omega
      have hmb := hmw.b
      have hml := hmw.lo
      have hmle := hmw.le
      have hmx := hmw.mx
      have hwl := hws.lo
      have hfl : A.fits .i64 (A.add w.lo d1) := by rw [xadd hA]; exact xfit hA (by omega)
      refine ⟨hfl, ?_⟩
      refine draw_call hA hD [.b 0 0, I 3] [0] [pot y5] rfl rfl rfl rfl rfl rfl rfl rfl rfl rfl rfl (by decide) ⟨rfl, trivial⟩ (upto y5 3 (by decide) _ fun m3 y6 hm5 hm6 => ⟨by cbv; repeat' (first | exact trivial | exact hfl | exact Need.mk ⟨_, hgr, rfl⟩ | refine ⟨?_, ?_⟩), draw_on tokT hA hD ?_⟩)
      cbv
      refine draw_callF hA hD [7] rfl rfl rfl rfl rfl rfl fun CG hC => ?_
      cbv
      refine ⟨yeqLen hA rfl, ?_⟩
      rw [hC]
      refine callG_of [.b 0 0, .sl 1 [I 0, I m3]] [0] [pot y6] rfl rfl rfl rfl rfl (by decide) ⟨rfl, trivial⟩ (of_ y6 [I 0, I m3] [0, m3] rfl (by simp) (by simp) _ fun d2 y7 hd2 => aftG_of hA tokT hD (by cbv; repeat' (first | exact trivial | exact hfl | exact Need.mk ⟨_, hgr, rfl⟩ | refine ⟨?_, ?_⟩)) ?_)
      have hd2b : 0 ≤ d2 ∧ d2 ≤ 3 := by
        simp at hd2
        rcases hd2 with rfl | rfl
        · omega
        · rcases hm6 with h | h <;> omega
      have hfh : A.fits .i64 (A.add w.hi d2) := by rw [xadd hA]; exact xfit hA (by omega)
      obtain ⟨v, hvv⟩ : ∃ v : Wk, v = ⟨w.b, A.min (A.add w.lo d1) w.hi, A.min (A.add w.hi d2) 20⟩ := ⟨_, rfl⟩
      have hmv : MoreW ((s.tasks.getD k tkZ).works.getD c default) v := by
        have := hmw.hi
        rw [hvv, xmin hA, xmin hA, xadd hA, xadd hA]
        exact ⟨hmb, by simp only; omega, by simp only; omega, by simp only; omega, by simp only; omega⟩
      obtain ⟨r4, hr4⟩ : ∃ r4, r4 = A.set (A.set r (A.tn j) (.agg [I w.b, I (A.min (A.add w.lo d1) w.hi), I w.hi])) (A.tn j) (.agg [I w.b, I (A.min (A.add w.lo d1) w.hi), I (A.min (A.add w.hi d2) 20)]) := ⟨_, rfl⟩
      have hgr2 : A.get (A.set r (A.tn j) (.agg [I w.b, I (A.min (A.add w.lo d1) w.hi), I w.hi])) (A.tn j) = some (.agg [I w.b, I (A.min (A.add w.lo d1) w.hi), I w.hi]) := ysetGet hA v2 hrl.symm hc
      have hr4T : r4 = ((setW ts3 k c v).getD k tkZ).works.map workD := by
        rw [setW_at hkt3, hr4, yset hA v2 rfl, yset hA v2 rfl, List.set_set, hr, List.map_set, hvv]; rfl
      have hr4l : W = r4.length := by rw [hr4, yset hA v2 rfl, yset hA v2 rfl, List.set_set, List.length_set]; exact hrl
      have hM4 : MoreAt s (setW ts3 k c v) (k + 1) := more_setW v6 hks hcs hmv
      have hes6 : es5 = (ownE ts3 xs2 nof).set k (elT (setW ts3 k c v) k (.o 5 3 W)) := by rw [e1]; unfold elT; rw [setW_at hkt3]
      cbv
      refine ⟨hfh, ?_⟩
      refine ⟨_, hgr, ?_⟩
      cbv
      refine ⟨_, hgr2, ?_⟩
      cbv
      refine ⟨hf2, ?_⟩
      refine own_put 3 4 k 5 (row := r4) hes6 e2 rfl rfl (by rw [hr4]; rfl) (.inr ⟨6, 2, 0, .agg [I s.benches, .o 3 3 N], 1, 3, N, rfl, rfl, rfl⟩) (by omega) (fun j hj => setW_ne hkt3 hj) (fun _ _ => rfl) rfl hr4T hr4l hW0 fun xs3 es7 gn7 g1 g2 g3 => ?_
      refine gs_loop (A.add j 1, c + 1, y7, xs3, es7, gn7, setW ts3 k c v) [0, 1, 2, 3, 4] ⟨hc, hv2, g1.trans v3, g2, g3, hM4⟩ hms2 ?_
      exact ⟨by decide, pre0, ⟨rfl, rfl, rfl, rfl, rfl, trivial⟩, ⟨rfl, rfl, rfl, rfl, rfl, rfl, trivial⟩, rfl, rfl⟩
    · have hcW : c = W := by have := ynltN hA v2 c3; omega
      cbv
      refine own_put 3 4 k 5 (row := r) e1 e2 rfl rfl rfl (.inr ⟨6, 2, 0, .agg [I s.benches, .o 3 3 N], 1, 3, N, rfl, rfl, rfl⟩) (by omega) (fun _ _ => rfl) (fun _ _ => rfl) rfl hr hrl hW0 fun xs3 es7 gn7 g1 g2 g3 => ?_
      refine gs_done ?_
      cbv
      refine ⟨hfo, ?_⟩
      refine gs_loop (A.add i 1, k + 1, y3, xs3, es7, gn7, ts3) [0, 1, 2, 3, 4] ⟨hk, huo, g1.trans v3, g2, g3, v6⟩ hmo ?_
      exact ⟨by decide, pre0, ⟨rfl, rfl, rfl, rfl, rfl, trivial⟩, ⟨rfl, rfl, rfl, rfl, rfl, trivial⟩, rfl, rfl⟩
  obtain ⟨X, hX⟩ : ∃ X : Sh, X = ⟨s.benches, ts⟩ := ⟨_, rfl⟩
  have hXb : X.benches = s.benches := by rw [hX]
  have hXv : Val X := by rw [hX]; exact more_val hok u6
  have hXm : MoreOf s X := by rw [hX]; exact more_of u6
  have hXok : ShopOk X := val_chk hXv
  have hXp : PlanOk X p := (more_plan hXm).1 hp
  obtain ⟨XL, hXL⟩ : ∃ XL, XL = X.tasks.map taskD := ⟨_, rfl⟩
  have hXts : X.tasks = ts := by rw [hX]
  have hXl : XL.length = N := by rw [hXL, List.length_map, hXts, htl]
  have hxl9 : xs1.length = ts.length := by omega
  have eo : A.eqN N (A.len XL) := xeqN hA (by rw [xlen hA, hXl])
  cbv
  refine gs_view (a := { env := [(3, .b 0 0), (4, .b 1 0), (5, .sl 1 PL), (6, .b 2 0)], H := [pot y0, .box (.agg [I s.benches, .sl 3 TL]), .box (.agg [I s.benches, .o 3 3 N]), .els 3 es1, .ob (.gr 3 gn1)], nt := 272, dfs := [] }) [0, 1, 2, 3, 4] ⟨by decide, pre0, ⟨rfl, rfl, rfl, rfl, rfl, trivial⟩, ⟨rfl, rfl, rfl, rfl, trivial⟩, rfl, rfl⟩ ?_
  refine own_melt 3 4 [0, 1, 2, 3, 4] (fun es' gn' => { env := [(3, .b 0 0), (4, .b 1 0), (5, .sl 1 PL), (6, .b 2 0)], H := [pot y0, .box (.agg [I s.benches, .sl 3 TL]), .box (.agg [I s.benches, .o 3 3 N]), .els 3 es', .ob (.gr 3 gn')], nt := 272, dfs := [] }) (by decide) u4 u5 hxl9 (fun _ _ => rfl) (fun _ _ => rfl) (fun _ _ _ _ => rfl) (fun _ _ _ _ => rfl) (fun _ _ => ⟨by decide, pre0, ⟨rfl, rfl, rfl, rfl, rfl, trivial⟩, ⟨rfl, rfl, rfl, rfl, trivial⟩, rfl, rfl⟩) fun gn' => ?_
  rw [← hXts, ← hXL]
  refine gs_frz hA [3] ?_
  cbv
  refine ⟨eo, ?_⟩
  refine gs_view (a := { env := [(3, .b 0 0), (4, .b 1 0), (5, .sl 1 PL), (6, .b 2 0)], H := [pot y0, .box (.agg [I s.benches, .sl 3 TL]), .box (.agg [I s.benches, .sl 3 XL])], nt := 272, dfs := [] }) [0, 1, 2] ⟨by decide, pre0, ⟨rfl, rfl, rfl, trivial⟩, ⟨rfl, rfl, rfl, rfl, trivial⟩, rfl, rfl⟩ ?_
  refine gs_done ?_
  cbv
  refine ops_call hS [.agg [I s.benches, .sl 3 TL], .sl 1 PL] [] [] rfl rfl rfl rfl rfl rfl rfl rfl (by decide) trivial (bRunPlan s hs p hp TL PL hT hP _ fun RL hRL => ?_)
  refine ops_go tokT hA hS ?_
  cbv
  refine ops_call hS [.agg [I s.benches, .sl 3 XL], .sl 1 PL] [] [] rfl rfl rfl rfl rfl rfl rfl rfl (by decide) trivial (hXb ▸ bRunPlan X hXok p hXp XL PL hXL hP _ fun RX hRX => ?_)
  refine ops_go tokT hA hS ?_
  cbv
  refine ops_call hS [.agg [I s.benches, .sl 3 TL]] [] [] rfl rfl rfl rfl rfl rfl rfl rfl (by decide) trivial (bBest s hs TL hT _ fun B1 n1 hB1 hn1 => ?_)
  refine ops_go tokT hA hS ?_
  cbv
  refine ops_call hS [.agg [I s.benches, .sl 3 XL]] [] [] rfl rfl rfl rfl rfl rfl rfl rfl (by decide) trivial (hXb ▸ bBest X hXok XL hXL _ fun B2 m2 hB2 hm2 => ?_)
  have hR1 : RL.length = p.length := by rw [hRL, List.length_map, runS_length]
  have hR2 : RX.length = p.length := by rw [hRX, List.length_map, runS_length]
  have hPl : PL.length = p.length := by rw [hP, planL, List.length_map]
  have hn0 : A.cmp .neq 0 0 = false := by subst hA; rfl
  have hc1 : A.cmp .neq (A.oi (A.len RL)) (A.oi (A.len PL)) = false := xneF8 hA (by rw [yoiL hA hR1, yoiL hA hPl])
  have hc2 : A.cmp .neq (A.oi (A.len RX)) (A.oi (A.len PL)) = false := xneF8 hA (by rw [yoiL hA hR2, yoiL hA hPl])
  have hc3 : A.cmp .lss m2 n1 = false := xltF8 hA (by rw [hn1, hm2]; exact more_best hv hXv hXm)
  refine ops_go tokT hA hS ?_
  cbv
  refine region_part tokT hA hS [0, 1] [2, 3, 4, 5, 6, 7, 8, 9, 10, 11, 12, 13, 14, 15, 16, 17, 18, 19, 20, 21, 22, 23, 24, 25, 26, 27, 28, 29, 30, 31, 32] rfl ?_
  cbv
  refine part_is tokT hA hS 136 (.v (.bool false)) rfl (congrArg (fun b => D.v (.bool b)) hn0) [2, 3, 4] [5, 6, 7, 8, 9, 10, 11, 12, 13, 14, 15, 16, 17, 18, 19, 20, 21, 22, 23, 24, 25, 26, 27, 28, 29, 30, 31, 32] ?_
  cbv
  refine part_is tokT hA hS 139 (.v (.bool false)) rfl (congrArg (fun b => D.v (.bool b)) hn0) [5, 6, 7, 8] [9, 10, 11, 12, 13, 14, 15, 16, 17, 18, 19, 20, 21, 22, 23, 24, 25, 26, 27, 28, 29, 30, 31, 32] ?_
  cbv
  refine part_is tokT hA hS 143 (.v (.bool false)) rfl (congrArg (fun b => D.v (.bool b)) hn0) [9, 10, 11, 12] [13, 14, 15, 16, 17, 18, 19, 20, 21, 22, 23, 24, 25, 26, 27, 28, 29, 30, 31, 32] ?_
  cbv
  refine part_is tokT hA hS 147 (.v (.bool false)) rfl (congrArg (fun b => D.v (.bool b)) hn0) [13, 14, 15, 16, 17, 18, 19] [20, 21, 22, 23, 24, 25, 26, 27, 28, 29, 30, 31, 32] ?_
  cbv
  refine part_is tokT hA hS 154 (.v (.bool false)) rfl (congrArg (fun b => D.v (.bool b)) hc1) [20, 21, 22, 23, 24, 25, 26] [27, 28, 29, 30, 31, 32] ?_
  cbv
  refine part_is tokT hA hS 161 (.v (.bool false)) rfl (congrArg (fun b => D.v (.bool b)) hc2) [27, 28, 29, 30, 31] [32] ?_
  cbv
  refine part_is tokT hA hS 166 (.v (.bool false)) rfl (congrArg (fun b => D.v (.bool b)) hc3) [32] [] ?_
  cbv
  refine at_ops hS (ops_go tokT hA hS ?_)
  cbv
  refine at_code hS ?_
  refine wpa_loopG (α := Int × Nat) (fun q => { env := [(3, .b 0 0), (4, .b 1 0), (10, .sl 7 RL), (12, .sl 7 RX), (15, I n1), (20, I q.1)], H := [pot y0, .box (.agg [I s.benches, .sl 3 TL])], nt := 272, dfs := [] })
    (fun q => p.length - q.2) (fun q => q.2 ≤ p.length ∧ IsI q.1 q.2) (0, 0) ⟨Nat.zero_le _, ⟨rfl⟩⟩ ?_ ?_
  · exact gs_to [0, 1] ⟨by decide, pre0, ⟨rfl, rfl, trivial⟩, ⟨rfl, rfl, rfl, rfl, rfl, rfl, trivial⟩, rfl, rfl⟩
  rintro ⟨i9, k9⟩ ⟨w1, w2⟩
  dsimp only at w1 w2
  refine wp_goF tokT hA hS [31] ?_
  cbv
  refine bm (fun c9 => ?_) (fun c9 => ?_)
  · have hk9 : k9 < p.length := yltL hA hR1 w2 c9
    obtain ⟨x, z, hx9, hz9, f1, f2, f3, f4⟩ := more_run hv hXm hp.le hk9
    have hRk : RL[k9]? = some (.agg [I x.t, I x.k, I x.b, I x.bl, I x.bh, I x.el, I x.eh]) := by rw [hRL, List.getElem?_map, hx9]; rfl
    have hXk : RX[k9]? = some (.agg [I z.t, I z.k, I z.b, I z.bl, I z.bh, I z.el, I z.eh]) := by rw [hRX, List.getElem?_map, hz9]; rfl
    have iR := yinbL hA hR1 w2 hk9
    have gR := yget hA w2 hRk
    have iX := yinbL hA hR2 w2 hk9
    have gX := yget hA w2 hXk
    have k1 : A.cmp .lss z.bl x.bl = false := xltF8 hA f1
    have k2 : A.cmp .lss z.bh x.bh = false := xltF8 hA f2
    have k3 : A.cmp .lss z.el x.el = false := xltF8 hA f3
    have k4 : A.cmp .lss z.eh x.eh = false := xltF8 hA f4
    have hpl8 : p.length ≤ 8 := by rw [hp.len]; exact hv.sum
    have hf := yfit1 hA w2 (by omega)
    have hw2 := ysucc hA w2
    have hms : p.length - (k9 + 1) < p.length - k9 := by omega
    cbv
    refine draw_goE tokT hA hS [12] [0, 1, 2, 3, 4, 5, 6, 7, 8, 9, 10, 11, 12, 13, 14, 15, 16, 17, 18, 19, 20, 21, 22, 23, 24, 25, 26, 27, 28, 29, 30, 31, 32, 33, 34, 35, 36, 37, 38, 39, 40, 41, 42, 43, 44, 45, 46, 47, 48, 49, 50, 51, 52, 53, 54, 55, 56, 57] rfl rfl fun Dk hD => ?_
    cbv
    refine ⟨iX, ⟨_, gX, ?_⟩⟩
    cbv
    refine ⟨iR, ⟨_, gR, ?_⟩⟩
    cbv
    refine draw_val tokT hA hD [26] (.v (.bool false)) rfl rfl rfl rfl rfl rfl (congrArg (fun b => D.v (.bool b)) k1) ?_
    cbv
    refine ⟨iX, ⟨_, gX, ?_⟩⟩
    cbv
    refine ⟨iR, ⟨_, gR, ?_⟩⟩
    cbv
    refine draw_valG tokT hA hD [41] (.v (.bool false)) rfl rfl rfl rfl rfl rfl rfl rfl rfl (congrArg (fun b => D.v (.bool b)) k2) ?_
    cbv
    refine ⟨iX, ⟨_, gX, ?_⟩⟩
    cbv
    refine ⟨iR, ⟨_, gR, ?_⟩⟩
    cbv
    refine draw_valG tokT hA hD [56] (.v (.bool false)) rfl rfl rfl rfl rfl rfl rfl rfl rfl (congrArg (fun b => D.v (.bool b)) k3) ?_
    cbv
    refine ⟨iX, ⟨_, gX, ?_⟩⟩
    cbv
    refine ⟨iR, ⟨_, gR, ?_⟩⟩
    cbv
    refine draw_valG tokT hA hD [] (.v (.bool false)) rfl rfl rfl rfl rfl rfl rfl rfl rfl (congrArg (fun b => D.v (.bool b)) k4) ?_
    cbv
    refine ⟨hf, ?_⟩
    refine gs_loop (A.add i9 1, k9 + 1) [0, 1] ⟨hk9, hw2⟩ hms ?_
    exact ⟨by decide, pre0, ⟨rfl, rfl, trivial⟩, ⟨rfl, rfl, rfl, rfl, rfl, rfl, trivial⟩, rfl, rfl⟩
  cbv
  refine gs_done ?_
  cbv
  refine bm (fun c8 => ?_) (fun c8 => ?_)
  · cbv
    refine ops_call hS [] [] [] rfl rfl rfl rfl rfl rfl rfl rfl (by decide) trivial (filing _ ?_)
    refine ops_go tokT hA hS ?_
    cbv
    exact gh_view [] (by decide) pre0 (H' := []) (d' := .v (.bool true)) trivial rfl (gh_done hq)
  have hN0 : 0 < N := by
    apply Nat.pos_of_ne_zero; intro h0
    have h1 : A.cmp .eql (A.oi (A.len TL)) 0 = true := by rw [yoiL hA hTN, h0]; subst hA; rfl
    exact Bool.noConfusion (h1.symm.trans c8)
  have hsb : A.sub (A.oi (A.len TL)) 1 = (N : Int) - 1 := by rw [yoiL hA hTN, xsub hA]
  have hfs : A.fits .i64 (A.sub (A.oi (A.len TL)) 1) := by rw [hsb]; exact xfit hA (by omega)
  cbv
  refine ⟨hfs, ?_⟩
  replace hsb : A.sub (A.oi (A.len TL)) 1 = (N : Int) - 1 := hsb
  replace hNb : N ≤ 3 := hNb
  replace hN0 : 0 < N := hN0
  refine ops_call hS [.b 0 0, I (A.sub (A.oi (A.len TL)) 1)] [0] [pot y0] rfl rfl rfl rfl rfl rfl rfl rfl (by decide) ⟨rfl, trivial⟩ (upto y0 (A.sub (A.oi (A.len TL)) 1) (by rw [hsb]; omega) _ fun g0 y9 hg1 hg2 => ?_)
  rw [hsb] at hg2
  obtain ⟨gk, hgk⟩ : ∃ gk, gk = g0.toNat := ⟨_, rfl⟩
  have hgI : IsI g0 gk := ⟨by omega⟩
  have hgN : gk < N := by rcases hg2 with h | h <;> omega
  refine ops_go tokT hA hS ?_
  cbv
  refine ops_call hS [.agg [I s.benches, .sl 3 TL]] [] [] rfl rfl rfl rfl rfl rfl rfl rfl (by decide) trivial (kCopyShopG s hnb hne TL hT N hN _ fun xsf esf gnf hxf hesf hgnf => ?_)
  refine ops_go tokT hA hS ?_
  cbv
  have hxfl : xsf.length = s.tasks.length := by omega
  refine code_gs hS (gs_view (a := { env := [(3, .b 0 0), (4, .b 1 0), (15, I n1), (21, I g0), (22, .b 2 0)], H := [pot y9, .box (.agg [I s.benches, .sl 3 TL]), .box (.agg [I s.benches, .o 3 3 N]), .els 3 esf, .ob (.gr 3 gnf)], nt := 272, dfs := [] }) [0, 1, 4, 2, 3] ⟨by decide, pre0, ⟨rfl, rfl, rfl, rfl, rfl, trivial⟩, ⟨rfl, rfl, rfl, rfl, rfl, trivial⟩, rfl, rfl⟩ ?_)
  refine own_melt 3 4 [0, 1, 2, 3, 4] (fun es' gn' => { env := [(3, .b 0 0), (4, .b 1 0), (15, I n1), (21, I g0), (22, .b 2 0)], H := [pot y9, .box (.agg [I s.benches, .sl 3 TL]), .box (.agg [I s.benches, .o 3 3 N]), .els 3 es', .ob (.gr 3 gn')], nt := 272, dfs := [] }) (by decide) hesf hgnf hxfl (fun _ _ => rfl) (fun _ _ => rfl) (fun _ _ _ _ => rfl) (fun _ _ _ _ => rfl) (fun _ _ => ⟨by decide, pre0, ⟨rfl, rfl, rfl, rfl, rfl, trivial⟩, ⟨rfl, rfl, rfl, rfl, rfl, trivial⟩, rfl, rfl⟩) fun gn' => ?_
  rw [← hT]
  refine gs_view (a := { env := [(3, .b 0 0), (4, .b 1 0), (15, I n1), (21, I g0), (22, .b 2 0)], H := [pot y9, .box (.agg [I s.benches, .sl 3 TL]), .box (.agg [I s.benches, .o 3 3 N]), .els 3 TL], nt := 272, dfs := [] }) [0, 1, 2, 3] ⟨by decide, pre0, ⟨rfl, rfl, rfl, rfl, trivial⟩, ⟨rfl, rfl, rfl, rfl, rfl, trivial⟩, rfl, rfl⟩ ?_
  refine gs_grNewN 3 [] (fun j e row h => by simp at h) ?_
  refine gs_boxPut 4 2 3 0 1 22 0 (row := TL) (d := .agg [I s.benches, .o 3 3 N]) (fun x => .agg [I s.benches, .v x]) rfl rfl rfl rfl (Nat.le_refl _) (fun e row h => by simp at h) (by omega) (by rw [hTN]; rfl) (fun x => rfl) fun b0 cap hcap => ?_
  rw [hTN] at hcap ⊢
  refine gs_view (a := { env := [(3, .b 0 0), (4, .b 1 0), (15, I n1), (21, I g0), (22, .b 2 0)], H := [pot y9, .box (.agg [I s.benches, .sl 3 TL]), .box (.agg [I s.benches, .v (.slice (some ⟨b0, 0, none⟩) N cap)]), .ob (.gr 3 [((.slice (some ⟨b0, 0, none⟩) N cap), some TL)])], nt := 272, dfs := [] }) [0, 1, 2, 4] ⟨by decide, pre0, ⟨rfl, rfl, rfl, rfl, trivial⟩, ⟨rfl, rfl, rfl, rfl, rfl, trivial⟩, rfl, rfl⟩ ?_
  refine gs_done ?_
  have q1 : A.hdOK g0 cap := by subst hA; exact ⟨hg1, by have := hgI.eq; omega⟩
  have q2 : A.fits .i64 (A.add g0 1) := yfit1 hA hgI (by omega)
  have q3 : A.tlOK (A.add g0 1) N cap := by
    have := hgI.eq
    subst hA; exact ⟨show 0 ≤ g0 + 1 by omega, show g0 + 1 ≤ (N : Int) by omega, hcap⟩
  have q4 : A.hd b0 g0 cap = .slice (some ⟨b0, 0, none⟩) gk cap := by subst hA; show Value.slice _ g0.toNat cap = _; rw [← hgk]
  have q5 : A.tl b0 (A.add g0 1) 3 N cap = .slice (if cap = gk + 1 then some ⟨b0, 0, none⟩ else some ⟨b0, (gk + 1) * 3, none⟩) (N - (gk + 1)) (cap - (gk + 1)) := by
    have h1 : (A.add g0 1).toNat = gk + 1 := by rw [xadd hA]; have := hgI.eq; omega
    subst hA; show Value.slice (if cap = (ar.add g0 1).toNat then some ⟨b0, 0, none⟩ else some ⟨b0, (ar.add g0 1).toNat * 3, none⟩) (N - (ar.add g0 1).toNat) (cap - (ar.add g0 1).toNat) = _; rw [h1]
  obtain ⟨FL, hFL⟩ : ∃ FL, FL = TL.take gk ++ TL.drop (gk + 1) := ⟨_, rfl⟩
  refine draw_goE tokT hA hS [9] [0, 1, 2, 3, 4, 5, 6, 7, 8, 9, 10, 11] rfl rfl fun Dk hD => ?_
  cbv
  refine ⟨q1, q2, q3, ?_⟩
  obtain ⟨nF, hnF⟩ : ∃ nF, nF = gk + (N - (gk + 1)) := ⟨_, rfl⟩
  obtain ⟨Fs, hFs⟩ : ∃ Fs, Fs = fewS s gk := ⟨_, rfl⟩
  have hgks : gk < s.tasks.length := by omega
  have hFb : Fs.benches = s.benches := by rw [hFs]; rfl
  have hFok : ShopOk Fs := by rw [hFs]; exact val_chk (few_val hv hgks)
  have hFT : FL = Fs.tasks.map taskD := by rw [hFL, hFs, fewS, List.map_append, List.map_take, List.map_drop, hT]
  have hFl : FL.length = nF := by rw [hFL, List.length_append, List.length_take, List.length_drop, hTN, hnF]; omega
  have eF : A.eqN nF (A.len FL) := xeqN hA (by rw [xlen hA, hFl])
  refine draw_opA hA hD rfl rfl rfl rfl rfl rfl (opA_appTail tokT 3 0 (sz := 2) (k := gk) (m2 := N - (gk + 1)) (N := N) (row := TL) rfl (congrArg (fun v => some (D.v v)) q4) (congrArg (fun v => some (D.v v)) q5) rfl rfl rfl rfl rfl rfl hTN.symm (by omega) (fun h => by rw [if_neg (by omega)]) (show N * 40 ≤ _ by omega) (by omega) ?_)
  rw [← hFL, ← hnF]
  refine aftG_of hA tokT hD (by cbv; repeat' (first | exact trivial | exact q1 | exact q2 | exact q3 | refine ⟨?_, ?_⟩)) ?_
  cbv
  refine ops_gs hS (gs_frz hA [5] ?_)
  cbv
  repeat (refine And.intro eF ?_)
  refine gs_done ?_
  refine ops_call hS [.agg [I s.benches, .sl 3 FL]] [] [] rfl rfl rfl rfl rfl rfl rfl rfl (by decide) trivial (hFb ▸ bBest Fs hFok FL hFT _ fun B3 m3 hB3 hm3 => ?_)
  have hT0 : A.cmp .eql 0 0 = true := by subst hA; rfl
  have hle : A.cmp .leq m3 n1 = true := by
    have h1 : m3 ≤ n1 := by rw [hm3, hn1, hFs]; exact few_best hv hgks
    subst hA; simpa [ar, cmpI] using h1
  refine ops_go tokT hA hS ?_
  cbv
  refine region_part tokT hA hS [0, 1] [2, 3, 4, 5, 6, 7, 8, 9, 10] rfl ?_
  cbv
  refine part_is tokT hA hS 263 (.v (.bool true)) rfl (congrArg (fun b => D.v (.bool b)) hT0) [2, 3, 4, 5] [6, 7, 8, 9, 10] ?_
  cbv
  refine part_is tokT hA hS 267 (.v (.bool true)) rfl (congrArg (fun b => D.v (.bool b)) hle) [6, 7, 8, 9, 10] [] ?_
  cbv
  refine ops_callG hS (b := true) rfl rfl rfl rfl rfl rfl rfl rfl (fun _ => ⟨[], _, [], [], [], rfl, rfl, rfl, by decide, trivial, filing _ ?_⟩) (fun h => absurd rfl h)
  refine ops_go tokT hA hS ?_
  cbv
  exact gh_view [] (by decide) pre0 (H' := []) (d' := .v (.bool true)) trivial rfl (gh_done hq)
end Go.Proofs.YtmloogdalecilaaDoor
