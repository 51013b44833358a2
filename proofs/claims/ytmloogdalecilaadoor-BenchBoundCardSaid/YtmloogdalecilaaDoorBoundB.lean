/- Part BoundB of the proofs about the benches of the accordion maker: see the last text of the claim for what is proved. -/
import Derived.Test.YtmloogdalecilaaDoorOwnA
import Derived.Test.YtmloogdalecilaaDoorBoundA
import Derived.Test.YtmloogdalecilaaDoorBenchE
set_option linter.unusedVariables false
set_option linter.unusedSimpArgs false
set_option linter.unnecessarySimpa false
set_option linter.constructorNameAsVariable false

/-! D75 -/
namespace Go.Proofs.YtmloogdalecilaaDoor
open Go Go.Abs Go.Proofs

theorem xltF5 {A : Ar} (hA : A = ar) {x y : Int} (h : y ≤ x) : A.cmp .lss x y = false := by subst hA; simp [ar, cmpI]; omega

theorem xlone {A : Ar} (hA : A = ar) {TL : List D} {ts : List Tk} (h : TL = ts.map taskD) : A.sub2OK TL 0 (A.min 1 (A.oi (A.len TL))) ∧ A.sub2 TL 0 (A.min 1 (A.oi (A.len TL))) = (ts.take 1).map taskD := by
  subst hA h
  match ts with
  | [] => exact ⟨⟨by decide, by decide, by decide⟩, rfl⟩
  | t :: l =>
    have h1 : ar.min 1 (ar.oi (ar.len ((t :: l).map taskD))) = 1 := by
      simp [ar]; omega
    rw [h1]
    exact ⟨⟨by decide, by decide, by simp; omega⟩, by simp [ar]⟩

set_option maxRecDepth 20000 in
set_option maxHeartbeats 8000000 in
/-- BenchBound. -/
theorem wBenchBound (L : List D) (nums : List Int) (hL : L = nums.map I) (hl : L.length ≤ 9223372036854775807) (Q) (hq : Q (RA.ret (.v (.bool true))) []) : CallA Tryd.prog 4 [.sl 1 L] [] Q := by
  obtain ⟨A, hA⟩ : ∃ A, A = ar := ⟨_, rfl⟩
  refine callA_startF tokT hA [6] Tryd.func4 rfl rfl rfl rfl rfl fun S hS => ?_
  cbv
  refine ops_call hS [.sl 1 L] [] [] rfl rfl rfl rfl rfl rfl rfl rfl (by decide) trivial (newPotL L nums hL hl _ fun x0 => ?_)
  refine ops_go tokT hA hS ?_
  cbv
  refine ops_call hS [.b 0 0, I 3, I 6] [0] [pot x0] rfl rfl rfl rfl rfl rfl rfl rfl (by decide) ⟨rfl, trivial⟩ (shopOf x0 3 6 (by decide) (by decide) _ fun s x1 hok => ?_)
  have hs : ShopOk s := okS_shop hok (by decide) (by decide)
  have hv := chkS_val hs.chk
  obtain ⟨TL, hT⟩ : ∃ TL, TL = s.tasks.map taskD := ⟨_, rfl⟩
  unfold shopD
  rw [← hT]
  have hTl : TL.length = s.tasks.length := by rw [hT]; simp
  obtain ⟨bd, hbd⟩ : ∃ bd, bd = bdAt s s.benches.toNat := ⟨_, rfl⟩
  have hbN : boundN s = (bd, 0) := by rw [boundN, if_pos hs.chk, hbd]
  refine ops_go tokT hA hS ?_
  cbv
  refine ops_call hS [.agg [I s.benches, .sl 3 TL]] [] [] rfl rfl rfl rfl rfl rfl rfl rfl (by decide) trivial (bBoundAll s hs.fin TL hT _ fun v e hve => ?_)
  obtain ⟨rfl, rfl⟩ : v = bd ∧ e = 0 := by rw [hbN] at hve; exact Prod.mk.inj hve
  refine ops_go tokT hA hS ?_
  cbv
  refine draw_go tokT hA hS [0, 1, 2, 8, 3, 4, 5, 6, 7, 9, 10] rfl rfl fun Dk hD => ?_
  cbv
  refine draw_call hA hD [.b 0 0, .agg [I s.benches, .sl 3 TL]] [0] [pot x1] rfl rfl rfl rfl rfl rfl rfl rfl rfl rfl rfl (by decide) ⟨rfl, trivial⟩ (planOf x1 s (by have := hv.sum; omega) (by have := hv.len; omega) TL hT _ fun p PL x2 hp hP => ⟨by cbv, draw_on tokT hA hD ?_⟩)
  cbv
  refine draw_call hA hD [.agg [I s.benches, .sl 3 TL], .sl 1 PL] [] [] rfl rfl rfl rfl rfl rfl rfl rfl rfl rfl rfl (by decide) trivial (bLastPlan s hs p hp TL PL hT hP _ fun lo hi hlh => ⟨by cbv, draw_on tokT hA hD ?_⟩)
  have hhi : v ≤ hi := by have := bound_le hv hp; rw [worst, hlh] at this; omega
  cbv
  refine ops_call hS [.agg [I s.benches, .sl 3 TL]] [] [] rfl rfl rfl rfl rfl rfl rfl rfl (by decide) trivial (bBest s hs TL hT _ fun BL n hB hn => ?_)
  have hbn : v ≤ n := by have := bound_best hv; omega
  have hn0 : A.cmp .neq 0 0 = false := by subst hA; rfl
  have hl1 : A.cmp .lss hi v = false := xltF5 hA hhi
  have hl2 : A.cmp .lss n v = false := xltF5 hA hbn
  refine ops_go tokT hA hS ?_
  cbv
  refine region_part tokT hA hS [0, 1] [2, 3, 4, 5, 6, 7, 8, 9, 10, 11, 12, 13, 14, 15, 16, 17, 18, 19, 20] rfl ?_
  cbv
  refine part_is tokT hA hS 47 (.v (.bool false)) rfl (congrArg (fun b => D.v (.bool b)) hn0) [2, 3, 4] [5, 6, 7, 8, 9, 10, 11, 12, 13, 14, 15, 16, 17, 18, 19, 20] ?_
  cbv
  refine part_is tokT hA hS 50 (.v (.bool false)) rfl (congrArg (fun b => D.v (.bool b)) hn0) [5, 6, 7, 8] [9, 10, 11, 12, 13, 14, 15, 16, 17, 18, 19, 20] ?_
  cbv
  refine part_is tokT hA hS 54 (.v (.bool false)) rfl (congrArg (fun b => D.v (.bool b)) hn0) [9, 10, 11, 12, 13, 14] [15, 16, 17, 18, 19, 20] ?_
  cbv
  refine part_is tokT hA hS 60 (.v (.bool false)) rfl (congrArg (fun b => D.v (.bool b)) hl1) [15, 16, 17, 18, 19] [20] ?_
  cbv
  refine part_is tokT hA hS 65 (.v (.bool false)) rfl (congrArg (fun b => D.v (.bool b)) hl2) [20] [] ?_
  cbv
  refine at_ops hS (ops_go tokT hA hS ?_)
  cbv
  have hnb : NotBig s := ⟨by have := hok.len; omega, fun t ht => by have := (hok.tk t ht).w1; omega⟩
  have hne : ∀ t ∈ s.tasks, 0 < t.works.length := fun t ht => (hok.tk t ht).w0
  obtain ⟨N, hN⟩ : ∃ N, N = s.tasks.length := ⟨_, rfl⟩
  have hTN : TL.length = N := by rw [hTl, hN]
  refine draw_go tokT hA hS [0, 2, 4, 5, 1, 3, 6, 7] rfl rfl fun Dk hD => ?_
  cbv
  refine draw_call hA hD [.agg [I s.benches, .sl 3 TL]] [] [] rfl rfl rfl rfl rfl rfl rfl rfl rfl rfl rfl (by decide) trivial (kCopyShop s hnb TL hT _ ⟨by cbv, draw_on tokT hA hD ?_⟩)
  cbv
  refine draw_call hA hD [.agg [I s.benches, .sl 3 TL]] [] [] rfl rfl rfl rfl rfl rfl rfl rfl rfl rfl rfl (by decide) trivial (kCopyShopG s hnb hne TL hT N hN _ fun xs es gn hx hes hgn => ⟨by cbv, draw_on tokT hA hD ?_⟩)
  cbv
  obtain ⟨sl1, sl2⟩ := xlone hA hT
  refine ⟨sl1, ?_⟩
  have hxN : xs.length = s.tasks.length := by rw [hx, hN]
  have hNb : N ≤ 3 := by rw [hN]; exact hok.len
  refine at_code hS ?_
  refine wpa_loopG (α := Int × Nat × List Value × List D × List Ent) (fun q => { env := [(12, .b 0 0), (13, .b 1 0), (14, I q.1)], H := [.box (.agg [I s.benches, .sl 3 (A.sub2 TL 0 (A.min 1 (A.oi (A.len TL))))]), .box (.agg [I 1, .o 2 3 N]), .els 3 q.2.2.2.1, .ob (.gr 3 q.2.2.2.2)], nt := 150, dfs := [] })
    (fun q => N - q.2.1) (fun q => q.2.1 ≤ N ∧ IsI q.1 q.2.1 ∧ q.2.2.1.length = N ∧ q.2.2.2.1 = ownE (preAt (fun _ => 2) zeroW s.tasks q.2.1) q.2.2.1 nof ∧ q.2.2.2.2 = ownN (preAt (fun _ => 2) zeroW s.tasks q.2.1) q.2.2.1 nof) (0, 0, xs, es, gn) ⟨Nat.zero_le _, ⟨rfl⟩, hx, by rw [preAt_zero]; exact hes, by rw [preAt_zero]; exact hgn⟩ ?_ ?_
  · exact gs_to [3, 4, 5, 6] ⟨by decide, pre0, ⟨rfl, rfl, rfl, rfl, trivial⟩, ⟨rfl, rfl, rfl, trivial⟩, rfl, rfl⟩
  · rintro ⟨i, k, xs1, es1, gn1⟩ ⟨u1, u2, u3, u4, u5⟩
    dsimp only at u1 u2 u3 u4 u5
    refine wp_goF tokT hA hS [15] ?_
    cbv
    refine bm (fun c => ?_) (fun c => ?_)
    · have hk : k < N := yltN hA u2 c
      obtain ⟨t, ht⟩ : ∃ t, s.tasks[k]? = some t := ⟨_, List.getElem?_eq_getElem (by omega)⟩
      obtain ⟨W, hW⟩ : ∃ W, W = t.works.length := ⟨_, rfl⟩
      have hWb : W ≤ 3 := by rw [hW]; exact (hok.tk t (List.mem_of_getElem? ht)).w1
      have hW0 : 0 < W := by rw [hW]; exact (hok.tk t (List.mem_of_getElem? ht)).w0
      have hxl : xs1.length = s.tasks.length := by omega
      obtain ⟨x0, hx0⟩ : ∃ x0, x0 = xs1.getD k nilS := ⟨_, rfl⟩
      have hEk : es1[k]? = some (.agg [I t.ready, I t.due, .v x0]) := by rw [u4, hx0]; exact own_pre ht hxl
      have hi1 := yinb hA u2 hk
      have hg1 := yget hA u2 hEk
      obtain ⟨es2, hes2⟩ : ∃ es2, es2 = A.set es1 (A.tn i) (.agg [I 2, I t.due, .v x0]) := ⟨_, rfl⟩
      have hes3 : es2 = ownE (partAt (fun _ => 2) zeroW s.tasks k 0) xs1 nof := by rw [hes2, yset hA u2 rfl, u4, hx0]; exact (own_pre0 ht hxl).1
      have hgn3 : gn1 = ownN (partAt (fun _ => 2) zeroW s.tasks k 0) xs1 nof := by rw [u5]; exact (own_pre0 ht hxl).2
      have hf := yfit1 hA u2 (by omega)
      have hu2 := ysucc hA u2
      have hms : N - (k + 1) < N - k := by omega
      cbv
      refine ⟨hi1, ⟨_, hg1, ?_⟩⟩
      refine at_code hS ?_
      refine wp_go tokT hA hS ?_
      cbv
      refine at_code hS ?_
      refine wpa_loopG (α := Int × Nat × List Value × List D × List Ent) (fun q => { env := [(12, .b 0 0), (13, .b 1 0), (14, I i), (15, I q.1)], H := [.box (.agg [I s.benches, .sl 3 (A.sub2 TL 0 (A.min 1 (A.oi (A.len TL))))]), .box (.agg [I 1, .o 2 3 N]), .els 3 q.2.2.2.1, .ob (.gr 3 q.2.2.2.2)], nt := 150, dfs := [] })
        (fun q => W - q.2.1) (fun q => q.2.1 ≤ W ∧ IsI q.1 q.2.1 ∧ q.2.2.1.length = N ∧ q.2.2.2.1 = ownE (partAt (fun _ => 2) zeroW s.tasks k q.2.1) q.2.2.1 nof ∧ q.2.2.2.2 = ownN (partAt (fun _ => 2) zeroW s.tasks k q.2.1) q.2.2.1 nof) (0, 0, xs1, es2, gn1) ⟨Nat.zero_le _, ⟨rfl⟩, u3, hes3, hgn3⟩ ?_ ?_
      · rw [hes2]
        exact gs_to [0, 1, 2, 3] ⟨by decide, pre0, ⟨rfl, rfl, rfl, rfl, trivial⟩, ⟨rfl, rfl, rfl, rfl, trivial⟩, rfl, rfl⟩
      rintro ⟨j, c, xs2, es4, gn4⟩ ⟨v1, v2, v3, v4, v5⟩
      dsimp only at v1 v2 v3 v4 v5
      have hxl2 : xs2.length = s.tasks.length := by omega
      obtain ⟨r, hr⟩ : ∃ r, r = ((partAt (fun _ => 2) zeroW s.tasks k c).getD k tkZ).works.map workD := ⟨_, rfl⟩
      have hrl : W = r.length := by rw [hr, row_part ht, List.length_map, partTk_len (by omega), hW]
      refine wpa_gs (own_take 2 3 k 4 v4 v5 rfl rfl rfl (by decide) (by omega) rfl hr hrl fun es5 gn5 e1 e2 => gs_done ?_)
      have hE5 := own_out ht hxl2 e1
      have hi5 := yinb hA u2 hk
      have hg5 := yget hA u2 hE5
      refine wp_goF tokT hA hS [] ?_
      cbv
      refine ⟨hi5, ⟨_, hg5, ?_⟩⟩
      cbv
      refine bm (fun c3 => ?_) (fun c3 => ?_)
      · have hc : c < W := yltN hA v2 c3
        obtain ⟨w, hw⟩ : ∃ w, t.works[c]? = some w := ⟨_, List.getElem?_eq_getElem (by omega)⟩
        have hrc : r[c]? = some (.agg [I w.b, I w.lo, I w.hi]) := by rw [hr, row_part ht, List.getElem?_map, partTk_at (by omega), hw]; rfl
        have hj1 := yinb hA v2 hc
        have hgr := yget hA v2 hrc
        obtain ⟨r2, hr2⟩ : ∃ r2, r2 = A.set r (A.tn j) (.agg [I 0, I w.lo, I w.hi]) := ⟨_, rfl⟩
        have hr3 : r2 = ((partAt (fun _ => 2) zeroW s.tasks k (c + 1)).getD k tkZ).works.map workD := by rw [hr2, yset hA v2 rfl, hr, row_part ht, row_part ht, partTk_succ hw, List.map_set]; rfl
        have hr2l : W = r2.length := by rw [hr2, yset hA v2 rfl, List.length_set]; exact hrl
        have hf2 := yfit1 hA v2 (by omega)
        have hv2 := ysucc hA v2
        have hms2 : W - (c + 1) < W - c := by omega
        have hes6 : es5 = (ownE (partAt (fun _ => 2) zeroW s.tasks k c) xs2 nof).set k (elT (partAt (fun _ => 2) zeroW s.tasks k (c + 1)) k (.o 4 3 W)) := by rw [e1, elT_part ht, elT_part ht]
        cbv
        refine ⟨hi5, ⟨_, hg5, ?_⟩⟩
        cbv
        refine ⟨hj1, ⟨_, hgr, ?_⟩⟩
        cbv
        refine ⟨hf2, ?_⟩
        refine own_put 2 3 k 4 (row := r2) hes6 e2 rfl rfl (by rw [hr2]; rfl) (.inr ⟨13, 1, 0, .agg [I 1, .o 2 3 N], 1, 3, N, rfl, rfl, rfl⟩) (by omega) part_upd (fun _ _ => rfl) rfl hr3 hr2l hW0 fun xs3 es7 gn7 g1 g2 g3 => ?_
        refine gs_loop (A.add j 1, c + 1, xs3, es7, gn7) [0, 1, 2, 3] ⟨hc, hv2, g1.trans v3, g2, g3⟩ hms2 ?_
        exact ⟨by decide, pre0, ⟨rfl, rfl, rfl, rfl, trivial⟩, ⟨rfl, rfl, rfl, rfl, trivial⟩, rfl, rfl⟩
      · have hcW : c = W := by have := ynltN hA v2 c3; omega
        have hpn := own_next (r := fun _ => 2) (f := zeroW) ht (hcW.trans hW)
        cbv
        refine own_put 2 3 k 4 (row := r) e1 e2 rfl rfl rfl (.inr ⟨13, 1, 0, .agg [I 1, .o 2 3 N], 1, 3, N, rfl, rfl, rfl⟩) (by omega) (fun _ _ => rfl) (fun _ _ => rfl) rfl hr hrl hW0 fun xs3 es7 gn7 g1 g2 g3 => ?_
        rw [hpn] at g2 g3
        refine gs_done ?_
        cbv
        refine ⟨hf, ?_⟩
        refine gs_loop (A.add i 1, k + 1, xs3, es7, gn7) [0, 1, 2, 3] ⟨hk, hu2, g1.trans v3, g2, g3⟩ hms ?_
        exact ⟨by decide, pre0, ⟨rfl, rfl, rfl, rfl, trivial⟩, ⟨rfl, rfl, rfl, trivial⟩, rfl, rfl⟩
    · have hkN : k = N := by have := ynltN hA u2 c; omega
      have hpa : preAt (fun _ => 2) zeroW s.tasks k = (oneS s).tasks := preAt_all (hkN.trans hN)
      have hes8 : es1 = ownE (oneS s).tasks xs1 fun _ => false := by rw [u4, hpa]; rfl
      have hgn8 : gn1 = ownN (oneS s).tasks xs1 fun _ => false := by rw [u5, hpa]; rfl
      obtain ⟨OL, hOL⟩ : ∃ OL, OL = (oneS s).tasks.map taskD := ⟨_, rfl⟩
      have hOl : OL.length = N := by rw [hOL, List.length_map, oneS, List.length_map, hN]
      have hol : xs1.length = (oneS s).tasks.length := by rw [oneS, List.length_map, ← hN]; exact u3
      have eo : A.eqN N (A.len OL) := xeqN hA (by rw [xlen hA, hOl])
      cbv
      refine gs_view (a := { env := [(12, .b 0 0), (13, .b 1 0)], H := [.box (.agg [I s.benches, .sl 3 (A.sub2 TL 0 (A.min 1 (A.oi (A.len TL))))]), .box (.agg [I 1, .o 2 3 N]), .els 3 es1, .ob (.gr 3 gn1)], nt := 150, dfs := [] }) [0, 1, 2, 3] ⟨by decide, pre0, ⟨rfl, rfl, rfl, rfl, trivial⟩, ⟨rfl, rfl, trivial⟩, rfl, rfl⟩ ?_
      refine own_melt 2 3 [0, 1, 2, 3] (fun es' gn' => { env := [(12, .b 0 0), (13, .b 1 0)], H := [.box (.agg [I s.benches, .sl 3 (A.sub2 TL 0 (A.min 1 (A.oi (A.len TL))))]), .box (.agg [I 1, .o 2 3 N]), .els 3 es', .ob (.gr 3 gn')], nt := 150, dfs := [] }) (by decide) hes8 hgn8 hol (fun _ _ => rfl) (fun _ _ => rfl) (fun _ _ _ _ => rfl) (fun _ _ _ _ => rfl) (fun _ _ => ⟨by decide, pre0, ⟨rfl, rfl, rfl, rfl, trivial⟩, ⟨rfl, rfl, trivial⟩, rfl, rfl⟩) fun gn' => ?_
      rw [← hOL]
      refine gs_frz hA [2] ?_
      cbv
      refine ⟨eo, ?_⟩
      obtain ⟨LT, hLT⟩ : ∃ LT, LT = (A.sub2 TL 0 (A.min 1 (A.oi (A.len TL)))) := ⟨_, rfl⟩
      have hLT2 : LT = (loneS s).tasks.map taskD := hLT.trans sl2
      have hvl := okS_shop (loneS_ok hok) (by decide) (by decide)
      have hvo := okS_shop (oneS_ok hok) (by decide) (by decide)
      obtain ⟨SS, hSS⟩ : ∃ SS : List D, SS = [.agg [I s.benches, .sl 3 LT], .agg [I 1, .sl 3 OL]] := ⟨_, rfl⟩
      have hSl : SS.length = 2 := by rw [hSS]; rfl
      refine gs_done ?_
      cbv
      refine at_code hS ?_
      refine wp_go tokT hA hS ?_
      cbv
      refine at_code hS ?_
      refine wpa_loopG (α := Int × Nat) (fun q => { env := [(16, .sl 2 SS), (17, I q.1)], H := [], nt := 150, dfs := [] })
        (fun q => 2 - q.2) (fun q => q.2 ≤ 2 ∧ IsI q.1 q.2) (0, 0) ⟨by decide, ⟨rfl⟩⟩ ?_ ?_
      · refine gs_frz hA [4] ?_
        cbv
        repeat (refine And.intro (yeqLen hA rfl) ?_)
        exact gs_to [] ⟨by decide, pre0, trivial, ⟨by rw [hSS, hLT]; rfl, rfl, trivial⟩, rfl, rfl⟩
      rintro ⟨i, k⟩ ⟨u1, u2⟩
      dsimp only at u1 u2
      refine wp_goF tokT hA hS [25] ?_
      cbv
      refine bm (fun c => ?_) (fun c => ?_)
      · have hk : k < 2 := yltL hA hSl u2 c
        obtain ⟨z, ZL, hz, hZ, hzb, hSk⟩ : ∃ (z : Sh) (ZL : List D), ShopOk z ∧ ZL = z.tasks.map taskD ∧ (bestS z).2.2 = bdAt z z.benches.toNat ∧ SS[k]? = some (.agg [I z.benches, .sl 3 ZL]) := by
          match k, hk with
          | 0, _ => exact ⟨loneS s, LT, hvl, hLT2, lone_eq (chkS_val hvl.chk), by rw [hSS]; rfl⟩
          | 1, _ => exact ⟨oneS s, OL, hvo, hOL, one_eq (chkS_val hvo.chk), by rw [hSS]; rfl⟩
        have hzN : boundN z = (bdAt z z.benches.toNat, 0) := by rw [boundN, if_pos hz.chk]
        have iS := yinbL hA hSl u2 hk
        have gS := yget hA u2 hSk
        have hf := yfit1 hA u2 (by omega)
        have hu2 := ysucc hA u2
        have hms : 2 - (k + 1) < 2 - k := by omega
        obtain ⟨bz, hbz⟩ : ∃ bz, bz = bdAt z z.benches.toNat := ⟨_, rfl⟩
        rw [← hbz] at hzb hzN
        cbv
        refine ⟨iS, ⟨_, gS, ?_⟩⟩
        cbv
        refine ops_call hS [.agg [I z.benches, .sl 3 ZL]] [] [] rfl rfl rfl rfl rfl rfl rfl rfl (by decide) trivial (bBoundAll z hz.fin ZL hZ _ fun v2 e2 hve2 => ?_)
        obtain ⟨rfl, rfl⟩ : v2 = bz ∧ e2 = 0 := by rw [hzN] at hve2; exact Prod.mk.inj hve2
        refine ops_go tokT hA hS ?_
        cbv
        refine ⟨iS, ⟨_, gS, ?_⟩⟩
        cbv
        refine ops_call hS [.agg [I z.benches, .sl 3 ZL]] [] [] rfl rfl rfl rfl rfl rfl rfl rfl (by decide) trivial (bBest z hz ZL hZ _ fun BL2 n2 hB2 hn2 => ?_)
        have hn3 : A.cmp .neq v2 n2 = false := xneF hA (by rw [hn2, hzb])
        refine ops_go tokT hA hS ?_
        cbv
        refine region_part tokT hA hS [0, 1] [2, 3, 4, 5, 6, 7, 8, 9, 10] rfl ?_
        cbv
        refine part_is tokT hA hS 139 (.v (.bool false)) rfl (congrArg (fun b => D.v (.bool b)) hn0) [2, 3, 4] [5, 6, 7, 8, 9, 10] ?_
        cbv
        refine part_is tokT hA hS 142 (.v (.bool false)) rfl (congrArg (fun b => D.v (.bool b)) hn0) [5, 6, 7, 8, 9] [10] ?_
        cbv
        refine part_is tokT hA hS 147 (.v (.bool false)) rfl (congrArg (fun b => D.v (.bool b)) hn3) [10] [] ?_
        cbv
        refine at_ops hS (ops_go tokT hA hS ?_)
        cbv
        refine ⟨hf, ?_⟩
        refine gs_loop (A.add i 1, k + 1) [] ⟨hk, hu2⟩ hms ?_
        exact ⟨by decide, pre0, trivial, ⟨rfl, rfl, trivial⟩, rfl, rfl⟩
      · cbv
        refine gs_done ?_
        cbv
        refine ops_call hS [] [] [] rfl rfl rfl rfl rfl rfl rfl rfl (by decide) trivial (filing _ ?_)
        refine ops_go tokT hA hS ?_
        cbv
        exact gh_view [] (by decide) pre0 (H' := []) (d' := .v (.bool true)) trivial rfl (gh_done hq)
end Go.Proofs.YtmloogdalecilaaDoor
