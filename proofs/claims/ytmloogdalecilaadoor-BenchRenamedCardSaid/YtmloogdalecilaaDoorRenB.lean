/- Part RenB of the proofs about the benches of the accordion maker: see the last text of the claim for what is proved. -/
import Derived.Test.YtmloogdalecilaaDoorOwnA
import Derived.Test.YtmloogdalecilaaDoorRenA
import Derived.Test.YtmloogdalecilaaDoorBenchE
import Derived.Test.YtmloogdalecilaaDoorBenchD
set_option linter.unusedVariables false
set_option linter.unusedSimpArgs false
set_option linter.unnecessarySimpa false
set_option linter.constructorNameAsVariable false

/-! D76 -/
namespace Go.Proofs.YtmloogdalecilaaDoor
open Go Go.Abs Go.Proofs

theorem set_sameE {α : Type} {l : List α} {k : Nat} {x : α} (h : l[k]? = some x) : l.set k x = l := by
  refine List.ext_getElem? fun j => ?_
  rw [List.getElem?_set]
  by_cases e : k = j
  · subst e; rw [if_pos rfl, if_pos (List.getElem?_eq_some_iff.1 h).1, h]
  · rw [if_neg e]

theorem xltF6 {A : Ar} (hA : A = ar) {x y : Int} (h : y ≤ x) : A.cmp .lss x y = false := by subst hA; simp [ar, cmpI]; omega

theorem leqT {A : Ar} (hA : A = ar) (l : List Int) : A.bnot (A.leq l l) = false := by subst hA; simp [ar]

set_option maxRecDepth 20000 in
set_option maxHeartbeats 16000000 in
/-- BenchRenamed. -/
theorem wBenchRenamed (L : List D) (nums : List Int) (hL : L = nums.map I) (hl : L.length ≤ 9223372036854775807) (Q) (hq : Q (RA.ret (.v (.bool true))) []) : CallA Tryd.prog 12 [.sl 1 L] [] Q := by
  obtain ⟨A, hA⟩ : ∃ A, A = ar := ⟨_, rfl⟩
  refine callA_startF tokT hA [7, 16, 28] Tryd.func12 rfl rfl rfl rfl rfl fun S hS => ?_
  cbv
  refine ops_call hS [.sl 1 L] [] [] rfl rfl rfl rfl rfl rfl rfl rfl (by decide) trivial (newPotL L nums hL hl _ fun x0 => ?_)
  refine ops_go tokT hA hS ?_
  cbv
  refine ops_call hS [.b 0 0, I 3, I 6] [0] [pot x0] rfl rfl rfl rfl rfl rfl rfl rfl (by decide) ⟨rfl, trivial⟩ (shopOf x0 3 6 (by decide) (by decide) _ fun s x1 hok => ?_)
  have hs : ShopOk s := okS_shop hok (by decide) (by decide)
  have hv := chkS_val hs.chk
  obtain ⟨TL, hT⟩ : ∃ TL, TL = s.tasks.map taskD := ⟨_, rfl⟩
  unfold shopD
  rw [← hT]
  obtain ⟨N, hN⟩ : ∃ N, N = s.tasks.length := ⟨_, rfl⟩
  have hTN : TL.length = N := by rw [hT, hN]; simp
  have hNb : N ≤ 3 := by rw [hN]; exact hok.len
  obtain ⟨B, hB⟩ : ∃ B, B = s.benches.toNat := ⟨_, rfl⟩
  have hBi : IsI s.benches B := ⟨by have := hok.b0; omega⟩
  have hBb : B ≤ 3 := by have := hok.b1; omega
  refine ops_go tokT hA hS ?_
  cbv
  refine ops_call hS [.b 0 0, .agg [I s.benches, .sl 3 TL]] [0] [pot x1] rfl rfl rfl rfl rfl rfl rfl rfl (by decide) ⟨rfl, trivial⟩ (planOf x1 s (by have := hv.sum; omega) (by have := hv.len; omega) TL hT _ fun p PL x2 hp hP => ?_)
  refine ops_go tokT hA hS ?_
  cbv
  refine draw_go tokT hA hS [0, 1, 2, 4, 5, 6, 7, 3, 8, 9, 10] rfl rfl fun Dk hD => ?_
  cbv
  refine draw_call hA hD [.b 0 0, I s.benches] [0] [pot x2] rfl rfl rfl rfl rfl rfl rfl rfl rfl rfl rfl (by decide) ⟨rfl, trivial⟩ (mix x2 s.benches B hBi (by omega) _ fun q1 QL1 x3 hq1 hQ1 => ⟨by cbv, draw_on tokT hA hD ?_⟩)
  cbv
  have hoN : IsI (A.oi (A.len TL)) N := ⟨by rw [xlen hA, hTN]; exact xoi hA N⟩
  refine draw_call hA hD [.b 0 0, I (A.oi (A.len TL))] [0] [pot x3] rfl rfl rfl rfl rfl rfl rfl rfl rfl rfl rfl (by decide) ⟨rfl, trivial⟩ (mix x3 (A.oi (A.len TL)) N hoN (by omega) _ fun q2 QL2 x4 hq2 hQ2 => ⟨by cbv, draw_on tokT hA hD ?_⟩)
  cbv
  have hnb : NotBig s := ⟨by have := hok.len; omega, fun t ht => by have := (hok.tk t ht).w1; omega⟩
  have hne : ∀ t ∈ s.tasks, 0 < t.works.length := fun t ht => (hok.tk t ht).w0
  refine draw_go tokT hA hS [0, 2, 4, 5, 1, 3, 6, 7] rfl rfl fun Dk hD => ?_
  cbv
  refine draw_call hA hD [.agg [I s.benches, .sl 3 TL]] [] [] rfl rfl rfl rfl rfl rfl rfl rfl rfl rfl rfl (by decide) trivial (kCopyShopG s hnb hne TL hT N hN _ fun xs es gn hx hes hgn => ⟨by cbv, draw_on tokT hA hD ?_⟩)
  cbv
  refine draw_call hA hD [.agg [I s.benches, .sl 3 TL]] [] [] rfl rfl rfl rfl rfl rfl rfl rfl rfl rfl rfl (by decide) trivial (kCopyShopG s hnb hne TL hT N hN _ fun xsy esy gny hxy hesy hgny => ⟨by cbv, draw_on tokT hA hD ?_⟩)
  cbv
  have hxN : xs.length = s.tasks.length := by rw [hx, hN]
  have hyN : xsy.length = s.tasks.length := by rw [hxy, hN]
  let β := reW (atP q1)
  refine at_code hS ?_
  refine wpa_loopG (α := Int × Nat × List Value × List D × List Ent × List Tk × List D) (fun q => { env := [(4, .b 0 0), (5, .sl 1 PL), (6, .sl 1 QL1), (7, .sl 1 QL2), (8, .b 1 0), (9, .b 2 0), (10, I q.1)], H := [.box (.agg [I s.benches, .sl 3 TL]), .box (.agg [I s.benches, .o 3 3 N]), .box (.agg [I s.benches, .o 5 3 N]), .els 3 q.2.2.2.1, .ob (.gr 3 q.2.2.2.2.1), .els 3 q.2.2.2.2.2.2], nt := 262, dfs := [] })
    (fun q => N - q.2.1) (fun q => q.2.1 ≤ N ∧ IsI q.1 q.2.1 ∧ q.2.2.1.length = N ∧ q.2.2.2.1 = ownE (preAt id (reW (atP q1)) s.tasks q.2.1) q.2.2.1 nof ∧ q.2.2.2.2.1 = ownN (preAt id (reW (atP q1)) s.tasks q.2.1) q.2.2.1 nof ∧ (q.2.2.2.2.2.2 = q.2.2.2.2.2.1.map taskD ∧ q.2.2.2.2.2.1.length = N ∧ ∀ j, j < q.2.1 → q.2.2.2.2.2.1.getD (atP q2 j) tkZ = s.tasks.getD j tkZ)) (0, 0, xs, es, gn, s.tasks, TL) ⟨Nat.zero_le _, ⟨rfl⟩, hx, by rw [preAt_zero]; exact hes, by rw [preAt_zero]; exact hgn, hT, hN.symm, fun j hj => absurd hj (Nat.not_lt_zero j)⟩ ?_ ?_
  · refine gs_view (a := { env := [(4, .b 0 0), (5, .sl 1 PL), (6, .sl 1 QL1), (7, .sl 1 QL2), (8, .b 1 0), (9, .b 2 0), (10, I 0)], H := [.box (.agg [I s.benches, .sl 3 TL]), .box (.agg [I s.benches, .o 3 3 N]), .box (.agg [I s.benches, .o 5 3 N]), .els 3 es, .ob (.gr 3 gn), .els 3 esy, .ob (.gr 3 gny)], nt := 262, dfs := [] }) [1, 2, 3, 4, 5, 6, 7] ⟨by decide, pre0, ⟨rfl, rfl, rfl, rfl, rfl, rfl, rfl, trivial⟩, ⟨rfl, rfl, rfl, rfl, rfl, rfl, rfl, trivial⟩, rfl, rfl⟩ ?_
    refine own_melt 5 6 [0, 1, 2, 3, 4, 5, 6] (fun es' gn' => { env := [(4, .b 0 0), (5, .sl 1 PL), (6, .sl 1 QL1), (7, .sl 1 QL2), (8, .b 1 0), (9, .b 2 0), (10, I 0)], H := [.box (.agg [I s.benches, .sl 3 TL]), .box (.agg [I s.benches, .o 3 3 N]), .box (.agg [I s.benches, .o 5 3 N]), .els 3 es, .ob (.gr 3 gn), .els 3 es', .ob (.gr 3 gn')], nt := 262, dfs := [] }) (by decide) hesy hgny hyN (fun _ _ => rfl) (fun _ _ => rfl) (fun _ _ _ _ => rfl) (fun _ _ _ _ => rfl) (fun _ _ => ⟨by decide, pre0, ⟨rfl, rfl, rfl, rfl, rfl, rfl, rfl, trivial⟩, ⟨rfl, rfl, rfl, rfl, rfl, rfl, rfl, trivial⟩, rfl, rfl⟩) fun gn' => ?_
    rw [← hT]
    exact gs_to [0, 1, 2, 3, 4, 5] ⟨by decide, pre0, ⟨rfl, rfl, rfl, rfl, rfl, rfl, trivial⟩, ⟨rfl, rfl, rfl, rfl, rfl, rfl, rfl, trivial⟩, rfl, rfl⟩
  rintro ⟨i, k, xs1, es1, gn1, ys1, YL1⟩ ⟨u1, u2, u3, u4, u5, u6, u7, u8⟩
  dsimp only at u1 u2 u3 u4 u5 u6 u7 u8
  refine wp_goF tokT hA hS [10] ?_
  cbv
  refine bm (fun c => ?_) (fun c => ?_)
  · have hk : k < N := yltN hA u2 c
    obtain ⟨t, ht⟩ : ∃ t, s.tasks[k]? = some t := ⟨_, List.getElem?_eq_getElem (by omega)⟩
    obtain ⟨W, hW⟩ : ∃ W, W = t.works.length := ⟨_, rfl⟩
    have htok := hok.tk t (List.mem_of_getElem? ht)
    have hWb : W ≤ 3 := by rw [hW]; exact htok.w1
    have hW0 : 0 < W := by rw [hW]; exact htok.w0
    have hxl : xs1.length = s.tasks.length := by omega
    obtain ⟨x0, hx0⟩ : ∃ x0, x0 = xs1.getD k nilS := ⟨_, rfl⟩
    have hes3 : es1 = ownE (partAt id (reW (atP q1)) s.tasks k 0) xs1 nof := by
      have h1 := (own_pre0 (r := id) (f := reW (atP q1)) ht hxl).1
      have h2 := own_pre (r := id) (f := reW (atP q1)) ht hxl
      rw [← u4] at h1 h2
      rw [← h1]
      exact (set_sameE h2).symm
    have hgn3 : gn1 = ownN (partAt id (reW (atP q1)) s.tasks k 0) xs1 nof := by rw [u5]; exact (own_pre0 ht hxl).2
    have hf := yfit1 hA u2 (by omega)
    have hu2 := ysucc hA u2
    have hms : N - (k + 1) < N - k := by omega
    obtain ⟨pk, hpk⟩ : ∃ pk, pk = atP q2 k := ⟨_, rfl⟩
    have hpkN : pk < N := by rw [hpk, hN]; exact perm_lt (hN ▸ hq2) (by omega)
    obtain ⟨pi, hpi⟩ : ∃ pi : Int, pi = (pk : Nat) := ⟨_, rfl⟩
    have hpI : IsI pi pk := ⟨hpi⟩
    have hQ2k : QL2[k]? = some (I pi) := by rw [hQ2, natL, List.getElem?_map, perm_get hq2 hk, hpi, hpk]; rfl
    have iQ := yinbL hA (show QL2.length = N by rw [hQ2, natL, List.length_map, perm_len hq2]) u2 hk
    have gQ := yget hA u2 hQ2k
    obtain ⟨WL, hWL⟩ : ∃ WL, WL = t.works.map workD := ⟨_, rfl⟩
    have hTk : TL[k]? = some (.agg [I t.ready, I t.due, .sl 3 WL]) := by rw [hT, List.getElem?_map, ht, hWL]; rfl
    have iT := yinbL hA hTN u2 hk
    have gT := yget hA u2 hTk
    have iY := yinb hA hpI hpkN
    obtain ⟨z1, z2, z3, hYk⟩ : ∃ z1 z2 z3, YL1[pk]? = some (.agg [z1, z2, z3]) := ⟨_, _, _, by rw [u6, List.getElem?_map, List.getElem?_eq_getElem (by omega)]; rfl⟩
    have gY := yget hA hpI hYk
    obtain ⟨YL2, hYL2⟩ : ∃ YL2, YL2 = A.set YL1 (A.tn pi) (.agg [I t.ready, I t.due, .sl 3 WL]) := ⟨_, rfl⟩
    obtain ⟨ys2, hys2⟩ : ∃ ys2, ys2 = ys1.set pk t := ⟨_, rfl⟩
    have hYs2 : YL2 = ys2.map taskD := by rw [hYL2, yset hA hpI rfl, u6, hys2, List.map_set, hWL]; rfl
    have hys2l : ys2.length = N := by rw [hys2, List.length_set, u7]
    have hysat : ∀ j, j < k + 1 → ys2.getD (atP q2 j) tkZ = s.tasks.getD j tkZ := fun j hj => by
      rw [hys2, getD_set _ _ _ _ _ (by omega)]
      by_cases e : j = k
      · subst e; rw [← hpk, if_pos rfl, tkD_get ht]
      · rw [if_neg (fun he => e (perm_inj hq2 (by omega) hk (he.trans hpk))), u8 j (by omega)]
    cbv
    refine at_code hS ?_
    refine wpa_loopG (α := Int × Nat × List Value × List D × List Ent) (fun q => { env := [(4, .b 0 0), (5, .sl 1 PL), (6, .sl 1 QL1), (7, .sl 1 QL2), (8, .b 1 0), (9, .b 2 0), (10, I i), (11, I q.1)], H := [.box (.agg [I s.benches, .sl 3 TL]), .box (.agg [I s.benches, .o 3 3 N]), .box (.agg [I s.benches, .o 5 3 N]), .els 3 q.2.2.2.1, .ob (.gr 3 q.2.2.2.2), .els 3 YL1], nt := 262, dfs := [] })
      (fun q => W - q.2.1) (fun q => q.2.1 ≤ W ∧ IsI q.1 q.2.1 ∧ q.2.2.1.length = N ∧ q.2.2.2.1 = ownE (partAt id (reW (atP q1)) s.tasks k q.2.1) q.2.2.1 nof ∧ q.2.2.2.2 = ownN (partAt id (reW (atP q1)) s.tasks k q.2.1) q.2.2.1 nof) (0, 0, xs1, es1, gn1) ⟨Nat.zero_le _, ⟨rfl⟩, u3, hes3, hgn3⟩ ?_ ?_
    · exact gs_to [0, 1, 2, 3, 4, 5] ⟨by decide, pre0, ⟨rfl, rfl, rfl, rfl, rfl, rfl, trivial⟩, ⟨rfl, rfl, rfl, rfl, rfl, rfl, rfl, rfl, trivial⟩, rfl, rfl⟩
    rintro ⟨j, c, xs2, es4, gn4⟩ ⟨v1, v2, v3, v4, v5⟩
    dsimp only at v1 v2 v3 v4 v5
    have hxl2 : xs2.length = s.tasks.length := by omega
    obtain ⟨r, hr⟩ : ∃ r, r = ((partAt id (reW (atP q1)) s.tasks k c).getD k tkZ).works.map workD := ⟨_, rfl⟩
    have hrl : W = r.length := by rw [hr, row_part ht, List.length_map, partTk_len (by omega), hW]
    refine wpa_gs (own_take 3 4 k 6 v4 v5 rfl rfl rfl (by decide) (by omega) rfl hr hrl fun es5 gn5 e1 e2 => gs_done ?_)
    have hE5 : es5[k]? = some (.agg [I t.ready, I t.due, .o 6 3 W]) := own_out (r := id) ht hxl2 e1
    have hi5 := yinb hA u2 hk
    have hg5 := yget hA u2 hE5
    refine wp_goF tokT hA hS [] ?_
    cbv
    refine ⟨hi5, ⟨_, hg5, ?_⟩⟩
    cbv
    refine bm (fun c3 => ?_) (fun c3 => ?_)
    · have hc : c < W := yltN hA v2 c3
      obtain ⟨w, hw⟩ : ∃ w, t.works[c]? = some w := ⟨_, List.getElem?_eq_getElem (by omega)⟩
      have hwok := htok.wk w (List.mem_of_getElem? hw)
      have hrc : r[c]? = some (.agg [I w.b, I w.lo, I w.hi]) := by rw [hr, row_part ht, List.getElem?_map, partTk_at (by omega), hw]; rfl
      have hj1 := yinb hA v2 hc
      have hgr := yget hA v2 hrc
      obtain ⟨wb, hwb⟩ : ∃ wb, wb = w.b.toNat := ⟨_, rfl⟩
      have hwI : IsI w.b wb := ⟨by have := hwok.b0; omega⟩
      have hwB : wb < B := by have := hwok.b1; have := hwI.eq; have := hBi.eq; omega
      obtain ⟨bv, hbv⟩ : ∃ bv : Int, bv = (atP q1 wb : Nat) := ⟨_, rfl⟩
      have hQ1w : QL1[wb]? = some (I bv) := by rw [hQ1, natL, List.getElem?_map, perm_get hq1 hwB, hbv]; rfl
      have iB := yinbL hA (show QL1.length = B by rw [hQ1, natL, List.length_map, perm_len hq1]) hwI hwB
      have gB := yget hA hwI hQ1w
      obtain ⟨r2, hr2⟩ : ∃ r2, r2 = A.set r (A.tn j) (.agg [I bv, I w.lo, I w.hi]) := ⟨_, rfl⟩
      have hr3 : r2 = ((partAt id (reW (atP q1)) s.tasks k (c + 1)).getD k tkZ).works.map workD := by rw [hr2, yset hA v2 rfl, hr, row_part ht, row_part ht, partTk_succ hw, List.map_set, hbv, hwb]; rfl
      have hr2l : W = r2.length := by rw [hr2, yset hA v2 rfl, List.length_set]; exact hrl
      have hf2 := yfit1 hA v2 (by omega)
      have hv2 := ysucc hA v2
      have hms2 : W - (c + 1) < W - c := by omega
      have hes6 : es5 = (ownE (partAt id (reW (atP q1)) s.tasks k c) xs2 nof).set k (elT (partAt id (reW (atP q1)) s.tasks k (c + 1)) k (.o 6 3 W)) := by rw [e1, elT_part ht, elT_part ht]
      cbv
      refine draw_go tokT hA hS [0, 1, 2, 3, 4, 5, 6, 7, 8, 9, 10, 11, 12, 13, 14, 15, 16, 17, 18, 19, 20, 21, 22] rfl rfl fun Dk hD => ?_
      cbv
      refine ⟨hi5, ⟨_, hg5, ?_⟩⟩
      cbv
      refine ⟨hi5, ⟨_, hg5, ?_⟩⟩
      cbv
      refine ⟨hj1, ⟨_, hgr, ?_⟩⟩
      cbv
      refine ⟨iB, ⟨_, gB, ?_⟩⟩
      cbv
      refine ⟨hj1, ⟨_, hgr, ?_⟩⟩
      cbv
      refine ⟨hf2, ?_⟩
      refine own_put 3 4 k 6 (row := r2) hes6 e2 rfl rfl (by rw [hr2]; rfl) (.inr ⟨8, 1, 0, .agg [I s.benches, .o 3 3 N], 1, 3, N, rfl, rfl, rfl⟩) (by omega) part_upd (fun _ _ => rfl) rfl hr3 hr2l hW0 fun xs3 es7 gn7 g1 g2 g3 => ?_
      refine gs_loop (A.add j 1, c + 1, xs3, es7, gn7) [0, 1, 2, 3, 4, 5] ⟨hc, hv2, g1.trans v3, g2, g3⟩ hms2 ?_
      exact ⟨by decide, pre0, ⟨rfl, rfl, rfl, rfl, rfl, rfl, trivial⟩, ⟨rfl, rfl, rfl, rfl, rfl, rfl, rfl, rfl, trivial⟩, rfl, rfl⟩
    · have hcW : c = W := by have := ynltN hA v2 c3; omega
      have hpn := own_next (r := id) (f := reW (atP q1)) ht (hcW.trans hW)
      cbv
      refine own_put 3 4 k 6 (row := r) e1 e2 rfl rfl rfl (.inr ⟨8, 1, 0, .agg [I s.benches, .o 3 3 N], 1, 3, N, rfl, rfl, rfl⟩) (by omega) (fun _ _ => rfl) (fun _ _ => rfl) rfl hr hrl hW0 fun xs3 es7 gn7 g1 g2 g3 => ?_
      rw [hpn] at g2 g3
      refine gs_done ?_
      cbv
      refine draw_go tokT hA hS [0, 1, 2, 3, 4, 5, 6, 7, 8, 9, 10, 11, 12] rfl rfl fun Dk hD => ?_
      cbv
      refine ⟨iQ, ⟨_, gQ, ?_⟩⟩
      cbv
      refine ⟨iT, ⟨_, gT, ?_⟩⟩
      cbv
      refine ⟨iY, ⟨_, gY, ?_⟩⟩
      cbv
      refine ⟨hf, ?_⟩
      refine gs_loop (A.add i 1, k + 1, xs3, es7, gn7, ys2, YL2) [0, 1, 2, 3, 4, 5] ⟨hk, hu2, g1.trans v3, g2, g3, hYs2, hys2l, hysat⟩ hms ?_
      exact ⟨by decide, pre0, ⟨rfl, rfl, rfl, rfl, rfl, by rw [hYL2]; rfl, trivial⟩, ⟨rfl, rfl, rfl, rfl, rfl, rfl, rfl, trivial⟩, rfl, rfl⟩
  have hkN : k = N := by have := ynltN hA u2 c; omega
  obtain ⟨X, hX⟩ : ∃ X, X = xS q1 s := ⟨_, rfl⟩
  obtain ⟨Y, hY⟩ : ∃ Y : Sh, Y = ⟨s.benches, ys1⟩ := ⟨_, rfl⟩
  have hq1' : q1.Perm (List.range s.benches.toNat) := hB ▸ hq1
  have hq2' : q2.Perm (List.range s.tasks.length) := hN ▸ hq2
  have hIsY : IsY q2 s ys1 := ⟨u7.trans hN, fun j hj => u8 j (by omega)⟩
  have hXok : ShopOk X := by rw [hX]; exact okS_shop (xS_ok hok hq1') (by decide) (by decide)
  have hYok : ShopOk Y := by rw [hY]; exact okS_shop (yS_ok hok hq2' hIsY) (by decide) (by decide)
  have hXb : X.benches = s.benches := by rw [hX]; rfl
  have hYb : Y.benches = s.benches := by rw [hY]
  have hpa : preAt id (reW (atP q1)) s.tasks k = X.tasks := by rw [hX]; exact preAt_all (hkN.trans hN)
  have hes8 : es1 = ownE X.tasks xs1 fun _ => false := by rw [u4, hpa]; rfl
  have hgn8 : gn1 = ownN X.tasks xs1 fun _ => false := by rw [u5, hpa]; rfl
  obtain ⟨XL, hXL⟩ : ∃ XL, XL = X.tasks.map taskD := ⟨_, rfl⟩
  have hXl : XL.length = N := by rw [hXL, List.length_map, hX, xS, List.length_map, hN]
  have hxl9 : xs1.length = X.tasks.length := by rw [hX, xS, List.length_map, ← hN]; exact u3
  have hYLY : YL1 = Y.tasks.map taskD := by rw [hY]; exact u6
  have hYl : YL1.length = N := by rw [u6, List.length_map, u7]
  have eo : A.eqN N (A.len XL) := xeqN hA (by rw [xlen hA, hXl])
  have ey : A.eqN N (A.len YL1) := xeqN hA (by rw [xlen hA, hYl])
  cbv
  refine gs_view (a := { env := [(4, .b 0 0), (5, .sl 1 PL), (6, .sl 1 QL1), (8, .b 1 0), (9, .b 2 0)], H := [.box (.agg [I s.benches, .sl 3 TL]), .box (.agg [I s.benches, .o 3 3 N]), .box (.agg [I s.benches, .o 5 3 N]), .els 3 es1, .ob (.gr 3 gn1), .els 3 YL1], nt := 262, dfs := [] }) [0, 1, 2, 3, 4, 5] ⟨by decide, pre0, ⟨rfl, rfl, rfl, rfl, rfl, rfl, trivial⟩, ⟨rfl, rfl, rfl, rfl, rfl, trivial⟩, rfl, rfl⟩ ?_
  refine own_melt 3 4 [0, 1, 2, 3, 4, 5] (fun es' gn' => { env := [(4, .b 0 0), (5, .sl 1 PL), (6, .sl 1 QL1), (8, .b 1 0), (9, .b 2 0)], H := [.box (.agg [I s.benches, .sl 3 TL]), .box (.agg [I s.benches, .o 3 3 N]), .box (.agg [I s.benches, .o 5 3 N]), .els 3 es', .ob (.gr 3 gn'), .els 3 YL1], nt := 262, dfs := [] }) (by decide) hes8 hgn8 hxl9 (fun _ _ => rfl) (fun _ _ => rfl) (fun _ _ _ _ => rfl) (fun _ _ _ _ => rfl) (fun _ _ => ⟨by decide, pre0, ⟨rfl, rfl, rfl, rfl, rfl, rfl, trivial⟩, ⟨rfl, rfl, rfl, rfl, rfl, trivial⟩, rfl, rfl⟩) fun gn' => ?_
  rw [← hXL]
  refine gs_frz hA [3, 5] ?_
  cbv
  refine ⟨eo, ey, ?_⟩
  refine gs_view (a := { env := [(4, .b 0 0), (5, .sl 1 PL), (6, .sl 1 QL1), (8, .b 1 0), (9, .b 2 0)], H := [.box (.agg [I s.benches, .sl 3 TL]), .box (.agg [I s.benches, .sl 3 XL]), .box (.agg [I s.benches, .sl 3 YL1])], nt := 262, dfs := [] }) [0, 1, 2] ⟨by decide, pre0, ⟨rfl, rfl, rfl, trivial⟩, ⟨rfl, rfl, rfl, rfl, rfl, trivial⟩, rfl, rfl⟩ ?_
  refine gs_done ?_
  cbv
  obtain ⟨hXp, hXr⟩ : PlanOk X p ∧ runS X (fun _ => 0) p = (runS s (fun _ => 0) p).map (reSl id (atP q1)) := by rw [hX]; exact xS_run hv hq1' hp
  refine ops_call hS [.agg [I s.benches, .sl 3 TL], .sl 1 PL] [] [] rfl rfl rfl rfl rfl rfl rfl rfl (by decide) trivial (bRunPlan s hs p hp TL PL hT hP _ fun RL hRL => ?_)
  refine ops_go tokT hA hS ?_
  cbv
  refine ops_call hS [.agg [I s.benches, .sl 3 XL], .sl 1 PL] [] [] rfl rfl rfl rfl rfl rfl rfl rfl (by decide) trivial (hXb ▸ bRunPlan X hXok p hXp XL PL hXL hP _ fun RX hRX => ?_)
  refine ops_go tokT hA hS ?_
  cbv
  obtain ⟨R, hR⟩ : ∃ R, R = RL.length := ⟨_, rfl⟩
  have hRs : (runS s (fun _ => 0) p).length = R := by rw [hR, hRL, List.length_map]
  have hXs : RX.length = R := by rw [hRX, List.length_map, hXr, List.length_map, hRs]
  have hRb : R ≤ 8 := by have h1 := runS_length s (fun _ => 0) p; have h2 := hp.len; have h3 := hv.sum; omega
  have hn0 : A.cmp .neq 0 0 = false := by subst hA; rfl
  have hnl : A.cmp .neq (A.oi (A.len RL)) (A.oi (A.len RX)) = false := xneF hA (by rw [yoiL hA hR.symm, yoiL hA hXs])
  refine region_part tokT hA hS [0, 1] [2, 3, 4, 5, 6, 7, 8, 9, 10, 11, 12] rfl ?_
  cbv
  refine part_is tokT hA hS 115 (.v (.bool false)) rfl (congrArg (fun b => D.v (.bool b)) hn0) [2, 3, 4] [5, 6, 7, 8, 9, 10, 11, 12] ?_
  cbv
  refine part_is tokT hA hS 118 (.v (.bool false)) rfl (congrArg (fun b => D.v (.bool b)) hn0) [5, 6, 7, 8, 9, 10, 11] [12] ?_
  cbv
  refine part_is tokT hA hS 125 (.v (.bool false)) rfl (congrArg (fun b => D.v (.bool b)) hnl) [12] [] ?_
  cbv
  refine at_ops hS (ops_go tokT hA hS ?_)
  cbv
  refine at_code hS ?_
  refine wpa_loopG (α := Int × Nat) (fun q => { env := [(4, .b 0 0), (6, .sl 1 QL1), (8, .b 1 0), (9, .b 2 0), (12, .sl 7 RL), (14, .sl 7 RX), (16, I q.1)], H := [.box (.agg [I s.benches, .sl 3 TL]), .box (.agg [I s.benches, .sl 3 XL]), .box (.agg [I s.benches, .sl 3 YL1])], nt := 262, dfs := [] })
    (fun q => R - q.2) (fun q => q.2 ≤ R ∧ IsI q.1 q.2) (0, 0) ⟨Nat.zero_le _, ⟨rfl⟩⟩ ?_ ?_
  · exact gs_to [0, 1, 2] ⟨by decide, pre0, ⟨rfl, rfl, rfl, trivial⟩, ⟨rfl, rfl, rfl, rfl, rfl, rfl, rfl, trivial⟩, rfl, rfl⟩
  rintro ⟨i9, k9⟩ ⟨u1', u2'⟩
  dsimp only at u1' u2'
  refine wp_goF tokT hA hS [28] ?_
  cbv
  refine bm (fun c9 => ?_) (fun c9 => ?_)
  · have hk9 : k9 < R := yltL hA hR.symm u2' c9
    obtain ⟨x, hx9⟩ : ∃ x, (runS s (fun _ => 0) p)[k9]? = some x := ⟨_, List.getElem?_eq_getElem (by omega)⟩
    have hpk9 : k9 < p.length := by have h1 := runS_length s (fun _ => 0) p; omega
    obtain ⟨x', hx', hra⟩ := run_facts hv hp.le (List.getElem?_eq_getElem hpk9)
    obtain rfl : x' = x := by rw [hx9] at hx'; exact (Option.some.inj hx').symm
    obtain ⟨w1, w2, -⟩ := work_ok hv hra.hi hra.kl
    rw [← hra.b] at w1 w2
    obtain ⟨xb, hxb⟩ : ∃ xb, xb = x'.b.toNat := ⟨_, rfl⟩
    have hxI : IsI x'.b xb := ⟨by omega⟩
    have hxB : xb < B := by have := hxI.eq; have := hBi.eq; omega
    obtain ⟨bv, hbv⟩ : ∃ bv : Int, bv = (atP q1 xb : Nat) := ⟨_, rfl⟩
    obtain ⟨x1, hx1⟩ : ∃ x1, x1 = x'.t := ⟨_, rfl⟩
    obtain ⟨x2', hx2⟩ : ∃ x2, x2 = x'.k := ⟨_, rfl⟩
    obtain ⟨t2, ht2⟩ : ∃ t2 : Int, t2 = ((id x'.t.toNat : Nat) : Int) := ⟨_, rfl⟩
    obtain ⟨l1, hl1⟩ : ∃ l1, l1 = x'.bl := ⟨_, rfl⟩
    obtain ⟨l2, hl2⟩ : ∃ l2, l2 = x'.bh := ⟨_, rfl⟩
    obtain ⟨l3, hl3⟩ : ∃ l3, l3 = x'.el := ⟨_, rfl⟩
    obtain ⟨l4, hl4⟩ : ∃ l4, l4 = x'.eh := ⟨_, rfl⟩
    obtain ⟨b1, hb1⟩ : ∃ b1, b1 = x'.b := ⟨_, rfl⟩
    rw [← hb1] at hxI w1 w2
    have hRk : RL[k9]? = some (.agg [I x1, I x2', I b1, I l1, I l2, I l3, I l4]) := by rw [hRL, List.getElem?_map, hx9, hx1, hx2, hb1, hl1, hl2, hl3, hl4]; rfl
    have hXk : RX[k9]? = some (.agg [I t2, I x2', I bv, I l1, I l2, I l3, I l4]) := by rw [hRX, List.getElem?_map, hXr, List.getElem?_map, hx9, hx2, ht2, hbv, hxb, hl1, hl2, hl3, hl4]; rfl
    have iR := yinbL hA hR.symm u2' hk9
    have gR := yget hA u2' hRk
    have iX := yinbL hA hXs u2' hk9
    have gX := yget hA u2' hXk
    have hQ1l : QL1.length = B := by rw [hQ1, natL, List.length_map, perm_len hq1]
    have hQ1w : QL1[xb]? = some (I bv) := by rw [hQ1, natL, List.getElem?_map, perm_get hq1 hxB, hbv]; rfl
    have iB := yinbL hA hQ1l hxI hxB
    have gB := yget hA hxI hQ1w
    have f1 := leqT hA [l1, l2]
    have f2 := leqT hA [l3, l4]
    have f3 : A.cmp .lss b1 0 = false := xltF6 hA w1
    have f4 : A.cmp .geq b1 (A.oi (A.len QL1)) = false := by
      rw [yoiL hA hQ1l]; subst hA; have := hxI.eq; simp [ar, cmpI]; omega
    have f5 : A.cmp .neq bv bv = false := xneF hA rfl
    have hf := yfit1 hA u2' (by omega)
    have hu2 := ysucc hA u2'
    have hms : R - (k9 + 1) < R - k9 := by omega
    cbv
    refine draw_goE tokT hA hS [10] [0, 1, 2, 3, 4, 5, 6, 7, 8, 9, 10, 11, 12, 13, 14, 15, 16, 17, 18, 19, 20, 21, 22, 23, 24, 25, 26, 27, 28, 29, 30, 31, 32, 33, 34, 35, 36, 37, 38, 39, 40, 41, 42, 43, 44, 45, 46, 47, 48, 49, 50, 51, 52, 53, 54, 55, 56, 57] rfl rfl fun Dk hD => ?_
    cbv
    refine ⟨iR, ⟨_, gR, ?_⟩⟩
    cbv
    refine ⟨iX, ⟨_, gX, ?_⟩⟩
    cbv
    refine draw_val tokT hA hD [22] (.v (.bool false)) rfl rfl rfl rfl rfl rfl (FlatEq.mk ⟨[l1, l2], [l1, l2], rfl, rfl, rfl, rfl, congrArg (fun b => D.v (.bool b)) f1⟩) ?_
    cbv
    refine ⟨iR, ⟨_, gR, ?_⟩⟩
    cbv
    refine ⟨iX, ⟨_, gX, ?_⟩⟩
    cbv
    refine draw_valG tokT hA hD [30] (.v (.bool false)) rfl rfl rfl rfl rfl rfl rfl rfl rfl (FlatEq.mk ⟨[l3, l4], [l3, l4], rfl, rfl, rfl, rfl, congrArg (fun b => D.v (.bool b)) f2⟩) ?_
    cbv
    refine ⟨iR, ⟨_, gR, ?_⟩⟩
    cbv
    refine draw_valG tokT hA hD [40] (.v (.bool false)) rfl rfl rfl rfl rfl rfl rfl rfl rfl (congrArg (fun b => D.v (.bool b)) f3) ?_
    cbv
    refine ⟨iR, ⟨_, gR, ?_⟩⟩
    cbv
    refine draw_valG tokT hA hD [56] (.v (.bool false)) rfl rfl rfl rfl rfl rfl rfl rfl rfl (congrArg (fun b => D.v (.bool b)) f4) ?_
    cbv
    refine ⟨iX, ⟨_, gX, ?_⟩⟩
    cbv
    refine ⟨iR, ⟨_, gR, ?_⟩⟩
    cbv
    refine ⟨iB, ⟨_, gB, ?_⟩⟩
    cbv
    refine draw_valG tokT hA hD [] (.v (.bool false)) rfl rfl rfl rfl rfl rfl rfl rfl rfl (congrArg (fun b => D.v (.bool b)) f5) ?_
    cbv
    refine ⟨hf, ?_⟩
    refine gs_loop (A.add i9 1, k9 + 1) [0, 1, 2] ⟨hk9, hu2⟩ hms ?_
    exact ⟨by decide, pre0, ⟨rfl, rfl, rfl, trivial⟩, ⟨rfl, rfl, rfl, rfl, rfl, rfl, rfl, trivial⟩, rfl, rfl⟩
  · have hT0 : A.cmp .eql 0 0 = true := by subst hA; rfl
    obtain ⟨n1, hn1⟩ : ∃ n1, n1 = (bestS s).2.2 := ⟨_, rfl⟩
    obtain ⟨u1b, hu1b⟩ : ∃ u1b, u1b = (promptS s).2.2 := ⟨_, rfl⟩
    have hbX : bestS X = bestS s := by rw [hX]; exact xS_best hv hq1'
    obtain ⟨hbY, hpY⟩ : (bestS Y).2.2 = (bestS s).2.2 ∧ (promptS Y).2.2 = (promptS s).2.2 := by rw [hY]; exact yS_best hok hv hq2' hIsY (hY ▸ chkS_val hYok.chk)
    obtain ⟨QB, hQB⟩ : ∃ QB : List Int, QB = (bestS s).2.1.map fun n => ((n : Nat) : Int) := ⟨_, rfl⟩
    have hbm : (bestS s).2.1 ∈ plansS s := leastS_in (plansS_ne s)
    have hQBl : QB.length ≤ 1152921504606846976 := by have := (plansS_ok hv hbm).len; have := hv.sum; rw [hQB, List.length_map]; omega
    cbv
    refine gs_done ?_
    cbv
    refine ops_call hS [.agg [I s.benches, .sl 3 TL]] [] [] rfl rfl rfl rfl rfl rfl rfl rfl (by decide) trivial (bBest s hs TL hT _ fun B1 m1 hB1 hm1 => ?_)
    refine ops_go tokT hA hS ?_
    cbv
    refine ops_call hS [.agg [I s.benches, .sl 3 XL]] [] [] rfl rfl rfl rfl rfl rfl rfl rfl (by decide) trivial (hXb ▸ bBest X hXok XL hXL _ fun B2 m2 hB2 hm2 => ?_)
    refine ops_go tokT hA hS ?_
    cbv
    refine ops_call hS [.agg [I s.benches, .sl 3 YL1]] [] [] rfl rfl rfl rfl rfl rfl rfl rfl (by decide) trivial (hYb ▸ bBest Y hYok YL1 hYLY _ fun B3 m3 hB3 hm3 => ?_)
    refine ops_go tokT hA hS ?_
    cbv
    refine ops_call hS [.agg [I s.benches, .sl 3 TL]] [] [] rfl rfl rfl rfl rfl rfl rfl rfl (by decide) trivial (bPrompt s hs TL hT _ fun B4 m4 hB4 hm4 => ?_)
    refine ops_go tokT hA hS ?_
    cbv
    refine ops_call hS [.agg [I s.benches, .sl 3 YL1]] [] [] rfl rfl rfl rfl rfl rfl rfl rfl (by decide) trivial (hYb ▸ bPrompt Y hYok YL1 hYLY _ fun B5 m5 hB5 hm5 => ?_)
    have hT1 : A.cmp .eql m1 m2 = true := by rw [hm1, hm2, hbX]; exact yeqT hA _
    have hT2 : A.cmp .eql m1 m3 = true := by rw [hm1, hm3, hbY]; exact yeqT hA _
    have hT3 : A.cmp .eql m4 m5 = true := by rw [hm4, hm5, hpY]; exact yeqT hA _
    have hB1' : B1 = QB.map I := by rw [hB1, hQB, planL]; simp
    have hB2' : B2 = QB.map I := by rw [hB2, hbX, ← hB1, hB1']
    refine ops_go tokT hA hS ?_
    cbv
    refine region_part tokT hA hS [0, 1] [2, 3, 4, 5, 6, 7, 8, 9, 10, 11, 12, 13, 14, 15, 16, 17, 18, 19, 20, 21, 22, 23, 24, 25, 26, 27, 28, 29, 30, 31, 32, 33, 34, 35, 36, 37, 38, 39, 40, 41] rfl ?_
    cbv
    refine part_is tokT hA hS 222 (.v (.bool true)) rfl (congrArg (fun b => D.v (.bool b)) hT0) [2, 3, 4] [5, 6, 7, 8, 9, 10, 11, 12, 13, 14, 15, 16, 17, 18, 19, 20, 21, 22, 23, 24, 25, 26, 27, 28, 29, 30, 31, 32, 33, 34, 35, 36, 37, 38, 39, 40, 41] ?_
    cbv
    refine part_is tokT hA hS 225 (.v (.bool true)) rfl (congrArg (fun b => D.v (.bool b)) hT0) [5, 6, 7, 8] [9, 10, 11, 12, 13, 14, 15, 16, 17, 18, 19, 20, 21, 22, 23, 24, 25, 26, 27, 28, 29, 30, 31, 32, 33, 34, 35, 36, 37, 38, 39, 40, 41] ?_
    cbv
    refine part_is tokT hA hS 229 (.v (.bool true)) rfl (congrArg (fun b => D.v (.bool b)) hT0) [9, 10, 11, 12] [13, 14, 15, 16, 17, 18, 19, 20, 21, 22, 23, 24, 25, 26, 27, 28, 29, 30, 31, 32, 33, 34, 35, 36, 37, 38, 39, 40, 41] ?_
    cbv
    refine part_is tokT hA hS 233 (.v (.bool true)) rfl (congrArg (fun b => D.v (.bool b)) hT0) [13, 14, 15, 16] [17, 18, 19, 20, 21, 22, 23, 24, 25, 26, 27, 28, 29, 30, 31, 32, 33, 34, 35, 36, 37, 38, 39, 40, 41] ?_
    cbv
    refine part_is tokT hA hS 237 (.v (.bool true)) rfl (congrArg (fun b => D.v (.bool b)) hT0) [17, 18, 19, 20, 21] [22, 23, 24, 25, 26, 27, 28, 29, 30, 31, 32, 33, 34, 35, 36, 37, 38, 39, 40, 41] ?_
    cbv
    refine part_is tokT hA hS 242 (.v (.bool true)) rfl (congrArg (fun b => D.v (.bool b)) hT1) [22, 23, 24, 25, 26] [27, 28, 29, 30, 31, 32, 33, 34, 35, 36, 37, 38, 39, 40, 41] ?_
    cbv
    refine part_is tokT hA hS 247 (.v (.bool true)) rfl (congrArg (fun b => D.v (.bool b)) hT2) [27, 28, 29, 30, 31] [32, 33, 34, 35, 36, 37, 38, 39, 40, 41] ?_
    cbv
    refine part_is tokT hA hS 252 (.v (.bool true)) rfl (congrArg (fun b => D.v (.bool b)) hT3) [32, 33, 34, 35, 36] [37, 38, 39, 40, 41] ?_
    cbv
    refine ops_callG hS (b := true) rfl rfl rfl rfl rfl rfl rfl rfl (fun _ => ⟨[], _, [.sl 1 B1, .sl 1 B2], [], [], rfl, rfl, rfl, by decide, trivial, kSameInts QB QB B1 B2 hB1' hB2' hQBl true (by simp) _ ?_⟩) (fun h => absurd rfl h)
    refine ops_go tokT hA hS ?_
    cbv
    refine ops_callG hS (b := true) rfl rfl rfl rfl rfl rfl rfl rfl (fun _ => ⟨[], _, [], [], [], rfl, rfl, rfl, by decide, trivial, filing _ ?_⟩) (fun h => absurd rfl h)
    refine ops_go tokT hA hS ?_
    cbv
    exact gh_view [] (by decide) pre0 (H' := []) (d' := .v (.bool true)) trivial rfl (gh_done hq)
end Go.Proofs.YtmloogdalecilaaDoor
