/- Part SlackB of the proofs about the benches of the accordion maker: see the last text of the claim for what is proved. -/
import Derived.Test.YtmloogdalecilaaDoorSlackA
import Derived.Test.YtmloogdalecilaaDoorEndsA
import Derived.Test.YtmloogdalecilaaDoorMachD
set_option linter.unusedVariables false
set_option linter.unusedSimpArgs false
set_option linter.unnecessarySimpa false
set_option linter.constructorNameAsVariable false

/-! D45 -/
namespace Go.Proofs.YtmloogdalecilaaDoor
open Go Go.Abs Go.Proofs

theorem xltF2 {A : Ar} (hA : A = ar) {x y : Int} (h : y ≤ x) : A.cmp .lss x y = false := by subst hA; simp [ar, cmpI]; omega
theorem xgtF2 {A : Ar} (hA : A = ar) {x y : Int} (h : x ≤ y) : A.cmp .gtr x y = false := by subst hA; simp [ar, cmpI]; omega
theorem xgtT2 {A : Ar} (hA : A = ar) {x y : Int} (h : y < x) : A.cmp .gtr x y = true := by subst hA; simp [ar, cmpI]; omega
theorem xgeF2 {A : Ar} (hA : A = ar) {x y : Int} (h : x < y) : A.cmp .geq x y = false := by subst hA; simp [ar, cmpI]; omega
theorem xeqF2 {A : Ar} (hA : A = ar) {x y : Int} (h : x ≠ y) : A.cmp .eql x y = false := by subst hA; simp [ar, cmpI, h]

set_option maxRecDepth 20000 in
set_option maxHeartbeats 8000000 in
/-- BenchSlack. -/
theorem wBenchSlack (L : List D) (nums : List Int) (hL : L = nums.map I) (hl : L.length ≤ 9223372036854775807) (Q) (hq : Q (RA.ret (.v (.bool true))) []) : CallA Tryd.prog 11 [.sl 1 L] [] Q := by
  obtain ⟨A, hA⟩ : ∃ A, A = ar := ⟨_, rfl⟩
  refine callA_startF tokT hA [7, 30] Tryd.func11 rfl rfl rfl rfl rfl fun S hS => ?_
  cbv
  refine ops_call hS [.sl 1 L] [] [] rfl rfl rfl rfl rfl rfl rfl rfl (by decide) trivial (newPotL L nums hL hl _ fun x0 => ?_)
  refine ops_go tokT hA hS ?_
  cbv
  refine ops_call hS [.b 0 0, I 4, I 8] [0] [pot x0] rfl rfl rfl rfl rfl rfl rfl rfl (by decide) ⟨rfl, trivial⟩ (shopOf x0 4 8 (by decide) (by decide) _ fun s x1 hok => ?_)
  have hs : ShopOk s := okS_shop hok (by decide) (by decide)
  have hv := chkS_val hs.chk
  have hR : ∀ t ∈ s.tasks, t.ready ≤ 6 := fun t ht => (hok.tk t ht).r1
  obtain ⟨TL, hT⟩ : ∃ TL, TL = s.tasks.map taskD := ⟨_, rfl⟩
  unfold shopD
  rw [← hT]
  have hTl : TL.length = s.tasks.length := by rw [hT]; simp
  refine ops_go tokT hA hS ?_
  cbv
  refine ops_call hS [.b 0 0, .agg [I s.benches, .sl 3 TL]] [0] [pot x1] rfl rfl rfl rfl rfl rfl rfl rfl (by decide) ⟨rfl, trivial⟩ (planOf x1 s (by have := hv.sum; omega) (by have := hv.len; omega) TL hT _ fun p PL x2 hp hP => ?_)
  have hpl : p.length ≤ 8 := by rw [hp.len]; exact hv.sum
  have hPl : PL.length = p.length := by rw [hP]; simp [planL]
  obtain ⟨e, he⟩ : ∃ e, e = (lastS (runS s (fun _ => 0) p)).2 := ⟨_, rfl⟩
  refine ops_go tokT hA hS ?_
  cbv
  refine ops_call hS [.agg [I s.benches, .sl 3 TL], .sl 1 PL] [] [] rfl rfl rfl rfl rfl rfl rfl rfl (by decide) trivial (bSlackPlan s hs p hp TL PL hT hP _ fun SL hSL => ?_)
  have hSl : SL.length = p.length := by rw [hSL]; simp [slackL]
  refine ops_go tokT hA hS ?_
  cbv
  refine ops_call hS [.agg [I s.benches, .sl 3 TL], .sl 1 PL] [] [] rfl rfl rfl rfl rfl rfl rfl rfl (by decide) trivial (bCritPlan s hs p hp TL PL hT hP _ fun CL hCL => ?_)
  obtain ⟨cn, hcn⟩ : ∃ cn, cn = (critL s p p.length).length := ⟨_, rfl⟩
  have hCl : CL.length = cn := by rw [hCL, hcn]; simp
  have hcn2 : cn = (critL s p p.length).length := hcn
  refine ops_go tokT hA hS ?_
  cbv
  refine ops_call hS [.agg [I s.benches, .sl 3 TL], .sl 1 PL] [] [] rfl rfl rfl rfl rfl rfl rfl rfl (by decide) trivial (bLastPlan s hs p hp TL PL hT hP _ fun lo hi hlh => ?_)
  have hhi : hi = e := by rw [he, hlh]
  have hn0 : A.cmp .neq 0 0 = false := by subst hA; rfl
  have hn1 : A.cmp .neq (A.oi (A.len SL)) (A.oi (A.len PL)) = false := xneF hA (by rw [yoiL hA hSl, yoiL hA hPl])
  refine ops_go tokT hA hS ?_
  cbv
  have hcg : A.cmp .gtr (A.oi (A.len PL)) 0 = decide (0 < p.length) := by rw [yoiL hA hPl]; subst hA; simp [ar, cmpI]
  have hce : 0 < p.length → A.cmp .eql (A.oi (A.len CL)) 0 = false := fun h => by
    have := critL_ne hv hp.le hpl h
    rw [yoiL hA hCl]; exact xeqF2 hA (by omega)
  obtain ⟨n0, hn0'⟩ : ∃ n0, n0 = A.tn (A.oi (A.len TL)) := ⟨_, rfl⟩
  have hn0N : n0 = s.tasks.length := by rw [hn0', yoiL hA hTl]; subst hA; rfl
  have hrep : A.rep n0 (I 0) = cntD s p 0 := by
    rw [hn0N]; subst hA
    refine List.ext_getElem? fun j => ?_
    by_cases hj : j < s.tasks.length
    · rw [cntD_get hj]; simp [ar, hj]
    · rw [List.getElem?_eq_none (by simp [ar]; omega), List.getElem?_eq_none (by simp [cntD]; omega)]
  have hrm : A.room n0 8 := by rw [hn0N]; exact yroomN hA (by have := hv.len; omega) (by decide)
  have hrm2 : A.room (A.tn (A.oi (A.len TL))) 8 := by rw [← hn0']; exact hrm
  have hnn : A.nneg (A.oi (A.len TL)) := by subst hA; exact Int.natCast_nonneg _
  refine code_cut hS { env := [(4, .b 1 0), (5, .sl 1 PL), (6, .sl 1 SL), (8, .sl 1 CL), (10, .b 2 0), (72, .v (.bool false))], H := [.box (.agg [U x2]), .box (.agg [I s.benches, .sl 3 TL]), .box (.agg [I lo, I hi])], nt := 182, dfs := [] } ?_ ?_
  · by_cases hp0 : 0 < p.length
    · have h1 : A.cmp .gtr (A.oi (A.len PL)) 0 = true := by rw [hcg]; exact decide_eq_true hp0
      have h2 := hce hp0
      refine region_part tokT hA hS [0, 1] [2, 3, 4, 5, 6, 7, 8, 9, 10, 11, 12, 13, 14, 15, 16, 17, 18, 19, 20, 21, 22, 23, 24, 25, 26] rfl ?_
      cbv
      refine part_is tokT hA hS 47 (.v (.bool false)) rfl (congrArg (fun b => D.v (.bool b)) hn0) [2, 3, 4] [5, 6, 7, 8, 9, 10, 11, 12, 13, 14, 15, 16, 17, 18, 19, 20, 21, 22, 23, 24, 25, 26] ?_
      cbv
      refine part_is tokT hA hS 50 (.v (.bool false)) rfl (congrArg (fun b => D.v (.bool b)) hn0) [5, 6, 7, 8] [9, 10, 11, 12, 13, 14, 15, 16, 17, 18, 19, 20, 21, 22, 23, 24, 25, 26] ?_
      cbv
      refine part_is tokT hA hS 54 (.v (.bool false)) rfl (congrArg (fun b => D.v (.bool b)) hn0) [9, 10, 11, 12, 13, 14, 15] [16, 17, 18, 19, 20, 21, 22, 23, 24, 25, 26] ?_
      cbv
      refine part_is tokT hA hS 61 (.v (.bool false)) rfl (congrArg (fun b => D.v (.bool b)) hn1) [16, 17, 18, 19, 20] [21, 22, 23, 24, 25, 26] ?_
      cbv
      refine part_is tokT hA hS 66 (.v (.bool true)) rfl (congrArg (fun b => D.v (.bool b)) h1) [21, 22, 23, 24] [25, 26] ?_
      cbv
      refine part_is tokT hA hS 70 (.v (.bool false)) rfl (congrArg (fun b => D.v (.bool b)) h2) [25, 26] [] ?_
      cbv
      refine at_ops hS (ops_go tokT hA hS ?_)
      cbv
      exact gs_to [0, 1, 2] ⟨by decide, pre0, ⟨rfl, rfl, rfl, trivial⟩, ⟨rfl, rfl, rfl, rfl, rfl, rfl, trivial⟩, rfl, rfl⟩
    · have h1 : A.cmp .gtr (A.oi (A.len PL)) 0 = false := by rw [hcg]; exact decide_eq_false hp0
      refine region_part tokT hA hS [0, 1] [2, 3, 4, 5, 6, 7, 8, 9, 10, 11, 12, 13, 14, 15, 16, 17, 18, 19, 20, 21, 22, 23, 24, 25, 26] rfl ?_
      cbv
      refine part_is tokT hA hS 47 (.v (.bool false)) rfl (congrArg (fun b => D.v (.bool b)) hn0) [2, 3, 4] [5, 6, 7, 8, 9, 10, 11, 12, 13, 14, 15, 16, 17, 18, 19, 20, 21, 22, 23, 24, 25, 26] ?_
      cbv
      refine part_is tokT hA hS 50 (.v (.bool false)) rfl (congrArg (fun b => D.v (.bool b)) hn0) [5, 6, 7, 8] [9, 10, 11, 12, 13, 14, 15, 16, 17, 18, 19, 20, 21, 22, 23, 24, 25, 26] ?_
      cbv
      refine part_is tokT hA hS 54 (.v (.bool false)) rfl (congrArg (fun b => D.v (.bool b)) hn0) [9, 10, 11, 12, 13, 14, 15] [16, 17, 18, 19, 20, 21, 22, 23, 24, 25, 26] ?_
      cbv
      refine part_is tokT hA hS 61 (.v (.bool false)) rfl (congrArg (fun b => D.v (.bool b)) hn1) [16, 17, 18, 19, 20] [21, 22, 23, 24, 25, 26] ?_
      cbv
      refine part_is tokT hA hS 66 (.v (.bool false)) rfl (congrArg (fun b => D.v (.bool b)) h1) [21, 22, 23, 24, 25, 26] [] ?_
      cbv
      refine at_ops hS (ops_go tokT hA hS ?_)
      cbv
      exact gs_to [0, 1, 2] ⟨by decide, pre0, ⟨rfl, rfl, rfl, trivial⟩, ⟨rfl, rfl, rfl, rfl, rfl, rfl, trivial⟩, rfl, rfl⟩
  cbv
  refine ⟨hnn, hrm2, ?_⟩
  refine at_code hS ?_
  refine wpa_loopG (α := Int × Nat × Int × List D) (fun q => { env := [(4, .b 1 0), (5, .sl 1 PL), (6, .sl 1 SL), (8, .sl 1 CL), (10, .b 2 0), (12, .o 3 1 n0), (13, I q.2.2.1), (14, I q.1)], H := [.box (.agg [U x2]), .box (.agg [I s.benches, .sl 3 TL]), .box (.agg [I lo, I hi]), .els 1 q.2.2.2], nt := 182, dfs := [] })
    (fun q => p.length - q.2.1) (fun q => IsI q.1 q.2.1 ∧ q.2.1 ≤ p.length ∧ IsI q.2.2.1 (critL s p q.2.1).length ∧ q.2.2.2 = cntD s p q.2.1) (0, 0, 0, cntD s p 0) ⟨⟨rfl⟩, Nat.zero_le _, ⟨rfl⟩, rfl⟩ ?_ ?_
  · rw [← hrep]
    exact gs_to [0, 1, 2, 3] ⟨by decide, pre0, ⟨rfl, rfl, rfl, by rw [hn0']; rfl, trivial⟩, ⟨rfl, rfl, rfl, rfl, rfl, by rw [hn0']; rfl, rfl, rfl, trivial⟩, rfl, rfl⟩
  rintro ⟨i, k, a, NL⟩ ⟨u1, u2, u3, u4⟩
  dsimp only at u1 u2 u3 u4
  by_cases hk : k < p.length
  · obtain ⟨t, hpk⟩ : ∃ t, p[k]? = some t := ⟨_, List.getElem?_eq_getElem hk⟩
    obtain ⟨ht, hcl⟩ := plan_cnt hp.le hpk
    obtain ⟨c, hc⟩ : ∃ c, c = (p.take k).count t := ⟨_, rfl⟩
    rw [← hc] at hcl
    obtain ⟨z, hz⟩ : ∃ z, z = slkN s p e k 400 0 := ⟨_, rfl⟩
    have hsl := slack_is hv hp.le hpl hR hk
    rw [← he, ← hz] at hsl
    obtain ⟨y, hy⟩ : ∃ y : Int, IsI y z := ⟨_, ⟨rfl⟩⟩
    obtain ⟨ti, hti⟩ : ∃ y : Int, IsI y t := ⟨_, ⟨rfl⟩⟩
    obtain ⟨ci, hci⟩ : ∃ y : Int, IsI y c := ⟨_, ⟨rfl⟩⟩
    have hSk : SL[k]? = some (I y) := by rw [hSL, hy.eq]; simp [slackL, List.getElem?_range hk, hz, he]
    have hPk : PL[k]? = some (I ti) := by rw [hP, hti.eq]; simp [hpk, planL]
    have hNk : NL[t]? = some (I ci) := by rw [u4, cntD_get ht, hci.eq, hc]
    have hNl : NL.length = n0 := by rw [u4, hn0N]; simp [cntD]
    have i1 := yinbL hA hSl u1 hk
    have i2 := yinbL hA hPl u1 hk
    have i3 : A.inb ti n0 := yinb hA hti (by rw [hn0N]; exact ht)
    have g1 := yget hA u1 hSk
    have g2 := yget hA u1 hPk
    have g3 := yget hA hti hNk
    have hf1 := yfit1 hA u1 (by omega)
    have hu1 := ysucc hA u1
    have hms : p.length - (k + 1) < p.length - k := by omega
    have e1 : A.cmp .lss y 0 = false := xltF2 hA (by have := hy.eq; omega)
    have e2 : A.cmp .gtr y 200 = false := xgtF2 hA (by have := hy.eq; have := hsl.le; omega)
    have hcle : c ≤ 8 := by have : c ≤ p.length := by rw [hc]; exact Nat.le_trans List.count_le_length (by simp; omega)
                            omega
    have hfc := yfit1 hA hci (by omega)
    have hset : A.set NL (A.tn ti) (I (A.add ci 1)) = cntD s p (k + 1) := yset hA hti (by
      rw [u4, cntD_set hpk ht, xadd hA, hci.eq, hc]; rfl)
    have hnk : A.cmp .lss i (A.oi (A.len PL)) = false → p.length ≤ k := fun h => ynltL hA hPl u1 h
    obtain ⟨NL', hNL'⟩ : ∃ NL', NL' = A.set NL (A.tn ti) (I (A.add ci 1)) := ⟨_, rfl⟩
    rw [← hNL'] at hset
    refine wp_goF tokT hA hS [14, 27] ?_
    cbv
    refine bm (fun _ => ?_) (fun c => absurd (hnk c) (by omega))
    cbv
    refine code_cut hS { env := [(4, .b 1 0), (5, .sl 1 PL), (6, .sl 1 SL), (8, .sl 1 CL), (10, .b 2 0), (12, .o 3 1 n0), (13, I a), (14, I i), (94, .v (.bool false))], H := [.box (.agg [U x2]), .box (.agg [I s.benches, .sl 3 TL]), .box (.agg [I lo, I hi]), .els 1 NL], nt := 182, dfs := [] } ?_ ?_
    · refine region_part tokT hA hS [0, 1, 2, 3, 4] [5, 6, 7, 8, 9, 10, 11] rfl ?_
      cbv
      refine ⟨i1, ⟨_, g1, ?_⟩⟩
      cbv
      refine part_is tokT hA hS 87 (.v (.bool false)) rfl (congrArg (fun b => D.v (.bool b)) e1) [5, 6, 7, 8, 9, 10] [11] ?_
      cbv
      refine ⟨i1, ⟨_, g1, ?_⟩⟩
      cbv
      refine part_is tokT hA hS 93 (.v (.bool false)) rfl (congrArg (fun b => D.v (.bool b)) e2) [11] [] ?_
      cbv
      refine at_ops hS (ops_go tokT hA hS ?_)
      cbv
      exact gs_to [0, 1, 2, 3] ⟨by decide, pre0, ⟨rfl, rfl, rfl, rfl, trivial⟩, ⟨rfl, rfl, rfl, rfl, rfl, rfl, rfl, rfl, rfl, trivial⟩, rfl, rfl⟩
    cbv
    refine draw_go tokT hA hS [0, 1, 2, 3, 4, 5, 6, 7, 8, 9, 10, 11, 12] rfl rfl fun Dk hD => ?_
    cbv
    refine ⟨i2, ⟨_, g2, ?_⟩⟩
    cbv
    refine ⟨i2, ⟨_, g2, ?_⟩⟩
    cbv
    refine ⟨i3, ⟨_, g3, ?_⟩⟩
    cbv
    refine ⟨i3, ⟨_, g3, ?_⟩⟩
    cbv
    refine ⟨hfc, i3, ⟨_, g3, ?_⟩⟩
    cbv
    obtain ⟨T, hTT⟩ : ∃ T, T = s.tasks.getD t default := ⟨_, rfl⟩
    obtain ⟨w, hw⟩ : ∃ w, w = T.works.getD c default := ⟨_, rfl⟩
    have hwa : workAt s t c = w := by rw [hw, hTT]; rfl
    rw [← hTT] at hcl
    refine at_code hS ?_
    refine wpa_loopG (α := Int × Nat) (fun q => { env := [(4, .b 1 0), (5, .sl 1 PL), (6, .sl 1 SL), (8, .sl 1 CL), (10, .b 2 0), (12, .o 3 1 n0), (13, I a), (14, I i), (15, I ti), (16, I ci), (17, I q.1)], H := [.box (.agg [U x2]), .box (.agg [I s.benches, .sl 3 TL]), .box (.agg [I lo, I hi]), .els 1 NL'], nt := 182, dfs := [] })
      (fun q => 2 - q.2) (fun q => IsI q.1 q.2 ∧ q.2 ≤ 2) (0, 0) ⟨⟨rfl⟩, by decide⟩ ?_ ?_
    · exact gs_to [0, 1, 2, 3] ⟨by decide, pre0, ⟨rfl, rfl, rfl, by rw [hNL']; rfl, trivial⟩, ⟨rfl, rfl, rfl, rfl, rfl, rfl, rfl, rfl, rfl, rfl, rfl, trivial⟩, rfl, rfl⟩
    rintro ⟨j, m⟩ ⟨v1, v2⟩
    dsimp only at v1 v2
    by_cases hm : m < 2
    · have hx : A.add y j = ((z + m : Nat) : Int) := by rw [xadd hA, hy.eq, v1.eq]; simp
      obtain ⟨x, hxx⟩ : ∃ x, x = A.add y j := ⟨_, rfl⟩
      rw [← hxx] at hx
      have hz200 := hsl.le
      have hx0 : 0 ≤ x ∧ x ≤ 1000 := by omega
      have hfx : A.fits .i64 (A.add y j) := xfitE hA (hxx.symm.trans hx) (by omega)
      have hfj := yfit1 hA v1 (by omega)
      have hj1 := ysucc hA v1
      have hmsj : 2 - (m + 1) < 2 - m := by omega
      obtain ⟨LW, hLW⟩ : ∃ LW, LW = longW T c x := ⟨_, rfl⟩
      obtain ⟨WL, hWL⟩ : ∃ WL, WL = LW.works.map workD := ⟨_, rfl⟩
      have hWl : WL.length = T.works.length := by rw [hWL, hLW]; simp [longW]
      obtain ⟨h', hh'⟩ : ∃ h', h' = w.hi + x := ⟨_, rfl⟩
      have hWc : WL[c]? = some (.agg [I w.b, I w.lo, I h']) := by
        rw [hWL, hLW, List.getElem?_map]
        simp only [longW]
        rw [List.getElem?_set_self hcl, ← hw]; simp [workD, hh']
      have hlt : A.cmp .lss j 2 = false → False := fun h => by have := xnlt hA h; have := v1.eq; omega
      have hsh : h' ≤ 20 → ShopOk (longS s t c x) := fun h => val_chk (longS_val hv ht (by rw [← hTT]; exact hcl) hx0.1 (by rw [hwa]; omega))
      obtain ⟨v, hvv⟩ : ∃ v, v = decide (m = 1) := ⟨_, rfl⟩
      have hbb : A.bnot (A.beq v v) = false := by subst hA; simp [ar]
      have hve : A.cmp .eql j 1 = v := by rw [xeqb hA, hvv, v1.eq]; exact decide_eq_decide.2 (by omega)
      have hvg : A.cmp .gtr (lastM s p k x) hi = v := by
        rw [hhi]
        by_cases h1 : m = 1
        · subst h1
          rw [hvv, decide_eq_true rfl]
          exact xgtT2 hA (by rw [hx, he]; exact hsl.yes)
        · have h0 : m = 0 := by omega
          subst h0
          rw [hvv]
          have := hsl.no
          rw [← he] at this
          exact xgtF2 hA (by rw [hx]; exact this)
      have i4 := yinbL hA hSl u1 hk
      have i6 := yinbL hA hWl hci hcl
      have g6 := yget hA hci hWc
      refine wp_goF tokT hA hS [24] ?_
      cbv
      refine bm (fun _ => ?_) (fun c => (hlt c).elim)
      cbv
      refine draw_go tokT hA hS [0, 1, 2, 3, 4, 5, 6, 7, 8, 10, 9, 11] rfl rfl fun Dk2 hD2 => ?_
      cbv
      refine ⟨i4, ⟨_, g1, ?_⟩⟩
      cbv
      refine ⟨hfx, ?_⟩
      refine draw_call hA hD2 [.agg [I s.benches, .sl 3 TL], I ti, I ci, I (A.add y j)] [] [] rfl rfl rfl rfl rfl rfl rfl rfl rfl rfl rfl (by decide) trivial (kLonger s hv t c (A.add y j) ht (by rw [← hTT]; exact hcl) (hxx ▸ hx0) ti ci hti hci TL hT _ fun TL' hTL' => ⟨by cbv; exact ⟨⟨_, g1, rfl⟩, trivial⟩, draw_on tokT hA hD2 ?_⟩)
      rw [← hxx] at hTL'
      have hTl' : TL'.length = s.tasks.length := by rw [hTL']; simp [longS]
      have hTk' : TL'[t]? = some (.agg [I LW.ready, I LW.due, .sl 3 WL]) := by
        rw [hTL', List.getElem?_map]
        simp only [longS]
        rw [List.getElem?_set_self ht, ← hTT, ← hLW, hWL]; rfl
      have i5 := yinbL hA hTl' hti ht
      have g5 := yget hA hti hTk'
      cbv
      refine ⟨i5, ⟨_, g5, ?_⟩⟩
      cbv
      refine ⟨i6, ⟨_, g6, ?_⟩⟩
      cbv
      refine bm (fun cc => ?_) (fun cc => ?_)
      · cbv
        refine ⟨hfj, ?_⟩
        refine gs_loop (A.add j 1, m + 1) [0, 1, 2, 3] ⟨hj1, hm⟩ hmsj ?_
        exact ⟨by decide, pre0, ⟨rfl, rfl, rfl, rfl, trivial⟩, ⟨rfl, rfl, rfl, rfl, rfl, rfl, rfl, rfl, rfl, rfl, rfl, trivial⟩, rfl, rfl⟩
      have h20 := xngt hA cc
      cbv
      refine ops_call hS [.agg [I s.benches, .sl 3 TL'], .sl 1 PL] [] [] rfl rfl rfl rfl rfl rfl rfl rfl (by decide) trivial (bLastPlan (longS s t c x) (hsh h20) p (longS_plan hp ht) TL' PL hTL' hP _ fun lo2 hi2 hlh2 => ?_)
      have hvg2 : A.cmp .gtr hi2 hi = v := by
        have := longS_last (x := x) hv hp.le hpk hc hx0.1
        rw [hlh2] at this
        rw [← hvg, ← this]
      refine ops_go tokT hA hS ?_
      cbv
      refine code_cut hS { env := [(4, .b 1 0), (5, .sl 1 PL), (6, .sl 1 SL), (8, .sl 1 CL), (10, .b 2 0), (12, .o 3 1 n0), (13, I a), (14, I i), (15, I ti), (16, I ci), (17, I j), (155, .v (.bool false))], H := [.box (.agg [U x2]), .box (.agg [I s.benches, .sl 3 TL]), .box (.agg [I lo, I hi]), .els 1 NL'], nt := 182, dfs := [] } ?_ ?_
      · refine region_part tokT hA hS [0, 1] [2, 3, 4, 5, 6, 7, 8, 9, 10, 11] rfl ?_
        cbv
        refine part_is tokT hA hS 145 (.v (.bool false)) rfl (congrArg (fun b => D.v (.bool b)) hn0) [2, 3, 4, 5, 6, 7] [8, 9, 10, 11] ?_
        cbv
        refine part_is tokT hA hS 151 (.v (.bool v)) rfl (congrArg (fun b => D.v (.bool b)) hvg2) [8, 9] [10, 11] ?_
        cbv
        refine part_is tokT hA hS 153 (.v (.bool v)) rfl (congrArg (fun b => D.v (.bool b)) hve) [10] [11] ?_
        cbv
        refine part_is tokT hA hS 154 (.v (.bool false)) rfl (congrArg (fun b => D.v (.bool b)) hbb) [11] [] ?_
        cbv
        refine at_ops hS (ops_go tokT hA hS ?_)
        cbv
        exact gs_to [0, 1, 2, 3] ⟨by decide, pre0, ⟨rfl, rfl, rfl, rfl, trivial⟩, ⟨rfl, rfl, rfl, rfl, rfl, rfl, rfl, rfl, rfl, rfl, rfl, rfl, trivial⟩, rfl, rfl⟩
      cbv
      refine ⟨hfj, ?_⟩
      refine gs_loop (A.add j 1, m + 1) [0, 1, 2, 3] ⟨hj1, hm⟩ hmsj ?_
      exact ⟨by decide, pre0, ⟨rfl, rfl, rfl, rfl, trivial⟩, ⟨rfl, rfl, rfl, rfl, rfl, rfl, rfl, rfl, rfl, rfl, rfl, trivial⟩, rfl, rfl⟩
    · have hlt : A.cmp .lss j 2 = true → False := fun h => by have := xlt hA h; have := v1.eq; omega
      have hcn : (critL s p k).length ≤ k := by rw [critL]; exact Nat.le_trans (List.length_filter_le _ _) (by simp)
      have hfa := yfit1 hA u3 (by omega)
      have ha1 := ysucc hA u3
      obtain ⟨ck, hck⟩ : ∃ y : Int, IsI y k := ⟨_, ⟨rfl⟩⟩
      have hat : y = 0 → (critL s p k).length < cn ∧ CL[(critL s p k).length]? = some (I ck) ∧ IsI (A.add a 1) (critL s p (k + 1)).length := fun h => by
        have h0 : z = 0 := by have := hy.eq; omega
        rw [hz, he] at h0
        have h1 := critL_at s p h0 p.length hk
        refine ⟨by rw [hcn2]; exact (List.getElem?_eq_some_iff.1 h1).1, by rw [hCL, hck.eq]; simp [h1], ?_⟩
        rw [critL_succ, if_pos h0]; simpa using ha1
      have hno : y ≠ 0 → IsI a (critL s p (k + 1)).length := fun h => by
        have h0 : z ≠ 0 := by have := hy.eq; omega
        rw [hz, he] at h0
        rw [critL_succ, if_neg h0]; simpa using u3
      have hne : A.cmp .neq ck i = false := xneF hA (by rw [hck.eq, u1.eq])
      refine wp_goF tokT hA hS [] ?_
      cbv
      refine bm (fun c => (hlt c).elim) (fun _ => ?_)
      cbv
      refine gs_done ?_
      cbv
      refine ⟨i1, ⟨_, g1, ?_⟩⟩
      cbv
      refine bm (fun c => ?_) (fun c => ?_)
      · obtain ⟨q1, q2, q3⟩ := hat (xeq hA c)
        have ia := yinbL hA hCl u3 q1
        have gC := yget hA u3 q2
        have hge : A.cmp .geq a (A.oi (A.len CL)) = false := by
          rw [yoiL hA hCl]; exact xgeF2 hA (by have := u3.eq; omega)
        cbv
        refine code_cut hS { env := [(4, .b 1 0), (5, .sl 1 PL), (6, .sl 1 SL), (8, .sl 1 CL), (10, .b 2 0), (12, .o 3 1 n0), (13, I a), (14, I i), (172, .v (.bool false))], H := [.box (.agg [U x2]), .box (.agg [I s.benches, .sl 3 TL]), .box (.agg [I lo, I hi]), .els 1 NL'], nt := 182, dfs := [] } ?_ ?_
        · refine region_part tokT hA hS [0, 1, 2, 3] [4, 5, 6, 7, 8, 9, 10, 11] rfl ?_
          cbv
          refine part_is tokT hA hS 164 (.v (.bool false)) rfl (congrArg (fun b => D.v (.bool b)) hge) [4, 5, 6, 7, 8, 9, 10] [11] ?_
          cbv
          refine ⟨ia, ⟨_, gC, ?_⟩⟩
          cbv
          refine part_is tokT hA hS 171 (.v (.bool false)) rfl (congrArg (fun b => D.v (.bool b)) hne) [11] [] ?_
          cbv
          refine at_ops hS (ops_go tokT hA hS ?_)
          cbv
          exact gs_to [0, 1, 2, 3] ⟨by decide, pre0, ⟨rfl, rfl, rfl, rfl, trivial⟩, ⟨rfl, rfl, rfl, rfl, rfl, rfl, rfl, rfl, rfl, trivial⟩, rfl, rfl⟩
        cbv
        refine ⟨hfa, hf1, ?_⟩
        refine gs_loop (A.add i 1, k + 1, A.add a 1, NL') [0, 1, 2, 3] ⟨hu1, hk, q3, hset⟩ hms ?_
        exact ⟨by decide, pre0, ⟨rfl, rfl, rfl, rfl, trivial⟩, ⟨rfl, rfl, rfl, rfl, rfl, rfl, rfl, rfl, trivial⟩, rfl, rfl⟩
      · have q3 := hno (xneq hA c)
        cbv
        refine ⟨hf1, ?_⟩
        refine gs_loop (A.add i 1, k + 1, a, NL') [0, 1, 2, 3] ⟨hu1, hk, q3, hset⟩ hms ?_
        exact ⟨by decide, pre0, ⟨rfl, rfl, rfl, rfl, trivial⟩, ⟨rfl, rfl, rfl, rfl, rfl, rfl, rfl, rfl, trivial⟩, rfl, rfl⟩
  · have hk2 : k = p.length := by omega
    have hea : A.cmp .eql a (A.oi (A.len CL)) = true := xeqT hA (by rw [yoiL hA hCl, u3.eq, hk2, hcn2])
    have hmk : A.cmp .lss i (A.oi (A.len PL)) = true → k < p.length := fun h => yltL hA hPl u1 h
    refine wp_goF tokT hA hS [] ?_
    cbv
    refine bm (fun c => absurd (hmk c) hk) (fun _ => ?_)
    cbv
    refine gs_done ?_
    cbv
    refine region_part tokT hA hS [0, 1, 2, 3] [4, 5, 6, 7] rfl ?_
    cbv
    refine part_is tokT hA hS 178 (.v (.bool true)) rfl (congrArg (fun b => D.v (.bool b)) hea) [4] [5, 6, 7] ?_
    cbv
    refine ops_callG hS (b := true) rfl rfl rfl rfl rfl rfl rfl rfl (fun _ => ⟨[], _, [], [], [], rfl, rfl, rfl, by decide, trivial, filing _ ?_⟩) (fun h => absurd rfl h)
    refine ops_go tokT hA hS ?_
    cbv
    exact gh_view [] (by decide) pre0 (H' := []) (d' := .v (.bool true)) trivial rfl (gh_done hq)
end Go.Proofs.YtmloogdalecilaaDoor
