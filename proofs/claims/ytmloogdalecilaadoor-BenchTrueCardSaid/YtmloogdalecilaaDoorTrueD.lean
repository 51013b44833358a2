/- Part TrueD of the proofs about the benches of the accordion maker: see the last text of the claim for what is proved. -/
import Derived.RowKitTokens
import Derived.Test.YtmloogdalecilaaDoorTrueB
import Derived.Test.YtmloogdalecilaaDoorTrueC
set_option linter.unusedVariables false
set_option linter.unusedSimpArgs false
set_option linter.unnecessarySimpa false
set_option linter.constructorNameAsVariable false

/-! D35 -/
namespace Go.Proofs.YtmloogdalecilaaDoor
open Go Go.Abs Go.Proofs

theorem kIn (lo hi n : Int) (h : lo ≤ n ∧ n ≤ hi) (Q) (hq : Q (RA.ret (.v (.bool true))) []) : CallA Tryd.prog 62 [.agg [I lo, I hi], I n] [] Q := inF lo hi n Q (by rw [decide_eq_true h]; exact hq)

theorem xltF {A : Ar} (hA : A = ar) {x y : Int} (h : y ≤ x) : A.cmp .lss x y = false := by subst hA; simp [ar, cmpI]; omega
theorem xeqF {A : Ar} (hA : A = ar) {x y : Int} (h : x ≠ y) : A.cmp .eql x y = false := by subst hA; simp [ar, cmpI, h]
theorem xgtD {A : Ar} (hA : A = ar) (x y : Int) : A.cmp .gtr x y = decide (y < x) := by subst hA; rfl

set_option maxRecDepth 20000 in
set_option maxHeartbeats 16000000 in
/-- BenchTrue. -/
theorem wBenchTrue (L : List D) (nums : List Int) (hL : L = nums.map I) (hl : L.length ≤ 9223372036854775807) (Q) (hq : Q (RA.ret (.v (.bool true))) []) : CallA Tryd.prog 13 [.sl 1 L] [] Q := by
  obtain ⟨A, hA⟩ : ∃ A, A = ar := ⟨_, rfl⟩
  have hbn : A.bnot true = false := by subst hA; rfl
  refine callA_startF tokT hA [9] Tryd.func13 rfl rfl rfl rfl rfl fun S hS => ?_
  cbv
  refine ops_call hS [.sl 1 L] [] [] rfl rfl rfl rfl rfl rfl rfl rfl (by decide) trivial (newPotL L nums hL hl _ fun x0 => ?_)
  refine ops_go tokT hA hS ?_
  cbv
  refine ops_call hS [.b 0 0, I 4, I 8] [0] [pot x0] rfl rfl rfl rfl rfl rfl rfl rfl (by decide) ⟨rfl, trivial⟩ (shopOf x0 4 8 (by decide) (by decide) _ fun s x1 hok => ?_)
  have hs : ShopOk s := okS_shop hok (by decide) (by decide)
  have hv := chkS_val hs.chk
  have hlen := hv.len
  obtain ⟨TL, hT⟩ : ∃ TL, TL = s.tasks.map taskD := ⟨_, rfl⟩
  unfold shopD
  rw [← hT]
  obtain ⟨N, hN⟩ : ∃ N, N = s.tasks.length := ⟨_, rfl⟩
  have hTl : TL.length = N := by rw [hT, hN]; simp
  refine ops_go tokT hA hS ?_
  cbv
  refine ops_call hS [.b 0 0, .agg [I s.benches, .sl 3 TL]] [0] [pot x1] rfl rfl rfl rfl rfl rfl rfl rfl (by decide) ⟨rfl, trivial⟩ (planOf x1 s (by have := hv.sum; omega) (by have := hv.len; omega) TL hT _ fun p PL x2 hp hP => ?_)
  have hpl : p.length ≤ 8 := by rw [hp.len]; exact hv.sum
  refine ops_go tokT hA hS ?_
  cbv
  refine draw_go tokT hA hS [0, 1, 2, 3, 4, 5, 6] rfl rfl fun Dk hD => ?_
  cbv
  refine draw_call hA hD [.b 0 0, .agg [I s.benches, .sl 3 TL], I 0] [0] [pot x2] rfl rfl rfl rfl rfl rfl rfl rfl rfl rfl rfl (by decide) ⟨rfl, trivial⟩ (hoursF x2 s hv 0 (.inl rfl) TL hT _ fun g HL x3 hg hH => ⟨by cbv, draw_on tokT hA hD ?_⟩)
  cbv
  refine draw_call hA hD [.agg [I s.benches, .sl 3 TL], .sl 1 PL, .sl 1 HL] [] [] rfl rfl rfl rfl rfl rfl rfl rfl rfl rfl rfl (by decide) trivial (doneF s hv p hp.le hpl 0 g hg TL PL HL hT hP hH _ fun OL hO => ⟨by cbv, draw_on tokT hA hD ?_⟩)
  obtain ⟨R, hR⟩ : ∃ R, R = runS s (fun _ => 0) p := ⟨_, rfl⟩
  have hRn : R.length = p.length := by rw [hR, runS_length]
  obtain ⟨dn, hdn⟩ : ∃ dn, dn = doneN s p (grH g) p.length := ⟨_, rfl⟩
  have hdl : dn.length = p.length := by rw [hdn, doneN_len]
  rw [← hdn] at hO
  have hOl : OL.length = p.length := by rw [hO]; simp [hdl]
  have htr : ∀ (n : Nat) (x : Sl) (o : Stt), R[n]? = some x → dn[n]? = some o → TrueAt x o := fun n x o h1 h2 => true_at hv hp.le hg (by rw [← hR]; exact h1) (by rw [← hdn]; exact h2)
  cbv
  refine ops_call hS [.agg [I s.benches, .sl 3 TL], .sl 1 PL] [] [] rfl rfl rfl rfl rfl rfl rfl rfl (by decide) trivial (bRunPlan s hs p hp TL PL hT hP _ fun RL hRL => ?_)
  rw [← hR] at hRL
  have hRl : RL.length = p.length := by rw [hRL]; simp [hRn]
  refine ops_go tokT hA hS ?_
  cbv
  refine ops_call hS [.agg [I s.benches, .sl 3 TL], .sl 1 PL] [] [] rfl rfl rfl rfl rfl rfl rfl rfl (by decide) trivial (bEndsPlan s hs p hp TL PL hT hP _ fun EL hEL => ?_)
  have hEl : EL.length = N := by rw [hEL, hN]; simp [endsS_len]
  refine ops_go tokT hA hS ?_
  cbv
  refine ops_call hS [.agg [I s.benches, .sl 3 TL], .sl 1 PL] [] [] rfl rfl rfl rfl rfl rfl rfl rfl (by decide) trivial (bLastPlan s hs p hp TL PL hT hP _ fun lo hi hlh => ?_)
  rw [← hR] at hlh
  refine ops_go tokT hA hS ?_
  cbv
  refine ops_call hS [.agg [I s.benches, .sl 3 TL], .sl 1 PL] [] [] rfl rfl rfl rfl rfl rfl rfl rfl (by decide) trivial (bLatePlan s hs p hp TL PL hT hP _ fun VL hVL => ?_)
  have hVl : VL.length = N := by rw [hVL, hN]; simp [lateS]
  have hn0 : A.cmp .neq 0 0 = false := by subst hA; rfl
  have hn1 : A.cmp .neq (A.oi (A.len RL)) (A.oi (A.len OL)) = false := xneF hA (by rw [yoiL hA hRl, yoiL hA hOl])
  have hn2 : A.cmp .neq (A.oi (A.len EL)) (A.oi (A.len TL)) = false := xneF hA (by rw [yoiL hA hEl, yoiL hA hTl])
  have hn3 : A.cmp .neq (A.oi (A.len VL)) (A.oi (A.len TL)) = false := xneF hA (by rw [yoiL hA hVl, yoiL hA hTl])
  have hr0 : 0 ≤ ((TL.length : Nat) : Int) := by omega
  have hr1 : TL.length * 8 ≤ 140737488355328 ∧ TL.length ≤ 4611686018427387904 := by omega
  refine ops_go tokT hA hS ?_
  cbv
  refine region_part tokT hA hS [0, 1] [2, 3, 4, 5, 6, 7, 8, 9, 10, 11, 12, 13, 14, 15, 16, 17, 18, 19, 20, 21, 22, 23, 24, 25, 26, 27, 28, 29, 30, 31, 32, 33, 34, 35, 36] rfl ?_
  cbv
  refine part_is tokT hA hS 59 (.v (.bool false)) rfl (congrArg (fun b => D.v (.bool b)) hn0) [2, 3, 4] [5, 6, 7, 8, 9, 10, 11, 12, 13, 14, 15, 16, 17, 18, 19, 20, 21, 22, 23, 24, 25, 26, 27, 28, 29, 30, 31, 32, 33, 34, 35, 36] ?_
  cbv
  refine part_is tokT hA hS 62 (.v (.bool false)) rfl (congrArg (fun b => D.v (.bool b)) hn0) [5, 6, 7, 8] [9, 10, 11, 12, 13, 14, 15, 16, 17, 18, 19, 20, 21, 22, 23, 24, 25, 26, 27, 28, 29, 30, 31, 32, 33, 34, 35, 36] ?_
  cbv
  refine part_is tokT hA hS 66 (.v (.bool false)) rfl (congrArg (fun b => D.v (.bool b)) hn0) [9, 10, 11, 12] [13, 14, 15, 16, 17, 18, 19, 20, 21, 22, 23, 24, 25, 26, 27, 28, 29, 30, 31, 32, 33, 34, 35, 36] ?_
  cbv
  refine part_is tokT hA hS 70 (.v (.bool false)) rfl (congrArg (fun b => D.v (.bool b)) hn0) [13, 14, 15, 16, 17, 18, 19] [20, 21, 22, 23, 24, 25, 26, 27, 28, 29, 30, 31, 32, 33, 34, 35, 36] ?_
  cbv
  refine part_is tokT hA hS 77 (.v (.bool false)) rfl (congrArg (fun b => D.v (.bool b)) hn1) [20, 21, 22, 23, 24, 25, 26, 27] [28, 29, 30, 31, 32, 33, 34, 35, 36] ?_
  cbv
  refine part_is tokT hA hS 85 (.v (.bool false)) rfl (congrArg (fun b => D.v (.bool b)) hn2) [28, 29, 30, 31, 32, 33, 34, 35] [36] ?_
  cbv
  refine part_is tokT hA hS 93 (.v (.bool false)) rfl (congrArg (fun b => D.v (.bool b)) hn3) [36] [] ?_
  cbv
  refine at_ops hS (ops_go tokT hA hS ?_)
  cbv
  refine ⟨by subst hA; exact hr0, by subst hA; exact hr1, ?_⟩
  refine at_code hS ?_
  refine wpa_loopG (α := Int × Nat × Int × List D) (fun q => { env := [(4, .b 1 0), (6, .sl 5 OL), (7, .sl 7 RL), (9, .sl 2 EL), (11, .b 2 0), (13, .sl 1 VL), (15, I q.2.2.1), (16, .o 3 1 N), (17, I q.1)], H := [.box (.agg [U x3]), .box (.agg [I s.benches, .sl 3 TL]), .box (.agg [I lo, I hi]), .els 1 q.2.2.2], nt := 317, dfs := [] })
    (fun q => p.length - q.2.1) (fun q => IsI q.1 q.2.1 ∧ q.2.1 ≤ p.length ∧ q.2.2.1 = finM (dn.take q.2.1) ∧ q.2.2.2 = (finT N (dn.take q.2.1)).map I) (0, 0, 0, List.replicate TL.length (I 0)) ⟨⟨rfl⟩, Nat.zero_le _, rfl, by simp [finT, hTl]⟩ ?_ ?_
  · exact gs_to [0, 1, 2, 3] ⟨by decide, pre0, ⟨rfl, rfl, rfl, by subst hA; rfl, trivial⟩, ⟨rfl, rfl, rfl, rfl, rfl, rfl, rfl, by subst hA; rw [← hTl]; rfl, rfl, trivial⟩, rfl, rfl⟩
  rintro ⟨i, k, en, FL⟩ ⟨u1, u2, u3, u4⟩
  dsimp only at u1 u2 u3 u4
  have hFl : FL.length = N := by rw [u4]; simp [finT_len]
  by_cases hk : k < p.length
  · obtain ⟨x, hRx⟩ : ∃ x, R[k]? = some x := ⟨_, List.getElem?_eq_getElem (by omega)⟩
    obtain ⟨o, hdo⟩ : ∃ o, dn[k]? = some o := ⟨_, List.getElem?_eq_getElem (by omega)⟩
    have hto := htr k x o hRx hdo
    have hRLx : RL[k]? = some (.agg [I x.t, I x.k, I x.b, I x.bl, I x.bh, I x.el, I x.eh]) := by rw [hRL]; simp [hRx, slotD]
    have hOx : OL[k]? = some (.agg [I o.t, I o.k, I o.b, I o.bg, I o.en]) := by rw [hO]; simp [hdo, sttD]
    have hxt := (runS_t hv hp.le hpl x (by rw [← hR]; exact List.mem_of_getElem? hRx)).1
    obtain ⟨a, hoI, haN⟩ : ∃ a, IsI o.t a ∧ a < N := ⟨x.t.toNat, ⟨by rw [hto.t]; omega⟩, by omega⟩
    obtain ⟨f0, hf0⟩ : ∃ f0, FL[a]? = some (I f0) := by
      refine ⟨(finT N (dn.take k))[a]'(by rw [finT_len]; exact haN), ?_⟩
      rw [u4]; simp [List.getElem?_eq_getElem (show a < (finT N (dn.take k)).length by rw [finT_len]; exact haN)]
    have hset : A.set FL (A.tn o.t) (I o.en) = (finT N (dn.take (k + 1))).map I := yset hA hoI (by
      rw [List.take_add_one, hdo, Option.toList_some, finT_snoc, u4]
      have : o.t.toNat = a := by have := hoI.eq; omega
      rw [this]; simp)
    have hen : A.max en o.en = finM (dn.take (k + 1)) := by rw [List.take_add_one, hdo, Option.toList_some, finM_snoc, u3, xmax hA]
    have i1 := yinbL hA hRl u1 hk
    have i2 := yinbL hA hOl u1 hk
    have i3 := yinb hA hoI haN
    have g1 := yget hA u1 hRLx
    have g2 := yget hA u1 hOx
    have g3 := yget hA hoI hf0
    have hf1 := yfit1 hA u1 (by omega)
    have hu1 := ysucc hA u1
    have hms : p.length - (k + 1) < p.length - k := by omega
    have e1 : A.cmp .neq x.t o.t = false := xneF hA hto.t.symm
    have e2 : A.cmp .neq x.k o.k = false := xneF hA hto.k.symm
    have e3 : A.cmp .neq x.b o.b = false := xneF hA hto.b.symm
    have hnk : A.cmp .lss i (A.oi (A.len OL)) = false → p.length ≤ k := fun h => ynltL hA hOl u1 h
    refine wp_go tokT hA hS ?_
    cbv
    refine bm (fun _ => ?_) (fun c => absurd (hnk c) (by omega))
    cbv
    refine ⟨i1, ⟨_, g1, ?_⟩⟩
    cbv
    refine draw_goE tokT hA hS [7] [0, 1, 2, 3, 4, 5, 6, 7, 8, 9, 10, 11, 12, 13, 14, 15, 16, 17, 18, 19, 20, 21, 22, 23, 24, 25, 26, 27, 28, 29, 30, 31, 32, 33, 34, 35, 36, 37, 38, 39, 40, 41, 42, 43, 44, 45, 46, 47, 48, 49] rfl rfl fun Dk1 hD1 => ?_
    cbv
    refine ⟨i2, ⟨_, g2, ?_⟩⟩
    cbv
    refine draw_val tokT hA hD1 [16] (.v (.bool false)) rfl rfl rfl rfl rfl rfl (congrArg (fun b => D.v (.bool b)) e1) ?_
    cbv
    refine ⟨i2, ⟨_, g2, ?_⟩⟩
    cbv
    refine draw_valG tokT hA hD1 [26] (.v (.bool false)) rfl rfl rfl rfl rfl rfl rfl rfl rfl (congrArg (fun b => D.v (.bool b)) e2) ?_
    cbv
    refine ⟨i2, ⟨_, g2, ?_⟩⟩
    cbv
    refine draw_valG tokT hA hD1 [] (.v (.bool false)) rfl rfl rfl rfl rfl rfl rfl rfl rfl (congrArg (fun b => D.v (.bool b)) e3) ?_
    cbv
    refine ⟨i2, ⟨_, g2, ?_⟩⟩
    cbv
    refine draw_callG hA hD1 (b := false) rfl rfl rfl rfl rfl rfl rfl rfl rfl rfl rfl (fun _ => ⟨[], _, [.agg [I x.bl, I x.bh], I o.bg], [], [], rfl, rfl, rfl, by decide, trivial, kIn x.bl x.bh o.bg ⟨hto.b1, hto.b2⟩ _ ⟨by cbv; repeat' (first | exact trivial | exact Need.mk ⟨_, g2, rfl⟩ | exact Need.mk ⟨_, g1, rfl⟩ | refine ⟨?_, ?_⟩), draw_onE tokT hA hD1 [37] ?_⟩⟩) (fun h => absurd rfl h)
    cbv
    refine draw_valG tokT hA hD1 [] (.v (.bool false)) rfl rfl rfl rfl rfl rfl rfl rfl rfl (congrArg (fun b => D.v (.bool b)) hbn) ?_
    cbv
    refine ⟨i2, ⟨_, g2, ?_⟩⟩
    cbv
    refine draw_callG hA hD1 (b := false) rfl rfl rfl rfl rfl rfl rfl rfl rfl rfl rfl (fun _ => ⟨[], _, [.agg [I x.el, I x.eh], I o.en], [], [], rfl, rfl, rfl, by decide, trivial, kIn x.el x.eh o.en ⟨hto.e1, hto.e2⟩ _ ⟨by cbv; repeat' (first | exact trivial | exact Need.mk ⟨_, g2, rfl⟩ | exact Need.mk ⟨_, g1, rfl⟩ | refine ⟨?_, ?_⟩), draw_onE tokT hA hD1 [48] ?_⟩⟩) (fun h => absurd rfl h)
    cbv
    refine draw_valG tokT hA hD1 [] (.v (.bool false)) rfl rfl rfl rfl rfl rfl rfl rfl rfl (congrArg (fun b => D.v (.bool b)) hbn) ?_
    cbv
    refine at_code hS ?_
    refine wpa_loopG (α := Int × Nat) (fun q => { env := [(4, .b 1 0), (6, .sl 5 OL), (7, .sl 7 RL), (9, .sl 2 EL), (11, .b 2 0), (13, .sl 1 VL), (15, I en), (16, .o 3 1 N), (17, I i), (18, .b 4 0), (19, I q.1)], H := [.box (.agg [U x3]), .box (.agg [I s.benches, .sl 3 TL]), .box (.agg [I lo, I hi]), .els 1 FL, .box (.agg [I x.t, I x.k, I x.b, I x.bl, I x.bh, I x.el, I x.eh])], nt := 317, dfs := [] })
      (fun q => k - q.2) (fun q => IsI q.1 q.2 ∧ q.2 ≤ k) (0, 0) ⟨⟨rfl⟩, Nat.zero_le _⟩ ?_ ?_
    · exact gs_to [0, 1, 2, 3, 4] ⟨by decide, pre0, ⟨rfl, rfl, rfl, rfl, rfl, trivial⟩, ⟨rfl, rfl, rfl, rfl, rfl, rfl, rfl, rfl, rfl, rfl, rfl, trivial⟩, rfl, rfl⟩
    rintro ⟨j, m⟩ ⟨v1, v2⟩
    dsimp only at v1 v2
    have hmk : A.cmp .lss j i = false → k ≤ m := fun h => by have := xnlt hA h; have := v1.eq; have := u1.eq; omega
    have hmk2 : A.cmp .lss j i = true → m < k := fun h => by have := xlt hA h; have := v1.eq; have := u1.eq; omega
    by_cases hm : m < k
    · obtain ⟨y, hRy⟩ : ∃ y, R[m]? = some y := ⟨_, List.getElem?_eq_getElem (by omega)⟩
      obtain ⟨o2, hdo2⟩ : ∃ o2, dn[m]? = some o2 := ⟨_, List.getElem?_eq_getElem (by omega)⟩
      have hto2 := htr m y o2 hRy hdo2
      have hRLy : RL[m]? = some (.agg [I y.t, I y.k, I y.b, I y.bl, I y.bh, I y.el, I y.eh]) := by rw [hRL]; simp [hRy, slotD]
      have hOy : OL[m]? = some (.agg [I o2.t, I o2.k, I o2.b, I o2.bg, I o2.en]) := by rw [hO]; simp [hdo2, sttD]
      have j1 := yinbL hA hRl v1 (show m < p.length by omega)
      have j2 := yinbL hA hOl v1 (show m < p.length by omega)
      have h1 := yget hA v1 hRLy
      have h2 := yget hA v1 hOy
      have hfj := yfit1 hA v1 (by omega)
      have hj1 := ysucc hA v1
      have hmsj : k - (m + 1) < k - m := by omega
      have af := fun (h : y.b = x.b ∨ y.t = x.t) => (⟨run_after hv hp.le false hm (by rw [← hR]; exact hRy) (by rw [← hR]; exact hRx) h, run_after hv hp.le true hm (by rw [← hR]; exact hRy) (by rw [← hR]; exact hRx) h⟩ : y.el ≤ x.bl ∧ y.eh ≤ x.bh)
      have tb := fun (h : o2.b = o.b) => true_bench hm hk (by rw [← hdn]; exact hdo2) (by rw [← hdn]; exact hdo) h
      have hbb : o2.b = o.b ↔ y.b = x.b := by rw [hto2.b, hto.b]
      refine wp_go tokT hA hS ?_
      cbv
      refine bm (fun _ => ?_) (fun c => absurd (hmk c) (by omega))
      cbv
      by_cases c1 : o2.b = o.b
      · have hb1 : A.cmp .eql o2.b o.b = true := xeqT hA c1
        have hl1 : A.cmp .lss o.bg o2.en = false := xltF hA (tb c1)
        have hb2 : A.cmp .eql y.b x.b = true := xeqT hA (hbb.1 c1)
        have hl2 : A.cmp .lss x.bl y.el = false := xltF hA (af (.inl (hbb.1 c1))).1
        have hl3 : A.cmp .lss x.bh y.eh = false := xltF hA (af (.inl (hbb.1 c1))).2
        by_cases c2 : y.t = x.t
        · have ht1 : A.cmp .eql y.t x.t = true := xeqT hA c2
          have hl4 : A.cmp .lss x.bl y.el = false := hl2
          have hl5 : A.cmp .lss x.bh y.eh = false := hl3
          refine code_gs hS (gs_view (a := { env := [(4, .b 1 0), (6, .sl 5 OL), (7, .sl 7 RL), (9, .sl 2 EL), (11, .b 2 0), (13, .sl 1 VL), (15, I en), (16, .o 3 1 N), (17, I i), (18, .b 4 0), (19, I j)], H := [.box (.agg [U x3]), .box (.agg [I s.benches, .sl 3 TL]), .box (.agg [I lo, I hi]), .els 1 FL, .box (.agg [I x.t, I x.k, I x.b, I x.bl, I x.bh, I x.el, I x.eh])], nt := 317, dfs := [] }) [0, 1, 2, 3, 4] ⟨by decide, pre0, ⟨rfl, rfl, rfl, rfl, rfl, trivial⟩, ⟨rfl, rfl, rfl, rfl, rfl, rfl, rfl, rfl, rfl, rfl, rfl, trivial⟩, rfl, rfl⟩ (gs_done ?_))
          refine r22_11 hA hS ?_ OL RL EL VL FL TL en i j x3 s.benches lo hi N k m p.length x y o o2 u1 v1 hk (by omega) hRl hOl hRLy hOy hOx hb1 hb2 ht1 hl1 hl2 hl3 hl4 hl5 _ ?_
          · kernel_rfl
          cbv
          refine ⟨hfj, ?_⟩
          refine gs_loop (A.add j 1, m + 1) [0, 1, 2, 3, 4] ⟨hj1, hm⟩ hmsj ?_
          exact ⟨by decide, pre0, ⟨rfl, rfl, rfl, rfl, rfl, trivial⟩, ⟨rfl, rfl, rfl, rfl, rfl, rfl, rfl, rfl, rfl, rfl, rfl, trivial⟩, rfl, rfl⟩
        · have ht1 : A.cmp .eql y.t x.t = false := xeqF hA c2
          refine code_gs hS (gs_view (a := { env := [(4, .b 1 0), (6, .sl 5 OL), (7, .sl 7 RL), (9, .sl 2 EL), (11, .b 2 0), (13, .sl 1 VL), (15, I en), (16, .o 3 1 N), (17, I i), (18, .b 4 0), (19, I j)], H := [.box (.agg [U x3]), .box (.agg [I s.benches, .sl 3 TL]), .box (.agg [I lo, I hi]), .els 1 FL, .box (.agg [I x.t, I x.k, I x.b, I x.bl, I x.bh, I x.el, I x.eh])], nt := 317, dfs := [] }) [0, 1, 2, 3, 4] ⟨by decide, pre0, ⟨rfl, rfl, rfl, rfl, rfl, trivial⟩, ⟨rfl, rfl, rfl, rfl, rfl, rfl, rfl, rfl, rfl, rfl, rfl, trivial⟩, rfl, rfl⟩ (gs_done ?_))
          refine r22_10 hA hS ?_ OL RL EL VL FL TL en i j x3 s.benches lo hi N k m p.length x y o o2 u1 v1 hk (by omega) hRl hOl hRLy hOy hOx hb1 hb2 ht1 hl1 hl2 hl3 _ ?_
          · kernel_rfl
          cbv
          refine ⟨hfj, ?_⟩
          refine gs_loop (A.add j 1, m + 1) [0, 1, 2, 3, 4] ⟨hj1, hm⟩ hmsj ?_
          exact ⟨by decide, pre0, ⟨rfl, rfl, rfl, rfl, rfl, trivial⟩, ⟨rfl, rfl, rfl, rfl, rfl, rfl, rfl, rfl, rfl, rfl, rfl, trivial⟩, rfl, rfl⟩
      · have hb1 : A.cmp .eql o2.b o.b = false := xeqF hA c1
        have hb2 : A.cmp .eql y.b x.b = false := xeqF hA (fun h => c1 (hbb.2 h))
        by_cases c2 : y.t = x.t
        · have ht1 : A.cmp .eql y.t x.t = true := xeqT hA c2
          have hl4 : A.cmp .lss x.bl y.el = false := xltF hA (af (.inr c2)).1
          have hl5 : A.cmp .lss x.bh y.eh = false := xltF hA (af (.inr c2)).2
          refine code_gs hS (gs_view (a := { env := [(4, .b 1 0), (6, .sl 5 OL), (7, .sl 7 RL), (9, .sl 2 EL), (11, .b 2 0), (13, .sl 1 VL), (15, I en), (16, .o 3 1 N), (17, I i), (18, .b 4 0), (19, I j)], H := [.box (.agg [U x3]), .box (.agg [I s.benches, .sl 3 TL]), .box (.agg [I lo, I hi]), .els 1 FL, .box (.agg [I x.t, I x.k, I x.b, I x.bl, I x.bh, I x.el, I x.eh])], nt := 317, dfs := [] }) [0, 1, 2, 3, 4] ⟨by decide, pre0, ⟨rfl, rfl, rfl, rfl, rfl, trivial⟩, ⟨rfl, rfl, rfl, rfl, rfl, rfl, rfl, rfl, rfl, rfl, rfl, trivial⟩, rfl, rfl⟩ (gs_done ?_))
          refine r22_01 hA hS ?_ OL RL EL VL FL TL en i j x3 s.benches lo hi N k m p.length x y o o2 u1 v1 hk (by omega) hRl hOl hRLy hOy hOx hb1 hb2 ht1 hl4 hl5 _ ?_
          · kernel_rfl
          cbv
          refine ⟨hfj, ?_⟩
          refine gs_loop (A.add j 1, m + 1) [0, 1, 2, 3, 4] ⟨hj1, hm⟩ hmsj ?_
          exact ⟨by decide, pre0, ⟨rfl, rfl, rfl, rfl, rfl, trivial⟩, ⟨rfl, rfl, rfl, rfl, rfl, rfl, rfl, rfl, rfl, rfl, rfl, trivial⟩, rfl, rfl⟩
        · have ht1 : A.cmp .eql y.t x.t = false := xeqF hA c2
          refine code_gs hS (gs_view (a := { env := [(4, .b 1 0), (6, .sl 5 OL), (7, .sl 7 RL), (9, .sl 2 EL), (11, .b 2 0), (13, .sl 1 VL), (15, I en), (16, .o 3 1 N), (17, I i), (18, .b 4 0), (19, I j)], H := [.box (.agg [U x3]), .box (.agg [I s.benches, .sl 3 TL]), .box (.agg [I lo, I hi]), .els 1 FL, .box (.agg [I x.t, I x.k, I x.b, I x.bl, I x.bh, I x.el, I x.eh])], nt := 317, dfs := [] }) [0, 1, 2, 3, 4] ⟨by decide, pre0, ⟨rfl, rfl, rfl, rfl, rfl, trivial⟩, ⟨rfl, rfl, rfl, rfl, rfl, rfl, rfl, rfl, rfl, rfl, rfl, trivial⟩, rfl, rfl⟩ (gs_done ?_))
          refine r22_00 hA hS ?_ OL RL EL VL FL TL en i j x3 s.benches lo hi N k m p.length x y o o2 u1 v1 hk (by omega) hRl hOl hRLy hOy hOx hb1 hb2 ht1 _ ?_
          · kernel_rfl
          cbv
          refine ⟨hfj, ?_⟩
          refine gs_loop (A.add j 1, m + 1) [0, 1, 2, 3, 4] ⟨hj1, hm⟩ hmsj ?_
          exact ⟨by decide, pre0, ⟨rfl, rfl, rfl, rfl, rfl, trivial⟩, ⟨rfl, rfl, rfl, rfl, rfl, rfl, rfl, rfl, rfl, rfl, rfl, trivial⟩, rfl, rfl⟩
    · refine wp_go tokT hA hS ?_
      cbv
      refine bm (fun c => absurd (hmk2 c) hm) (fun _ => ?_)
      cbv
      refine gs_done ?_
      cbv
      refine ⟨i2, ⟨_, g2, ?_⟩⟩
      cbv
      refine draw_go tokT hA hS [0, 1, 2, 3, 4, 5, 6, 7, 8, 9, 10, 11, 12] rfl rfl fun Dk3 hD3 => ?_
      cbv
      refine ⟨i2, ⟨_, g2, ?_⟩⟩
      cbv
      refine ⟨i2, ⟨_, g2, ?_⟩⟩
      cbv
      refine ⟨i3, ⟨_, g3, ?_⟩⟩
      cbv
      refine ⟨hf1, ?_⟩
      refine gs_loop (A.add i 1, k + 1, A.max en o.en, A.set FL (A.tn o.t) (I o.en)) [0, 1, 2, 3] ⟨hu1, hk, hen, hset⟩ hms ?_
      exact ⟨by decide, pre0, ⟨rfl, rfl, rfl, rfl, trivial⟩, ⟨rfl, rfl, rfl, rfl, rfl, rfl, rfl, rfl, rfl, trivial⟩, rfl, rfl⟩
  · have hk2 : k = p.length := by omega
    obtain ⟨fT, hfT⟩ : ∃ fT, fT = finT N dn := ⟨_, rfl⟩
    have hfTl : fT.length = N := by rw [hfT, finT_len]
    have hFf : FL = fT.map I := by rw [u4, hk2, List.take_of_length_le (by omega), hfT]
    have hlast : lo ≤ en ∧ en ≤ hi := by
      have := true_last htr (by omega) p.length (by omega)
      rw [List.take_of_length_le (by omega), hlh] at this
      rw [u3, hk2]; exact this
    have hends : ∀ (j : Nat) (e : Int × Int) (f : Int), (endsS s p)[j]? = some e → fT[j]? = some f → e.1 ≤ f ∧ f ≤ e.2 := fun j e f h1 h2 => by
      have := true_ends (N := N) htr (by omega) p.length (by omega) j e f
      rw [List.take_of_length_le (by omega), List.take_of_length_le (by omega), ← hfT, hR] at this
      rw [endsS, ← hN] at h1
      exact this h1 h2
    have hmk : A.cmp .lss i (A.oi (A.len OL)) = true → k < p.length := fun h => yltL hA hOl u1 h
    refine wp_go tokT hA hS ?_
    cbv
    refine bm (fun c => absurd (hmk c) hk) (fun _ => ?_)
    cbv
    refine gs_done ?_
    cbv
    refine at_code hS ?_
    refine wpa_loopG (α := Int × Nat) (fun q => { env := [(4, .b 1 0), (9, .sl 2 EL), (11, .b 2 0), (13, .sl 1 VL), (15, I en), (16, .o 3 1 N), (20, I q.1)], H := [.box (.agg [U x3]), .box (.agg [I s.benches, .sl 3 TL]), .box (.agg [I lo, I hi]), .els 1 FL], nt := 317, dfs := [] })
      (fun q => N - q.2) (fun q => IsI q.1 q.2 ∧ q.2 ≤ N) (0, 0) ⟨⟨rfl⟩, Nat.zero_le _⟩ ?_ ?_
    · exact gs_to [0, 1, 2, 3] ⟨by decide, pre0, ⟨rfl, rfl, rfl, rfl, trivial⟩, ⟨rfl, rfl, rfl, rfl, rfl, rfl, rfl, trivial⟩, rfl, rfl⟩
    rintro ⟨j, m⟩ ⟨v1, v2⟩
    dsimp only at v1 v2
    have hmk1 : A.cmp .lss j (A.oi (A.len TL)) = false → N ≤ m := fun h => ynltL hA hTl v1 h
    have hmk2 : A.cmp .lss j (A.oi (A.len TL)) = true → m < N := fun h => yltL hA hTl v1 h
    by_cases hm : m < N
    · obtain ⟨e, hem⟩ : ∃ e, (endsS s p)[m]? = some e := ⟨_, List.getElem?_eq_getElem (by rw [endsS_len]; omega)⟩
      obtain ⟨f, hfm⟩ : ∃ f, fT[m]? = some f := ⟨_, List.getElem?_eq_getElem (by omega)⟩
      have hef := hends m e f hem hfm
      obtain ⟨t, ht⟩ : ∃ t, t = s.tasks.getD m default := ⟨_, rfl⟩
      have htm : s.tasks[m]? = some t := by rw [ht, List.getD_eq_getElem?_getD, List.getElem?_eq_getElem (by omega)]; rfl
      obtain ⟨WL, hWL⟩ : ∃ WL, WL = t.works.map workD := ⟨_, rfl⟩
      have hTm : TL[m]? = some (.agg [I t.ready, I t.due, .sl 3 WL]) := by rw [hT]; simp [htm, hWL, taskD]
      have hEm : EL[m]? = some (.agg [I e.1, I e.2]) := by rw [hEL]; simp [hem, rngD]
      have hFm : FL[m]? = some (I f) := by rw [hFf]; simp [hfm]
      obtain ⟨v, hv'⟩ : ∃ v, v = lateV e t.due := ⟨_, rfl⟩
      have hVm : VL[m]? = some (I v) := by
        rw [hVL, List.getElem?_map, lateS, List.getElem?_map, List.getElem?_range (by omega)]
        simp only [Option.map_some, List.getD_eq_getElem?_getD, hem, htm, Option.getD_some, hv']
      have hrt : v = 3 ∨ v = 1 ∧ A.cmp .gtr f t.due = true ∨ v = 2 ∧ A.cmp .gtr f t.due = false := by
        rw [xgtD hA, hv']; exact late_right hef.1 hef.2
      have j1 := yinbL hA hEl v1 hm
      have j2 := yinb hA v1 hm
      have j3 := yinbL hA hVl v1 hm
      have j4 := yinbL hA hTl v1 hm
      have h1 := yget hA v1 hEm
      have h2 := yget hA v1 hFm
      have h3 := yget hA v1 hVm
      have h4 := yget hA v1 hTm
      have hfj := yfit1 hA v1 (by omega)
      have hj1 := ysucc hA v1
      have hmsj : N - (m + 1) < N - m := by omega
      as_aux_lemma =>
        refine wp_go tokT hA hS ?_
        cbv
        refine bm (fun _ => ?_) (fun c => absurd (hmk1 c) (by omega))
        cbv
        refine draw_go tokT hA hS [0, 1, 2, 3, 4, 5, 6, 7, 8, 9, 10, 11, 12, 13, 14, 15, 16, 17, 18, 19, 20, 21, 22, 23, 24, 25, 26, 27, 28] rfl rfl fun Dk4 hD4 => ?_
        cbv
        refine ⟨j1, ⟨_, h1, ?_⟩⟩
        cbv
        refine ⟨j2, ⟨_, h2, ?_⟩⟩
        cbv
        refine draw_call hA hD4 [.agg [I e.1, I e.2], I f] [] [] rfl rfl rfl rfl rfl rfl rfl rfl rfl rfl rfl (by decide) trivial (kIn e.1 e.2 f hef _ ⟨by cbv, draw_onE tokT hA hD4 [9] ?_⟩)
        cbv
        refine draw_val tokT hA hD4 [] (.v (.bool false)) rfl rfl rfl rfl rfl rfl (congrArg (fun b => D.v (.bool b)) hbn) ?_
        cbv
        refine ⟨j3, ⟨_, h3, ?_⟩⟩
        cbv
        refine ⟨j2, ⟨_, h2, ?_⟩⟩
        cbv
        refine ⟨j4, ⟨_, h4, ?_⟩⟩
        cbv
        refine draw_callG hA hD4 (b := false) rfl rfl rfl rfl rfl rfl rfl rfl rfl rfl rfl (fun _ => ⟨[], _, [I v, .v (.bool (A.cmp .gtr f t.due))], [], [], rfl, rfl, rfl, by decide, trivial, kRight v _ hrt _ ⟨by cbv; repeat' (first | exact trivial | exact Need.mk ⟨_, h2, rfl⟩ | exact Need.mk ⟨_, h3, rfl⟩ | exact Need.mk ⟨_, h4, rfl⟩ | exact Need.mk ⟨_, h1, rfl⟩ | refine ⟨?_, ?_⟩), draw_onE tokT hA hD4 [27] ?_⟩⟩) (fun h => absurd rfl h)
        cbv
        refine draw_valG tokT hA hD4 [] (.v (.bool false)) rfl rfl rfl rfl rfl rfl rfl rfl rfl (congrArg (fun b => D.v (.bool b)) hbn) ?_
        cbv
        refine ⟨hfj, ?_⟩
        refine gs_loop (A.add j 1, m + 1) [0, 1, 2, 3] ⟨hj1, hm⟩ hmsj ?_
        exact ⟨by decide, pre0, ⟨rfl, rfl, rfl, rfl, trivial⟩, ⟨rfl, rfl, rfl, rfl, rfl, rfl, rfl, trivial⟩, rfl, rfl⟩
    · refine wp_go tokT hA hS ?_
      cbv
      refine bm (fun c => absurd (hmk2 c) hm) (fun _ => ?_)
      cbv
      refine gs_done ?_
      cbv
      refine ops_call hS [.agg [I lo, I hi], I en] [] [] rfl rfl rfl rfl rfl rfl rfl rfl (by decide) trivial (kIn lo hi en hlast _ ?_)
      refine ops_go tokT hA hS ?_
      cbv
      refine ops_callG hS (b := true) rfl rfl rfl rfl rfl rfl rfl rfl (fun _ => ⟨[], _, [], [], [], rfl, rfl, rfl, by decide, trivial, filing _ ?_⟩) (fun h => absurd rfl h)
      refine ops_go tokT hA hS ?_
      cbv
      exact gh_view [] (by decide) pre0 (H' := []) (d' := .v (.bool true)) trivial rfl (gh_done hq)
end Go.Proofs.YtmloogdalecilaaDoor
