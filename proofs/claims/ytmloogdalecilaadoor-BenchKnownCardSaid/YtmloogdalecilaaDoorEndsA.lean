/- Part EndsA of the proofs about the benches of the accordion maker: see the last text of the claim for what is proved. -/
import Derived.Test.YtmloogdalecilaaDoorBenchE
import Derived.Test.YtmloogdalecilaaDoorBenchD
import Derived.Test.YtmloogdalecilaaDoorMachD
set_option linter.unusedVariables false
set_option linter.unusedSimpArgs false
set_option linter.unnecessarySimpa false
set_option linter.constructorNameAsVariable false

/-! D33 -/
namespace Go.Proofs.YtmloogdalecilaaDoor
open Go Go.Abs Go.Proofs

theorem xneF {A : Ar} (hA : A = ar) {x y : Int} (h : x = y) : A.cmp .neq x y = false := by subst hA; subst h; simp [ar, cmpI]
theorem xeqT {A : Ar} (hA : A = ar) {x y : Int} (h : x = y) : A.cmp .eql x y = true := by subst hA; subst h; simp [ar, cmpI]

set_option maxRecDepth 20000 in
set_option maxHeartbeats 8000000 in
/-- BenchEnds. -/
theorem wBenchEnds (L : List D) (nums : List Int) (hL : L = nums.map I) (hl : L.length ≤ 9223372036854775807) (Q) (hq : Q (RA.ret (.v (.bool true))) []) : CallA Tryd.prog 8 [.sl 1 L] [] Q := by
  obtain ⟨A, hA⟩ : ∃ A, A = ar := ⟨_, rfl⟩
  refine callA_startF tokT hA [8, 19] Tryd.func8 rfl rfl rfl rfl rfl fun S hS => ?_
  cbv
  refine ops_call hS [.sl 1 L] [] [] rfl rfl rfl rfl rfl rfl rfl rfl (by decide) trivial (newPotL L nums hL hl _ fun x0 => ?_)
  refine ops_go tokT hA hS ?_
  cbv
  refine ops_call hS [.b 0 0, I 4, I 8] [0] [pot x0] rfl rfl rfl rfl rfl rfl rfl rfl (by decide) ⟨rfl, trivial⟩ (shopOf x0 4 8 (by decide) (by decide) _ fun s x1 hok => ?_)
  have hs : ShopOk s := okS_shop hok (by decide) (by decide)
  have hv := chkS_val hs.chk
  obtain ⟨TL, hT⟩ : ∃ TL, TL = s.tasks.map taskD := ⟨_, rfl⟩
  unfold shopD
  rw [← hT]
  have hTl : TL.length = s.tasks.length := by rw [hT]; simp
  refine ops_go tokT hA hS ?_
  cbv
  refine ops_call hS [.b 0 0, .agg [I s.benches, .sl 3 TL]] [0] [pot x1] rfl rfl rfl rfl rfl rfl rfl rfl (by decide) ⟨rfl, trivial⟩ (planOf x1 s (by have := hv.sum; omega) (by have := hv.len; omega) TL hT _ fun p PL x2 hp hP => ?_)
  have hpl : p.length ≤ 8 := by rw [hp.len]; exact hv.sum
  have hPl : PL.length = p.length := by rw [hP]; simp [planL]
  refine ops_go tokT hA hS ?_
  cbv
  refine draw_go tokT hA hS [0, 1, 2, 3, 6, 7, 8, 9, 4, 5, 10, 11, 12, 13] rfl rfl fun Dk hD => ?_
  cbv
  refine draw_call hA hD [.b 0 0, .agg [I s.benches, .sl 3 TL], I 1] [0] [pot x2] rfl rfl rfl rfl rfl rfl rfl rfl rfl rfl rfl (by decide) ⟨rfl, trivial⟩ (hoursF x2 s hv 1 (.inr (.inl rfl)) TL hT _ fun g1 HL1 x3 hg1 hH1 => ⟨by cbv, draw_on tokT hA hD ?_⟩)
  cbv
  refine draw_call hA hD [.agg [I s.benches, .sl 3 TL], .sl 1 PL, .sl 1 HL1] [] [] rfl rfl rfl rfl rfl rfl rfl rfl rfl rfl rfl (by decide) trivial (doneF s hv p hp.le hpl 1 g1 hg1 TL PL HL1 hT hP hH1 _ fun OL1 hO1 => ⟨by cbv, draw_on tokT hA hD ?_⟩)
  cbv
  refine draw_call hA hD [.b 0 0, .agg [I s.benches, .sl 3 TL], I 2] [0] [pot x3] rfl rfl rfl rfl rfl rfl rfl rfl rfl rfl rfl (by decide) ⟨rfl, trivial⟩ (hoursF x3 s hv 2 (.inr (.inr rfl)) TL hT _ fun g2 HL2 x4 hg2 hH2 => ⟨by cbv, draw_on tokT hA hD ?_⟩)
  cbv
  refine draw_call hA hD [.agg [I s.benches, .sl 3 TL], .sl 1 PL, .sl 1 HL2] [] [] rfl rfl rfl rfl rfl rfl rfl rfl rfl rfl rfl (by decide) trivial (doneF s hv p hp.le hpl 2 g2 hg2 TL PL HL2 hT hP hH2 _ fun OL2 hO2 => ⟨by cbv, draw_on tokT hA hD ?_⟩)
  rw [done_lo hv hp.le hg1] at hO1
  rw [done_hi hv hp.le hg2] at hO2
  obtain ⟨R, hR⟩ : ∃ R, R = runS s (fun _ => 0) p := ⟨_, rfl⟩
  rw [← hR] at hO1 hO2
  have hRn : R.length = p.length := by rw [hR, runS_length]
  cbv
  refine ops_call hS [.agg [I s.benches, .sl 3 TL], .sl 1 PL] [] [] rfl rfl rfl rfl rfl rfl rfl rfl (by decide) trivial (bRunPlan s hs p hp TL PL hT hP _ fun RL hRL => ?_)
  rw [← hR] at hRL
  have hRl : RL.length = p.length := by rw [hRL]; simp [hRn]
  refine ops_go tokT hA hS ?_
  cbv
  refine ops_call hS [.agg [I s.benches, .sl 3 TL], .sl 1 PL] [] [] rfl rfl rfl rfl rfl rfl rfl rfl (by decide) trivial (bEndsPlan s hs p hp TL PL hT hP _ fun EL hEL => ?_)
  have hEl : EL.length = s.tasks.length := by rw [hEL]; simp [endsS_len]
  refine ops_go tokT hA hS ?_
  cbv
  refine ops_call hS [.agg [I s.benches, .sl 3 TL], .sl 1 PL] [] [] rfl rfl rfl rfl rfl rfl rfl rfl (by decide) trivial (bLastPlan s hs p hp TL PL hT hP _ fun lo hi hlh => ?_)
  rw [← hR] at hlh
  have hn0 : A.cmp .neq 0 0 = false := by subst hA; rfl
  have hn1 : A.cmp .neq (A.oi (A.len RL)) (A.oi (A.len PL)) = false := xneF hA (by rw [yoiL hA hRl, yoiL hA hPl])
  have hn2 : A.cmp .neq (A.oi (A.len EL)) (A.oi (A.len TL)) = false := xneF hA (by rw [yoiL hA hEl, yoiL hA hTl])
  refine ops_go tokT hA hS ?_
  cbv
  refine region_part tokT hA hS [0, 1] [2, 3, 4, 5, 6, 7, 8, 9, 10, 11, 12, 13, 14, 15, 16, 17, 18, 19, 20, 21, 22, 23, 24] rfl ?_
  cbv
  refine part_is tokT hA hS 54 (.v (.bool false)) rfl (congrArg (fun b => D.v (.bool b)) hn0) [2, 3, 4] [5, 6, 7, 8, 9, 10, 11, 12, 13, 14, 15, 16, 17, 18, 19, 20, 21, 22, 23, 24] ?_
  cbv
  refine part_is tokT hA hS 57 (.v (.bool false)) rfl (congrArg (fun b => D.v (.bool b)) hn0) [5, 6, 7, 8] [9, 10, 11, 12, 13, 14, 15, 16, 17, 18, 19, 20, 21, 22, 23, 24] ?_
  cbv
  refine part_is tokT hA hS 61 (.v (.bool false)) rfl (congrArg (fun b => D.v (.bool b)) hn0) [9, 10, 11, 12, 13, 14, 15] [16, 17, 18, 19, 20, 21, 22, 23, 24] ?_
  cbv
  refine part_is tokT hA hS 68 (.v (.bool false)) rfl (congrArg (fun b => D.v (.bool b)) hn1) [16, 17, 18, 19, 20, 21, 22, 23] [24] ?_
  cbv
  refine part_is tokT hA hS 76 (.v (.bool false)) rfl (congrArg (fun b => D.v (.bool b)) hn2) [24] [] ?_
  cbv
  refine at_ops hS (ops_go tokT hA hS ?_)
  cbv
  refine ops_call hS [I 0, I 0] [] [] rfl rfl rfl rfl rfl rfl rfl rfl (by decide) trivial (toF 0 0 _ ?_)
  refine ops_go tokT hA hS ?_
  cbv
  refine at_code hS ?_
  refine wpa_loopG (α := Int × Nat × Int × Int) (fun q => { env := [(4, .b 1 0), (5, .sl 1 PL), (6, .sl 5 OL1), (7, .sl 5 OL2), (8, .sl 7 RL), (10, .sl 2 EL), (12, .b 2 0), (14, .b 3 0), (15, I q.1)], H := [.box (.agg [U x4]), .box (.agg [I s.benches, .sl 3 TL]), .box (.agg [I lo, I hi]), .box (.agg [I q.2.2.1, I q.2.2.2])], nt := 176, dfs := [] })
    (fun q => p.length - q.2.1) (fun q => IsI q.1 q.2.1 ∧ q.2.1 ≤ p.length ∧ lastS (R.take q.2.1) = (q.2.2.1, q.2.2.2)) (0, 0, 0, 0) ⟨⟨rfl⟩, Nat.zero_le _, rfl⟩ ?_ ?_
  · exact gs_to [0, 1, 2, 3] ⟨by decide, pre0, ⟨rfl, rfl, rfl, rfl, trivial⟩, ⟨rfl, rfl, rfl, rfl, rfl, rfl, rfl, rfl, rfl, trivial⟩, rfl, rfl⟩
  rintro ⟨i, k, ma, mb⟩ ⟨u1, u2, u3⟩
  dsimp only at u1 u2 u3
  by_cases hk : k < p.length
  · obtain ⟨x, hx⟩ : ∃ x, x = R[k]'(by omega) := ⟨_, rfl⟩
    have hRx : R[k]? = some x := by rw [hx]; exact List.getElem?_eq_getElem (by omega)
    obtain ⟨a, ha⟩ : ∃ a, a = p[k] := ⟨_, rfl⟩
    have hpk : p[k]? = some a := by rw [ha]; exact List.getElem?_eq_getElem hk
    obtain ⟨y, hy, hr⟩ := run_facts hv hp.le hpk
    rw [← hR, hRx] at hy
    cases hy
    have hal := hr.hi
    obtain ⟨t, ht⟩ : ∃ t, t = s.tasks.getD a default := ⟨_, rfl⟩
    have hta : s.tasks[a]? = some t := by rw [ht, List.getD_eq_getElem?_getD, List.getElem?_eq_getElem hal]; rfl
    obtain ⟨WL, hWL⟩ : ∃ WL, WL = t.works.map workD := ⟨_, rfl⟩
    have hWl : WL.length = t.works.length := by rw [hWL]; simp
    obtain ⟨aI, haI⟩ : ∃ aI, IsI aI a := ⟨_, ⟨rfl⟩⟩
    have hRLx : RL[k]? = some (.agg [I x.t, I x.k, I x.b, I x.bl, I x.bh, I x.el, I x.eh]) := by rw [hRL]; simp [hRx, slotD]
    have hO1x : OL1[k]? = some (.agg [I x.t, I x.k, I x.b, I x.bl, I x.el]) := by rw [hO1]; simp [hRx, sttD, sttOf, pk]
    have hO2x : OL2[k]? = some (.agg [I x.t, I x.k, I x.b, I x.bh, I x.eh]) := by rw [hO2]; simp [hRx, sttD, sttOf, pk]
    have hPLx : PL[k]? = some (I aI) := by rw [hP, haI.eq]; simp [hpk, planL]
    have hTLx : TL[a]? = some (.agg [I t.ready, I t.due, .sl 3 WL]) := by rw [hT]; simp [hta, hWL, taskD]
    have hO1l : OL1.length = p.length := by rw [hO1]; simp [hRn]
    have hO2l : OL2.length = p.length := by rw [hO2]; simp [hRn]
    have i1 := yinbL hA hRl u1 hk
    have i2 := yinbL hA hO1l u1 hk
    have i3 := yinbL hA hO2l u1 hk
    have i4 := yinbL hA hPl u1 hk
    have i5 := yinbL hA hTl haI hal
    have i6 := yinbL hA hEl haI hal
    have g1' := yget hA u1 hRLx
    have g2' := yget hA u1 hO1x
    have g3' := yget hA u1 hO2x
    have g4' := yget hA u1 hPLx
    have g5' := yget hA haI hTLx
    obtain ⟨e1, e2, hEa⟩ : ∃ e1 e2, EL[a]? = some (.agg [I e1, I e2]) := by
      have h1 : a < (endsS s p).length := by rw [endsS_len]; exact hal
      refine ⟨((endsS s p)[a]).1, ((endsS s p)[a]).2, ?_⟩
      rw [hEL]; simp [List.getElem?_eq_getElem h1, rngD]
    have hEx : x.k = (t.works.length : Int) - 1 → e1 = x.el ∧ e2 = x.eh := fun h => by
      have := ends_at hv hp.le hpk (by rw [← hR]; exact hRx) (by rw [← ht]; exact h)
      rw [hEL] at hEa
      simp [this, rngD, I] at hEa
      omega
    have g6' := yget hA haI hEa
    have hf1 := yfit1 hA u1 (by omega)
    have hu1 := ysucc hA u1
    have hms : p.length - (k + 1) < p.length - k := by omega
    have hl1 : A.bnot (A.leq [x.bl, x.bh] [x.bl, x.bh]) = false := by subst hA; simp [ar]
    have hl2 : A.bnot (A.leq [x.el, x.eh] [x.el, x.eh]) = false := by subst hA; simp [ar]
    have hl3 : e1 = x.el ∧ e2 = x.eh → A.bnot (A.leq [e1, e2] [x.el, x.eh]) = false := fun h => by rw [h.1, h.2]; exact hl2
    have hlst : lastS (R.take (k + 1)) = (A.max ma x.el, A.max mb x.eh) := by
      rw [List.take_add_one, hRx, Option.toList_some, lastS_snoc, u3, xmax hA, xmax hA]
    have hws : A.sub (A.oi (A.len WL)) 1 = (t.works.length : Int) - 1 := by rw [xsub hA, yoiL hA hWl]
    have hwf : A.fits .i64 (A.sub (A.oi (A.len WL)) 1) := xfitE hA hws (by
      have h1 := leftS_at hta
      have h2 := getD_le_sum (leftS s) a
      have h3 := hv.sum
      rw [leftS_sum] at h2
      omega)
    have hnk : A.cmp .lss i (A.oi (A.len RL)) = false → p.length ≤ k := fun h => ynltL hA hRl u1 h
    refine wp_go tokT hA hS ?_
    cbv
    refine bm (fun _ => ?_) (fun c => absurd (hnk c) (by omega))
    cbv
    refine draw_goE tokT hA hS [16] [0, 1, 2, 3, 4, 5, 6, 7, 8, 9, 10, 11, 12, 13, 14, 15, 16, 17, 18, 19, 20, 21, 22, 23, 24, 25, 26, 27, 28, 29, 30, 31, 32, 33, 34, 35] rfl rfl fun Dk1 hD1 => ?_
    cbv
    refine ⟨i1, ⟨_, g1', ?_⟩⟩
    cbv
    refine ⟨i2, ⟨_, g2', ?_⟩⟩
    cbv
    refine ⟨i3, ⟨_, g3', ?_⟩⟩
    cbv
    refine draw_call hA hD1 [I x.bl, I x.bh] [] [] rfl rfl rfl rfl rfl rfl rfl rfl rfl rfl rfl (by decide) trivial (toF x.bl x.bh _ ⟨by cbv; exact ⟨⟨_, g1', rfl⟩, trivial⟩, draw_onE tokT hA hD1 [16] ?_⟩)
    cbv
    refine draw_val tokT hA hD1 [] (.v (.bool false)) rfl rfl rfl rfl rfl rfl ⟨[x.bl, x.bh], [x.bl, x.bh], rfl, rfl, rfl, rfl, congrArg (fun b => D.v (.bool b)) hl1⟩ ?_
    cbv
    refine ⟨i1, ⟨_, g1', ?_⟩⟩
    cbv
    refine ⟨i2, ⟨_, g2', ?_⟩⟩
    cbv
    refine ⟨i3, ⟨_, g3', ?_⟩⟩
    cbv
    refine draw_callG hA hD1 (b := false) rfl rfl rfl rfl rfl rfl rfl rfl rfl rfl rfl (fun _ => ⟨[], _, [I x.el, I x.eh], [], [], rfl, rfl, rfl, by decide, trivial, toF x.el x.eh _ ⟨by cbv; exact ⟨⟨_, g1', rfl⟩, ⟨_, g1', rfl⟩, trivial⟩, draw_onE tokT hA hD1 [34] ?_⟩⟩) (fun h => absurd rfl h)
    cbv
    refine draw_valG tokT hA hD1 [] (.v (.bool false)) rfl rfl rfl rfl rfl rfl rfl rfl rfl ⟨[x.el, x.eh], [x.el, x.eh], rfl, rfl, rfl, rfl, congrArg (fun b => D.v (.bool b)) hl2⟩ ?_
    cbv
    refine draw_go tokT hA hS [0, 1, 2, 3, 4, 5, 6, 7, 8, 9, 10, 11, 12, 13, 14, 15, 16, 17] rfl rfl fun Dk2 hD2 => ?_
    cbv
    refine ⟨i2, ⟨_, g2', ?_⟩⟩
    cbv
    refine ⟨i3, ⟨_, g3', ?_⟩⟩
    cbv
    refine draw_call hA hD2 [I (A.max ma x.el), I (A.max mb x.eh)] [] [] rfl rfl rfl rfl rfl rfl rfl rfl rfl rfl rfl (by decide) trivial (toF _ _ _ ⟨by cbv; exact ⟨⟨_, g3', rfl⟩, ⟨_, g2', rfl⟩, trivial⟩, draw_on tokT hA hD2 ?_⟩)
    cbv
    by_cases hck : x.k = (t.works.length : Int) - 1
    · have hb0 : A.cmp .eql x.k (A.sub (A.oi (A.len WL)) 1) = true := xeqT hA (hck.trans hws.symm)
      have hl3' := hl3 (hEx hck)
      refine draw_goE tokT hA hS [16] [0, 1, 2, 3, 4, 5, 6, 7, 8, 9, 10, 11, 12, 13, 14, 15, 16, 17, 18, 19, 20, 21, 22, 23, 24, 25, 26, 27, 28, 29, 30, 31] rfl rfl fun Dk3 hD3 => ?_
      cbv
      refine ⟨i2, ⟨_, g2', ?_⟩⟩
      cbv
      refine ⟨i4, ⟨_, g4', ?_⟩⟩
      cbv
      refine ⟨i5, ⟨_, g5', ?_⟩⟩
      cbv
      refine ⟨hwf, ?_⟩
      refine draw_val tokT hA hD3 [30] (.v (.bool true)) rfl rfl rfl rfl rfl rfl (congrArg (fun b => D.v (.bool b)) hb0) ?_
      cbv
      refine ⟨i4, ⟨_, g4', ?_⟩⟩
      cbv
      refine ⟨i6, ⟨_, g6', ?_⟩⟩
      cbv
      refine ⟨i1, ⟨_, g1', ?_⟩⟩
      cbv
      refine draw_valG tokT hA hD3 [] (.v (.bool false)) rfl rfl rfl rfl rfl rfl rfl rfl rfl ⟨[e1, e2], [x.el, x.eh], rfl, rfl, rfl, rfl, congrArg (fun b => D.v (.bool b)) hl3'⟩ ?_
      cbv
      refine ⟨hf1, ?_⟩
      refine gs_loop (A.add i 1, k + 1, A.max ma x.el, A.max mb x.eh) [0, 1, 2, 3] ⟨hu1, hk, hlst⟩ hms ?_
      exact ⟨by decide, pre0, ⟨rfl, rfl, rfl, rfl, trivial⟩, ⟨rfl, rfl, rfl, rfl, rfl, rfl, rfl, rfl, rfl, trivial⟩, rfl, rfl⟩
    · have hb0 : A.cmp .eql x.k (A.sub (A.oi (A.len WL)) 1) = false := by rw [xeqb hA, hws]; exact decide_eq_false hck
      refine draw_goE tokT hA hS [16] [0, 1, 2, 3, 4, 5, 6, 7, 8, 9, 10, 11, 12, 13, 14, 15, 16, 17, 18, 19, 20, 21, 22, 23, 24, 25, 26, 27, 28, 29, 30, 31] rfl rfl fun Dk3 hD3 => ?_
      cbv
      refine ⟨i2, ⟨_, g2', ?_⟩⟩
      cbv
      refine ⟨i4, ⟨_, g4', ?_⟩⟩
      cbv
      refine ⟨i5, ⟨_, g5', ?_⟩⟩
      cbv
      refine ⟨hwf, ?_⟩
      refine draw_val tokT hA hD3 [] (.v (.bool false)) rfl rfl rfl rfl rfl rfl (congrArg (fun b => D.v (.bool b)) hb0) ?_
      cbv
      refine ⟨hf1, ?_⟩
      refine gs_loop (A.add i 1, k + 1, A.max ma x.el, A.max mb x.eh) [0, 1, 2, 3] ⟨hu1, hk, hlst⟩ hms ?_
      exact ⟨by decide, pre0, ⟨rfl, rfl, rfl, rfl, trivial⟩, ⟨rfl, rfl, rfl, rfl, rfl, rfl, rfl, rfl, rfl, trivial⟩, rfl, rfl⟩
  · have hk2 : k = p.length := by omega
    have hend : lo = ma ∧ hi = mb := by
      rw [hk2, List.take_of_length_le (by omega), hlh] at u3
      cases u3; exact ⟨rfl, rfl⟩
    have hle : A.leq [lo, hi] [ma, mb] = true := by rw [hend.1, hend.2]; subst hA; simp [ar]
    have hmk : A.cmp .lss i (A.oi (A.len RL)) = true → k < p.length := fun h => yltL hA hRl u1 h
    refine wp_go tokT hA hS ?_
    cbv
    refine bm (fun c => absurd (hmk c) hk) (fun _ => ?_)
    cbv
    refine gs_done ?_
    cbv
    refine region_part tokT hA hS [0, 1, 2] [3, 4, 5, 6] rfl ?_
    cbv
    refine ⟨[lo, hi], [ma, mb], rfl, rfl, rfl, rfl, ?_⟩
    cbv
    refine part_is tokT hA hS 172 (.v (.bool true)) rfl (congrArg (fun b => D.v (.bool b)) hle) [3] [4, 5, 6] ?_
    cbv
    refine ops_callG hS (b := true) rfl rfl rfl rfl rfl rfl rfl rfl (fun _ => ⟨[], _, [], [], [], rfl, rfl, rfl, by decide, trivial, filing _ ?_⟩) (fun h => absurd rfl h)
    refine ops_go tokT hA hS ?_
    cbv
    exact gh_view [] (by decide) pre0 (H' := []) (d' := .v (.bool true)) trivial rfl (gh_done hq)
end Go.Proofs.YtmloogdalecilaaDoor
