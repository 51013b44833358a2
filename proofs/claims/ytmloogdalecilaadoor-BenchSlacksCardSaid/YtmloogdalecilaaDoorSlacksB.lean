/- Part SlacksB of the proofs about the benches of the accordion maker: see the last text of the claim for what is proved. -/
import Derived.Test.YtmloogdalecilaaDoorSlacksA
import Derived.Test.YtmloogdalecilaaDoorSlackA
import Derived.Test.YtmloogdalecilaaDoorBestD
import Derived.Test.YtmloogdalecilaaDoorAsB
set_option linter.unusedVariables false
set_option linter.unusedSimpArgs false
set_option linter.unnecessarySimpa false
set_option linter.constructorNameAsVariable false

/-! H1 -/
namespace Go.Proofs.YtmloogdalecilaaDoor
open Go Go.Abs Go.Proofs

set_option maxRecDepth 20000 in
set_option maxHeartbeats 8000000 in
/-- slack, the documents' own. -/
theorem rSlackIn (s : Sh) (hv : Val s) (p : List Nat) (hp : PlanOk s p) (TL PL : List D) (hT : TL = s.tasks.map taskD) (hP : PL = planL p) (Q) (hq : ∀ L, L = (slackL s p).map (fun n : Nat => I (n : Int)) → Q (RA.ret (.sl 1 L)) []) :
    CallA Tryd.prog 87 [.agg [I s.benches, .sl 3 TL], .sl 1 PL] [] Q := by
  obtain ⟨A, hA⟩ : ∃ A, A = ar := ⟨_, rfl⟩
  have hpl : p.length ≤ 8 := by rw [hp.len]; exact hv.sum
  have hPl : PL.length = p.length := by rw [hP]; simp [planL]
  obtain ⟨R, hR⟩ : ∃ R, R = runS s (fun _ => 0) p := ⟨_, rfl⟩
  have hRn : R.length = p.length := by rw [hR, runS_length]
  refine callA_start tokT hA Tryd.func87 rfl rfl rfl rfl rfl fun S hS => ?_
  cbv
  refine draw_go tokT hA hS [0, 1, 3, 4, 2, 5, 6, 7, 8] rfl rfl fun Dk hD => ?_
  cbv
  refine draw_call hA hD [.agg [I s.benches, .sl 3 TL], .sl 1 PL] [] [] rfl rfl rfl rfl rfl rfl rfl rfl rfl rfl rfl (by decide) trivial (rRun s hv p hp.le (by omega) TL PL hT hP _ fun RL hRL => ⟨by cbv, draw_on tokT hA hD ?_⟩)
  rw [← hR] at hRL
  have hRl : RL.length = p.length := by rw [hRL]; simp [hRn]
  cbv
  refine draw_call hA hD [.agg [I s.benches, .sl 3 TL], .sl 1 PL] [] [] rfl rfl rfl rfl rfl rfl rfl rfl rfl rfl rfl (by decide) trivial (rLast s hv p hp.le (by omega) TL PL hT hP _ fun lo e hlh => ⟨by cbv, draw_on tokT hA hD ?_⟩)
  have he : e = (lastS (runS s (fun _ => 0) p)).2 := by rw [hlh]
  have he2 : e ≤ 360 := by rw [he]; exact last_bound (M := 0) hv hp.le hpl (by decide) (fun _ => ⟨by decide, by decide⟩)
  cbv
  refine at_code hS ?_
  refine wpa_loopG (α := Int × Nat × List D) (fun q => { env := [(1, .sl 1 PL), (2, .b 0 0), (5, .o 1 1 q.2.1), (6, .sl 7 RL), (7, I e), (8, I q.1)], H := [.box (.agg [I s.benches, .sl 3 TL]), .els 1 q.2.2], nt := 49, dfs := [] })
    (fun q => p.length - q.2.1) (fun q => q.2.1 ≤ p.length ∧ IsI q.1 q.2.1 ∧ q.2.2 = ((slackL s p).take q.2.1).map (fun n : Nat => I (n : Int))) (0, 0, []) ⟨Nat.zero_le _, ⟨rfl⟩, rfl⟩ ?_ ?_
  · refine gs_virt 5 1 rfl ?_
    exact gs_to [0, 1] ⟨by decide, pre0, ⟨rfl, rfl, trivial⟩, ⟨rfl, rfl, rfl, rfl, rfl, rfl, trivial⟩, rfl, rfl⟩
  rintro ⟨i, k, L⟩ ⟨u1, u2, u3⟩
  dsimp only at u1 u2 u3
  refine wp_goF tokT hA hS [] ?_
  cbv
  refine bm (fun c => ?_) (fun c => ?_)
  · have hk : k < p.length := yltL hA hRl u2 c
    obtain ⟨t, hpk⟩ : ∃ t, p[k]? = some t := ⟨_, List.getElem?_eq_getElem hk⟩
    obtain ⟨z, hz, hr⟩ := run_facts hv hp.le hpk
    obtain ⟨cn, hcn⟩ : ∃ cn, cn = (p.take k).count t := ⟨_, rfl⟩
    have hth := hr.hi
    have hkl := hr.kl
    rw [← hcn] at hkl
    have hzt : IsI z.t t := ⟨hr.t⟩
    have hzk : IsI z.k cn := ⟨by rw [hr.k, hcn]⟩
    have hRk : RL[k]? = some (.agg [I z.t, I z.k, I z.b, I z.bl, I z.bh, I z.el, I z.eh]) := by rw [hRL, hR]; simp [hz, slotD]
    have iR := yinbL hA hRl u2 hk
    have gR := yget hA u2 hRk
    have hf := yfit1 hA u2 (by omega)
    have hu2 := ysucc hA u2
    have hmsO : p.length - (k + 1) < p.length - k := by omega
    cbv
    refine at_code hS ?_
    refine wpa_loopG (α := Int × Nat) (fun q => { env := [(1, .sl 1 PL), (2, .b 0 0), (5, .o 1 1 k), (6, .sl 7 RL), (7, I e), (8, I i), (9, I q.1)], H := [.box (.agg [I s.benches, .sl 3 TL]), .els 1 L], nt := 49, dfs := [] })
      (fun q => 361 - q.2) (fun q => q.2 ≤ 360 ∧ IsI q.1 q.2 ∧ slkN s p e k 400 0 = slkN s p e k (400 - q.2) q.2) (0, 0) ⟨Nat.zero_le _, ⟨rfl⟩, rfl⟩ ?_ ?_
    · exact gs_to [0, 1] ⟨by decide, pre0, ⟨rfl, rfl, trivial⟩, ⟨rfl, rfl, rfl, rfl, rfl, rfl, rfl, trivial⟩, rfl, rfl⟩
    rintro ⟨x, n⟩ ⟨v1, v2, v3⟩
    dsimp only at v1 v2 v3
    have hsx := ysucc hA v2
    obtain ⟨y, hy⟩ : ∃ y, y = A.add x 1 := ⟨_, rfl⟩
    rw [← hy] at hsx
    have hyb : 0 ≤ y ∧ y ≤ 361 := by have := hsx.eq; omega
    have hn1 : y ≤ 360 → n + 1 ≤ 360 := fun h => by have := hsx.eq; omega
    have hstep : lastM s p k y ≤ e → slkN s p e k 400 0 = slkN s p e k (400 - (n + 1)) (n + 1) := fun h => by
      have e3 : 400 - n = (400 - (n + 1)) + 1 := by omega
      rw [hsx.eq] at h
      rw [v3, e3, slkN, if_pos h]
    have hfin : e < lastM s p k y → slkN s p e k 400 0 = n := fun h => by
      have e3 : 400 - n = (400 - n - 1) + 1 := by omega
      rw [hsx.eq] at h
      rw [v3, e3, slkN, if_neg (by omega)]
    have hge0 := lastM_ge hv hp.le hpl hk (x := y) hyb.1
    have hms : 361 - (n + 1) < 361 - n := by omega
    have hfx := yfit1 hA v2 (by omega)
    have hVL := Big.of_long hv hth hkl hyb.1 (by omega)
    have hpL : PlanLe (longS s t cn y) p := (longS_plan hp hth).le
    have hlM := longS_last hv hp.le hpk hcn hyb.1
    obtain ⟨LS, hLS⟩ : ∃ LS, LS = longS s t cn y := ⟨_, rfl⟩
    have hLb : LS.benches = s.benches := by rw [hLS]; rfl
    rw [← hLS] at hVL hpL hlM
    have hK : ∀ Q : RA → List Blk → Prop, (∀ TL2, TL2 = LS.tasks.map taskD → Q (RA.ret (.agg [I s.benches, .sl 3 TL2])) []) → CallA Tryd.prog 59 [.agg [I s.benches, .sl 3 TL], I z.t, I z.k, I (A.add x 1)] [] Q := fun Q hq => by
      rw [← hy]
      exact kLonger s hv t cn y hth hkl (by omega) z.t z.k hzt hzk TL hT Q (by rw [← hLS]; exact hq)
    have hB : ∀ (TL2 : List D) (Q : RA → List Blk → Prop), TL2 = LS.tasks.map taskD → (∀ lo2 e2, lastM s p k y = e2 → Q (RA.ret (.agg [I lo2, I e2])) []) → CallA Tryd.prog 97 [.agg [I s.benches, .sl 3 TL2], .sl 1 PL] [] Q := fun TL2 Q hT2 hq => by
      rw [← hLb]
      exact Big.rLast LS hVL p hpL (by omega) TL2 PL hT2 hP Q (fun lo2 e2 h => hq lo2 e2 (by rw [← hlM, h]))
    clear hVL hpL hlM
    refine wp_goF tokT hA hS [] ?_
    cbv
    refine draw_go tokT hA hS [0, 1, 2, 3, 4, 5, 6, 7, 8, 9, 10, 11, 12, 14, 17, 13, 15, 16, 18] rfl rfl fun Dk hD => ?_
    cbv
    refine ⟨iR, ⟨_, gR, ?_⟩⟩
    cbv
    refine ⟨iR, ⟨_, gR, ?_⟩⟩
    cbv
    refine ⟨hfx, ?_⟩
    refine draw_call hA hD [.agg [I s.benches, .sl 3 TL], I z.t, I z.k, I (A.add x 1)] [] [] rfl rfl rfl rfl rfl rfl rfl rfl rfl rfl rfl (by decide) trivial (hK _ fun TL2 hT2 => ⟨by cbv; repeat' (first | exact trivial | exact Need.mk ⟨_, gR, rfl⟩ | refine ⟨?_, ?_⟩), draw_on tokT hA hD ?_⟩)
    cbv
    refine draw_call hA hD [.agg [I s.benches, .sl 3 TL2], .sl 1 PL] [] [] rfl rfl rfl rfl rfl rfl rfl rfl rfl rfl rfl (by decide) trivial (hB TL2 _ hT2 fun lo2 e2 he3 => ⟨by cbv; repeat' (first | exact trivial | exact Need.mk ⟨_, gR, rfl⟩ | refine ⟨?_, ?_⟩), draw_on tokT hA hD ?_⟩)
    cbv
    refine bm (fun c2 => ?_) (fun c2 => ?_)
    · have d2 := xle hA c2
      rw [← he3] at d2
      cbv
      refine ⟨hfx, ?_⟩
      refine gs_loop (A.add x 1, n + 1) [0, 1] ⟨hn1 (Int.le_trans hge0 (Int.le_trans d2 he2)), ysucc hA v2, hstep d2⟩ hms ?_
      exact ⟨by decide, pre0, ⟨rfl, rfl, trivial⟩, ⟨rfl, rfl, rfl, rfl, rfl, rfl, rfl, trivial⟩, rfl, rfl⟩
    · have d2 := xnle hA c2
      rw [← he3] at d2
      have hL2 : A.app L [I x] = ((slackL s p).take (k + 1)).map (fun n : Nat => I (n : Int)) := by
        have e4 : (slackL s p)[k]? = some n := by
          rw [slackL, List.getElem?_map, List.getElem?_range hk]; simp only [Option.map_some, Option.some.injEq]; rw [← he]; exact hfin d2
        rw [List.take_add_one, e4, xapp hA, u3, v2.eq]; simp
      have hLl : L.length = k := by rw [u3]; simp [slackL]; omega
      have hrm := yroom1 hA (k := k) (b := 8) (by omega) (by decide)
      cbv
      refine gs_done ?_
      cbv
      refine ⟨yeqLen hA hLl, yeqLen hA rfl, hrm, hf, ?_⟩
      refine gs_loop (A.add i 1, k + 1, A.app L [I x]) [0, 3] ⟨hk, hu2, hL2⟩ hmsO ?_
      exact ⟨by decide, pre0, ⟨rfl, rfl, trivial⟩, ⟨rfl, rfl, by subst hA; rfl, rfl, rfl, rfl, trivial⟩, rfl, rfl⟩
  · have hk : k = p.length := by have := ynltL hA hRl u2 c; omega
    have hLs : L = (slackL s p).map (fun n : Nat => I (n : Int)) := by rw [u3, List.take_of_length_le (by simp [slackL]; omega)]
    have hLl : L.length = k := by rw [u3]; simp [slackL]; omega
    cbv
    refine gs_done ?_
    cbv
    refine gh_frz [1] ?_
    cbv
    exact ⟨by cases L <;> exact hLl.symm, gh_view [] (by decide) pre0 (H' := []) (d' := .sl 1 L) trivial rfl (gh_done (hq L hLs))⟩
end Go.Proofs.YtmloogdalecilaaDoor

/-! H2 -/
namespace Go.Proofs.YtmloogdalecilaaDoor
open Go Go.Abs Go.Proofs

/-- A plan without fault is whole. -/
theorem planW_of {s : Sh} {pl : List Int} (hs : Fin s) (h : chkSP s pl = 0) : ShopOk s ∧ ∃ p, PlanOk s p ∧ pl = p.map (fun i : Nat => (i : Int)) := by
  have h0 : chkS s = 0 := by
    by_cases h0 : chkS s = 0
    · exact h0
    · rw [chkSP, if_pos h0] at h; exact absurd h h0
  rw [chkSP, if_neg (fun h' => h' h0)] at h
  have key : ∀ k, k ≤ pl.length → ∃ p, ScOk s pl p k := by
    intro k
    induction k with
    | zero => exact fun _ => ⟨[], scOk_zero s pl⟩
    | succ k ih =>
      intro hk
      obtain ⟨p, hp⟩ := ih (by omega)
      have hx : pl[k]? = some pl[k] := List.getElem?_eq_getElem (by omega)
      by_cases c1 : 0 ≤ pl[k] ∧ pl[k] ≤ (s.tasks.length : Int) - 1
      · by_cases c2 : (s.tasks.getD pl[k].toNat default).works.length < p.count pl[k].toNat + 1
        · have := scOk_err2 hp hx c1 c2; omega
        · exact ⟨_, scOk_next hp hx c1 c2⟩
      · have := scOk_err1 hp hx c1; omega
  obtain ⟨p, hp⟩ := key pl.length (Nat.le_refl _)
  obtain ⟨h1, h2⟩ := scOk_end hp
  refine ⟨shop_ok hs h0, p, (whole_of hp.le).2 ?_, h2⟩
  rw [h] at h1
  rcases Nat.lt_or_ge p.length (nWorks s.tasks) with h3 | h3
  · rw [if_pos h3] at h1; omega
  · exact h3

theorem toNat_map (p : List Nat) : (p.map (fun i : Nat => (i : Int))).map Int.toNat = p := by
  rw [List.map_map]
  exact (List.map_congr_left fun a _ => Int.toNat_natCast a).trans (List.map_id p)

/-- What Slack, and Critical, say of any shop and plan. -/
def slackN (s : Sh) (pl : List Int) : List Int × Int := if chkSP s pl = 0 then ((slackL s (pl.map Int.toNat)).map (fun n : Nat => (n : Int)), 0) else ([], chkSP s pl)
def critN (s : Sh) (pl : List Int) : List Int × Int := if chkSP s pl = 0 then ((critL s (pl.map Int.toNat) (pl.map Int.toNat).length).map (fun n : Nat => (n : Int)), 0) else ([], chkSP s pl)

theorem slackN_len {s : Sh} {pl : List Int} (hl : pl.length ≤ 1000000) : (slackN s pl).1.length ≤ 1000000 ∧ (critN s pl).1.length ≤ 1000000 := by
  constructor
  · unfold slackN
    split
    · simp [slackL]; exact hl
    · simp
  · unfold critN
    split
    · rw [List.length_map, critL]
      exact Nat.le_trans (List.length_filter_le _ _) (by simp; exact hl)
    · simp

set_option maxRecDepth 20000 in
set_option maxHeartbeats 2000000 in
theorem bSlackErr (s : Sh) (hs : Fin s) (pl : List Int) (hpl : pl.length ≤ 1000000) (TL PL : List D) (hT : TL = s.tasks.map taskD) (hP : PL = pl.map I) (e : Int) (he : e = chkSP s pl) (hne : e ≠ 0) (Q) (hq : Q (RA.ret (.tup [.v (.slice none 0 0), I e])) []) :
    CallA Tryd.prog 38 [.agg [I s.benches, .sl 3 TL], .sl 1 PL] [] Q := by
  obtain ⟨A, hA⟩ : ∃ A, A = ar := ⟨_, rfl⟩
  refine callA_start tokT hA Tryd.func38 rfl rfl rfl rfl rfl fun S hS => ?_
  cbv
  refine ops_call hS [.agg [I s.benches, .sl 3 TL], .sl 1 PL] [] [] rfl rfl rfl rfl rfl rfl rfl rfl (by decide) trivial (bCheckPlanAny s hs pl hpl TL PL hT hP e he _ ?_)
  refine ops_go tokT hA hS ?_
  cbv
  refine bm (fun c => ?_) (fun c => ?_)
  · cbv
    exact gh_view [] (by decide) pre0 (H' := []) (d' := .tup [.v (.slice none 0 0), I e]) trivial rfl (gh_done hq)
  · exact absurd (xnne hA c) hne

set_option maxRecDepth 20000 in
set_option maxHeartbeats 2000000 in
theorem rSlackErr (s : Sh) (hs : Fin s) (pl : List Int) (hpl : pl.length ≤ 1000000) (TL PL : List D) (hT : TL = s.tasks.map taskD) (hP : PL = pl.map I) (e : Int) (he : e = chkSP s pl) (hne : e ≠ 0) (Q) (hq : Q (RA.ret (.tup [.v (.slice none 0 0), I e])) []) :
    CallA Tryd.prog 39 [.agg [I s.benches, .sl 3 TL], .sl 1 PL] [] Q := by
  obtain ⟨A, hA⟩ : ∃ A, A = ar := ⟨_, rfl⟩
  refine callA_start tokT hA Tryd.func39 rfl rfl rfl rfl rfl fun S hS => ?_
  cbv
  refine ops_call hS [.agg [I s.benches, .sl 3 TL], .sl 1 PL] [] [] rfl rfl rfl rfl rfl rfl rfl rfl (by decide) trivial (rCheckPlanAny s hs pl hpl TL PL hT hP e he _ ?_)
  refine ops_go tokT hA hS ?_
  cbv
  refine bm (fun c => ?_) (fun c => ?_)
  · cbv
    exact gh_view [] (by decide) pre0 (H' := []) (d' := .tup [.v (.slice none 0 0), I e]) trivial rfl (gh_done hq)
  · exact absurd (xnne hA c) hne

set_option maxRecDepth 20000 in
set_option maxHeartbeats 2000000 in
theorem bCritErr (s : Sh) (hs : Fin s) (pl : List Int) (hpl : pl.length ≤ 1000000) (TL PL : List D) (hT : TL = s.tasks.map taskD) (hP : PL = pl.map I) (e : Int) (he : e = chkSP s pl) (hne : e ≠ 0) (Q) (hq : Q (RA.ret (.tup [.v (.slice none 0 0), I e])) []) :
    CallA Tryd.prog 40 [.agg [I s.benches, .sl 3 TL], .sl 1 PL] [] Q := by
  obtain ⟨A, hA⟩ : ∃ A, A = ar := ⟨_, rfl⟩
  refine callA_start tokT hA Tryd.func40 rfl rfl rfl rfl rfl fun S hS => ?_
  cbv
  refine ops_call hS [.agg [I s.benches, .sl 3 TL], .sl 1 PL] [] [] rfl rfl rfl rfl rfl rfl rfl rfl (by decide) trivial (bCheckPlanAny s hs pl hpl TL PL hT hP e he _ ?_)
  refine ops_go tokT hA hS ?_
  cbv
  refine bm (fun c => ?_) (fun c => ?_)
  · cbv
    exact gh_view [] (by decide) pre0 (H' := []) (d' := .tup [.v (.slice none 0 0), I e]) trivial rfl (gh_done hq)
  · exact absurd (xnne hA c) hne

set_option maxRecDepth 20000 in
set_option maxHeartbeats 2000000 in
theorem rCritErr (s : Sh) (hs : Fin s) (pl : List Int) (hpl : pl.length ≤ 1000000) (TL PL : List D) (hT : TL = s.tasks.map taskD) (hP : PL = pl.map I) (e : Int) (he : e = chkSP s pl) (hne : e ≠ 0) (Q) (hq : Q (RA.ret (.tup [.v (.slice none 0 0), I e])) []) :
    CallA Tryd.prog 41 [.agg [I s.benches, .sl 3 TL], .sl 1 PL] [] Q := by
  obtain ⟨A, hA⟩ : ∃ A, A = ar := ⟨_, rfl⟩
  refine callA_start tokT hA Tryd.func41 rfl rfl rfl rfl rfl fun S hS => ?_
  cbv
  refine ops_call hS [.agg [I s.benches, .sl 3 TL], .sl 1 PL] [] [] rfl rfl rfl rfl rfl rfl rfl rfl (by decide) trivial (rCheckPlanAny s hs pl hpl TL PL hT hP e he _ ?_)
  refine ops_go tokT hA hS ?_
  cbv
  refine bm (fun c => ?_) (fun c => ?_)
  · cbv
    exact gh_view [] (by decide) pre0 (H' := []) (d' := .tup [.v (.slice none 0 0), I e]) trivial rfl (gh_done hq)
  · exact absurd (xnne hA c) hne

set_option maxRecDepth 20000 in
set_option maxHeartbeats 2000000 in
/-- Slack of a whole plan, the documents' own. -/
theorem rSlackPlan (s : Sh) (hs : ShopOk s) (p : List Nat) (hp : PlanOk s p) (pl : List Int) (hpe : pl = p.map (fun i : Nat => (i : Int))) (h0 : chkSP s pl = 0) (TL PL : List D) (hT : TL = s.tasks.map taskD) (hP : PL = planL p) (Q) (hq : ∀ L, L = (slackL s p).map (fun n : Nat => I (n : Int)) → Q (RA.ret (.tup [.sl 1 L, I 0])) []) :
    CallA Tryd.prog 39 [.agg [I s.benches, .sl 3 TL], .sl 1 PL] [] Q := by
  obtain ⟨A, hA⟩ : ∃ A, A = ar := ⟨_, rfl⟩
  have hv := chkS_val hs.chk
  have hpl : pl.length ≤ 1000000 := by rw [hpe, List.length_map, hp.len]; have := hv.sum; omega
  have hP2 : PL = pl.map I := by rw [hP, hpe, List.map_map]; rfl
  refine callA_start tokT hA Tryd.func39 rfl rfl rfl rfl rfl fun S hS => ?_
  cbv
  refine ops_call hS [.agg [I s.benches, .sl 3 TL], .sl 1 PL] [] [] rfl rfl rfl rfl rfl rfl rfl rfl (by decide) trivial (rCheckPlanAny s hs.fin pl hpl TL PL hT hP2 0 h0.symm _ ?_)
  refine ops_go tokT hA hS ?_
  cbv
  refine bm (fun c => absurd rfl (xne hA c)) (fun c => ?_)
  cbv
  refine ops_call hS [.agg [I s.benches, .sl 3 TL], .sl 1 PL] [] [] rfl rfl rfl rfl rfl rfl rfl rfl (by decide) trivial (rSlackIn s hv p hp TL PL hT hP _ fun SL hSL => ?_)
  refine ops_go tokT hA hS ?_
  cbv
  exact gh_view [] (by decide) pre0 (H' := []) (d' := .tup [.sl 1 SL, I 0]) trivial rfl (gh_done (hq SL hSL))

set_option maxRecDepth 20000 in
set_option maxHeartbeats 4000000 in
/-- Critical of a whole plan, the documents' own. -/
theorem rCritPlan (s : Sh) (hs : ShopOk s) (p : List Nat) (hp : PlanOk s p) (pl : List Int) (hpe : pl = p.map (fun i : Nat => (i : Int))) (h0 : chkSP s pl = 0) (TL PL : List D) (hT : TL = s.tasks.map taskD) (hP : PL = planL p) (Q) (hq : ∀ L, L = (critL s p p.length).map (fun n : Nat => I (n : Int)) → Q (RA.ret (.tup [.sl 1 L, I 0])) []) :
    CallA Tryd.prog 41 [.agg [I s.benches, .sl 3 TL], .sl 1 PL] [] Q := by
  obtain ⟨A, hA⟩ : ∃ A, A = ar := ⟨_, rfl⟩
  have hv := chkS_val hs.chk
  have hpl : pl.length ≤ 1000000 := by rw [hpe, List.length_map, hp.len]; have := hv.sum; omega
  have hpl8 : p.length ≤ 8 := by rw [hp.len]; exact hv.sum
  have hP2 : PL = pl.map I := by rw [hP, hpe, List.map_map]; rfl
  obtain ⟨e, he⟩ : ∃ e, e = (lastS (runS s (fun _ => 0) p)).2 := ⟨_, rfl⟩
  refine callA_start tokT hA Tryd.func41 rfl rfl rfl rfl rfl fun S hS => ?_
  cbv
  refine ops_call hS [.agg [I s.benches, .sl 3 TL], .sl 1 PL] [] [] rfl rfl rfl rfl rfl rfl rfl rfl (by decide) trivial (rCheckPlanAny s hs.fin pl hpl TL PL hT hP2 0 h0.symm _ ?_)
  refine ops_go tokT hA hS ?_
  cbv
  refine bm (fun c => absurd rfl (xne hA c)) (fun c => ?_)
  cbv
  refine ops_call hS [.agg [I s.benches, .sl 3 TL], .sl 1 PL] [] [] rfl rfl rfl rfl rfl rfl rfl rfl (by decide) trivial (rSlackIn s hv p hp TL PL hT hP _ fun SL hSL => ?_)
  have hSl : SL.length = p.length := by rw [hSL]; simp [slackL]
  refine ops_go tokT hA hS ?_
  cbv
  refine at_code hS ?_
  refine wpa_loopG (α := Int × Nat × List D × Nat) (fun q => { env := [(7, .o 0 1 q.2.2.2), (8, .sl 1 SL), (9, I q.1)], H := [.els 1 q.2.2.1], nt := 35, dfs := [] })
    (fun q => p.length - q.2.1) (fun q => q.2.1 ≤ p.length ∧ IsI q.1 q.2.1 ∧ q.2.2.1 = (critL s p q.2.1).map (fun n : Nat => I (n : Int)) ∧ q.2.2.1.length = q.2.2.2) (0, 0, [], 0) ⟨Nat.zero_le _, ⟨rfl⟩, rfl, rfl⟩ ?_ ?_
  · refine gs_virt 7 1 rfl ?_
    exact gs_to [1] ⟨by decide, pre0, ⟨rfl, trivial⟩, ⟨rfl, rfl, rfl, trivial⟩, rfl, rfl⟩
  rintro ⟨i, k, L, n⟩ ⟨u1, u2, u3, u4⟩
  dsimp only at u1 u2 u3 u4
  have hnk : n ≤ k := by rw [← u4, u3, List.length_map, critL]; exact Nat.le_trans (List.length_filter_le _ _) (by simp)
  refine wp_goF tokT hA hS [] ?_
  cbv
  refine bm (fun c => ?_) (fun c => ?_)
  · have hk : k < p.length := yltL hA hSl u2 c
    obtain ⟨z, hz⟩ : ∃ z, z = slkN s p e k 400 0 := ⟨_, rfl⟩
    obtain ⟨y, hy⟩ : ∃ y : Int, IsI y z := ⟨_, ⟨rfl⟩⟩
    have hSk : SL[k]? = some (I y) := by rw [hSL, hy.eq]; simp [slackL, List.getElem?_range hk, hz, he]
    have hin := yinbL hA hSl u2 hk
    have hg := yget hA u2 hSk
    have hf := yfit1 hA u2 (by omega)
    have hu2 := ysucc hA u2
    have hms : p.length - (k + 1) < p.length - k := by omega
    have hr := yroom1 hA (k := n) (b := 8) (by omega) (by decide)
    have hyes : y = 0 → A.app L [I i] = (critL s p (k + 1)).map (fun n : Nat => I (n : Int)) := fun h => by
      have h0 : z = 0 := by have := hy.eq; omega
      rw [critL_succ, ← he, ← hz, if_pos h0, xapp hA, u3, u2.eq]; simp
    have hno : y ≠ 0 → L = (critL s p (k + 1)).map (fun n : Nat => I (n : Int)) := fun h => by
      have h0 : z ≠ 0 := by have := hy.eq; omega
      rw [critL_succ, ← he, ← hz, if_neg h0, u3]; simp
    have hln : (A.app L [I i]).length = A.addN n 1 := by rw [xapp hA, xaddN hA]; simp [u4]
    cbv
    refine ⟨hin, ⟨_, hg, ?_⟩⟩
    cbv
    refine bm (fun c2 => ?_) (fun c2 => ?_)
    · have hL := hyes (xeq hA c2)
      cbv
      refine ⟨yeqLen hA u4, yeqLen hA rfl, hr, hf, ?_⟩
      refine gs_loop (A.add i 1, k + 1, A.app L [I i], A.addN n 1) [2] ⟨hk, hu2, hL, hln⟩ hms ?_
      exact ⟨by decide, pre0, ⟨rfl, trivial⟩, ⟨rfl, rfl, rfl, trivial⟩, rfl, rfl⟩
    · have hL := hno (xneq hA c2)
      cbv
      refine ⟨hf, ?_⟩
      refine gs_loop (A.add i 1, k + 1, L, n) [0] ⟨hk, hu2, hL, u4⟩ hms ?_
      exact ⟨by decide, pre0, ⟨rfl, trivial⟩, ⟨rfl, rfl, rfl, trivial⟩, rfl, rfl⟩
  · have hk : p.length ≤ k := ynltL hA hSl u2 c
    have hk2 : k = p.length := by omega
    have hLs : L = (critL s p p.length).map (fun n : Nat => I (n : Int)) := by rw [u3, hk2]
    cbv
    refine gs_done ?_
    cbv
    refine gh_frz [0] ?_
    cbv
    exact ⟨by cases L <;> exact u4.symm, gh_view [] (by decide) pre0 (H' := []) (d' := .tup [.sl 1 L, I 0]) trivial rfl (gh_done (hq L hLs))⟩

section
variable (s : Sh) (hs : Fin s) (pl : List Int) (hpl : pl.length ≤ 1000000) (TL PL : List D) (hT : TL = s.tasks.map taskD) (hP : PL = pl.map I)

/-- From the two ways of a function to what it says of any plan. -/
theorem any_plan (f : FuncId) (v : Sh → List Nat → List Nat) (he : ∀ e, e = chkSP s pl → e ≠ 0 → ∀ Q, Q (RA.ret (.tup [.v (.slice none 0 0), I e])) [] → CallA Tryd.prog f [.agg [I s.benches, .sl 3 TL], .sl 1 PL] [] Q)
    (hk : ShopOk s → ∀ p, PlanOk s p → pl = p.map (fun i : Nat => (i : Int)) → chkSP s pl = 0 → ∀ Q, (∀ L, L = (v s p).map (fun n : Nat => I (n : Int)) → Q (RA.ret (.tup [.sl 1 L, I 0])) []) → CallA Tryd.prog f [.agg [I s.benches, .sl 3 TL], .sl 1 PL] [] Q) (hs : Fin s)
    (Q) (hq : ∀ a e, (a, e) = (if chkSP s pl = 0 then ((v s (pl.map Int.toNat)).map (fun n : Nat => (n : Int)), 0) else ([], chkSP s pl) : List Int × Int) → ∀ L, L = a.map I → Q (RA.ret (.tup [.sl 1 L, I e])) []) : CallA Tryd.prog f [.agg [I s.benches, .sl 3 TL], .sl 1 PL] [] Q := by
  by_cases h : chkSP s pl = 0
  · obtain ⟨hok, p, hp, hpe⟩ := planW_of hs h
    refine hk hok p hp hpe h Q fun L hL => hq ((v s p).map (fun n : Nat => (n : Int))) 0 ?_ L (by rw [hL, List.map_map]; rfl)
    rw [if_pos h, hpe, toNat_map]
  · refine callA_gh (he _ rfl h (ghQ ([] : List Blk).length Q) ?_)
    have := hq [] (chkSP s pl) (by rw [if_neg h]) [] rfl
    exact gh_weak (d' := .tup [.sl 1 [], I (chkSP s pl)]) (.tup ⟨.nil, .rfl, trivial⟩) (gh_done this)

include hs hpl hT hP
theorem bSlackAll (Q) (hq : ∀ a e, (a, e) = slackN s pl → ∀ L, L = a.map I → Q (RA.ret (.tup [.sl 1 L, I e])) []) : CallA Tryd.prog 38 [.agg [I s.benches, .sl 3 TL], .sl 1 PL] [] Q :=
  any_plan s pl TL PL 38 slackL (bSlackErr s hs pl hpl TL PL hT hP) (fun hok p hp hpe _ => bSlackPlan s hok p hp TL PL hT (by rw [hP, hpe, List.map_map]; rfl)) hs Q hq
theorem rSlackAll (Q) (hq : ∀ a e, (a, e) = slackN s pl → ∀ L, L = a.map I → Q (RA.ret (.tup [.sl 1 L, I e])) []) : CallA Tryd.prog 39 [.agg [I s.benches, .sl 3 TL], .sl 1 PL] [] Q :=
  any_plan s pl TL PL 39 slackL (rSlackErr s hs pl hpl TL PL hT hP) (fun hok p hp hpe h => rSlackPlan s hok p hp pl hpe h TL PL hT (by rw [hP, hpe, List.map_map]; rfl)) hs Q hq
theorem bCritAll (Q) (hq : ∀ a e, (a, e) = critN s pl → ∀ L, L = a.map I → Q (RA.ret (.tup [.sl 1 L, I e])) []) : CallA Tryd.prog 40 [.agg [I s.benches, .sl 3 TL], .sl 1 PL] [] Q :=
  any_plan s pl TL PL 40 (fun s p => critL s p p.length) (bCritErr s hs pl hpl TL PL hT hP) (fun hok p hp hpe _ => bCritPlan s hok p hp TL PL hT (by rw [hP, hpe, List.map_map]; rfl)) hs Q hq
theorem rCritAll (Q) (hq : ∀ a e, (a, e) = critN s pl → ∀ L, L = a.map I → Q (RA.ret (.tup [.sl 1 L, I e])) []) : CallA Tryd.prog 41 [.agg [I s.benches, .sl 3 TL], .sl 1 PL] [] Q :=
  any_plan s pl TL PL 41 (fun s p => critL s p p.length) (rCritErr s hs pl hpl TL PL hT hP) (fun hok p hp hpe h => rCritPlan s hok p hp pl hpe h TL PL hT (by rw [hP, hpe, List.map_map]; rfl)) hs Q hq
end
end Go.Proofs.YtmloogdalecilaaDoor
