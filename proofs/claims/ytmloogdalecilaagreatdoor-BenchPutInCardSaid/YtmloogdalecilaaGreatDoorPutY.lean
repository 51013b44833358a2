/- Part PutY of the proofs about the benches of the accordion maker: see the last text of the claim for what is proved. -/
import Derived.Test.YtmloogdalecilaaGreatDoorPutA
import Derived.Test.YtmloogdalecilaaGreatDoorSlackA
import Derived.Test.YtmloogdalecilaaGreatDoorFirstA
import Derived.Test.YtmloogdalecilaaGreatDoorBestC
import Derived.Test.YtmloogdalecilaaGreatDoorAsB
import Derived.Test.YtmloogdalecilaaGreatDoorMachE
set_option linter.unusedVariables false
set_option linter.unusedSimpArgs false
set_option linter.unnecessarySimpa false
set_option linter.constructorNameAsVariable false

/-! Y3 -/
namespace Go.Proofs.YtmloogdalecilaaGreatDoor
open Go Go.Abs Go.Proofs

set_option maxRecDepth 20000 in
set_option maxHeartbeats 2000000 in
/-- same. -/
theorem rSame (a b : List Int) (LA LB : List D) (hLA : LA = a.map I) (hLB : LB = b.map I) (hl : a.length ≤ 1000000) (hlb : b.length ≤ 1000000) (r : Bool) (hr : r = decide (a = b)) (Q) (hq : Q (RA.ret (.v (.bool r))) []) :
    CallA Tryz.prog 65 [.sl 1 LA, .sl 1 LB] [] Q := by
  obtain ⟨A, hA⟩ : ∃ A, A = ar := ⟨_, rfl⟩
  have hAl : LA.length = a.length := by rw [hLA]; simp
  have hBl : LB.length = b.length := by rw [hLB]; simp
  refine callA_start tokT hA Tryz.func65 rfl rfl rfl rfl rfl fun S hS => ?_
  cbv
  refine bm (fun c => ?_) (fun c => ?_)
  · have h1 : A.oi (A.len LA) ≠ A.oi (A.len LB) := xne hA c
    rw [yoiL hA hAl, yoiL hA hBl] at h1
    have hr0 : r = false := by rw [hr]; exact decide_eq_false fun e => h1 (by rw [e])
    rw [hr0] at hq
    cbv
    exact gh_view [] (by decide) pre0 (H' := []) (d' := .v (.bool false)) trivial rfl (gh_done hq)
  have h1 : A.oi (A.len LA) = A.oi (A.len LB) := xnne hA c
  rw [yoiL hA hAl, yoiL hA hBl] at h1
  have hab : a.length = b.length := by omega
  obtain ⟨N, hN⟩ : ∃ N, N = a.length := ⟨_, rfl⟩
  rw [← hN] at hAl
  cbv
  refine at_code hS ?_
  refine wpa_loopG (α := Int × Nat) (fun q => { env := [(0, .sl 1 LA), (1, .sl 1 LB), (5, I q.1)], H := [], nt := 26, dfs := [] })
    (fun q => N - q.2) (fun q => IsI q.1 q.2 ∧ q.2 ≤ N ∧ a.take q.2 = b.take q.2) (0, 0) ⟨⟨rfl⟩, Nat.zero_le _, rfl⟩ ?_ ?_
  · exact gs_to [] ⟨by decide, pre0, trivial, ⟨rfl, rfl, rfl, trivial⟩, rfl, rfl⟩
  rintro ⟨i, k⟩ ⟨u1, u2, u3⟩
  dsimp only at u1 u2 u3
  refine wp_go tokT hA hS ?_
  cbv
  refine bm (fun c => ?_) (fun c => ?_)
  · have hk : k < N := yltL hA hAl u1 c
    obtain ⟨x, hx⟩ : ∃ x, a[k]? = some x := ⟨_, List.getElem?_eq_getElem (by omega)⟩
    obtain ⟨y, hy⟩ : ∃ y, b[k]? = some y := ⟨_, List.getElem?_eq_getElem (by omega)⟩
    have hLx : LA[k]? = some (I x) := by rw [hLA]; simp [hx]
    have hLy : LB[k]? = some (I y) := by rw [hLB]; simp [hy]
    have i1 := yinbL hA hAl u1 hk
    have g1 := yget hA u1 hLx
    have i2 := yinbL hA hBl u1 (show k < b.length by omega)
    have g2 := yget hA u1 hLy
    have hf := yfit1 hA u1 (by omega)
    have hu1 := ysucc hA u1
    have hms : N - (k + 1) < N - k := by omega
    have hn1 : A.cmp .neq x y = true → r = false := fun h => by rw [hr]; exact decide_eq_false (ne_of_at hx hy (xne hA h))
    have hn2 : A.cmp .neq x y = false → a.take (k + 1) = b.take (k + 1) := fun h => (take_step hx hy u3).2 (by have := xnne hA h; omega)
    cbv
    refine draw_go tokT hA hS [0, 1, 2, 3, 4, 5, 6, 7, 8] rfl rfl fun Dk hD => ?_
    cbv
    refine ⟨i1, ⟨_, g1, ?_⟩⟩
    cbv
    refine ⟨i2, ⟨_, g2, ?_⟩⟩
    cbv
    refine bm (fun c2 => ?_) (fun c2 => ?_)
    · have hr0 := hn1 c2
      rw [hr0] at hq
      cbv
      refine gs_done ?_
      cbv
      exact gh_view [] (by decide) pre0 (H' := []) (d' := .v (.bool false)) trivial rfl (gh_done hq)
    · have hnx := hn2 c2
      cbv
      refine ⟨hf, ?_⟩
      refine gs_loop (A.add i 1, k + 1) [] ⟨hu1, hk, hnx⟩ hms ?_
      exact ⟨by decide, pre0, trivial, ⟨rfl, rfl, rfl, trivial⟩, rfl, rfl⟩
  · have hk : k = N := by have := ynltL hA hAl u1 c; omega
    have hr1 : r = true := by
      rw [hr]; refine decide_eq_true ?_
      rw [hk, hN, List.take_length, hab, List.take_length] at u3; exact u3
    rw [hr1] at hq
    cbv
    refine gs_done ?_
    cbv
    exact gh_view [] (by decide) pre0 (H' := []) (d' := .v (.bool true)) trivial rfl (gh_done hq)

set_option maxRecDepth 20000 in
set_option maxHeartbeats 2000000 in
/-- without. -/
theorem rWithout (a : Nat) (ad : Int) (had : IsI ad a) (l : List Nat) (LL : List D) (hLL : LL = planL l) (hl : l.length ≤ 1000) (Q) (hq : ∀ OL, OL = planL (wo a l) → Q (RA.ret (.sl 1 OL)) []) : CallA Tryz.prog 66 [.sl 1 LL, I ad] [] Q := by
  obtain ⟨A, hA⟩ : ∃ A, A = ar := ⟨_, rfl⟩
  obtain ⟨N, hN⟩ : ∃ N, N = l.length := ⟨_, rfl⟩
  have hLl : LL.length = N := by rw [hLL, hN]; simp [planL]
  refine callA_start tokT hA Tryz.func66 rfl rfl rfl rfl rfl fun S hS => ?_
  cbv
  refine at_code hS ?_
  refine wpa_loopG (α := Int × Nat × List D × Nat) (fun r => { env := [(0, .sl 1 LL), (1, I ad), (5, .o 0 1 r.2.2.2), (6, I r.1)], H := [.els 1 r.2.2.1], nt := 27, dfs := [] })
    (fun r => N - r.2.1) (fun r => IsI r.1 r.2.1 ∧ r.2.1 ≤ N ∧ r.2.2.1 = planL (wo a (l.take r.2.1)) ∧ r.2.2.1.length = r.2.2.2) (0, 0, [], 0) ⟨⟨rfl⟩, Nat.zero_le _, rfl, rfl⟩ ?_ ?_
  · refine gs_virt 5 1 rfl ?_
    exact gs_to [0] ⟨by decide, pre0, ⟨rfl, trivial⟩, ⟨rfl, rfl, rfl, rfl, trivial⟩, rfl, rfl⟩
  rintro ⟨j, m, OL, no⟩ ⟨v1, v2, v3, v4⟩
  dsimp only at v1 v2 v3 v4
  refine wp_go tokT hA hS ?_
  cbv
  refine bm (fun c => ?_) (fun c => ?_)
  · have hm : m < N := yltL hA hLl v1 c
    obtain ⟨e, he⟩ : ∃ e, l[m]? = some e := ⟨_, List.getElem?_eq_getElem (by omega)⟩
    have hPm : LL[m]? = some (I (e : Nat)) := by rw [hLL]; simp [planL, he]
    have j1 := yinbL hA hLl v1 hm
    have k1 := yget hA v1 hPm
    have hfj := yfit1 hA v1 (by omega)
    have hj1 := ysucc hA v1
    have hms2 : N - (m + 1) < N - m := by omega
    have hno : no ≤ 1000 := by rw [← v4, v3, planL, List.length_map]; exact Nat.le_trans (List.length_filter_le _ _) (by simp; omega)
    have htm : l.take (m + 1) = l.take m ++ [e] := by rw [List.take_add_one, he]; rfl
    obtain ⟨ei, hei⟩ : ∃ ei : Int, ei = (e : Nat) := ⟨_, rfl⟩
    rw [← hei] at k1
    have hd1 : A.cmp .neq ei ad = true → A.app OL [I ei] = planL (wo a (l.take (m + 1))) := fun h => by
      have h2 := xne hA h
      have e1 : e ≠ a := by have := had.eq; intro h3; subst h3; omega
      rw [htm, wo_one e1, xapp hA, v3, hei]; simp [planL]
    have hd2 : A.cmp .neq ei ad = false → OL = planL (wo a (l.take (m + 1))) := fun h => by
      have h2 := xnne hA h
      have e1 : e = a := by have := had.eq; omega
      rw [htm, e1, wo_ad, v3]
    have hr : A.room (A.addN no 1) 8 := by rw [xaddN hA]; exact yroomN hA (by omega) (by decide)
    have hol : (A.app OL [I ei]).length = A.addN no 1 := by rw [xapp hA, xaddN hA, List.length_append, v4]; rfl
    cbv
    refine ⟨j1, ⟨_, k1, ?_⟩⟩
    cbv
    refine bm (fun c2 => ?_) (fun c2 => ?_)
    · have hn := hd1 c2
      cbv
      refine ⟨j1, ⟨_, k1, ?_⟩⟩
      cbv
      refine ⟨yeqLen hA v4, yeqLen hA rfl, hr, hfj, ?_⟩
      refine gs_loop (A.add j 1, m + 1, A.app OL [I ei], A.addN no 1) [2] ⟨hj1, hm, hn, hol⟩ hms2 ?_
      exact ⟨by decide, pre0, ⟨rfl, trivial⟩, ⟨rfl, rfl, rfl, rfl, trivial⟩, rfl, rfl⟩
    · have hn := hd2 c2
      cbv
      refine ⟨hfj, ?_⟩
      refine gs_loop (A.add j 1, m + 1, OL, no) [0] ⟨hj1, hm, hn, v4⟩ hms2 ?_
      exact ⟨by decide, pre0, ⟨rfl, trivial⟩, ⟨rfl, rfl, rfl, rfl, trivial⟩, rfl, rfl⟩
  · have hm : m = N := by have := ynltL hA hLl v1 c; omega
    rw [hm, hN, List.take_length] at v3
    have e4 : A.eqN no (A.len OL) := xeqN hA (by rw [xlen hA, v4])
    cbv
    refine gs_done ?_
    cbv
    refine gh_frz [0] ?_
    cbv
    exact ⟨by cases OL <;> exact v4.symm, gh_view [] (by decide) pre0 (H' := []) (d' := .sl 1 OL) trivial rfl (gh_done (hq OL v3))⟩

/-- Where the least one so far stands; -1 ahead of the first. -/
def AtI (num : List Nat → Int) (fl : List (List Nat) → List (List Nat)) (ps : List (List Nat)) (k : Nat) (a : Int) : Prop :=
  (a = -1 ∧ fl (ps.take k) = []) ∨ ∃ (an : Nat) (qa : List Nat), IsI a an ∧ ps[an]? = some qa ∧ leastS num (fl (ps.take k)) = (true, qa, num qa)

set_option maxRecDepth 20000 in
set_option maxHeartbeats 8000000 in
/-- PutIn, the documents' own. -/
theorem rPutIn (s : Sh) (hs : Fin s) (hb : NotBig s) (pl : List Int) (hpl : pl.length ≤ 1000000) (TL PL : List D) (hT : TL = s.tasks.map taskD) (hP : PL = pl.map I) (t : Tk) (WL : List D) (hW : WL = t.works.map workD) (hx : Fin (addT s t)) (Q)
    (he1 : ∀ e, e = chkSP s pl → e ≠ 0 → Q (RA.ret (.tup [.v (.slice none 0 0), I 0, I e])) []) 
    (he2 : ∀ e, chkSP s pl = 0 → e = chkS (addT s t) → e ≠ 0 → Q (RA.ret (.tup [.v (.slice none 0 0), I 0, I e])) []) 
    (hq : ∀ p, PlanOk s p → pl = p.map (fun i : Nat => (i : Int)) → ShopOk (addT s t) → ∀ BL n, BL = planL (leastS (worst (addT s t)) (plansK s.tasks.length p (addT s t))).2.1 → n = (leastS (worst (addT s t)) (plansK s.tasks.length p (addT s t))).2.2 → Q (RA.ret (.tup [.sl 1 BL, I n, I 0])) []) :
    CallA Tryz.prog 21 [.agg [I s.benches, .sl 3 TL], .sl 1 PL, .agg [I t.ready, I t.due, .sl 3 WL]] [] Q := by
  obtain ⟨A, hA⟩ : ∃ A, A = ar := ⟨_, rfl⟩
  obtain ⟨N, hN⟩ : ∃ N, N = s.tasks.length := ⟨_, rfl⟩
  have hTl : TL.length = N := by rw [hT, hN]; simp
  have hNb : N ≤ 20 := by rw [hN]; exact hb.1
  obtain ⟨e1, he1'⟩ : ∃ e, e = chkSP s pl := ⟨_, rfl⟩
  obtain ⟨x, hxE⟩ : ∃ x, x = addT s t := ⟨_, rfl⟩
  rw [← hxE] at hx he2 hq
  obtain ⟨e4, he2'⟩ : ∃ e, e = chkS x := ⟨_, rfl⟩
  have hq1 := he1 e1 he1'
  have hq2 := fun h => he2 e4 h he2'
  have hxb : x.benches = s.benches := by rw [hxE]; rfl
  refine callA_startF tokT hA [] Tryz.func21 rfl rfl rfl rfl rfl fun S hS => ?_
  cbv
  refine ops_call hS [.agg [I s.benches, .sl 3 TL], .sl 1 PL] [] [] rfl rfl rfl rfl rfl rfl rfl rfl (by decide) trivial (rCheckPlanAny s hs pl hpl TL PL hT hP e1 he1' _ ?_)
  refine ops_go tokT hA hS ?_
  cbv
  refine bm (fun c => ?_) (fun c => ?_)
  · have hq1' := hq1 (xne hA c)
    cbv
    exact gh_view [] (by decide) pre0 (H' := []) (d' := .tup [.v (.slice none 0 0), I 0, I e1]) trivial rfl (gh_done hq1')
  have h10 : chkSP s pl = 0 := by have := xnne hA c; omega
  cbv
  refine ops_call hS [.agg [I s.benches, .sl 3 TL], .agg [I t.ready, I t.due, .sl 3 WL]] [] [] rfl rfl rfl rfl rfl rfl rfl rfl (by decide) trivial (kAdded s hb TL hT t WL hW _ fun XL hXL0 => ?_)
  have hXL : XL = x.tasks.map taskD := by rw [hXL0, hxE]; rfl
  have hck : ∀ Q, Q (RA.ret (I e4)) [] → CallA Tryz.prog 53 [.agg [I s.benches, .sl 3 XL]] [] Q := fun Q hq => by
    have := rCheck x hx XL hXL e4 he2' Q hq
    rw [hxb] at this; exact this
  refine ops_go tokT hA hS ?_
  cbv
  refine ops_call hS [.agg [I s.benches, .sl 3 XL]] [] [] rfl rfl rfl rfl rfl rfl rfl rfl (by decide) trivial (hck _ ?_)
  refine ops_go tokT hA hS ?_
  cbv
  refine bm (fun c => ?_) (fun c => ?_)
  · have hq2' := hq2 h10 (xne hA c)
    cbv
    exact gh_view [] (by decide) pre0 (H' := []) (d' := .tup [.v (.slice none 0 0), I 0, I e4]) trivial rfl (gh_done hq2')
  have h40 : chkS x = 0 := by have := xnne hA c; omega
  obtain ⟨hok, mp, hmp, hpe⟩ := planX_of hs h10
  have hv := chkS_val hok.chk
  have hxs : ShopOk x := shop_ok hx h40
  have hxv := chkS_val h40
  have hmd : Made N mp (leftS x) [] := made_add hxE hmp hN
  have hq3 := hq mp hmp hpe hxs
  rw [← hN] at hq3
  obtain ⟨NX, hNX⟩ : ∃ NX, NX = x.tasks.length := ⟨_, rfl⟩
  have hXl : XL.length = NX := by rw [hXL, hNX]; simp
  have hxlen := hxv.len
  have hxsum := hxv.sum
  have hkp : ∀ Q, (∀ RL, RL = plansD NX (nWorks x.tasks) (leftS x) [] → Q (RA.ret (.sl 1 RL)) []) → CallA Tryz.prog 64 [.agg [I s.benches, .sl 3 XL], .sl 1 []] [] Q := fun Q hq => by
    have h := kPlans x hxv XL hXL NX hNX (nWorks x.tasks) (leftS x) [] (leftS_sum x) (leftS_len hxlen) (by simp; omega) (fun i hi => leftS_out (by omega)) (fun i t h => by rw [leftS_at h]; simp) [] rfl Q hq
    rw [hxb] at h; exact h
  cbv
  refine ops_call hS [.agg [I s.benches, .sl 3 XL], .v (.slice none 0 0)] [] [] rfl rfl rfl rfl rfl rfl rfl rfl (by decide) trivial
    (callA_weak (as' := [.agg [I s.benches, .sl 3 XL], .sl 1 []]) ⟨.rfl, WkD.nil, trivial⟩ (hkp _ fun RL hRL => ?_))
  obtain ⟨ps, hps⟩ : ∃ ps, ps = plansS x := ⟨_, rfl⟩
  have hRL2 : RL = ps.map fun p => .sl 1 (planL p) := by rw [hRL, plansD, hps, plansS, hNX]; simp
  obtain ⟨M, hM⟩ : ∃ M, M = ps.length := ⟨_, rfl⟩
  have hRl : RL.length = M := by rw [hRL2, hM]; simp
  have hMb : M ≤ 70000 := by
    have h1 := plansF_len NX (nWorks x.tasks) (leftS x)
    have h2 : NX ^ nWorks x.tasks ≤ 4 ^ 8 := Nat.le_trans (Nat.pow_le_pow_left (by omega) _) (Nat.pow_le_pow_right (by omega) hxsum)
    have h3 : M = (plansF NX (nWorks x.tasks) (leftS x)).length := by rw [hM, hps, plansS, hNX]
    have h4 : (4 : Nat) ^ 8 = 65536 := by decide
    omega
  have hwn : ∀ p, 0 ≤ worst x p := fun p => lastS_nn _
  obtain ⟨fl, hfl⟩ : ∃ fl : List (List Nat) → List (List Nat), fl = fun l => l.filter fun q => decide (wo N q = mp) := ⟨_, rfl⟩
  have hflT : ∀ l q, wo N q = mp → fl (l ++ [q]) = fl l ++ [q] := fun l q h => by rw [hfl]; simp [h]
  have hflF : ∀ l q, wo N q ≠ mp → fl (l ++ [q]) = fl l := fun l q h => by rw [hfl]; simp [h]
  have hfl0 : fl [] = [] := by rw [hfl]; rfl
  have hio : IsI (A.oi (A.len TL)) N := ⟨yoiL hA hTl⟩
  have hfe : plansK N mp x = fl ps := by rw [plansK_eq hmd, hfl, hps]
  have hne : fl ps ≠ [] := by
    rw [hfl, hps, hxE, hN]
    exact plansK_ne hmp (by rw [← hxE]; exact hxs)
  rw [hfe] at hq3
  have hla : ∀ q QL, PlanOk x q → QL = planL q → ∀ Q, (∀ lo hi, lastS (runS x (fun _ => 0) q) = (lo, hi) → Q (RA.ret (.agg [I lo, I hi])) []) → CallA Tryz.prog 67 [.agg [I s.benches, .sl 3 XL], .sl 1 QL] [] Q := fun q QL hqo hQL Q hq => by
    have h := rLast x hxv q hqo.le (by have := hqo.len; omega) XL QL hXL hQL Q hq
    rw [hxb] at h; exact h
  have hat : ∀ (k : Nat) (q : List Nat), ps[k]? = some q → PlanOk x q := fun k q hq => plansS_ok hxv (by rw [← hps]; exact List.mem_of_getElem? hq)
  refine ops_go tokT hA hS ?_
  cbv
  refine at_code hS ?_
  refine wpa_loopG (α := Int × Nat × Int) (fun q => { env := [(1, .sl 1 PL), (3, .b 0 0), (10, .b 1 0), (12, .sl 1 RL), (13, I q.2.2), (14, I q.1)], H := [.box (.agg [I s.benches, .sl 3 TL]), .box (.agg [I s.benches, .sl 3 XL])], nt := 80, dfs := [] })
    (fun q => M - q.2.1) (fun q => IsI q.1 q.2.1 ∧ q.2.1 ≤ M ∧ AtI (worst x) fl ps q.2.1 q.2.2) (0, 0, -1) ⟨⟨rfl⟩, Nat.zero_le _, .inl ⟨rfl, by rw [List.take_zero]; exact hfl0⟩⟩ ?_ ?_
  · exact gs_to [0, 2] ⟨by decide, pre0, ⟨rfl, rfl, trivial⟩, ⟨rfl, rfl, rfl, rfl, rfl, rfl, trivial⟩, rfl, rfl⟩
  rintro ⟨i, k, a⟩ ⟨u1, u2, u3⟩
  dsimp only at u1 u2 u3
  have hmk1 : A.cmp .lss i (A.oi (A.len RL)) = false → M ≤ k := fun h => ynltL hA hRl u1 h
  have hmk2 : A.cmp .lss i (A.oi (A.len RL)) = true → k < M := fun h => yltL hA hRl u1 h
  by_cases hk : k < M
  · obtain ⟨p, hpk⟩ : ∃ p, ps[k]? = some p := ⟨_, List.getElem?_eq_getElem (by omega)⟩
    have hpo : PlanOk x p := hat k p hpk
    obtain ⟨KL, hKL⟩ : ∃ KL, KL = planL p := ⟨_, rfl⟩
    have hRk : RL[k]? = some (.sl 1 KL) := by rw [hRL2, hKL]; simp [hpk]
    have htk : ps.take (k + 1) = ps.take k ++ [p] := by rw [List.take_add_one, hpk]; rfl
    have i1 := yinbL hA hRl u1 hk
    have g1 := yget hA u1 hRk
    have hf1 := yfit1 hA u1 (by omega)
    have hu1 := ysucc hA u1
    have hms : M - (k + 1) < M - k := by omega
    have hp8 : p.length ≤ 8 := by rw [hpo.len]; exact hxsum
    have hwl : (wo N p).length ≤ 8 := Nat.le_trans (List.length_filter_le _ _) hp8
    refine wp_goF tokT hA hS [] ?_
    cbv
    refine bm (fun _ => ?_) (fun c => absurd (hmk1 c) (by omega))
    by_cases hwo : wo N p = mp
    · have hpT := hflT (ps.take k) p hwo
      rw [← htk] at hpT
      have hsame : ∀ OL, OL = planL (wo N p) → ∀ Q, Q (RA.ret (.v (.bool true))) [] → CallA Tryz.prog 65 [.sl 1 OL, .sl 1 PL] [] Q := fun OL hOL Q hq => by
        refine rSame ((wo N p).map fun i : Nat => (i : Int)) pl OL PL (by rw [hOL, planL, List.map_map]; rfl) hP (by rw [List.length_map]; omega) hpl true (decide_eq_true (by rw [hpe, hwo])).symm Q hq
      rcases u3 with ⟨ha, hf0⟩ | ⟨an, qa, hai, hqa, hls⟩
      · have hal : A.cmp .lss a 0 = true := yltT hA (by omega)
        have hnx : AtI (worst x) fl ps (k + 1) i := .inr ⟨k, p, u1, hpk, by rw [hpT, hf0]; rfl⟩
        cbv
        refine draw_goE tokT hA hS [12] [0, 1, 2, 3, 4, 5, 6, 8, 7, 9, 10, 11, 12, 13, 14, 15, 16, 17, 18, 21, 22, 23, 24, 25, 19, 20, 26, 27, 28, 29, 30] rfl rfl fun Dk hD => ?_
        cbv
        refine ⟨i1, ⟨_, g1, ?_⟩⟩
        cbv
        refine draw_call hA hD [.sl 1 KL, I (A.oi (A.len TL))] [] [] rfl rfl rfl rfl rfl rfl rfl rfl rfl rfl rfl (by decide) trivial (rWithout N _ hio p KL hKL (by omega) _ fun OL hOL => ⟨by cbv; repeat' (first | exact trivial | exact Need.mk ⟨_, g1, rfl⟩ | refine ⟨?_, ?_⟩), draw_onE tokT hA hD [12] ?_⟩)
        cbv
        refine draw_call hA hD [.sl 1 OL, .sl 1 PL] [] [] rfl rfl rfl rfl rfl rfl rfl rfl rfl rfl rfl (by decide) trivial (hsame OL hOL _ ⟨by cbv; repeat' (first | exact trivial | exact Need.mk ⟨_, g1, rfl⟩ | refine ⟨?_, ?_⟩), draw_onE tokT hA hD [12] ?_⟩)
        cbv
        refine draw_valG tokT hA hD [] (.v (.bool true)) rfl rfl rfl rfl rfl rfl rfl rfl rfl (congrArg (fun b => D.v (.bool b)) hal) ?_
        cbv
        refine draw_callG hA hD (f := 67) (b := true) rfl rfl rfl rfl rfl rfl rfl rfl rfl rfl rfl (fun h => Bool.noConfusion h) (fun _ => ⟨by cbv; repeat' (first | exact trivial | exact Need.mk ⟨_, g1, rfl⟩ | refine ⟨?_, ?_⟩), draw_onE tokT hA hD [] ?_⟩)
        cbv
        refine draw_callG hA hD (f := 67) (b := true) rfl rfl rfl rfl rfl rfl rfl rfl rfl rfl rfl (fun h => Bool.noConfusion h) (fun _ => ⟨by cbv; repeat' (first | exact trivial | exact Need.mk ⟨_, g1, rfl⟩ | refine ⟨?_, ?_⟩), draw_onE tokT hA hD [] ?_⟩)
        cbv
        refine ⟨hf1, ?_⟩
        refine gs_loop (A.add i 1, k + 1, i) [0, 1] ⟨hu1, hk, hnx⟩ hms ?_
        exact ⟨by decide, pre0, ⟨rfl, rfl, trivial⟩, ⟨rfl, rfl, rfl, rfl, rfl, rfl, trivial⟩, rfl, rfl⟩
      · have hal : A.cmp .lss a 0 = false := yltF hA (by have := hai.eq; omega)
        have han : an < M := by rw [hM]; exact (List.getElem?_eq_some_iff.1 hqa).1
        have hoa : PlanOk x qa := hat an qa hqa
        obtain ⟨AL, hAL⟩ : ∃ AL, AL = planL qa := ⟨_, rfl⟩
        have hRa : RL[an]? = some (.sl 1 AL) := by rw [hRL2]; simp [hqa, hAL]
        have i2 := yinbL hA hRl hai han
        have g2 := yget hA hai hRa
        have hy : worst x p < worst x qa → AtI (worst x) fl ps (k + 1) i := fun h => .inr ⟨k, p, u1, hpk, by rw [hpT, leastS_snoc, hls, if_pos (.inr h)]⟩
        have hn : worst x qa ≤ worst x p → AtI (worst x) fl ps (k + 1) a := fun h => .inr ⟨an, qa, hai, hqa, by rw [hpT, leastS_snoc, hls, if_neg (fun h2 => h2.elim (fun h3 => Bool.noConfusion h3) (fun h3 => Int.not_lt.2 h h3))]⟩
        cbv
        refine draw_goE tokT hA hS [12] [0, 1, 2, 3, 4, 5, 6, 8, 7, 9, 10, 11, 12, 13, 14, 15, 16, 17, 18, 21, 22, 23, 24, 25, 19, 20, 26, 27, 28, 29, 30] rfl rfl fun Dk hD => ?_
        cbv
        refine ⟨i1, ⟨_, g1, ?_⟩⟩
        cbv
        refine draw_call hA hD [.sl 1 KL, I (A.oi (A.len TL))] [] [] rfl rfl rfl rfl rfl rfl rfl rfl rfl rfl rfl (by decide) trivial (rWithout N _ hio p KL hKL (by omega) _ fun OL hOL => ⟨by cbv; repeat' (first | exact trivial | exact Need.mk ⟨_, g1, rfl⟩ | refine ⟨?_, ?_⟩), draw_onE tokT hA hD [12] ?_⟩)
        cbv
        refine draw_call hA hD [.sl 1 OL, .sl 1 PL] [] [] rfl rfl rfl rfl rfl rfl rfl rfl rfl rfl rfl (by decide) trivial (hsame OL hOL _ ⟨by cbv; repeat' (first | exact trivial | exact Need.mk ⟨_, g1, rfl⟩ | refine ⟨?_, ?_⟩), draw_onE tokT hA hD [12] ?_⟩)
        cbv
        refine draw_valG tokT hA hD [28] (.v (.bool false)) rfl rfl rfl rfl rfl rfl rfl rfl rfl (congrArg (fun b => D.v (.bool b)) hal) ?_
        cbv
        refine ⟨i1, ⟨_, g1, ?_⟩⟩
        cbv
        refine ⟨i2, ⟨_, g2, ?_⟩⟩
        cbv
        refine draw_callG hA hD (b := false) rfl rfl rfl rfl rfl rfl rfl rfl rfl rfl rfl (fun _ => ⟨[], _, [.agg [I s.benches, .sl 3 XL], .sl 1 KL], [], [], rfl, rfl, rfl, by decide, trivial, hla p KL hpo hKL _ fun l1 n1 hn1 => ⟨by cbv; repeat' (first | exact trivial | exact Need.mk ⟨_, g1, rfl⟩ | exact Need.mk ⟨_, g2, rfl⟩ | refine ⟨?_, ?_⟩), draw_onE tokT hA hD [28] ?_⟩⟩) (fun h => absurd rfl h)
        have en1 : n1 = worst x p := by rw [worst, hn1]
        cbv
        refine draw_callG hA hD (b := false) rfl rfl rfl rfl rfl rfl rfl rfl rfl rfl rfl (fun _ => ⟨[], _, [.agg [I s.benches, .sl 3 XL], .sl 1 AL], [], [], rfl, rfl, rfl, by decide, trivial, hla qa AL hoa hAL _ fun l2 n2 hn2 => ⟨by cbv; repeat' (first | exact trivial | exact Need.mk ⟨_, g1, rfl⟩ | exact Need.mk ⟨_, g2, rfl⟩ | refine ⟨?_, ?_⟩), draw_onE tokT hA hD [28] ?_⟩⟩) (fun h => absurd rfl h)
        have en2 : n2 = worst x qa := by rw [worst, hn2]
        cbv
        by_cases hlt : n1 < n2
        · have hl1 : A.cmp .lss n1 n2 = true := yltT hA hlt
          have hnx := hy (by rw [← en1, ← en2]; exact hlt)
          refine draw_valG tokT hA hD [] (.v (.bool true)) rfl rfl rfl rfl rfl rfl rfl rfl rfl (congrArg (fun b => D.v (.bool b)) hl1) ?_
          cbv
          refine ⟨hf1, ?_⟩
          refine gs_loop (A.add i 1, k + 1, i) [0, 1] ⟨hu1, hk, hnx⟩ hms ?_
          exact ⟨by decide, pre0, ⟨rfl, rfl, trivial⟩, ⟨rfl, rfl, rfl, rfl, rfl, rfl, trivial⟩, rfl, rfl⟩
        · have hl1 : A.cmp .lss n1 n2 = false := yltF hA (by omega)
          have hnx := hn (by rw [← en1, ← en2]; omega)
          refine draw_valG tokT hA hD [] (.v (.bool false)) rfl rfl rfl rfl rfl rfl rfl rfl rfl (congrArg (fun b => D.v (.bool b)) hl1) ?_
          cbv
          refine ⟨hf1, ?_⟩
          refine gs_loop (A.add i 1, k + 1, a) [0, 1] ⟨hu1, hk, hnx⟩ hms ?_
          exact ⟨by decide, pre0, ⟨rfl, rfl, trivial⟩, ⟨rfl, rfl, rfl, rfl, rfl, rfl, trivial⟩, rfl, rfl⟩
    · have hpF := hflF (ps.take k) p hwo
      rw [← htk] at hpF
      have hnx : AtI (worst x) fl ps (k + 1) a := by unfold AtI at u3 ⊢; rw [hpF]; exact u3
      have hsame : ∀ OL, OL = planL (wo N p) → ∀ Q, Q (RA.ret (.v (.bool false))) [] → CallA Tryz.prog 65 [.sl 1 OL, .sl 1 PL] [] Q := fun OL hOL Q hq => by
        refine rSame ((wo N p).map fun i : Nat => (i : Int)) pl OL PL (by rw [hOL, planL, List.map_map]; rfl) hP (by rw [List.length_map]; omega) hpl false (decide_eq_false (by rw [hpe]; exact fun h => hwo (List.map_inj_right (fun _ _ e => Int.ofNat.inj e) |>.1 h))).symm Q hq
      cbv
      refine draw_goE tokT hA hS [12] [0, 1, 2, 3, 4, 5, 6, 8, 7, 9, 10, 11, 12, 13, 14, 15, 16, 17, 18, 21, 22, 23, 24, 25, 19, 20, 26, 27, 28, 29, 30] rfl rfl fun Dk hD => ?_
      cbv
      refine ⟨i1, ⟨_, g1, ?_⟩⟩
      cbv
      refine draw_call hA hD [.sl 1 KL, I (A.oi (A.len TL))] [] [] rfl rfl rfl rfl rfl rfl rfl rfl rfl rfl rfl (by decide) trivial (rWithout N _ hio p KL hKL (by omega) _ fun OL hOL => ⟨by cbv; repeat' (first | exact trivial | exact Need.mk ⟨_, g1, rfl⟩ | refine ⟨?_, ?_⟩), draw_onE tokT hA hD [12] ?_⟩)
      cbv
      refine draw_call hA hD [.sl 1 OL, .sl 1 PL] [] [] rfl rfl rfl rfl rfl rfl rfl rfl rfl rfl rfl (by decide) trivial (hsame OL hOL _ ⟨by cbv; repeat' (first | exact trivial | exact Need.mk ⟨_, g1, rfl⟩ | refine ⟨?_, ?_⟩), draw_onE tokT hA hD [] ?_⟩)
      cbv
      refine draw_callN hA hD rfl rfl rfl rfl rfl rfl rfl rfl rfl ⟨by cbv; repeat' (first | exact trivial | exact Need.mk ⟨_, g1, rfl⟩ | refine ⟨?_, ?_⟩), draw_onE tokT hA hD [] ?_⟩
      cbv
      refine draw_callN hA hD rfl rfl rfl rfl rfl rfl rfl rfl rfl ⟨by cbv; repeat' (first | exact trivial | exact Need.mk ⟨_, g1, rfl⟩ | refine ⟨?_, ?_⟩), draw_onE tokT hA hD [] ?_⟩
      cbv
      refine ⟨hf1, ?_⟩
      refine gs_loop (A.add i 1, k + 1, a) [0, 1] ⟨hu1, hk, hnx⟩ hms ?_
      exact ⟨by decide, pre0, ⟨rfl, rfl, trivial⟩, ⟨rfl, rfl, rfl, rfl, rfl, rfl, trivial⟩, rfl, rfl⟩
  · have hkM : k = M := by omega
    have htl : ps.take k = ps := List.take_of_length_le (by omega)
    rcases u3 with ⟨-, hf0⟩ | ⟨an, qa, hai, hqa, hls⟩
    · rw [htl] at hf0; exact absurd hf0 hne
    rw [htl] at hls
    have han : an < M := by rw [hM]; exact (List.getElem?_eq_some_iff.1 hqa).1
    have hoa : PlanOk x qa := hat an qa hqa
    obtain ⟨AL, hAL⟩ : ∃ AL, AL = planL qa := ⟨_, rfl⟩
    have hRa : RL[an]? = some (.sl 1 AL) := by rw [hRL2]; simp [hqa, hAL]
    have i2 := yinbL hA hRl hai han
    have g2 := yget hA hai hRa
    refine wp_goF tokT hA hS [] ?_
    cbv
    refine bm (fun c => absurd (hmk2 c) hk) (fun _ => ?_)
    cbv
    refine gs_done ?_
    cbv
    refine draw_go tokT hA hS [0, 1, 2, 3, 4, 5, 6, 7, 8, 9, 10, 11, 12, 13] rfl rfl fun Dk2 hD2 => ?_
    cbv
    refine ⟨i2, ⟨_, g2, ?_⟩⟩
    cbv
    refine ⟨i2, ⟨_, g2, ?_⟩⟩
    cbv
    refine draw_call hA hD2 [.agg [I s.benches, .sl 3 XL], .sl 1 AL] [] [] rfl rfl rfl rfl rfl rfl rfl rfl rfl rfl rfl (by decide) trivial (hla qa AL hoa hAL _ fun ln3 n3 hn3 => ⟨by cbv; repeat' (first | exact trivial | exact Need.mk ⟨_, g2, rfl⟩ | refine ⟨?_, ?_⟩), draw_on tokT hA hD2 ?_⟩)
    have en3 : n3 = worst x qa := by rw [worst, hn3]
    cbv
    exact gh_view [] (by decide) pre0 (H' := []) (d' := .tup [.sl 1 AL, I n3, I 0]) trivial rfl (gh_done (hq3 AL n3 (by rw [hls]; exact hAL) (by rw [hls]; exact en3)))
end Go.Proofs.YtmloogdalecilaaGreatDoor
