/- Part FirstB of the proofs about the benches of the accordion maker: see the last text of the claim for what is proved. -/
import Derived.Test.YtmloogdalecilaaDoorFirstA
import Derived.Test.YtmloogdalecilaaDoorEndsA
set_option linter.unusedVariables false
set_option linter.unusedSimpArgs false
set_option linter.unnecessarySimpa false
set_option linter.constructorNameAsVariable false

/-! D38 -/
namespace Go.Proofs.YtmloogdalecilaaDoor
open Go Go.Abs Go.Proofs

theorem ylt {A : Ar} (hA : A = ar) {x y : Int} (h : x < y) : A.cmp .lss x y = true := by subst hA; simp [ar, cmpI]; omega
theorem ynlt {A : Ar} (hA : A = ar) {x y : Int} (h : y ≤ x) : A.cmp .lss x y = false := by subst hA; simp [ar, cmpI]; omega
theorem yeqT {A : Ar} (hA : A = ar) {x y : Int} (h : x = y) : A.cmp .eql x y = true := by subst hA; simp [ar, cmpI, h]

theorem leastI_y {num : List Nat → Int} (hn : ∀ p, 0 ≤ num p) {l : List (List Nat)} {x : List Nat} (h : leastI num l < 0 ∨ num x < leastI num l) : planL x = planL (leastS num (l ++ [x])).2.1 ∧ num x = leastI num (l ++ [x]) := by
  unfold leastI; rw [leastI_yes hn h]; exact ⟨rfl, rfl⟩
theorem leastI_n {num : List Nat → Int} {l : List (List Nat)} {x : List Nat} (h1 : 0 ≤ leastI num l) (h2 : leastI num l ≤ num x) : planL (leastS num l).2.1 = planL (leastS num (l ++ [x])).2.1 ∧ leastI num l = leastI num (l ++ [x]) := by
  have := leastI_no h1 h2
  refine ⟨by rw [this], ?_⟩
  conv => rhs; unfold leastI
  rw [this]; rfl
theorem leastS_mem {num : List Nat → Int} {l : List (List Nat)} (h : l ≠ []) : (leastS num l).2.1 ∈ l := by
  refine revInd (P := fun l => l ≠ [] → (leastS num l).2.1 ∈ l) (fun h => absurd rfl h) (fun l x ih _ => ?_) l h
  rw [leastS_snoc]
  split
  · simp
  · rename_i h2
    by_cases e : l = []
    · subst e; exact absurd (.inl rfl) h2
    · exact List.mem_append_left _ (ih e)

set_option maxRecDepth 20000 in
set_option maxHeartbeats 16000000 in
/-- BenchFirst. -/
theorem wBenchFirst (L : List D) (nums : List Int) (hL : L = nums.map I) (hl : L.length ≤ 9223372036854775807) (Q) (hq : Q (RA.ret (.v (.bool true))) []) : CallA Tryd.prog 15 [.sl 1 L] [] Q := by
  obtain ⟨A, hA⟩ : ∃ A, A = ar := ⟨_, rfl⟩
  have hbn : A.bnot true = false := by subst hA; rfl
  refine callA_startF tokT hA [4, 26] Tryd.func15 rfl rfl rfl rfl rfl fun S hS => ?_
  cbv
  refine ops_call hS [.sl 1 L] [] [] rfl rfl rfl rfl rfl rfl rfl rfl (by decide) trivial (newPotL L nums hL hl _ fun x0 => ?_)
  refine ops_go tokT hA hS ?_
  cbv
  refine ops_call hS [.b 0 0, I 3, I 6] [0] [pot x0] rfl rfl rfl rfl rfl rfl rfl rfl (by decide) ⟨rfl, trivial⟩ (shopOf x0 3 6 (by decide) (by decide) _ fun s x1 hok => ?_)
  have hs : ShopOk s := okS_shop hok (by decide) (by decide)
  have hv := chkS_val hs.chk
  have hlen := hv.len
  have hsum := hv.sum
  obtain ⟨TL, hT⟩ : ∃ TL, TL = s.tasks.map taskD := ⟨_, rfl⟩
  unfold shopD
  rw [← hT]
  obtain ⟨N, hN⟩ : ∃ N, N = s.tasks.length := ⟨_, rfl⟩
  have hTl : TL.length = N := by rw [hT, hN]; simp
  refine ops_go tokT hA hS ?_
  cbv
  refine ops_call hS [.agg [I s.benches, .sl 3 TL]] [] [] rfl rfl rfl rfl rfl rfl rfl rfl (by decide) trivial (bBest s hs TL hT _ fun PB nB hPB hnB => ?_)
  refine ops_go tokT hA hS ?_
  cbv
  refine ops_call hS [.agg [I s.benches, .sl 3 TL]] [] [] rfl rfl rfl rfl rfl rfl rfl rfl (by decide) trivial (bPrompt s hs TL hT _ fun PP nP hPP hnP => ?_)
  have hn0 : A.cmp .neq 0 0 = false := by subst hA; rfl
  refine ops_go tokT hA hS ?_
  cbv
  refine region_part tokT hA hS [0, 1] [2, 3, 4, 5] rfl ?_
  cbv
  refine part_is tokT hA hS 38 (.v (.bool false)) rfl (congrArg (fun b => D.v (.bool b)) hn0) [2, 3, 4] [5] ?_
  cbv
  refine part_is tokT hA hS 41 (.v (.bool false)) rfl (congrArg (fun b => D.v (.bool b)) hn0) [5] [] ?_
  cbv
  refine at_ops hS (ops_go tokT hA hS ?_)
  cbv
  refine ops_call hS [.agg [I s.benches, .sl 3 TL], .v (.slice none 0 0)] [] [] rfl rfl rfl rfl rfl rfl rfl rfl (by decide) trivial
    (callA_weak (as' := [.agg [I s.benches, .sl 3 TL], .sl 1 []]) ⟨.rfl, WkD.nil, trivial⟩
      (kPlans s hv TL hT N hN (nWorks s.tasks) (leftS s) [] (leftS_sum s) (leftS_len hlen) (by simp; omega) (fun i hi => leftS_out (by omega)) (fun i t h => by rw [leftS_at h]; simp) [] rfl _ fun RL hRL => ?_))
  obtain ⟨ps, hps⟩ : ∃ ps, ps = plansS s := ⟨_, rfl⟩
  have hRL2 : RL = ps.map fun p => .sl 1 (planL p) := by rw [hRL, plansD, hps, plansS, hN]; simp
  obtain ⟨M, hM⟩ : ∃ M, M = ps.length := ⟨_, rfl⟩
  have hRl : RL.length = M := by rw [hRL2, hM]; simp
  have hMb : M ≤ 70000 := by
    have h1 := plansF_len N (nWorks s.tasks) (leftS s)
    have h2 : N ^ nWorks s.tasks ≤ 4 ^ 8 := Nat.le_trans (Nat.pow_le_pow_left (by omega) _) (Nat.pow_le_pow_right (by omega) hsum)
    have h3 : M = (plansF N (nWorks s.tasks) (leftS s)).length := by rw [hM, hps, plansS, hN]
    have h4 : (4 : Nat) ^ 8 = 65536 := by decide
    omega
  have hwn : ∀ p, 0 ≤ worst s p := fun p => lastS_nn _
  have hcn : ∀ p, 0 ≤ lateC s p := fun p => by unfold lateC; omega
  refine ops_go tokT hA hS ?_
  cbv
  refine at_code hS ?_
  refine wpa_loopG (α := Int × Nat × List D × List D × Int × Int) (fun q => { env := [(3, .b 1 0), (4, .sl 1 PB), (5, I nB), (7, .sl 1 PP), (8, I nP), (10, .sl 1 q.2.2.1), (11, .sl 1 q.2.2.2.1), (12, I q.2.2.2.2.1), (13, I q.2.2.2.2.2), (14, .sl 1 RL), (15, I q.1)], H := [.box (.agg [U x1]), .box (.agg [I s.benches, .sl 3 TL])], nt := 143, dfs := [] })
    (fun q => M - q.2.1) (fun q => IsI q.1 q.2.1 ∧ q.2.1 ≤ M ∧ q.2.2.1 = planL (leastS (worst s) (ps.take q.2.1)).2.1 ∧ q.2.2.2.1 = planL (leastS (lateC s) (ps.take q.2.1)).2.1 ∧ q.2.2.2.2.1 = leastI (worst s) (ps.take q.2.1) ∧ q.2.2.2.2.2 = leastI (lateC s) (ps.take q.2.1)) (0, 0, [], [], -1, -1) ⟨⟨rfl⟩, Nat.zero_le _, rfl, rfl, rfl, rfl⟩ ?_ ?_
  · refine gs_weak 10 (.sl 1 []) rfl WkD.nil ?_
    refine gs_weak 11 (.sl 1 []) rfl WkD.nil ?_
    exact gs_to [0, 1] ⟨by decide, pre0, ⟨rfl, rfl, trivial⟩, ⟨rfl, rfl, rfl, rfl, rfl, rfl, rfl, rfl, rfl, rfl, rfl, trivial⟩, rfl, rfl⟩
  rintro ⟨i, k, FA, FB, n1, n2⟩ ⟨u1, u2, u3, u4, u5, u6⟩
  dsimp only at u1 u2 u3 u4 u5 u6
  have hmk1 : A.cmp .lss i (A.oi (A.len RL)) = false → M ≤ k := fun h => ynltL hA hRl u1 h
  have hmk2 : A.cmp .lss i (A.oi (A.len RL)) = true → k < M := fun h => yltL hA hRl u1 h
  by_cases hk : k < M
  · obtain ⟨p, hpk⟩ : ∃ p, ps[k]? = some p := ⟨_, List.getElem?_eq_getElem (by omega)⟩
    have hpo : PlanOk s p := plansS_ok hv (by rw [← hps]; exact List.mem_of_getElem? hpk)
    obtain ⟨PL, hP⟩ : ∃ PL, PL = planL p := ⟨_, rfl⟩
    have hRk : RL[k]? = some (.sl 1 PL) := by rw [hRL2, hP]; simp [hpk]
    have htk : ps.take (k + 1) = ps.take k ++ [p] := by rw [List.take_add_one, hpk]; rfl
    have i1 := yinbL hA hRl u1 hk
    have g1 := yget hA u1 hRk
    have hf1 := yfit1 hA u1 (by omega)
    have hu1 := ysucc hA u1
    have hms : M - (k + 1) < M - k := by omega
    refine wp_goF tokT hA hS [14, 22, 24] ?_
    cbv
    refine bm (fun _ => ?_) (fun c => absurd (hmk1 c) (by omega))
    cbv
    refine draw_go tokT hA hS [0, 1, 2, 3, 4, 9, 5, 6, 7, 8, 10, 11] rfl rfl fun Dk hD => ?_
    cbv
    refine ⟨i1, ⟨_, g1, ?_⟩⟩
    cbv
    refine draw_call hA hD [.agg [I s.benches, .sl 3 TL], .sl 1 PL] [] [] rfl rfl rfl rfl rfl rfl rfl rfl rfl rfl rfl (by decide) trivial (bLastPlan s hs p hpo TL PL hT hP _ fun lo hi hlh => ⟨by cbv; repeat' (first | exact trivial | exact Need.mk ⟨_, g1, rfl⟩ | refine ⟨?_, ?_⟩), draw_on tokT hA hD ?_⟩)
    have hwo : worst s p = hi := by rw [worst, hlh]
    cbv
    refine draw_go tokT hA hS [0, 1, 2, 3, 4, 5, 6, 7, 8, 9, 10] rfl rfl fun Dk3 hD3 => ?_
    cbv
    refine ⟨i1, ⟨_, g1, ?_⟩⟩
    cbv
    refine draw_call hA hD3 [.agg [I s.benches, .sl 3 TL], .sl 1 PL] [] [] rfl rfl rfl rfl rfl rfl rfl rfl rfl rfl rfl (by decide) trivial (bLatePlan s hs p hpo TL PL hT hP _ fun VL hVL => ⟨by cbv; repeat' (first | exact trivial | exact Need.mk ⟨_, g1, rfl⟩ | refine ⟨?_, ?_⟩), draw_on tokT hA hD3 ?_⟩)
    have hVl : VL.length = N := by rw [hVL, hN]; simp [lateS]
    have hn3 : A.cmp .neq (A.oi (A.len VL)) (A.oi (A.len TL)) = false := xneF hA (by rw [yoiL hA hVl, yoiL hA hTl])
    cbv
    refine region_part tokT hA hS [0, 1] [2, 3, 4, 5, 6, 7, 8, 9, 10, 11, 12, 13] rfl ?_
    cbv
    refine part_is tokT hA hS 70 (.v (.bool false)) rfl (congrArg (fun b => D.v (.bool b)) hn0) [2, 3, 4] [5, 6, 7, 8, 9, 10, 11, 12, 13] ?_
    cbv
    refine part_is tokT hA hS 73 (.v (.bool false)) rfl (congrArg (fun b => D.v (.bool b)) hn0) [5, 6, 7, 8, 9, 10, 11, 12] [13] ?_
    cbv
    refine part_is tokT hA hS 81 (.v (.bool false)) rfl (congrArg (fun b => D.v (.bool b)) hn3) [13] [] ?_
    cbv
    refine at_ops hS (ops_go tokT hA hS ?_)
    cbv
    refine at_code hS ?_
    refine wpa_loopG (α := Int × Nat × Int) (fun q => { env := [(3, .b 1 0), (4, .sl 1 PB), (5, I nB), (7, .sl 1 PP), (8, I nP), (10, .sl 1 FA), (11, .sl 1 FB), (12, I n1), (13, I n2), (14, .sl 1 RL), (15, I i), (16, .b 2 0), (18, .sl 1 VL), (20, I q.2.2), (21, I q.1)], H := [.box (.agg [U x1]), .box (.agg [I s.benches, .sl 3 TL]), .box (.agg [I lo, I hi])], nt := 143, dfs := [] })
      (fun q => N - q.2.1) (fun q => IsI q.1 q.2.1 ∧ q.2.1 ≤ N ∧ IsI q.2.2 (lateN s p q.2.1)) (0, 0, 0) ⟨⟨rfl⟩, Nat.zero_le _, ⟨rfl⟩⟩ ?_ ?_
    · exact gs_to [0, 1, 2] ⟨by decide, pre0, ⟨rfl, rfl, rfl, trivial⟩, ⟨rfl, rfl, rfl, rfl, rfl, rfl, rfl, rfl, rfl, rfl, rfl, rfl, rfl, rfl, rfl, trivial⟩, rfl, rfl⟩
    rintro ⟨j, m, c⟩ ⟨v1, v2, v3⟩
    dsimp only at v1 v2 v3
    have hmm1 : A.cmp .lss j (A.oi (A.len VL)) = false → N ≤ m := fun h => ynltL hA hVl v1 h
    have hmm2 : A.cmp .lss j (A.oi (A.len VL)) = true → m < N := fun h => yltL hA hVl v1 h
    by_cases hm : m < N
    · obtain ⟨e, hem⟩ : ∃ e, (endsS s p)[m]? = some e := ⟨_, List.getElem?_eq_getElem (by rw [endsS_len]; omega)⟩
      obtain ⟨t, ht⟩ : ∃ t, t = s.tasks.getD m default := ⟨_, rfl⟩
      have htm : s.tasks[m]? = some t := by rw [ht, List.getD_eq_getElem?_getD, List.getElem?_eq_getElem (by omega)]; rfl
      obtain ⟨v, hv'⟩ : ∃ v, v = lateV e t.due := ⟨_, rfl⟩
      have hVm : VL[m]? = some (I v) := by
        rw [hVL, List.getElem?_map, lateS, List.getElem?_map, List.getElem?_range (by omega)]
        simp only [Option.map_some, List.getD_eq_getElem?_getD, hem, htm, Option.getD_some, hv']
      have hsu := lateN_succ s p m
      rw [← ht, List.getD_eq_getElem?_getD, hem, Option.getD_some] at hsu
      have hli := late_iff (due := t.due) (ends_mono hs hpo hem)
      rw [← hv'] at hli
      have hle : ∀ k, lateN s p k ≤ k := fun k => by
        have := List.countP_le_length (p := fun i => decide ((s.tasks.getD i default).due < ((endsS s p).getD i (0, 0)).2)) (l := List.range k)
        rwa [List.length_range] at this
      have j1 := yinbL hA hVl v1 hm
      have h1 := yget hA v1 hVm
      have hfj := yfit1 hA v1 (by omega)
      have hfc := yfit1 hA v3 (by have := hle m; omega)
      have hj1 := ysucc hA v1
      have hc3 := ysucc hA v3
      have hmsj : N - (m + 1) < N - m := by omega
      have hc1 : v ≠ 2 → IsI (A.add c 1) (lateN s p (m + 1)) := fun h => by rw [hsu, if_pos (hli.1 h)]; exact hc3
      have hc2 : v = 2 → IsI c (lateN s p (m + 1)) := fun h => by rw [hsu, if_neg (fun h2 => hli.2 h2 h)]; exact v3
      refine wp_go tokT hA hS ?_
      cbv
      refine bm (fun _ => ?_) (fun c => absurd (hmm1 c) (by omega))
      cbv
      refine ⟨j1, ⟨_, h1, ?_⟩⟩
      cbv
      refine bm (fun d1 => ?_) (fun d1 => ?_)
      · have hn := hc1 (xne hA d1)
        cbv
        refine ⟨hfc, hfj, ?_⟩
        refine gs_loop (A.add j 1, m + 1, A.add c 1) [0, 1, 2] ⟨hj1, hm, hn⟩ hmsj ?_
        exact ⟨by decide, pre0, ⟨rfl, rfl, rfl, trivial⟩, ⟨rfl, rfl, rfl, rfl, rfl, rfl, rfl, rfl, rfl, rfl, rfl, rfl, rfl, rfl, rfl, trivial⟩, rfl, rfl⟩
      · have hn := hc2 (xnne hA d1)
        cbv
        refine ⟨hfj, ?_⟩
        refine gs_loop (A.add j 1, m + 1, c) [0, 1, 2] ⟨hj1, hm, hn⟩ hmsj ?_
        exact ⟨by decide, pre0, ⟨rfl, rfl, rfl, trivial⟩, ⟨rfl, rfl, rfl, rfl, rfl, rfl, rfl, rfl, rfl, rfl, rfl, rfl, rfl, rfl, rfl, trivial⟩, rfl, rfl⟩
    · have hcl : c = lateC s p := by
        have : m = N := by omega
        rw [lateC, ← hN, ← this]; exact v3.eq
      refine wp_go tokT hA hS ?_
      cbv
      refine bm (fun c => absurd (hmm2 c) hm) (fun _ => ?_)
      cbv
      refine gs_done ?_
      cbv
      have hyes1 : n1 < 0 ∨ hi < n1 → PL = planL (leastS (worst s) (ps.take (k + 1))).2.1 ∧ hi = leastI (worst s) (ps.take (k + 1)) := fun h => by
        rw [htk, hP, ← hwo]; exact leastI_y hwn (by rw [← u5, hwo]; exact h)
      have hno1 : 0 ≤ n1 → n1 ≤ hi → FA = planL (leastS (worst s) (ps.take (k + 1))).2.1 ∧ n1 = leastI (worst s) (ps.take (k + 1)) := fun h h2 => by
        rw [htk, u3, u5]; exact leastI_n (by rw [← u5]; exact h) (by rw [← u5, hwo]; exact h2)
      have hyes2 : n2 < 0 ∨ c < n2 → PL = planL (leastS (lateC s) (ps.take (k + 1))).2.1 ∧ c = leastI (lateC s) (ps.take (k + 1)) := fun h => by
        rw [htk, hP, hcl]; exact leastI_y hcn (by rw [← u6, ← hcl]; exact h)
      have hno2 : 0 ≤ n2 → n2 ≤ c → FB = planL (leastS (lateC s) (ps.take (k + 1))).2.1 ∧ n2 = leastI (lateC s) (ps.take (k + 1)) := fun h h2 => by
        rw [htk, u4, u6]; exact leastI_n (by rw [← u6]; exact h) (by rw [← u6, ← hcl]; exact h2)
      refine region_part tokT hA hS [0, 1] [2, 3, 4, 5, 6, 7] rfl ?_
      cbv
      by_cases z1 : n1 < 0
      · have hy1 := hyes1 (.inl z1)
        refine part_is tokT hA hS 97 (.v (.bool true)) rfl (congrArg (fun b => D.v (.bool b)) (ylt hA z1)) [2, 3, 4, 5, 6, 7] [] ?_
        cbv
        refine at_ops hS (ops_go tokT hA hS ?_)
        cbv
        refine draw_go tokT hA hS [0, 1, 2, 3, 4, 5, 6, 7] rfl rfl fun Dk4 hD4 => ?_
        cbv
        refine ⟨i1, ⟨_, g1, ?_⟩⟩
        cbv
        refine region_part tokT hA hS [0, 1] [2, 3, 4, 5, 6] rfl ?_
        cbv
        by_cases z2 : n2 < 0
        · have hy2 := hyes2 (.inl z2)
          refine part_is tokT hA hS 111 (.v (.bool true)) rfl (congrArg (fun b => D.v (.bool b)) (ylt hA z2)) [2, 3, 4, 5, 6] [] ?_
          cbv
          refine at_ops hS (ops_go tokT hA hS ?_)
          cbv
          refine ⟨i1, ⟨_, g1, ?_⟩⟩
          cbv
          refine ⟨hf1, ?_⟩
          refine gs_loop (A.add i 1, k + 1, PL, PL, hi, c) [0, 1] ⟨hu1, hk, hy1.1, hy2.1, hy1.2, hy2.2⟩ hms ?_
          exact ⟨by decide, pre0, ⟨rfl, rfl, trivial⟩, ⟨rfl, rfl, rfl, rfl, rfl, rfl, rfl, rfl, rfl, rfl, rfl, trivial⟩, rfl, rfl⟩
        · have hz := ynlt hA (show 0 ≤ n2 by omega)
          refine part_is tokT hA hS 111 (.v (.bool false)) rfl (congrArg (fun b => D.v (.bool b)) hz) [2, 3, 4, 5] [6] ?_
          cbv
          by_cases z3 : c < n2
          · have hy2 := hyes2 (.inr z3)
            refine part_is tokT hA hS 115 (.v (.bool true)) rfl (congrArg (fun b => D.v (.bool b)) (ylt hA z3)) [6] [] ?_
            cbv
            refine at_ops hS (ops_go tokT hA hS ?_)
            cbv
            refine ⟨i1, ⟨_, g1, ?_⟩⟩
            cbv
            refine ⟨hf1, ?_⟩
            refine gs_loop (A.add i 1, k + 1, PL, PL, hi, c) [0, 1] ⟨hu1, hk, hy1.1, hy2.1, hy1.2, hy2.2⟩ hms ?_
            exact ⟨by decide, pre0, ⟨rfl, rfl, trivial⟩, ⟨rfl, rfl, rfl, rfl, rfl, rfl, rfl, rfl, rfl, rfl, rfl, trivial⟩, rfl, rfl⟩
          · have hz2 := hno2 (by omega) (by omega)
            refine part_is tokT hA hS 115 (.v (.bool false)) rfl (congrArg (fun b => D.v (.bool b)) (ynlt hA (show n2 ≤ c by omega))) [6] [] ?_
            cbv
            refine at_ops hS (ops_go tokT hA hS ?_)
            cbv
            refine ⟨hf1, ?_⟩
            refine gs_loop (A.add i 1, k + 1, PL, FB, hi, n2) [0, 1] ⟨hu1, hk, hy1.1, hz2.1, hy1.2, hz2.2⟩ hms ?_
            exact ⟨by decide, pre0, ⟨rfl, rfl, trivial⟩, ⟨rfl, rfl, rfl, rfl, rfl, rfl, rfl, rfl, rfl, rfl, rfl, trivial⟩, rfl, rfl⟩
      · have hz := ynlt hA (show 0 ≤ n1 by omega)
        refine part_is tokT hA hS 97 (.v (.bool false)) rfl (congrArg (fun b => D.v (.bool b)) hz) [2, 3, 4, 5, 6] [7] ?_
        cbv
        by_cases z4 : hi < n1
        · have hy1 := hyes1 (.inr z4)
          refine part_is tokT hA hS 102 (.v (.bool true)) rfl (congrArg (fun b => D.v (.bool b)) (ylt hA z4)) [7] [] ?_
          cbv
          refine at_ops hS (ops_go tokT hA hS ?_)
          cbv
          refine draw_go tokT hA hS [0, 1, 2, 3, 4, 5, 6, 7] rfl rfl fun Dk4 hD4 => ?_
          cbv
          refine ⟨i1, ⟨_, g1, ?_⟩⟩
          cbv
          refine region_part tokT hA hS [0, 1] [2, 3, 4, 5, 6] rfl ?_
          cbv
          by_cases z2 : n2 < 0
          · have hy2 := hyes2 (.inl z2)
            refine part_is tokT hA hS 111 (.v (.bool true)) rfl (congrArg (fun b => D.v (.bool b)) (ylt hA z2)) [2, 3, 4, 5, 6] [] ?_
            cbv
            refine at_ops hS (ops_go tokT hA hS ?_)
            cbv
            refine ⟨i1, ⟨_, g1, ?_⟩⟩
            cbv
            refine ⟨hf1, ?_⟩
            refine gs_loop (A.add i 1, k + 1, PL, PL, hi, c) [0, 1] ⟨hu1, hk, hy1.1, hy2.1, hy1.2, hy2.2⟩ hms ?_
            exact ⟨by decide, pre0, ⟨rfl, rfl, trivial⟩, ⟨rfl, rfl, rfl, rfl, rfl, rfl, rfl, rfl, rfl, rfl, rfl, trivial⟩, rfl, rfl⟩
          · have hz := ynlt hA (show 0 ≤ n2 by omega)
            refine part_is tokT hA hS 111 (.v (.bool false)) rfl (congrArg (fun b => D.v (.bool b)) hz) [2, 3, 4, 5] [6] ?_
            cbv
            by_cases z3 : c < n2
            · have hy2 := hyes2 (.inr z3)
              refine part_is tokT hA hS 115 (.v (.bool true)) rfl (congrArg (fun b => D.v (.bool b)) (ylt hA z3)) [6] [] ?_
              cbv
              refine at_ops hS (ops_go tokT hA hS ?_)
              cbv
              refine ⟨i1, ⟨_, g1, ?_⟩⟩
              cbv
              refine ⟨hf1, ?_⟩
              refine gs_loop (A.add i 1, k + 1, PL, PL, hi, c) [0, 1] ⟨hu1, hk, hy1.1, hy2.1, hy1.2, hy2.2⟩ hms ?_
              exact ⟨by decide, pre0, ⟨rfl, rfl, trivial⟩, ⟨rfl, rfl, rfl, rfl, rfl, rfl, rfl, rfl, rfl, rfl, rfl, trivial⟩, rfl, rfl⟩
            · have hz2 := hno2 (by omega) (by omega)
              refine part_is tokT hA hS 115 (.v (.bool false)) rfl (congrArg (fun b => D.v (.bool b)) (ynlt hA (show n2 ≤ c by omega))) [6] [] ?_
              cbv
              refine at_ops hS (ops_go tokT hA hS ?_)
              cbv
              refine ⟨hf1, ?_⟩
              refine gs_loop (A.add i 1, k + 1, PL, FB, hi, n2) [0, 1] ⟨hu1, hk, hy1.1, hz2.1, hy1.2, hz2.2⟩ hms ?_
              exact ⟨by decide, pre0, ⟨rfl, rfl, trivial⟩, ⟨rfl, rfl, rfl, rfl, rfl, rfl, rfl, rfl, rfl, rfl, rfl, trivial⟩, rfl, rfl⟩
        · have hz1 := hno1 (by omega) (by omega)
          refine part_is tokT hA hS 102 (.v (.bool false)) rfl (congrArg (fun b => D.v (.bool b)) (ynlt hA (show n1 ≤ hi by omega))) [7] [] ?_
          cbv
          refine at_ops hS (ops_go tokT hA hS ?_)
          cbv
          refine region_part tokT hA hS [0, 1] [2, 3, 4, 5, 6] rfl ?_
          cbv
          by_cases z2 : n2 < 0
          · have hy2 := hyes2 (.inl z2)
            refine part_is tokT hA hS 111 (.v (.bool true)) rfl (congrArg (fun b => D.v (.bool b)) (ylt hA z2)) [2, 3, 4, 5, 6] [] ?_
            cbv
            refine at_ops hS (ops_go tokT hA hS ?_)
            cbv
            refine ⟨i1, ⟨_, g1, ?_⟩⟩
            cbv
            refine ⟨hf1, ?_⟩
            refine gs_loop (A.add i 1, k + 1, FA, PL, n1, c) [0, 1] ⟨hu1, hk, hz1.1, hy2.1, hz1.2, hy2.2⟩ hms ?_
            exact ⟨by decide, pre0, ⟨rfl, rfl, trivial⟩, ⟨rfl, rfl, rfl, rfl, rfl, rfl, rfl, rfl, rfl, rfl, rfl, trivial⟩, rfl, rfl⟩
          · have hz := ynlt hA (show 0 ≤ n2 by omega)
            refine part_is tokT hA hS 111 (.v (.bool false)) rfl (congrArg (fun b => D.v (.bool b)) hz) [2, 3, 4, 5] [6] ?_
            cbv
            by_cases z3 : c < n2
            · have hy2 := hyes2 (.inr z3)
              refine part_is tokT hA hS 115 (.v (.bool true)) rfl (congrArg (fun b => D.v (.bool b)) (ylt hA z3)) [6] [] ?_
              cbv
              refine at_ops hS (ops_go tokT hA hS ?_)
              cbv
              refine ⟨i1, ⟨_, g1, ?_⟩⟩
              cbv
              refine ⟨hf1, ?_⟩
              refine gs_loop (A.add i 1, k + 1, FA, PL, n1, c) [0, 1] ⟨hu1, hk, hz1.1, hy2.1, hz1.2, hy2.2⟩ hms ?_
              exact ⟨by decide, pre0, ⟨rfl, rfl, trivial⟩, ⟨rfl, rfl, rfl, rfl, rfl, rfl, rfl, rfl, rfl, rfl, rfl, trivial⟩, rfl, rfl⟩
            · have hz2 := hno2 (by omega) (by omega)
              refine part_is tokT hA hS 115 (.v (.bool false)) rfl (congrArg (fun b => D.v (.bool b)) (ynlt hA (show n2 ≤ c by omega))) [6] [] ?_
              cbv
              refine at_ops hS (ops_go tokT hA hS ?_)
              cbv
              refine ⟨hf1, ?_⟩
              refine gs_loop (A.add i 1, k + 1, FA, FB, n1, n2) [0, 1] ⟨hu1, hk, hz1.1, hz2.1, hz1.2, hz2.2⟩ hms ?_
              exact ⟨by decide, pre0, ⟨rfl, rfl, trivial⟩, ⟨rfl, rfl, rfl, rfl, rfl, rfl, rfl, rfl, rfl, rfl, rfl, trivial⟩, rfl, rfl⟩
  · have hkM : k = M := by omega
    have htl : ps.take k = ps := List.take_of_length_le (by omega)
    have hne : ps ≠ [] := by rw [hps]; exact plansS_ne s
    rw [htl] at u3 u4 u5 u6
    have hA1 : FA = PB := by rw [u3, hPB, bestS, hps]
    have hB1 : FB = PP := by rw [u4, hPP, promptS, hps]
    have hN1 : nB = n1 := by rw [u5, hnB, bestS, leastI, if_pos (leastS_ne hne), hps]
    have hN2 : nP = n2 := by rw [u6, hnP, promptS, leastI, if_pos (leastS_ne hne), hps]
    have hc1 : A.cmp .eql nB n1 = true := yeqT hA hN1
    have hc2 : A.cmp .eql nP n2 = true := yeqT hA hN2
    obtain ⟨QB, hQB⟩ : ∃ QB : List Int, QB = (bestS s).2.1.map fun n => ((n : Nat) : Int) := ⟨_, rfl⟩
    obtain ⟨QP, hQP⟩ : ∃ QP : List Int, QP = (promptS s).2.1.map fun n => ((n : Nat) : Int) := ⟨_, rfl⟩
    have hbm : (bestS s).2.1 ∈ plansS s := leastS_mem (plansS_ne s)
    have hpm : (promptS s).2.1 ∈ plansS s := leastS_mem (plansS_ne s)
    have hQBl : QB.length ≤ 1152921504606846976 := by have := (plansS_ok hv hbm).len; rw [hQB, List.length_map]; omega
    have hQPl : QP.length ≤ 1152921504606846976 := by have := (plansS_ok hv hpm).len; rw [hQP, List.length_map]; omega
    have hPB2 : PB = QB.map I := by rw [hPB, hQB, planL]; simp
    have hPP2 : PP = QP.map I := by rw [hPP, hQP, planL]; simp
    have hFA2 : FA = QB.map I := by rw [hA1, hPB2]
    have hFB2 : FB = QP.map I := by rw [hB1, hPP2]
    refine wp_go tokT hA hS ?_
    cbv
    refine bm (fun c => absurd (hmk2 c) hk) (fun _ => ?_)
    cbv
    refine gs_done ?_
    cbv
    refine region_part tokT hA hS [0, 1, 2] [3, 4, 5, 6, 7, 8, 9, 10, 11, 12, 13, 14, 15, 16, 17, 18, 19, 20, 21] rfl ?_
    cbv
    refine part_is tokT hA hS 124 (.v (.bool true)) rfl (congrArg (fun b => D.v (.bool b)) hc1) [3, 4, 5, 6] [7, 8, 9, 10, 11, 12, 13, 14, 15, 16, 17, 18, 19, 20, 21] ?_
    cbv
    refine part_is tokT hA hS 128 (.v (.bool true)) rfl (congrArg (fun b => D.v (.bool b)) hc2) [7, 8, 9, 10] [11, 12, 13, 14, 15, 16, 17, 18, 19, 20, 21] ?_
    cbv
    refine ops_callG hS (b := true) rfl rfl rfl rfl rfl rfl rfl rfl (fun _ => ⟨[], _, [.sl 1 PB, .sl 1 FA], [], [], rfl, rfl, rfl, by decide, trivial, kSameInts QB QB PB FA hPB2 hFA2 hQBl true (by simp) _ ?_⟩) (fun h => absurd rfl h)
    refine ops_go tokT hA hS ?_
    cbv
    refine ops_callG hS (b := true) rfl rfl rfl rfl rfl rfl rfl rfl (fun _ => ⟨[], _, [.sl 1 PP, .sl 1 FB], [], [], rfl, rfl, rfl, by decide, trivial, kSameInts QP QP PP FB hPP2 hFB2 hQPl true (by simp) _ ?_⟩) (fun h => absurd rfl h)
    refine ops_go tokT hA hS ?_
    cbv
    refine ops_callG hS (b := true) rfl rfl rfl rfl rfl rfl rfl rfl (fun _ => ⟨[], _, [], [], [], rfl, rfl, rfl, by decide, trivial, filing _ ?_⟩) (fun h => absurd rfl h)
    refine ops_go tokT hA hS ?_
    cbv
    exact gh_view [] (by decide) pre0 (H' := []) (d' := .v (.bool true)) trivial rfl (gh_done hq)
end Go.Proofs.YtmloogdalecilaaDoor
