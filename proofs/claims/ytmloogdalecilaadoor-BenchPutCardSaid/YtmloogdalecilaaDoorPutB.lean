/- Part PutB of the proofs about the benches of the accordion maker: see the last text of the claim for what is proved. -/
import Derived.Test.YtmloogdalecilaaDoorPutA
import Derived.Test.YtmloogdalecilaaDoorFirstA
import Derived.Test.YtmloogdalecilaaDoorSlackA
set_option linter.unusedVariables false
set_option linter.unusedSimpArgs false
set_option linter.unnecessarySimpa false
set_option linter.constructorNameAsVariable false

/-! D64 -/
namespace Go.Proofs.YtmloogdalecilaaDoor
open Go Go.Abs Go.Proofs

theorem map_cast_inj {a b : List Nat} (h : (a.map fun i : Nat => (i : Int)) = b.map fun i : Nat => (i : Int)) : a = b := List.map_inj_right (fun _ _ e => Int.ofNat.inj e) |>.1 h
theorem scan_whole {s : Sh} : ∀ (rest p0 : List Nat), (∀ i ∈ rest, i < s.tasks.length) → (∀ i, i < s.tasks.length → (p0 ++ rest).count i ≤ (s.tasks.getD i default).works.length) → scanP s p0 (rest.map fun i : Nat => (i : Int)) = (0, p0 ++ rest)
  | [], p0, _, _ => by simp [scanP]
  | x :: rest, p0, h1, h2 => by
    have hx := h1 x List.mem_cons_self
    have hc := h2 x hx
    rw [List.count_append, List.count_cons_self] at hc
    rw [List.map_cons, scanP, if_neg (fun h => h ⟨by omega, by omega⟩), Int.toNat_natCast, if_neg (by omega)]
    rw [scan_whole rest (p0 ++ [x]) (fun i hi => h1 i (List.mem_cons_of_mem _ hi)) (fun i hi => by rw [List.append_assoc]; exact h2 i hi)]
    simp
theorem chkSP_ok {s : Sh} (hs : ShopOk s) {p : List Nat} (hp : PlanOk s p) {pl : List Int} (h : pl = p.map fun i : Nat => (i : Int)) : chkSP s pl = 0 := by
  have h1 := scan_whole (s := s) p [] hp.lt (fun i hi => by rw [List.nil_append, hp.cnt i hi]; exact Nat.le_refl _)
  rw [chkSP, if_neg (fun h => h hs.chk), chkP, h, h1]
  rw [if_neg (by simp), if_neg (by have := hp.len; simp; omega)]

theorem leastI_y' {num : List Nat → Int} (hn : ∀ p, 0 ≤ num p) {l : List (List Nat)} {x : List Nat} (h : leastI num l < 0 ∨ num x < leastI num l) : planL x = planL (leastS num (l ++ [x])).2.1 ∧ num x = leastI num (l ++ [x]) := by
  unfold leastI; rw [leastI_yes hn h]; exact ⟨rfl, rfl⟩
theorem leastI_n' {num : List Nat → Int} {l : List (List Nat)} {x : List Nat} (h1 : 0 ≤ leastI num l) (h2 : leastI num l ≤ num x) : planL (leastS num l).2.1 = planL (leastS num (l ++ [x])).2.1 ∧ leastI num l = leastI num (l ++ [x]) := by
  have := leastI_no h1 h2
  refine ⟨by rw [this], ?_⟩
  conv => rhs; unfold leastI
  rw [this]; rfl

set_option maxRecDepth 20000 in
set_option maxHeartbeats 16000000 in
/-- BenchPut. -/
theorem wBenchPut (L : List D) (nums : List Int) (hL : L = nums.map I) (hl : L.length ≤ 9223372036854775807) (Q) (hq : Q (RA.ret (.v (.bool true))) []) : CallA Tryd.prog 14 [.sl 1 L] [] Q := by
  obtain ⟨A, hA⟩ : ∃ A, A = ar := ⟨_, rfl⟩
  have hbn : A.bnot true = false := by subst hA; rfl
  have hn0 : A.cmp .neq 0 0 = false := by subst hA; rfl
  refine callA_startF tokT hA [7, 27, 29] Tryd.func14 rfl rfl rfl rfl rfl fun S hS => ?_
  cbv
  refine ops_call hS [.sl 1 L] [] [] rfl rfl rfl rfl rfl rfl rfl rfl (by decide) trivial (newPotL L nums hL hl _ fun x0 => ?_)
  refine ops_go tokT hA hS ?_
  cbv
  refine ops_call hS [.b 0 0, I 3, I 4] [0] [pot x0] rfl rfl rfl rfl rfl rfl rfl rfl (by decide) ⟨rfl, trivial⟩ (shopOf x0 3 4 (by decide) (by decide) _ fun s x1 hok => ?_)
  have hs : ShopOk s := okS_shop hok (by decide) (by decide)
  have hv := chkS_val hs.chk
  have hlen3 := hok.len
  have hsum4 := hok.sum
  have hb0 := hok.b0
  have hb1 := hok.b1
  obtain ⟨TL, hT⟩ : ∃ TL, TL = s.tasks.map taskD := ⟨_, rfl⟩
  unfold shopD
  rw [← hT]
  obtain ⟨N, hN⟩ : ∃ N, N = s.tasks.length := ⟨_, rfl⟩
  have hTl : TL.length = N := by rw [hT, hN]; simp
  refine ops_go tokT hA hS ?_
  cbv
  refine ops_call hS [.b 0 0, .agg [I s.benches, .sl 3 TL]] [0] [pot x1] rfl rfl rfl rfl rfl rfl rfl rfl (by decide) ⟨rfl, trivial⟩ (planOf x1 s (by omega) (by omega) TL hT _ fun mp MP x2 hmp hMP => ?_)
  refine ops_go tokT hA hS ?_
  cbv
  refine draw_go tokT hA hS [0, 2, 4, 5, 6, 10, 1, 3, 7, 8, 9, 11] rfl rfl fun Dk hD => ?_
  cbv
  refine draw_call hA hD [.b 0 0, I 5] [0] [pot x2] rfl rfl rfl rfl rfl rfl rfl rfl rfl rfl rfl (by decide) ⟨rfl, trivial⟩ (upto x2 5 (by decide) _ fun rd x3 hr1 hr2 => ⟨by cbv, draw_on tokT hA hD ?_⟩)
  cbv
  refine draw_call hA hD [.b 0 0, I 20] [0] [pot x3] rfl rfl rfl rfl rfl rfl rfl rfl rfl rfl rfl (by decide) ⟨rfl, trivial⟩ (upto x3 20 (by decide) _ fun du x4 hd1 hd2 => ⟨by cbv, draw_on tokT hA hD ?_⟩)
  cbv
  refine draw_call hA hD [.b 0 0, I s.benches] [0] [pot x4] rfl rfl rfl rfl rfl rfl rfl rfl rfl rfl rfl (by decide) ⟨rfl, trivial⟩ (workOf x4 s.benches ⟨hb0, hb1⟩ _ fun w1 x5 hw1 => ⟨by cbv, draw_on tokT hA hD ?_⟩)
  cbv
  refine ops_call hS [.b 0 0, I 1, I 2] [0] [pot x5] rfl rfl rfl rfl rfl rfl rfl rfl (by decide) ⟨rfl, trivial⟩ (odds x5 1 2 (by decide) _ fun bo x6 => ?_)
  refine ops_go tokT hA hS ?_
  cbv
  refine' bm2 (S := S) (α := List D × Int) (fun q => { env := [(4, .b 0 0), (5, .sl 1 MP), (6, .b 1 0)], H := [.box (.agg [I s.benches, .sl 3 TL]), .box (.agg [I rd, I du, .sl 3 q.1])], nt := 138, dfs := [] }) (fun q => ∃ ws : List Wk, q.1 = ws.map workD ∧ ws ≠ [] ∧ ws.length ≤ 2 ∧ ∀ w ∈ ws, OkW s.benches w) (fun rest _ => ?h1) (fun rest _ => ?h2) ?h3
  case h1 =>
    cbv
    refine draw_go tokT hA hS [0, 1, 2, 3, 4, 5, 6, 7, 8, 9] rfl rfl fun Dk hD => ?_
    cbv
    refine draw_call hA hD [.b 0 0, I s.benches] [0] [pot x6] rfl rfl rfl rfl rfl rfl rfl rfl rfl rfl rfl (by decide) ⟨rfl, trivial⟩ (workOf x6 s.benches ⟨hb0, hb1⟩ _ fun w2 x7 hw2 => ⟨by cbv, draw_on tokT hA hD ?_⟩)
    cbv
    have hr : A.room (A.addN 1 1) 24 := by rw [xaddN hA]; exact yroomN hA (by omega) (by decide)
    refine ⟨yeqLen hA rfl, yeqLen hA rfl, hr, ?_⟩
    obtain ⟨X, hX⟩ : ∃ X, X = A.app [.agg [I w1.b, I w1.lo, I w1.hi]] [.agg [I w2.b, I w2.lo, I w2.hi]] := ⟨_, rfl⟩
    have hXe : X = [w1, w2].map workD := by rw [hX, xapp hA]; rfl
    have e2 : A.eqN (A.addN 1 1) (A.len X) := xeqN hA (by rw [xlen hA, xaddN hA, hXe]; rfl)
    refine join_at hS rest (X, x7) ⟨[w1, w2], hXe, by simp, by simp, fun w hw => by
      simp only [List.mem_cons, List.not_mem_nil, or_false] at hw
      rcases hw with rfl | rfl
      · exact hw1
      · exact hw2⟩ ?_
    refine gs_elsE 5 rfl hX.symm ?_
    refine gs_frz hA [5] ?_
    cbv
    repeat (refine And.intro e2 ?_)
    exact gs_to [1, 2] ⟨by decide, pre0, ⟨rfl, rfl, trivial⟩, ⟨rfl, rfl, rfl, trivial⟩, rfl, rfl⟩
  case h2 =>
    cbv
    have e1 : A.eqN 1 (A.len [.agg [I w1.b, I w1.lo, I w1.hi]]) := yeqLen hA rfl
    refine join_at hS rest ([workD w1], x6) ⟨[w1], rfl, by simp, by simp, fun w hw => by
      rw [List.mem_singleton.1 hw]; exact hw1⟩ ?_
    refine gs_frz hA [3] ?_
    cbv
    repeat (refine And.intro e1 ?_)
    exact gs_to [1, 2] ⟨by decide, pre0, ⟨rfl, rfl, trivial⟩, ⟨rfl, rfl, rfl, trivial⟩, rfl, rfl⟩
  rintro ⟨WL, x8⟩ ⟨ws, hWL, hw0, hw2, hww⟩
  dsimp only at hWL
  obtain ⟨t, ht⟩ : ∃ t : Tk, t = ⟨rd, du, ws⟩ := ⟨_, rfl⟩
  have htr : t.ready = rd := by rw [ht]
  have htd : t.due = du := by rw [ht]
  have htw : WL = t.works.map workD := by rw [hWL, ht]
  obtain ⟨x, hx⟩ : ∃ x, x = addT s t := ⟨_, rfl⟩
  have hxv : Val x := by
    rw [hx]
    refine val_add hv (by omega) ?_ ?_ ?_ ?_ ?_
    · rw [htr]; omega
    · rw [htd]; omega
    · rw [ht]; exact hw0
    · rw [ht]; exact hww
    · rw [ht]; show _ + ws.length ≤ 8; omega
  have hxs : ShopOk x := val_chk hxv
  have hxb : x.benches = s.benches := by rw [hx]; rfl
  obtain ⟨mi, hmi⟩ : ∃ mi : List Int, mi = mp.map (fun i : Nat => (i : Int)) := ⟨_, rfl⟩
  have hMi : MP = mi.map I := by rw [hMP, hmi, List.map_map]; rfl
  have hml : mi.length ≤ 1000000 := by rw [hmi, List.length_map, hmp.len]; omega
  have hc0 : chkSP s mi = 0 := chkSP_ok hs hmp hmi
  have hpi : ∀ Q, (∀ BL n, BL = planL (leastS (worst x) (plansK N mp x)).2.1 → n = (leastS (worst x) (plansK N mp x)).2.2 → Q (RA.ret (.tup [.sl 1 BL, I n, I 0])) []) →
      CallA Tryd.prog 65 [.agg [I s.benches, .sl 3 TL], .sl 1 MP, .agg [I rd, I du, .sl 3 WL]] [] Q := fun Q hq => by
    have h := bPutIn s hs.fin (val_big hv) mi hml TL MP hT hMi t WL htw (by rw [← hx]; exact hxs.fin) Q (fun e he hne => absurd (he.trans hc0) hne) (fun e _ he hne => absurd (he.trans (by rw [← hx]; exact hxs.chk)) hne)
      (fun p hp hpe _ BL n hB hn => by
        have e : p = mp := map_cast_inj (hpe.symm.trans hmi)
        rw [e, ← hx, ← hN] at hB hn
        exact hq BL n hB hn)
    rw [htr, htd] at h
    exact h
  have hka : ∀ Q, (∀ XL, XL = x.tasks.map taskD → Q (RA.ret (.agg [I s.benches, .sl 3 XL])) []) → CallA Tryd.prog 48 [.agg [I s.benches, .sl 3 TL], .agg [I rd, I du, .sl 3 WL]] [] Q := fun Q hq => by
    have h := kAdded s (val_big hv) TL hT t WL htw Q (fun XL hXL => hq XL (by rw [hXL, hx]; rfl))
    rw [htr, htd] at h
    exact h
  refine at_code hS ?_
  refine wp_goF tokT hA hS [27, 29] ?_
  cbv
  refine ops_call hS [.agg [I s.benches, .sl 3 TL], .sl 1 MP, .agg [I rd, I du, .sl 3 WL]] [] [] rfl rfl rfl rfl rfl rfl rfl rfl (by decide) trivial (hpi _ fun BL nB hBL hnB => ?_)
  refine ops_go tokT hA hS ?_
  cbv
  refine ops_call hS [.agg [I s.benches, .sl 3 TL], .agg [I rd, I du, .sl 3 WL]] [] [] rfl rfl rfl rfl rfl rfl rfl rfl (by decide) trivial (hka _ fun XL hXL => ?_)
  refine ops_go tokT hA hS ?_
  cbv
  refine bm (fun c => Bool.noConfusion (hn0.symm.trans c)) (fun _ => ?_)
  cbv
  obtain ⟨NX, hNX⟩ : ∃ NX, NX = x.tasks.length := ⟨_, rfl⟩
  have hNXN : NX = N + 1 := by rw [hNX, hx, hN]; simp [addT]
  have hXl : XL.length = NX := by rw [hXL, hNX]; simp
  have hxlen := hxv.len
  have hxsum := hxv.sum
  have hkp : ∀ Q, (∀ RL, RL = plansD NX (nWorks x.tasks) (leftS x) [] → Q (RA.ret (.sl 1 RL)) []) → CallA Tryd.prog 66 [.agg [I s.benches, .sl 3 XL], .sl 1 []] [] Q := fun Q hq => by
    have h := kPlans x hxv XL hXL NX hNX (nWorks x.tasks) (leftS x) [] (leftS_sum x) (leftS_len hxlen) (by simp; omega) (fun i hi => leftS_out (by omega)) (fun i t h => by rw [leftS_at h]; simp) [] rfl Q hq
    rw [hxb] at h; exact h
  refine ops_call hS [.agg [I s.benches, .sl 3 XL], .v (.slice none 0 0)] [] [] rfl rfl rfl rfl rfl rfl rfl rfl (by decide) trivial
    (callA_weak (as' := [.agg [I s.benches, .sl 3 XL], .sl 1 []]) ⟨.rfl, WkD.nil, trivial⟩ (hkp _ fun RL hRL => ?_))
  obtain ⟨ps, hps⟩ : ∃ ps, ps = plansS x := ⟨_, rfl⟩
  have hRL2 : RL = ps.map fun p => .sl 1 (planL p) := by rw [hRL, plansD, hps, plansS, hNX]; simp
  obtain ⟨M, hM⟩ : ∃ M, M = ps.length := ⟨_, rfl⟩
  have hRl : RL.length = M := by rw [hRL2, hM]; simp
  have hMb : M ≤ 70000 := by
    have h1 := plansF_len NX (nWorks x.tasks) (leftS x)
    have h2 : NX ^ nWorks x.tasks ≤ 4 ^ 8 := Nat.le_trans (Nat.pow_le_pow_left (by omega) _) (Nat.pow_le_pow_right (by omega) hxsum)
    have h3 : M = (plansF NX (nWorks x.tasks) (leftS x)).length := by rw [hM, hps, plansS, hNX]
    have h4 : (4 : Nat) ^ 8 = 65536 := by decide
    omega
  have hwn : ∀ p, 0 ≤ worst x p := fun p => lastS_nn _
  obtain ⟨fl, hfl⟩ : ∃ fl : List (List Nat) → List (List Nat), fl = fun l => l.filter fun q => decide (wo N q = mp) := ⟨_, rfl⟩
  have hflT : ∀ l q, wo N q = mp → fl (l ++ [q]) = fl l ++ [q] := fun l q h => by rw [hfl]; simp [h]
  have hflF : ∀ l q, wo N q ≠ mp → fl (l ++ [q]) = fl l := fun l q h => by rw [hfl]; simp [h]
  have hfl0 : fl [] = [] := by rw [hfl]; rfl
  refine ops_go tokT hA hS ?_
  cbv
  refine at_code hS ?_
  refine wpa_loopG (α := Int × Nat × List D × Int) (fun q => { env := [(4, .b 0 0), (5, .sl 1 MP), (7, .sl 1 BL), (8, I nB), (10, .b 1 0), (11, .sl 1 q.2.2.1), (12, I q.2.2.2), (13, .sl 1 RL), (14, I q.1)], H := [.box (.agg [I s.benches, .sl 3 TL]), .box (.agg [I s.benches, .sl 3 XL])], nt := 138, dfs := [] })
    (fun q => M - q.2.1) (fun q => IsI q.1 q.2.1 ∧ q.2.1 ≤ M ∧ q.2.2.1 = planL (leastS (worst x) (fl (ps.take q.2.1))).2.1 ∧ q.2.2.2 = leastI (worst x) (fl (ps.take q.2.1))) (0, 0, [], -1) ⟨⟨rfl⟩, Nat.zero_le _, by rw [List.take_zero, hfl0]; rfl, by rw [List.take_zero, hfl0]; rfl⟩ ?_ ?_
  · refine gs_weak 11 (.sl 1 []) rfl WkD.nil ?_
    exact gs_to [0, 2] ⟨by decide, pre0, ⟨rfl, rfl, trivial⟩, ⟨rfl, rfl, rfl, rfl, rfl, rfl, rfl, rfl, rfl, trivial⟩, rfl, rfl⟩
  rintro ⟨i, k, FA, n1⟩ ⟨u1, u2, u3, u4⟩
  dsimp only at u1 u2 u3 u4
  have hmk1 : A.cmp .lss i (A.oi (A.len RL)) = false → M ≤ k := fun h => ynltL hA hRl u1 h
  have hmk2 : A.cmp .lss i (A.oi (A.len RL)) = true → k < M := fun h => yltL hA hRl u1 h
  by_cases hk : k < M
  · obtain ⟨p, hpk⟩ : ∃ p, ps[k]? = some p := ⟨_, List.getElem?_eq_getElem (by omega)⟩
    have hpo : PlanOk x p := plansS_ok hxv (by rw [← hps]; exact List.mem_of_getElem? hpk)
    obtain ⟨PL, hP⟩ : ∃ PL, PL = planL p := ⟨_, rfl⟩
    have hRk : RL[k]? = some (.sl 1 PL) := by rw [hRL2, hP]; simp [hpk]
    have htk : ps.take (k + 1) = ps.take k ++ [p] := by rw [List.take_add_one, hpk]; rfl
    have i1 := yinbL hA hRl u1 hk
    have g1 := yget hA u1 hRk
    have hf1 := yfit1 hA u1 (by omega)
    have hu1 := ysucc hA u1
    have hms : M - (k + 1) < M - k := by omega
    obtain ⟨PN, hPN⟩ : ∃ PN, PN = p.length := ⟨_, rfl⟩
    have hPN8 : PN ≤ 8 := by rw [hPN, hpo.len]; exact hxsum
    have hPl : PL.length = PN := by rw [hP, hPN]; simp [planL]
    refine wp_goF tokT hA hS [27] ?_
    cbv
    refine bm (fun _ => ?_) (fun c => absurd (hmk1 c) (by omega))
    cbv
    refine at_code hS ?_
    refine wpa_loopG (α := Int × Nat × List D × Nat) (fun r => { env := [(4, .b 0 0), (5, .sl 1 MP), (7, .sl 1 BL), (8, I nB), (10, .b 1 0), (11, .sl 1 FA), (12, I n1), (13, .sl 1 RL), (14, I i), (15, .o 2 1 r.2.2.2), (16, I r.1)], H := [.box (.agg [I s.benches, .sl 3 TL]), .box (.agg [I s.benches, .sl 3 XL]), .els 1 r.2.2.1], nt := 138, dfs := [] })
      (fun r => PN - r.2.1) (fun r => IsI r.1 r.2.1 ∧ r.2.1 ≤ PN ∧ r.2.2.1 = planL (wo N (p.take r.2.1)) ∧ r.2.2.1.length = r.2.2.2) (0, 0, [], 0) ⟨⟨rfl⟩, Nat.zero_le _, rfl, rfl⟩ ?_ ?_
    · refine gs_virt 15 1 rfl ?_
      exact gs_to [0, 1, 2] ⟨by decide, pre0, ⟨rfl, rfl, rfl, trivial⟩, ⟨rfl, rfl, rfl, rfl, rfl, rfl, rfl, rfl, rfl, rfl, rfl, trivial⟩, rfl, rfl⟩
    rintro ⟨j, m, OL, no⟩ ⟨v1, v2, v3, v4⟩
    dsimp only at v1 v2 v3 v4
    refine wp_goF tokT hA hS [27] ?_
    cbv
    refine ⟨i1, ⟨_, g1, ?_⟩⟩
    cbv
    refine bm (fun c => ?_) (fun c => ?_)
    · have hm : m < PN := yltL hA hPl v1 c
      obtain ⟨e, he⟩ : ∃ e, p[m]? = some e := ⟨_, List.getElem?_eq_getElem (by omega)⟩
      have heN : e < N + 1 := by have := hpo.lt e (List.mem_of_getElem? he); rw [← hNX, hNXN] at this; exact this
      have hPm : PL[m]? = some (I (e : Nat)) := by rw [hP]; simp [planL, he]
      have j1 := yinbL hA hPl v1 hm
      have k1 := yget hA v1 hPm
      have hfj := yfit1 hA v1 (by omega)
      have hj1 := ysucc hA v1
      have hms2 : PN - (m + 1) < PN - m := by omega
      have hno : no ≤ 8 := by rw [← v4, v3, planL, List.length_map]; exact Nat.le_trans (List.length_filter_le _ _) (by simp; omega)
      have htm : p.take (m + 1) = p.take m ++ [e] := by rw [List.take_add_one, he]; rfl
      obtain ⟨ei, hei⟩ : ∃ ei : Int, ei = (e : Nat) := ⟨_, rfl⟩
      rw [← hei] at k1
      have hd1 : A.cmp .lss ei (A.oi (A.len TL)) = true → A.app OL [I ei] = planL (wo N (p.take (m + 1))) := fun h => by
        have h2 := xlt hA h
        rw [yoiL hA hTl] at h2
        have e1 : e ≠ N := by omega
        rw [htm, wo_one e1, xapp hA, v3, hei]; simp [planL]
      have hd2 : A.cmp .lss ei (A.oi (A.len TL)) = false → OL = planL (wo N (p.take (m + 1))) := fun h => by
        have h2 := xnlt hA h
        rw [yoiL hA hTl] at h2
        have e1 : e = N := by omega
        rw [htm, e1, wo_ad, v3]
      have hr : A.room (A.addN no 1) 8 := by rw [xaddN hA]; exact yroomN hA (by omega) (by decide)
      have hol : (A.app OL [I ei]).length = A.addN no 1 := by rw [xapp hA, xaddN hA, List.length_append, v4]; rfl
      cbv
      refine draw_go tokT hA hS [0, 1, 2, 3, 4, 5, 6, 7, 8, 9, 10] rfl rfl fun Dk hD => ?_
      cbv
      refine ⟨i1, ⟨_, g1, ?_⟩⟩
      cbv
      refine ⟨j1, ⟨_, k1, ?_⟩⟩
      cbv
      refine bm (fun c2 => ?_) (fun c2 => ?_)
      · have hn := hd1 c2
        cbv
        refine ⟨i1, ⟨_, g1, ?_⟩⟩
        cbv
        refine ⟨j1, ⟨_, k1, ?_⟩⟩
        cbv
        refine ⟨yeqLen hA v4, yeqLen hA rfl, hr, hfj, ?_⟩
        refine gs_loop (A.add j 1, m + 1, A.app OL [I ei], A.addN no 1) [0, 1, 4] ⟨hj1, hm, hn, hol⟩ hms2 ?_
        exact ⟨by decide, pre0, ⟨rfl, rfl, rfl, trivial⟩, ⟨rfl, rfl, rfl, rfl, rfl, rfl, rfl, rfl, rfl, rfl, rfl, trivial⟩, rfl, rfl⟩
      · have hn := hd2 c2
        cbv
        refine ⟨hfj, ?_⟩
        refine gs_loop (A.add j 1, m + 1, OL, no) [0, 1, 2] ⟨hj1, hm, hn, v4⟩ hms2 ?_
        exact ⟨by decide, pre0, ⟨rfl, rfl, rfl, trivial⟩, ⟨rfl, rfl, rfl, rfl, rfl, rfl, rfl, rfl, rfl, rfl, rfl, trivial⟩, rfl, rfl⟩
    · have hmN : m = PN := by have := ynltL hA hPl v1 c; omega
      rw [hmN, hPN, List.take_length] at v3
      have hOi : OL = ((wo N p).map fun i : Nat => (i : Int)).map I := by rw [v3, planL, List.map_map]; rfl
      have hwl : ((wo N p).map fun i : Nat => (i : Int)).length ≤ 1152921504606846976 := by
        rw [List.length_map]; have := List.length_filter_le (fun i => !(i == N)) p; unfold wo; omega
      have e4 : A.eqN no (A.len OL) := xeqN hA (by rw [xlen hA, v4])
      cbv
      refine gs_done ?_
      cbv
      refine ops_gs hS (gs_frz hA [2] ?_)
      cbv
      repeat (refine And.intro e4 ?_)
      refine gs_done ?_
      by_cases hwo : wo N p = mp
      · have hpT := hflT (ps.take k) p hwo
        rw [← htk] at hpT
        refine ops_call hS [.sl 1 OL, .sl 1 MP] [] [] rfl rfl rfl rfl rfl rfl rfl rfl (by decide) trivial (kSameInts _ mi OL MP hOi hMi hwl true (by rw [hmi, hwo]; simp) _ ?_)
        refine ops_go tokT hA hS ?_
        cbv
        refine bm (fun c => Bool.noConfusion (hbn.symm.trans c)) (fun _ => ?_)
        cbv
        refine draw_go tokT hA hS [0, 1, 2, 3, 4, 9, 5, 6, 7, 8, 10, 11] rfl rfl fun Dk hD => ?_
        cbv
        refine ⟨i1, ⟨_, g1, ?_⟩⟩
        cbv
        have hla : ∀ Q, (∀ lo hi, lastS (runS x (fun _ => 0) p) = (lo, hi) → Q (RA.ret (.tup [.agg [I lo, I hi], I 0])) []) → CallA Tryd.prog 31 [.agg [I s.benches, .sl 3 XL], .sl 1 PL] [] Q := fun Q hq => by
          have h := bLastPlan x hxs p hpo XL PL hXL hP Q hq
          rw [hxb] at h; exact h
        refine draw_call hA hD [.agg [I s.benches, .sl 3 XL], .sl 1 PL] [] [] rfl rfl rfl rfl rfl rfl rfl rfl rfl rfl rfl (by decide) trivial (hla _ fun lo hi hlh => ⟨by cbv; repeat' (first | exact trivial | exact Need.mk ⟨_, g1, rfl⟩ | refine ⟨?_, ?_⟩), draw_on tokT hA hD ?_⟩)
        have hwo' : worst x p = hi := by rw [worst, hlh]
        have hyes1 : n1 < 0 ∨ hi < n1 → PL = planL (leastS (worst x) (fl (ps.take (k + 1)))).2.1 ∧ hi = leastI (worst x) (fl (ps.take (k + 1))) := fun h => by
          rw [hpT, hP, ← hwo']; exact leastI_y' hwn (by rw [← u4, hwo']; exact h)
        have hno1 : 0 ≤ n1 → n1 ≤ hi → FA = planL (leastS (worst x) (fl (ps.take (k + 1)))).2.1 ∧ n1 = leastI (worst x) (fl (ps.take (k + 1))) := fun h h2 => by
          rw [hpT, u3, u4]; exact leastI_n' (by rw [← u4]; exact h) (by rw [← u4, hwo']; exact h2)
        cbv
        refine bm (fun c => Bool.noConfusion (hn0.symm.trans c)) (fun _ => ?_)
        cbv
        refine region_part tokT hA hS [0, 1] [2, 3, 4, 5, 6, 7] rfl ?_
        cbv
        by_cases z1 : n1 < 0
        · have hy1 := hyes1 (.inl z1)
          refine part_is tokT hA hS 114 (.v (.bool true)) rfl (congrArg (fun b => D.v (.bool b)) (yltT hA z1)) [2, 3, 4, 5, 6, 7] [] ?_
          cbv
          refine at_ops hS (ops_go tokT hA hS ?_)
          cbv
          refine draw_go tokT hA hS [0, 1, 2, 3, 4, 5, 6, 7] rfl rfl fun Dk4 hD4 => ?_
          cbv
          refine ⟨i1, ⟨_, g1, ?_⟩⟩
          cbv
          refine ⟨hf1, ?_⟩
          refine gs_loop (A.add i 1, k + 1, PL, hi) [0, 1] ⟨hu1, hk, hy1.1, hy1.2⟩ hms ?_
          exact ⟨by decide, pre0, ⟨rfl, rfl, trivial⟩, ⟨rfl, rfl, rfl, rfl, rfl, rfl, rfl, rfl, rfl, trivial⟩, rfl, rfl⟩
        · have hz := yltF hA (show 0 ≤ n1 by omega)
          refine part_is tokT hA hS 114 (.v (.bool false)) rfl (congrArg (fun b => D.v (.bool b)) hz) [2, 3, 4, 5, 6] [7] ?_
          cbv
          by_cases z4 : hi < n1
          · have hy1 := hyes1 (.inr z4)
            refine part_is tokT hA hS 119 (.v (.bool true)) rfl (congrArg (fun b => D.v (.bool b)) (yltT hA z4)) [7] [] ?_
            cbv
            refine at_ops hS (ops_go tokT hA hS ?_)
            cbv
            refine draw_go tokT hA hS [0, 1, 2, 3, 4, 5, 6, 7] rfl rfl fun Dk4 hD4 => ?_
            cbv
            refine ⟨i1, ⟨_, g1, ?_⟩⟩
            cbv
            refine ⟨hf1, ?_⟩
            refine gs_loop (A.add i 1, k + 1, PL, hi) [0, 1] ⟨hu1, hk, hy1.1, hy1.2⟩ hms ?_
            exact ⟨by decide, pre0, ⟨rfl, rfl, trivial⟩, ⟨rfl, rfl, rfl, rfl, rfl, rfl, rfl, rfl, rfl, trivial⟩, rfl, rfl⟩
          · have hz1 := hno1 (by omega) (by omega)
            refine part_is tokT hA hS 119 (.v (.bool false)) rfl (congrArg (fun b => D.v (.bool b)) (yltF hA (show n1 ≤ hi by omega))) [7] [] ?_
            cbv
            refine at_ops hS (ops_go tokT hA hS ?_)
            cbv
            refine ⟨hf1, ?_⟩
            refine gs_loop (A.add i 1, k + 1, FA, n1) [0, 1] ⟨hu1, hk, hz1.1, hz1.2⟩ hms ?_
            exact ⟨by decide, pre0, ⟨rfl, rfl, trivial⟩, ⟨rfl, rfl, rfl, rfl, rfl, rfl, rfl, rfl, rfl, trivial⟩, rfl, rfl⟩
      · have hpF := hflF (ps.take k) p hwo
        rw [← htk] at hpF
        have hbf : A.bnot false = true := by subst hA; rfl
        have hnx1 : FA = planL (leastS (worst x) (fl (ps.take (k + 1)))).2.1 := by rw [hpF]; exact u3
        have hnx2 : n1 = leastI (worst x) (fl (ps.take (k + 1))) := by rw [hpF]; exact u4
        refine ops_call hS [.sl 1 OL, .sl 1 MP] [] [] rfl rfl rfl rfl rfl rfl rfl rfl (by decide) trivial (kSameInts _ mi OL MP hOi hMi hwl false (by rw [hmi]; exact (decide_eq_false fun h => hwo (map_cast_inj h)).symm) _ ?_)
        refine ops_go tokT hA hS ?_
        cbv
        refine bm (fun _ => ?_) (fun c => Bool.noConfusion (hbf.symm.trans c))
        cbv
        refine ⟨hf1, ?_⟩
        refine gs_loop (A.add i 1, k + 1, FA, n1) [0, 1] ⟨hu1, hk, hnx1, hnx2⟩ hms ?_
        exact ⟨by decide, pre0, ⟨rfl, rfl, trivial⟩, ⟨rfl, rfl, rfl, rfl, rfl, rfl, rfl, rfl, rfl, trivial⟩, rfl, rfl⟩
  · have hkM : k = M := by omega
    have htl : ps.take k = ps := List.take_of_length_le (by omega)
    rw [htl] at u3 u4
    have hmd : Made N mp (leftS x) [] := made_add hx hmp hN
    have hfe : plansK N mp x = fl ps := by rw [plansK_eq hmd, hfl, hps]
    have hne : fl ps ≠ [] := by
      rw [hfl, hps, hx, hN]
      exact plansK_ne hmp (by rw [← hx]; exact hxs)
    rw [hfe] at hBL hnB
    have hA1 : FA = BL := by rw [u3, hBL]
    have hN1 : nB = n1 := by rw [u4, hnB, leastI, if_pos (leastS_ne hne)]
    have hc1 : A.cmp .eql nB n1 = true := by rw [hN1]; exact yeqT hA n1
    obtain ⟨QB, hQB⟩ : ∃ QB : List Int, QB = (leastS (worst x) (fl ps)).2.1.map fun n => ((n : Nat) : Int) := ⟨_, rfl⟩
    have hbl8 : (leastS (worst x) (fl ps)).2.1.length ≤ 8 := by
      rcases leastS_mem (num := worst x) (fl ps) with h | h
      · rw [h]; simp
      · have h2 : (leastS (worst x) (fl ps)).2.1 ∈ plansS x := by
          rw [← hfe] at h ⊢; exact plansK_sub hmd h
        rw [(plansS_ok hxv h2).len]; exact hxsum
    have hQBl : QB.length ≤ 1152921504606846976 := by rw [hQB, List.length_map]; omega
    have hBL2 : BL = QB.map I := by rw [hBL, hQB, planL]; simp
    have hFA2 : FA = QB.map I := by rw [hA1, hBL2]
    refine wp_goF tokT hA hS [29] ?_
    cbv
    refine bm (fun c => absurd (hmk2 c) hk) (fun _ => ?_)
    cbv
    refine gs_done ?_
    cbv
    refine region_part tokT hA hS [0, 1, 2] [3, 4, 5, 6, 7, 8, 9, 10, 11] rfl ?_
    cbv
    refine part_is tokT hA hS 129 (.v (.bool true)) rfl (congrArg (fun b => D.v (.bool b)) hc1) [3, 4, 5, 6] [7, 8, 9, 10, 11] ?_
    cbv
    refine ops_callG hS (b := true) rfl rfl rfl rfl rfl rfl rfl rfl (fun _ => ⟨[], _, [.sl 1 BL, .sl 1 FA], [], [], rfl, rfl, rfl, by decide, trivial, kSameInts QB QB BL FA hBL2 hFA2 hQBl true (by simp) _ ?_⟩) (fun h => absurd rfl h)
    refine ops_go tokT hA hS ?_
    cbv
    refine ops_callG hS (b := true) rfl rfl rfl rfl rfl rfl rfl rfl (fun _ => ⟨[], _, [], [], [], rfl, rfl, rfl, by decide, trivial, filing _ ?_⟩) (fun h => absurd rfl h)
    refine ops_go tokT hA hS ?_
    cbv
    exact gh_view [] (by decide) pre0 (H' := []) (d' := .v (.bool true)) trivial rfl (gh_done hq)
end Go.Proofs.YtmloogdalecilaaDoor
