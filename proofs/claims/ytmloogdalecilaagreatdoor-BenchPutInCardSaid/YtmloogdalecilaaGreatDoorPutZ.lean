/- Part PutZ of the proofs about the benches of the accordion maker: see the last text of the claim for what is proved. -/
import Derived.Test.YtmloogdalecilaaGreatDoorPutY
import Derived.Test.YtmloogdalecilaaGreatDoorRunsY
import Derived.Test.YtmloogdalecilaaGreatDoorLoadsC
set_option linter.unusedVariables false
set_option linter.unusedSimpArgs false
set_option linter.unnecessarySimpa false
set_option linter.constructorNameAsVariable false

/-! Y4 -/
namespace Go.Proofs.YtmloogdalecilaaGreatDoor
open Go Go.Abs Go.Proofs

theorem scan_whole {s : Sh} : ∀ (rest p0 : List Nat), (∀ i ∈ rest, i < s.tasks.length) → (∀ i, i < s.tasks.length → (p0 ++ rest).count i ≤ (s.tasks.getD i default).works.length) → scanP s p0 (rest.map fun i : Nat => (i : Int)) = (0, p0 ++ rest)
  | [], p0, _, _ => by simp [scanP]
  | x :: rest, p0, h1, h2 => by
    have hx := h1 x List.mem_cons_self
    have hc := h2 x hx
    rw [List.count_append, List.count_cons_self] at hc
    rw [List.map_cons, scanP, if_neg (fun h => h ⟨by omega, by omega⟩), Int.toNat_natCast, if_neg (by omega)]
    rw [scan_whole rest (p0 ++ [x]) (fun i hi => h1 i (List.mem_cons_of_mem _ hi)) (fun i hi => by rw [List.append_assoc]; exact h2 i hi)]
    simp
theorem chkSP_ok {s : Sh} (hs : chkS s = 0) {p : List Nat} (hp : PlanOk s p) {pl : List Int} (h : pl = p.map fun i : Nat => (i : Int)) : chkSP s pl = 0 := by
  have h1 := scan_whole (s := s) p [] hp.lt (fun i hi => by rw [List.nil_append, hp.cnt i hi]; exact Nat.le_refl _)
  rw [chkSP, if_neg (fun h => h hs), chkP, h, h1]
  rw [if_neg (by simp), if_neg (by have := hp.len; simp; omega)]

/-- A shop with an order less keeps to the bounds, too. -/
theorem chkTs_app {b : Int} {l : List Tk} {t : Tk} (h : chkTs b (l ++ [t]) = 0) : chkTs b l = 0 := by
  induction l with
  | nil => rfl
  | cons x l ih =>
    simp only [List.cons_append, chkTs] at h ⊢
    by_cases e : chkT b x = 0
    · rw [if_pos e] at h ⊢; exact ih h
    · rw [if_neg e] at h; exact absurd h e
theorem chkS_less {s : Sh} {t : Tk} (h : chkS (addT s t) = 0) : chkS s = 0 := by
  have hv := chkS_val h
  have h1 : Val s := by
    refine ⟨hv.b0, hv.b1, ?_, fun x hx => hv.rd x (List.mem_append_left _ hx), fun x hx => hv.du x (List.mem_append_left _ hx), fun x hx => hv.ne x (List.mem_append_left _ hx), fun x hx w hw => hv.wk x (List.mem_append_left _ hx) w hw, ?_⟩
    · have := hv.len; simp [addT] at this; omega
    · have := hv.sum; simp [addT, nWorks] at this ⊢; omega
  exact (val_chk h1).chk

/-- What PutIn says of any shop, plan and order. -/
def putN (s : Sh) (pl : List Int) (t : Tk) : List Int × Int × Int :=
  if chkSP s pl = 0 then (if chkS (addT s t) = 0 then ((leastS (worst (addT s t)) (plansK s.tasks.length (pl.map Int.toNat) (addT s t))).2.1.map (fun i : Nat => (i : Int)), (leastS (worst (addT s t)) (plansK s.tasks.length (pl.map Int.toNat) (addT s t))).2.2, 0) else ([], 0, chkS (addT s t))) else ([], 0, chkSP s pl)

theorem putN_len {s : Sh} {pl : List Int} {t : Tk} (hs : Fin s) : (putN s pl t).1.length ≤ 8 := by
  rw [putN]
  by_cases h1 : chkSP s pl = 0
  · rw [if_pos h1]
    by_cases h2 : chkS (addT s t) = 0
    · rw [if_pos h2]
      obtain ⟨-, p, hp, hpe⟩ := planX_of hs h1
      have hxv := chkS_val h2
      have hmd : Made s.tasks.length p (leftS (addT s t)) [] := made_add rfl hp rfl
      rw [hpe, toNat_mapX]
      show (List.map _ _).length ≤ 8
      rw [List.length_map]
      rcases leastS_mem (num := worst (addT s t)) (plansK s.tasks.length p (addT s t)) with h | h
      · rw [h]; simp
      · rw [(plansS_ok hxv (plansK_sub hmd h)).len]; exact hxv.sum
    · rw [if_neg h2]; simp
  · rw [if_neg h1]; simp

section
variable (s : Sh) (hs : Fin s) (hb : NotBig s) (pl : List Int) (hpl : pl.length ≤ 1000000) (TL PL : List D) (hT : TL = s.tasks.map taskD) (hP : PL = pl.map I) (t : Tk) (WL : List D) (hW : WL = t.works.map workD) (hx : Fin (addT s t))

include hs hb hpl hT hP hW hx in
theorem bPutInAll (Q) (hq : ∀ a n e, (a, n, e) = putN s pl t → ∀ L, L = a.map I → Q (RA.ret (.tup [.sl 1 L, I n, I e])) []) : CallA Tryz.prog 20 [.agg [I s.benches, .sl 3 TL], .sl 1 PL, .agg [I t.ready, I t.due, .sl 3 WL]] [] Q := by
  refine callA_gh (bPutIn s hs hb pl hpl TL PL hT hP t WL hW hx (ghQ ([] : List Blk).length Q) (fun e he hne => ?_) (fun e h0 he hne => ?_) (fun p hp hpe hok BL n hB hn => ?_))
  · have := hq [] 0 e (by rw [putN, if_neg (by rw [← he]; exact hne), he]) [] rfl
    exact gh_weak (d' := .tup [.sl 1 [], I 0, I e]) (.tup ⟨.nil, .rfl, .rfl, trivial⟩) (gh_done this)
  · have := hq [] 0 e (by rw [putN, if_pos h0, if_neg (by rw [← he]; exact hne), he]) [] rfl
    exact gh_weak (d' := .tup [.sl 1 [], I 0, I e]) (.tup ⟨.nil, .rfl, .rfl, trivial⟩) (gh_done this)
  · refine gh_done (hq _ n 0 ?_ BL (by rw [hB, planL_ints]))
    rw [putN, if_pos (chkSP_ok (chkS_less hok.chk) hp hpe), if_pos hok.chk, hn, hpe, toNat_mapX]

include hs hb hpl hT hP hW hx in
theorem rPutInAll (Q) (hq : ∀ a n e, (a, n, e) = putN s pl t → ∀ L, L = a.map I → Q (RA.ret (.tup [.sl 1 L, I n, I e])) []) : CallA Tryz.prog 21 [.agg [I s.benches, .sl 3 TL], .sl 1 PL, .agg [I t.ready, I t.due, .sl 3 WL]] [] Q := by
  refine callA_gh (rPutIn s hs hb pl hpl TL PL hT hP t WL hW hx (ghQ ([] : List Blk).length Q) (fun e he hne => ?_) (fun e h0 he hne => ?_) (fun p hp hpe hok BL n hB hn => ?_))
  · have := hq [] 0 e (by rw [putN, if_neg (by rw [← he]; exact hne), he]) [] rfl
    exact gh_weak (d' := .tup [.sl 1 [], I 0, I e]) (.tup ⟨.nil, .rfl, .rfl, trivial⟩) (gh_done this)
  · have := hq [] 0 e (by rw [putN, if_pos h0, if_neg (by rw [← he]; exact hne), he]) [] rfl
    exact gh_weak (d' := .tup [.sl 1 [], I 0, I e]) (.tup ⟨.nil, .rfl, .rfl, trivial⟩) (gh_done this)
  · refine gh_done (hq _ n 0 ?_ BL (by rw [hB, planL_ints]))
    rw [putN, if_pos (chkSP_ok (chkS_less hok.chk) hp hpe), if_pos hok.chk, hn, hpe, toNat_mapX]

end

set_option maxRecDepth 20000 in
set_option maxHeartbeats 16000000 in
/-- BenchPutIn. -/
theorem wBenchPutIn (s : Sh) (hs : Fin s) (TL : List D) (hT : TL = s.tasks.map taskD) (pl : List Int) (PL : List D) (hP : PL = pl.map I) (t : Tk) (ht : t.works.length ≤ 1152921504606846976) (WL : List D) (hW : WL = t.works.map workD) (L : List D) (nums : List Int) (hL : L = nums.map I) (hl : L.length ≤ 9223372036854775807) (Q) (hq : Q (RA.ret (.v (.bool true))) []) :
    CallA Tryz.prog 3 [.agg [I s.benches, .sl 3 TL], .sl 1 PL, .agg [I t.ready, I t.due, .sl 3 WL], .sl 1 L] [] Q := by
  obtain ⟨A, hA⟩ : ∃ A, A = ar := ⟨_, rfl⟩
  have hbn : A.bnot true = false := by subst hA; rfl
  have hPl : PL.length = pl.length := by rw [hP]; simp
  obtain ⟨hb, hhb⟩ : ∃ b, b = decide (20 < t.works.length) := ⟨_, rfl⟩
  refine callA_startF tokT hA [9] Tryz.func3 rfl rfl rfl rfl rfl fun S hS => ?_
  cbv
  refine ops_call hS [.agg [I s.benches, .sl 3 TL]] [] [] rfl rfl rfl rfl rfl rfl rfl rfl (by decide) trivial (kBig s hs TL hT _ ?_ fun hnb => ?_)
  · refine ops_go tokT hA hS ?_
    cbv
    refine ops_callG (f := 0) hS rfl rfl rfl rfl rfl rfl rfl rfl (fun e => Bool.noConfusion e) (fun _ => ?_)
    refine ops_go tokT hA hS ?_
    cbv
    refine ops_call hS [] [] [] rfl rfl rfl rfl rfl rfl rfl rfl (by decide) trivial (filing _ ?_)
    refine ops_go tokT hA hS ?_
    cbv
    exact gh_view [] (by decide) pre0 (H' := []) (d' := .v (.bool true)) trivial rfl (gh_done hq)
  refine ops_go tokT hA hS ?_
  cbv
  cases hb with
  | true =>
    refine ops_callG hS rfl rfl rfl rfl rfl rfl rfl rfl (fun _ => ⟨[], _, [.agg [I t.ready, I t.due, .sl 3 WL]], [], [], rfl, rfl, rfl, by decide, trivial, kHuge t WL hW true hhb _ ?_⟩) (fun h => absurd rfl h)
    refine ops_go tokT hA hS ?_
    cbv
    refine ops_call hS [] [] [] rfl rfl rfl rfl rfl rfl rfl rfl (by decide) trivial (filing _ ?_)
    refine ops_go tokT hA hS ?_
    cbv
    exact gh_view [] (by decide) pre0 (H' := []) (d' := .v (.bool true)) trivial rfl (gh_done hq)
  | false =>
  have ht20 : t.works.length ≤ 20 := by have := of_decide_eq_false hhb.symm; omega
  refine ops_callG hS rfl rfl rfl rfl rfl rfl rfl rfl (fun _ => ⟨[], _, [.agg [I t.ready, I t.due, .sl 3 WL]], [], [], rfl, rfl, rfl, by decide, trivial, kHuge t WL hW false hhb _ ?_⟩) (fun h => absurd rfl h)
  refine ops_go tokT hA hS ?_
  cbv
  refine bm (fun c => ?_) (fun c => ?_)
  · cbv
    refine ops_call hS [] [] [] rfl rfl rfl rfl rfl rfl rfl rfl (by decide) trivial (filing _ ?_)
    refine ops_go tokT hA hS ?_
    cbv
    exact gh_view [] (by decide) pre0 (H' := []) (d' := .v (.bool true)) trivial rfl (gh_done hq)
  have hp20 : pl.length ≤ 20 := by
    have h : A.oi (A.len PL) ≤ 20 := xngt hA c
    rw [yoiL hA hPl] at h; omega
  cbv
  refine ops_call hS [.sl 1 L] [] [] rfl rfl rfl rfl rfl rfl rfl rfl (by decide) trivial (newPotL L nums hL hl _ fun x0 => ?_)
  refine ops_go tokT hA hS ?_
  cbv
  refine ops_call hS [.b 0 0, I 3, I 4] [2] [pot x0] rfl rfl rfl rfl rfl rfl rfl rfl (by decide) ⟨rfl, trivial⟩ (shopOf x0 3 4 (by decide) (by decide) _ fun m x1 hok => ?_)
  obtain ⟨hm1, hm2⟩ := okS_small hok (by decide) (by decide)
  have hmk : ShopOk m := okS_shop hok (by decide) (by decide)
  have hmv := chkS_val hmk.chk
  have hb0 := hok.b0
  have hb1 := hok.b1
  obtain ⟨ML, hM⟩ : ∃ ML, ML = m.tasks.map taskD := ⟨_, rfl⟩
  unfold shopD
  rw [← hM]
  refine ops_go tokT hA hS ?_
  cbv
  refine ops_call hS [.b 0 0, .agg [I m.benches, .sl 3 ML]] [2] [pot x1] rfl rfl rfl rfl rfl rfl rfl rfl (by decide) ⟨rfl, trivial⟩ (planOf x1 m (by have := hmv.sum; omega) (by have := hmv.len; omega) ML hM _ fun mp MP x2 hmp hMP => ?_)
  obtain ⟨mi, hmi⟩ : ∃ mi : List Int, mi = mp.map (fun i : Nat => (i : Int)) := ⟨_, rfl⟩
  have hMi : MP = mi.map I := by rw [hMP, hmi, List.map_map]; rfl
  have hml : mi.length ≤ 20 := by rw [hmi, List.length_map, hmp.len]; have := hmv.sum; omega
  refine ops_go tokT hA hS ?_
  cbv
  refine draw_go tokT hA hS [0, 2, 3, 4, 8, 1, 5, 6, 7, 9] rfl rfl fun Dk hD => ?_
  cbv
  refine draw_call hA hD [.b 0 0, I 5] [2] [pot x2] rfl rfl rfl rfl rfl rfl rfl rfl rfl rfl rfl (by decide) ⟨rfl, trivial⟩ (upto x2 5 (by decide) _ fun rd x3 hr1 hr2 => ⟨by cbv, draw_on tokT hA hD ?_⟩)
  cbv
  refine draw_call hA hD [.b 0 0, I m.benches] [2] [pot x3] rfl rfl rfl rfl rfl rfl rfl rfl rfl rfl rfl (by decide) ⟨rfl, trivial⟩ (workOf x3 m.benches ⟨hb0, hb1⟩ _ fun w1 x5 hw1 => ⟨by cbv, draw_on tokT hA hD ?_⟩)
  cbv
  refine ops_call hS [.b 0 0, I 1, I 2] [2] [pot x5] rfl rfl rfl rfl rfl rfl rfl rfl (by decide) ⟨rfl, trivial⟩ (odds x5 1 2 (by decide) _ fun bo x6 => ?_)
  refine ops_go tokT hA hS ?_
  cbv
  refine' bm2 (S := S) (α := List D) (fun q => { env := [(1, .sl 1 PL), (4, .b 0 0), (6, .b 1 0), (10, .b 2 0), (11, .sl 1 MP), (12, .b 3 0)], H := [.box (.agg [I s.benches, .sl 3 TL]), .box (.agg [I t.ready, I t.due, .sl 3 WL]), .box (.agg [I m.benches, .sl 3 ML]), .box (.agg [I rd, I 9, .sl 3 q])], nt := 181, dfs := [] }) (fun q => ∃ ws : List Wk, q = ws.map workD ∧ ws.length ≤ 2) (fun rest _ => ?h1) (fun rest _ => ?h2) ?h3
  case h1 =>
    cbv
    refine draw_go tokT hA hS [0, 1, 2, 3, 4, 5, 6, 7, 8, 9] rfl rfl fun Dk hD => ?_
    cbv
    refine draw_call hA hD [.b 0 0, I m.benches] [2] [pot x6] rfl rfl rfl rfl rfl rfl rfl rfl rfl rfl rfl (by decide) ⟨rfl, trivial⟩ (workOf x6 m.benches ⟨hb0, hb1⟩ _ fun w2 x7 hw2 => ⟨by cbv, draw_on tokT hA hD ?_⟩)
    cbv
    have hr : A.room (A.addN 1 1) 24 := by rw [xaddN hA]; exact yroomN hA (by omega) (by decide)
    refine ⟨yeqLen hA rfl, yeqLen hA rfl, hr, ?_⟩
    obtain ⟨X, hX⟩ : ∃ X, X = A.app [.agg [I w1.b, I w1.lo, I w1.hi]] [.agg [I w2.b, I w2.lo, I w2.hi]] := ⟨_, rfl⟩
    have hXe : X = [w1, w2].map workD := by rw [hX, xapp hA]; rfl
    have e2 : A.eqN (A.addN 1 1) (A.len X) := xeqN hA (by rw [xlen hA, xaddN hA, hXe]; rfl)
    refine join_at hS rest X ⟨[w1, w2], hXe, by simp⟩ ?_
    refine gs_elsE 7 rfl hX.symm ?_
    refine gs_frz hA [7] ?_
    cbv
    repeat (refine And.intro e2 ?_)
    exact gs_to [0, 1, 3, 4] ⟨by decide, pre0, ⟨rfl, rfl, rfl, rfl, trivial⟩, ⟨rfl, rfl, rfl, rfl, rfl, rfl, trivial⟩, rfl, rfl⟩
  case h2 =>
    cbv
    have e1 : A.eqN 1 (A.len [.agg [I w1.b, I w1.lo, I w1.hi]]) := yeqLen hA rfl
    refine join_at hS rest [workD w1] ⟨[w1], rfl, by simp⟩ ?_
    refine gs_frz hA [5] ?_
    cbv
    repeat (refine And.intro e1 ?_)
    exact gs_to [0, 1, 3, 4] ⟨by decide, pre0, ⟨rfl, rfl, rfl, rfl, trivial⟩, ⟨rfl, rfl, rfl, rfl, rfl, rfl, trivial⟩, rfl, rfl⟩
  rintro VL ⟨ws, hVL, hw2⟩
  obtain ⟨ta, hta⟩ : ∃ ta : Tk, ta = ⟨rd, 9, ws⟩ := ⟨_, rfl⟩
  have haV : VL = ta.works.map workD := by rw [hVL, hta]
  obtain ⟨SS, hSS⟩ : ∃ SS : List D, SS = [.agg [I s.benches, .sl 3 TL], .agg [I m.benches, .sl 3 ML], .agg [I m.benches, .sl 3 ML]] := ⟨_, rfl⟩
  have hSl : SS.length = 3 := by rw [hSS]; rfl
  obtain ⟨PS, hPS⟩ : ∃ PS : List D, PS = [.sl 1 PL, .sl 1 MP, .sl 1 MP] := ⟨_, rfl⟩
  have hPSl : PS.length = 3 := by rw [hPS]; rfl
  obtain ⟨TS, hTS⟩ : ∃ TS : List D, TS = [.agg [I t.ready, I t.due, .sl 3 WL], .agg [I rd, I 9, .sl 3 VL], .agg [I t.ready, I t.due, .sl 3 WL]] := ⟨_, rfl⟩
  have hTSl : TS.length = 3 := by rw [hTS]; rfl
  refine at_code hS ?_
  refine wp_go tokT hA hS ?_
  cbv
  refine draw_go tokT hA hS [0, 1, 2, 3, 4, 5, 6, 7, 8, 9, 10, 11, 12, 13, 14] rfl rfl fun Dk hD => ?_
  cbv
  refine at_code hS ?_
  refine wpa_loopG (α := Int × Nat) (fun q => { env := [(13, .sl 2 SS), (14, .sl 1 PS), (15, .sl 3 TS), (16, I q.1)], H := [], nt := 181, dfs := [] })
    (fun q => 3 - q.2) (fun q => q.2 ≤ 3 ∧ IsI q.1 q.2) (0, 0) ⟨by decide, ⟨rfl⟩⟩ ?_ ?_
  · refine gs_frz hA [4, 5, 6] ?_
    cbv
    repeat (refine And.intro (yeqLen hA rfl) ?_)
    exact gs_to [] ⟨by decide, pre0, trivial, ⟨by rw [hSS]; rfl, by rw [hPS]; rfl, by rw [hTS]; rfl, rfl, trivial⟩, rfl, rfl⟩
  rintro ⟨i, k⟩ ⟨u1, u2⟩
  dsimp only at u1 u2
  refine wp_goF tokT hA hS [] ?_
  cbv
  refine bm (fun c => ?_) (fun c => ?_)
  · have hk : k < 3 := yltL hA hSl u2 c
    obtain ⟨z, ZL, q, QL, y, YL, hz1, hz2, hZ, hq20, hQ, hy20, hY, hSk, hPk, hTk⟩ : ∃ (z : Sh) (ZL : List D) (q : List Int) (QL : List D) (y : Tk) (YL : List D), Fin z ∧ NotBig z ∧ ZL = z.tasks.map taskD ∧ q.length ≤ 20 ∧ QL = q.map I ∧ y.works.length ≤ 20 ∧ YL = y.works.map workD ∧ SS[k]? = some (.agg [I z.benches, .sl 3 ZL]) ∧ PS[k]? = some (.sl 1 QL) ∧ TS[k]? = some (.agg [I y.ready, I y.due, .sl 3 YL]) := by
      match k, hk with
      | 0, _ => exact ⟨s, TL, pl, PL, t, WL, hs, hnb, hT, hp20, hP, ht20, hW, by rw [hSS]; rfl, by rw [hPS]; rfl, by rw [hTS]; rfl⟩
      | 1, _ => exact ⟨m, ML, mi, MP, ta, VL, hm1, hm2, hM, hml, hMi, by rw [hta]; show ws.length ≤ 20; omega, haV, by rw [hSS]; rfl, by rw [hPS]; rfl, by rw [hTS, hta]; rfl⟩
      | 2, _ => exact ⟨m, ML, mi, MP, t, WL, hm1, hm2, hM, hml, hMi, ht20, hW, by rw [hSS]; rfl, by rw [hPS]; rfl, by rw [hTS]; rfl⟩
    have iS := yinbL hA hSl u2 hk
    have gS := yget hA u2 hSk
    have iP := yinbL hA hPSl u2 hk
    have gP := yget hA u2 hPk
    have iT := yinbL hA hTSl u2 hk
    have gT := yget hA u2 hTk
    have hf := yfit1 hA u2 (by omega)
    have hu2 := ysucc hA u2
    have hms : 3 - (k + 1) < 3 - k := by omega
    have hQl : QL.length ≤ 1048576 := by rw [hQ, List.length_map]; omega
    have hqM : q.length ≤ 1000000 := by omega
    have hyM : y.works.length ≤ 1152921504606846976 := by omega
    have hzx : Fin (addT z y) := by
      refine ⟨by have := hz2.1; simp [addT]; omega, fun w hw => ?_⟩
      rcases List.mem_append.1 hw with hw | hw
      · exact hz1.2 w hw
      · rw [List.mem_singleton.1 hw]; exact hyM
    have hm2 : ∀ XL, XL = (z.tasks ++ [y]).map taskD → ∀ Q, Q (RA.ret (.v (.bool true))) [] → (∀ b, Q (RA.ret (.v (.bool b))) []) → CallA Tryz.prog 16 [.agg [I z.benches, .sl 3 XL]] [] Q := fun XL hX Q h1 h2 => kMany (addT z y) hzx XL hX Q h1 (fun _ => h2)
    have hz0 : NotBig ⟨0, []⟩ := ⟨Nat.zero_le _, fun t h => by cases h⟩
    have hz1' : NotBig ⟨0, [y]⟩ := ⟨by simp, fun t h => by rw [List.mem_singleton.1 h]; exact hy20⟩
    have i0 : ∀ XL : List D, XL.length = 1 → A.inb 0 (A.len XL) := fun XL h => yinbL hA h ⟨rfl⟩ (by decide)
    have g0 : ∀ XL : List D, XL[0]? = some (.agg [I y.ready, I y.due, .sl 3 YL]) → A.get XL (A.tn 0) = some (.agg [I y.ready, I y.due, .sl 3 YL]) := fun XL h => yget hA ⟨rfl⟩ h
    cbv
    refine draw_go tokT hA hS [0, 1, 2, 3, 4, 5, 6, 7, 8, 9] rfl rfl fun Dk hD => ?_
    cbv
    refine ⟨iS, ⟨_, gS, ?_⟩⟩
    cbv
    refine ⟨iT, ⟨_, gT, ?_⟩⟩
    cbv
    refine draw_call hA hD [.agg [I z.benches, .sl 3 ZL], .agg [I y.ready, I y.due, .sl 3 YL]] [] [] rfl rfl rfl rfl rfl rfl rfl rfl rfl rfl rfl (by decide) trivial (kAdded z hz2 ZL hZ y YL hY _ fun XL hXL => ⟨by cbv; repeat' (first | exact trivial | exact Need.mk ⟨_, gS, rfl⟩ | exact Need.mk ⟨_, gP, rfl⟩ | exact Need.mk ⟨_, gT, rfl⟩ | refine ⟨?_, ?_⟩), draw_on tokT hA hD ?_⟩)
    cbv
    refine draw_call hA hD [.agg [I z.benches, .sl 3 XL]] [] [] rfl rfl rfl rfl rfl rfl rfl rfl rfl rfl rfl (by decide) trivial (hm2 XL hXL _ ⟨by cbv; repeat' (first | exact trivial | exact Need.mk ⟨_, gS, rfl⟩ | exact Need.mk ⟨_, gP, rfl⟩ | exact Need.mk ⟨_, gT, rfl⟩ | refine ⟨?_, ?_⟩), draw_on tokT hA hD ?_⟩ fun bb => ⟨by cbv; repeat' (first | exact trivial | exact Need.mk ⟨_, gS, rfl⟩ | exact Need.mk ⟨_, gP, rfl⟩ | exact Need.mk ⟨_, gT, rfl⟩ | refine ⟨?_, ?_⟩), draw_on tokT hA hD ?_⟩)
    · cbv
      refine ⟨hf, ?_⟩
      refine gs_loop (A.add i 1, k + 1) [] ⟨hk, hu2⟩ hms ?_
      exact ⟨by decide, pre0, trivial, ⟨rfl, rfl, rfl, rfl, trivial⟩, rfl, rfl⟩
    cbv
    refine bm (fun _ => ?_) (fun _ => ?_)
    · cbv
      refine ⟨hf, ?_⟩
      refine gs_loop (A.add i 1, k + 1) [] ⟨hk, hu2⟩ hms ?_
      exact ⟨by decide, pre0, trivial, ⟨rfl, rfl, rfl, rfl, trivial⟩, rfl, rfl⟩
    cbv
    refine draw_go tokT hA hS [0, 1, 2, 3, 5, 6, 7, 8, 10, 4, 9, 11, 12] rfl rfl fun Dk hD => ?_
    cbv
    refine ⟨iS, ⟨_, gS, ?_⟩⟩
    cbv
    refine ⟨iP, ⟨_, gP, ?_⟩⟩
    cbv
    refine draw_call hA hD [.agg [I z.benches, .sl 3 ZL]] [] [] rfl rfl rfl rfl rfl rfl rfl rfl rfl rfl rfl (by decide) trivial (kCopyShop z hz2 ZL hZ _ ⟨by cbv; repeat' (first | exact trivial | exact Need.mk ⟨_, gS, rfl⟩ | exact Need.mk ⟨_, gP, rfl⟩ | exact Need.mk ⟨_, gT, rfl⟩ | refine ⟨?_, ?_⟩), draw_on tokT hA hD ?_⟩)
    cbv
    refine draw_call hA hD [.sl 1 QL] [] [] rfl rfl rfl rfl rfl rfl rfl rfl rfl rfl rfl (by decide) trivial (intsF QL hQl _ ⟨by cbv; repeat' (first | exact trivial | exact Need.mk ⟨_, gS, rfl⟩ | exact Need.mk ⟨_, gP, rfl⟩ | exact Need.mk ⟨_, gT, rfl⟩ | refine ⟨?_, ?_⟩), draw_on tokT hA hD ?_⟩)
    cbv
    refine ⟨iT, ⟨_, gT, ?_⟩⟩
    cbv
    refine ops_call hS [.agg [I 0, .v (.slice none 0 0)], .agg [I y.ready, I y.due, .sl 3 YL]] [] [] rfl rfl rfl rfl rfl rfl rfl rfl (by decide) trivial
      (callA_weak (as' := [.agg [I 0, .sl 3 []], .agg [I y.ready, I y.due, .sl 3 YL]]) ⟨WkD.agg ⟨.rfl, WkD.nil, trivial⟩, .rfl, trivial⟩ (kAdded ⟨0, []⟩ hz0 [] rfl y YL hY _ fun XL1 hXL1 => ?_))
    have hX1 : XL1[0]? = some (.agg [I y.ready, I y.due, .sl 3 YL]) := by rw [hXL1, hY]; rfl
    have i01 := i0 XL1 (by rw [hXL1]; rfl)
    have g01 := g0 XL1 hX1
    refine ops_go tokT hA hS ?_
    cbv
    refine ops_call hS [.agg [I 0, .sl 3 XL1]] [] [] rfl rfl rfl rfl rfl rfl rfl rfl (by decide) trivial (kCopyShop ⟨0, [y]⟩ hz1' XL1 hXL1 _ ?_)
    refine ops_go tokT hA hS ?_
    cbv
    refine ⟨i01, ⟨_, g01, ?_⟩⟩
    cbv
    refine ops_call hS [.agg [I z.benches, .sl 3 ZL], .sl 1 QL, .agg [I y.ready, I y.due, .sl 3 YL]] [] [] rfl rfl rfl rfl rfl rfl rfl rfl (by decide) trivial (bPutInAll z hz1 hz2 q hqM ZL QL hZ hQ y YL hY hzx _ fun a1 n1 e1 h1 P1 hP1 => ?_)
    refine ops_go tokT hA hS ?_
    cbv
    refine draw_go tokT hA hS [0, 1, 2, 3, 4, 5, 6, 7, 8, 9, 10, 11, 12, 13, 14, 15, 16, 17, 18, 19] rfl rfl fun Dk hD => ?_
    cbv
    refine ⟨iS, ⟨_, gS, ?_⟩⟩
    cbv
    refine ⟨iP, ⟨_, gP, ?_⟩⟩
    cbv
    refine ⟨iT, ⟨_, gT, ?_⟩⟩
    cbv
    refine draw_call hA hD [.agg [I z.benches, .sl 3 ZL], .sl 1 QL, .agg [I y.ready, I y.due, .sl 3 YL]] [] [] rfl rfl rfl rfl rfl rfl rfl rfl rfl rfl rfl (by decide) trivial (rPutInAll z hz1 hz2 q hqM ZL QL hZ hQ y YL hY hzx _ fun a2 n2 e2 h2 P2 hP2 => ⟨by cbv; repeat' (first | exact trivial | exact Need.mk ⟨_, gS, rfl⟩ | exact Need.mk ⟨_, gP, rfl⟩ | exact Need.mk ⟨_, gT, rfl⟩ | refine ⟨?_, ?_⟩), draw_on tokT hA hD ?_⟩)
    have x1 := h1.trans h2.symm
    have ea1 : a1 = a2 := congrArg Prod.fst x1
    have en1 : n1 = n2 := congrArg (fun x => x.2.1) x1
    have ee1 : e1 = e2 := congrArg (fun x => x.2.2) x1
    have b1 : A.cmp .neq e1 e2 = false := xneF hA ee1
    have b2 : A.cmp .neq n1 n2 = false := xneF hA en1
    have l1 : a1.length ≤ 1152921504606846976 := by
      have h8 := putN_len (s := z) (pl := q) (t := y) hz1
      have e : a1 = (putN z q y).1 := congrArg Prod.fst h1
      rw [e]; omega
    cbv
    refine draw_goE tokT hA hS [2] [0, 1, 2, 3, 4, 5, 6, 7, 8, 9, 10, 11, 12, 13, 14, 15, 16, 17, 18, 19, 20, 21, 22, 23, 24, 25, 26, 27, 28, 29, 30, 31, 32, 33, 34, 35, 36, 37, 38, 39, 40] rfl rfl fun Dk hD => ?_
    cbv
    refine draw_val tokT hA hD [6] (.v (.bool false)) rfl rfl rfl rfl rfl rfl (congrArg (fun b => D.v (.bool b)) b1) ?_
    cbv
    refine draw_valG tokT hA hD [] (.v (.bool false)) rfl rfl rfl rfl rfl rfl rfl rfl rfl (congrArg (fun b => D.v (.bool b)) b2) ?_
    cbv
    refine draw_callG hA hD (b := false) rfl rfl rfl rfl rfl rfl rfl rfl rfl rfl rfl (fun _ => ⟨[], _, [.sl 1 P1, .sl 1 P2], [], [], rfl, rfl, rfl, by decide, trivial, kSameInts a1 a2 P1 P2 hP1 hP2 l1 true (decide_eq_true ea1).symm _ ⟨by cbv; repeat' (first | exact trivial | exact Need.mk ⟨_, gS, rfl⟩ | exact Need.mk ⟨_, gP, rfl⟩ | exact Need.mk ⟨_, gT, rfl⟩ | refine ⟨?_, ?_⟩), draw_onE tokT hA hD [12] ?_⟩⟩) (fun h => absurd rfl h)
    cbv
    refine draw_valG tokT hA hD [] (.v (.bool false)) rfl rfl rfl rfl rfl rfl rfl rfl rfl (congrArg (fun b => D.v (.bool b)) hbn) ?_
    cbv
    refine ⟨iS, ⟨_, gS, ?_⟩⟩
    cbv
    refine draw_callG hA hD (b := false) rfl rfl rfl rfl rfl rfl rfl rfl rfl rfl rfl (fun _ => ⟨[], _, [.agg [I z.benches, .sl 3 ZL], .agg [I z.benches, .sl 3 ZL]], [], [], rfl, rfl, rfl, by decide, trivial, kSameShops z hz1 ZL hZ _ ⟨by cbv; repeat' (first | exact trivial | exact Need.mk ⟨_, gS, rfl⟩ | exact Need.mk ⟨_, gP, rfl⟩ | exact Need.mk ⟨_, gT, rfl⟩ | refine ⟨?_, ?_⟩), draw_onE tokT hA hD [21] ?_⟩⟩) (fun h => absurd rfl h)
    cbv
    refine draw_valG tokT hA hD [] (.v (.bool false)) rfl rfl rfl rfl rfl rfl rfl rfl rfl (congrArg (fun b => D.v (.bool b)) hbn) ?_
    cbv
    refine ⟨iP, ⟨_, gP, ?_⟩⟩
    cbv
    refine draw_callG hA hD (b := false) rfl rfl rfl rfl rfl rfl rfl rfl rfl rfl rfl (fun _ => ⟨[], _, [.sl 1 QL, .sl 1 QL], [], [], rfl, rfl, rfl, by decide, trivial, kSameInts q q QL QL hQ hQ (by omega) true (decide_eq_true rfl).symm _ ⟨by cbv; repeat' (first | exact trivial | exact Need.mk ⟨_, gS, rfl⟩ | exact Need.mk ⟨_, gP, rfl⟩ | exact Need.mk ⟨_, gT, rfl⟩ | refine ⟨?_, ?_⟩), draw_onE tokT hA hD [30] ?_⟩⟩) (fun h => absurd rfl h)
    cbv
    refine draw_valG tokT hA hD [] (.v (.bool false)) rfl rfl rfl rfl rfl rfl rfl rfl rfl (congrArg (fun b => D.v (.bool b)) hbn) ?_
    cbv
    refine ⟨iT, ⟨_, gT, ?_⟩⟩
    cbv
    refine draw_callG hA hD (b := false) rfl rfl rfl rfl rfl rfl rfl rfl rfl rfl rfl (fun _ => ⟨[], _, [.agg [I y.ready, I y.due, .sl 3 YL], .agg [I y.ready, I y.due, .sl 3 YL]], [], [], rfl, rfl, rfl, by decide, trivial, kSameTasks y YL hY hyM _ ⟨by cbv; repeat' (first | exact trivial | exact Need.mk ⟨_, gS, rfl⟩ | exact Need.mk ⟨_, gP, rfl⟩ | exact Need.mk ⟨_, gT, rfl⟩ | refine ⟨?_, ?_⟩), draw_onE tokT hA hD [39] ?_⟩⟩) (fun h => absurd rfl h)
    cbv
    refine draw_valG tokT hA hD [] (.v (.bool false)) rfl rfl rfl rfl rfl rfl rfl rfl rfl (congrArg (fun b => D.v (.bool b)) hbn) ?_
    cbv
    refine ⟨hf, ?_⟩
    refine gs_loop (A.add i 1, k + 1) [] ⟨hk, hu2⟩ hms ?_
    exact ⟨by decide, pre0, trivial, ⟨rfl, rfl, rfl, rfl, trivial⟩, rfl, rfl⟩
  · cbv
    refine gs_done ?_
    cbv
    refine ops_call hS [] [] [] rfl rfl rfl rfl rfl rfl rfl rfl (by decide) trivial (filing _ ?_)
    refine ops_go tokT hA hS ?_
    cbv
    exact gh_view [] (by decide) pre0 (H' := []) (d' := .v (.bool true)) trivial rfl (gh_done hq)
end Go.Proofs.YtmloogdalecilaaGreatDoor
