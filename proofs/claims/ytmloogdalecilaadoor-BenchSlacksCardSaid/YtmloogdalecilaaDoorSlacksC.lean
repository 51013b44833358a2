/- Part SlacksC of the proofs about the benches of the accordion maker: see the last text of the claim for what is proved. -/
import Derived.Test.YtmloogdalecilaaDoorSlacksB
import Derived.Test.YtmloogdalecilaaDoorLoadsC
set_option linter.unusedVariables false
set_option linter.unusedSimpArgs false
set_option linter.unnecessarySimpa false
set_option linter.constructorNameAsVariable false

/-! H3 -/
namespace Go.Proofs.YtmloogdalecilaaDoor
open Go Go.Abs Go.Proofs

/-- Ints: a copy that nobody writes to. -/
theorem intsF (L : List D) (hL : L.length ≤ 1048576) (Q) (hq : Q (RA.ret (.sl 1 L)) []) : CallA Tryd.prog 37 [.sl 1 L] [] Q := by
  refine callA_gh (ints L hL _ fun n hn => ?_)
  refine gh_frz [0] ?_
  cbv
  exact ⟨by cases L <;> exact hn, gh_view [] (by decide) pre0 (H' := []) (d' := .sl 1 L) trivial rfl (gh_done hq)⟩

set_option maxRecDepth 20000 in
set_option maxHeartbeats 8000000 in
/-- BenchSlacks. -/
theorem wBenchSlacks (s : Sh) (hs : Fin s) (TL : List D) (hT : TL = s.tasks.map taskD) (pl : List Int) (PL : List D) (hP : PL = pl.map I) (L : List D) (nums : List Int) (hL : L = nums.map I) (hl : L.length ≤ 9223372036854775807) (Q) (hq : Q (RA.ret (.v (.bool true))) []) :
    CallA Tryd.prog 7 [.agg [I s.benches, .sl 3 TL], .sl 1 PL, .sl 1 L] [] Q := by
  obtain ⟨A, hA⟩ : ∃ A, A = ar := ⟨_, rfl⟩
  have hbn : A.bnot true = false := by subst hA; rfl
  have hPl : PL.length = pl.length := by rw [hP]; simp
  refine callA_start tokT hA Tryd.func7 rfl rfl rfl rfl rfl fun S hS => ?_
  cbv
  refine ops_call hS [.agg [I s.benches, .sl 3 TL]] [] [] rfl rfl rfl rfl rfl rfl rfl rfl (by decide) trivial (kBig s hs TL hT _ ?_ fun hnb => ?_)
  · refine ops_go tokT hA hS ?_
    cbv
    refine ops_call hS [] [] [] rfl rfl rfl rfl rfl rfl rfl rfl (by decide) trivial (filing _ ?_)
    refine ops_go tokT hA hS ?_
    cbv
    exact gh_view [] (by decide) pre0 (H' := []) (d' := .v (.bool true)) trivial rfl (gh_done hq)
  refine ops_go tokT hA hS ?_
  cbv
  refine bm (fun c => ?_) (fun c => ?_)
  · cbv
    refine ops_call hS [] [] [] rfl rfl rfl rfl rfl rfl rfl rfl (by decide) trivial (filing _ ?_)
    refine ops_go tokT hA hS ?_
    cbv
    exact gh_view [] (by decide) pre0 (H' := []) (d' := .v (.bool true)) trivial rfl (gh_done hq)
  have hp20 : pl.length ≤ 20 := by
    have h : A.oi (A.len PL) ≤ 20 := xngt hA c
    rw [yoiL hA hPl] at h; omega
  cbv
  refine ops_call hS [.sl 1 L] [] [] rfl rfl rfl rfl rfl rfl rfl rfl (by decide) trivial (newPotL L nums hL hl _ fun x0 => ?_)
  refine ops_go tokT hA hS ?_
  cbv
  refine ops_call hS [.b 0 0, I 4, I 8] [1] [pot x0] rfl rfl rfl rfl rfl rfl rfl rfl (by decide) ⟨rfl, trivial⟩ (shopOf x0 4 8 (by decide) (by decide) _ fun m x1 hok => ?_)
  obtain ⟨hm1, hm2⟩ := okS_small hok (by decide) (by decide)
  have hmk : ShopOk m := okS_shop hok (by decide) (by decide)
  have hmv := chkS_val hmk.chk
  obtain ⟨ML, hM⟩ : ∃ ML, ML = m.tasks.map taskD := ⟨_, rfl⟩
  unfold shopD
  rw [← hM]
  refine ops_go tokT hA hS ?_
  cbv
  refine draw_go tokT hA hS [0, 1, 2, 3, 4, 8, 5, 6, 7, 9, 10, 11] rfl rfl fun Dk0 hD0 => ?_
  cbv
  refine draw_call hA hD0 [.b 0 0, .agg [I m.benches, .sl 3 ML]] [1] [pot x1] rfl rfl rfl rfl rfl rfl rfl rfl rfl rfl rfl (by decide) ⟨rfl, trivial⟩ (planOf x1 m (by have := hmv.sum; omega) (by have := hmv.len; omega) ML hM _ fun mp MP x2 hmp hMP => ⟨by cbv, draw_on tokT hA hD0 ?_⟩)
  obtain ⟨mi, hmi⟩ : ∃ mi : List Int, mi = mp.map (fun i : Nat => (i : Int)) := ⟨_, rfl⟩
  have hMi : MP = mi.map I := by rw [hMP, hmi, List.map_map]; rfl
  have hml : mi.length ≤ 20 := by rw [hmi, List.length_map, hmp.len]; have := hmv.sum; omega
  cbv
  obtain ⟨SS, hSS⟩ : ∃ SS : List D, SS = [.agg [I s.benches, .sl 3 TL], .agg [I m.benches, .sl 3 ML], .agg [I m.benches, .sl 3 ML]] := ⟨_, rfl⟩
  have hSl : SS.length = 3 := by rw [hSS]; rfl
  obtain ⟨PS, hPS⟩ : ∃ PS : List D, PS = [.sl 1 PL, .sl 1 MP, .sl 1 PL] := ⟨_, rfl⟩
  have hPSl : PS.length = 3 := by rw [hPS]; rfl
  refine at_code hS ?_
  refine wpa_loopG (α := Int × Nat) (fun q => { env := [(9, .sl 2 SS), (10, .sl 1 PS), (11, I q.1)], H := [], nt := 135, dfs := [] })
    (fun q => 3 - q.2) (fun q => q.2 ≤ 3 ∧ IsI q.1 q.2) (0, 0) ⟨by decide, ⟨rfl⟩⟩ ?_ ?_
  · refine gs_frz hA [3, 4] ?_
    cbv
    exact ⟨yeqLen hA rfl, yeqLen hA rfl, yeqLen hA rfl, yeqLen hA rfl, gs_to [] ⟨by decide, pre0, trivial, ⟨by rw [hSS]; rfl, by rw [hPS]; rfl, rfl, trivial⟩, rfl, rfl⟩⟩
  rintro ⟨i, k⟩ ⟨u1, u2⟩
  dsimp only at u1 u2
  refine wp_goF tokT hA hS [] ?_
  cbv
  refine bm (fun c => ?_) (fun c => ?_)
  · have hk : k < 3 := yltL hA hSl u2 c
    obtain ⟨z, ZL, q, QL, hz1, hz2, hZ, hq20, hQ, hSk, hPk⟩ : ∃ (z : Sh) (ZL : List D) (q : List Int) (QL : List D), Fin z ∧ NotBig z ∧ ZL = z.tasks.map taskD ∧ q.length ≤ 20 ∧ QL = q.map I ∧ SS[k]? = some (.agg [I z.benches, .sl 3 ZL]) ∧ PS[k]? = some (.sl 1 QL) := by
      match k, hk with
      | 0, _ => exact ⟨s, TL, pl, PL, hs, hnb, hT, hp20, hP, by rw [hSS]; rfl, by rw [hPS]; rfl⟩
      | 1, _ => exact ⟨m, ML, mi, MP, hm1, hm2, hM, hml, hMi, by rw [hSS]; rfl, by rw [hPS]; rfl⟩
      | 2, _ => exact ⟨m, ML, pl, PL, hm1, hm2, hM, hp20, hP, by rw [hSS]; rfl, by rw [hPS]; rfl⟩
    have iS := yinbL hA hSl u2 hk
    have gS := yget hA u2 hSk
    have iP := yinbL hA hPSl u2 hk
    have gP := yget hA u2 hPk
    have hf := yfit1 hA u2 (by omega)
    have hu2 := ysucc hA u2
    have hms : 3 - (k + 1) < 3 - k := by omega
    have hQl : QL.length ≤ 1048576 := by rw [hQ, List.length_map]; omega
    have hqM : q.length ≤ 1000000 := by omega
    cbv
    refine draw_go tokT hA hS [0, 1, 2, 3, 5, 6, 7, 8, 10, 4, 9, 11, 12] rfl rfl fun Dk hD => ?_
    cbv
    refine ⟨iS, ⟨_, gS, ?_⟩⟩
    cbv
    refine ⟨iP, ⟨_, gP, ?_⟩⟩
    cbv
    refine draw_call hA hD [.agg [I z.benches, .sl 3 ZL]] [] [] rfl rfl rfl rfl rfl rfl rfl rfl rfl rfl rfl (by decide) trivial (kCopyShop z hz2 ZL hZ _ ⟨by cbv; repeat' (first | exact trivial | exact Need.mk ⟨_, gS, rfl⟩ | exact Need.mk ⟨_, gP, rfl⟩ | refine ⟨?_, ?_⟩), draw_on tokT hA hD ?_⟩)
    cbv
    refine draw_call hA hD [.sl 1 QL] [] [] rfl rfl rfl rfl rfl rfl rfl rfl rfl rfl rfl (by decide) trivial (intsF QL hQl _ ⟨by cbv; repeat' (first | exact trivial | exact Need.mk ⟨_, gS, rfl⟩ | exact Need.mk ⟨_, gP, rfl⟩ | refine ⟨?_, ?_⟩), draw_on tokT hA hD ?_⟩)
    cbv
    refine ops_call hS [.agg [I z.benches, .sl 3 ZL], .sl 1 QL] [] [] rfl rfl rfl rfl rfl rfl rfl rfl (by decide) trivial (bSlackAll z hz1 q hqM ZL QL hZ hQ _ fun a1 e1 h1 P1 hP1 => ?_)
    refine ops_go tokT hA hS ?_
    cbv
    refine draw_go tokT hA hS [0, 1, 2, 3, 4, 5, 6, 7, 8, 9, 10, 11, 12, 13] rfl rfl fun Dk hD => ?_
    cbv
    refine ⟨iS, ⟨_, gS, ?_⟩⟩
    cbv
    refine ⟨iP, ⟨_, gP, ?_⟩⟩
    cbv
    refine draw_call hA hD [.agg [I z.benches, .sl 3 ZL], .sl 1 QL] [] [] rfl rfl rfl rfl rfl rfl rfl rfl rfl rfl rfl (by decide) trivial (rSlackAll z hz1 q hqM ZL QL hZ hQ _ fun a2 e2 h2 P2 hP2 => ⟨by cbv; repeat' (first | exact trivial | exact Need.mk ⟨_, gS, rfl⟩ | exact Need.mk ⟨_, gP, rfl⟩ | refine ⟨?_, ?_⟩), draw_on tokT hA hD ?_⟩)
    cbv
    refine ops_call hS [.agg [I z.benches, .sl 3 ZL], .sl 1 QL] [] [] rfl rfl rfl rfl rfl rfl rfl rfl (by decide) trivial (bCritAll z hz1 q hqM ZL QL hZ hQ _ fun a3 e3 h3 P3 hP3 => ?_)
    refine ops_go tokT hA hS ?_
    cbv
    refine draw_go tokT hA hS [0, 1, 2, 3, 4, 5, 6, 7, 8, 9, 10, 11, 12, 13] rfl rfl fun Dk hD => ?_
    cbv
    refine ⟨iS, ⟨_, gS, ?_⟩⟩
    cbv
    refine ⟨iP, ⟨_, gP, ?_⟩⟩
    cbv
    refine draw_call hA hD [.agg [I z.benches, .sl 3 ZL], .sl 1 QL] [] [] rfl rfl rfl rfl rfl rfl rfl rfl rfl rfl rfl (by decide) trivial (rCritAll z hz1 q hqM ZL QL hZ hQ _ fun a4 e4 h4 P4 hP4 => ⟨by cbv; repeat' (first | exact trivial | exact Need.mk ⟨_, gS, rfl⟩ | exact Need.mk ⟨_, gP, rfl⟩ | refine ⟨?_, ?_⟩), draw_on tokT hA hD ?_⟩)
    have x1 := h1.trans h2.symm
    have x2 := h3.trans h4.symm
    have ea1 : a1 = a2 := congrArg Prod.fst x1
    have ee1 : e1 = e2 := congrArg Prod.snd x1
    have ea2 : a3 = a4 := congrArg Prod.fst x2
    have ee2 : e3 = e4 := congrArg Prod.snd x2
    have b1 : A.cmp .neq e1 e2 = false := xneF hA ee1
    have b2 : A.cmp .neq e3 e4 = false := xneF hA ee2
    have l1 : a1.length ≤ 1152921504606846976 := by
      have := (slackN_len (s := z) (pl := q) (by omega)).1
      have e : a1 = (slackN z q).1 := congrArg Prod.fst h1
      rw [e]; omega
    have l3 : a3.length ≤ 1152921504606846976 := by
      have := (slackN_len (s := z) (pl := q) (by omega)).2
      have e : a3 = (critN z q).1 := congrArg Prod.fst h3
      rw [e]; omega
    cbv
    refine draw_goE tokT hA hS [2] [0, 1, 2, 3, 4, 5, 6, 7, 8, 9, 10, 11, 12, 13, 14, 15, 16, 17, 18, 19, 20, 21, 22, 23, 24, 25, 26, 27, 28, 29, 30, 31, 32, 33, 34, 35, 36, 37] rfl rfl fun Dk hD => ?_
    cbv
    refine draw_val tokT hA hD [6] (.v (.bool false)) rfl rfl rfl rfl rfl rfl (congrArg (fun b => D.v (.bool b)) b1) ?_
    cbv
    refine draw_valG tokT hA hD [] (.v (.bool false)) rfl rfl rfl rfl rfl rfl rfl rfl rfl (congrArg (fun b => D.v (.bool b)) b2) ?_
    cbv
    refine draw_callG hA hD (b := false) rfl rfl rfl rfl rfl rfl rfl rfl rfl rfl rfl (fun _ => ⟨[], _, [.sl 1 P1, .sl 1 P2], [], [], rfl, rfl, rfl, by decide, trivial, kSameInts a1 a2 P1 P2 hP1 hP2 l1 true (decide_eq_true ea1).symm _ ⟨by cbv; repeat' (first | exact trivial | exact Need.mk ⟨_, gS, rfl⟩ | exact Need.mk ⟨_, gP, rfl⟩ | refine ⟨?_, ?_⟩), draw_onE tokT hA hD [12] ?_⟩⟩) (fun h => absurd rfl h)
    cbv
    refine draw_valG tokT hA hD [] (.v (.bool false)) rfl rfl rfl rfl rfl rfl rfl rfl rfl (congrArg (fun b => D.v (.bool b)) hbn) ?_
    cbv
    refine draw_callG hA hD (b := false) rfl rfl rfl rfl rfl rfl rfl rfl rfl rfl rfl (fun _ => ⟨[], _, [.sl 1 P3, .sl 1 P4], [], [], rfl, rfl, rfl, by decide, trivial, kSameInts a3 a4 P3 P4 hP3 hP4 l3 true (decide_eq_true ea2).symm _ ⟨by cbv; repeat' (first | exact trivial | exact Need.mk ⟨_, gS, rfl⟩ | exact Need.mk ⟨_, gP, rfl⟩ | refine ⟨?_, ?_⟩), draw_onE tokT hA hD [18] ?_⟩⟩) (fun h => absurd rfl h)
    cbv
    refine draw_valG tokT hA hD [] (.v (.bool false)) rfl rfl rfl rfl rfl rfl rfl rfl rfl (congrArg (fun b => D.v (.bool b)) hbn) ?_
    cbv
    refine ⟨iS, ⟨_, gS, ?_⟩⟩
    cbv
    refine draw_callG hA hD (b := false) rfl rfl rfl rfl rfl rfl rfl rfl rfl rfl rfl (fun _ => ⟨[], _, [.agg [I z.benches, .sl 3 ZL], .agg [I z.benches, .sl 3 ZL]], [], [], rfl, rfl, rfl, by decide, trivial, kSameShops z hz1 ZL hZ _ ⟨by cbv; repeat' (first | exact trivial | exact Need.mk ⟨_, gS, rfl⟩ | exact Need.mk ⟨_, gP, rfl⟩ | refine ⟨?_, ?_⟩), draw_onE tokT hA hD [27] ?_⟩⟩) (fun h => absurd rfl h)
    cbv
    refine draw_valG tokT hA hD [] (.v (.bool false)) rfl rfl rfl rfl rfl rfl rfl rfl rfl (congrArg (fun b => D.v (.bool b)) hbn) ?_
    cbv
    refine ⟨iP, ⟨_, gP, ?_⟩⟩
    cbv
    refine draw_callG hA hD (b := false) rfl rfl rfl rfl rfl rfl rfl rfl rfl rfl rfl (fun _ => ⟨[], _, [.sl 1 QL, .sl 1 QL], [], [], rfl, rfl, rfl, by decide, trivial, kSameInts q q QL QL hQ hQ (by omega) true (decide_eq_true rfl).symm _ ⟨by cbv; repeat' (first | exact trivial | exact Need.mk ⟨_, gS, rfl⟩ | exact Need.mk ⟨_, gP, rfl⟩ | refine ⟨?_, ?_⟩), draw_onE tokT hA hD [36] ?_⟩⟩) (fun h => absurd rfl h)
    cbv
    refine draw_valG tokT hA hD [] (.v (.bool false)) rfl rfl rfl rfl rfl rfl rfl rfl rfl (congrArg (fun b => D.v (.bool b)) hbn) ?_
    cbv
    refine ⟨hf, ?_⟩
    refine gs_loop (A.add i 1, k + 1) [] ⟨hk, hu2⟩ hms ?_
    exact ⟨by decide, pre0, trivial, ⟨rfl, rfl, rfl, trivial⟩, rfl, rfl⟩
  · cbv
    refine gs_done ?_
    cbv
    refine ops_call hS [] [] [] rfl rfl rfl rfl rfl rfl rfl rfl (by decide) trivial (filing _ ?_)
    refine ops_go tokT hA hS ?_
    cbv
    exact gh_view [] (by decide) pre0 (H' := []) (d' := .v (.bool true)) trivial rfl (gh_done hq)
end Go.Proofs.YtmloogdalecilaaDoor
