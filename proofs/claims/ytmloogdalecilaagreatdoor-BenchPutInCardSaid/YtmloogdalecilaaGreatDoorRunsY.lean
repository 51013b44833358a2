/- Part RunsY of the proofs about the benches of the accordion maker: see the last text of the claim for what is proved. -/
import Derived.Test.YtmloogdalecilaaGreatDoorRunsZ
import Derived.Test.YtmloogdalecilaaGreatDoorMachE
import Derived.Test.YtmloogdalecilaaGreatDoorLoadsC
set_option linter.unusedVariables false
set_option linter.unusedSimpArgs false
set_option linter.unnecessarySimpa false
set_option linter.constructorNameAsVariable false

/-! Y2 -/
namespace Go.Proofs.YtmloogdalecilaaGreatDoor
open Go Go.Abs Go.Proofs

/-- Ints: a copy that nobody writes to. -/
theorem intsF (L : List D) (hL : L.length ≤ 1048576) (Q) (hq : Q (RA.ret (.sl 1 L)) []) : CallA Tryz.prog 19 [.sl 1 L] [] Q := by
  refine callA_gh (ints L hL _ fun n hn => ?_)
  refine gh_frz [0] ?_
  cbv
  exact ⟨by cases L <;> exact hn, gh_view [] (by decide) pre0 (H' := []) (d' := .sl 1 L) trivial rfl (gh_done hq)⟩

theorem allN_len {s : Sh} {pl : List Int} (h : pl.length ≤ 20) {a : List Sl} {b : List (Int × Int)} {c : List Int} (ha : a = (runN s pl).1) (hb : b = (endsN s pl).1) (hc : c = (lateAN s pl).1) :
    a.length ≤ 1152921504606846976 ∧ b.length ≤ 1152921504606846976 ∧ c.length ≤ 1152921504606846976 := by
  by_cases h0 : chkSP s pl = 0
  · have hcs : chkS s = 0 := by
      by_cases h1 : chkS s = 0
      · exact h1
      · rw [chkSP, if_pos h1] at h0; exact absurd h0 h1
    have hlen := (chkS_val hcs).len
    rw [runN, if_pos h0] at ha
    rw [endsN, if_pos h0] at hb
    rw [lateAN, if_pos h0] at hc
    refine ⟨?_, ?_, ?_⟩
    · rw [ha, runS_length, List.length_map]; omega
    · rw [hb, endsS_len]; omega
    · rw [hc, lateS, List.length_map, List.length_range]; omega
  · rw [runN, if_neg h0] at ha
    rw [endsN, if_neg h0] at hb
    rw [lateAN, if_neg h0] at hc
    subst ha hb hc
    exact ⟨Nat.zero_le _, Nat.zero_le _, Nat.zero_le _⟩

set_option maxRecDepth 20000 in
set_option maxHeartbeats 16000000 in
/-- BenchRuns. -/
theorem wBenchRuns (s : Sh) (hs : Fin s) (TL : List D) (hT : TL = s.tasks.map taskD) (pl : List Int) (PL : List D) (hP : PL = pl.map I) (at_ by_ : Int) (L : List D) (nums : List Int) (hL : L = nums.map I) (hl : L.length ≤ 9223372036854775807) (Q) (hq : Q (RA.ret (.v (.bool true))) []) :
    CallA Tryz.prog 4 [.agg [I s.benches, .sl 3 TL], .sl 1 PL, I at_, I by_, .sl 1 L] [] Q := by
  obtain ⟨A, hA⟩ : ∃ A, A = ar := ⟨_, rfl⟩
  have hbn : A.bnot true = false := by subst hA; rfl
  have hPl : PL.length = pl.length := by rw [hP]; simp
  refine callA_startF tokT hA [9] Tryz.func4 rfl rfl rfl rfl rfl fun S hS => ?_
  cbv
  refine ops_call hS [.agg [I s.benches, .sl 3 TL]] [] [] rfl rfl rfl rfl rfl rfl rfl rfl (by decide) trivial (kBig s hs TL hT _ ?_ fun hnb => ?_)
  · refine ops_go tokT hA hS ?_
    cbv
    refine ops_call hS [] [] [] rfl rfl rfl rfl rfl rfl rfl rfl (by decide) trivial (filing _ ?_)
    refine ops_go tokT hA hS ?_
    cbv
    exact gh_view [] (by decide) pre0 (H' := []) (d' := .v (.bool true)) trivial rfl (gh_done hq)
  refine ops_go tokT hA hS ?_
  cbv
  refine bm (fun c => ?_) (fun c => ?_)
  · cbv
    refine ops_call hS [] [] [] rfl rfl rfl rfl rfl rfl rfl rfl (by decide) trivial (filing _ ?_)
    refine ops_go tokT hA hS ?_
    cbv
    exact gh_view [] (by decide) pre0 (H' := []) (d' := .v (.bool true)) trivial rfl (gh_done hq)
  have hp20 : pl.length ≤ 20 := by
    have h : A.oi (A.len PL) ≤ 20 := xngt hA c
    rw [yoiL hA hPl] at h; omega
  cbv
  refine ops_call hS [.sl 1 L] [] [] rfl rfl rfl rfl rfl rfl rfl rfl (by decide) trivial (newPotL L nums hL hl _ fun x0 => ?_)
  refine ops_go tokT hA hS ?_
  cbv
  refine ops_call hS [.b 0 0, I 4, I 8] [1] [pot x0] rfl rfl rfl rfl rfl rfl rfl rfl (by decide) ⟨rfl, trivial⟩ (shopOf x0 4 8 (by decide) (by decide) _ fun m x1 hok => ?_)
  obtain ⟨hm1, hm2⟩ := okS_small hok (by decide) (by decide)
  have hmk : ShopOk m := okS_shop hok (by decide) (by decide)
  have hmv := chkS_val hmk.chk
  obtain ⟨ML, hM⟩ : ∃ ML, ML = m.tasks.map taskD := ⟨_, rfl⟩
  unfold shopD
  rw [← hM]
  refine ops_go tokT hA hS ?_
  cbv
  refine ops_call hS [.b 0 0, .agg [I m.benches, .sl 3 ML]] [1] [pot x1] rfl rfl rfl rfl rfl rfl rfl rfl (by decide) ⟨rfl, trivial⟩ (planOf x1 m (by have := hmv.sum; omega) (by have := hmv.len; omega) ML hM _ fun mp MP x2 hmp hMP => ?_)
  obtain ⟨mi, hmi⟩ : ∃ mi : List Int, mi = mp.map (fun i : Nat => (i : Int)) := ⟨_, rfl⟩
  have hMi : MP = mi.map I := by rw [hMP, hmi, List.map_map]; rfl
  have hml : mi.length ≤ 20 := by rw [hmi, List.length_map, hmp.len]; have := hmv.sum; omega
  obtain ⟨nm, hnm⟩ : ∃ nm, nm = mi.length := ⟨_, rfl⟩
  have hMl : MP.length = nm := by rw [hMi, hnm]; simp
  refine ops_go tokT hA hS ?_
  cbv
  refine ops_call hS [.sl 1 MP] [] [] rfl rfl rfl rfl rfl rfl rfl rfl (by decide) trivial (ints MP (by omega) _ fun n hn => ?_)
  have hnn : n = nm := by rw [hn, hMl]
  refine ops_go tokT hA hS ?_
  cbv
  refine' bm2 (S := S) (α := List D) (fun OL => { env := [(1, .sl 1 PL), (5, .b 0 0), (12, .b 2 0), (13, .sl 1 MP), (14, .sl 1 OL)], H := [.box (.agg [I s.benches, .sl 3 TL]), .box (.agg [U x2]), .box (.agg [I m.benches, .sl 3 ML])], nt := 221, dfs := [] }) (fun OL => ∃ oi : List Int, OL = oi.map I ∧ oi.length ≤ 20) (fun rest c2 => ?h1) (fun rest c2 => ?h2) ?h3
  case h1 =>
    have hn0 : 0 < nm := by have h := xgt hA c2; rw [hnn] at h; subst hA; have : (0 : Int) < (nm : Int) := h; omega
    have hio : IsI (A.oi n) nm := ⟨by rw [hnn]; subst hA; rfl⟩
    cbv
    refine ops_call hS [I at_, I (A.oi n)] [] [] rfl rfl rfl rfl rfl rfl rfl rfl (by decide) trivial (kTurn at_ (A.oi n) nm hio hn0 (by omega) _ fun i k hi hk => ?_)
    obtain ⟨OL, hOL⟩ : ∃ OL, OL = A.set MP (A.tn i) (I by_) := ⟨_, rfl⟩
    have e0 : A.set MP (A.addN 0 (A.mulN (A.tn i) 1)) (I by_) = OL := by rw [hOL, yset hA hi rfl]; exact ysetO hA 0 hi (by rw [Nat.zero_add])
    have e1 : A.set MP (A.tn i) (I by_) = OL := hOL.symm
    have hOi : OL = (mi.set k by_).map I := by rw [hOL, yset hA hi rfl, hMi, List.map_set]
    have hOl : OL.length = nm := by rw [hOi]; simp [hnm]
    have i1 : A.inb i n := by rw [hnn]; exact yinb hA hi hk
    obtain ⟨mk, hmk0⟩ : ∃ mk, mi[k]? = some mk := ⟨_, List.getElem?_eq_getElem (by omega)⟩
    have gM := yget hA hi (show MP[k]? = some (I mk) by rw [hMi]; simp [hmk0])
    refine ops_go tokT hA hS ?_
    cbv
    refine ⟨i1, ⟨_, gM, ?_⟩⟩
    cbv
    refine join_at hS rest OL ⟨_, hOi, by rw [List.length_set]; exact hml⟩ ?_
    refine gs_elsE 3 rfl e1 ?_
    refine gs_frz hA [3] ?_
    cbv
    have e5 : A.eqN n (A.len OL) := xeqN hA (by rw [xlen hA, hOl, hnn])
    repeat (refine And.intro e5 ?_)
    exact gs_to [0, 1, 2] ⟨by decide, pre0, ⟨rfl, rfl, rfl, trivial⟩, ⟨rfl, rfl, rfl, rfl, rfl, trivial⟩, rfl, rfl⟩
  case h2 =>
    cbv
    refine join_at hS rest MP ⟨_, hMi, hml⟩ ?_
    refine gs_frz hA [3] ?_
    cbv
    have e5 : A.eqN n (A.len MP) := xeqN hA (by rw [xlen hA, hMl, hnn])
    repeat (refine And.intro e5 ?_)
    exact gs_to [0, 1, 2] ⟨by decide, pre0, ⟨rfl, rfl, rfl, trivial⟩, ⟨rfl, rfl, rfl, rfl, rfl, trivial⟩, rfl, rfl⟩
  rintro OL ⟨oi, hOi, hol⟩
  refine at_code hS ?_
  refine wp_go tokT hA hS ?_
  cbv
  obtain ⟨SS, hSS⟩ : ∃ SS : List D, SS = [.agg [I s.benches, .sl 3 TL], .agg [I m.benches, .sl 3 ML], .agg [I m.benches, .sl 3 ML], .agg [I m.benches, .sl 3 ML]] := ⟨_, rfl⟩
  have hSl : SS.length = 4 := by rw [hSS]; rfl
  obtain ⟨PS, hPS⟩ : ∃ PS : List D, PS = [.sl 1 PL, .sl 1 MP, .sl 1 OL, .sl 1 PL] := ⟨_, rfl⟩
  have hPSl : PS.length = 4 := by rw [hPS]; rfl
  refine at_code hS ?_
  refine wpa_loopG (α := Int × Nat) (fun q => { env := [(15, .sl 2 SS), (16, .sl 1 PS), (17, I q.1)], H := [], nt := 221, dfs := [] })
    (fun q => 4 - q.2) (fun q => q.2 ≤ 4 ∧ IsI q.1 q.2) (0, 0) ⟨by decide, ⟨rfl⟩⟩ ?_ ?_
  · refine gs_frz hA [3, 4] ?_
    cbv
    repeat (refine And.intro (yeqLen hA rfl) ?_)
    exact gs_to [] ⟨by decide, pre0, trivial, ⟨by rw [hSS]; rfl, by rw [hPS]; rfl, rfl, trivial⟩, rfl, rfl⟩
  rintro ⟨i, k⟩ ⟨u1, u2⟩
  dsimp only at u1 u2
  refine wp_goF tokT hA hS [] ?_
  cbv
  refine bm (fun c => ?_) (fun c => ?_)
  · have hk : k < 4 := yltL hA hSl u2 c
    obtain ⟨z, ZL, q, QL, hz1, hz2, hZ, hq20, hQ, hSk, hPk⟩ : ∃ (z : Sh) (ZL : List D) (q : List Int) (QL : List D), Fin z ∧ NotBig z ∧ ZL = z.tasks.map taskD ∧ q.length ≤ 20 ∧ QL = q.map I ∧ SS[k]? = some (.agg [I z.benches, .sl 3 ZL]) ∧ PS[k]? = some (.sl 1 QL) := by
      match k, hk with
      | 0, _ => exact ⟨s, TL, pl, PL, hs, hnb, hT, hp20, hP, by rw [hSS]; rfl, by rw [hPS]; rfl⟩
      | 1, _ => exact ⟨m, ML, mi, MP, hm1, hm2, hM, hml, hMi, by rw [hSS]; rfl, by rw [hPS]; rfl⟩
      | 2, _ => exact ⟨m, ML, oi, OL, hm1, hm2, hM, hol, hOi, by rw [hSS]; rfl, by rw [hPS]; rfl⟩
      | 3, _ => exact ⟨m, ML, pl, PL, hm1, hm2, hM, hp20, hP, by rw [hSS]; rfl, by rw [hPS]; rfl⟩
    have iS := yinbL hA hSl u2 hk
    have gS := yget hA u2 hSk
    have iP := yinbL hA hPSl u2 hk
    have gP := yget hA u2 hPk
    have hf := yfit1 hA u2 (by omega)
    have hu2 := ysucc hA u2
    have hms : 4 - (k + 1) < 4 - k := by omega
    have hQl : QL.length ≤ 1048576 := by rw [hQ, List.length_map]; omega
    have hqM : q.length ≤ 1000000 := by omega
    cbv
    refine draw_go tokT hA hS [0, 1, 2, 3, 5, 6, 7, 8, 10, 4, 9, 11, 12] rfl rfl fun Dk hD => ?_
    cbv
    refine ⟨iS, ⟨_, gS, ?_⟩⟩
    cbv
    refine ⟨iP, ⟨_, gP, ?_⟩⟩
    cbv
    refine draw_call hA hD [.agg [I z.benches, .sl 3 ZL]] [] [] rfl rfl rfl rfl rfl rfl rfl rfl rfl rfl rfl (by decide) trivial (kCopyShop z hz2 ZL hZ _ ⟨by cbv; repeat' (first | exact trivial | exact Need.mk ⟨_, gS, rfl⟩ | exact Need.mk ⟨_, gP, rfl⟩ | refine ⟨?_, ?_⟩), draw_on tokT hA hD ?_⟩)
    cbv
    refine draw_call hA hD [.sl 1 QL] [] [] rfl rfl rfl rfl rfl rfl rfl rfl rfl rfl rfl (by decide) trivial (intsF QL hQl _ ⟨by cbv; repeat' (first | exact trivial | exact Need.mk ⟨_, gS, rfl⟩ | exact Need.mk ⟨_, gP, rfl⟩ | refine ⟨?_, ?_⟩), draw_on tokT hA hD ?_⟩)
    cbv
    refine ops_call hS [.agg [I z.benches, .sl 3 ZL], .sl 1 QL] [] [] rfl rfl rfl rfl rfl rfl rfl rfl (by decide) trivial (bRunAll z hz1 q hqM ZL QL hZ hQ _ fun a1 e1 h1 P1 hP1 => ?_)
    refine ops_go tokT hA hS ?_
    cbv
    refine draw_go tokT hA hS [0, 1, 2, 3, 4, 5, 6, 7, 8, 9, 10, 11, 12, 13] rfl rfl fun Dk hD => ?_
    cbv
    refine ⟨iS, ⟨_, gS, ?_⟩⟩
    cbv
    refine ⟨iP, ⟨_, gP, ?_⟩⟩
    cbv
    refine draw_call hA hD [.agg [I z.benches, .sl 3 ZL], .sl 1 QL] [] [] rfl rfl rfl rfl rfl rfl rfl rfl rfl rfl rfl (by decide) trivial (rRunAll z hz1 q hqM ZL QL hZ hQ _ fun a2 e2 h2 P2 hP2 => ⟨by cbv; repeat' (first | exact trivial | exact Need.mk ⟨_, gS, rfl⟩ | exact Need.mk ⟨_, gP, rfl⟩ | refine ⟨?_, ?_⟩), draw_on tokT hA hD ?_⟩)
    cbv
    refine ops_call hS [.agg [I z.benches, .sl 3 ZL], .sl 1 QL] [] [] rfl rfl rfl rfl rfl rfl rfl rfl (by decide) trivial (bEndsAll z hz1 q hqM ZL QL hZ hQ _ fun a3 e3 h3 P3 hP3 => ?_)
    refine ops_go tokT hA hS ?_
    cbv
    refine draw_go tokT hA hS [0, 1, 2, 3, 4, 5, 6, 7, 8, 9, 10, 11, 12, 13] rfl rfl fun Dk hD => ?_
    cbv
    refine ⟨iS, ⟨_, gS, ?_⟩⟩
    cbv
    refine ⟨iP, ⟨_, gP, ?_⟩⟩
    cbv
    refine draw_call hA hD [.agg [I z.benches, .sl 3 ZL], .sl 1 QL] [] [] rfl rfl rfl rfl rfl rfl rfl rfl rfl rfl rfl (by decide) trivial (rEndsAll z hz1 q hqM ZL QL hZ hQ _ fun a4 e4 h4 P4 hP4 => ⟨by cbv; repeat' (first | exact trivial | exact Need.mk ⟨_, gS, rfl⟩ | exact Need.mk ⟨_, gP, rfl⟩ | refine ⟨?_, ?_⟩), draw_on tokT hA hD ?_⟩)
    cbv
    refine ops_call hS [.agg [I z.benches, .sl 3 ZL], .sl 1 QL] [] [] rfl rfl rfl rfl rfl rfl rfl rfl (by decide) trivial (bLastAll z hz1 q hqM ZL QL hZ hQ _ fun lo1 hi1 e5 h5 => ?_)
    refine ops_go tokT hA hS ?_
    cbv
    refine draw_go tokT hA hS [0, 1, 2, 3, 4, 5, 6, 7, 12, 8, 9, 10, 11, 13, 14] rfl rfl fun Dk hD => ?_
    cbv
    refine ⟨iS, ⟨_, gS, ?_⟩⟩
    cbv
    refine ⟨iP, ⟨_, gP, ?_⟩⟩
    cbv
    refine draw_call hA hD [.agg [I z.benches, .sl 3 ZL], .sl 1 QL] [] [] rfl rfl rfl rfl rfl rfl rfl rfl rfl rfl rfl (by decide) trivial (rLastAll z hz1 q hqM ZL QL hZ hQ _ fun lo2 hi2 e6 h6 => ⟨by cbv; repeat' (first | exact trivial | exact Need.mk ⟨_, gS, rfl⟩ | exact Need.mk ⟨_, gP, rfl⟩ | refine ⟨?_, ?_⟩), draw_on tokT hA hD ?_⟩)
    cbv
    refine ops_call hS [.agg [I z.benches, .sl 3 ZL], .sl 1 QL] [] [] rfl rfl rfl rfl rfl rfl rfl rfl (by decide) trivial (bLateAll z hz1 q hqM ZL QL hZ hQ _ fun a7 e7 h7 P7 hP7 => ?_)
    refine ops_go tokT hA hS ?_
    cbv
    refine draw_go tokT hA hS [0, 1, 2, 3, 4, 5, 6, 7, 8, 9, 10, 11, 12, 13] rfl rfl fun Dk hD => ?_
    cbv
    refine ⟨iS, ⟨_, gS, ?_⟩⟩
    cbv
    refine ⟨iP, ⟨_, gP, ?_⟩⟩
    cbv
    refine draw_call hA hD [.agg [I z.benches, .sl 3 ZL], .sl 1 QL] [] [] rfl rfl rfl rfl rfl rfl rfl rfl rfl rfl rfl (by decide) trivial (rLateAll z hz1 q hqM ZL QL hZ hQ _ fun a8 e8 h8 P8 hP8 => ⟨by cbv; repeat' (first | exact trivial | exact Need.mk ⟨_, gS, rfl⟩ | exact Need.mk ⟨_, gP, rfl⟩ | refine ⟨?_, ?_⟩), draw_on tokT hA hD ?_⟩)
    have x1 := h1.trans h2.symm
    have x2 := h3.trans h4.symm
    have x3 := h5.trans h6.symm
    have x4 := h7.trans h8.symm
    have ea1 : a1 = a2 := congrArg Prod.fst x1
    have ee1 : e1 = e2 := congrArg Prod.snd x1
    have ea2 : a3 = a4 := congrArg Prod.fst x2
    have ee2 : e3 = e4 := congrArg Prod.snd x2
    have elo : lo1 = lo2 := congrArg (fun x => x.1.1) x3
    have ehi : hi1 = hi2 := congrArg (fun x => x.1.2) x3
    have ee3 : e5 = e6 := congrArg Prod.snd x3
    have ea4 : a7 = a8 := congrArg Prod.fst x4
    have ee4 : e7 = e8 := congrArg Prod.snd x4
    have b1 : A.cmp .neq e1 e2 = false := xneF hA ee1
    have b2 : A.cmp .neq e3 e4 = false := xneF hA ee2
    have b3 : A.cmp .neq e5 e6 = false := xneF hA ee3
    have b4 : A.cmp .neq e7 e8 = false := xneF hA ee4
    have b5 : A.bnot (A.leq [lo1, hi1] [lo2, hi2]) = false := by rw [elo, ehi]; subst hA; simp [ar]
    obtain ⟨l1, l3, l7⟩ := allN_len hq20 (congrArg Prod.fst h1) (congrArg Prod.fst h3) (congrArg Prod.fst h7)
    have eP : P1 = P2 := by rw [hP1, hP2, ea1]
    subst eP
    cbv
    refine draw_goE tokT hA hS [2] [0, 1, 2, 3, 4, 5, 6, 7, 8, 9, 10, 11, 12, 13, 14, 15, 16, 17, 18, 19, 20, 21, 22, 23, 24, 25, 26, 27, 28, 29, 30, 31, 32, 33, 34, 35, 36, 37, 38, 39, 40, 41, 42, 43, 44, 45, 46, 47, 48, 49, 50, 51, 52, 53, 54, 55, 56, 57, 58] rfl rfl fun Dk hD => ?_
    cbv
    refine draw_val tokT hA hD [6] (.v (.bool false)) rfl rfl rfl rfl rfl rfl (congrArg (fun b => D.v (.bool b)) b1) ?_
    cbv
    refine draw_valG tokT hA hD [11] (.v (.bool false)) rfl rfl rfl rfl rfl rfl rfl rfl rfl (congrArg (fun b => D.v (.bool b)) b2) ?_
    cbv
    refine draw_valG tokT hA hD [16] (.v (.bool false)) rfl rfl rfl rfl rfl rfl rfl rfl rfl (congrArg (fun b => D.v (.bool b)) b3) ?_
    cbv
    refine draw_valG tokT hA hD [21] (.v (.bool false)) rfl rfl rfl rfl rfl rfl rfl rfl rfl (congrArg (fun b => D.v (.bool b)) b4) ?_
    cbv
    refine draw_valG tokT hA hD [] (.v (.bool false)) rfl rfl rfl rfl rfl rfl rfl rfl rfl ⟨[lo1, hi1], [lo2, hi2], rfl, rfl, rfl, rfl, congrArg (fun b => D.v (.bool b)) b5⟩ ?_
    cbv
    refine draw_callG hA hD (b := false) rfl rfl rfl rfl rfl rfl rfl rfl rfl rfl rfl (fun _ => ⟨[], _, [.sl 7 P1, .sl 7 P1], [], [], rfl, rfl, rfl, by decide, trivial, kSameSlots a1 P1 hP1 l1 _ ⟨by cbv; repeat' (first | exact trivial | exact Need.mk ⟨_, gS, rfl⟩ | exact Need.mk ⟨_, gP, rfl⟩ | refine ⟨?_, ?_⟩), draw_onE tokT hA hD [27] ?_⟩⟩) (fun h => absurd rfl h)
    cbv
    refine draw_valG tokT hA hD [] (.v (.bool false)) rfl rfl rfl rfl rfl rfl rfl rfl rfl (congrArg (fun b => D.v (.bool b)) hbn) ?_
    cbv
    refine draw_callG hA hD (b := false) rfl rfl rfl rfl rfl rfl rfl rfl rfl rfl rfl (fun _ => ⟨[], _, [.sl 2 P3, .sl 2 P4], [], [], rfl, rfl, rfl, by decide, trivial, kSameRanges a3 a4 P3 P4 hP3 hP4 l3 true (decide_eq_true ea2).symm _ ⟨by cbv; repeat' (first | exact trivial | exact Need.mk ⟨_, gS, rfl⟩ | exact Need.mk ⟨_, gP, rfl⟩ | refine ⟨?_, ?_⟩), draw_onE tokT hA hD [33] ?_⟩⟩) (fun h => absurd rfl h)
    cbv
    refine draw_valG tokT hA hD [] (.v (.bool false)) rfl rfl rfl rfl rfl rfl rfl rfl rfl (congrArg (fun b => D.v (.bool b)) hbn) ?_
    cbv
    refine draw_callG hA hD (b := false) rfl rfl rfl rfl rfl rfl rfl rfl rfl rfl rfl (fun _ => ⟨[], _, [.sl 1 P7, .sl 1 P8], [], [], rfl, rfl, rfl, by decide, trivial, kSameInts a7 a8 P7 P8 hP7 hP8 l7 true (decide_eq_true ea4).symm _ ⟨by cbv; repeat' (first | exact trivial | exact Need.mk ⟨_, gS, rfl⟩ | exact Need.mk ⟨_, gP, rfl⟩ | refine ⟨?_, ?_⟩), draw_onE tokT hA hD [39] ?_⟩⟩) (fun h => absurd rfl h)
    cbv
    refine draw_valG tokT hA hD [] (.v (.bool false)) rfl rfl rfl rfl rfl rfl rfl rfl rfl (congrArg (fun b => D.v (.bool b)) hbn) ?_
    cbv
    refine ⟨iS, ⟨_, gS, ?_⟩⟩
    cbv
    refine draw_callG hA hD (b := false) rfl rfl rfl rfl rfl rfl rfl rfl rfl rfl rfl (fun _ => ⟨[], _, [.agg [I z.benches, .sl 3 ZL], .agg [I z.benches, .sl 3 ZL]], [], [], rfl, rfl, rfl, by decide, trivial, kSameShops z hz1 ZL hZ _ ⟨by cbv; repeat' (first | exact trivial | exact Need.mk ⟨_, gS, rfl⟩ | exact Need.mk ⟨_, gP, rfl⟩ | refine ⟨?_, ?_⟩), draw_onE tokT hA hD [48] ?_⟩⟩) (fun h => absurd rfl h)
    cbv
    refine draw_valG tokT hA hD [] (.v (.bool false)) rfl rfl rfl rfl rfl rfl rfl rfl rfl (congrArg (fun b => D.v (.bool b)) hbn) ?_
    cbv
    refine ⟨iP, ⟨_, gP, ?_⟩⟩
    cbv
    refine draw_callG hA hD (b := false) rfl rfl rfl rfl rfl rfl rfl rfl rfl rfl rfl (fun _ => ⟨[], _, [.sl 1 QL, .sl 1 QL], [], [], rfl, rfl, rfl, by decide, trivial, kSameInts q q QL QL hQ hQ (by omega) true (decide_eq_true rfl).symm _ ⟨by cbv; repeat' (first | exact trivial | exact Need.mk ⟨_, gS, rfl⟩ | exact Need.mk ⟨_, gP, rfl⟩ | refine ⟨?_, ?_⟩), draw_onE tokT hA hD [57] ?_⟩⟩) (fun h => absurd rfl h)
    cbv
    refine draw_valG tokT hA hD [] (.v (.bool false)) rfl rfl rfl rfl rfl rfl rfl rfl rfl (congrArg (fun b => D.v (.bool b)) hbn) ?_
    cbv
    refine ⟨hf, ?_⟩
    refine gs_loop (A.add i 1, k + 1) [] ⟨hk, hu2⟩ hms ?_
    exact ⟨by decide, pre0, trivial, ⟨rfl, rfl, rfl, trivial⟩, rfl, rfl⟩
  · cbv
    refine gs_done ?_
    cbv
    refine ops_call hS [] [] [] rfl rfl rfl rfl rfl rfl rfl rfl (by decide) trivial (filing _ ?_)
    refine ops_go tokT hA hS ?_
    cbv
    exact gh_view [] (by decide) pre0 (H' := []) (d' := .v (.bool true)) trivial rfl (gh_done hq)
end Go.Proofs.YtmloogdalecilaaGreatDoor
