/- Part BestD of the proofs about the benches of the accordion maker: see the last text of the claim for what is proved. -/
import Derived.Test.YtmloogdalecilaaDoorBestC
import Derived.Test.YtmloogdalecilaaDoorBestA
import Derived.Test.YtmloogdalecilaaDoorEndsA
set_option linter.unusedVariables false
set_option linter.unusedSimpArgs false
set_option linter.unnecessarySimpa false
set_option linter.constructorNameAsVariable false

/-! D55 -/
namespace Go.Proofs.YtmloogdalecilaaDoor
open Go Go.Abs Go.Proofs

theorem leastS_mem {num : List Nat → Int} (l : List (List Nat)) : (leastS num l).2.1 = [] ∨ (leastS num l).2.1 ∈ l := by
  refine revInd (P := fun l => (leastS num l).2.1 = [] ∨ (leastS num l).2.1 ∈ l) (.inl rfl) (fun l x ih => ?_) l
  show (leastS num (l ++ [x])).2.1 = [] ∨ (leastS num (l ++ [x])).2.1 ∈ l ++ [x]
  rw [leastS_snoc]
  split
  · exact .inr (by simp)
  · rcases ih with h | h
    · exact .inl h
    · exact .inr (List.mem_append_left _ h)

theorem _root_.Go.Abs.WkD.tup {cs ds : List D} (h : WkL cs ds) : WkD (.tup cs) (.tup ds) := ⟨fun F μ v hv => by
  have : ∃ vs, v = .tuple vs ∧ cs.length = vs.size ∧ ∀ (i : Nat) (c : D) (v : Value), cs[i]? = some c → vs[i]? = some v → VR F μ c v := by
    cases hv with
    | cl _ _ hc => cases hc with | tup _ vs hl hh => exact ⟨vs, rfl, hl, fun i c v h1 h2 => .cl _ _ (hh i c v h1 h2)⟩
    | tup _ vs hl hh => exact ⟨vs, rfl, hl, hh⟩
  obtain ⟨vs, rfl, hl, hr⟩ := this
  exact .tup _ _ (by rw [← h.length]; exact hl) (fun i c v hc hv => by
    obtain ⟨a, h1, h2⟩ := h.get hc
    exact h2.out _ _ _ (hr i a v h1 hv))⟩

/-- What the search for the best plan says of any shop. -/
def outN (s : Sh) (b : Bool × List Nat × Int) : List Int × Int × Int := if chkS s = 0 then (b.2.1.map (fun i : Nat => (i : Int)), b.2.2, 0) else ([], 0, chkS s)

theorem outN_len {s : Sh} {num : List Nat → Int} (hs : Fin s) : (outN s (leastS num (plansS s))).1.length ≤ 20 := by
  unfold outN
  split
  · rename_i h
    have hv := chkS_val h
    rw [List.length_map]
    rcases leastS_mem (num := num) (plansS s) with h2 | h2
    · rw [h2]; simp
    · rw [(plansS_ok hv h2).len]; have := hv.sum; omega
  · simp

theorem planL_ints (q : List Nat) : planL q = (q.map (fun i : Nat => (i : Int))).map I := by rw [planL, List.map_map]; rfl

section
variable (s : Sh) (hs : Fin s) (TL : List D) (hT : TL = s.tasks.map taskD)
include hs hT

omit hs hT in
theorem any_of (f : FuncId) (b : Bool × List Nat × Int) (h : ∀ Q, (chkS s ≠ 0 → Q (RA.ret (.tup [.v (.slice none 0 0), I 0, I (chkS s)])) []) → (ShopOk s → ∀ PL n, PL = planL b.2.1 → n = b.2.2 → Q (RA.ret (.tup [.sl 1 PL, I n, I 0])) []) → CallA Tryd.prog f [.agg [I s.benches, .sl 3 TL]] [] Q)
    (Q) (hq : ∀ a n e, (a, n, e) = outN s b → ∀ PL, PL = a.map I → Q (RA.ret (.tup [.sl 1 PL, I n, I e])) []) : CallA Tryd.prog f [.agg [I s.benches, .sl 3 TL]] [] Q := by
  refine callA_gh (h (ghQ ([] : List Blk).length Q) (fun h0 => ?_) (fun hok PL n hP hn => ?_))
  · have := hq [] 0 (chkS s) (by rw [outN, if_neg h0]) [] rfl
    exact gh_weak (d' := .tup [.sl 1 [], I 0, I (chkS s)]) (.tup ⟨.nil, .rfl, .rfl, trivial⟩) (gh_done this)
  · have h0 := hok.chk
    exact gh_done (hq _ n 0 (by rw [outN, if_pos h0, hn]) PL (by rw [hP, planL_ints]))

theorem bBestAll (Q) (hq : ∀ a n e, (a, n, e) = outN s (bestS s) → ∀ PL, PL = a.map I → Q (RA.ret (.tup [.sl 1 PL, I n, I e])) []) : CallA Tryd.prog 32 [.agg [I s.benches, .sl 3 TL]] [] Q := any_of s TL 32 _ (bBestAny s hs TL hT) Q hq
theorem bPromptAll (Q) (hq : ∀ a n e, (a, n, e) = outN s (promptS s) → ∀ PL, PL = a.map I → Q (RA.ret (.tup [.sl 1 PL, I n, I e])) []) : CallA Tryd.prog 57 [.agg [I s.benches, .sl 3 TL]] [] Q := any_of s TL 57 _ (bPromptAny s hs TL hT) Q hq
theorem rBestAll (Q) (hq : ∀ a n e, (a, n, e) = outN s (bestS s) → ∀ PL, PL = a.map I → Q (RA.ret (.tup [.sl 1 PL, I n, I e])) []) : CallA Tryd.prog 56 [.agg [I s.benches, .sl 3 TL]] [] Q := any_of s TL 56 _ (rBest s hs TL hT) Q hq
theorem rPromptAll (Q) (hq : ∀ a n e, (a, n, e) = outN s (promptS s) → ∀ PL, PL = a.map I → Q (RA.ret (.tup [.sl 1 PL, I n, I e])) []) : CallA Tryd.prog 58 [.agg [I s.benches, .sl 3 TL]] [] Q := any_of s TL 58 _ (rPrompt s hs TL hT) Q hq
end

theorem okS_small {n m : Nat} {s : Sh} (h : OkS n m s) (hn : n ≤ 4) (hm : m ≤ 8) : Fin s ∧ NotBig s := by
  have h1 := h.len
  refine ⟨⟨by omega, fun t ht => ?_⟩, by omega, fun t ht => ?_⟩
  · have := (h.tk t ht).w1; omega
  · have := (h.tk t ht).w1; omega

set_option maxRecDepth 20000 in
set_option maxHeartbeats 8000000 in
/-- BenchBest. -/
theorem wBenchBest (s : Sh) (hs : Fin s) (TL : List D) (hT : TL = s.tasks.map taskD) (L : List D) (nums : List Int) (hL : L = nums.map I) (hl : L.length ≤ 9223372036854775807) (Q) (hq : Q (RA.ret (.v (.bool true))) []) :
    CallA Tryd.prog 10 [.agg [I s.benches, .sl 3 TL], .sl 1 L] [] Q := by
  obtain ⟨A, hA⟩ : ∃ A, A = ar := ⟨_, rfl⟩
  have hbn : A.bnot true = false := by subst hA; rfl
  refine callA_start tokT hA Tryd.func10 rfl rfl rfl rfl rfl fun S hS => ?_
  cbv
  refine ops_call hS [.agg [I s.benches, .sl 3 TL]] [] [] rfl rfl rfl rfl rfl rfl rfl rfl (by decide) trivial (kMany s hs TL hT _ ?_ fun hnb b => ?_)
  · refine ops_go tokT hA hS ?_
    cbv
    refine ops_call hS [] [] [] rfl rfl rfl rfl rfl rfl rfl rfl (by decide) trivial (filing _ ?_)
    refine ops_go tokT hA hS ?_
    cbv
    exact gh_view [] (by decide) pre0 (H' := []) (d' := .v (.bool true)) trivial rfl (gh_done hq)
  refine ops_go tokT hA hS ?_
  cbv
  refine bm (fun c => ?_) (fun c => ?_)
  · cbv
    refine ops_call hS [] [] [] rfl rfl rfl rfl rfl rfl rfl rfl (by decide) trivial (filing _ ?_)
    refine ops_go tokT hA hS ?_
    cbv
    exact gh_view [] (by decide) pre0 (H' := []) (d' := .v (.bool true)) trivial rfl (gh_done hq)
  cbv
  refine draw_go tokT hA hS [0, 1, 2, 3, 4, 5] rfl rfl fun Dk0 hD0 => ?_
  cbv
  refine draw_call hA hD0 [.sl 1 L] [] [] rfl rfl rfl rfl rfl rfl rfl rfl rfl rfl rfl (by decide) trivial (newPotL L nums hL hl _ fun x0 => ⟨by cbv, draw_on tokT hA hD0 ?_⟩)
  cbv
  refine draw_call hA hD0 [.b 0 0, I 3, I 6] [1] [pot x0] rfl rfl rfl rfl rfl rfl rfl rfl rfl rfl rfl (by decide) ⟨rfl, trivial⟩ (shopOf x0 3 6 (by decide) (by decide) _ fun m x1 hok => ⟨by cbv, draw_on tokT hA hD0 ?_⟩)
  obtain ⟨hm1, hm2⟩ := okS_small hok (by decide) (by decide)
  obtain ⟨ML, hM⟩ : ∃ ML, ML = m.tasks.map taskD := ⟨_, rfl⟩
  unfold shopD
  rw [← hM]
  cbv
  obtain ⟨SS, hSS⟩ : ∃ SS : List D, SS = [.agg [I s.benches, .sl 3 TL], .agg [I m.benches, .sl 3 ML]] := ⟨_, rfl⟩
  have hSl : SS.length = 2 := by rw [hSS]; rfl
  refine at_code hS ?_
  refine wpa_loopG (α := Int × Nat) (fun q => { env := [(5, .sl 2 SS), (6, I q.1)], H := [], nt := 109, dfs := [] })
    (fun q => 2 - q.2) (fun q => q.2 ≤ 2 ∧ IsI q.1 q.2) (0, 0) ⟨by decide, ⟨rfl⟩⟩ ?_ ?_
  · refine gs_frz hA [2] ?_
    cbv
    exact ⟨yeqLen hA rfl, yeqLen hA rfl, gs_to [] ⟨by decide, pre0, trivial, ⟨by rw [hSS]; rfl, rfl, trivial⟩, rfl, rfl⟩⟩
  rintro ⟨i, k⟩ ⟨u1, u2⟩
  dsimp only at u1 u2
  refine wp_goF tokT hA hS [] ?_
  cbv
  refine bm (fun c => ?_) (fun c => ?_)
  · have hk : k < 2 := yltL hA hSl u2 c
    obtain ⟨z, ZL, hz1, hz2, hZ, hSk⟩ : ∃ (z : Sh) (ZL : List D), Fin z ∧ NotBig z ∧ ZL = z.tasks.map taskD ∧ SS[k]? = some (.agg [I z.benches, .sl 3 ZL]) := by
      by_cases h0 : k = 0
      · subst h0; exact ⟨s, TL, hs, hnb, hT, by rw [hSS]; rfl⟩
      · have : k = 1 := by omega
        subst this; exact ⟨m, ML, hm1, hm2, hM, by rw [hSS]; rfl⟩
    have iS := yinbL hA hSl u2 hk
    have gS := yget hA u2 hSk
    have hf := yfit1 hA u2 (by omega)
    have hu2 := ysucc hA u2
    have hms : 2 - (k + 1) < 2 - k := by omega
    cbv
    refine ⟨iS, ⟨_, gS, ?_⟩⟩
    cbv
    refine ops_call hS [.agg [I z.benches, .sl 3 ZL]] [] [] rfl rfl rfl rfl rfl rfl rfl rfl (by decide) trivial (kCopyShop z hz2 ZL hZ _ ?_)
    refine ops_go tokT hA hS ?_
    cbv
    refine ops_call hS [.agg [I z.benches, .sl 3 ZL]] [] [] rfl rfl rfl rfl rfl rfl rfl rfl (by decide) trivial (bBestAll z hz1 ZL hZ _ fun a1 n1 e1 h1 P1 hP1 => ?_)
    refine ops_go tokT hA hS ?_
    cbv
    refine ⟨iS, ⟨_, gS, ?_⟩⟩
    cbv
    refine ops_call hS [.agg [I z.benches, .sl 3 ZL]] [] [] rfl rfl rfl rfl rfl rfl rfl rfl (by decide) trivial (rBestAll z hz1 ZL hZ _ fun a2 n2 e2 h2 P2 hP2 => ?_)
    refine ops_go tokT hA hS ?_
    cbv
    refine ops_call hS [.agg [I z.benches, .sl 3 ZL]] [] [] rfl rfl rfl rfl rfl rfl rfl rfl (by decide) trivial (bPromptAll z hz1 ZL hZ _ fun a3 n3 e3 h3 P3 hP3 => ?_)
    refine ops_go tokT hA hS ?_
    cbv
    refine ⟨iS, ⟨_, gS, ?_⟩⟩
    cbv
    refine ops_call hS [.agg [I z.benches, .sl 3 ZL]] [] [] rfl rfl rfl rfl rfl rfl rfl rfl (by decide) trivial (rPromptAll z hz1 ZL hZ _ fun a4 n4 e4 h4 P4 hP4 => ?_)
    have x1 := h1.trans h2.symm
    have x2 := h3.trans h4.symm
    have ea1 : a1 = a2 := congrArg Prod.fst x1
    have en1 : n1 = n2 := congrArg (fun q => q.2.1) x1
    have ee1 : e1 = e2 := congrArg (fun q => q.2.2) x1
    have ea2 : a3 = a4 := congrArg Prod.fst x2
    have en2 : n3 = n4 := congrArg (fun q => q.2.1) x2
    have ee2 : e3 = e4 := congrArg (fun q => q.2.2) x2
    have b1 : A.cmp .neq e1 e2 = false := xneF hA ee1
    have b2 : A.cmp .neq n1 n2 = false := xneF hA en1
    have b3 : A.cmp .neq e3 e4 = false := xneF hA ee2
    have b4 : A.cmp .neq n3 n4 = false := xneF hA en2
    have l1 : a1.length ≤ 1152921504606846976 := by
      have := outN_len (num := worst z) hz1
      have e : a1 = (outN z (leastS (worst z) (plansS z))).1 := congrArg Prod.fst h1
      rw [e]; omega
    have l3 : a3.length ≤ 1152921504606846976 := by
      have := outN_len (num := lateC z) hz1
      have e : a3 = (outN z (leastS (lateC z) (plansS z))).1 := congrArg Prod.fst h3
      rw [e]; omega
    refine ops_go tokT hA hS ?_
    cbv
    refine draw_goE tokT hA hS [2] [0, 1, 2, 3, 4, 5, 6, 7, 8, 9, 10, 11, 12, 13, 14, 15, 16, 17, 18, 19, 20, 21, 22, 23, 24, 25, 26, 27, 28, 29, 30, 31, 32, 33, 34, 35, 36, 37, 38] rfl rfl fun Dk hD => ?_
    cbv
    refine draw_val tokT hA hD [6] (.v (.bool false)) rfl rfl rfl rfl rfl rfl (congrArg (fun b => D.v (.bool b)) b1) ?_
    cbv
    refine draw_valG tokT hA hD [11] (.v (.bool false)) rfl rfl rfl rfl rfl rfl rfl rfl rfl (congrArg (fun b => D.v (.bool b)) b2) ?_
    cbv
    refine draw_valG tokT hA hD [16] (.v (.bool false)) rfl rfl rfl rfl rfl rfl rfl rfl rfl (congrArg (fun b => D.v (.bool b)) b3) ?_
    cbv
    refine draw_valG tokT hA hD [] (.v (.bool false)) rfl rfl rfl rfl rfl rfl rfl rfl rfl (congrArg (fun b => D.v (.bool b)) b4) ?_
    cbv
    refine draw_callG hA hD (b := false) rfl rfl rfl rfl rfl rfl rfl rfl rfl rfl rfl (fun _ => ⟨[], _, [.sl 1 P1, .sl 1 P2], [], [], rfl, rfl, rfl, by decide, trivial, kSameInts a1 a2 P1 P2 hP1 hP2 l1 true (decide_eq_true ea1).symm _ ⟨by cbv; repeat' (first | exact trivial | exact Need.mk ⟨_, gS, rfl⟩ | refine ⟨?_, ?_⟩), draw_onE tokT hA hD [22] ?_⟩⟩) (fun h => absurd rfl h)
    cbv
    refine draw_valG tokT hA hD [] (.v (.bool false)) rfl rfl rfl rfl rfl rfl rfl rfl rfl (congrArg (fun b => D.v (.bool b)) hbn) ?_
    cbv
    refine draw_callG hA hD (b := false) rfl rfl rfl rfl rfl rfl rfl rfl rfl rfl rfl (fun _ => ⟨[], _, [.sl 1 P3, .sl 1 P4], [], [], rfl, rfl, rfl, by decide, trivial, kSameInts a3 a4 P3 P4 hP3 hP4 l3 true (decide_eq_true ea2).symm _ ⟨by cbv; repeat' (first | exact trivial | exact Need.mk ⟨_, gS, rfl⟩ | refine ⟨?_, ?_⟩), draw_onE tokT hA hD [28] ?_⟩⟩) (fun h => absurd rfl h)
    cbv
    refine draw_valG tokT hA hD [] (.v (.bool false)) rfl rfl rfl rfl rfl rfl rfl rfl rfl (congrArg (fun b => D.v (.bool b)) hbn) ?_
    cbv
    refine ⟨iS, ⟨_, gS, ?_⟩⟩
    cbv
    refine draw_callG hA hD (b := false) rfl rfl rfl rfl rfl rfl rfl rfl rfl rfl rfl (fun _ => ⟨[], _, [.agg [I z.benches, .sl 3 ZL], .agg [I z.benches, .sl 3 ZL]], [], [], rfl, rfl, rfl, by decide, trivial, kSameShops z hz1 ZL hZ _ ⟨by cbv; repeat' (first | exact trivial | exact Need.mk ⟨_, gS, rfl⟩ | refine ⟨?_, ?_⟩), draw_onE tokT hA hD [37] ?_⟩⟩) (fun h => absurd rfl h)
    cbv
    refine draw_valG tokT hA hD [] (.v (.bool false)) rfl rfl rfl rfl rfl rfl rfl rfl rfl (congrArg (fun b => D.v (.bool b)) hbn) ?_
    cbv
    refine ⟨hf, ?_⟩
    refine gs_loop (A.add i 1, k + 1) [] ⟨hk, hu2⟩ hms ?_
    exact ⟨by decide, pre0, trivial, ⟨rfl, rfl, trivial⟩, rfl, rfl⟩
  · cbv
    refine gs_done ?_
    cbv
    refine ops_call hS [] [] [] rfl rfl rfl rfl rfl rfl rfl rfl (by decide) trivial (filing _ ?_)
    refine ops_go tokT hA hS ?_
    cbv
    exact gh_view [] (by decide) pre0 (H' := []) (d' := .v (.bool true)) trivial rfl (gh_done hq)
end Go.Proofs.YtmloogdalecilaaDoor
