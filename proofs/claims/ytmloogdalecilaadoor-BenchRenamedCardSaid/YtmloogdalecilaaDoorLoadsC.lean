/- Part LoadsC of the proofs about the benches of the accordion maker: see the last text of the claim for what is proved. -/
import Derived.Test.YtmloogdalecilaaDoorBestA
import Derived.Test.YtmloogdalecilaaDoorLoadsB
import Derived.Test.YtmloogdalecilaaDoorBestD
set_option linter.unusedVariables false
set_option linter.unusedSimpArgs false
set_option linter.unnecessarySimpa false
set_option linter.constructorNameAsVariable false

/-! D60 -/
namespace Go.Proofs.YtmloogdalecilaaDoor
open Go Go.Abs Go.Proofs

theorem set_self {α : Type} {l : List α} {k : Nat} {x : α} (h : l[k]? = some x) : l.set k x = l := by
  refine List.ext_getElem? fun j => ?_
  rw [List.getElem?_set]
  split
  · rename_i e; subst e
    split
    · exact h.symm
    · rename_i hl; rw [List.getElem?_eq_none (by omega)] at h; cases h
  · rfl

/-- Other words for the elements of a row. -/
theorem gh_elsE {m : Nat} {d : D} {H : List Blk} {K : D → List Blk → Prop} (k : Nat) {sz : Nat} {es es' : List D} (hk : nthB H k = some (.els sz es)) (e : es = es') (h : GhA m d (H.set k (.els sz es')) K) : GhA m d H K := by
  subst e
  rw [set_self ((nthB_eq H k).symm.trans hk)] at h
  exact h

set_option maxRecDepth 20000 in
set_option maxHeartbeats 4000000 in
/-- Added. -/
theorem kAdded (s : Sh) (hs : NotBig s) (TL : List D) (hT : TL = s.tasks.map taskD) (t : Tk) (WL : List D) (hW : WL = t.works.map workD) (Q) (hq : ∀ TL', TL' = (s.tasks ++ [t]).map taskD → Q (RA.ret (.agg [I s.benches, .sl 3 TL'])) []) :
    CallA Tryd.prog 48 [.agg [I s.benches, .sl 3 TL], .agg [I t.ready, I t.due, .sl 3 WL]] [] Q := by
  obtain ⟨A, hA⟩ : ∃ A, A = ar := ⟨_, rfl⟩
  obtain ⟨N, hN⟩ : ∃ N, N = s.tasks.length := ⟨_, rfl⟩
  have hTl : TL.length = N := by rw [hT, hN]; simp
  have hNb : N ≤ 20 := by rw [hN]; exact hs.1
  have hN2 : A.addN 0 (A.len TL) = N := by rw [xaddN hA, xlen hA, hTl]; simp
  have hr1 : A.room (A.addN 0 (A.len TL)) 40 := by rw [hN2]; exact yroomN hA (by omega) (by decide)
  have hTe : A.app [] TL = TL := by rw [xapp hA]; rfl
  refine callA_start tokT hA Tryd.func48 rfl rfl rfl rfl rfl fun S hS => ?_
  cbv
  refine draw_go tokT hA hS [0, 1, 2, 4, 5, 3, 6, 7, 8] rfl rfl fun Dk hD => ?_
  cbv
  have h1 : A.eqN (A.addN 0 (A.len TL)) (A.len (A.app [] TL)) := by refine xeqN hA ?_; rw [hN2, xlen hA, xapp hA]; exact hTl.symm
  have hr2 : A.room (A.addN (A.addN 0 (A.len TL)) 1) 40 := by rw [hN2, xaddN hA]; exact yroomN hA (by omega) (by decide)
  obtain ⟨n2, hn2⟩ : ∃ n2, n2 = A.addN (A.addN 0 (A.len TL)) 1 := ⟨_, rfl⟩
  obtain ⟨TL', hTL'⟩ : ∃ L, L = A.app (A.app [] TL) [.agg [I t.ready, I t.due, .sl 3 WL]] := ⟨_, rfl⟩
  have e1 : TL' = (s.tasks ++ [t]).map taskD := by rw [hTL', xapp hA, xapp hA, hT, hW]; simp [taskD]
  have e2 : n2 = TL'.length := by rw [hn2, hN2, xaddN hA, e1]; simp [hN]
  refine ⟨yeqLen hA rfl, hr1, h1, yeqLen hA rfl, hr2, ?_⟩
  refine gh_elsE 6 rfl hTL'.symm ?_
  refine gh_frz [6] ?_
  cbv
  rw [hn2] at e2
  have hq' := hq TL' e1
  clear hTL' e1
  exact ⟨by cases TL' <;> exact e2, by cases TL' <;> exact e2, by cases TL' <;> exact e2, gh_view [] (by decide) pre0 (H' := []) (d' := .agg [I s.benches, .sl 3 TL']) trivial rfl (gh_done hq')⟩
end Go.Proofs.YtmloogdalecilaaDoor

/-! D61 -/
namespace Go.Proofs.YtmloogdalecilaaDoor
open Go Go.Abs Go.Proofs

/-- What Load, and Bound, say of any shop. -/
def loadN (s : Sh) : List (Int × Int) × Int := if chkS s = 0 then ((List.range s.benches.toNat).map fun b => (ldS false (preW s s.tasks.length 0) b, ldS true (preW s s.tasks.length 0) b), 0) else ([], chkS s)
def boundN (s : Sh) : Int × Int := if chkS s = 0 then (bdAt s s.benches.toNat, 0) else (0, chkS s)

theorem loadN_len (s : Sh) : (loadN s).1.length ≤ 3 := by
  unfold loadN
  split
  · rename_i h; have := (chkS_val h).b1; simp; omega
  · simp

section
variable (s : Sh) (hs : Fin s) (TL : List D) (hT : TL = s.tasks.map taskD)

theorem load_of (f : FuncId) (h : ∀ Q, (chkS s ≠ 0 → Q (RA.ret (.tup [.v (.slice none 0 0), I (chkS s)])) []) → (ShopOk s → ∀ LL, LL = ldD s.benches.toNat (preW s s.tasks.length 0) → Q (RA.ret (.tup [.sl 2 LL, I 0])) []) → CallA Tryd.prog f [.agg [I s.benches, .sl 3 TL]] [] Q)
    (Q) (hq : ∀ a e, (a, e) = loadN s → ∀ LL, LL = a.map rngD → Q (RA.ret (.tup [.sl 2 LL, I e])) []) : CallA Tryd.prog f [.agg [I s.benches, .sl 3 TL]] [] Q := by
  refine callA_gh (h (ghQ ([] : List Blk).length Q) (fun h0 => ?_) (fun hok LL hL => ?_))
  · have := hq [] (chkS s) (by rw [loadN, if_neg h0]) [] rfl
    exact gh_weak (d' := .tup [.sl 2 [], I (chkS s)]) (.tup ⟨.nil, .rfl, trivial⟩) (gh_done this)
  · have h0 := hok.chk
    exact gh_done (hq ((List.range s.benches.toNat).map fun b => (ldS false (preW s s.tasks.length 0) b, ldS true (preW s s.tasks.length 0) b)) 0 (by rw [loadN, if_pos h0]) LL (by rw [hL, ldD, List.map_map]; rfl))

theorem bound_of (f : FuncId) (h : ∀ Q, (chkS s ≠ 0 → Q (RA.ret (.tup [I 0, I (chkS s)])) []) → (ShopOk s → ∀ v, v = bdAt s s.benches.toNat → Q (RA.ret (.tup [I v, I 0])) []) → CallA Tryd.prog f [.agg [I s.benches, .sl 3 TL]] [] Q)
    (Q) (hq : ∀ v e, (v, e) = boundN s → Q (RA.ret (.tup [I v, I e])) []) : CallA Tryd.prog f [.agg [I s.benches, .sl 3 TL]] [] Q :=
  h Q (fun h0 => hq 0 (chkS s) (by rw [boundN, if_neg h0])) (fun hok v hv => hq v 0 (by rw [boundN, if_pos hok.chk, hv]))

include hs hT
theorem bLoadAll (Q) (hq : ∀ a e, (a, e) = loadN s → ∀ LL, LL = a.map rngD → Q (RA.ret (.tup [.sl 2 LL, I e])) []) : CallA Tryd.prog 49 [.agg [I s.benches, .sl 3 TL]] [] Q := load_of s TL 49 (bLoad s hs TL hT) Q hq
theorem rLoadAll (Q) (hq : ∀ a e, (a, e) = loadN s → ∀ LL, LL = a.map rngD → Q (RA.ret (.tup [.sl 2 LL, I e])) []) : CallA Tryd.prog 50 [.agg [I s.benches, .sl 3 TL]] [] Q := load_of s TL 50 (rLoad s hs TL hT) Q hq
theorem bBoundAll (Q) (hq : ∀ v e, (v, e) = boundN s → Q (RA.ret (.tup [I v, I e])) []) : CallA Tryd.prog 30 [.agg [I s.benches, .sl 3 TL]] [] Q := bound_of s TL 30 (bBound s hs TL hT) Q hq
theorem rBoundAll (Q) (hq : ∀ v e, (v, e) = boundN s → Q (RA.ret (.tup [I v, I e])) []) : CallA Tryd.prog 51 [.agg [I s.benches, .sl 3 TL]] [] Q := bound_of s TL 51 (rBound s hs TL hT) Q hq
end

theorem added_small {s : Sh} {t : Tk} (h1 : Fin s) (h2 : s.tasks.length ≤ 4) (h3 : ∀ t ∈ s.tasks, t.works.length ≤ 20) (ht : t.works.length ≤ 20) : Fin ⟨s.benches, s.tasks ++ [t]⟩ ∧ NotBig ⟨s.benches, s.tasks ++ [t]⟩ := by
  have : ∀ x ∈ s.tasks ++ [t], x.works.length ≤ 20 := fun x hx => by
    rcases List.mem_append.1 hx with hx | hx
    · exact h3 x hx
    · simp at hx; subst hx; exact ht
  refine ⟨⟨by simp; omega, fun x hx => by have := this x hx; omega⟩, by simp; omega, this⟩

set_option maxRecDepth 20000 in
set_option maxHeartbeats 8000000 in
/-- BenchLoads. -/
theorem wBenchLoads (s : Sh) (hs : Fin s) (TL : List D) (hT : TL = s.tasks.map taskD) (t : Tk) (ht : t.works.length ≤ 1152921504606846976) (WL : List D) (hW : WL = t.works.map workD) (L : List D) (nums : List Int) (hL : L = nums.map I) (hl : L.length ≤ 9223372036854775807) (Q) (hq : Q (RA.ret (.v (.bool true))) []) :
    CallA Tryd.prog 9 [.agg [I s.benches, .sl 3 TL], .agg [I t.ready, I t.due, .sl 3 WL], .sl 1 L] [] Q := by
  obtain ⟨A, hA⟩ : ∃ A, A = ar := ⟨_, rfl⟩
  have hbn : A.bnot true = false := by subst hA; rfl
  refine callA_start tokT hA Tryd.func9 rfl rfl rfl rfl rfl fun S hS => ?_
  cbv
  obtain ⟨hb, hhb⟩ : ∃ b, b = decide (20 < t.works.length) := ⟨_, rfl⟩
  refine ops_call hS [.agg [I s.benches, .sl 3 TL]] [] [] rfl rfl rfl rfl rfl rfl rfl rfl (by decide) trivial (kBig s hs TL hT _ ?_ fun hnb => ?_)
  · refine ops_go tokT hA hS ?_
    cbv
    refine ops_callG (f := 0) hS rfl rfl rfl rfl rfl rfl rfl rfl (fun e => Bool.noConfusion e) (fun _ => ?_)
    refine ops_go tokT hA hS ?_
    cbv
    refine ops_call hS [] [] [] rfl rfl rfl rfl rfl rfl rfl rfl (by decide) trivial (filing _ ?_)
    refine ops_go tokT hA hS ?_
    cbv
    exact gh_view [] (by decide) pre0 (H' := []) (d' := .v (.bool true)) trivial rfl (gh_done hq)
  refine ops_go tokT hA hS ?_
  cbv
  refine ops_callG hS rfl rfl rfl rfl rfl rfl rfl rfl (fun _ => ⟨[], _, [.agg [I t.ready, I t.due, .sl 3 WL]], [], [], rfl, rfl, rfl, by decide, trivial, kHuge t WL hW hb hhb _ ?_⟩) (fun h => absurd rfl h)
  refine ops_go tokT hA hS ?_
  cbv
  refine bm (fun c => ?_) (fun c => ?_)
  · cbv
    refine ops_call hS [] [] [] rfl rfl rfl rfl rfl rfl rfl rfl (by decide) trivial (filing _ ?_)
    refine ops_go tokT hA hS ?_
    cbv
    exact gh_view [] (by decide) pre0 (H' := []) (d' := .v (.bool true)) trivial rfl (gh_done hq)
  have ht20 : t.works.length ≤ 20 := by rw [c] at hhb; have := of_decide_eq_false hhb.symm; omega
  cbv
  refine ops_call hS [.sl 1 L] [] [] rfl rfl rfl rfl rfl rfl rfl rfl (by decide) trivial (newPotL L nums hL hl _ fun x0 => ?_)
  refine ops_go tokT hA hS ?_
  cbv
  refine ops_call hS [.b 0 0, I 3, I 7] [2] [pot x0] rfl rfl rfl rfl rfl rfl rfl rfl (by decide) ⟨rfl, trivial⟩ (shopOf x0 3 7 (by decide) (by decide) _ fun m x1 hok => ?_)
  obtain ⟨hm1, hm2⟩ := okS_small hok (by decide) (by decide)
  have hm4 : m.tasks.length ≤ 4 := by have := hok.len; omega
  obtain ⟨a, ha⟩ : ∃ a : Sh, a = ⟨m.benches, m.tasks ++ [t]⟩ := ⟨_, rfl⟩
  obtain ⟨ha1, ha2⟩ : Fin a ∧ NotBig a := ha ▸ added_small hm1 hm4 hm2.2 ht20
  obtain ⟨ML, hM⟩ : ∃ ML, ML = m.tasks.map taskD := ⟨_, rfl⟩
  unfold shopD
  rw [← hM]
  refine ops_go tokT hA hS ?_
  cbv
  refine draw_go tokT hA hS [0, 1, 2, 3, 4, 5, 6] rfl rfl fun Dk0 hD0 => ?_
  cbv
  refine draw_call hA hD0 [.agg [I m.benches, .sl 3 ML], .agg [I t.ready, I t.due, .sl 3 WL]] [] [] rfl rfl rfl rfl rfl rfl rfl rfl rfl rfl rfl (by decide) trivial (kAdded m hm2 ML hM t WL hW _ fun AL hAL => ⟨by cbv, draw_on tokT hA hD0 ?_⟩)
  have hAL : AL = a.tasks.map taskD := by rw [hAL, ha]
  have hab : m.benches = a.benches := by rw [ha]
  cbv
  obtain ⟨SS, hSS⟩ : ∃ SS : List D, SS = [.agg [I s.benches, .sl 3 TL], .agg [I m.benches, .sl 3 ML], .agg [I m.benches, .sl 3 AL]] := ⟨_, rfl⟩
  have hSl : SS.length = 3 := by rw [hSS]; rfl
  refine at_code hS ?_
  refine wpa_loopG (α := Int × Nat) (fun q => { env := [(8, .sl 2 SS), (9, I q.1)], H := [], nt := 111, dfs := [] })
    (fun q => 3 - q.2) (fun q => q.2 ≤ 3 ∧ IsI q.1 q.2) (0, 0) ⟨by decide, ⟨rfl⟩⟩ ?_ ?_
  · refine gs_frz hA [4] ?_
    cbv
    exact ⟨yeqLen hA rfl, yeqLen hA rfl, gs_to [] ⟨by decide, pre0, trivial, ⟨by rw [hSS]; rfl, rfl, trivial⟩, rfl, rfl⟩⟩
  rintro ⟨i, k⟩ ⟨u1, u2⟩
  dsimp only at u1 u2
  refine wp_goF tokT hA hS [] ?_
  cbv
  refine bm (fun c => ?_) (fun c => ?_)
  · have hk : k < 3 := yltL hA hSl u2 c
    obtain ⟨z, ZL, hz1, hz2, hZ, hSk⟩ : ∃ (z : Sh) (ZL : List D), Fin z ∧ NotBig z ∧ ZL = z.tasks.map taskD ∧ SS[k]? = some (.agg [I z.benches, .sl 3 ZL]) := by
      match k, hk with
      | 0, _ => exact ⟨s, TL, hs, hnb, hT, by rw [hSS]; rfl⟩
      | 1, _ => exact ⟨m, ML, hm1, hm2, hM, by rw [hSS]; rfl⟩
      | 2, _ => exact ⟨a, AL, ha1, ha2, hAL, by rw [hSS, hab]; rfl⟩
    have iS := yinbL hA hSl u2 hk
    have gS := yget hA u2 hSk
    have hf := yfit1 hA u2 (by omega)
    have hu2 := ysucc hA u2
    have hms : 3 - (k + 1) < 3 - k := by omega
    obtain ⟨n, hn⟩ : ∃ n, n = chkS z := ⟨_, rfl⟩
    cbv
    refine ⟨iS, ⟨_, gS, ?_⟩⟩
    cbv
    refine ops_call hS [.agg [I z.benches, .sl 3 ZL]] [] [] rfl rfl rfl rfl rfl rfl rfl rfl (by decide) trivial (kCopyShop z hz2 ZL hZ _ ?_)
    refine ops_go tokT hA hS ?_
    cbv
    refine ops_call hS [.agg [I z.benches, .sl 3 ZL]] [] [] rfl rfl rfl rfl rfl rfl rfl rfl (by decide) trivial (bLoadAll z hz1 ZL hZ _ fun a1 e1 h1 P1 hP1 => ?_)
    refine ops_go tokT hA hS ?_
    cbv
    refine ⟨iS, ⟨_, gS, ?_⟩⟩
    cbv
    refine ops_call hS [.agg [I z.benches, .sl 3 ZL]] [] [] rfl rfl rfl rfl rfl rfl rfl rfl (by decide) trivial (rLoadAll z hz1 ZL hZ _ fun a2 e2 h2 P2 hP2 => ?_)
    refine ops_go tokT hA hS ?_
    cbv
    refine ops_call hS [.agg [I z.benches, .sl 3 ZL]] [] [] rfl rfl rfl rfl rfl rfl rfl rfl (by decide) trivial (bBoundAll z hz1 ZL hZ _ fun n3 e3 h3 => ?_)
    refine ops_go tokT hA hS ?_
    cbv
    refine ⟨iS, ⟨_, gS, ?_⟩⟩
    cbv
    refine ops_call hS [.agg [I z.benches, .sl 3 ZL]] [] [] rfl rfl rfl rfl rfl rfl rfl rfl (by decide) trivial (rBoundAll z hz1 ZL hZ _ fun n4 e4 h4 => ?_)
    have x1 := h1.trans h2.symm
    have x2 := h3.trans h4.symm
    have ea1 : a1 = a2 := congrArg Prod.fst x1
    have ee1 : e1 = e2 := congrArg Prod.snd x1
    have en2 : n3 = n4 := congrArg Prod.fst x2
    have ee2 : e3 = e4 := congrArg Prod.snd x2
    have b0 : A.cmp .neq n n = false := xneF hA rfl
    have b1 : A.cmp .neq e1 e2 = false := xneF hA ee1
    have b2 : A.cmp .neq n3 n4 = false := xneF hA en2
    have b3 : A.cmp .neq e3 e4 = false := xneF hA ee2
    have l1 : a1.length ≤ 1152921504606846976 := by
      have := loadN_len z
      have e : a1 = (loadN z).1 := congrArg Prod.fst h1
      rw [e]; omega
    refine ops_go tokT hA hS ?_
    cbv
    refine draw_go tokT hA hS [0, 2, 3, 4, 5, 1, 6, 7, 8, 9, 10, 11, 12, 13, 14, 15, 16, 17, 18, 19, 20, 21, 22, 23, 24, 25, 26, 27, 28, 29, 30, 31, 32, 33, 34, 35, 36, 37] rfl rfl fun Dk hD => ?_
    cbv
    refine ⟨iS, ⟨_, gS, ?_⟩⟩
    cbv
    refine draw_call hA hD [.agg [I z.benches, .sl 3 ZL]] [] [] rfl rfl rfl rfl rfl rfl rfl rfl rfl rfl rfl (by decide) trivial (bCheck z hz1 ZL hZ n hn _ ⟨by cbv; repeat' (first | exact trivial | exact Need.mk ⟨_, gS, rfl⟩ | refine ⟨?_, ?_⟩), draw_on tokT hA hD ?_⟩)
    cbv
    refine draw_call hA hD [.agg [I z.benches, .sl 3 ZL]] [] [] rfl rfl rfl rfl rfl rfl rfl rfl rfl rfl rfl (by decide) trivial (rCheck z hz1 ZL hZ n hn _ ⟨by cbv; repeat' (first | exact trivial | exact Need.mk ⟨_, gS, rfl⟩ | refine ⟨?_, ?_⟩), draw_onE tokT hA hD [7] ?_⟩)
    cbv
    refine draw_val tokT hA hD [11] (.v (.bool false)) rfl rfl rfl rfl rfl rfl (congrArg (fun b => D.v (.bool b)) b0) ?_
    cbv
    refine draw_valG tokT hA hD [16] (.v (.bool false)) rfl rfl rfl rfl rfl rfl rfl rfl rfl (congrArg (fun b => D.v (.bool b)) b1) ?_
    cbv
    refine draw_valG tokT hA hD [21] (.v (.bool false)) rfl rfl rfl rfl rfl rfl rfl rfl rfl (congrArg (fun b => D.v (.bool b)) b2) ?_
    cbv
    refine draw_valG tokT hA hD [] (.v (.bool false)) rfl rfl rfl rfl rfl rfl rfl rfl rfl (congrArg (fun b => D.v (.bool b)) b3) ?_
    cbv
    refine draw_callG hA hD (b := false) rfl rfl rfl rfl rfl rfl rfl rfl rfl rfl rfl (fun _ => ⟨[], _, [.sl 2 P1, .sl 2 P2], [], [], rfl, rfl, rfl, by decide, trivial, kSameRanges a1 a2 P1 P2 hP1 hP2 l1 true (decide_eq_true ea1).symm _ ⟨by cbv; repeat' (first | exact trivial | exact Need.mk ⟨_, gS, rfl⟩ | refine ⟨?_, ?_⟩), draw_onE tokT hA hD [27] ?_⟩⟩) (fun h => absurd rfl h)
    cbv
    refine draw_valG tokT hA hD [] (.v (.bool false)) rfl rfl rfl rfl rfl rfl rfl rfl rfl (congrArg (fun b => D.v (.bool b)) hbn) ?_
    cbv
    refine ⟨iS, ⟨_, gS, ?_⟩⟩
    cbv
    refine draw_callG hA hD (b := false) rfl rfl rfl rfl rfl rfl rfl rfl rfl rfl rfl (fun _ => ⟨[], _, [.agg [I z.benches, .sl 3 ZL], .agg [I z.benches, .sl 3 ZL]], [], [], rfl, rfl, rfl, by decide, trivial, kSameShops z hz1 ZL hZ _ ⟨by cbv; repeat' (first | exact trivial | exact Need.mk ⟨_, gS, rfl⟩ | refine ⟨?_, ?_⟩), draw_onE tokT hA hD [36] ?_⟩⟩) (fun h => absurd rfl h)
    cbv
    refine draw_valG tokT hA hD [] (.v (.bool false)) rfl rfl rfl rfl rfl rfl rfl rfl rfl (congrArg (fun b => D.v (.bool b)) hbn) ?_
    cbv
    refine ⟨hf, ?_⟩
    refine gs_loop (A.add i 1, k + 1) [] ⟨hk, hu2⟩ hms ?_
    exact ⟨by decide, pre0, trivial, ⟨rfl, rfl, trivial⟩, rfl, rfl⟩
  · cbv
    refine gs_done ?_
    cbv
    refine ops_call hS [] [] [] rfl rfl rfl rfl rfl rfl rfl rfl (by decide) trivial (filing _ ?_)
    refine ops_go tokT hA hS ?_
    cbv
    exact gh_view [] (by decide) pre0 (H' := []) (d' := .v (.bool true)) trivial rfl (gh_done hq)
end Go.Proofs.YtmloogdalecilaaDoor
