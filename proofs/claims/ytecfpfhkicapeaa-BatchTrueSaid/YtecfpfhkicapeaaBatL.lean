/- Part BatL of the proofs about the benches of the accordion maker: see the last text of the claim for what is proved. -/
import Derived.Test.YtecfpfhkicapeaaBatJ
import Derived.Test.YtecfpfhkicapeaaSaysE
import Derived.Test.YtecfpfhkicapeaaMachG
set_option linter.unusedVariables false
set_option linter.unusedSimpArgs false
set_option linter.unnecessarySimpa false
set_option linter.constructorNameAsVariable false

namespace Go.Proofs.Ytecfpfhkicapeaa
open Go Go.Abs Go.Proofs Go.Batch
set_option maxRecDepth 20000 in
set_option maxHeartbeats 4000000 in
theorem bLeft (j : Jn) (hj : JOk j) (hst : standsJ j = true) (FL ML : List D) (hF : FL = j.first.map bolD) (hM : ML = j.moves.map mvD) (Q) (hq : ∀ L, L = (leftJ j).map rgD → Q (RA.ret (.tup [.sl 2 L, I 0])) []) :
    CallA Try.prog 46 [.agg [I j.ins, .sl 1 FL, .sl 5 ML]] [] Q := by
  obtain ⟨A, hA⟩ : ∃ A, A = ar := ⟨_, rfl⟩
  have hf2 := hj.f2
  have hm10 := hj.m10
  have hf : j.first.length ≤ 1152921504606846976 := lim (by omega)
  have hm : j.moves.length ≤ 1152921504606846976 := lim (by omega)
  have hFl : FL.length = j.first.length := by rw [hF, List.length_map]
  refine callA_start tokT hA Try.func46 rfl rfl rfl rfl rfl fun S hS => ?_
  cbv
  refine ops_call hS [.agg [I j.ins, .sl 1 FL, .sl 5 ML], .fn 81 []] [] [] rfl rfl rfl rfl rfl rfl rfl rfl (by decide) trivial (bKnown j hf hm tkNone 81 [] tkNoneOk FL ML hF hM _ (fun e1 he1 hne => absurd (he1.trans (checkJ_of hj)) hne) (fun _ ents hme hne => ?_) (fun _ h0 => absurd (standsJ_no h0) (by rw [hst]; exact fun h => Bool.noConfusion h))) 
  have hc : A.cmp .neq 0 0 = false := by subst hA; rfl
  have hsok : ∀ s ∈ endsS j tkNone 0, StOk s := fun s hs => by rw [← nowK_all] at hs; exact nowK_ok tkB_none hj _ s hs
  obtain ⟨N, hN⟩ : ∃ N, N = j.first.length := ⟨_, rfl⟩
  rw [← hN] at hFl hf2
  obtain ⟨g, hg⟩ : ∃ g : Nat → Int × Int, g = fun n : Nat => rangeI ((endsS j tkNone 0).map fun s => inL n (binsOf j.moves) s.1) := ⟨_, rfl⟩
  have hrest : rgsL g N = (leftJ j).map rgD := by rw [rgsL, hg, hN]; rfl
  refine ops_go tokT hA hS ?_
  cbv
  refine bmF hc ?_
  cbv
  refine ops_call hS [.agg [I j.ins, .sl 1 FL, .sl 5 ML], .fn 81 []] [] [] rfl rfl rfl rfl rfl rfl rfl rfl (by decide) trivial (bOpen j (by omega) FL ML hM 81 [] (.inl rfl) _ fun BL hBL => ?_)
  refine ops_go tokT hA hS ?_
  cbv
  refine at_code hS ?_
  refine wpa_loopG (α := Int × Nat × List D) (fun q => { env := [(4, .mv 0), (6, .cb (.agg [I j.ins, .sl 1 FL, .sl 5 ML, .sl 1 BL, .fn 81 []]) 0), (7, .o 1 2 q.2.1), (21, I (A.oi (A.len FL))), (22, I q.1)], H := [.ob (.mp 5 ents), .els 2 q.2.2], nt := 33, dfs := [] })
    (fun q => N - q.2.1) (fun q => q.2.1 ≤ N ∧ IsI q.1 q.2.1 ∧ q.2.2 = rgsL g q.2.1) (0, 0, []) ⟨Nat.zero_le _, ⟨rfl⟩, rfl⟩ ?_ ?_
  · refine gs_frz hA [2] ?_
    cbv
    refine gs_virt 7 2 rfl ?_
    exact gs_to [1, 3] ⟨by decide, pre0, ⟨rfl, rfl, trivial⟩, ⟨rfl, rfl, rfl, rfl, rfl, trivial⟩, rfl, rfl⟩
  rintro ⟨i, k, L⟩ ⟨u1, u2, u3⟩
  dsimp only at u1 u2 u3
  have hLl : L.length = k := by rw [u3]; simp [rgsL]
  have hsu := rgsL_succ g k
  obtain ⟨lo, hlo⟩ : ∃ lo, lo = (g k).1 := ⟨_, rfl⟩
  obtain ⟨hi, hhi⟩ : ∃ hi, hi = (g k).2 := ⟨_, rfl⟩
  rw [← hlo, ← hhi] at hsu
  have hie := u2.eq
  have hlo' : lo = (rangeI ((endsS j tkNone 0).map fun s => inL i (binsOf j.moves) s.1)).1 := by rw [hlo, hg, hie]
  have hhi' : hi = (rangeI ((endsS j tkNone 0).map fun s => inL i (binsOf j.moves) s.1)).2 := by rw [hhi, hg, hie]
  have hk6 : k ≤ 1000000 := by omega
  have hnum := numLeft j.ins (binsOf j.moves) hj.b4 i FL ML BL hBL 81 [] (.inl rfl)
  refine wp_go tokT hA hS ?_
  cbv
  refine bm (fun c => ?_) (fun c => ?_)
  · have hk : k < N := yltL hA hFl u2 c
    have hf1 := yfit1 hA u2 (by omega)
    have hu2 := ysucc hA u2
    have hms : N - (k + 1) < N - k := by omega
    have hL2 : A.app L [.agg [I lo, I hi]] = rgsL g (k + 1) := by rw [xapp hA, hsu, u3]
    have hn2 : A.addN k 1 = k + 1 := xaddN hA _ _
    cbv
    refine ops_gs hS (gs_frz hA [2] ?_)
    cbv
    refine gs_done ?_
    refine ops_call hS [.mv 0, .fn 102 [.cb (.agg [I j.ins, .sl 1 FL, .sl 5 ML, .sl 1 BL, .fn 81 []]) 0, .cb (I i) 0]] [0] [.ob (.mp 5 ents)] rfl rfl rfl rfl rfl rfl rfl rfl (by decide) ⟨rfl, trivial⟩ (bSpread ents _ hme hne hsok 102 _ _ hnum lo hi hlo' hhi' _ ?_)
    refine ops_go tokT hA hS ?_
    cbv
    refine ⟨yeqLen hA hLl, yeqLen hA rfl, yroom1 hA hk6 (by decide), hf1, ?_⟩
    refine gs_loop (A.add i 1, k + 1, A.app L [.agg [I lo, I hi]]) [0, 4] ⟨hk, hu2, hL2⟩ hms ?_
    exact ⟨by decide, pre0, ⟨rfl, rfl, trivial⟩, ⟨rfl, rfl, by rw [← hn2]; rfl, rfl, rfl, trivial⟩, rfl, rfl⟩
  · have hk : k = N := by have := ynltL hA hFl u2 c; omega
    have hz2 := hq L (by rw [u3, hk, hrest])
    cbv
    refine gs_done ?_
    cbv
    refine gh_frz [1] ?_
    cbv
    exact ⟨by cases L <;> exact hLl.symm, gh_view [] (by decide) pre0 (H' := []) (d' := .tup [.sl 2 L, I 0]) trivial rfl (gh_done hz2)⟩
theorem kIn (lo hi n : Int) (h : lo ≤ n ∧ n ≤ hi) (Q) (hq : Q (RA.ret (.v (.bool true))) []) : CallA Try.prog 68 [.agg [I lo, I hi], I n] [] Q := by
  obtain ⟨A, hA⟩ : ∃ A, A = ar := ⟨_, rfl⟩
  have h1 : A.cmp .leq lo n = true := by subst hA; simp [ar, cmpI]; exact h.1
  have h2 : A.cmp .leq n hi = true := by subst hA; simp [ar, cmpI]; exact h.2
  refine callA_start tokT hA Try.func68 rfl rfl rfl rfl rfl fun S hS => ?_
  cbv
  refine bmT h1 ?_
  cbv
  refine gh_view [] (by decide) pre0 (H' := []) (d' := .v (.bool (A.cmp .leq n hi))) trivial rfl (gh_done ?_)
  rw [h2]; exact hq
theorem kRight (v : Int) (is : Bool) (h : rightB v is = true) (Q) (hq : Q (RA.ret (.v (.bool true))) []) : CallA Try.prog 69 [I v, .v (.bool is)] [] Q := by
  obtain ⟨A, hA⟩ : ∃ A, A = ar := ⟨_, rfl⟩
  have bF : A.bnot false = true := by subst hA; rfl
  have hv : v = 3 ∨ (v = 1 ∧ is = true) ∨ (v = 2 ∧ is = false) := by
    unfold rightB at h
    simp only [Bool.or_eq_true, Bool.and_eq_true, decide_eq_true_eq, Bool.not_eq_true'] at h
    rcases h with (h | h) | h
    · exact .inl h
    · exact .inr (.inl h)
    · exact .inr (.inr h)
  have d33 : A.cmp .eql 3 3 = true := by subst hA; rfl
  have d13 : A.cmp .eql 1 3 = false := by subst hA; rfl
  have d11 : A.cmp .eql 1 1 = true := by subst hA; rfl
  have d23 : A.cmp .eql 2 3 = false := by subst hA; rfl
  have d21 : A.cmp .eql 2 1 = false := by subst hA; rfl
  have d22 : A.cmp .eql 2 2 = true := by subst hA; rfl
  rcases hv with rfl | ⟨rfl, rfl⟩ | ⟨rfl, rfl⟩
  · refine callA_start tokT hA Try.func69 rfl rfl rfl rfl rfl fun S hS => ?_
    cbv
    refine bmT d33 ?_
    cbv
    exact gh_view [] (by decide) pre0 (H' := []) (d' := .v (.bool true)) trivial rfl (gh_done hq)
  · refine callA_start tokT hA Try.func69 rfl rfl rfl rfl rfl fun S hS => ?_
    cbv
    refine bmF d13 ?_
    cbv
    refine bmT d11 ?_
    cbv
    exact gh_view [] (by decide) pre0 (H' := []) (d' := .v (.bool true)) trivial rfl (gh_done hq)
  · refine callA_start tokT hA Try.func69 rfl rfl rfl rfl rfl fun S hS => ?_
    cbv
    refine bmF d23 ?_
    cbv
    refine bmF d21 ?_
    cbv
    refine bmT d22 ?_
    cbv
    refine gh_view [] (by decide) pre0 (H' := []) (d' := .v (.bool (A.bnot false))) trivial rfl (gh_done ?_)
    rw [bF]; exact hq
section
variable {j : Jn} {ins : Int} {N n m : Nat} {FL ML : List D}
theorem MdJ.left (h : MdJ j ins N n m FL ML) (Q) (hq : ∀ L, L = (leftJ j).map rgD → Q (RA.ret (.tup [.sl 2 L, I 0])) []) : CallA Try.prog 46 [.agg [I ins, .sl 1 FL, .sl 5 ML]] [] Q := by
  have e := h.ie
  subst e
  exact bLeft j h.ok h.st FL ML h.F h.M Q hq
theorem MdJ.wrong (h : MdJ j ins N n m FL ML) (Q) (hq : Q (RA.ret (.tup [.sl 1 [], I 0])) []) : CallA Try.prog 23 [.agg [I ins, .sl 1 FL, .sl 5 ML]] [] Q := by
  have e := h.ie
  subst e
  obtain ⟨w1, w2⟩ := wrong_empty h.st
  exact bWrong j h.fl h.ml FL ML h.F h.M Q (fun e h1 h2 => no_err h.c0 h1 h2) (fun _ g => by rw [w2] at g; cases g) (fun _ _ c hc L hL => by
    rw [w1] at hc; cases hc
    subst hL; exact hq)
theorem MdJ.suspects (h : MdJ j ins N n m FL ML) {bad good : List Nat} (hb : Asc N bad) (hg : Asc N good) {XL YL : List D} (hX : XL = natD bad) (hY : YL = natD good) {b : Nat} (hbb : b < (binsOf j.moves).length) (hs : suspB j (groupOf bad) (groupOf good) b = true) (Q)
    (hq : ∀ (L : List D) (l : List Int), L = l.map I → (b : Int) ∈ l → l.length ≤ 4 → Q (RA.ret (.tup [.sl 1 L, I 0])) []) : CallA Try.prog 59 [.agg [I ins, .sl 1 FL, .sl 5 ML], .sl 1 XL, .sl 1 YL] [] Q := by
  have e := h.ie
  subst e
  have hN : j.ins = N := h.nI.eq
  have c1 := asc_chk hb
  have c2 := asc_chk hg
  rw [← hN] at c1 c2
  have hN4 := h.N4
  have g1 : ∀ l : List Nat, grpI (l.map fun i : Nat => (i : Int)) = groupOf l := fun l => by unfold grpI; rw [nat_back]
  have hl1 := hb.len
  have hl2 := hg.len
  have hmem : (b : Int) ∈ suspJ j (groupOf bad) (groupOf good) := by
    unfold suspJ
    exact List.mem_map.2 ⟨b, List.mem_filter.2 ⟨List.mem_range.2 hbb, hs⟩, rfl⟩
  have hlen : (suspJ j (groupOf bad) (groupOf good)).length ≤ 4 := by
    unfold suspJ
    rw [List.length_map]
    have h1 := List.length_filter_le (suspB j (groupOf bad) (groupOf good)) (List.range (binsOf j.moves).length)
    rw [List.length_range] at h1
    have := h.ok.b4
    exact Nat.le_trans h1 this
  refine bSuspects j h.fl h.ml (bad.map fun i : Nat => (i : Int)) (good.map fun i : Nat => (i : Int)) (lim (by simp; omega)) (lim (by simp; omega)) FL ML XL YL h.F h.M (by rw [hX, natD, List.map_map]; rfl) (by rw [hY, natD, List.map_map]; rfl) Q (fun e h1 h2 => no_err h.c0 h1 h2)
    (fun _ e h1 h2 => absurd (h1.trans c1) h2) (fun _ _ e h1 h2 => absurd (h1.trans c2) h2) (fun _ _ _ g => no_std h.st g) (fun _ _ _ _ g => ?_) (fun _ _ _ _ _ L hL => ?_)
  · rw [g1, g1] at g; rw [g] at hmem; simp at hmem
  · rw [g1, g1] at hL
    exact hq L _ hL hmem hlen
end
end Go.Proofs.Ytecfpfhkicapeaa

namespace Go.Proofs.Ytecfpfhkicapeaa
open Go Go.Abs Go.Proofs Go.Batch
def midH (f g : Nat → Int) (s : Nat) : List D := (List.range 4).map fun x => I (f x + if x < s then g x else 0)
def fourD (f : Nat → Int) : List D := (List.range 4).map fun x => I (f x)
theorem midH_len (f g s) : (midH f g s).length = 4 := by simp [midH]
theorem midH_get (f g : Nat → Int) (s : Nat) {x : Nat} (h : x < 4) : (midH f g s)[x]? = some (I (f x + if x < s then g x else 0)) := by
  unfold midH; rw [List.getElem?_map, List.getElem?_range h]; rfl
theorem midH_next (f g : Nat → Int) {s : Nat} (h : s < 4) : (midH f g s).set s (I (f s + g s)) = midH f g (s + 1) := by
  refine List.ext_getElem? fun i => ?_
  rw [List.getElem?_set]
  by_cases hi : i < 4
  · rw [midH_get f g (s + 1) hi]
    by_cases e : s = i
    · subst e; rw [if_pos rfl, if_pos (by rw [midH_len]; exact hi), if_pos (Nat.lt_succ_self s)]
    · rw [if_neg e, midH_get f g s hi]
      by_cases h2 : i < s
      · rw [if_pos h2, if_pos (by omega)]
      · rw [if_neg h2, if_neg (by omega)]
  · rw [List.getElem?_eq_none (by rw [midH_len]; omega)]
    split
    · omega
    · rw [List.getElem?_eq_none (by rw [midH_len]; omega)]
theorem midH_zero (f g : Nat → Int) : midH f g 0 = fourD f := by unfold midH fourD; exact List.map_congr_left fun x _ => by simp
theorem midH_four (f g h : Nat → Int) (e : ∀ x, x < 4 → h x = f x + g x) : midH f g 4 = fourD h := by
  unfold midH fourD
  exact List.map_congr_left fun x hx => by rw [if_pos (List.mem_range.1 hx), e x (List.mem_range.1 hx)]
theorem fourD_eq {f h : Nat → Int} (e : ∀ x, x < 4 → h x = f x) : fourD f = fourD h := by
  unfold fourD
  exact List.map_congr_left fun x hx => by rw [e x (List.mem_range.1 hx)]
set_option maxRecDepth 20000 in
set_option maxHeartbeats 4000000 in
theorem kHad (n : Int) (truth : List (Int × List Int)) (h5 : ∀ t ∈ truth, ∀ k, 0 ≤ t.2.getD k 0 ∧ t.2.getD k 0 ≤ 5) (hof : ∀ t ∈ truth, t.2 = [] ∨ t.2.length = 4) (hlen : truth.length ≤ 10) (TL : List D) (hT : TL = truth.map tkD) (Q)
    (hq : ∀ OL, OL = fourD (fun b => amtT n b truth) → Q (RA.ret (.sl 1 OL)) []) : CallA Try.prog 67 [.sl 2 TL, I n] [] Q := by
  obtain ⟨A, hA⟩ : ∃ A, A = ar := ⟨_, rfl⟩
  have htn4 : A.tn 4 = 4 := by subst hA; rfl
  have hnn4 : A.nneg 4 := by subst hA; show (0 : Int) ≤ 4; decide
  have hrm4 : A.room (A.tn 4) 8 := by rw [htn4]; exact yroomN' hA
  have hrep4 : A.rep (A.tn 4) (I 0) = fourD (ownK n truth 0) := by rw [htn4]; subst hA; rfl
  have hTl : TL.length = truth.length := by rw [hT, List.length_map]
  refine callA_start tokT hA Try.func67 rfl rfl rfl rfl rfl fun S hS => ?_
  cbv
  refine ⟨hnn4, hrm4, ?_⟩
  refine at_code hS ?_
  refine wpa_loopG (α := Int × Nat × List D) (fun q => { env := [(0, .sl 2 TL), (1, I n), (5, .o 0 1 4), (6, I q.1)], H := [.els 1 q.2.2], nt := 51, dfs := [] })
    (fun q => truth.length - q.2.1) (fun q => q.2.1 ≤ truth.length ∧ IsI q.1 q.2.1 ∧ q.2.2 = fourD (ownK n truth q.2.1)) (0, 0, fourD (ownK n truth 0)) ⟨Nat.zero_le _, ⟨rfl⟩, rfl⟩ ?_ ?_
  · refine gs_elsE 0 rfl hrep4 ?_
    exact gs_to [0] ⟨by decide, pre0, ⟨rfl, trivial⟩, ⟨rfl, rfl, congrArg (fun k => some (D.o 0 1 k)) htn4, rfl, trivial⟩, rfl, rfl⟩
  rintro ⟨i, k, L⟩ ⟨u1, u2, u3⟩
  dsimp only at u1 u2 u3
  have hLl : L.length = 4 := by rw [u3]; simp [fourD]
  have hyes : A.cmp .lss i (A.oi (A.len TL)) = true → k < truth.length := fun c => yltL hA hTl u2 c
  have hno : A.cmp .lss i (A.oi (A.len TL)) = false → k = truth.length := fun c => by have := ynltL hA hTl u2 c; omega
  refine wp_go tokT hA hS ?_
  cbv
  refine bm (fun c => ?_) (fun c => ?_)
  · have hk := hyes c
    obtain ⟨⟨t, of⟩, hx⟩ : ∃ x, truth[k]? = some x := ⟨_, List.getElem?_eq_getElem hk⟩
    have hxm := List.mem_of_getElem? hx
    obtain ⟨w, hw⟩ : ∃ w : D, w = if of = [] then .v (.slice none 0 0) else .sl 1 (of.map I) := ⟨_, rfl⟩
    have gT := yget hA u2 (show TL[k]? = some (.agg [I t, w]) by rw [hT, List.getElem?_map, hx, hw]; rfl)
    have iT := yinbL hA hTl u2 hk
    have hf1 := yfit1 hA u2 (by omega)
    have hu2 := ysucc hA u2
    have hms : truth.length - (k + 1) < truth.length - k := by omega
    have hsucc := ownK_succ (n := n) hx
    have hk10 : (k : Int) ≤ 10 := by omega
    have hb1 := fun b => ownK_b (n := n) h5 b k (by omega)
    have hb2 := h5 _ hxm
    simp only at hb2
    obtain ⟨f, hf⟩ : ∃ f, f = ownK n truth k := ⟨_, rfl⟩
    obtain ⟨g, hg⟩ : ∃ g : Nat → Int, g = fun x => of.getD x 0 := ⟨_, rfl⟩
    rw [← hf] at u3
    have hout : ∀ s LL, (s = 0 ∨ (t = n ∧ of.length = 4)) → LL = midH f g s → (t ≠ n ∨ of = [] ∨ s = 4) → s ≤ 4 → LL = fourD (ownK n truth (k + 1)) := fun s LL h1 h2 h3 h4 => by
      rw [h2]
      by_cases hs0 : s = 0
      · subst hs0
        rw [midH_zero]
        refine fourD_eq fun x hx' => ?_
        rw [hsucc, hf]
        rcases h3 with h3 | h3 | h3
        · rw [if_neg h3, Int.add_zero]
        · rw [h3]; simp
        · omega
      · obtain ⟨h5', h6⟩ := h1.resolve_left hs0
        have hs4 : s = 4 := by
          rcases h3 with h3 | h3 | h3
          · exact absurd h5' h3
          · rw [h3] at h6; simp at h6
          · exact h3
        subst hs4
        refine midH_four _ _ _ fun x hx' => ?_
        rw [hsucc, hf, hg, if_pos h5']
    cbv
    refine at_code hS ?_
    refine wpa_loopG (α := Int × Nat × List D) (fun q => { env := [(0, .sl 2 TL), (1, I n), (5, .o 0 1 4), (6, I i), (7, I q.1)], H := [.els 1 q.2.2], nt := 51, dfs := [] })
      (fun q => 4 - q.2.1) (fun q => q.2.1 ≤ 4 ∧ IsI q.1 q.2.1 ∧ (q.2.1 = 0 ∨ (t = n ∧ of.length = 4)) ∧ q.2.2 = midH f g q.2.1) (0, 0, L) ⟨Nat.zero_le _, ⟨rfl⟩, .inl rfl, by rw [midH_zero]; exact u3⟩ ?_ ?_
    · exact gs_to [0] ⟨by decide, pre0, ⟨rfl, trivial⟩, ⟨rfl, rfl, rfl, rfl, rfl, trivial⟩, rfl, rfl⟩
    rintro ⟨b, s, M⟩ ⟨v1, v2, v3, v4⟩
    dsimp only at v1 v2 v3 v4
    have hMl : M.length = 4 := by rw [v4, midH_len]
    refine wp_go tokT hA hS ?_
    cbv
    refine ⟨iT, ⟨_, gT, ?_⟩⟩
    cbv
    refine bm (fun c2 => ?_) (fun c2 => ?_)
    · have htn := xeq hA c2
      by_cases hnil : of = []
      · rw [if_pos hnil] at hw
        subst hw
        have hz := hout s M v3 v4 (.inr (.inl hnil)) v1
        have hs0 : A.cmp .lss b 0 = false := by
          have : s = 0 := v3.resolve_right fun h => by rw [hnil] at h; simp at h
          have := v2.eq
          subst hA; simp [ar, cmpI]; omega
        cbv
        refine ⟨iT, ⟨_, gT, ?_⟩⟩
        cbv
        refine bmF hs0 ?_
        cbv
        refine gs_done ?_
        cbv
        refine ⟨hf1, ?_⟩
        refine gs_loop (A.add i 1, k + 1, M) [0] ⟨hk, hu2, hz⟩ hms ?_
        exact ⟨by decide, pre0, ⟨rfl, trivial⟩, ⟨rfl, rfl, rfl, rfl, trivial⟩, rfl, rfl⟩
      · rw [if_neg hnil] at hw
        subst hw
        have hof4 : of.length = 4 := (hof _ hxm).resolve_left hnil
        obtain ⟨OF, hOF⟩ : ∃ OF, OF = of.map I := ⟨_, rfl⟩
        rw [← hOF] at gT
        have hOl : OF.length = 4 := by rw [hOF, List.length_map, hof4]
        have hyes2 : A.cmp .lss b (A.oi (A.len OF)) = true → s < 4 := fun c => yltL hA hOl v2 c
        have hno2 : A.cmp .lss b (A.oi (A.len OF)) = false → s = 4 := fun c => by have := ynltL hA hOl v2 c; omega
        cbv
        refine ⟨iT, ⟨_, gT, ?_⟩⟩
        cbv
        refine bm (fun c3 => ?_) (fun c3 => ?_)
        · have hs := hyes2 c3
          obtain ⟨y, hy⟩ : ∃ y, of[s]? = some y := ⟨_, List.getElem?_eq_getElem (by omega)⟩
          have hgy : g s = y := by rw [hg]; show of.getD s 0 = y; rw [List.getD_eq_getElem?_getD, hy]; rfl
          obtain ⟨x, hx0⟩ : ∃ x, x = f s := ⟨_, rfl⟩
          have gM := yget hA v2 (show M[s]? = some (I x) by rw [v4, midH_get _ _ _ hs, if_neg (Nat.lt_irrefl s), Int.add_zero, hx0])
          have gO := yget hA v2 (show OF[s]? = some (I y) by rw [hOF, List.getElem?_map, hy]; rfl)
          have iM : A.inb b 4 := yinb hA v2 hs
          have iO := yinbL hA hOl v2 hs
          have hxb := hb1 s
          rw [← hf, ← hx0] at hxb
          have hyb := hb2 s
          have hfy : of.getD s 0 = y := by rw [List.getD_eq_getElem?_getD, hy]; rfl
          rw [hfy] at hyb
          have hfx : A.fits .i64 (A.add x y) := xfitE hA (xadd hA x y) (by omega)
          have hfb := yfit1 hA v2 (by omega)
          have hv2 := ysucc hA v2
          have hms2 : 4 - (s + 1) < 4 - s := by omega
          have hnx : A.set M (A.tn b) (I (A.add x y)) = midH f g (s + 1) := by rw [yset hA v2 rfl, v4, xadd hA, hx0, ← hgy, midH_next f g hs]
          have hor : s + 1 = 0 ∨ (t = n ∧ of.length = 4) := .inr ⟨htn, hof4⟩
          cbv
          refine draw_go tokT hA hS [0, 1, 2, 3, 4, 5, 6, 7, 8, 9, 10, 11, 12, 13, 14, 15, 16] rfl rfl fun Dk hD => ?_
          cbv
          refine ⟨iM, ⟨_, gM, ?_⟩⟩
          cbv
          refine ⟨iT, ⟨_, gT, ?_⟩⟩
          cbv
          refine ⟨iO, ⟨_, gO, ?_⟩⟩
          cbv
          refine ⟨hfx, iM, ⟨_, gM, ?_⟩⟩
          cbv
          refine ⟨hfb, ?_⟩
          refine gs_loop (A.add b 1, s + 1, A.set M (A.tn b) (I (A.add x y))) [0] ⟨hs, hv2, hor, hnx⟩ hms2 ?_
          exact ⟨by decide, pre0, ⟨rfl, trivial⟩, ⟨rfl, rfl, rfl, rfl, rfl, trivial⟩, rfl, rfl⟩
        · have hz := hout s M v3 v4 (.inr (.inr (hno2 c3))) v1
          cbv
          refine gs_done ?_
          cbv
          refine ⟨hf1, ?_⟩
          refine gs_loop (A.add i 1, k + 1, M) [0] ⟨hk, hu2, hz⟩ hms ?_
          exact ⟨by decide, pre0, ⟨rfl, trivial⟩, ⟨rfl, rfl, rfl, rfl, trivial⟩, rfl, rfl⟩
    · have hz := hout s M v3 v4 (.inl (xneq hA c2)) v1
      cbv
      refine gs_done ?_
      cbv
      refine ⟨hf1, ?_⟩
      refine gs_loop (A.add i 1, k + 1, M) [0] ⟨hk, hu2, hz⟩ hms ?_
      exact ⟨by decide, pre0, ⟨rfl, trivial⟩, ⟨rfl, rfl, rfl, rfl, trivial⟩, rfl, rfl⟩
  · have hk := hno c
    have hz := hq L (by rw [u3, hk]; exact fourD_eq fun x _ => (ownK_end n truth x).symm)
    cbv
    refine gs_done ?_
    cbv
    refine gh_frz [0] ?_
    cbv
    exact ⟨by cases L <;> exact hLl.symm, gh_view [] (by decide) pre0 (H' := []) (d' := .sl 1 L) trivial rfl (gh_done hz)⟩
end Go.Proofs.Ytecfpfhkicapeaa

namespace Go.Batch
def setF (P : Nat → Nat → Bool) (t s j : Nat) : List Nat := (List.range (if j < s then t + 1 else t)).filter (P j)
theorem setF_zero (P : Nat → Nat → Bool) (j : Nat) : setF P 0 0 j = [] := rfl
theorem setF_hit {P : Nat → Nat → Bool} {t s : Nat} (h : P s t = true) (j : Nat) : (if j = s then setF P t s s ++ [t] else setF P t s j) = setF P t (s + 1) j := by
  unfold setF
  by_cases e : j = s
  · subst e
    rw [if_pos rfl, if_neg (Nat.lt_irrefl j), if_pos (Nat.lt_succ_self j), List.range_succ, List.filter_append, List.filter_cons_of_pos h, List.filter_nil]
  · rw [if_neg e]
    by_cases h2 : j < s
    · rw [if_pos h2, if_pos (by omega)]
    · rw [if_neg h2, if_neg (by omega)]
theorem setF_miss {P : Nat → Nat → Bool} {t s : Nat} (h : P s t = false) (j : Nat) : setF P t s j = setF P t (s + 1) j := by
  unfold setF
  by_cases e : j = s
  · subst e
    rw [if_neg (Nat.lt_irrefl j), if_pos (Nat.lt_succ_self j), List.range_succ, List.filter_append, List.filter_cons_of_neg (by rw [h]; exact Bool.false_ne_true), List.filter_nil, List.append_nil]
  · by_cases h2 : j < s
    · rw [if_pos h2, if_pos (by omega)]
    · rw [if_neg h2, if_neg (by omega)]
theorem setF_row (P : Nat → Nat → Bool) {t NB j : Nat} (h : j < NB) : setF P t NB j = setF P (t + 1) 0 j := by unfold setF; rw [if_pos h, if_neg (Nat.not_lt_zero j)]
theorem setF_asc (P : Nat → Nat → Bool) (t j : Nat) : Asc t (setF P t 0 j) := by unfold setF; rw [if_neg (Nat.not_lt_zero j)]; exact (asc_range t).filter _
theorem setF_mem {P : Nat → Nat → Bool} {t j x : Nat} (h : x ∈ setF P t 0 j) : x < t ∧ P j x = true := by
  unfold setF at h
  rw [if_neg (Nat.not_lt_zero j)] at h
  exact ⟨List.mem_range.1 (List.mem_filter.1 h).1, (List.mem_filter.1 h).2⟩
theorem setF_len (P : Nat → Nat → Bool) (t s j : Nat) : (setF P t s j).length ≤ t + 1 := by
  unfold setF
  have := List.length_filter_le (P j) (List.range (if j < s then t + 1 else t))
  rw [List.length_range] at this
  split at this <;> split <;> omega
def anyK (f : Nat → Int) (q : List Nat) : Nat → Bool
  | 0 => false
  | s + 1 => anyK f q s || (decide (0 < f s) && decide (s ∈ q))
theorem anyK_iff (f : Nat → Int) (q : List Nat) : ∀ s, anyK f q s = true ↔ ∃ b, b < s ∧ 0 < f b ∧ b ∈ q
  | 0 => by simp [anyK]
  | s + 1 => by
    simp only [anyK, Bool.or_eq_true, Bool.and_eq_true, decide_eq_true_eq, anyK_iff f q s]
    constructor
    · rintro (⟨b, h1, h2⟩ | h)
      · exact ⟨b, by omega, h2⟩
      · exact ⟨s, by omega, h⟩
    · rintro ⟨b, h1, h2⟩
      by_cases e : b = s
      · subst e; exact .inr h2
      · exact .inl ⟨b, by omega, h2⟩
end Go.Batch
namespace Go.Proofs.Ytecfpfhkicapeaa
open Go Go.Abs Go.Proofs Go.Batch
theorem MdJ.amount2 {j : Jn} {ins : Int} {N n m : Nat} {FL ML : List D} (h : MdJ j ins N n m FL ML) {NB : Nat} (hNB : NB = (binsOf j.moves).length) {t b : Nat} {ti bi : Int} (ht : IsI ti t) (hb : IsI bi b) (htN : t < N) (hbN : b < NB) (Q)
    (hq : ∀ lo hi, lo = (noteR j (tkAmt (t : Int) b)).1 → hi = (noteR j (tkAmt (t : Int) b)).2 → 0 ≤ lo ∧ lo ≤ hi ∧ hi ≤ 640 → Q (RA.ret (.tup [.agg [I lo, I hi], I 0])) []) : CallA Try.prog 38 [.agg [I ins, .sl 1 FL, .sl 5 ML], I ti, I bi] [] Q := by
  have e := h.ie
  have hI := h.nI.eq
  have e1 := ht.eq
  have e2 := hb.eq
  have hy1 : 0 ≤ ti ∧ ti ≤ j.ins - 1 := by omega
  have hy2 : 0 ≤ bi ∧ bi ≤ ((binsOf j.moves).length : Int) - 1 := by omega
  subst e1
  subst e
  have hbn : bi.toNat = b := by omega
  have hnb := noteR_b h.ok h.st (tkB_amt (t : Int) b)
  refine bAmountF j h.fl h.ml _ bi FL ML h.F h.M Q (fun e h1 h2 => no_err h.c0 h1 h2) (fun _ g => absurd ⟨hy1, hy2⟩ g) (fun _ _ _ g => no_std h.st g) (fun _ _ _ _ lo hi h1 h2 => ?_)
  rw [hbn] at h1 h2
  refine hq lo hi h1 h2 ?_
  rw [h1, h2]; exact hnb
structure GridS (NB : Nat) (xs : List Value) (rows : List (List D)) (F : Nat → List Nat) : Prop where
  ok : GridOk xs rows
  xl : xs.length = NB
  rl : rows.length = NB
  row : ∀ j, j < NB → rows.getD j [] = natD (F j)
structure GridV (NB : Nat) (es : List D) (gn : List Ent) (F : Nat → List Nat) : Prop where
  ex : ∃ xs rows, GridS NB xs rows F ∧ es = gridE xs rows 0 ∧ gn = gridN xs rows 0
structure GridT (NB s : Nat) (es : List D) (gn : List Ent) (F : Nat → List Nat) : Prop where
  ex : ∃ xs rows, GridS NB xs rows F ∧ es = (gridE xs rows 0).set s (.o 4 1 (F s).length) ∧ gn = (gridN xs rows 0).set s (xs.getD s nilS, none)
theorem GridT.len {NB s es gn F} (h : GridT NB s es gn F) : es.length = NB := by
  obtain ⟨xs, rows, h1, h2, -⟩ := h.ex
  rw [h2, List.length_set, gridE_len, h1.xl]
theorem GridT.get {NB s es gn F} (h : GridT NB s es gn F) (hs : s < NB) : es[s]? = some (.o 4 1 (F s).length) := by
  obtain ⟨xs, rows, h1, h2, -⟩ := h.ex
  rw [h2, List.getElem?_set_self (by rw [gridE_len, h1.xl]; exact hs)]
theorem GridV.congr {NB es gn} {F F' : Nat → List Nat} (h : GridV NB es gn F) (e : ∀ j, j < NB → F j = F' j) : GridV NB es gn F' := by
  obtain ⟨xs, rows, h1, h2⟩ := h.ex
  exact ⟨xs, rows, ⟨h1.ok, h1.xl, h1.rl, fun j hj => by rw [h1.row j hj, e j hj]⟩, h2⟩
theorem gridS_0 (NB : Nat) : GridS NB (List.replicate NB nilS) (List.replicate NB []) (fun _ => []) := ⟨gridOk_rep, by simp, by simp, fun j hj => by
  rw [List.getD_eq_getElem?_getD, List.getElem?_replicate, if_pos hj]; rfl⟩
theorem natD_len (l : List Nat) : (natD l).length = l.length := by simp [natD]
theorem natD_fr (l : List Nat) : FrL (natD l) := FrL.map (fun _ => rfl) _
theorem rows_setD (rows : List (List D)) {s : Nat} (hs : s < rows.length) (r : List D) (j : Nat) : (rows.set s r).getD j [] = if j = s then r else rows.getD j [] := by
  rw [List.getD_eq_getElem?_getD, List.getElem?_set]
  by_cases e : s = j
  · subst e; rw [if_pos rfl, if_pos hs, if_pos rfl]; rfl
  · rw [if_neg e, if_neg (fun h => e h.symm), List.getD_eq_getElem?_getD]
theorem GridS.all {NB xs rows F} (h : GridS NB xs rows F) : ((List.range NB).map fun j => D.sl 1 (rows.getD j [])) = (List.range NB).map fun j => D.sl 1 (natD (F j)) := List.map_congr_left fun j hj => by rw [h.row j (List.mem_range.1 hj)]
section
variable {m : Nat} {K : St → Prop} {E : List (Nat × D)} {y0 y1 y2 y3 b4 b5 : Blk} {nt NB : Nat} {es : List D} {gn : List Ent} {F : Nat → List Nat}
theorem GridV.takeB (h : GridV NB es gn F) {s : Nat} (hs : s < NB) {R : List D} (hR : R = natD (F s)) (hk : ∀ es' gn', GridT NB s es' gn' F → GS m K { env := E, H := [.elo 1 es', y1, .ob (.gr 1 gn'), y3, .els 1 R], nt := nt, dfs := [] }) :
    GS m K { env := E, H := [.els 1 es, y1, .ob (.gr 1 gn), y3], nt := nt, dfs := [] } := by
  obtain ⟨xs, rows, h1, rfl, rfl⟩ := h.ex
  have hr : R = rows.getD s [] := by rw [h1.row s hs, hR]
  have hl : R.length = (F s).length := by rw [hR, natD_len]
  refine grid_takeB h1.ok (by rw [h1.xl]; exact hs) (Nat.zero_le _) hr ?_
  exact hk _ _ ⟨xs, rows, h1, by rw [hl], rfl⟩
theorem GridT.putB {s : Nat} (h : GridT NB s es gn F) (hs : s < NB) {t n0 sl : Nat} {es2 R : List D} (hE : getE E sl = some (.o 0 1 n0)) (hR : R = natD (F s ++ [t])) (he : es2 = es.set s (.o 6 1 R.length))
    (hk : ∀ es' gn', GridV NB es' gn' (fun j => if j = s then F s ++ [t] else F j) → GS m K { env := E, H := [.els 1 es', y1, .ob (.gr 1 gn'), y3, b4, b5, .dead], nt := nt, dfs := [] }) :
    GS m K { env := E, H := [.elo 1 es2, y1, .ob (.gr 1 gn), y3, b4, b5, .els 1 R], nt := nt, dfs := [] } := by
  obtain ⟨xs, rows, h1, e1, e2⟩ := h.ex
  have hx : s < xs.length := by rw [h1.xl]; exact hs
  refine grid_putB (sl := sl) (n0 := n0) h1.ok hx hE (by rw [hR, natD_len]; simp) (by rw [hR]; exact natD_fr _) (rows_setD rows (by rw [h1.rl]; exact hs) R) (by rw [he, e1, List.set_set]) e2 fun xs' hok hl => ?_
  refine hk _ _ ⟨xs', rows.set s R, ⟨hok, hl.trans h1.xl, by rw [List.length_set]; exact h1.rl, fun j hj => ?_⟩, rfl, rfl⟩
  rw [rows_setD rows (by rw [h1.rl]; exact hs)]
  split
  · exact hR
  · exact h1.row j hj
theorem GridV.meltB (h : GridV NB es gn F) (hv2 : ∀ es bg, View m [0, 1, 2, 3] { env := E, H := [.els 1 es, y1, .ob (.gr 1 bg), y3], nt := nt, dfs := [] } { env := E, H := [.els 1 es, y1, .ob (.gr 1 bg), y3, .dead], nt := nt, dfs := [] })
    (hk : ∀ gn', GS m K { env := E, H := [.els 1 ((List.range NB).map fun j => D.sl 1 (natD (F j))), y1, .ob (.gr 1 gn'), y3], nt := nt, dfs := [] }) :
    GS m K { env := E, H := [.els 1 es, y1, .ob (.gr 1 gn), y3], nt := nt, dfs := [] } := by
  obtain ⟨xs, rows, h1, rfl, rfl⟩ := h.ex
  refine grid_meltB (nd := NB) h1.ok h1.xl hv2 ?_
  rw [h1.all]
  exact hk _
theorem GridV.takeG (h : GridV NB es gn F) {s : Nat} (hs : s < NB) {R : List D} (hR : R = natD (F s)) (hk : ∀ es' gn', GridT NB s es' gn' F → GS m K { env := E, H := [y0, .elo 1 es', y2, .ob (.gr 1 gn'), .els 1 R], nt := nt, dfs := [] }) :
    GS m K { env := E, H := [y0, .els 1 es, y2, .ob (.gr 1 gn)], nt := nt, dfs := [] } := by
  obtain ⟨xs, rows, h1, rfl, rfl⟩ := h.ex
  have hr : R = rows.getD s [] := by rw [h1.row s hs, hR]
  have hl : R.length = (F s).length := by rw [hR, natD_len]
  refine grid_takeG h1.ok (by rw [h1.xl]; exact hs) (Nat.zero_le _) hr ?_
  exact hk _ _ ⟨xs, rows, h1, by rw [hl], rfl⟩
theorem GridT.putG {s : Nat} (h : GridT NB s es gn F) (hs : s < NB) {t n0 sl : Nat} {es2 R : List D} (hE : getE E sl = some (.o 1 1 n0)) (hR : R = natD (F s ++ [t])) (he : es2 = es.set s (.o 6 1 R.length))
    (hk : ∀ es' gn', GridV NB es' gn' (fun j => if j = s then F s ++ [t] else F j) → GS m K { env := E, H := [y0, .els 1 es', y2, .ob (.gr 1 gn'), b4, b5, .dead], nt := nt, dfs := [] }) :
    GS m K { env := E, H := [y0, .elo 1 es2, y2, .ob (.gr 1 gn), b4, b5, .els 1 R], nt := nt, dfs := [] } := by
  obtain ⟨xs, rows, h1, e1, e2⟩ := h.ex
  have hx : s < xs.length := by rw [h1.xl]; exact hs
  refine grid_putG (sl := sl) (n0 := n0) h1.ok hx hE (by rw [hR, natD_len]; simp) (by rw [hR]; exact natD_fr _) (rows_setD rows (by rw [h1.rl]; exact hs) R) (by rw [he, e1, List.set_set]) e2 fun xs' hok hl => ?_
  refine hk _ _ ⟨xs', rows.set s R, ⟨hok, hl.trans h1.xl, by rw [List.length_set]; exact h1.rl, fun j hj => ?_⟩, rfl, rfl⟩
  rw [rows_setD rows (by rw [h1.rl]; exact hs)]
  split
  · exact hR
  · exact h1.row j hj
theorem GridV.meltG (h : GridV NB es gn F) (hv2 : ∀ es bg, View m [0, 1, 2, 3] { env := E, H := [y0, .els 1 es, y2, .ob (.gr 1 bg)], nt := nt, dfs := [] } { env := E, H := [y0, .els 1 es, y2, .ob (.gr 1 bg), .dead], nt := nt, dfs := [] })
    (hk : ∀ gn', GS m K { env := E, H := [y0, .els 1 ((List.range NB).map fun j => D.sl 1 (natD (F j))), y2, .ob (.gr 1 gn')], nt := nt, dfs := [] }) :
    GS m K { env := E, H := [y0, .els 1 es, y2, .ob (.gr 1 gn)], nt := nt, dfs := [] } := by
  obtain ⟨xs, rows, h1, rfl, rfl⟩ := h.ex
  refine grid_meltG (nd := NB) h1.ok h1.xl hv2 ?_
  rw [h1.all]
  exact hk _
end
end Go.Proofs.Ytecfpfhkicapeaa
