/- Part FirstA of the proofs about the benches of the accordion maker: see the last text of the claim for what is proved. -/
import Derived.Test.YtmloogdalecilaaDoorTrueA
set_option linter.unusedVariables false
set_option linter.unusedSimpArgs false
set_option linter.unnecessarySimpa false
set_option linter.constructorNameAsVariable false

/-! D36 -/
namespace Go.Proofs.YtmloogdalecilaaDoor
open Go Go.Abs Go.Proofs

def hsGn (nf : FuncId) (b : Int) (TL : List D) (asg bdy : Code) (bl : List (List Nat) → List D) (nn : List (List Nat) → Int) (mt : List (List Nat) → Bool) (σ : List (List Nat)) : List Blk :=
  [.ob (.lp .ready none [(9, .fn 109 [.cb (.agg [I b, .sl 3 TL]) 0, .cb (.fn 82 []) 0]), (3, .b 1 0), (4, .b 2 0), (5, .b 3 0), (6, .b 4 0)] 25 [10] asg bdy), .box (.fn nf [.cb (.agg [I b, .sl 3 TL]) 0]), .box (.sl 1 (bl σ)), .box (I (nn σ)), .box (.v (.bool (mt σ))), .box (.yv 0), .box (growD (.agg [I b, .sl 3 TL]) 82)]

set_option maxRecDepth 20000 in
set_option maxHeartbeats 4000000 in
/-- plans$1$1: all plans that go on from one. -/
theorem bGrowN (nf : FuncId) (b : Int) (TL : List D) (N : Nat) (hN : TL.length = N) (hN4 : N ≤ 4) (asg bdy : Code) (bl nn mt) (ps : List (List Nat)) (hR : RoundsOk nf (.agg [I b, .sl 3 TL]) asg bdy bl nn mt ps) :
    ∀ (r : Nat) (left l : List Nat) (σ rest : List (List Nat)), left.sum = r → left.length = 4 → l.length + r ≤ 100 → (∀ i, N ≤ i → left.getD i 0 = 0) → ps = σ ++ ((plansF N r left).map (l ++ ·) ++ rest) →
    ∀ (LL : List D) (x0 x1 x2 x3 : Int), LL = planL l → left.map (fun n : Nat => (n : Int)) = [x0, x1, x2, x3] → ∀ Q,
    (∀ σ', σ' = σ ++ (plansF N r left).map (l ++ ·) → Q (RA.ret (.v (.bool true))) (hsGn nf b TL asg bdy bl nn mt σ')) →
    CallA Tryd.prog 110 [.sl 1 LL, .agg [I x0, I x1, I x2, I x3], .cb z4D 0, .b 5 0, .cb (.agg [I b, .sl 3 TL]) 0, .cb (.fn 82 []) 0, .b 6 0] (hsGn nf b TL asg bdy bl nn mt σ) Q := by
  obtain ⟨A, hA⟩ : ∃ A, A = ar := ⟨_, rfl⟩
  intro r
  induction r with
  | zero =>
    intro left l σ rest hsum hlen hl hz hps LL x0 x1 x2 x3 hLL hx Q hq
    obtain ⟨a0, a1, a2, a3, rfl⟩ := list4 hlen
    simp only [List.map_cons, List.map_nil, List.cons.injEq, and_true] at hx
    obtain ⟨rfl, rfl, rfl, rfl⟩ := hx
    have e0 : a0 = 0 := sum_zero hsum 0
    have e1 : a1 = 0 := sum_zero hsum 1
    have e2 : a2 = 0 := sum_zero hsum 2
    have e3 : a3 = 0 := sum_zero hsum 3
    subst e0 e1 e2 e3
    have hLl : LL.length ≤ 1000000 := by rw [hLL]; simp [planL]; omega
    have hps' : ps = σ ++ l :: rest := by rw [hps]; simp [plansF]
    obtain ⟨σ', hσ'⟩ : ∃ σ', σ' = σ ++ [l] := ⟨_, rfl⟩
    have hq' := hq σ' (by rw [hσ']; simp [plansF])
    have hleq : A.leq [0, 0, 0, 0] [0, 0, 0, 0] = true := by subst hA; rfl
    refine callA_start tokT hA Tryd.func110 rfl rfl rfl rfl rfl fun S hS => ?_
    cbv
    refine ⟨[0, 0, 0, 0], [0, 0, 0, 0], rfl, rfl, rfl, rfl, ?_⟩
    cbv
    refine bm (fun _ => ?_) (fun c => Bool.noConfusion (hleq.symm.trans c))
    cbv
    refine draw_go tokT hA hS [0, 1, 2, 3, 4] rfl rfl fun Dk hD => ?_
    cbv
    refine draw_call hA hD [.sl 1 LL] [] [] rfl rfl rfl rfl rfl rfl rfl rfl rfl rfl rfl (by decide) trivial (bCloneF LL hLl _ ⟨by cbv, draw_on tokT hA hD ?_⟩)
    cbv
    refine draw_yield hA hD 0 [.sl 1 LL] [0, 1, 2, 3, 4] (hsB nf (.agg [I b, .sl 3 TL]) asg bdy bl nn mt σ) rfl rfl rfl rfl rfl rfl rfl rfl rfl rfl rfl rfl (by decide) ⟨rfl, rfl, rfl, rfl, rfl, trivial⟩ (hR.out σ l rest σ' hps' hσ' LL hLL _ ⟨by cbv, draw_on tokT hA hD ?_⟩)
    cbv
    exact gh_view [0, 1, 2, 3, 4, 5, 6] (by decide) pre7 (H' := hsGn nf b TL asg bdy bl nn mt σ') (d' := .v (.bool true)) ⟨rfl, rfl, rfl, rfl, rfl, rfl, rfl, trivial⟩ rfl (gh_done hq')
  | succ r ih =>
    intro left l σ rest hsum hlen hl hz hps LL x0 x1 x2 x3 hLL hx Q hq
    have hXl : [x0, x1, x2, x3].length = 4 := rfl
    have hxg : ∀ k, k < 4 → ∃ x : Int, IsI x (left.getD k 0) ∧ ([I x0, I x1, I x2, I x3] : List D)[0 + k]? = some (I x) := fun k hk => by
      refine ⟨_, ⟨rfl⟩, ?_⟩
      have e : ([I x0, I x1, I x2, I x3] : List D) = ([x0, x1, x2, x3] : List Int).map I := rfl
      rw [e, ← hx, Nat.zero_add]
      simp [List.getD_eq_getElem?_getD, List.getElem?_eq_getElem (show k < left.length by omega)]
    have hne : A.leq [x0, x1, x2, x3] [0, 0, 0, 0] = false := by
      have : [x0, x1, x2, x3] ≠ [0, 0, 0, 0] := fun e => by
        rw [e] at hx
        obtain ⟨a0, a1, a2, a3, rfl⟩ := list4 hlen
        simp at hx hsum; omega
      subst hA; exact decide_eq_false this
    have hLn : LL.length = l.length := by rw [hLL]; simp [planL]
    obtain ⟨n, hn⟩ : ∃ n, n = l.length := ⟨_, rfl⟩
    rw [← hn] at hLn
    have hnM : n ≤ 1000000 := by omega
    have hn100 : n + 1 ≤ 1000000 := by omega
    obtain ⟨fm, hfm⟩ : ∃ fm : Nat → List (List Nat), fm = fun i => if left.getD i 0 = 0 then [] else (plansF N r (left.set i (left.getD i 0 - 1))).map (i :: ·) := ⟨_, rfl⟩
    have hpl : plansF N (r + 1) left = (List.range N).flatMap fm := by rw [plansF, hfm]
    obtain ⟨sg, hsg⟩ : ∃ sg : Nat → List (List Nat), sg = fun k => σ ++ (((List.range k).flatMap fm).map (l ++ ·)) := ⟨_, rfl⟩
    have hsg0 : sg 0 = σ := by rw [hsg]; simp
    have hsgs : ∀ k, sg (k + 1) = sg k ++ (fm k).map (l ++ ·) := fun k => by rw [hsg]; simp [List.range_succ]
    have hsgN : sg N = σ ++ (plansF N (r + 1) left).map (l ++ ·) := by rw [hsg, hpl]
    refine callA_start tokT hA Tryd.func110 rfl rfl rfl rfl rfl fun S hS => ?_
    cbv
    refine ⟨[x0, x1, x2, x3], [0, 0, 0, 0], rfl, rfl, rfl, rfl, ?_⟩
    cbv
    refine bm (fun c => Bool.noConfusion (hne.symm.trans c)) (fun _ => ?_)
    cbv
    refine at_code hS ?_
    refine wpa_loopG (α := Int × Nat × List (List Nat)) (fun q => { env := [(0, .sl 1 LL), (3, .b 5 0), (4, .cb (.agg [I b, .sl 3 TL]) 0), (5, .cb (.fn 82 []) 0), (6, .b 6 0), (8, .b 7 0), (20, .sl 3 TL), (21, I (A.oi (A.len TL))), (22, I q.1)], H := hsGn nf b TL asg bdy bl nn mt q.2.2 ++ [.box (.agg [I x0, I x1, I x2, I x3])], nt := 52, dfs := [] })
      (fun q => N - q.2.1) (fun q => IsI q.1 q.2.1 ∧ q.2.1 ≤ N ∧ q.2.2 = sg q.2.1) (0, 0, σ) ⟨⟨rfl⟩, Nat.zero_le _, hsg0.symm⟩ ?_ ?_
    · exact gs_to [0, 1, 2, 3, 4, 5, 6, 7] ⟨by decide, pre7, ⟨rfl, rfl, rfl, rfl, rfl, rfl, rfl, rfl, trivial⟩, ⟨rfl, rfl, rfl, rfl, rfl, rfl, rfl, rfl, rfl, trivial⟩, rfl, rfl⟩
    rintro ⟨i, k, σc⟩ ⟨u1, u2, u3⟩
    dsimp only at u1 u2 u3
    refine wp_go tokT hA hS ?_
    cbv
    refine bm (fun c => ?_) (fun c => ?_)
    · have hk := yltL hA hN u1 c
      have hk4 : k < 4 := by omega
      have hin : A.inb i 4 := yinb hA u1 hk4
      have hf1 : A.fits .i64 (A.add i 1) := yfit1 hA u1 (by omega)
      have hu1 := ysucc hA u1
      have hms : N - (k + 1) < N - k := by omega
      obtain ⟨x, hxI, hxG⟩ := hxg k hk4
      have hfs : A.fits .i64 (A.sub x 1) := xfitE hA (xsub hA x 1) (by
        have h1 := hxI.eq
        have h2 := getD_le_sum left k
        omega)
      have hlt4 : A.ltN (A.addN 0 (A.mulN (A.tn i) 1)) [I x0, I x1, I x2, I x3] := yltO hA 0 u1 (m := 4) rfl (by omega)
      have hbn : A.bnot true = false := by subst hA; rfl
      have hgx := ygetO hA 0 u1 hxG
      by_cases h0 : left.getD k 0 = 0
      · have hx0 : A.cmp .eql x 0 = true := by rw [xeqb hA]; exact decide_eq_true (by have := hxI.eq; omega)
        have hs2 : σc = sg (k + 1) := by rw [hsgs, u3, hfm]; simp only [h0, if_true, List.map_nil, List.append_nil]
        cbv
        refine ⟨hin, ⟨_, hgx, ?_⟩⟩
        cbv
        refine bm (fun _ => ?_) (fun c => Bool.noConfusion (hx0.symm.trans c))
        cbv
        refine ops_callG hS (f := 82) (b := true) rfl rfl rfl rfl rfl rfl rfl rfl (fun h => Bool.noConfusion h) (fun _ => ?_)
        refine ops_go tokT hA hS ?_
        cbv
        refine ⟨hf1, ?_⟩
        refine gs_loop (A.add i 1, k + 1, σc) [0, 1, 2, 3, 4, 5, 6, 7] ⟨hu1, hk, hs2⟩ hms ?_
        exact ⟨by decide, pre7, ⟨rfl, rfl, rfl, rfl, rfl, rfl, rfl, rfl, trivial⟩, ⟨rfl, rfl, rfl, rfl, rfl, rfl, rfl, rfl, rfl, trivial⟩, rfl, rfl⟩
      · obtain ⟨left', hle⟩ : ∃ left', left' = left.set k (left.getD k 0 - 1) := ⟨_, rfl⟩
        have hlen' : left'.length = 4 := by rw [hle]; simp [hlen]
        obtain ⟨y0, y1, y2, y3, hy⟩ : ∃ y0 y1 y2 y3 : Int, left'.map (fun n : Nat => (n : Int)) = [y0, y1, y2, y3] := by
          obtain ⟨a0, a1, a2, a3, e⟩ := list4 hlen'
          exact ⟨a0, a1, a2, a3, by rw [e]; rfl⟩
        have hset : A.set [I x0, I x1, I x2, I x3] (A.addN 0 (A.mulN (A.tn i) 1)) (I (A.sub x 1)) = [I y0, I y1, I y2, I y3] := by
          refine ysetO hA 0 u1 ?_
          have e1 : ([I x0, I x1, I x2, I x3] : List D) = ([x0, x1, x2, x3] : List Int).map I := rfl
          have e2 : ([I y0, I y1, I y2, I y3] : List D) = ([y0, y1, y2, y3] : List Int).map I := rfl
          rw [e1, e2, ← hx, ← hy, hle, Nat.zero_add, xsub hA, hxI.eq]
          simp only [List.map_set]
          congr 1
          rw [Int.natCast_sub (by omega)]; rfl
        have hLL' : A.app LL [I i] = planL (l ++ [k]) := by rw [xapp hA, hLL, u1.eq]; simp [planL]
        have hapl : A.addN n 1 = A.len (A.app LL [I i]) := by subst hA; show n + 1 = (LL ++ [I i]).length; simp [hLn]
        have hsum' : left'.sum = r := by have := sum_set (i := k) h0; rw [hle]; omega
        have hl' : (l ++ [k]).length + r ≤ 100 := by simp; omega
        have hz' : ∀ i, N ≤ i → left'.getD i 0 = 0 := fun i hi => by
          rw [hle, getD_set _ _ _ _ _ (by omega), if_neg (by omega)]; exact hz i hi
        have hfk : (fm k).map (l ++ ·) = (plansF N r left').map ((l ++ [k]) ++ ·) := by
          rw [hfm]; simp only [if_neg h0, ← hle, List.map_map]
          exact List.map_congr_left fun p _ => by simp
        obtain ⟨rest', hps'⟩ : ∃ rest', ps = σc ++ ((plansF N r left').map ((l ++ [k]) ++ ·) ++ rest') := by
          refine ⟨(((List.range (N - (k + 1))).map (k + 1 + ·)).flatMap fm).map (l ++ ·) ++ rest, ?_⟩
          have e1 : List.range N = List.range k ++ ([k] ++ (List.range (N - (k + 1))).map (k + 1 + ·)) := by
            conv => lhs; rw [show N = (k + 1) + (N - (k + 1)) by omega]
            rw [List.range_add, List.range_succ, List.append_assoc]
          rw [hps, hpl, e1, u3, hsg, ← hfk]
          simp [List.flatMap_append]
        have hx0 : A.cmp .eql x 0 = false := by rw [xeqb hA]; exact decide_eq_false (by have := hxI.eq; omega)
        cbv
        refine ⟨hin, ⟨_, hgx, ?_⟩⟩
        cbv
        refine bm (fun c => Bool.noConfusion (hx0.symm.trans c)) (fun _ => ?_)
        cbv
        refine ops_callG hS (b := false) rfl rfl rfl rfl rfl rfl rfl rfl (fun _ => ⟨[], _, [.sl 1 LL, I i], [], [], rfl, rfl, rfl, by decide, trivial, bFree _ _ _ ?_⟩) (fun h => absurd rfl h)
        refine ops_go tokT hA hS ?_
        cbv
        refine bm (fun c => Bool.noConfusion (hbn.symm.trans c)) (fun _ => ?_)
        cbv
        refine ⟨hin, ⟨_, hgx, ?_⟩⟩
        cbv
        refine ⟨hfs, hin, hlt4, ?_⟩
        refine code_gs hS (gs_weakB 8 (.agg [I y0, I y1, I y2, I y3]) rfl (show WkL (A.set [I x0, I x1, I x2, I x3] (A.addN 0 (A.mulN (A.tn i) 1)) (I (A.sub x 1))) [I y0, I y1, I y2, I y3] from hset ▸ WkL.rfl) (gs_done ?_))
        refine draw_go tokT hA hS [0, 1, 3, 4, 6, 2, 5, 7, 8] rfl rfl fun Dk hD => ?_
        cbv
        refine draw_call hA hD [.sl 1 LL] [] [] rfl rfl rfl rfl rfl rfl rfl rfl rfl rfl rfl (by decide) trivial (bCloneO LL n hLn hnM _ ⟨by cbv, draw_on tokT hA hD ?_⟩)
        cbv
        refine ⟨yeqLen hA hLn, yeqLen hA rfl, yroom1 hA hnM (by decide), ?_⟩
        refine draw_callF hA hD [11] rfl rfl rfl rfl rfl rfl fun CG hC => ?_
        cbv
        refine ⟨xeqN hA hapl, ?_⟩
        rw [hC]
        refine callG_of [.sl 1 (A.app LL [I i]), .agg [I y0, I y1, I y2, I y3], .cb z4D 0, .b 5 0, .cb (.agg [I b, .sl 3 TL]) 0, .cb (.fn 82 []) 0, .b 6 0] [0, 1, 2, 3, 4, 5, 6] (hsGn nf b TL asg bdy bl nn mt σc) rfl rfl rfl rfl rfl (by decide) ⟨rfl, rfl, rfl, rfl, rfl, rfl, rfl, trivial⟩
          (ih left' (l ++ [k]) σc rest' hsum' hlen' hl' hz' hps' _ y0 y1 y2 y3 hLL' hy _ fun σ'' hσ'' => aftG_of hA tokT hD ?_ ?_)
        · cbv
        · have hs2 : σ'' = sg (k + 1) := by rw [hσ'', hsgs, hfk, u3]
          cbv
          refine bm (fun c => Bool.noConfusion (hbn.symm.trans c)) (fun _ => ?_)
          cbv
          refine ⟨hf1, ?_⟩
          refine gs_loop (A.add i 1, k + 1, σ'') [0, 1, 2, 3, 4, 5, 6, 7] ⟨hu1, hk, hs2⟩ hms ?_
          exact ⟨by decide, pre7, ⟨rfl, rfl, rfl, rfl, rfl, rfl, rfl, rfl, trivial⟩, ⟨rfl, rfl, rfl, rfl, rfl, rfl, rfl, rfl, rfl, trivial⟩, rfl, rfl⟩
    · have hk := ynltL hA hN u1 c
      have hkN : k = N := by omega
      have hq' := hq σc (by rw [u3, hkN, hsgN])
      cbv
      refine gs_done ?_
      cbv
      exact gh_view [0, 1, 2, 3, 4, 5, 6] (by decide) pre7 (H' := hsGn nf b TL asg bdy bl nn mt σc) (d' := .v (.bool true)) ⟨rfl, rfl, rfl, rfl, rfl, rfl, rfl, trivial⟩ rfl (gh_done hq')
set_option maxRecDepth 20000 in
set_option maxHeartbeats 4000000 in
/-- plans$1: all plans of a shop are handed out. -/
theorem bPlansItN (nf : FuncId) (s : Sh) (hv : Val s) (TL : List D) (hT : TL = s.tasks.map taskD) (asg bdy : Code) (bl nn mt) (hR : RoundsOk nf (.agg [I s.benches, .sl 3 TL]) asg bdy bl nn mt (plansS s)) (Q)
    (hq : ∀ d, Q (RA.ret d) (hsB nf (.agg [I s.benches, .sl 3 TL]) asg bdy bl nn mt (plansS s))) :
    CallA Tryd.prog 109 [.yv 0, .cb (.agg [I s.benches, .sl 3 TL]) 0, .cb (.fn 82 []) 0] (hsB nf (.agg [I s.benches, .sl 3 TL]) asg bdy bl nn mt []) Q := by
  obtain ⟨A, hA⟩ : ∃ A, A = ar := ⟨_, rfl⟩
  have hlen := hv.len
  have hsum := hv.sum
  obtain ⟨N, hN⟩ : ∃ N, N = s.tasks.length := ⟨_, rfl⟩
  have hTl : TL.length = N := by rw [hT, hN]; simp
  have hN4 : N ≤ 4 := by omega
  obtain ⟨b, hb⟩ : ∃ b, b = s.benches := ⟨_, rfl⟩
  obtain ⟨σ0, hσ0⟩ : ∃ σ0 : List (List Nat), σ0 = [] := ⟨_, rfl⟩
  obtain ⟨ps, hps⟩ : ∃ ps, ps = plansS s := ⟨_, rfl⟩
  rw [← hps] at hR hq
  rw [← hb] at hR hq ⊢
  rw [← hσ0]
  refine callA_start tokT hA Tryd.func109 rfl rfl rfl rfl rfl fun S hS => ?_
  cbv
  refine at_code hS ?_
  refine wpa_loopG (α := Int × Nat × List D) (fun q => { env := [(1, .cb (.agg [I b, .sl 3 TL]) 0), (2, .cb (.fn 82 []) 0), (3, .b 5 0), (4, .b 6 0), (5, .b 7 0), (10, .sl 3 TL), (11, I (A.oi (A.len TL))), (12, I q.1)], H := hsB nf (.agg [I b, .sl 3 TL]) asg bdy bl nn mt σ0 ++ [.box (.yv 0), .box z4D, .box (.arr q.2.2)], nt := 27, dfs := [] })
    (fun q => N - q.2.1) (fun q => IsI q.1 q.2.1 ∧ q.2.1 ≤ N ∧ q.2.2 = natL (leftK s q.2.1)) (0, 0, [I 0, I 0, I 0, I 0]) ⟨⟨rfl⟩, Nat.zero_le _, rfl⟩ ?_ ?_
  · refine gs_weakB 7 (.arr [I 0, I 0, I 0, I 0]) rfl WkL.rfl ?_
    exact gs_to [0, 1, 2, 3, 4, 5, 6, 7] ⟨by decide, pre5, ⟨rfl, rfl, rfl, rfl, rfl, rfl, rfl, rfl, trivial⟩, ⟨rfl, rfl, rfl, rfl, rfl, rfl, rfl, rfl, trivial⟩, rfl, rfl⟩
  rintro ⟨i, k, L⟩ ⟨u1, u2, u3⟩
  dsimp only at u1 u2 u3
  have hLl : L.length = 4 := by rw [u3]; simp [natL, leftK]
  have hNs : N ≤ k → natL (leftK s k) = natL (leftS s) := fun h => by rw [leftK_all hlen (by omega)]
  refine wp_go tokT hA hS ?_
  cbv
  refine bm (fun c => ?_) (fun c => ?_)
  · have hk := yltL hA hTl u1 c
    have hk4 : k < 4 := by omega
    obtain ⟨t, ht⟩ : ∃ t, t = s.tasks[k] := ⟨_, rfl⟩
    have htk : s.tasks[k]? = some t := by rw [ht]; exact List.getElem?_eq_getElem (by omega)
    obtain ⟨WL, hWL⟩ : ∃ WL, WL = t.works.map workD := ⟨_, rfl⟩
    have hWl : WL.length = t.works.length := by rw [hWL]; simp
    have hTk : TL[k]? = some (.agg [I t.ready, I t.due, .sl 3 WL]) := by rw [hT]; simp [htk, hWL, taskD]
    have hL2 : L.set (0 + k) (I (A.oi (A.len WL))) = natL (leftK s (k + 1)) := by
      rw [leftK_succ s hk4, leftS_at htk, u3, Nat.zero_add, yoiL hA hWl]; simp [natL]
    have hset := ysetO hA 0 u1 hL2.symm
    have hin := yinb hA u1 hk4
    have hlt := yltO hA (l := L) 0 u1 hLl (by omega)
    have hf1 := yfit1 hA u1 (by omega)
    have hu1 := ysucc hA u1
    have hms : N - (k + 1) < N - k := by omega
    cbv
    refine ⟨yinbL hA hTl u1 hk, ⟨_, yget hA u1 hTk, ?_⟩⟩
    cbv
    refine ⟨hin, hlt, hf1, ?_⟩
    refine gs_loop (A.add i 1, k + 1, A.set L (A.addN 0 (A.mulN (A.tn i) 1)) (I (A.oi (A.len WL)))) [0, 1, 2, 3, 4, 5, 6, 7] ⟨hu1, hk, hset⟩ hms ?_
    exact ⟨by decide, pre5, ⟨rfl, rfl, rfl, rfl, rfl, rfl, rfl, arr_ren _ (show frL (A.set L (A.addN 0 (A.mulN (A.tn i) 1)) (I (A.oi (A.len WL)))) = true from hset ▸ natL_fr _), trivial⟩, ⟨rfl, rfl, rfl, rfl, rfl, rfl, rfl, rfl, trivial⟩, rfl, rfl⟩
  · have hk := ynltL hA hTl u1 c
    obtain ⟨x0, x1, x2, x3, hx⟩ : ∃ x0 x1 x2 x3 : Int, (leftS s).map (fun n : Nat => (n : Int)) = [x0, x1, x2, x3] := by
      obtain ⟨a0, a1, a2, a3, e⟩ := list4 (leftS_len hlen)
      exact ⟨a0, a1, a2, a3, by rw [e]; rfl⟩
    have hLx : L = [I x0, I x1, I x2, I x3] := by
      rw [u3, hNs hk]
      have e1 : ([I x0, I x1, I x2, I x3] : List D) = ([x0, x1, x2, x3] : List Int).map I := rfl
      rw [e1, ← hx, natL, List.map_map]; rfl
    subst hLx
    have hli : A.lenIs [I x0, I x1, I x2, I x3] 4 := xlenIs hA rfl
    cbv
    refine gs_done ?_
    cbv
    refine ⟨hli, ?_⟩
    refine ops_gs hS (gs_frz hA [6] ?_)
    cbv
    refine gs_done ?_
    refine ops_call hS [.v (.slice none 0 0), .arr [I x0, I x1, I x2, I x3], .cb z4D 0, .b 5 0, .cb (.agg [I b, .sl 3 TL]) 0, .cb (.fn 82 []) 0, .b 6 0] [0, 1, 2, 3, 4, 5, 8] (hsGn nf b TL asg bdy bl nn mt σ0) rfl rfl rfl rfl rfl rfl rfl rfl (by decide) ⟨rfl, rfl, rfl, rfl, rfl, rfl, rfl, trivial⟩
      (callA_weak (as' := [.sl 1 [], .agg [I x0, I x1, I x2, I x3], .cb z4D 0, .b 5 0, .cb (.agg [I b, .sl 3 TL]) 0, .cb (.fn 82 []) 0, .b 6 0]) ⟨WkD.nil, WkD.arrAgg rfl, .rfl, .rfl, .rfl, .rfl, .rfl, trivial⟩
        (bGrowN nf b TL N hTl hN4 asg bdy bl nn mt ps hR (nWorks s.tasks) (leftS s) [] σ0 [] (leftS_sum s) (leftS_len hlen) (by simp; omega) (fun i hi => leftS_out (by omega)) (by rw [hps, hσ0, plansS, hN]; simp) [] x0 x1 x2 x3 rfl hx _ fun σ' hσ' => ?_))
    have hσp : σ' = ps := by rw [hσ', hps, hσ0, plansS, hN]; simp
    rw [hσp]
    refine ops_go tokT hA hS ?_
    cbv
    exact gh_view [0, 1, 2, 3, 4] (by decide) pre5 (H' := hsB nf (.agg [I b, .sl 3 TL]) asg bdy bl nn mt ps) (d' := .tup []) ⟨rfl, rfl, rfl, rfl, rfl, trivial⟩ rfl (gh_done (hq _))
set_option maxRecDepth 20000 in
set_option maxHeartbeats 4000000 in
/-- least, for any number. -/
theorem bLeastN (nf : FuncId) (num : List Nat → Int) (s : Sh) (hv : Val s) (TL : List D) (hT : TL = s.tasks.map taskD) (hcl : ∀ p ∈ plansS s, ∀ LL n, LL = planL p → n = num p → ∀ Q, Q (RA.ret (I n)) [] → CallA Tryd.prog nf [.sl 1 LL, .cb (.agg [I s.benches, .sl 3 TL]) 0] [] Q) (Q)
    (hq : ∀ PL n, PL = planL (leastS num (plansS s)).2.1 → n = (leastS num (plansS s)).2.2 → Q (RA.ret (.tup [.sl 1 PL, I n])) []) :
    CallA Tryd.prog 80 [.fn 109 [.cb (.agg [I s.benches, .sl 3 TL]) 0, .cb (.fn 82 []) 0], .fn nf [.cb (.agg [I s.benches, .sl 3 TL]) 0]] [] Q := by
  obtain ⟨A, hA⟩ : ∃ A, A = ar := ⟨_, rfl⟩
  obtain ⟨bl, hbl⟩ : ∃ bl : List (List Nat) → List D, bl = fun σ => planL (leastS num σ).2.1 := ⟨_, rfl⟩
  obtain ⟨nn, hnn⟩ : ∃ nn : List (List Nat) → Int, nn = fun σ => (leastS num σ).2.2 := ⟨_, rfl⟩
  obtain ⟨mt, hmt⟩ : ∃ mt : List (List Nat) → Bool, mt = fun σ => (leastS num σ).1 := ⟨_, rfl⟩
  obtain ⟨ps, hpsE⟩ : ∃ ps, ps = plansS s := ⟨_, rfl⟩
  obtain ⟨σ0, hσ0⟩ : ∃ σ0 : List (List Nat), σ0 = [] := ⟨_, rfl⟩
  rw [← hpsE] at hcl hq
  have hbl0 : bl σ0 = [] := by rw [hbl, hσ0]; rfl
  have hnn0 : nn σ0 = 0 := by rw [hnn, hσ0]; rfl
  have hmt0 : mt σ0 = false := by rw [hmt, hσ0]; rfl
  have hyes : ∀ σ σ' p, σ' = σ ++ [p] → (mt σ = false ∨ num p < nn σ) → bl σ' = planL p ∧ nn σ' = num p ∧ mt σ' = true := fun σ σ' p e h => by
    rw [hmt, hnn] at h
    have := leastS_snoc num σ p
    rw [if_pos h] at this
    rw [hbl, hnn, hmt, e]; simp only [this, and_self]
  have hno : ∀ σ σ' p, σ' = σ ++ [p] → mt σ = true → nn σ ≤ num p → bl σ' = bl σ ∧ nn σ' = nn σ ∧ mt σ' = mt σ := fun σ σ' p e h1 h2 => by
    rw [hmt] at h1; rw [hnn] at h2
    have := leastS_snoc num σ p
    rw [if_neg (by simp only [h1]; simp; exact h2)] at this
    rw [hbl, hnn, hmt, e]; simp only [this, and_self]
  refine callA_startM tokT hA Tryd.func80 rfl rfl rfl rfl rfl fun S hS => ?_
  cbv
  refine code_gs hS (gs_weakB 2 (.sl 1 []) rfl ⟨WkD.nil, trivial⟩ (gs_view (a := { env := [(9, .fn 109 [.cb (.agg [I s.benches, .sl 3 TL]) 0, .cb (.fn 82 []) 0]), (3, .b 1 0), (4, .b 2 0), (5, .b 3 0), (6, .b 4 0)], H := [.ob .mk, .box (.fn nf [.cb (.agg [I s.benches, .sl 3 TL]) 0]), .box (.sl 1 (bl σ0)), .box (I (nn σ0)), .box (.v (.bool (mt σ0)))], nt := 25, dfs := [.mk 0] }) [0, 1, 2, 3, 4] ⟨by decide, pre0, ⟨rfl, rfl, by rw [hbl0]; rfl, by rw [hnn0]; rfl, by rw [hmt0]; rfl, trivial⟩, ⟨rfl, rfl, rfl, rfl, rfl, trivial⟩, rfl, rfl⟩ (gs_done ?_)))
  refine code_rangeFunc hS (as' := [.yv 0, .cb (.agg [I s.benches, .sl 3 TL]) 0, .cb (.fn 82 []) 0]) [5, 1, 2, 3, 4] (hsB nf (.agg [I s.benches, .sl 3 TL]) _ _ bl nn mt σ0) rfl rfl rfl rfl (by decide) ⟨rfl, rfl, rfl, rfl, rfl, trivial⟩ ?_
  rw [hσ0]
  refine bPlansItN nf s hv TL hT _ _ bl nn mt ⟨fun σ p rest σ' hp hσ LL hLL Q hq => ?_⟩ _ fun d => ?_
  · have hpM : p ∈ ps := by rw [hpsE, hp]; simp
    obtain ⟨n, hn⟩ : ∃ n, n = num p := ⟨_, rfl⟩
    have hy := hyes σ σ' p hσ
    have hz := hno σ σ' p hσ
    rw [← hn] at hy hz
    refine roundA_go tokT hA rfl rfl (by decide) fun b' S2 hS2 => ?_
    cbv
    refine at_code hS2 ?_
    refine wp_go tokT hA hS2 ?_
    cbv
    refine ops_call hS2 [.sl 1 LL, .cb (.agg [I s.benches, .sl 3 TL]) 0] [] [] rfl rfl rfl rfl rfl rfl rfl rfl (by decide) trivial (hcl p hpM LL n hLL hn _ ?_)
    refine ops_go tokT hA hS2 ?_
    cbv
    refine bm (fun c => ?_) (fun c => ?_)
    · obtain ⟨e1, e2, e3⟩ := hy (.inl (xnot hA c))
      rw [← hLL] at e1
      have hq2 := hq
      unfold hsB at hq2
      rw [e1, e2, e3] at hq2
      cbv
      exact ⟨⟨_, _, rfl⟩, hq2⟩
    · have c0 := xnnot hA c
      cbv
      refine bm (fun c2 => ?_) (fun c2 => ?_)
      · obtain ⟨e1, e2, e3⟩ := hy (.inr (xlt hA c2))
        rw [← hLL] at e1
        have hq2 := hq
        unfold hsB at hq2
        rw [e1, e2, e3] at hq2
        cbv
        exact ⟨⟨_, _, rfl⟩, hq2⟩
      · obtain ⟨e1, e2, e3⟩ := hz c0 (xnlt hA c2)
        have hq2 := hq
        unfold hsB at hq2
        rw [e1, e2, e3] at hq2
        cbv
        exact ⟨⟨_, _, rfl⟩, hq2⟩
  · have hq1 := hq (bl ps) (nn ps) (by rw [hbl]) (by rw [hnn])
    rw [← hpsE]
    refine ⟨⟨.ready, _, (by intro h; cases h), rfl⟩, ?_⟩
    cbv
    refine draw_go tokT hA hS [0, 1, 2, 3] rfl rfl fun Dk hD => ?_
    cbv
    exact gh_view [] (by decide) pre0 (H' := []) (d' := .tup [.sl 1 (bl ps), I (nn ps)]) trivial rfl (gh_done hq1)

/-- By how many orders a plan may be late. -/
def lateN (s : Sh) (p : List Nat) (k : Nat) : Nat := (List.range k).countP fun i => decide ((s.tasks.getD i default).due < ((endsS s p).getD i (0, 0)).2)

theorem lateN_succ (s : Sh) (p : List Nat) (k : Nat) : lateN s p (k + 1) = lateN s p k + if (s.tasks.getD k default).due < ((endsS s p).getD k (0, 0)).2 then 1 else 0 := by
  rw [lateN, List.range_succ, List.countP_append, lateN]; simp [List.countP_singleton]

def lateC (s : Sh) (p : List Nat) : Int := (lateN s p s.tasks.length : Nat)

set_option maxRecDepth 20000 in
set_option maxHeartbeats 2000000 in
/-- Prompt$1. -/
theorem bPrompt1 (s : Sh) (hv : Val s) (p : List Nat) (hp : PlanLe s p) (hpl : p.length ≤ 8) (TL PL : List D) (hT : TL = s.tasks.map taskD) (hP : PL = planL p) (n : Int) (hn : n = lateC s p) (Q) (hq : Q (RA.ret (I n)) []) :
    CallA Tryd.prog 98 [.sl 1 PL, .cb (.agg [I s.benches, .sl 3 TL]) 0] [] Q := by
  obtain ⟨A, hA⟩ : ∃ A, A = ar := ⟨_, rfl⟩
  have hlen := hv.len
  obtain ⟨N, hN⟩ : ∃ N, N = s.tasks.length := ⟨_, rfl⟩
  have hTl : TL.length = N := by rw [hT, hN]; simp
  refine callA_start tokT hA Tryd.func98 rfl rfl rfl rfl rfl fun S hS => ?_
  cbv
  refine ops_call hS [.agg [I s.benches, .sl 3 TL, .sl 1 PL]] [] [] rfl rfl rfl rfl rfl rfl rfl rfl (by decide) trivial (bEndsIn s hv p hp hpl TL PL hT hP _ fun EL hE => ?_)
  have hEl : EL.length = N := by rw [hE, hN]; simp [endsS_len]
  refine ops_go tokT hA hS ?_
  cbv
  refine at_code hS ?_
  have hle : ∀ k, lateN s p k ≤ k := fun k => by
    have := List.countP_le_length (p := fun i => decide ((s.tasks.getD i default).due < ((endsS s p).getD i (0, 0)).2)) (l := List.range k)
    rwa [List.length_range] at this
  refine wpa_loopG (α := Int × Nat × Int) (fun q => { env := [(1, .cb (.agg [I s.benches, .sl 3 TL]) 0), (4, I q.2.2), (10, .sl 2 EL), (11, I (A.oi (A.len EL))), (12, I q.1)], H := [], nt := 30, dfs := [] })
    (fun q => N - q.2.1) (fun q => IsI q.1 q.2.1 ∧ q.2.1 ≤ N ∧ IsI q.2.2 (lateN s p q.2.1)) (0, 0, 0) ⟨⟨rfl⟩, Nat.zero_le _, ⟨rfl⟩⟩ ?_ ?_
  · exact gs_to [] ⟨by decide, pre0, trivial, ⟨rfl, rfl, rfl, rfl, rfl, trivial⟩, rfl, rfl⟩
  rintro ⟨i, k, c⟩ ⟨u1, u2, u3⟩
  dsimp only at u1 u2 u3
  refine wp_go tokT hA hS ?_
  cbv
  refine bm (fun c0 => ?_) (fun c0 => ?_)
  · have hk : k < N := yltL hA hEl u1 c0
    obtain ⟨t, ht⟩ : ∃ t, t = s.tasks.getD k default := ⟨_, rfl⟩
    have htk : s.tasks[k]? = some t := by rw [ht, List.getD_eq_getElem?_getD, List.getElem?_eq_getElem (by omega)]; rfl
    obtain ⟨WL, hWL⟩ : ∃ WL, WL = t.works.map workD := ⟨_, rfl⟩
    have hTk : TL[k]? = some (.agg [I t.ready, I t.due, .sl 3 WL]) := by rw [hT]; simp [htk, hWL, taskD]
    obtain ⟨e1, e2, he⟩ : ∃ e1 e2, (endsS s p)[k]? = some (e1, e2) := ⟨_, _, List.getElem?_eq_getElem (by rw [endsS_len]; omega)⟩
    have hEk : EL[k]? = some (.agg [I e1, I e2]) := by rw [hE]; simp [he, rngD]
    have hsu := lateN_succ s p k
    rw [← ht, List.getD_eq_getElem?_getD, he, Option.getD_some] at hsu
    dsimp only at hsu
    have i1 := yinbL hA hEl u1 hk
    have i2 := yinbL hA hTl u1 hk
    have g1 := yget hA u1 hEk
    have g2 := yget hA u1 hTk
    have hf1 := yfit1 hA u1 (by omega)
    have hf2 := yfit1 hA u3 (by have := hle k; omega)
    have hu1 := ysucc hA u1
    have hu3 := ysucc hA u3
    have hms : N - (k + 1) < N - k := by omega
    have hc1 : t.due < e2 → IsI (A.add c 1) (lateN s p (k + 1)) := fun h => by rw [hsu, if_pos h]; exact hu3
    have hc2 : e2 ≤ t.due → IsI c (lateN s p (k + 1)) := fun h => by rw [hsu, if_neg (by omega)]; exact u3
    cbv
    refine ⟨i1, ⟨_, g1, ?_⟩⟩
    cbv
    refine draw_go tokT hA hS [0, 1, 2, 3, 4, 5, 6, 7, 8] rfl rfl fun Dk hD => ?_
    cbv
    refine ⟨i2, ⟨_, g2, ?_⟩⟩
    cbv
    refine bm (fun c1 => ?_) (fun c1 => ?_)
    · have hn := hc1 (xgt hA c1)
      cbv
      refine ⟨hf2, hf1, ?_⟩
      refine gs_loop (A.add i 1, k + 1, A.add c 1) [] ⟨hu1, hk, hn⟩ hms ?_
      exact ⟨by decide, pre0, trivial, ⟨rfl, rfl, rfl, rfl, rfl, trivial⟩, rfl, rfl⟩
    · have hn := hc2 (xngt hA c1)
      cbv
      refine ⟨hf1, ?_⟩
      refine gs_loop (A.add i 1, k + 1, c) [] ⟨hu1, hk, hn⟩ hms ?_
      exact ⟨by decide, pre0, trivial, ⟨rfl, rfl, rfl, rfl, rfl, trivial⟩, rfl, rfl⟩
  · have hk : k = N := by have := ynltL hA hEl u1 c0; omega
    have hc : c = n := by rw [hn, lateC, ← hN, ← hk]; exact u3.eq
    cbv
    refine gs_done ?_
    cbv
    rw [hc]
    exact gh_view [] (by decide) pre0 (H' := []) (d' := I n) trivial rfl (gh_done hq)

def promptS (s : Sh) : Bool × List Nat × Int := leastS (lateC s) (plansS s)

/-- bench.Prompt, of a valid shop. -/
theorem bPrompt (s : Sh) (hs : ShopOk s) (TL : List D) (hT : TL = s.tasks.map taskD) (Q) (hq : ∀ PL n, PL = planL (promptS s).2.1 → n = (promptS s).2.2 → Q (RA.ret (.tup [.sl 1 PL, I n, I 0])) []) :
    CallA Tryd.prog 57 [.agg [I s.benches, .sl 3 TL]] [] Q := by
  obtain ⟨A, hA⟩ : ∃ A, A = ar := ⟨_, rfl⟩
  have hv := chkS_val hs.chk
  have hsum := hv.sum
  refine callA_start tokT hA Tryd.func57 rfl rfl rfl rfl rfl fun S hS => ?_
  cbv
  refine ops_call hS [.agg [I s.benches, .sl 3 TL]] [] [] rfl rfl rfl rfl rfl rfl rfl rfl (by decide) trivial (bCheck s hs.fin TL hT 0 hs.chk.symm _ ?_)
  refine ops_go tokT hA hS ?_
  cbv
  refine bm (fun c => absurd rfl (xne hA c)) (fun _ => ?_)
  cbv
  refine ops_call hS [.agg [I s.benches, .sl 3 TL], .fn 82 []] [] [] rfl rfl rfl rfl rfl rfl rfl rfl (by decide) trivial (bPlans s.benches TL _ ?_)
  refine ops_go tokT hA hS ?_
  cbv
  refine ops_gs hS (gs_frz hA [0] ?_)
  cbv
  refine gs_done ?_
  refine ops_call hS [.fn 109 [.cb (.agg [I s.benches, .sl 3 TL]) 0, .cb (.fn 82 []) 0], .fn 98 [.cb (.agg [I s.benches, .sl 3 TL]) 0]] [] [] rfl rfl rfl rfl rfl rfl rfl rfl (by decide) trivial (bLeastN 98 (lateC s) s hv TL hT (fun p hp LL n hL hn Q hq => ?_) _ fun PL n hP hn => ?_)
  · have := plansS_ok hv hp
    exact bPrompt1 s hv p this.le (by rw [this.len]; omega) TL LL hT hL n hn Q hq
  refine ops_go tokT hA hS ?_
  cbv
  exact gh_view [] (by decide) pre0 (H' := []) (d' := .tup [.sl 1 PL, I n, I 0]) trivial rfl (gh_done (hq PL n hP hn))
end Go.Proofs.YtmloogdalecilaaDoor

/-! D37 -/
namespace Go.Proofs.YtmloogdalecilaaDoor
open Go Go.Abs Go.Proofs

/-- All plans that go on from one, as data. -/
def plansD (n r : Nat) (left l : List Nat) : List D := (plansF n r left).map fun p => .sl 1 (planL (l ++ p))

theorem plansF_len (n : Nat) : ∀ (r : Nat) (left : List Nat), (plansF n r left).length ≤ n ^ r
  | 0, _ => by simp [plansF]
  | r + 1, left => by
    have key : ∀ (l : List Nat), (l.flatMap fun i => if left.getD i 0 = 0 then [] else (plansF n r (left.set i (left.getD i 0 - 1))).map (i :: ·)).length ≤ l.length * n ^ r := by
      intro l
      induction l with
      | nil => simp
      | cons i l ih =>
        rw [List.flatMap_cons, List.length_append, List.length_cons, Nat.succ_mul]
        have : (if left.getD i 0 = 0 then [] else (plansF n r (left.set i (left.getD i 0 - 1))).map (i :: ·)).length ≤ n ^ r := by
          split
          · simp
          · rw [List.length_map]; exact plansF_len n r _
        omega
    have := key (List.range n)
    rw [List.length_range] at this
    rw [plansF, Nat.pow_succ, Nat.mul_comm]
    exact this

theorem yroomN {A : Ar} (hA : A = ar) {x b : Nat} (hx : x ≤ 1000001) (hb : b ≤ 1000) : A.room x b := by
  subst hA
  have : x * b ≤ 1000001 * 1000 := Nat.mul_le_mul hx hb
  exact ⟨by show x * b ≤ 140737488355328; omega, by show x ≤ 4611686018427387904; omega⟩
theorem xlen {A : Ar} (hA : A = ar) (l : List D) : A.len l = l.length := by subst hA; rfl

set_option maxRecDepth 20000 in
set_option maxHeartbeats 4000000 in
/-- Plans, the documents' own: all plans that go on from one. -/
theorem kPlans (s : Sh) (hv : Val s) (TL : List D) (hT : TL = s.tasks.map taskD) (N : Nat) (hN : N = s.tasks.length) : ∀ (r : Nat) (left l : List Nat), left.sum = r → left.length = 4 → l.length + r ≤ 8 → (∀ i, N ≤ i → left.getD i 0 = 0) → (∀ i t, s.tasks[i]? = some t → l.count i + left.getD i 0 = t.works.length) →
    ∀ LL, LL = planL l → ∀ Q, (∀ RL, RL = plansD N r left l → Q (RA.ret (.sl 1 RL)) []) → CallA Tryd.prog 66 [.agg [I s.benches, .sl 3 TL], .sl 1 LL] [] Q := by
  obtain ⟨A, hA⟩ : ∃ A, A = ar := ⟨_, rfl⟩
  have hlen := hv.len
  have hsum := hv.sum
  have hTl : TL.length = N := by rw [hT, hN]; simp
  intro r
  induction r using Nat.strongRecOn with
  | ind r ih =>
  intro left l hr hl4 hlr hz hcnt LL hLL Q hq
  obtain ⟨M, hM⟩ : ∃ M, M = l.length := ⟨_, rfl⟩
  have hLl : LL.length = M := by rw [hLL, hM]; simp [planL]
  obtain ⟨fm, hfm⟩ : ∃ fm : Nat → List (List Nat), fm = fun i => if left.getD i 0 = 0 then [] else (plansF N (r - 1) (left.set i (left.getD i 0 - 1))).map (i :: ·) := ⟨_, rfl⟩
  obtain ⟨up, hup⟩ : ∃ up : Nat → List D, up = fun k => ((List.range k).flatMap fm).map fun p => .sl 1 (planL (l ++ p)) := ⟨_, rfl⟩
  obtain ⟨wh, hwh⟩ : ∃ wh : Nat → Bool, wh = fun k => (List.range k).all fun i => left.getD i 0 == 0 := ⟨_, rfl⟩
  have hup0 : up 0 = [] := by rw [hup]; rfl
  have hwh0 : wh 0 = true := by rw [hwh]; rfl
  refine callA_start tokT hA Tryd.func66 rfl rfl rfl rfl rfl fun S hS => ?_
  cbv
  refine at_code hS ?_
  refine wpa_loopG (α := Int × Nat × List D × Nat) (fun q => { env := [(1, .sl 1 LL), (2, .b 0 0), (5, .o 1 1 q.2.2.2), (6, .v (.bool (wh q.2.1))), (7, I q.1)], H := [.box (.agg [I s.benches, .sl 3 TL]), .els 1 q.2.2.1], nt := 54, dfs := [] })
    (fun q => N - q.2.1) (fun q => IsI q.1 q.2.1 ∧ q.2.1 ≤ N ∧ q.2.2.1 = up q.2.1 ∧ q.2.2.1.length = q.2.2.2) (0, 0, [], 0) ⟨⟨rfl⟩, Nat.zero_le _, hup0.symm, rfl⟩ ?_ ?_
  · rw [hwh0]
    refine gs_virt 5 1 rfl ?_
    exact gs_to [0, 1] ⟨by decide, pre0, ⟨rfl, rfl, trivial⟩, ⟨rfl, rfl, rfl, rfl, rfl, trivial⟩, rfl, rfl⟩
  rintro ⟨i, k, HL, n⟩ ⟨u1, u2, u3, u4⟩
  dsimp only at u1 u2 u3 u4
  have hfl : ∀ i, (fm i).length ≤ 4 ^ (r - 1) := fun i => by
    rw [hfm]; dsimp only
    split
    · simp
    · rw [List.length_map]
      exact Nat.le_trans (plansF_len N (r - 1) _) (Nat.pow_le_pow_left (by omega) (r - 1))
  have hr7 : 4 ^ (r - 1) ≤ 16384 := Nat.le_trans (Nat.pow_le_pow_right (by omega) (show r - 1 ≤ 7 by omega)) (by decide)
  have hnb : n ≤ 70000 := by
    have key : ∀ (l : List Nat), (l.flatMap fm).length ≤ l.length * 4 ^ (r - 1) := by
      intro l
      induction l with
      | nil => simp
      | cons i l ih2 =>
        rw [List.flatMap_cons, List.length_append, List.length_cons, Nat.succ_mul]
        have := hfl i
        omega
    have h1 := key (List.range k)
    rw [List.length_range] at h1
    have h2 : n = ((List.range k).flatMap fm).length := by rw [← u4, u3, hup]; simp
    have h3 : k * 4 ^ (r - 1) ≤ 4 * 16384 := Nat.mul_le_mul (by omega) hr7
    omega
  obtain ⟨w, hw⟩ : ∃ w, w = wh k := ⟨_, rfl⟩
  rw [← hw]
  refine wp_go tokT hA hS ?_
  cbv
  refine bm (fun c => ?_) (fun c => ?_)
  · have hk : k < N := yltL hA hTl u1 c
    obtain ⟨t, ht⟩ : ∃ t, t = s.tasks[k] := ⟨_, rfl⟩
    have htk : s.tasks[k]? = some t := by rw [ht]; exact List.getElem?_eq_getElem (by omega)
    obtain ⟨WL, hWL⟩ : ∃ WL, WL = t.works.map workD := ⟨_, rfl⟩
    obtain ⟨wn, hwn⟩ : ∃ wn, wn = t.works.length := ⟨_, rfl⟩
    have hWl : WL.length = wn := by rw [hWL, hwn]; simp
    have hTk : TL[k]? = some (.agg [I t.ready, I t.due, .sl 3 WL]) := by rw [hT]; simp [htk, hWL, taskD]
    have hin := yinbL hA hTl u1 hk
    have hgt := yget hA u1 hTk
    have hf1 := yfit1 hA u1 (by omega)
    have hu1 := ysucc hA u1
    have hms : N - (k + 1) < N - k := by omega
    have hck := hcnt k t htk
    cbv
    refine at_code hS ?_
    refine wpa_loopG (α := Int × Nat × Int) (fun q => { env := [(1, .sl 1 LL), (2, .b 0 0), (5, .o 1 1 n), (6, .v (.bool w)), (7, I i), (8, I q.2.2), (9, I q.1)], H := [.box (.agg [I s.benches, .sl 3 TL]), .els 1 HL], nt := 54, dfs := [] })
      (fun q => M - q.2.1) (fun q => IsI q.1 q.2.1 ∧ q.2.1 ≤ M ∧ IsI q.2.2 ((l.take q.2.1).count k)) (0, 0, 0) ⟨⟨rfl⟩, Nat.zero_le _, ⟨by simp⟩⟩ ?_ ?_
    · exact gs_to [0, 1] ⟨by decide, pre0, ⟨rfl, rfl, trivial⟩, ⟨rfl, rfl, rfl, rfl, rfl, rfl, rfl, trivial⟩, rfl, rfl⟩
    rintro ⟨j, m, d⟩ ⟨v1, v2, v3⟩
    dsimp only at v1 v2 v3
    refine wp_go tokT hA hS ?_
    cbv
    refine bm (fun c2 => ?_) (fun c2 => ?_)
    · have hm : m < M := yltL hA hLl v1 c2
      obtain ⟨b, hb⟩ : ∃ b, b = l[m] := ⟨_, rfl⟩
      have hbm : l[m]? = some b := by rw [hb]; exact List.getElem?_eq_getElem (by omega)
      have hLm : LL[m]? = some (I (b : Nat)) := by rw [hLL]; simp [planL, hbm]
      have hin2 := yinbL hA hLl v1 hm
      have hg2 := yget hA v1 hLm
      have hf2 := yfit1 hA v1 (by omega)
      have hcle : (l.take m).count k ≤ m := Nat.le_trans List.count_le_length (by simp; omega)
      have hf3 := yfit1 hA v3 (by omega)
      have hv1 := ysucc hA v1
      have hv3 := ysucc hA v3
      have hms2 : M - (m + 1) < M - m := by omega
      have hct : (l.take (m + 1)).count k = (l.take m).count k + if b = k then 1 else 0 := by
        rw [List.take_add_one, hbm, List.count_append]; simp [List.count_singleton]
      obtain ⟨bi, hbi⟩ : ∃ bi : Int, bi = (b : Nat) := ⟨_, rfl⟩
      rw [← hbi] at hg2
      have hc1 : bi = i → IsI (A.add d 1) ((l.take (m + 1)).count k) := fun h => by
        have : b = k := by have := u1.eq; omega
        rw [hct, if_pos this]; exact hv3
      have hc2 : bi ≠ i → IsI d ((l.take (m + 1)).count k) := fun h => by
        have : b ≠ k := by have := u1.eq; intro h2; omega
        rw [hct, if_neg this]; exact v3
      cbv
      refine ⟨hin2, ⟨_, hg2, ?_⟩⟩
      cbv
      refine bm (fun c3 => ?_) (fun c3 => ?_)
      · have hn := hc1 (xeq hA c3)
        cbv
        refine ⟨hf3, hf2, ?_⟩
        refine gs_loop (A.add j 1, m + 1, A.add d 1) [0, 1] ⟨hv1, hm, hn⟩ hms2 ?_
        exact ⟨by decide, pre0, ⟨rfl, rfl, trivial⟩, ⟨rfl, rfl, rfl, rfl, rfl, rfl, rfl, trivial⟩, rfl, rfl⟩
      · have hn := hc2 (xneq hA c3)
        cbv
        refine ⟨hf2, ?_⟩
        refine gs_loop (A.add j 1, m + 1, d) [0, 1] ⟨hv1, hm, hn⟩ hms2 ?_
        exact ⟨by decide, pre0, ⟨rfl, rfl, trivial⟩, ⟨rfl, rfl, rfl, rfl, rfl, rfl, rfl, trivial⟩, rfl, rfl⟩
    · have hm : m = M := by have := ynltL hA hLl v1 c2; omega
      have hd : IsI d (l.count k) := by rw [hm, hM, List.take_length] at v3; exact v3
      cbv
      refine gs_done ?_
      cbv
      refine ⟨hin, ⟨_, hgt, ?_⟩⟩
      cbv
      refine bm (fun c4 => ?_) (fun c4 => ?_)
      · have h0 : left.getD k 0 ≠ 0 := by have := yltL hA hWl hd c4; omega
        cbv
        refine draw_go tokT hA hS [0, 1, 2, 3, 5, 6, 4, 7, 8, 9, 10] rfl rfl fun Dk hD => ?_
        obtain ⟨left', hle⟩ : ∃ left', left' = left.set k (left.getD k 0 - 1) := ⟨_, rfl⟩
        have hlen' : left'.length = 4 := by rw [hle]; simp [hl4]
        have hsr := sum_set (i := k) h0
        have hsum' : left'.sum = r - 1 := by rw [hle]; omega
        have hl' : (l ++ [k]).length + (r - 1) ≤ 8 := by rw [List.length_append]; simp only [List.length_singleton]; omega
        have hz' : ∀ i, N ≤ i → left'.getD i 0 = 0 := fun i hi => by
          rw [hle, getD_set _ _ _ _ _ (by omega), if_neg (by omega)]; exact hz i hi
        have hcnt' : ∀ i t, s.tasks[i]? = some t → (l ++ [k]).count i + left'.getD i 0 = t.works.length := fun i' t' h => by
          have h1 := hcnt i' t' h
          rw [hle, getD_set _ _ _ _ _ (by omega), List.count_append]
          by_cases e : i' = k
          · rw [e] at h1 ⊢; rw [if_pos rfl, List.count_singleton_self]; omega
          · rw [if_neg e, List.count_singleton, if_neg (by simpa using fun h => e h.symm)]; omega
        have hLL' : A.app (A.app [] LL) [I i] = planL (l ++ [k]) := by rw [xapp hA, xapp hA, hLL, u1.eq]; simp [planL]
        have hfk : (fm k).map (fun p => D.sl 1 (planL (l ++ p))) = plansD N (r - 1) left' (l ++ [k]) := by
          rw [hfm]; simp only [if_neg h0, ← hle, List.map_map, plansD]
          exact List.map_congr_left fun p _ => by simp
        have hup1 : up (k + 1) = up k ++ (fm k).map (fun p => D.sl 1 (planL (l ++ p))) := by
          rw [hup]; dsimp only; rw [List.range_succ, List.flatMap_append, List.map_append]; simp
        have hwx : false = wh (k + 1) := by
          rw [hwh]; dsimp only; rw [List.range_succ, List.all_append]; simp [← List.getD_eq_getElem?_getD, h0]
        have hadd : A.addN 0 (A.len LL) = M := by rw [xaddN hA, xlen hA, hLl]; simp
        have hr1 : A.room (A.addN 0 (A.len LL)) 8 := by rw [hadd]; exact yroomN hA (by omega) (by decide)
        have hr2 : A.room (A.addN (A.addN 0 (A.len LL)) 1) 8 := by rw [hadd, xaddN hA]; exact yroomN hA (by omega) (by decide)
        have hl1 : A.eqN (A.addN 0 (A.len LL)) (A.len (A.app [] LL)) := by refine xeqN hA ?_; rw [hadd, xlen hA, xapp hA]; simp [hLl]
        have hl2 : A.eqN (A.addN (A.addN 0 (A.len LL)) 1) (A.len (A.app (A.app [] LL) [I i])) := by refine xeqN hA ?_; rw [hadd, xlen hA, xapp hA, xapp hA, xaddN hA]; simp [hLl]
        cbv
        refine ⟨yeqLen hA rfl, hr1, hl1, yeqLen hA rfl, hr2, ?_⟩
        refine draw_callF hA hD [5] rfl rfl rfl rfl rfl rfl fun CG hC => ?_
        cbv
        refine ⟨hl2, ?_⟩
        rw [hC]
        refine callG_of [.agg [I s.benches, .sl 3 TL], .sl 1 (A.app (A.app [] LL) [I i])] [] [] rfl rfl rfl rfl rfl (by decide) trivial
          (ih (r - 1) (by omega) left' (l ++ [k]) hsum' hlen' hl' hz' hcnt' _ hLL' _ fun RL hRL => aftG_of hA tokT hD ?_ ?_)
        · cbv
        · have hRl : RL.length ≤ 70000 := by
            have := Nat.le_trans (hfl k) hr7
            rw [hRL, ← hfk, List.length_map]; omega
          have hr3 : A.room (A.addN n (A.len RL)) 24 := by rw [xaddN hA, xlen hA]; exact yroomN hA (by omega) (by decide)
          have hnx : A.app HL RL = up (k + 1) := by rw [xapp hA, hup1, hfk, ← hRL, u3]
          have hnl : (A.app HL RL).length = A.addN n (A.len RL) := by rw [xapp hA, xaddN hA, xlen hA, List.length_append, u4]
          cbv
          refine ⟨yeqLen hA u4, hr3, hf1, ?_⟩
          refine gs_loop (A.add i 1, k + 1, A.app HL RL, A.addN n (A.len RL)) [0, 6] ⟨hu1, hk, hnx, hnl⟩ hms ?_
          rw [← hwx]
          exact ⟨by decide, pre0, ⟨rfl, rfl, trivial⟩, ⟨rfl, rfl, rfl, rfl, rfl, trivial⟩, rfl, rfl⟩
      · have h0 : left.getD k 0 = 0 := by have := ynltL hA hWl hd c4; omega
        have hfm0 : fm k = [] := by rw [hfm]; exact if_pos h0
        have hnx : HL = up (k + 1) := by rw [u3, hup]; dsimp only; rw [List.range_succ, List.flatMap_append]; simp [hfm0]
        have hwx : w = wh (k + 1) := by rw [hw, hwh]; dsimp only; rw [List.range_succ, List.all_append]; simp [← List.getD_eq_getElem?_getD, h0]
        cbv
        refine ⟨hf1, ?_⟩
        refine gs_loop (A.add i 1, k + 1, HL, n) [0, 1] ⟨hu1, hk, hnx, u4⟩ hms ?_
        rw [← hwx]
        exact ⟨by decide, pre0, ⟨rfl, rfl, trivial⟩, ⟨rfl, rfl, rfl, rfl, rfl, trivial⟩, rfl, rfl⟩
  · have hk : k = N := by have := ynltL hA hTl u1 c; omega
    obtain ⟨a0, a1, a2, a3, e4⟩ := list4 hl4
    by_cases hr0 : r = 0
    · have hwt : w = true := by
        rw [hw, hwh]
        refine List.all_eq_true.2 fun i _ => ?_
        have := sum_zero (l := left) (by omega) i
        rw [this]; rfl
      have hR : [D.sl 1 LL] = plansD N r left l := by rw [hr0, plansD, plansF, hLL]; simp
      cbv
      refine gs_done ?_
      cbv
      rw [hwt]
      cbv
      refine gh_frz [2] ?_
      cbv
      exact gh_view [] (by decide) pre0 (H' := []) (d' := .sl 1 [.sl 1 LL]) trivial rfl (gh_done (hq _ hR))
    have hwf : w = false := by
      rw [hw, hwh]
      refine Bool.eq_false_iff.2 fun h => ?_
      have hall : ∀ i, left.getD i 0 = 0 := fun i => by
        by_cases hi : i < N
        · have := List.all_eq_true.1 h i (by rw [hk]; exact List.mem_range.2 hi)
          simpa using this
        · exact hz i (by omega)
      have h0 := hall 0; have h1 := hall 1; have h2 := hall 2; have h3 := hall 3
      rw [e4] at h0 h1 h2 h3
      simp at h0 h1 h2 h3
      rw [e4] at hr
      simp at hr
      omega
    have hR : HL = plansD N r left l := by
      obtain ⟨r', rfl⟩ : ∃ r', r = r' + 1 := ⟨r - 1, by omega⟩
      rw [u3, hup, hk, plansD, plansF, hfm]; rfl
    cbv
    refine gs_done ?_
    cbv
    rw [hwf]
    cbv
    refine gh_frz [1] ?_
    cbv
    exact ⟨by cases HL <;> exact u4.symm, gh_view [] (by decide) pre0 (H' := []) (d' := .sl 1 HL) trivial rfl (gh_done (hq HL hR))⟩
end Go.Proofs.YtmloogdalecilaaDoor

/-! P5 -/
namespace Go.Proofs.YtmloogdalecilaaDoor
open Go Go.Abs Go.Proofs

/-- Ends of orders: the least is no later than the greatest. -/
theorem ends_mono {s : Sh} (hs : ShopOk s) {p : List Nat} (hp : PlanOk s p) {i : Nat} {e : Int × Int} (h : (endsS s p)[i]? = some e) : e.1 ≤ e.2 := by
  have hv := chkS_val hs.chk
  obtain ⟨g, hg⟩ : ∃ g : List (List Int), g = s.tasks.map fun t => t.works.map (·.lo) := ⟨_, rfl⟩
  have hok : HrsOk s 0 s.tasks.length g := by
    refine ⟨by rw [hg]; simp, fun i t _ ht => ⟨t.works.map (·.lo), by rw [hg]; simp [ht], by simp, fun k w _ hw => ⟨w.lo, by simp [hw], ?_⟩⟩⟩
    have hww := hv.wk t (List.mem_of_getElem? ht) w (List.mem_of_getElem? hw)
    exact ⟨fun h => by omega, fun h => by omega, Int.le_refl _, by omega⟩
  obtain ⟨R, hR⟩ : ∃ R, R = runS s (fun _ => 0) p := ⟨_, rfl⟩
  have hRn : R.length = p.length := by rw [hR, runS_length]
  obtain ⟨dn, hdn⟩ : ∃ dn, dn = doneN s p (grH g) p.length := ⟨_, rfl⟩
  have hdl : dn.length = p.length := by rw [hdn, doneN_len]
  have htr : ∀ (n : Nat) (x : Sl) (o : Stt), R[n]? = some x → dn[n]? = some o → TrueAt x o := fun n x o h1 h2 => true_at hv hp.le hok (by rw [← hR]; exact h1) (by rw [← hdn]; exact h2)
  have hlt : i < s.tasks.length := by have := (List.getElem?_eq_some_iff.1 h).1; rwa [endsS_len] at this
  obtain ⟨f, hf⟩ : ∃ f, (finT s.tasks.length dn)[i]? = some f := ⟨_, List.getElem?_eq_getElem (by rw [finT_len]; exact hlt)⟩
  have := true_ends (N := s.tasks.length) htr (by omega) p.length (by omega) i e f
  rw [List.take_of_length_le (by omega), List.take_of_length_le (by omega), hR] at this
  have := this h hf
  omega

/-- lateV is not 2 where the order may be late. -/
theorem late_iff {e : Int × Int} {due : Int} (h : e.1 ≤ e.2) : lateV e due ≠ 2 ↔ due < e.2 := by
  unfold lateV
  split
  · constructor
    · intro _; omega
    · intro _; decide
  · split
    · constructor
      · intro h2; exact absurd rfl h2
      · intro h2; omega
    · constructor
      · intro _; omega
      · intro _; decide

/-- The least number so far; -1 ahead of the first. -/
def leastI (num : List Nat → Int) (l : List (List Nat)) : Int := if (leastS num l).1 = true then (leastS num l).2.2 else -1

theorem revInd {α : Type} {P : List α → Prop} (h0 : P []) (h1 : ∀ l x, P l → P (l ++ [x])) (l : List α) : P l := by
  have key : ∀ l : List α, P l.reverse := by
    intro l
    induction l with
    | nil => exact h0
    | cons x l ih => rw [List.reverse_cons]; exact h1 _ _ ih
  have := key l.reverse
  rwa [List.reverse_reverse] at this

theorem leastS_nn {num : List Nat → Int} (hn : ∀ p, 0 ≤ num p) (l : List (List Nat)) : 0 ≤ (leastS num l).2.2 := by
  refine revInd (P := fun l => 0 ≤ (leastS num l).2.2) (Int.le_refl _) (fun l x ih => ?_) l
  · show 0 ≤ (leastS num (l ++ [x])).2.2
    rw [leastS_snoc]
    split
    · exact hn x
    · exact ih

theorem leastI_yes {num : List Nat → Int} (hn : ∀ p, 0 ≤ num p) {l : List (List Nat)} {x : List Nat} (h : leastI num l < 0 ∨ num x < leastI num l) : leastS num (l ++ [x]) = (true, x, num x) := by
  rw [leastS_snoc]
  refine if_pos ?_
  unfold leastI at h
  have h0 := leastS_nn hn l
  cases e : (leastS num l).1
  · exact .inl rfl
  · rw [if_pos e] at h
    exact .inr (by omega)

theorem leastI_no {num : List Nat → Int} {l : List (List Nat)} {x : List Nat} (h1 : 0 ≤ leastI num l) (h2 : leastI num l ≤ num x) : leastS num (l ++ [x]) = leastS num l := by
  rw [leastS_snoc]
  refine if_neg ?_
  unfold leastI at h1 h2
  cases e : (leastS num l).1
  · rw [if_neg (by rw [e]; decide)] at h1; omega
  · rw [if_pos e] at h2
    rintro (h | h)
    · cases h
    · omega

theorem leastS_ne {num : List Nat → Int} {l : List (List Nat)} (h : l ≠ []) : (leastS num l).1 = true := by
  refine revInd (P := fun l => l ≠ [] → (leastS num l).1 = true) (fun h => absurd rfl h) (fun l x ih _ => ?_) l h
  · rw [leastS_snoc]
    split
    · rfl
    · rename_i h2
      cases e : (leastS num l).1
      · exact absurd (.inl e) h2
      · rfl

theorem plansF_ne (n : Nat) : ∀ (r : Nat) (left : List Nat), left.sum = r → (∀ i, n ≤ i → left.getD i 0 = 0) → plansF n r left ≠ []
  | 0, _, _, _ => by simp [plansF]
  | r + 1, left, hs, hz => by
    obtain ⟨i, hi⟩ : ∃ i, left.getD i 0 ≠ 0 := by
      refine Classical.byContradiction fun h => ?_
      have hall : ∀ i, left.getD i 0 = 0 := fun i => Classical.byContradiction fun h2 => h ⟨i, h2⟩
      have : left.sum = 0 := by
        have key : ∀ l : List Nat, (∀ i, l.getD i 0 = 0) → l.sum = 0 := by
          intro l
          induction l with
          | nil => simp
          | cons x l ih =>
            intro h
            have h0 := h 0
            have h1 := ih fun i => by have := h (i + 1); simpa using this
            simp at h0
            simp [h0, h1]
        exact key left hall
      omega
    have hin : i < n := Classical.byContradiction fun h => hi (hz i (by omega))
    have hss := sum_set hi
    have := plansF_ne n r (left.set i (left.getD i 0 - 1)) (by omega) (fun j hj => by
      have := hz j hj
      rw [List.getD_eq_getElem?_getD] at this ⊢
      rw [List.getElem?_set_ne (by omega)]; exact this)
    obtain ⟨q, hq⟩ := List.exists_mem_of_ne_nil _ this
    refine List.ne_nil_of_mem (a := i :: q) ?_
    simp only [plansF, List.mem_flatMap, List.mem_range]
    exact ⟨i, hin, by rw [if_neg hi]; exact List.mem_map.2 ⟨q, hq, rfl⟩⟩

theorem plansS_ne (s : Sh) : plansS s ≠ [] := plansF_ne _ _ _ (leftS_sum s) (fun _ h => leftS_out h)

theorem lastS_nn : ∀ (l : List Sl), 0 ≤ (lastS l).2 := by
  intro l
  unfold lastS
  have key : ∀ (l : List Sl) (a : Int × Int), 0 ≤ a.2 → 0 ≤ (l.foldl (fun a s => (max a.1 s.el, max a.2 s.eh)) a).2 := by
    intro l
    induction l with
    | nil => intro a h; exact h
    | cons x l ih => intro a h; exact ih _ (by show 0 ≤ max a.2 x.eh; omega)
  exact key l (0, 0) (Int.le_refl _)
end Go.Proofs.YtmloogdalecilaaDoor
