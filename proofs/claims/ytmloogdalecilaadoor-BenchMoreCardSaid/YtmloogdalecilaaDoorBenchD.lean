/- Part BenchD of the proofs about the benches of the accordion maker: see the last text of the claim for what is proved. -/
import Derived.Test.YtmloogdalecilaaDoorBenchC
import Derived.Test.YtmloogdalecilaaDoorMachD
set_option linter.unusedVariables false
set_option linter.unusedSimpArgs false
set_option linter.unnecessarySimpa false
set_option linter.constructorNameAsVariable false

/-! D21 -/
namespace Go.Proofs.YtmloogdalecilaaDoor
open Go Go.Abs Go.Proofs

/-- slices.Clone, of integers: an own row. -/
theorem bCloneO (L : List D) (n : Nat) (hn : L.length = n) (hl : n ≤ 1000000) (Q) (hq : Q (RA.ret (.o 0 1 n)) [.els 1 L]) : CallA Tryd.prog 111 [.sl 1 L] [] Q := by
  obtain ⟨A, hA⟩ : ∃ A, A = ar := ⟨_, rfl⟩
  refine callA_start tokT hA Tryd.func111 rfl rfl rfl rfl rfl fun S hS => ?_
  cbv
  refine ⟨fun b hb => ?_⟩
  cbv
  refine bm (fun c => ?_) (fun c => ?_)
  · have h0 : n = 0 := by have := hb c; subst hA; exact hn.symm.trans this
    subst h0
    have hL : L = [] := List.length_eq_zero_iff.1 hn
    subst hL
    cbv
    exact gh_virt 1 (by decide) (gh_done hq)
  · cbv
    refine ⟨yeqLen hA rfl, ?_, gh_view [1] (by decide) pre0 (H' := [.els 1 L]) (d' := .o 0 1 n) ⟨by subst hA; rfl, trivial⟩ ?_ (gh_done hq)⟩
    · subst hA; subst hn; exact ⟨show (0 + L.length) * 8 ≤ 140737488355328 by omega, show 0 + L.length ≤ 4611686018427387904 by omega⟩
    · subst hA; subst hn; show D.o 1 1 L.length = D.o 1 1 (0 + L.length); rw [Nat.zero_add]

/-- slices.Clone, of integers: frozen. -/
theorem bCloneF (L : List D) (hl : L.length ≤ 1000000) (Q) (hq : Q (RA.ret (.sl 1 L)) []) : CallA Tryd.prog 111 [.sl 1 L] [] Q := by
  refine callA_gh (bCloneO L L.length rfl hl _ ?_)
  refine gh_frz [0] ?_
  simp only [fzG, fzH, nmem, nthB]
  cbv
  exact gh_view [] (by decide) pre0 (H' := []) (d' := .sl 1 L) trivial rfl (gh_done hq)

theorem bFree (L : List D) (i : Int) (Q) (hq : Q (RA.ret (.v (.bool true))) []) : CallA Tryd.prog 82 [.sl 1 L, I i] [] Q := by
  obtain ⟨A, hA⟩ : ∃ A, A = ar := ⟨_, rfl⟩
  refine callA_start tokT hA Tryd.func82 rfl rfl rfl rfl rfl fun S hS => ?_
  cbv
  exact gh_done hq
end Go.Proofs.YtmloogdalecilaaDoor

/-! D22 -/
namespace Go.Proofs.YtmloogdalecilaaDoor
open Go Go.Abs Go.Proofs

/-- All plans, in lexicographic order, of which so many works of each order are left. -/
def plansF (n : Nat) : Nat → List Nat → List (List Nat)
  | 0, _ => [[]]
  | r + 1, left => (List.range n).flatMap fun i => if left.getD i 0 = 0 then [] else (plansF n r (left.set i (left.getD i 0 - 1))).map (i :: ·)

def planL (l : List Nat) : List D := l.map fun i => I (i : Nat)

/-- The blocks of a search for the least: its loop, the number, the best one, its number, whether there was one. -/
def hsB (nf : FuncId) (nc : D) (asg bdy : Code) (bl : List (List Nat) → List D) (nn : List (List Nat) → Int) (mt : List (List Nat) → Bool) (σ : List (List Nat)) : List Blk :=
  [.ob (.lp .ready none [(9, .fn 109 [.cb nc 0, .cb (.fn 82 []) 0]), (3, .b 1 0), (4, .b 2 0), (5, .b 3 0), (6, .b 4 0)] 25 [10] asg bdy), .box (.fn nf [.cb nc 0]), .box (.sl 1 (bl σ)), .box (I (nn σ)), .box (.v (.bool (mt σ)))]

def z4D : D := .agg [I 0, I 0, I 0, I 0]
def growD (sD : D) (mf : FuncId) : D := .fn 110 [.cb z4D 0, .b 5 0, .cb sD 0, .cb (.fn mf []) 0, .b 6 0]

def hsG (b : Int) (TL : List D) (asg bdy : Code) (bl : List (List Nat) → List D) (nn : List (List Nat) → Int) (mt : List (List Nat) → Bool) (σ : List (List Nat)) : List Blk :=
  [.ob (.lp .ready none [(9, .fn 109 [.cb (.agg [I b, .sl 3 TL]) 0, .cb (.fn 82 []) 0]), (3, .b 1 0), (4, .b 2 0), (5, .b 3 0), (6, .b 4 0)] 25 [10] asg bdy), .box (.fn 83 [.cb (.agg [I b, .sl 3 TL]) 0]), .box (.sl 1 (bl σ)), .box (I (nn σ)), .box (.v (.bool (mt σ))), .box (.yv 0), .box (growD (.agg [I b, .sl 3 TL]) 82)]

structure RoundsOk (nf : FuncId) (nc : D) (asg bdy : Code) (bl : List (List Nat) → List D) (nn : List (List Nat) → Int) (mt : List (List Nat) → Bool) (ps : List (List Nat)) : Prop where
  out : ∀ σ p rest σ', ps = σ ++ p :: rest → σ' = σ ++ [p] → ∀ LL, LL = planL p → ∀ Q, Q (RA.ret (.v (.bool true))) (hsB nf nc asg bdy bl nn mt σ') → RoundA Tryd.prog 0 [.sl 1 LL] (hsB nf nc asg bdy bl nn mt σ) Q

theorem sum_zero : ∀ {l : List Nat}, l.sum = 0 → ∀ i, l.getD i 0 = 0
  | [], _, i => by simp
  | x :: l, h, 0 => by simp at h ⊢; exact h.1
  | x :: l, h, i + 1 => by
    simp only [List.sum_cons] at h
    have := sum_zero (l := l) (by omega) i
    simpa using this

theorem sum_set : ∀ {l : List Nat} {i : Nat}, l.getD i 0 ≠ 0 → (l.set i (l.getD i 0 - 1)).sum + 1 = l.sum
  | [], i, h => by simp at h
  | x :: l, 0, h => by simp at h ⊢; omega
  | x :: l, i + 1, h => by
    have := sum_set (l := l) (i := i) (by simpa using h)
    simp at this ⊢; omega

theorem getD_le_sum : ∀ (l : List Nat) (i : Nat), l.getD i 0 ≤ l.sum
  | [], i => by simp
  | x :: l, 0 => by simp
  | x :: l, i + 1 => by
    have := getD_le_sum l i
    simp at this ⊢; omega

theorem list4 {l : List Nat} (h : l.length = 4) : ∃ a b c d, l = [a, b, c, d] := by
  match l, h with
  | [a, b, c, d], _ => exact ⟨a, b, c, d, rfl⟩

set_option maxRecDepth 20000 in
set_option maxHeartbeats 4000000 in
/-- plans$1$1: all plans that go on from one. -/
theorem bGrow (b : Int) (TL : List D) (N : Nat) (hN : TL.length = N) (hN4 : N ≤ 4) (asg bdy : Code) (bl nn mt) (ps : List (List Nat)) (hR : RoundsOk 83 (.agg [I b, .sl 3 TL]) asg bdy bl nn mt ps) :
    ∀ (r : Nat) (left l : List Nat) (σ rest : List (List Nat)), left.sum = r → left.length = 4 → l.length + r ≤ 100 → (∀ i, N ≤ i → left.getD i 0 = 0) → ps = σ ++ ((plansF N r left).map (l ++ ·) ++ rest) →
    ∀ (LL : List D) (x0 x1 x2 x3 : Int), LL = planL l → left.map (fun n : Nat => (n : Int)) = [x0, x1, x2, x3] → ∀ Q,
    (∀ σ', σ' = σ ++ (plansF N r left).map (l ++ ·) → Q (RA.ret (.v (.bool true))) (hsG b TL asg bdy bl nn mt σ')) →
    CallA Tryd.prog 110 [.sl 1 LL, .agg [I x0, I x1, I x2, I x3], .cb z4D 0, .b 5 0, .cb (.agg [I b, .sl 3 TL]) 0, .cb (.fn 82 []) 0, .b 6 0] (hsG b TL asg bdy bl nn mt σ) Q := by
  obtain ⟨A, hA⟩ : ∃ A, A = ar := ⟨_, rfl⟩
  intro r
  induction r with
  | zero =>
    intro left l σ rest hsum hlen hl hz hps LL x0 x1 x2 x3 hLL hx Q hq
    obtain ⟨a0, a1, a2, a3, rfl⟩ := list4 hlen
    simp only [List.map_cons, List.map_nil, List.cons.injEq, and_true] at hx
    obtain ⟨rfl, rfl, rfl, rfl⟩ := hx
    have e0 : a0 = 0 := sum_zero hsum 0
    have e1 : a1 = 0 := sum_zero hsum 1
    have e2 : a2 = 0 := sum_zero hsum 2
    have e3 : a3 = 0 := sum_zero hsum 3
    subst e0 e1 e2 e3
    have hLl : LL.length ≤ 1000000 := by rw [hLL]; simp [planL]; omega
    have hps' : ps = σ ++ l :: rest := by rw [hps]; simp [plansF]
    obtain ⟨σ', hσ'⟩ : ∃ σ', σ' = σ ++ [l] := ⟨_, rfl⟩
    have hq' := hq σ' (by rw [hσ']; simp [plansF])
    have hleq : A.leq [0, 0, 0, 0] [0, 0, 0, 0] = true := by subst hA; rfl
    refine callA_start tokT hA Tryd.func110 rfl rfl rfl rfl rfl fun S hS => ?_
    cbv
    refine ⟨[0, 0, 0, 0], [0, 0, 0, 0], rfl, rfl, rfl, rfl, ?_⟩
    cbv
    refine bm (fun _ => ?_) (fun c => Bool.noConfusion (hleq.symm.trans c))
    cbv
    refine draw_go tokT hA hS [0, 1, 2, 3, 4] rfl rfl fun Dk hD => ?_
    cbv
    refine draw_call hA hD [.sl 1 LL] [] [] rfl rfl rfl rfl rfl rfl rfl rfl rfl rfl rfl (by decide) trivial (bCloneF LL hLl _ ⟨by cbv, draw_on tokT hA hD ?_⟩)
    cbv
    refine draw_yield hA hD 0 [.sl 1 LL] [0, 1, 2, 3, 4] (hsB 83 (.agg [I b, .sl 3 TL]) asg bdy bl nn mt σ) rfl rfl rfl rfl rfl rfl rfl rfl rfl rfl rfl rfl (by decide) ⟨rfl, rfl, rfl, rfl, rfl, trivial⟩ (hR.out σ l rest σ' hps' hσ' LL hLL _ ⟨by cbv, draw_on tokT hA hD ?_⟩)
    cbv
    exact gh_view [0, 1, 2, 3, 4, 5, 6] (by decide) pre7 (H' := hsG b TL asg bdy bl nn mt σ') (d' := .v (.bool true)) ⟨rfl, rfl, rfl, rfl, rfl, rfl, rfl, trivial⟩ rfl (gh_done hq')
  | succ r ih =>
    intro left l σ rest hsum hlen hl hz hps LL x0 x1 x2 x3 hLL hx Q hq
    have hXl : [x0, x1, x2, x3].length = 4 := rfl
    have hxg : ∀ k, k < 4 → ∃ x : Int, IsI x (left.getD k 0) ∧ ([I x0, I x1, I x2, I x3] : List D)[0 + k]? = some (I x) := fun k hk => by
      refine ⟨_, ⟨rfl⟩, ?_⟩
      have e : ([I x0, I x1, I x2, I x3] : List D) = ([x0, x1, x2, x3] : List Int).map I := rfl
      rw [e, ← hx, Nat.zero_add]
      simp [List.getD_eq_getElem?_getD, List.getElem?_eq_getElem (show k < left.length by omega)]
    have hne : A.leq [x0, x1, x2, x3] [0, 0, 0, 0] = false := by
      have : [x0, x1, x2, x3] ≠ [0, 0, 0, 0] := fun e => by
        rw [e] at hx
        obtain ⟨a0, a1, a2, a3, rfl⟩ := list4 hlen
        simp at hx hsum; omega
      subst hA; exact decide_eq_false this
    have hLn : LL.length = l.length := by rw [hLL]; simp [planL]
    obtain ⟨n, hn⟩ : ∃ n, n = l.length := ⟨_, rfl⟩
    rw [← hn] at hLn
    have hnM : n ≤ 1000000 := by omega
    have hn100 : n + 1 ≤ 1000000 := by omega
    obtain ⟨fm, hfm⟩ : ∃ fm : Nat → List (List Nat), fm = fun i => if left.getD i 0 = 0 then [] else (plansF N r (left.set i (left.getD i 0 - 1))).map (i :: ·) := ⟨_, rfl⟩
    have hpl : plansF N (r + 1) left = (List.range N).flatMap fm := by rw [plansF, hfm]
    obtain ⟨sg, hsg⟩ : ∃ sg : Nat → List (List Nat), sg = fun k => σ ++ (((List.range k).flatMap fm).map (l ++ ·)) := ⟨_, rfl⟩
    have hsg0 : sg 0 = σ := by rw [hsg]; simp
    have hsgs : ∀ k, sg (k + 1) = sg k ++ (fm k).map (l ++ ·) := fun k => by rw [hsg]; simp [List.range_succ]
    have hsgN : sg N = σ ++ (plansF N (r + 1) left).map (l ++ ·) := by rw [hsg, hpl]
    refine callA_start tokT hA Tryd.func110 rfl rfl rfl rfl rfl fun S hS => ?_
    cbv
    refine ⟨[x0, x1, x2, x3], [0, 0, 0, 0], rfl, rfl, rfl, rfl, ?_⟩
    cbv
    refine bm (fun c => Bool.noConfusion (hne.symm.trans c)) (fun _ => ?_)
    cbv
    refine at_code hS ?_
    refine wpa_loopG (α := Int × Nat × List (List Nat)) (fun q => { env := [(0, .sl 1 LL), (3, .b 5 0), (4, .cb (.agg [I b, .sl 3 TL]) 0), (5, .cb (.fn 82 []) 0), (6, .b 6 0), (8, .b 7 0), (20, .sl 3 TL), (21, I (A.oi (A.len TL))), (22, I q.1)], H := hsG b TL asg bdy bl nn mt q.2.2 ++ [.box (.agg [I x0, I x1, I x2, I x3])], nt := 52, dfs := [] })
      (fun q => N - q.2.1) (fun q => IsI q.1 q.2.1 ∧ q.2.1 ≤ N ∧ q.2.2 = sg q.2.1) (0, 0, σ) ⟨⟨rfl⟩, Nat.zero_le _, hsg0.symm⟩ ?_ ?_
    · exact gs_to [0, 1, 2, 3, 4, 5, 6, 7] ⟨by decide, pre7, ⟨rfl, rfl, rfl, rfl, rfl, rfl, rfl, rfl, trivial⟩, ⟨rfl, rfl, rfl, rfl, rfl, rfl, rfl, rfl, rfl, trivial⟩, rfl, rfl⟩
    rintro ⟨i, k, σc⟩ ⟨u1, u2, u3⟩
    dsimp only at u1 u2 u3
    refine wp_go tokT hA hS ?_
    cbv
    refine bm (fun c => ?_) (fun c => ?_)
    · have hk := yltL hA hN u1 c
      have hk4 : k < 4 := by omega
      have hin : A.inb i 4 := yinb hA u1 hk4
      have hf1 : A.fits .i64 (A.add i 1) := yfit1 hA u1 (by omega)
      have hu1 := ysucc hA u1
      have hms : N - (k + 1) < N - k := by omega
      obtain ⟨x, hxI, hxG⟩ := hxg k hk4
      have hfs : A.fits .i64 (A.sub x 1) := xfitE hA (xsub hA x 1) (by
        have h1 := hxI.eq
        have h2 := getD_le_sum left k
        omega)
      have hlt4 : A.ltN (A.addN 0 (A.mulN (A.tn i) 1)) [I x0, I x1, I x2, I x3] := yltO hA 0 u1 (m := 4) rfl (by omega)
      have hbn : A.bnot true = false := by subst hA; rfl
      have hgx := ygetO hA 0 u1 hxG
      by_cases h0 : left.getD k 0 = 0
      · have hx0 : A.cmp .eql x 0 = true := by rw [xeqb hA]; exact decide_eq_true (by have := hxI.eq; omega)
        have hs2 : σc = sg (k + 1) := by rw [hsgs, u3, hfm]; simp only [h0, if_true, List.map_nil, List.append_nil]
        cbv
        refine ⟨hin, ⟨_, hgx, ?_⟩⟩
        cbv
        refine bm (fun _ => ?_) (fun c => Bool.noConfusion (hx0.symm.trans c))
        cbv
        refine ops_callG hS (f := 82) (b := true) rfl rfl rfl rfl rfl rfl rfl rfl (fun h => Bool.noConfusion h) (fun _ => ?_)
        refine ops_go tokT hA hS ?_
        cbv
        refine ⟨hf1, ?_⟩
        refine gs_loop (A.add i 1, k + 1, σc) [0, 1, 2, 3, 4, 5, 6, 7] ⟨hu1, hk, hs2⟩ hms ?_
        exact ⟨by decide, pre7, ⟨rfl, rfl, rfl, rfl, rfl, rfl, rfl, rfl, trivial⟩, ⟨rfl, rfl, rfl, rfl, rfl, rfl, rfl, rfl, rfl, trivial⟩, rfl, rfl⟩
      · obtain ⟨left', hle⟩ : ∃ left', left' = left.set k (left.getD k 0 - 1) := ⟨_, rfl⟩
        have hlen' : left'.length = 4 := by rw [hle]; simp [hlen]
        obtain ⟨y0, y1, y2, y3, hy⟩ : ∃ y0 y1 y2 y3 : Int, left'.map (fun n : Nat => (n : Int)) = [y0, y1, y2, y3] := by
          obtain ⟨a0, a1, a2, a3, e⟩ := list4 hlen'
          exact ⟨a0, a1, a2, a3, by rw [e]; rfl⟩
        have hset : A.set [I x0, I x1, I x2, I x3] (A.addN 0 (A.mulN (A.tn i) 1)) (I (A.sub x 1)) = [I y0, I y1, I y2, I y3] := by
          refine ysetO hA 0 u1 ?_
          have e1 : ([I x0, I x1, I x2, I x3] : List D) = ([x0, x1, x2, x3] : List Int).map I := rfl
          have e2 : ([I y0, I y1, I y2, I y3] : List D) = ([y0, y1, y2, y3] : List Int).map I := rfl
          rw [e1, e2, ← hx, ← hy, hle, Nat.zero_add, xsub hA, hxI.eq]
          simp only [List.map_set]
          congr 1
          rw [Int.natCast_sub (by omega)]; rfl
        have hLL' : A.app LL [I i] = planL (l ++ [k]) := by rw [xapp hA, hLL, u1.eq]; simp [planL]
        have hapl : A.addN n 1 = A.len (A.app LL [I i]) := by subst hA; show n + 1 = (LL ++ [I i]).length; simp [hLn]
        have hsum' : left'.sum = r := by have := sum_set (i := k) h0; rw [hle]; omega
        have hl' : (l ++ [k]).length + r ≤ 100 := by simp; omega
        have hz' : ∀ i, N ≤ i → left'.getD i 0 = 0 := fun i hi => by
          rw [hle, getD_set _ _ _ _ _ (by omega), if_neg (by omega)]; exact hz i hi
        have hfk : (fm k).map (l ++ ·) = (plansF N r left').map ((l ++ [k]) ++ ·) := by
          rw [hfm]; simp only [if_neg h0, ← hle, List.map_map]
          exact List.map_congr_left fun p _ => by simp
        obtain ⟨rest', hps'⟩ : ∃ rest', ps = σc ++ ((plansF N r left').map ((l ++ [k]) ++ ·) ++ rest') := by
          refine ⟨(((List.range (N - (k + 1))).map (k + 1 + ·)).flatMap fm).map (l ++ ·) ++ rest, ?_⟩
          have e1 : List.range N = List.range k ++ ([k] ++ (List.range (N - (k + 1))).map (k + 1 + ·)) := by
            conv => lhs; rw [show N = (k + 1) + (N - (k + 1)) by omega]
            rw [List.range_add, List.range_succ, List.append_assoc]
          rw [hps, hpl, e1, u3, hsg, ← hfk]
          simp [List.flatMap_append]
        have hx0 : A.cmp .eql x 0 = false := by rw [xeqb hA]; exact decide_eq_false (by have := hxI.eq; omega)
        cbv
        refine ⟨hin, ⟨_, hgx, ?_⟩⟩
        cbv
        refine bm (fun c => Bool.noConfusion (hx0.symm.trans c)) (fun _ => ?_)
        cbv
        refine ops_callG hS (b := false) rfl rfl rfl rfl rfl rfl rfl rfl (fun _ => ⟨[], _, [.sl 1 LL, I i], [], [], rfl, rfl, rfl, by decide, trivial, bFree _ _ _ ?_⟩) (fun h => absurd rfl h)
        refine ops_go tokT hA hS ?_
        cbv
        refine bm (fun c => Bool.noConfusion (hbn.symm.trans c)) (fun _ => ?_)
        cbv
        refine ⟨hin, ⟨_, hgx, ?_⟩⟩
        cbv
        refine ⟨hfs, hin, hlt4, ?_⟩
        refine code_gs hS (gs_weakB 8 (.agg [I y0, I y1, I y2, I y3]) rfl (show WkL (A.set [I x0, I x1, I x2, I x3] (A.addN 0 (A.mulN (A.tn i) 1)) (I (A.sub x 1))) [I y0, I y1, I y2, I y3] from hset ▸ WkL.rfl) (gs_done ?_))
        refine draw_go tokT hA hS [0, 1, 3, 4, 6, 2, 5, 7, 8] rfl rfl fun Dk hD => ?_
        cbv
        refine draw_call hA hD [.sl 1 LL] [] [] rfl rfl rfl rfl rfl rfl rfl rfl rfl rfl rfl (by decide) trivial (bCloneO LL n hLn hnM _ ⟨by cbv, draw_on tokT hA hD ?_⟩)
        cbv
        refine ⟨yeqLen hA hLn, yeqLen hA rfl, yroom1 hA hnM (by decide), ?_⟩
        refine draw_callF hA hD [11] rfl rfl rfl rfl rfl rfl fun CG hC => ?_
        cbv
        refine ⟨xeqN hA hapl, ?_⟩
        rw [hC]
        refine callG_of [.sl 1 (A.app LL [I i]), .agg [I y0, I y1, I y2, I y3], .cb z4D 0, .b 5 0, .cb (.agg [I b, .sl 3 TL]) 0, .cb (.fn 82 []) 0, .b 6 0] [0, 1, 2, 3, 4, 5, 6] (hsG b TL asg bdy bl nn mt σc) rfl rfl rfl rfl rfl (by decide) ⟨rfl, rfl, rfl, rfl, rfl, rfl, rfl, trivial⟩
          (ih left' (l ++ [k]) σc rest' hsum' hlen' hl' hz' hps' _ y0 y1 y2 y3 hLL' hy _ fun σ'' hσ'' => aftG_of hA tokT hD ?_ ?_)
        · cbv
        · have hs2 : σ'' = sg (k + 1) := by rw [hσ'', hsgs, hfk, u3]
          cbv
          refine bm (fun c => Bool.noConfusion (hbn.symm.trans c)) (fun _ => ?_)
          cbv
          refine ⟨hf1, ?_⟩
          refine gs_loop (A.add i 1, k + 1, σ'') [0, 1, 2, 3, 4, 5, 6, 7] ⟨hu1, hk, hs2⟩ hms ?_
          exact ⟨by decide, pre7, ⟨rfl, rfl, rfl, rfl, rfl, rfl, rfl, rfl, trivial⟩, ⟨rfl, rfl, rfl, rfl, rfl, rfl, rfl, rfl, rfl, trivial⟩, rfl, rfl⟩
    · have hk := ynltL hA hN u1 c
      have hkN : k = N := by omega
      have hq' := hq σc (by rw [u3, hkN, hsgN])
      cbv
      refine gs_done ?_
      cbv
      exact gh_view [0, 1, 2, 3, 4, 5, 6] (by decide) pre7 (H' := hsG b TL asg bdy bl nn mt σc) (d' := .v (.bool true)) ⟨rfl, rfl, rfl, rfl, rfl, rfl, rfl, trivial⟩ rfl (gh_done hq')
end Go.Proofs.YtmloogdalecilaaDoor

/-! D23 -/
namespace Go.Proofs.YtmloogdalecilaaDoor
open Go Go.Abs Go.Proofs

/-- How many works each order has. -/
def leftS (s : Sh) : List Nat := s.tasks.map (·.works.length) ++ List.replicate (4 - s.tasks.length) 0
/-- All plans of a shop, in lexicographic order. -/
def plansS (s : Sh) : List (List Nat) := plansF s.tasks.length (nWorks s.tasks) (leftS s)

theorem leftS_len {s : Sh} (h : s.tasks.length ≤ 4) : (leftS s).length = 4 := by simp [leftS]; omega
theorem leftS_sum (s : Sh) : (leftS s).sum = nWorks s.tasks := by simp [leftS, nWorks]
theorem leftS_out {s : Sh} {i : Nat} (h : s.tasks.length ≤ i) : (leftS s).getD i 0 = 0 := by
  simp only [leftS, List.getD_eq_getElem?_getD]
  rw [List.getElem?_append_right (by simpa using h), List.getElem?_replicate]
  split <;> rfl
theorem leftS_at {s : Sh} {i : Nat} {t : Tk} (h : s.tasks[i]? = some t) : (leftS s).getD i 0 = t.works.length := by
  have hi := (List.getElem?_eq_some_iff.1 h).1
  simp only [leftS, List.getD_eq_getElem?_getD]
  rw [List.getElem?_append_left (by simpa using hi), List.getElem?_map, h]; rfl

/-- What is left, of the first k orders. -/
def leftK (s : Sh) (k : Nat) : List Nat := (List.range 4).map fun i => if i < k then (leftS s).getD i 0 else 0

theorem leftK_all {s : Sh} (h : s.tasks.length ≤ 4) {k : Nat} (hk : s.tasks.length ≤ k) : leftK s k = leftS s := by
  refine List.ext_getElem? fun i => ?_
  by_cases hi : i < 4
  · rw [leftK, List.getElem?_map, List.getElem?_range hi, Option.map_some]
    have := leftS_len h
    have e : (leftS s)[i]? = some ((leftS s).getD i 0) := by rw [List.getD_eq_getElem?_getD, List.getElem?_eq_getElem (by omega)]; rfl
    rw [e]
    split
    · rfl
    · rw [leftS_out (by omega)]
  · rw [List.getElem?_eq_none (by simp [leftK]; omega), List.getElem?_eq_none (by rw [leftS_len h]; omega)]

theorem leftK_succ (s : Sh) {k : Nat} (hk : k < 4) : leftK s (k + 1) = (leftK s k).set k ((leftS s).getD k 0) := by
  refine List.ext_getElem? fun i => ?_
  rw [List.getElem?_set]
  by_cases hi : i < 4
  · simp only [leftK, List.getElem?_map, List.getElem?_range hi, Option.map_some, List.length_map, List.length_range]
    by_cases e : k = i
    · subst e; simp [hk]
    · rw [if_neg e]
      congr 1
      by_cases h2 : i < k
      · rw [if_pos (by omega), if_pos h2]
      · rw [if_neg (by omega), if_neg h2]
  · rw [List.getElem?_eq_none (by simp [leftK]; omega), if_neg (by omega), List.getElem?_eq_none (by simp [leftK]; omega)]

def natL (l : List Nat) : List D := l.map fun n => I (n : Nat)
theorem natL_fr (l : List Nat) : frL (natL l) = true := frL_mem.2 fun d hd => by
  obtain ⟨x, -, rfl⟩ := List.mem_map.1 hd; rfl

set_option maxRecDepth 20000 in
set_option maxHeartbeats 4000000 in
/-- plans$1: all plans of a shop are handed out. -/
theorem bPlansIt (s : Sh) (hv : Val s) (TL : List D) (hT : TL = s.tasks.map taskD) (asg bdy : Code) (bl nn mt) (hR : RoundsOk 83 (.agg [I s.benches, .sl 3 TL]) asg bdy bl nn mt (plansS s)) (Q)
    (hq : ∀ d, Q (RA.ret d) (hsB 83 (.agg [I s.benches, .sl 3 TL]) asg bdy bl nn mt (plansS s))) :
    CallA Tryd.prog 109 [.yv 0, .cb (.agg [I s.benches, .sl 3 TL]) 0, .cb (.fn 82 []) 0] (hsB 83 (.agg [I s.benches, .sl 3 TL]) asg bdy bl nn mt []) Q := by
  obtain ⟨A, hA⟩ : ∃ A, A = ar := ⟨_, rfl⟩
  have hlen := hv.len
  have hsum := hv.sum
  obtain ⟨N, hN⟩ : ∃ N, N = s.tasks.length := ⟨_, rfl⟩
  have hTl : TL.length = N := by rw [hT, hN]; simp
  have hN4 : N ≤ 4 := by omega
  obtain ⟨b, hb⟩ : ∃ b, b = s.benches := ⟨_, rfl⟩
  obtain ⟨σ0, hσ0⟩ : ∃ σ0 : List (List Nat), σ0 = [] := ⟨_, rfl⟩
  obtain ⟨ps, hps⟩ : ∃ ps, ps = plansS s := ⟨_, rfl⟩
  rw [← hps] at hR hq
  rw [← hb] at hR hq ⊢
  rw [← hσ0]
  refine callA_start tokT hA Tryd.func109 rfl rfl rfl rfl rfl fun S hS => ?_
  cbv
  refine at_code hS ?_
  refine wpa_loopG (α := Int × Nat × List D) (fun q => { env := [(1, .cb (.agg [I b, .sl 3 TL]) 0), (2, .cb (.fn 82 []) 0), (3, .b 5 0), (4, .b 6 0), (5, .b 7 0), (10, .sl 3 TL), (11, I (A.oi (A.len TL))), (12, I q.1)], H := hsB 83 (.agg [I b, .sl 3 TL]) asg bdy bl nn mt σ0 ++ [.box (.yv 0), .box z4D, .box (.arr q.2.2)], nt := 27, dfs := [] })
    (fun q => N - q.2.1) (fun q => IsI q.1 q.2.1 ∧ q.2.1 ≤ N ∧ q.2.2 = natL (leftK s q.2.1)) (0, 0, [I 0, I 0, I 0, I 0]) ⟨⟨rfl⟩, Nat.zero_le _, rfl⟩ ?_ ?_
  · refine gs_weakB 7 (.arr [I 0, I 0, I 0, I 0]) rfl WkL.rfl ?_
    exact gs_to [0, 1, 2, 3, 4, 5, 6, 7] ⟨by decide, pre5, ⟨rfl, rfl, rfl, rfl, rfl, rfl, rfl, rfl, trivial⟩, ⟨rfl, rfl, rfl, rfl, rfl, rfl, rfl, rfl, trivial⟩, rfl, rfl⟩
  rintro ⟨i, k, L⟩ ⟨u1, u2, u3⟩
  dsimp only at u1 u2 u3
  have hLl : L.length = 4 := by rw [u3]; simp [natL, leftK]
  have hNs : N ≤ k → natL (leftK s k) = natL (leftS s) := fun h => by rw [leftK_all hlen (by omega)]
  refine wp_go tokT hA hS ?_
  cbv
  refine bm (fun c => ?_) (fun c => ?_)
  · have hk := yltL hA hTl u1 c
    have hk4 : k < 4 := by omega
    obtain ⟨t, ht⟩ : ∃ t, t = s.tasks[k] := ⟨_, rfl⟩
    have htk : s.tasks[k]? = some t := by rw [ht]; exact List.getElem?_eq_getElem (by omega)
    obtain ⟨WL, hWL⟩ : ∃ WL, WL = t.works.map workD := ⟨_, rfl⟩
    have hWl : WL.length = t.works.length := by rw [hWL]; simp
    have hTk : TL[k]? = some (.agg [I t.ready, I t.due, .sl 3 WL]) := by rw [hT]; simp [htk, hWL, taskD]
    have hL2 : L.set (0 + k) (I (A.oi (A.len WL))) = natL (leftK s (k + 1)) := by
      rw [leftK_succ s hk4, leftS_at htk, u3, Nat.zero_add, yoiL hA hWl]; simp [natL]
    have hset := ysetO hA 0 u1 hL2.symm
    have hin := yinb hA u1 hk4
    have hlt := yltO hA (l := L) 0 u1 hLl (by omega)
    have hf1 := yfit1 hA u1 (by omega)
    have hu1 := ysucc hA u1
    have hms : N - (k + 1) < N - k := by omega
    cbv
    refine ⟨yinbL hA hTl u1 hk, ⟨_, yget hA u1 hTk, ?_⟩⟩
    cbv
    refine ⟨hin, hlt, hf1, ?_⟩
    refine gs_loop (A.add i 1, k + 1, A.set L (A.addN 0 (A.mulN (A.tn i) 1)) (I (A.oi (A.len WL)))) [0, 1, 2, 3, 4, 5, 6, 7] ⟨hu1, hk, hset⟩ hms ?_
    exact ⟨by decide, pre5, ⟨rfl, rfl, rfl, rfl, rfl, rfl, rfl, arr_ren _ (show frL (A.set L (A.addN 0 (A.mulN (A.tn i) 1)) (I (A.oi (A.len WL)))) = true from hset ▸ natL_fr _), trivial⟩, ⟨rfl, rfl, rfl, rfl, rfl, rfl, rfl, rfl, trivial⟩, rfl, rfl⟩
  · have hk := ynltL hA hTl u1 c
    obtain ⟨x0, x1, x2, x3, hx⟩ : ∃ x0 x1 x2 x3 : Int, (leftS s).map (fun n : Nat => (n : Int)) = [x0, x1, x2, x3] := by
      obtain ⟨a0, a1, a2, a3, e⟩ := list4 (leftS_len hlen)
      exact ⟨a0, a1, a2, a3, by rw [e]; rfl⟩
    have hLx : L = [I x0, I x1, I x2, I x3] := by
      rw [u3, hNs hk]
      have e1 : ([I x0, I x1, I x2, I x3] : List D) = ([x0, x1, x2, x3] : List Int).map I := rfl
      rw [e1, ← hx, natL, List.map_map]; rfl
    subst hLx
    have hli : A.lenIs [I x0, I x1, I x2, I x3] 4 := xlenIs hA rfl
    cbv
    refine gs_done ?_
    cbv
    refine ⟨hli, ?_⟩
    refine ops_gs hS (gs_frz hA [6] ?_)
    cbv
    refine gs_done ?_
    refine ops_call hS [.v (.slice none 0 0), .arr [I x0, I x1, I x2, I x3], .cb z4D 0, .b 5 0, .cb (.agg [I b, .sl 3 TL]) 0, .cb (.fn 82 []) 0, .b 6 0] [0, 1, 2, 3, 4, 5, 8] (hsG b TL asg bdy bl nn mt σ0) rfl rfl rfl rfl rfl rfl rfl rfl (by decide) ⟨rfl, rfl, rfl, rfl, rfl, rfl, rfl, trivial⟩
      (callA_weak (as' := [.sl 1 [], .agg [I x0, I x1, I x2, I x3], .cb z4D 0, .b 5 0, .cb (.agg [I b, .sl 3 TL]) 0, .cb (.fn 82 []) 0, .b 6 0]) ⟨WkD.nil, WkD.arrAgg rfl, .rfl, .rfl, .rfl, .rfl, .rfl, trivial⟩
        (bGrow b TL N hTl hN4 asg bdy bl nn mt ps hR (nWorks s.tasks) (leftS s) [] σ0 [] (leftS_sum s) (leftS_len hlen) (by simp; omega) (fun i hi => leftS_out (by omega)) (by rw [hps, hσ0, plansS, hN]; simp) [] x0 x1 x2 x3 rfl hx _ fun σ' hσ' => ?_))
    have hσp : σ' = ps := by rw [hσ', hps, hσ0, plansS, hN]; simp
    rw [hσp]
    refine ops_go tokT hA hS ?_
    cbv
    exact gh_view [0, 1, 2, 3, 4] (by decide) pre5 (H' := hsB 83 (.agg [I b, .sl 3 TL]) asg bdy bl nn mt ps) (d' := .tup []) ⟨rfl, rfl, rfl, rfl, rfl, trivial⟩ rfl (gh_done (hq _))
end Go.Proofs.YtmloogdalecilaaDoor

/-! D24 -/
namespace Go.Proofs.YtmloogdalecilaaDoor
open Go Go.Abs Go.Proofs

/-- When a plan ends in the worst case. -/
def worst (s : Sh) (p : List Nat) : Int := (lastS (runS s (fun _ => 0) p)).2

/-- Best$1. -/
theorem bBest1 (s : Sh) (hv : Val s) (p : List Nat) (hp : PlanLe s p) (hpl : p.length ≤ 20) (TL PL : List D) (hT : TL = s.tasks.map taskD) (hP : PL = planL p) (n : Int) (hn : n = worst s p) (Q) (hq : Q (RA.ret (I n)) []) :
    CallA Tryd.prog 83 [.sl 1 PL, .cb (.agg [I s.benches, .sl 3 TL]) 0] [] Q := by
  obtain ⟨A, hA⟩ : ∃ A, A = ar := ⟨_, rfl⟩
  obtain ⟨RL, hRL⟩ : ∃ RL, RL = (runS s (fun _ => 0) p).map slotD := ⟨_, rfl⟩
  refine callA_start tokT hA Tryd.func83 rfl rfl rfl rfl rfl fun S hS => ?_
  cbv
  refine ops_call hS [.agg [I s.benches, .sl 3 TL, .sl 1 PL], .v (.map none)] [] [] rfl rfl rfl rfl rfl rfl rfl rfl (by decide) trivial (bRun s hv p hp hpl TL PL hT hP _ ?_)
  rw [← hRL]
  refine ops_go tokT hA hS ?_
  cbv
  refine ops_call hS [.sl 7 RL] [] [] rfl rfl rfl rfl rfl rfl rfl rfl (by decide) trivial (bLast' _ RL hRL (by rw [runS_length]; omega) _ fun lo e hlh => ?_)
  have he : e = n := by rw [hn, worst, hlh]
  rw [he]
  refine ops_go tokT hA hS ?_
  cbv
  exact gh_done hq

/-- plans. -/
theorem bPlans (b : Int) (TL : List D) (Q) (hq : Q (RA.ret (.fn 109 [.cb (.agg [I b, .sl 3 TL]) 0, .cb (.fn 82 []) 0])) []) : CallA Tryd.prog 81 [.agg [I b, .sl 3 TL], .fn 82 []] [] Q := by
  obtain ⟨A, hA⟩ : ∃ A, A = ar := ⟨_, rfl⟩
  refine callA_start tokT hA Tryd.func81 rfl rfl rfl rfl rfl fun S hS => ?_
  cbv
  refine gh_frz [0, 1] ?_
  cbv
  exact gh_view [] (by decide) pre0 (H' := []) (d' := .fn 109 [.cb (.agg [I b, .sl 3 TL]) 0, .cb (.fn 82 []) 0]) trivial rfl (gh_done hq)

/-- The first one for which a number is least, and the number. -/
def leastS (num : List Nat → Int) : List (List Nat) → Bool × List Nat × Int := List.foldl (fun a x => if a.1 = false ∨ num x < a.2.2 then (true, x, num x) else a) (false, [], 0)

theorem leastS_snoc (num : List Nat → Int) (l : List (List Nat)) (x : List Nat) : leastS num (l ++ [x]) = if (leastS num l).1 = false ∨ num x < (leastS num l).2.2 then (true, x, num x) else leastS num l := by
  unfold leastS; rw [List.foldl_append]; rfl

set_option maxRecDepth 20000 in
set_option maxHeartbeats 4000000 in
/-- least, for Best. -/
theorem bLeast (s : Sh) (hv : Val s) (TL : List D) (hT : TL = s.tasks.map taskD) (hps : ∀ p ∈ plansS s, PlanLe s p ∧ p.length ≤ 20) (Q)
    (hq : ∀ PL n, PL = planL (leastS (worst s) (plansS s)).2.1 → n = (leastS (worst s) (plansS s)).2.2 → Q (RA.ret (.tup [.sl 1 PL, I n])) []) :
    CallA Tryd.prog 80 [.fn 109 [.cb (.agg [I s.benches, .sl 3 TL]) 0, .cb (.fn 82 []) 0], .fn 83 [.cb (.agg [I s.benches, .sl 3 TL]) 0]] [] Q := by
  obtain ⟨A, hA⟩ : ∃ A, A = ar := ⟨_, rfl⟩
  obtain ⟨bl, hbl⟩ : ∃ bl : List (List Nat) → List D, bl = fun σ => planL (leastS (worst s) σ).2.1 := ⟨_, rfl⟩
  obtain ⟨nn, hnn⟩ : ∃ nn : List (List Nat) → Int, nn = fun σ => (leastS (worst s) σ).2.2 := ⟨_, rfl⟩
  obtain ⟨mt, hmt⟩ : ∃ mt : List (List Nat) → Bool, mt = fun σ => (leastS (worst s) σ).1 := ⟨_, rfl⟩
  obtain ⟨ps, hpsE⟩ : ∃ ps, ps = plansS s := ⟨_, rfl⟩
  obtain ⟨σ0, hσ0⟩ : ∃ σ0 : List (List Nat), σ0 = [] := ⟨_, rfl⟩
  rw [← hpsE] at hps hq
  have hbl0 : bl σ0 = [] := by rw [hbl, hσ0]; rfl
  have hnn0 : nn σ0 = 0 := by rw [hnn, hσ0]; rfl
  have hmt0 : mt σ0 = false := by rw [hmt, hσ0]; rfl
  have hyes : ∀ σ σ' p, σ' = σ ++ [p] → (mt σ = false ∨ worst s p < nn σ) → bl σ' = planL p ∧ nn σ' = worst s p ∧ mt σ' = true := fun σ σ' p e h => by
    rw [hmt, hnn] at h
    have := leastS_snoc (worst s) σ p
    rw [if_pos h] at this
    rw [hbl, hnn, hmt, e]; simp only [this, and_self]
  have hno : ∀ σ σ' p, σ' = σ ++ [p] → mt σ = true → nn σ ≤ worst s p → bl σ' = bl σ ∧ nn σ' = nn σ ∧ mt σ' = mt σ := fun σ σ' p e h1 h2 => by
    rw [hmt] at h1; rw [hnn] at h2
    have := leastS_snoc (worst s) σ p
    rw [if_neg (by simp only [h1]; simp; exact h2)] at this
    rw [hbl, hnn, hmt, e]; simp only [this, and_self]
  refine callA_startM tokT hA Tryd.func80 rfl rfl rfl rfl rfl fun S hS => ?_
  cbv
  refine code_gs hS (gs_weakB 2 (.sl 1 []) rfl ⟨WkD.nil, trivial⟩ (gs_view (a := { env := [(9, .fn 109 [.cb (.agg [I s.benches, .sl 3 TL]) 0, .cb (.fn 82 []) 0]), (3, .b 1 0), (4, .b 2 0), (5, .b 3 0), (6, .b 4 0)], H := [.ob .mk, .box (.fn 83 [.cb (.agg [I s.benches, .sl 3 TL]) 0]), .box (.sl 1 (bl σ0)), .box (I (nn σ0)), .box (.v (.bool (mt σ0)))], nt := 25, dfs := [.mk 0] }) [0, 1, 2, 3, 4] ⟨by decide, pre0, ⟨rfl, rfl, by rw [hbl0]; rfl, by rw [hnn0]; rfl, by rw [hmt0]; rfl, trivial⟩, ⟨rfl, rfl, rfl, rfl, rfl, trivial⟩, rfl, rfl⟩ (gs_done ?_)))
  refine code_rangeFunc hS (as' := [.yv 0, .cb (.agg [I s.benches, .sl 3 TL]) 0, .cb (.fn 82 []) 0]) [5, 1, 2, 3, 4] (hsB 83 (.agg [I s.benches, .sl 3 TL]) _ _ bl nn mt σ0) rfl rfl rfl rfl (by decide) ⟨rfl, rfl, rfl, rfl, rfl, trivial⟩ ?_
  rw [hσ0]
  refine bPlansIt s hv TL hT _ _ bl nn mt ⟨fun σ p rest σ' hp hσ LL hLL Q hq => ?_⟩ _ fun d => ?_
  · have hpM : p ∈ ps := by rw [hpsE, hp]; simp
    obtain ⟨hpL, hpl⟩ := hps p hpM
    obtain ⟨n, hn⟩ : ∃ n, n = worst s p := ⟨_, rfl⟩
    have hy := hyes σ σ' p hσ
    have hz := hno σ σ' p hσ
    rw [← hn] at hy hz
    refine roundA_go tokT hA rfl rfl (by decide) fun b' S2 hS2 => ?_
    cbv
    refine at_code hS2 ?_
    refine wp_go tokT hA hS2 ?_
    cbv
    refine ops_call hS2 [.sl 1 LL, .cb (.agg [I s.benches, .sl 3 TL]) 0] [] [] rfl rfl rfl rfl rfl rfl rfl rfl (by decide) trivial (bBest1 s hv p hpL hpl TL LL hT hLL n hn _ ?_)
    refine ops_go tokT hA hS2 ?_
    cbv
    refine bm (fun c => ?_) (fun c => ?_)
    · obtain ⟨e1, e2, e3⟩ := hy (.inl (xnot hA c))
      rw [← hLL] at e1
      have hq2 := hq
      unfold hsB at hq2
      rw [e1, e2, e3] at hq2
      cbv
      exact ⟨⟨_, _, rfl⟩, hq2⟩
    · have c0 := xnnot hA c
      cbv
      refine bm (fun c2 => ?_) (fun c2 => ?_)
      · obtain ⟨e1, e2, e3⟩ := hy (.inr (xlt hA c2))
        rw [← hLL] at e1
        have hq2 := hq
        unfold hsB at hq2
        rw [e1, e2, e3] at hq2
        cbv
        exact ⟨⟨_, _, rfl⟩, hq2⟩
      · obtain ⟨e1, e2, e3⟩ := hz c0 (xnlt hA c2)
        have hq2 := hq
        unfold hsB at hq2
        rw [e1, e2, e3] at hq2
        cbv
        exact ⟨⟨_, _, rfl⟩, hq2⟩
  · have hq1 := hq (bl ps) (nn ps) (by rw [hbl]) (by rw [hnn])
    rw [← hpsE]
    refine ⟨⟨.ready, _, (by intro h; cases h), rfl⟩, ?_⟩
    cbv
    refine draw_go tokT hA hS [0, 1, 2, 3] rfl rfl fun Dk hD => ?_
    cbv
    exact gh_view [] (by decide) pre0 (H' := []) (d' := .tup [.sl 1 (bl ps), I (nn ps)]) trivial rfl (gh_done hq1)
end Go.Proofs.YtmloogdalecilaaDoor

/-! D25 -/
namespace Go.Proofs.YtmloogdalecilaaDoor
open Go Go.Abs Go.Proofs

theorem plansF_mem {N : Nat} : ∀ (r : Nat) (left p : List Nat), left.sum = r → left.length = 4 → N ≤ 4 → (∀ i, N ≤ i → left.getD i 0 = 0) → p ∈ plansF N r left → p.length = r ∧ (∀ i ∈ p, i < N) ∧ ∀ i, p.count i = left.getD i 0
  | 0, left, p, hs, hl, hN, hz, h => by
    simp only [plansF, List.mem_singleton] at h
    subst h
    exact ⟨rfl, fun i hi => by simp at hi, fun i => by rw [sum_zero hs]; rfl⟩
  | r + 1, left, p, hs, hl, hN, hz, h => by
    simp only [plansF, List.mem_flatMap, List.mem_range] at h
    obtain ⟨i, hi, hm⟩ := h
    by_cases h0 : left.getD i 0 = 0
    · rw [if_pos h0] at hm; simp at hm
    · rw [if_neg h0] at hm
      obtain ⟨q, hq, rfl⟩ := List.mem_map.1 hm
      have hss := sum_set h0
      obtain ⟨h1, h2, h3⟩ := plansF_mem r (left.set i (left.getD i 0 - 1)) q (by omega) (by simpa using hl) hN (fun j hj => by
        rw [getD_set _ _ _ _ _ (by omega), if_neg (by omega)]; exact hz j hj) hq
      refine ⟨by simp [h1], fun j hj => ?_, fun j => ?_⟩
      · rcases List.mem_cons.1 hj with rfl | hj
        · exact hi
        · exact h2 j hj
      · rw [List.count_cons, h3 j, getD_set _ _ _ _ _ (by omega)]
        by_cases e : j = i
        · subst e; rw [if_pos rfl, if_pos (by simp)]; omega
        · rw [if_neg e, if_neg (by simpa using fun h => e h.symm)]; rfl

theorem plansS_ok {s : Sh} (hv : Val s) {p : List Nat} (h : p ∈ plansS s) : PlanOk s p := by
  obtain ⟨h1, h2, h3⟩ := plansF_mem _ _ _ (leftS_sum s) (leftS_len hv.len) hv.len (fun i hi => leftS_out hi) h
  refine ⟨h2, fun i hi => ?_, h1⟩
  rw [h3, leftS_at (List.getElem?_eq_getElem hi), List.getD_eq_getElem?_getD, List.getElem?_eq_getElem hi]; rfl

def bestS (s : Sh) : Bool × List Nat × Int := leastS (worst s) (plansS s)

/-- bench.Best, of a valid shop. -/
theorem bBest (s : Sh) (hs : ShopOk s) (TL : List D) (hT : TL = s.tasks.map taskD) (Q) (hq : ∀ PL n, PL = planL (bestS s).2.1 → n = (bestS s).2.2 → Q (RA.ret (.tup [.sl 1 PL, I n, I 0])) []) :
    CallA Tryd.prog 32 [.agg [I s.benches, .sl 3 TL]] [] Q := by
  obtain ⟨A, hA⟩ : ∃ A, A = ar := ⟨_, rfl⟩
  have hv := chkS_val hs.chk
  have hsum := hv.sum
  have hpl : ∀ p ∈ plansS s, PlanLe s p ∧ p.length ≤ 20 := fun p hp => by
    have := plansS_ok hv hp
    exact ⟨this.le, by rw [this.len]; omega⟩
  refine callA_start tokT hA Tryd.func32 rfl rfl rfl rfl rfl fun S hS => ?_
  cbv
  refine ops_call hS [.agg [I s.benches, .sl 3 TL]] [] [] rfl rfl rfl rfl rfl rfl rfl rfl (by decide) trivial (bCheck s hs.fin TL hT 0 hs.chk.symm _ ?_)
  refine ops_go tokT hA hS ?_
  cbv
  refine bm (fun c => absurd rfl (xne hA c)) (fun _ => ?_)
  cbv
  refine ops_call hS [.agg [I s.benches, .sl 3 TL], .fn 82 []] [] [] rfl rfl rfl rfl rfl rfl rfl rfl (by decide) trivial (bPlans s.benches TL _ ?_)
  refine ops_go tokT hA hS ?_
  cbv
  refine ops_gs hS (gs_frz hA [0] ?_)
  cbv
  refine gs_done ?_
  refine ops_call hS [.fn 109 [.cb (.agg [I s.benches, .sl 3 TL]) 0, .cb (.fn 82 []) 0], .fn 83 [.cb (.agg [I s.benches, .sl 3 TL]) 0]] [] [] rfl rfl rfl rfl rfl rfl rfl rfl (by decide) trivial (bLeast s hv TL hT hpl _ fun PL n hP hn => ?_)
  refine ops_go tokT hA hS ?_
  cbv
  exact gh_view [] (by decide) pre0 (H' := []) (d' := .tup [.sl 1 PL, I n, I 0]) trivial rfl (gh_done (hq PL n hP hn))
end Go.Proofs.YtmloogdalecilaaDoor

/-! D26 -/
namespace Go.Proofs.YtmloogdalecilaaDoor
open Go Go.Abs Go.Proofs

set_option maxRecDepth 20000 in
/-- shop, plan. -/
theorem kShop (Q) (hq : Q (RA.ret (shopD exS)) []) : CallA Tryd.prog 67 [] [] Q := by
  refine callA_start (A := ar) tokT rfl Tryd.func67 rfl rfl rfl rfl rfl fun S hS => ?_
  cbv
  refine ops_call hS [I 0, I 2, I 3] [] [] rfl rfl rfl rfl rfl rfl rfl rfl (by decide) trivial (workF _ _ _ _ ?_)
  refine ops_go (A := ar) tokT rfl hS ?_
  cbv
  refine ops_call hS [I 1, I 4, I 4] [] [] rfl rfl rfl rfl rfl rfl rfl rfl (by decide) trivial (workF _ _ _ _ ?_)
  refine ops_go (A := ar) tokT rfl hS ?_
  cbv
  refine ops_gs hS (gs_frz rfl [1] ?_)
  cbv
  refine gs_done ?_
  refine ops_call hS [I 1, I 2, I 2] [] [] rfl rfl rfl rfl rfl rfl rfl rfl (by decide) trivial (workF _ _ _ _ ?_)
  refine ops_go (A := ar) tokT rfl hS ?_
  cbv
  refine ops_call hS [I 0, I 3, I 5] [] [] rfl rfl rfl rfl rfl rfl rfl rfl (by decide) trivial (workF _ _ _ _ ?_)
  refine ops_go (A := ar) tokT rfl hS ?_
  cbv
  refine ops_gs hS (gs_frz rfl [2] ?_)
  cbv
  refine gs_done ?_
  refine ops_call hS [I 1, I 1, I 3] [] [] rfl rfl rfl rfl rfl rfl rfl rfl (by decide) trivial (workF _ _ _ _ ?_)
  refine ops_part (A := ar) tokT rfl hS [9, 10] [11, 12, 13] ?_
  cbv
  refine ops_gs hS (gs_frz rfl [3] ?_)
  cbv
  refine gs_done (at_ops hS (ops_part (A := ar) tokT rfl hS [11, 12] [13] ?_))
  cbv
  refine ops_gs hS (gs_frz rfl [4] ?_)
  cbv
  refine gs_done (at_ops hS (ops_go (A := ar) tokT rfl hS ?_))
  cbv
  exact gh_view [] (by decide) pre0 (H' := []) (d' := shopD exS) trivial rfl (gh_done hq)

theorem kPlan (Q) (hq : Q (RA.ret (.sl 1 (planL exP))) []) : CallA Tryd.prog 68 [] [] Q := by
  refine callA_start (A := ar) tokT rfl Tryd.func68 rfl rfl rfl rfl rfl fun S hS => ?_
  cbv
  refine gh_frz [0] ?_
  cbv
  exact gh_view [] (by decide) pre0 (H' := []) (d' := .sl 1 (planL exP)) trivial rfl (gh_done hq)

theorem exEnds : endsS exS exP = [(8, 10), (6, 8), (4, 6)] := by decide +kernel
theorem exSlack : slackL exS exP = [2, 0, 2, 0, 0] := by decide +kernel
theorem exBest : bestS exS = (true, [0, 1, 0, 1, 2], 10) := by decide +kernel
end Go.Proofs.YtmloogdalecilaaDoor

/-! D27 -/
namespace Go.Proofs.YtmloogdalecilaaDoor
open Go Go.Abs Go.Proofs

set_option maxRecDepth 20000 in
set_option maxHeartbeats 4000000 in
/-- filing: the chapter's examples. -/
theorem filing (Q) (hq : Q (RA.ret (.v (.bool true))) []) : CallA Tryd.prog 18 [] [] Q := by
  refine callA_start (A := ar) tokT rfl Tryd.func18 rfl rfl rfl rfl rfl fun S hS => ?_
  cbv
  refine ops_call hS [] [] [] rfl rfl rfl rfl rfl rfl rfl rfl (by decide) trivial (kShop _ ?_)
  refine ops_go (A := ar) tokT rfl hS ?_
  cbv
  refine ops_call hS [] [] [] rfl rfl rfl rfl rfl rfl rfl rfl (by decide) trivial (kPlan _ ?_)
  refine ops_go (A := ar) tokT rfl hS ?_
  cbv
  refine ops_call hS [shopD exS, .sl 1 (planL exP)] [] [] rfl rfl rfl rfl rfl rfl rfl rfl (by decide) trivial (bEndsPlan exS exOk exP exPlan _ _ rfl rfl _ fun L1 hL1 => ?_)
  rw [exEnds] at hL1
  subst hL1
  refine ops_go (A := ar) tokT rfl hS ?_
  cbv
  refine ops_call hS [] [] [] rfl rfl rfl rfl rfl rfl rfl rfl (by decide) trivial (kShop _ ?_)
  refine ops_go (A := ar) tokT rfl hS ?_
  cbv
  refine ops_call hS [] [] [] rfl rfl rfl rfl rfl rfl rfl rfl (by decide) trivial (kPlan _ ?_)
  refine ops_go (A := ar) tokT rfl hS ?_
  cbv
  refine ops_call hS [shopD exS, .sl 1 (planL exP)] [] [] rfl rfl rfl rfl rfl rfl rfl rfl (by decide) trivial (bSlackPlan exS exOk exP exPlan _ _ rfl rfl _ fun L2 hL2 => ?_)
  rw [exSlack] at hL2
  subst hL2
  refine ops_go (A := ar) tokT rfl hS ?_
  cbv
  refine ops_call hS [] [] [] rfl rfl rfl rfl rfl rfl rfl rfl (by decide) trivial (kShop _ ?_)
  refine ops_go (A := ar) tokT rfl hS ?_
  cbv
  refine ops_call hS [shopD exS] [] [] rfl rfl rfl rfl rfl rfl rfl rfl (by decide) trivial (bBest exS exOk _ rfl _ fun L3 n hL3 hn => ?_)
  rw [exBest] at hL3 hn
  subst hL3; subst hn
  refine ops_go (A := ar) tokT rfl hS ?_
  cbv
  refine ops_call hS [] [] [] rfl rfl rfl rfl rfl rfl rfl rfl (by decide) trivial (kShop _ ?_)
  refine ops_go (A := ar) tokT rfl hS ?_
  cbv
  refine ops_call hS [shopD exS] [] [] rfl rfl rfl rfl rfl rfl rfl rfl (by decide) trivial (bBoundEx _ ?_)
  refine ops_go (A := ar) tokT rfl hS ?_
  cbv
  refine ops_call hS [] [] [] rfl rfl rfl rfl rfl rfl rfl rfl (by decide) trivial (kShop _ ?_)
  refine ops_part (A := ar) tokT rfl hS [1, 2, 3] [4, 5, 6, 7, 8, 9, 10, 11, 12] ?_
  cbv
  refine ops_gs hS (gs_frz rfl [0, 1, 2] ?_)
  cbv
  refine gs_done (at_ops hS (ops_part (A := ar) tokT rfl hS [4] [5, 6, 7, 8, 9, 10, 11, 12] ?_))
  cbv
  refine ops_gs hS (gs_frz rfl [3] ?_)
  cbv
  refine gs_done (at_ops hS (ops_go (A := ar) tokT rfl hS ?_))
  cbv
  refine ops_call hS [shopD exS, .sl 1 exTab] [] [] rfl rfl rfl rfl rfl rfl rfl rfl (by decide) trivial (bClashEx _ ?_)
  refine ops_go (A := ar) tokT rfl hS ?_
  cbv
  refine ops_callG hS (b := true) rfl rfl rfl rfl rfl rfl rfl rfl (fun _ => ⟨[], _, [I 8, I 10], [], [], rfl, rfl, rfl, by decide, trivial, toF _ _ _ ?_⟩) (fun h => absurd rfl h)
  refine ops_go (A := ar) tokT rfl hS ?_
  cbv
  refine ops_callG hS (b := true) rfl rfl rfl rfl rfl rfl rfl rfl (fun _ => ⟨[], _, [I 6, I 8], [], [], rfl, rfl, rfl, by decide, trivial, toF _ _ _ ?_⟩) (fun h => absurd rfl h)
  refine ops_go (A := ar) tokT rfl hS ?_
  cbv
  refine ops_callG hS (b := true) rfl rfl rfl rfl rfl rfl rfl rfl (fun _ => ⟨[], _, [I 4, I 6], [], [], rfl, rfl, rfl, by decide, trivial, toF _ _ _ ?_⟩) (fun h => absurd rfl h)
  refine ops_go (A := ar) tokT rfl hS ?_
  cbv
  refine ops_gs hS (gs_frz rfl [4] ?_)
  cbv
  refine gs_done ?_
  refine ops_callG hS (b := true) rfl rfl rfl rfl rfl rfl rfl rfl (fun _ => ⟨[], _, [.sl 2 ([(8, 10), (6, 8), (4, 6)].map rngD), .sl 2 ([(8, 10), (6, 8), (4, 6)].map rngD)], [], [], rfl, rfl, rfl, by decide, trivial, kSameRanges [(8, 10), (6, 8), (4, 6)] [(8, 10), (6, 8), (4, 6)] _ _ rfl rfl (by decide) true rfl _ ?_⟩) (fun h => absurd rfl h)
  refine ops_go (A := ar) tokT rfl hS ?_
  cbv
  refine ops_gs hS (gs_frz rfl [5] ?_)
  cbv
  refine gs_done ?_
  refine ops_callG hS (b := true) rfl rfl rfl rfl rfl rfl rfl rfl (fun _ => ⟨[], _, [.sl 1 ([2, 0, 2, 0, 0].map I), .sl 1 ([2, 0, 2, 0, 0].map I)], [], [], rfl, rfl, rfl, by decide, trivial, kSameInts [2, 0, 2, 0, 0] [2, 0, 2, 0, 0] _ _ rfl rfl (by decide) true rfl _ ?_⟩) (fun h => absurd rfl h)
  refine ops_go (A := ar) tokT rfl hS ?_
  cbv
  refine ops_gs hS (gs_frz rfl [6] ?_)
  cbv
  refine gs_done ?_
  refine ops_callG hS (b := true) rfl rfl rfl rfl rfl rfl rfl rfl (fun _ => ⟨[], _, [.sl 1 ([0, 1, 0, 1, 2].map I), .sl 1 ([0, 1, 0, 1, 2].map I)], [], [], rfl, rfl, rfl, by decide, trivial, kSameInts [0, 1, 0, 1, 2] [0, 1, 0, 1, 2] _ _ rfl rfl (by decide) true rfl _ ?_⟩) (fun h => absurd rfl h)
  refine ops_go (A := ar) tokT rfl hS ?_
  cbv
  exact gh_view [] (by decide) pre0 (H' := []) (d' := .v (.bool true)) trivial rfl (gh_done hq)
end Go.Proofs.YtmloogdalecilaaDoor
