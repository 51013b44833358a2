/- Part PutA of the proofs about the benches of the accordion maker: see the last text of the claim for what is proved. -/
import Derived.Test.YtmloogdalecilaaDoorBenchD
import Derived.Test.YtmloogdalecilaaDoorFirstA
import Derived.Test.YtmloogdalecilaaDoorLoadsC
import Derived.Test.YtmloogdalecilaaDoorAsB
import Derived.Test.YtmloogdalecilaaDoorMachE
import Derived.Test.YtmloogdalecilaaDoorRunsX
set_option linter.unusedVariables false
set_option linter.unusedSimpArgs false
set_option linter.unnecessarySimpa false
set_option linter.constructorNameAsVariable false

/-! P10 -/
namespace Go.Proofs.YtmloogdalecilaaDoor
open Go Go.Abs Go.Proofs

/-- The plan without an order. -/
def wo (ad : Nat) (l : List Nat) : List Nat := l.filter fun i => !(i == ad)
/-- It may come next: it is the order that is put in, or the plan's next one. -/
def keptB (ad : Nat) (pl : List Nat) (l : List Nat) (i : Nat) : Bool := i == ad || pl.getD (wo ad l).length 0 == i

/-- All plans, of which something is so at each place. -/
def plansM (may : List Nat → Nat → Bool) (n : Nat) : Nat → List Nat → List Nat → List (List Nat)
  | 0, _, _ => [[]]
  | r + 1, left, l => (List.range n).flatMap fun i => if left.getD i 0 = 0 ∨ may l i = false then [] else (plansM may n r (left.set i (left.getD i 0 - 1)) (l ++ [i])).map (i :: ·)

theorem wo_app (ad : Nat) (a b : List Nat) : wo ad (a ++ b) = wo ad a ++ wo ad b := by simp [wo]
theorem wo_ad (ad : Nat) (l : List Nat) : wo ad (l ++ [ad]) = wo ad l := by simp [wo]
theorem wo_one {ad i : Nat} (h : i ≠ ad) (l : List Nat) : wo ad (l ++ [i]) = wo ad l ++ [i] := by simp [wo, h]
theorem wo_cons {ad i : Nat} (h : i ≠ ad) (l : List Nat) : wo ad (i :: l) = i :: wo ad l := by simp [wo, h]
theorem wo_cons_ad (ad : Nat) (l : List Nat) : wo ad (ad :: l) = wo ad l := by simp [wo]

/-- How far a plan is made: the others are the plan's first ones, and the rest of the plan is left. -/
structure Made (ad : Nat) (pl left l : List Nat) : Prop where
  pre : wo ad l <+: pl
  rest : left.sum + (wo ad l).length = pl.length + left.getD ad 0

theorem Made.lt {ad : Nat} {pl left l : List Nat} (h : Made ad pl left l) {i : Nat} (hi : left.getD i 0 ≠ 0) (hne : i ≠ ad) : (wo ad l).length < pl.length := by
  have h1 := h.rest
  have key : ∀ (left : List Nat) (i j : Nat), i ≠ j → left.getD i 0 + left.getD j 0 ≤ left.sum := by
    intro left
    induction left with
    | nil => intro i j _; simp
    | cons x r ih =>
      intro i j hij
      match i, j with
      | 0, 0 => omega
      | 0, j + 1 => have := getD_le_sum r j; simp only [List.getD_cons_zero, List.getD_cons_succ, List.sum_cons]; omega
      | i + 1, 0 => have := getD_le_sum r i; simp only [List.getD_cons_zero, List.getD_cons_succ, List.sum_cons]; omega
      | i + 1, j + 1 => have := ih i j (by omega); simp only [List.getD_cons_succ, List.sum_cons]; omega
  have := key left i ad hne
  omega

theorem Made.next {ad : Nat} {pl left l : List Nat} (h : Made ad pl left l) {i : Nat} (hi : left.getD i 0 ≠ 0) (hm : keptB ad pl l i = true) : Made ad pl (left.set i (left.getD i 0 - 1)) (l ++ [i]) := by
  have hss := sum_set hi
  have hil : i < left.length := by
    apply Nat.lt_of_not_le; intro h; apply hi; rw [List.getD_eq_getElem?_getD, List.getElem?_eq_none h]; rfl
  by_cases e : i = ad
  · subst e
    refine ⟨by rw [wo_ad]; exact h.pre, ?_⟩
    rw [wo_ad, getD_set _ _ _ _ _ hil, if_pos rfl]
    have := h.rest; omega
  · have hlt := h.lt hi e
    simp only [keptB, Bool.or_eq_true, beq_iff_eq, e, false_or] at hm
    obtain ⟨t, ht⟩ := h.pre
    refine ⟨?_, ?_⟩
    · rw [wo_one e]
      cases t with
      | nil => rw [List.append_nil] at ht; rw [ht] at hlt; omega
      | cons x t =>
        rw [← ht, List.getD_eq_getElem?_getD, List.getElem?_append_right (Nat.le_refl _), Nat.sub_self] at hm
        simp at hm; subst hm
        exact ⟨t, by rw [List.append_assoc]; exact ht⟩
    · rw [wo_one e, getD_set _ _ _ _ _ hil, if_neg (fun h => e h.symm)]
      have := h.rest; simp only [List.length_append, List.length_singleton]; omega

theorem plansM_eq {ad N : Nat} {pl : List Nat} : ∀ (r : Nat) (left l : List Nat), left.sum = r → Made ad pl left l → plansM (keptB ad pl) N r left l = (plansF N r left).filter fun p => decide (wo ad (l ++ p) = pl)
  | 0, left, l, hs, hm => by
    have h1 := hm.rest
    have h2 : left.getD ad 0 = 0 := sum_zero hs ad
    have : wo ad l = pl := List.IsPrefix.eq_of_length hm.pre (by omega)
    simp [plansM, plansF, this]
  | r + 1, left, l, hs, hm => by
    rw [plansM, plansF, List.filter_flatMap]
    congr 1
    funext i
    by_cases h0 : left.getD i 0 = 0
    · simp only [h0, true_or, if_true, List.filter_nil]
    · simp only [h0, false_or, if_false]
      by_cases hk : keptB ad pl l i = true
      · rw [if_neg (by rw [hk]; simp)]
        have hss := sum_set h0
        rw [plansM_eq r _ (l ++ [i]) (by omega) (hm.next h0 hk), List.filter_map]
        congr 2
        funext p
        simp
      · have hk' : keptB ad pl l i = false := by simpa using hk
        rw [if_pos hk', List.filter_map]
        symm
        rw [List.map_eq_nil_iff, List.filter_eq_nil_iff]
        intro p _
        simp only [Function.comp, decide_eq_true_eq]
        intro he
        simp only [keptB, Bool.or_eq_false_iff, beq_eq_false_iff_ne, ne_eq] at hk'
        obtain ⟨k1, k2⟩ := hk'
        apply k2
        rw [wo_app, wo_cons k1] at he
        rw [← he, List.getD_eq_getElem?_getD, List.getElem?_append_right (Nat.le_refl _), Nat.sub_self]; rfl
end Go.Proofs.YtmloogdalecilaaDoor

/-! D62 -/
namespace Go.Proofs.YtmloogdalecilaaDoor
open Go Go.Abs Go.Proofs

set_option maxRecDepth 20000 in
set_option maxHeartbeats 4000000 in
/-- PutIn$1: whether an order may come next. -/
theorem bKept (a : Nat) (ad : Int) (had : IsI ad a) (pl : List Nat) (KL : List D) (hKL : KL = planL pl) (l : List Nat) (LL : List D) (hLL : LL = planL l) (hl : l.length ≤ 1000) (k : Nat) (i : Int) (hi : IsI i k) (hlt : k ≠ a → (wo a l).length < pl.length) (Q)
    (hq : Q (RA.ret (.v (.bool (keptB a pl l k)))) []) : CallA Tryd.prog 102 [.sl 1 LL, I i, .cb (I ad) 0, .cb (.sl 1 KL) 0] [] Q := by
  obtain ⟨A, hA⟩ : ∃ A, A = ar := ⟨_, rfl⟩
  obtain ⟨N, hN⟩ : ∃ N, N = l.length := ⟨_, rfl⟩
  have hLl : LL.length = N := by rw [hLL, hN]; simp [planL]
  have hKl : KL.length = pl.length := by rw [hKL]; simp [planL]
  obtain ⟨v, hv⟩ : ∃ v, v = keptB a pl l k := ⟨_, rfl⟩
  rw [← hv] at hq
  refine callA_start tokT hA Tryd.func102 rfl rfl rfl rfl rfl fun S hS => ?_
  cbv
  refine bm (fun c => ?_) (fun c => ?_)
  · have e : k = a := by have h1 := xeq hA c; have h2 := hi.eq; have h3 := had.eq; omega
    have hvt : v = true := by rw [hv, keptB, e]; simp
    rw [hvt] at hq
    cbv
    exact gh_view [] (by decide) pre0 (H' := []) (d' := .v (.bool true)) trivial rfl (gh_done hq)
  have hne : k ≠ a := by have h1 := xneq hA c; have h2 := hi.eq; have h3 := had.eq; intro e; subst e; omega
  have hat := hlt hne
  cbv
  refine at_code hS ?_
  refine wpa_loopG (α := Int × Nat × Int) (fun q => { env := [(1, I i), (2, .cb (I ad) 0), (3, .cb (.sl 1 KL) 0), (7, I q.2.2), (13, .sl 1 LL), (14, I (A.oi (A.len LL))), (15, I q.1)], H := [], nt := 31, dfs := [] })
    (fun q => N - q.2.1) (fun q => IsI q.1 q.2.1 ∧ q.2.1 ≤ N ∧ IsI q.2.2 (wo a (l.take q.2.1)).length) (0, 0, 0) ⟨⟨rfl⟩, Nat.zero_le _, ⟨rfl⟩⟩ ?_ ?_
  · exact gs_to [] ⟨by decide, pre0, trivial, ⟨rfl, rfl, rfl, rfl, rfl, rfl, rfl, trivial⟩, rfl, rfl⟩
  rintro ⟨j, m, d⟩ ⟨v1, v2, v3⟩
  dsimp only at v1 v2 v3
  refine wp_go tokT hA hS ?_
  cbv
  refine bm (fun c2 => ?_) (fun c2 => ?_)
  · have hm : m < N := yltL hA hLl v1 c2
    obtain ⟨b, hb⟩ : ∃ b, b = l[m] := ⟨_, rfl⟩
    have hbm : l[m]? = some b := by rw [hb]; exact List.getElem?_eq_getElem (by omega)
    have hLm : LL[m]? = some (I (b : Nat)) := by rw [hLL]; simp [planL, hbm]
    have hin2 := yinbL hA hLl v1 hm
    have hg2 := yget hA v1 hLm
    have hf2 := yfit1 hA v1 (by omega)
    have hcle : (wo a (l.take m)).length ≤ m := Nat.le_trans (List.length_filter_le _ _) (by simp; omega)
    have hf3 := yfit1 hA v3 (by omega)
    have hv1 := ysucc hA v1
    have hv3 := ysucc hA v3
    have hms2 : N - (m + 1) < N - m := by omega
    have hct : l.take (m + 1) = l.take m ++ [b] := by rw [List.take_add_one, hbm]; rfl
    obtain ⟨bi, hbi⟩ : ∃ bi : Int, bi = (b : Nat) := ⟨_, rfl⟩
    rw [← hbi] at hg2
    have hc1 : bi ≠ ad → IsI (A.add d 1) (wo a (l.take (m + 1))).length := fun h => by
      have e : b ≠ a := by have := had.eq; intro h2; subst h2; omega
      rw [hct, wo_one e, List.length_append]; exact hv3
    have hc2 : bi = ad → IsI d (wo a (l.take (m + 1))).length := fun h => by
      have e : b = a := by have := had.eq; omega
      rw [hct, e, wo_ad]; exact v3
    cbv
    refine ⟨hin2, ⟨_, hg2, ?_⟩⟩
    cbv
    refine bm (fun c3 => ?_) (fun c3 => ?_)
    · have hn := hc1 (xne hA c3)
      cbv
      refine ⟨hf3, hf2, ?_⟩
      refine gs_loop (A.add j 1, m + 1, A.add d 1) [] ⟨hv1, hm, hn⟩ hms2 ?_
      exact ⟨by decide, pre0, trivial, ⟨rfl, rfl, rfl, rfl, rfl, rfl, rfl, trivial⟩, rfl, rfl⟩
    · have hn := hc2 (xnne hA c3)
      cbv
      refine ⟨hf2, ?_⟩
      refine gs_loop (A.add j 1, m + 1, d) [] ⟨hv1, hm, hn⟩ hms2 ?_
      exact ⟨by decide, pre0, trivial, ⟨rfl, rfl, rfl, rfl, rfl, rfl, rfl, trivial⟩, rfl, rfl⟩
  · have hm : m = N := by have := ynltL hA hLl v1 c2; omega
    rw [hm, hN, List.take_length] at v3
    obtain ⟨x, hx⟩ : ∃ x, x = pl[(wo a l).length] := ⟨_, rfl⟩
    have hxe : pl[(wo a l).length]? = some x := by rw [hx]; exact List.getElem?_eq_getElem hat
    have hKx : KL[(wo a l).length]? = some (I (x : Nat)) := by rw [hKL]; simp [planL, hxe]
    have hin := yinbL hA hKl v3 hat
    have hg := yget hA v3 hKx
    obtain ⟨xi, hxi⟩ : ∃ xi : Int, xi = (x : Nat) := ⟨_, rfl⟩
    rw [← hxi] at hg
    have hve : A.cmp .eql xi i = v := by
      have h1 : (k == a) = false := by simpa using hne
      rw [xeqb hA, hv, keptB, h1, Bool.false_or, List.getD_eq_getElem?_getD, hxe, hi.eq, hxi, Option.getD_some]
      by_cases e : x = k
      · subst e; simp
      · have h2 : ¬ ((x : Int) = (k : Int)) := by omega
        simp [e, h2]
    have hq2 : Q (RA.ret (.v (.bool (A.cmp .eql xi i)))) [] := by rw [hve]; exact hq
    cbv
    refine gs_done ?_
    cbv
    refine ⟨hin, ⟨_, hg, ?_⟩⟩
    cbv
    exact gh_view [] (by decide) pre0 (H' := []) (d' := .v (.bool (A.cmp .eql xi i))) trivial rfl (gh_done hq2)

/-- The blocks of such a search: its loop, the number, the best one, its number, whether there was one. -/
def hsBk (ad : Int) (KL : List D) (nf : FuncId) (nc : D) (asg bdy : Code) (bl : List (List Nat) → List D) (nn : List (List Nat) → Int) (mt : List (List Nat) → Bool) (σ : List (List Nat)) : List Blk :=
  [.ob (.lp .ready none [(9, .fn 109 [.cb nc 0, .cb (.fn 102 [.cb (I ad) 0, .cb (.sl 1 KL) 0]) 0]), (3, .b 1 0), (4, .b 2 0), (5, .b 3 0), (6, .b 4 0)] 25 [10] asg bdy), .box (.fn nf [.cb nc 0]), .box (.sl 1 (bl σ)), .box (I (nn σ)), .box (.v (.bool (mt σ)))]
def hsGk (ad : Int) (KL : List D) (nf : FuncId) (b : Int) (TL : List D) (asg bdy : Code) (bl : List (List Nat) → List D) (nn : List (List Nat) → Int) (mt : List (List Nat) → Bool) (σ : List (List Nat)) : List Blk :=
  [.ob (.lp .ready none [(9, .fn 109 [.cb (.agg [I b, .sl 3 TL]) 0, .cb (.fn 102 [.cb (I ad) 0, .cb (.sl 1 KL) 0]) 0]), (3, .b 1 0), (4, .b 2 0), (5, .b 3 0), (6, .b 4 0)] 25 [10] asg bdy), .box (.fn nf [.cb (.agg [I b, .sl 3 TL]) 0]), .box (.sl 1 (bl σ)), .box (I (nn σ)), .box (.v (.bool (mt σ))), .box (.yv 0), .box (.fn 110 [.cb z4D 0, .b 5 0, .cb (.agg [I b, .sl 3 TL]) 0, .cb (.fn 102 [.cb (I ad) 0, .cb (.sl 1 KL) 0]) 0, .b 6 0])]
structure RoundsK (ad : Int) (KL : List D) (nf : FuncId) (nc : D) (asg bdy : Code) (bl : List (List Nat) → List D) (nn : List (List Nat) → Int) (mt : List (List Nat) → Bool) (ps : List (List Nat)) : Prop where
  out : ∀ σ p rest σ', ps = σ ++ p :: rest → σ' = σ ++ [p] → ∀ LL, LL = planL p → ∀ Q, Q (RA.ret (.v (.bool true))) (hsBk ad KL nf nc asg bdy bl nn mt σ') → RoundA Tryd.prog 0 [.sl 1 LL] (hsBk ad KL nf nc asg bdy bl nn mt σ) Q

/-- All plans of a shop in which the others come as they do in one. -/
def plansK (a : Nat) (pl : List Nat) (s : Sh) : List (List Nat) := plansM (keptB a pl) s.tasks.length (nWorks s.tasks) (leftS s) []

/-- plans. -/
theorem bPlansK (ad : Int) (KL : List D) (b : Int) (TL : List D) (Q) (hq : Q (RA.ret (.fn 109 [.cb (.agg [I b, .sl 3 TL]) 0, .cb (.fn 102 [.cb (I ad) 0, .cb (.sl 1 KL) 0]) 0])) []) : CallA Tryd.prog 81 [.agg [I b, .sl 3 TL], .fn 102 [.cb (I ad) 0, .cb (.sl 1 KL) 0]] [] Q := by
  obtain ⟨A, hA⟩ : ∃ A, A = ar := ⟨_, rfl⟩
  refine callA_start tokT hA Tryd.func81 rfl rfl rfl rfl rfl fun S hS => ?_
  cbv
  refine gh_frz [0, 1] ?_
  cbv
  exact gh_view [] (by decide) pre0 (H' := []) (d' := .fn 109 [.cb (.agg [I b, .sl 3 TL]) 0, .cb (.fn 102 [.cb (I ad) 0, .cb (.sl 1 KL) 0]) 0]) trivial rfl (gh_done hq)

set_option maxRecDepth 20000 in
set_option maxHeartbeats 4000000 in
/-- plans$1$1: all plans that go on from one. -/
theorem bGrowK (a : Nat) (ad : Int) (had : IsI ad a) (pl : List Nat) (KL : List D) (hKL : KL = planL pl) (nf : FuncId) (b : Int) (TL : List D) (N : Nat) (hN : TL.length = N) (hN4 : N ≤ 4) (asg bdy : Code) (bl nn mt) (ps : List (List Nat)) (hR : RoundsK ad KL nf (.agg [I b, .sl 3 TL]) asg bdy bl nn mt ps) :
    ∀ (r : Nat) (left l : List Nat) (σ rest : List (List Nat)), left.sum = r → left.length = 4 → l.length + r ≤ 100 → (∀ i, N ≤ i → left.getD i 0 = 0) → Made a pl left l → ps = σ ++ ((plansM (keptB a pl) N r left l).map (l ++ ·) ++ rest) →
    ∀ (LL : List D) (x0 x1 x2 x3 : Int), LL = planL l → left.map (fun n : Nat => (n : Int)) = [x0, x1, x2, x3] → ∀ Q,
    (∀ σ', σ' = σ ++ (plansM (keptB a pl) N r left l).map (l ++ ·) → Q (RA.ret (.v (.bool true))) (hsGk ad KL nf b TL asg bdy bl nn mt σ')) →
    CallA Tryd.prog 110 [.sl 1 LL, .agg [I x0, I x1, I x2, I x3], .cb z4D 0, .b 5 0, .cb (.agg [I b, .sl 3 TL]) 0, .cb (.fn 102 [.cb (I ad) 0, .cb (.sl 1 KL) 0]) 0, .b 6 0] (hsGk ad KL nf b TL asg bdy bl nn mt σ) Q := by
  obtain ⟨A, hA⟩ : ∃ A, A = ar := ⟨_, rfl⟩
  intro r
  induction r with
  | zero =>
    intro left l σ rest hsum hlen hl hz hmd hps LL x0 x1 x2 x3 hLL hx Q hq
    obtain ⟨a0, a1, a2, a3, rfl⟩ := list4 hlen
    simp only [List.map_cons, List.map_nil, List.cons.injEq, and_true] at hx
    obtain ⟨rfl, rfl, rfl, rfl⟩ := hx
    have e0 : a0 = 0 := sum_zero hsum 0
    have e1 : a1 = 0 := sum_zero hsum 1
    have e2 : a2 = 0 := sum_zero hsum 2
    have e3 : a3 = 0 := sum_zero hsum 3
    subst e0 e1 e2 e3
    have hLl : LL.length ≤ 1000000 := by rw [hLL]; simp [planL]; omega
    have hps' : ps = σ ++ l :: rest := by rw [hps]; simp [plansM]
    obtain ⟨σ', hσ'⟩ : ∃ σ', σ' = σ ++ [l] := ⟨_, rfl⟩
    have hq' := hq σ' (by rw [hσ']; simp [plansM])
    have hleq : A.leq [0, 0, 0, 0] [0, 0, 0, 0] = true := by subst hA; rfl
    refine callA_start tokT hA Tryd.func110 rfl rfl rfl rfl rfl fun S hS => ?_
    cbv
    refine ⟨[0, 0, 0, 0], [0, 0, 0, 0], rfl, rfl, rfl, rfl, ?_⟩
    cbv
    refine bm (fun _ => ?_) (fun c => Bool.noConfusion (hleq.symm.trans c))
    cbv
    refine draw_go tokT hA hS [0, 1, 2, 3, 4] rfl rfl fun Dk hD => ?_
    cbv
    refine draw_call hA hD [.sl 1 LL] [] [] rfl rfl rfl rfl rfl rfl rfl rfl rfl rfl rfl (by decide) trivial (bCloneF LL hLl _ ⟨by cbv, draw_on tokT hA hD ?_⟩)
    cbv
    refine draw_yield hA hD 0 [.sl 1 LL] [0, 1, 2, 3, 4] (hsBk ad KL nf (.agg [I b, .sl 3 TL]) asg bdy bl nn mt σ) rfl rfl rfl rfl rfl rfl rfl rfl rfl rfl rfl rfl (by decide) ⟨rfl, rfl, rfl, rfl, rfl, trivial⟩ (hR.out σ l rest σ' hps' hσ' LL hLL _ ⟨by cbv, draw_on tokT hA hD ?_⟩)
    cbv
    exact gh_view [0, 1, 2, 3, 4, 5, 6] (by decide) pre7 (H' := hsGk ad KL nf b TL asg bdy bl nn mt σ') (d' := .v (.bool true)) ⟨rfl, rfl, rfl, rfl, rfl, rfl, rfl, trivial⟩ rfl (gh_done hq')
  | succ r ih =>
    intro left l σ rest hsum hlen hl hz hmd hps LL x0 x1 x2 x3 hLL hx Q hq
    have hXl : [x0, x1, x2, x3].length = 4 := rfl
    have hxg : ∀ k, k < 4 → ∃ x : Int, IsI x (left.getD k 0) ∧ ([I x0, I x1, I x2, I x3] : List D)[0 + k]? = some (I x) := fun k hk => by
      refine ⟨_, ⟨rfl⟩, ?_⟩
      have e : ([I x0, I x1, I x2, I x3] : List D) = ([x0, x1, x2, x3] : List Int).map I := rfl
      rw [e, ← hx, Nat.zero_add]
      simp [List.getD_eq_getElem?_getD, List.getElem?_eq_getElem (show k < left.length by omega)]
    have hne : A.leq [x0, x1, x2, x3] [0, 0, 0, 0] = false := by
      have : [x0, x1, x2, x3] ≠ [0, 0, 0, 0] := fun e => by
        rw [e] at hx
        obtain ⟨a0, a1, a2, a3, rfl⟩ := list4 hlen
        simp at hx hsum; omega
      subst hA; exact decide_eq_false this
    have hLn : LL.length = l.length := by rw [hLL]; simp [planL]
    obtain ⟨n, hn⟩ : ∃ n, n = l.length := ⟨_, rfl⟩
    rw [← hn] at hLn
    have hnM : n ≤ 1000000 := by omega
    have hn100 : n + 1 ≤ 1000000 := by omega
    obtain ⟨fm, hfm⟩ : ∃ fm : Nat → List (List Nat), fm = fun i => if left.getD i 0 = 0 ∨ keptB a pl l i = false then [] else (plansM (keptB a pl) N r (left.set i (left.getD i 0 - 1)) (l ++ [i])).map (i :: ·) := ⟨_, rfl⟩
    have hpl : plansM (keptB a pl) N (r + 1) left l = (List.range N).flatMap fm := by rw [plansM, hfm]
    obtain ⟨sg, hsg⟩ : ∃ sg : Nat → List (List Nat), sg = fun k => σ ++ (((List.range k).flatMap fm).map (l ++ ·)) := ⟨_, rfl⟩
    have hsg0 : sg 0 = σ := by rw [hsg]; simp
    have hsgs : ∀ k, sg (k + 1) = sg k ++ (fm k).map (l ++ ·) := fun k => by rw [hsg]; simp [List.range_succ]
    have hsgN : sg N = σ ++ (plansM (keptB a pl) N (r + 1) left l).map (l ++ ·) := by rw [hsg, hpl]
    refine callA_start tokT hA Tryd.func110 rfl rfl rfl rfl rfl fun S hS => ?_
    cbv
    refine ⟨[x0, x1, x2, x3], [0, 0, 0, 0], rfl, rfl, rfl, rfl, ?_⟩
    cbv
    refine bm (fun c => Bool.noConfusion (hne.symm.trans c)) (fun _ => ?_)
    cbv
    refine at_code hS ?_
    refine wpa_loopG (α := Int × Nat × List (List Nat)) (fun q => { env := [(0, .sl 1 LL), (3, .b 5 0), (4, .cb (.agg [I b, .sl 3 TL]) 0), (5, .cb (.fn 102 [.cb (I ad) 0, .cb (.sl 1 KL) 0]) 0), (6, .b 6 0), (8, .b 7 0), (20, .sl 3 TL), (21, I (A.oi (A.len TL))), (22, I q.1)], H := hsGk ad KL nf b TL asg bdy bl nn mt q.2.2 ++ [.box (.agg [I x0, I x1, I x2, I x3])], nt := 52, dfs := [] })
      (fun q => N - q.2.1) (fun q => IsI q.1 q.2.1 ∧ q.2.1 ≤ N ∧ q.2.2 = sg q.2.1) (0, 0, σ) ⟨⟨rfl⟩, Nat.zero_le _, hsg0.symm⟩ ?_ ?_
    · exact gs_to [0, 1, 2, 3, 4, 5, 6, 7] ⟨by decide, pre7, ⟨rfl, rfl, rfl, rfl, rfl, rfl, rfl, rfl, trivial⟩, ⟨rfl, rfl, rfl, rfl, rfl, rfl, rfl, rfl, rfl, trivial⟩, rfl, rfl⟩
    rintro ⟨i, k, σc⟩ ⟨u1, u2, u3⟩
    dsimp only at u1 u2 u3
    refine wp_go tokT hA hS ?_
    cbv
    refine bm (fun c => ?_) (fun c => ?_)
    · have hk := yltL hA hN u1 c
      have hk4 : k < 4 := by omega
      have hin : A.inb i 4 := yinb hA u1 hk4
      have hf1 : A.fits .i64 (A.add i 1) := yfit1 hA u1 (by omega)
      have hu1 := ysucc hA u1
      have hms : N - (k + 1) < N - k := by omega
      obtain ⟨x, hxI, hxG⟩ := hxg k hk4
      have hfs : A.fits .i64 (A.sub x 1) := xfitE hA (xsub hA x 1) (by
        have h1 := hxI.eq
        have h2 := getD_le_sum left k
        omega)
      have hlt4 : A.ltN (A.addN 0 (A.mulN (A.tn i) 1)) [I x0, I x1, I x2, I x3] := yltO hA 0 u1 (m := 4) rfl (by omega)
      have hbn : A.bnot true = false := by subst hA; rfl
      have hgx := ygetO hA 0 u1 hxG
      by_cases h0 : left.getD k 0 = 0
      · have hx0 : A.cmp .eql x 0 = true := by rw [xeqb hA]; exact decide_eq_true (by have := hxI.eq; omega)
        have hs2 : σc = sg (k + 1) := by rw [hsgs, u3, hfm]; simp only [h0, true_or, if_true, List.map_nil, List.append_nil]
        cbv
        refine ⟨hin, ⟨_, hgx, ?_⟩⟩
        cbv
        refine bm (fun _ => ?_) (fun c => Bool.noConfusion (hx0.symm.trans c))
        cbv
        refine ops_callG hS (f := 102) (b := true) rfl rfl rfl rfl rfl rfl rfl rfl (fun h => Bool.noConfusion h) (fun _ => ?_)
        refine ops_go tokT hA hS ?_
        cbv
        refine ⟨hf1, ?_⟩
        refine gs_loop (A.add i 1, k + 1, σc) [0, 1, 2, 3, 4, 5, 6, 7] ⟨hu1, hk, hs2⟩ hms ?_
        exact ⟨by decide, pre7, ⟨rfl, rfl, rfl, rfl, rfl, rfl, rfl, rfl, trivial⟩, ⟨rfl, rfl, rfl, rfl, rfl, rfl, rfl, rfl, rfl, trivial⟩, rfl, rfl⟩
      · have hx0 : A.cmp .eql x 0 = false := by rw [xeqb hA]; exact decide_eq_false (by have := hxI.eq; omega)
        have hbnf : A.bnot false = true := by subst hA; rfl
        have hl2 : l.length ≤ 1000 := by omega
        have hat : k ≠ a → (wo a l).length < pl.length := fun h => hmd.lt h0 h
        by_cases hkb : keptB a pl l k = true
        · have hnk : ¬ (left.getD k 0 = 0 ∨ keptB a pl l k = false) := by rw [hkb]; simpa using h0
          have hmd' : Made a pl (left.set k (left.getD k 0 - 1)) (l ++ [k]) := hmd.next h0 hkb
          obtain ⟨left', hle⟩ : ∃ left', left' = left.set k (left.getD k 0 - 1) := ⟨_, rfl⟩
          have hlen' : left'.length = 4 := by rw [hle]; simp [hlen]
          obtain ⟨y0, y1, y2, y3, hy⟩ : ∃ y0 y1 y2 y3 : Int, left'.map (fun n : Nat => (n : Int)) = [y0, y1, y2, y3] := by
            obtain ⟨a0, a1, a2, a3, e⟩ := list4 hlen'
            exact ⟨a0, a1, a2, a3, by rw [e]; rfl⟩
          have hset : A.set [I x0, I x1, I x2, I x3] (A.addN 0 (A.mulN (A.tn i) 1)) (I (A.sub x 1)) = [I y0, I y1, I y2, I y3] := by
            refine ysetO hA 0 u1 ?_
            have e1 : ([I x0, I x1, I x2, I x3] : List D) = ([x0, x1, x2, x3] : List Int).map I := rfl
            have e2 : ([I y0, I y1, I y2, I y3] : List D) = ([y0, y1, y2, y3] : List Int).map I := rfl
            rw [e1, e2, ← hx, ← hy, hle, Nat.zero_add, xsub hA, hxI.eq]
            simp only [List.map_set]
            congr 1
            rw [Int.natCast_sub (by omega)]; rfl
          have hLL' : A.app LL [I i] = planL (l ++ [k]) := by rw [xapp hA, hLL, u1.eq]; simp [planL]
          have hapl : A.addN n 1 = A.len (A.app LL [I i]) := by subst hA; show n + 1 = (LL ++ [I i]).length; simp [hLn]
          have hsum' : left'.sum = r := by have := sum_set (i := k) h0; rw [hle]; omega
          have hl' : (l ++ [k]).length + r ≤ 100 := by simp; omega
          have hz' : ∀ i, N ≤ i → left'.getD i 0 = 0 := fun i hi => by
            rw [hle, getD_set _ _ _ _ _ (by omega), if_neg (by omega)]; exact hz i hi
          have hfk : (fm k).map (l ++ ·) = (plansM (keptB a pl) N r left' (l ++ [k])).map ((l ++ [k]) ++ ·) := by
            rw [hfm]; simp only [if_neg hnk, ← hle, List.map_map]
            exact List.map_congr_left fun p _ => by simp
          obtain ⟨rest', hps'⟩ : ∃ rest', ps = σc ++ ((plansM (keptB a pl) N r left' (l ++ [k])).map ((l ++ [k]) ++ ·) ++ rest') := by
            refine ⟨(((List.range (N - (k + 1))).map (k + 1 + ·)).flatMap fm).map (l ++ ·) ++ rest, ?_⟩
            have e1 : List.range N = List.range k ++ ([k] ++ (List.range (N - (k + 1))).map (k + 1 + ·)) := by
              conv => lhs; rw [show N = (k + 1) + (N - (k + 1)) by omega]
              rw [List.range_add, List.range_succ, List.append_assoc]
            rw [hps, hpl, e1, u3, hsg, ← hfk]
            simp [List.flatMap_append]
          rw [← hle] at hmd'
          cbv
          refine ⟨hin, ⟨_, hgx, ?_⟩⟩
          cbv
          refine bm (fun c => Bool.noConfusion (hx0.symm.trans c)) (fun _ => ?_)
          cbv
          refine ops_callG hS (b := false) rfl rfl rfl rfl rfl rfl rfl rfl (fun _ => ⟨[.cb (I ad) 0, .cb (.sl 1 KL) 0], _, [.sl 1 LL, I i, .cb (I ad) 0, .cb (.sl 1 KL) 0], [], [], rfl, rfl, rfl, by decide, trivial, bKept a ad had pl KL hKL l LL hLL hl2 k i u1 hat _ ?_⟩) (fun h => absurd rfl h)
          rw [hkb]
          refine ops_go tokT hA hS ?_
          cbv
          refine bm (fun c => Bool.noConfusion (hbn.symm.trans c)) (fun _ => ?_)
          cbv
          refine ⟨hin, ⟨_, hgx, ?_⟩⟩
          cbv
          refine ⟨hfs, hin, hlt4, ?_⟩
          refine code_gs hS (gs_weakB 8 (.agg [I y0, I y1, I y2, I y3]) rfl (show WkL (A.set [I x0, I x1, I x2, I x3] (A.addN 0 (A.mulN (A.tn i) 1)) (I (A.sub x 1))) [I y0, I y1, I y2, I y3] from hset ▸ WkL.rfl) (gs_done ?_))
          refine draw_go tokT hA hS [0, 1, 3, 4, 6, 2, 5, 7, 8] rfl rfl fun Dk hD => ?_
          cbv
          refine draw_call hA hD [.sl 1 LL] [] [] rfl rfl rfl rfl rfl rfl rfl rfl rfl rfl rfl (by decide) trivial (bCloneO LL n hLn hnM _ ⟨by cbv, draw_on tokT hA hD ?_⟩)
          cbv
          refine ⟨yeqLen hA hLn, yeqLen hA rfl, yroom1 hA hnM (by decide), ?_⟩
          refine draw_callF hA hD [11] rfl rfl rfl rfl rfl rfl fun CG hC => ?_
          cbv
          refine ⟨xeqN hA hapl, ?_⟩
          rw [hC]
          refine callG_of [.sl 1 (A.app LL [I i]), .agg [I y0, I y1, I y2, I y3], .cb z4D 0, .b 5 0, .cb (.agg [I b, .sl 3 TL]) 0, .cb (.fn 102 [.cb (I ad) 0, .cb (.sl 1 KL) 0]) 0, .b 6 0] [0, 1, 2, 3, 4, 5, 6] (hsGk ad KL nf b TL asg bdy bl nn mt σc) rfl rfl rfl rfl rfl (by decide) ⟨rfl, rfl, rfl, rfl, rfl, rfl, rfl, trivial⟩
            (ih left' (l ++ [k]) σc rest' hsum' hlen' hl' hz' hmd' hps' _ y0 y1 y2 y3 hLL' hy _ fun σ'' hσ'' => aftG_of hA tokT hD ?_ ?_)
          · cbv
          · have hs2 : σ'' = sg (k + 1) := by rw [hσ'', hsgs, hfk, u3]
            cbv
            refine bm (fun c => Bool.noConfusion (hbn.symm.trans c)) (fun _ => ?_)
            cbv
            refine ⟨hf1, ?_⟩
            refine gs_loop (A.add i 1, k + 1, σ'') [0, 1, 2, 3, 4, 5, 6, 7] ⟨hu1, hk, hs2⟩ hms ?_
            exact ⟨by decide, pre7, ⟨rfl, rfl, rfl, rfl, rfl, rfl, rfl, rfl, trivial⟩, ⟨rfl, rfl, rfl, rfl, rfl, rfl, rfl, rfl, rfl, trivial⟩, rfl, rfl⟩
        · replace hkb : keptB a pl l k = false := by simpa using hkb
          have hs2 : σc = sg (k + 1) := by rw [hsgs, u3, hfm]; simp only [hkb, or_true, if_true, List.map_nil, List.append_nil]
          cbv
          refine ⟨hin, ⟨_, hgx, ?_⟩⟩
          cbv
          refine bm (fun c => Bool.noConfusion (hx0.symm.trans c)) (fun _ => ?_)
          cbv
          refine ops_callG hS (b := false) rfl rfl rfl rfl rfl rfl rfl rfl (fun _ => ⟨[.cb (I ad) 0, .cb (.sl 1 KL) 0], _, [.sl 1 LL, I i, .cb (I ad) 0, .cb (.sl 1 KL) 0], [], [], rfl, rfl, rfl, by decide, trivial, bKept a ad had pl KL hKL l LL hLL hl2 k i u1 hat _ ?_⟩) (fun h => absurd rfl h)
          rw [hkb]
          refine ops_go tokT hA hS ?_
          cbv
          refine bm (fun _ => ?_) (fun c => Bool.noConfusion (hbnf.symm.trans c))
          cbv
          refine ⟨hf1, ?_⟩
          refine gs_loop (A.add i 1, k + 1, σc) [0, 1, 2, 3, 4, 5, 6, 7] ⟨hu1, hk, hs2⟩ hms ?_
          exact ⟨by decide, pre7, ⟨rfl, rfl, rfl, rfl, rfl, rfl, rfl, rfl, trivial⟩, ⟨rfl, rfl, rfl, rfl, rfl, rfl, rfl, rfl, rfl, trivial⟩, rfl, rfl⟩
    · have hk := ynltL hA hN u1 c
      have hkN : k = N := by omega
      have hq' := hq σc (by rw [u3, hkN, hsgN])
      cbv
      refine gs_done ?_
      cbv
      exact gh_view [0, 1, 2, 3, 4, 5, 6] (by decide) pre7 (H' := hsGk ad KL nf b TL asg bdy bl nn mt σc) (d' := .v (.bool true)) ⟨rfl, rfl, rfl, rfl, rfl, rfl, rfl, trivial⟩ rfl (gh_done hq')
set_option maxRecDepth 20000 in
set_option maxHeartbeats 4000000 in
/-- plans$1: all plans of a shop are handed out. -/
theorem bPlansItK (a : Nat) (ad : Int) (had : IsI ad a) (pl : List Nat) (KL : List D) (hKL : KL = planL pl) (nf : FuncId) (s : Sh) (hv : Val s) (TL : List D) (hT : TL = s.tasks.map taskD) (asg bdy : Code) (bl nn mt) (hR : RoundsK ad KL nf (.agg [I s.benches, .sl 3 TL]) asg bdy bl nn mt (plansK a pl s)) (hmd : Made a pl (leftS s) []) (Q)
    (hq : ∀ d, Q (RA.ret d) (hsBk ad KL nf (.agg [I s.benches, .sl 3 TL]) asg bdy bl nn mt (plansK a pl s))) :
    CallA Tryd.prog 109 [.yv 0, .cb (.agg [I s.benches, .sl 3 TL]) 0, .cb (.fn 102 [.cb (I ad) 0, .cb (.sl 1 KL) 0]) 0] (hsBk ad KL nf (.agg [I s.benches, .sl 3 TL]) asg bdy bl nn mt []) Q := by
  obtain ⟨A, hA⟩ : ∃ A, A = ar := ⟨_, rfl⟩
  have hlen := hv.len
  have hsum := hv.sum
  obtain ⟨N, hN⟩ : ∃ N, N = s.tasks.length := ⟨_, rfl⟩
  have hTl : TL.length = N := by rw [hT, hN]; simp
  have hN4 : N ≤ 4 := by omega
  obtain ⟨b, hb⟩ : ∃ b, b = s.benches := ⟨_, rfl⟩
  obtain ⟨σ0, hσ0⟩ : ∃ σ0 : List (List Nat), σ0 = [] := ⟨_, rfl⟩
  obtain ⟨ps, hps⟩ : ∃ ps, ps = plansK a pl s := ⟨_, rfl⟩
  rw [← hps] at hR hq
  rw [← hb] at hR hq ⊢
  rw [← hσ0]
  refine callA_start tokT hA Tryd.func109 rfl rfl rfl rfl rfl fun S hS => ?_
  cbv
  refine at_code hS ?_
  refine wpa_loopG (α := Int × Nat × List D) (fun q => { env := [(1, .cb (.agg [I b, .sl 3 TL]) 0), (2, .cb (.fn 102 [.cb (I ad) 0, .cb (.sl 1 KL) 0]) 0), (3, .b 5 0), (4, .b 6 0), (5, .b 7 0), (10, .sl 3 TL), (11, I (A.oi (A.len TL))), (12, I q.1)], H := hsBk ad KL nf (.agg [I b, .sl 3 TL]) asg bdy bl nn mt σ0 ++ [.box (.yv 0), .box z4D, .box (.arr q.2.2)], nt := 27, dfs := [] })
    (fun q => N - q.2.1) (fun q => IsI q.1 q.2.1 ∧ q.2.1 ≤ N ∧ q.2.2 = natL (leftK s q.2.1)) (0, 0, [I 0, I 0, I 0, I 0]) ⟨⟨rfl⟩, Nat.zero_le _, rfl⟩ ?_ ?_
  · refine gs_weakB 7 (.arr [I 0, I 0, I 0, I 0]) rfl WkL.rfl ?_
    exact gs_to [0, 1, 2, 3, 4, 5, 6, 7] ⟨by decide, pre5, ⟨rfl, rfl, rfl, rfl, rfl, rfl, rfl, rfl, trivial⟩, ⟨rfl, rfl, rfl, rfl, rfl, rfl, rfl, rfl, trivial⟩, rfl, rfl⟩
  rintro ⟨i, k, L⟩ ⟨u1, u2, u3⟩
  dsimp only at u1 u2 u3
  have hLl : L.length = 4 := by rw [u3]; simp [natL, leftK]
  have hNs : N ≤ k → natL (leftK s k) = natL (leftS s) := fun h => by rw [leftK_all hlen (by omega)]
  refine wp_go tokT hA hS ?_
  cbv
  refine bm (fun c => ?_) (fun c => ?_)
  · have hk := yltL hA hTl u1 c
    have hk4 : k < 4 := by omega
    obtain ⟨t, ht⟩ : ∃ t, t = s.tasks[k] := ⟨_, rfl⟩
    have htk : s.tasks[k]? = some t := by rw [ht]; exact List.getElem?_eq_getElem (by omega)
    obtain ⟨WL, hWL⟩ : ∃ WL, WL = t.works.map workD := ⟨_, rfl⟩
    have hWl : WL.length = t.works.length := by rw [hWL]; simp
    have hTk : TL[k]? = some (.agg [I t.ready, I t.due, .sl 3 WL]) := by rw [hT]; simp [htk, hWL, taskD]
    have hL2 : L.set (0 + k) (I (A.oi (A.len WL))) = natL (leftK s (k + 1)) := by
      rw [leftK_succ s hk4, leftS_at htk, u3, Nat.zero_add, yoiL hA hWl]; simp [natL]
    have hset := ysetO hA 0 u1 hL2.symm
    have hin := yinb hA u1 hk4
    have hlt := yltO hA (l := L) 0 u1 hLl (by omega)
    have hf1 := yfit1 hA u1 (by omega)
    have hu1 := ysucc hA u1
    have hms : N - (k + 1) < N - k := by omega
    cbv
    refine ⟨yinbL hA hTl u1 hk, ⟨_, yget hA u1 hTk, ?_⟩⟩
    cbv
    refine ⟨hin, hlt, hf1, ?_⟩
    refine gs_loop (A.add i 1, k + 1, A.set L (A.addN 0 (A.mulN (A.tn i) 1)) (I (A.oi (A.len WL)))) [0, 1, 2, 3, 4, 5, 6, 7] ⟨hu1, hk, hset⟩ hms ?_
    exact ⟨by decide, pre5, ⟨rfl, rfl, rfl, rfl, rfl, rfl, rfl, arr_ren _ (show frL (A.set L (A.addN 0 (A.mulN (A.tn i) 1)) (I (A.oi (A.len WL)))) = true from hset ▸ natL_fr _), trivial⟩, ⟨rfl, rfl, rfl, rfl, rfl, rfl, rfl, rfl, trivial⟩, rfl, rfl⟩
  · have hk := ynltL hA hTl u1 c
    obtain ⟨x0, x1, x2, x3, hx⟩ : ∃ x0 x1 x2 x3 : Int, (leftS s).map (fun n : Nat => (n : Int)) = [x0, x1, x2, x3] := by
      obtain ⟨a0, a1, a2, a3, e⟩ := list4 (leftS_len hlen)
      exact ⟨a0, a1, a2, a3, by rw [e]; rfl⟩
    have hLx : L = [I x0, I x1, I x2, I x3] := by
      rw [u3, hNs hk]
      have e1 : ([I x0, I x1, I x2, I x3] : List D) = ([x0, x1, x2, x3] : List Int).map I := rfl
      rw [e1, ← hx, natL, List.map_map]; rfl
    subst hLx
    have hli : A.lenIs [I x0, I x1, I x2, I x3] 4 := xlenIs hA rfl
    cbv
    refine gs_done ?_
    cbv
    refine ⟨hli, ?_⟩
    refine ops_gs hS (gs_frz hA [6] ?_)
    cbv
    refine gs_done ?_
    refine ops_call hS [.v (.slice none 0 0), .arr [I x0, I x1, I x2, I x3], .cb z4D 0, .b 5 0, .cb (.agg [I b, .sl 3 TL]) 0, .cb (.fn 102 [.cb (I ad) 0, .cb (.sl 1 KL) 0]) 0, .b 6 0] [0, 1, 2, 3, 4, 5, 8] (hsGk ad KL nf b TL asg bdy bl nn mt σ0) rfl rfl rfl rfl rfl rfl rfl rfl (by decide) ⟨rfl, rfl, rfl, rfl, rfl, rfl, rfl, trivial⟩
      (callA_weak (as' := [.sl 1 [], .agg [I x0, I x1, I x2, I x3], .cb z4D 0, .b 5 0, .cb (.agg [I b, .sl 3 TL]) 0, .cb (.fn 102 [.cb (I ad) 0, .cb (.sl 1 KL) 0]) 0, .b 6 0]) ⟨WkD.nil, WkD.arrAgg rfl, .rfl, .rfl, .rfl, .rfl, .rfl, trivial⟩
        (bGrowK a ad had pl KL hKL nf b TL N hTl hN4 asg bdy bl nn mt ps hR (nWorks s.tasks) (leftS s) [] σ0 [] (leftS_sum s) (leftS_len hlen) (by simp; omega) (fun i hi => leftS_out (by omega)) hmd (by rw [hps, hσ0, plansK, hN]; simp) [] x0 x1 x2 x3 rfl hx _ fun σ' hσ' => ?_))
    have hσp : σ' = ps := by rw [hσ', hps, hσ0, plansK, hN]; simp
    rw [hσp]
    refine ops_go tokT hA hS ?_
    cbv
    exact gh_view [0, 1, 2, 3, 4] (by decide) pre5 (H' := hsBk ad KL nf (.agg [I b, .sl 3 TL]) asg bdy bl nn mt ps) (d' := .tup []) ⟨rfl, rfl, rfl, rfl, rfl, trivial⟩ rfl (gh_done (hq _))
set_option maxRecDepth 20000 in
set_option maxHeartbeats 4000000 in
/-- least, for any number. -/
theorem bLeastK (a : Nat) (ad : Int) (had : IsI ad a) (pl : List Nat) (KL : List D) (hKL : KL = planL pl) (nf : FuncId) (num : List Nat → Int) (s : Sh) (hv : Val s) (TL : List D) (hT : TL = s.tasks.map taskD) (hcl : ∀ p ∈ plansK a pl s, ∀ LL n, LL = planL p → n = num p → ∀ Q, Q (RA.ret (I n)) [] → CallA Tryd.prog nf [.sl 1 LL, .cb (.agg [I s.benches, .sl 3 TL]) 0] [] Q) (hmd : Made a pl (leftS s) []) (Q)
    (hq : ∀ PL n, PL = planL (leastS num (plansK a pl s)).2.1 → n = (leastS num (plansK a pl s)).2.2 → Q (RA.ret (.tup [.sl 1 PL, I n])) []) :
    CallA Tryd.prog 80 [.fn 109 [.cb (.agg [I s.benches, .sl 3 TL]) 0, .cb (.fn 102 [.cb (I ad) 0, .cb (.sl 1 KL) 0]) 0], .fn nf [.cb (.agg [I s.benches, .sl 3 TL]) 0]] [] Q := by
  obtain ⟨A, hA⟩ : ∃ A, A = ar := ⟨_, rfl⟩
  obtain ⟨bl, hbl⟩ : ∃ bl : List (List Nat) → List D, bl = fun σ => planL (leastS num σ).2.1 := ⟨_, rfl⟩
  obtain ⟨nn, hnn⟩ : ∃ nn : List (List Nat) → Int, nn = fun σ => (leastS num σ).2.2 := ⟨_, rfl⟩
  obtain ⟨mt, hmt⟩ : ∃ mt : List (List Nat) → Bool, mt = fun σ => (leastS num σ).1 := ⟨_, rfl⟩
  obtain ⟨ps, hpsE⟩ : ∃ ps, ps = plansK a pl s := ⟨_, rfl⟩
  obtain ⟨σ0, hσ0⟩ : ∃ σ0 : List (List Nat), σ0 = [] := ⟨_, rfl⟩
  rw [← hpsE] at hcl hq
  have hbl0 : bl σ0 = [] := by rw [hbl, hσ0]; rfl
  have hnn0 : nn σ0 = 0 := by rw [hnn, hσ0]; rfl
  have hmt0 : mt σ0 = false := by rw [hmt, hσ0]; rfl
  have hyes : ∀ σ σ' p, σ' = σ ++ [p] → (mt σ = false ∨ num p < nn σ) → bl σ' = planL p ∧ nn σ' = num p ∧ mt σ' = true := fun σ σ' p e h => by
    rw [hmt, hnn] at h
    have := leastS_snoc num σ p
    rw [if_pos h] at this
    rw [hbl, hnn, hmt, e]; simp only [this, and_self]
  have hno : ∀ σ σ' p, σ' = σ ++ [p] → mt σ = true → nn σ ≤ num p → bl σ' = bl σ ∧ nn σ' = nn σ ∧ mt σ' = mt σ := fun σ σ' p e h1 h2 => by
    rw [hmt] at h1; rw [hnn] at h2
    have := leastS_snoc num σ p
    rw [if_neg (by simp only [h1]; simp; exact h2)] at this
    rw [hbl, hnn, hmt, e]; simp only [this, and_self]
  refine callA_startM tokT hA Tryd.func80 rfl rfl rfl rfl rfl fun S hS => ?_
  cbv
  refine code_gs hS (gs_weakB 2 (.sl 1 []) rfl ⟨WkD.nil, trivial⟩ (gs_view (a := { env := [(9, .fn 109 [.cb (.agg [I s.benches, .sl 3 TL]) 0, .cb (.fn 102 [.cb (I ad) 0, .cb (.sl 1 KL) 0]) 0]), (3, .b 1 0), (4, .b 2 0), (5, .b 3 0), (6, .b 4 0)], H := [.ob .mk, .box (.fn nf [.cb (.agg [I s.benches, .sl 3 TL]) 0]), .box (.sl 1 (bl σ0)), .box (I (nn σ0)), .box (.v (.bool (mt σ0)))], nt := 25, dfs := [.mk 0] }) [0, 1, 2, 3, 4] ⟨by decide, pre0, ⟨rfl, rfl, by rw [hbl0]; rfl, by rw [hnn0]; rfl, by rw [hmt0]; rfl, trivial⟩, ⟨rfl, rfl, rfl, rfl, rfl, trivial⟩, rfl, rfl⟩ (gs_done ?_)))
  refine code_rangeFunc hS (as' := [.yv 0, .cb (.agg [I s.benches, .sl 3 TL]) 0, .cb (.fn 102 [.cb (I ad) 0, .cb (.sl 1 KL) 0]) 0]) [5, 1, 2, 3, 4] (hsBk ad KL nf (.agg [I s.benches, .sl 3 TL]) _ _ bl nn mt σ0) rfl rfl rfl rfl (by decide) ⟨rfl, rfl, rfl, rfl, rfl, trivial⟩ ?_
  rw [hσ0]
  refine bPlansItK a ad had pl KL hKL nf s hv TL hT _ _ bl nn mt ⟨fun σ p rest σ' hp hσ LL hLL Q hq => ?_⟩ hmd _ fun d => ?_
  · have hpM : p ∈ ps := by rw [hpsE, hp]; simp
    obtain ⟨n, hn⟩ : ∃ n, n = num p := ⟨_, rfl⟩
    have hy := hyes σ σ' p hσ
    have hz := hno σ σ' p hσ
    rw [← hn] at hy hz
    refine roundA_go tokT hA rfl rfl (by decide) fun b' S2 hS2 => ?_
    cbv
    refine at_code hS2 ?_
    refine wp_go tokT hA hS2 ?_
    cbv
    refine ops_call hS2 [.sl 1 LL, .cb (.agg [I s.benches, .sl 3 TL]) 0] [] [] rfl rfl rfl rfl rfl rfl rfl rfl (by decide) trivial (hcl p hpM LL n hLL hn _ ?_)
    refine ops_go tokT hA hS2 ?_
    cbv
    refine bm (fun c => ?_) (fun c => ?_)
    · obtain ⟨e1, e2, e3⟩ := hy (.inl (xnot hA c))
      rw [← hLL] at e1
      have hq2 := hq
      unfold hsBk at hq2
      rw [e1, e2, e3] at hq2
      cbv
      exact ⟨⟨_, _, rfl⟩, hq2⟩
    · have c0 := xnnot hA c
      cbv
      refine bm (fun c2 => ?_) (fun c2 => ?_)
      · obtain ⟨e1, e2, e3⟩ := hy (.inr (xlt hA c2))
        rw [← hLL] at e1
        have hq2 := hq
        unfold hsBk at hq2
        rw [e1, e2, e3] at hq2
        cbv
        exact ⟨⟨_, _, rfl⟩, hq2⟩
      · obtain ⟨e1, e2, e3⟩ := hz c0 (xnlt hA c2)
        have hq2 := hq
        unfold hsBk at hq2
        rw [e1, e2, e3] at hq2
        cbv
        exact ⟨⟨_, _, rfl⟩, hq2⟩
  · have hq1 := hq (bl ps) (nn ps) (by rw [hbl]) (by rw [hnn])
    rw [← hpsE]
    refine ⟨⟨.ready, _, (by intro h; cases h), rfl⟩, ?_⟩
    cbv
    refine draw_go tokT hA hS [0, 1, 2, 3] rfl rfl fun Dk hD => ?_
    cbv
    exact gh_view [] (by decide) pre0 (H' := []) (d' := .tup [.sl 1 (bl ps), I (nn ps)]) trivial rfl (gh_done hq1)

end Go.Proofs.YtmloogdalecilaaDoor

/-! D63 -/
namespace Go.Proofs.YtmloogdalecilaaDoor
open Go Go.Abs Go.Proofs

/-- A shop with an order more. -/
def addT (s : Sh) (t : Tk) : Sh := ⟨s.benches, s.tasks ++ [t]⟩

theorem made_add {s x : Sh} {t : Tk} (hx : x = addT s t) {p : List Nat} (hp : PlanOk s p) {N : Nat} (hN : N = s.tasks.length) : Made N p (leftS x) [] := by
  have h2 : x.tasks[N]? = some t := by rw [hx, hN]; simp [addT]
  refine ⟨List.nil_prefix, ?_⟩
  have h3 : nWorks x.tasks = nWorks s.tasks + t.works.length := by rw [hx]; simp [addT, nWorks]
  rw [leftS_sum, leftS_at h2, hp.len, h3]; simp [wo]

theorem plansK_eq {a : Nat} {pl : List Nat} {x : Sh} (h : Made a pl (leftS x) []) : plansK a pl x = (plansS x).filter fun p => decide (wo a p = pl) := by
  rw [plansK, plansM_eq _ _ _ (leftS_sum x) h]; rfl
theorem plansK_sub {a : Nat} {pl : List Nat} {x : Sh} (h : Made a pl (leftS x) []) {p : List Nat} (hp : p ∈ plansK a pl x) : p ∈ plansS x := by
  rw [plansK_eq h] at hp; exact (List.mem_filter.1 hp).1

/-- slices.Clone, of orders: an own row. -/
theorem bCloneT (L : List D) (n : Nat) (hn : L.length = n) (hl : n ≤ 1000000) (Q) (hq : Q (RA.ret (.o 0 3 n)) [.els 3 L]) : CallA Tryd.prog 101 [.sl 3 L] [] Q := by
  obtain ⟨A, hA⟩ : ∃ A, A = ar := ⟨_, rfl⟩
  refine callA_start tokT hA Tryd.func101 rfl rfl rfl rfl rfl fun S hS => ?_
  cbv
  refine ⟨fun b hb => ?_⟩
  cbv
  refine bm (fun c => ?_) (fun c => ?_)
  · have h0 : n = 0 := by have := hb c; subst hA; exact hn.symm.trans this
    subst h0
    have hL : L = [] := List.length_eq_zero_iff.1 hn
    subst hL
    cbv
    exact gh_virt 3 (by decide) (gh_done hq)
  · cbv
    refine ⟨yeqLen hA rfl, ?_, gh_view [1] (by decide) pre0 (H' := [.els 3 L]) (d' := .o 0 3 n) ⟨by subst hA; rfl, trivial⟩ ?_ (gh_done hq)⟩
    · subst hA; subst hn; exact ⟨show (0 + L.length) * 40 ≤ 140737488355328 by omega, show 0 + L.length ≤ 4611686018427387904 by omega⟩
    · subst hA; subst hn; show D.o 1 3 L.length = D.o 1 3 (0 + L.length); rw [Nat.zero_add]

set_option maxRecDepth 20000 in
/-- PutIn$2. -/
theorem bPutIn2 (s : Sh) (hv : Val s) (p : List Nat) (hp : PlanLe s p) (hpl : p.length ≤ 20) (TL PL : List D) (hT : TL = s.tasks.map taskD) (hP : PL = planL p) (n : Int) (hn : n = worst s p) (Q) (hq : Q (RA.ret (I n)) []) :
    CallA Tryd.prog 103 [.sl 1 PL, .cb (.agg [I s.benches, .sl 3 TL]) 0] [] Q := by
  obtain ⟨A, hA⟩ : ∃ A, A = ar := ⟨_, rfl⟩
  obtain ⟨RL, hRL⟩ : ∃ RL, RL = (runS s (fun _ => 0) p).map slotD := ⟨_, rfl⟩
  refine callA_start tokT hA Tryd.func103 rfl rfl rfl rfl rfl fun S hS => ?_
  cbv
  refine ops_call hS [.agg [I s.benches, .sl 3 TL, .sl 1 PL], .v (.map none)] [] [] rfl rfl rfl rfl rfl rfl rfl rfl (by decide) trivial (bRun s hv p hp hpl TL PL hT hP _ ?_)
  rw [← hRL]
  refine ops_go tokT hA hS ?_
  cbv
  refine ops_call hS [.sl 7 RL] [] [] rfl rfl rfl rfl rfl rfl rfl rfl (by decide) trivial (bLast' _ RL hRL (by rw [runS_length]; omega) _ fun lo e hlh => ?_)
  have he : e = n := by rw [hn, worst, hlh]
  rw [he]
  refine ops_go tokT hA hS ?_
  cbv
  exact gh_done hq

set_option maxRecDepth 20000 in
set_option maxHeartbeats 4000000 in
theorem bPutIn (s : Sh) (hs : Fin s) (hb : NotBig s) (pl : List Int) (hpl : pl.length ≤ 1000000) (TL PL : List D) (hT : TL = s.tasks.map taskD) (hP : PL = pl.map I) (t : Tk) (WL : List D) (hW : WL = t.works.map workD) (hx : Fin (addT s t)) (Q)
    (he1 : ∀ e, e = chkSP s pl → e ≠ 0 → Q (RA.ret (.tup [.v (.slice none 0 0), I 0, I e])) []) 
    (he2 : ∀ e, chkSP s pl = 0 → e = chkS (addT s t) → e ≠ 0 → Q (RA.ret (.tup [.v (.slice none 0 0), I 0, I e])) []) 
    (hq : ∀ p, PlanOk s p → pl = p.map (fun i : Nat => (i : Int)) → ShopOk (addT s t) → ∀ BL n, BL = planL (leastS (worst (addT s t)) (plansK s.tasks.length p (addT s t))).2.1 → n = (leastS (worst (addT s t)) (plansK s.tasks.length p (addT s t))).2.2 → Q (RA.ret (.tup [.sl 1 BL, I n, I 0])) []) :
    CallA Tryd.prog 65 [.agg [I s.benches, .sl 3 TL], .sl 1 PL, .agg [I t.ready, I t.due, .sl 3 WL]] [] Q := by
  obtain ⟨A, hA⟩ : ∃ A, A = ar := ⟨_, rfl⟩
  obtain ⟨N, hN⟩ : ∃ N, N = s.tasks.length := ⟨_, rfl⟩
  have hTl : TL.length = N := by rw [hT, hN]; simp
  have hNb : N ≤ 20 := by rw [hN]; exact hb.1
  obtain ⟨e1, he1'⟩ : ∃ e, e = chkSP s pl := ⟨_, rfl⟩
  obtain ⟨e4, he2'⟩ : ∃ e, e = chkS (addT s t) := ⟨_, rfl⟩
  have hq1 := he1 e1 he1'
  have hq2 := fun h => he2 e4 h he2'
  refine callA_start tokT hA Tryd.func65 rfl rfl rfl rfl rfl fun S hS => ?_
  cbv
  refine ops_call hS [.agg [I s.benches, .sl 3 TL], .sl 1 PL] [] [] rfl rfl rfl rfl rfl rfl rfl rfl (by decide) trivial (bCheckPlanAny s hs pl hpl TL PL hT hP e1 he1' _ ?_)
  refine ops_go tokT hA hS ?_
  cbv
  refine bm (fun c => ?_) (fun c => ?_)
  · have hq1' := hq1 (xne hA c)
    cbv
    exact gh_view [] (by decide) pre0 (H' := []) (d' := .tup [.v (.slice none 0 0), I 0, I e1]) trivial rfl (gh_done hq1')
  have h10 : chkSP s pl = 0 := by have := xnne hA c; omega
  cbv
  refine draw_go tokT hA hS [0, 1, 3, 4, 2, 5, 6, 7] rfl rfl fun Dk hD => ?_
  cbv
  refine draw_call hA hD [.sl 3 TL] [] [] rfl rfl rfl rfl rfl rfl rfl rfl rfl rfl rfl (by decide) trivial (bCloneT TL N hTl (by omega) _ ⟨by cbv, draw_on tokT hA hD ?_⟩)
  cbv
  have h1 : A.eqN N (A.len TL) := xeqN hA (by rw [xlen hA, hTl])
  have hr2 : A.room (A.addN N 1) 40 := by rw [xaddN hA]; exact yroomN hA (by omega) (by decide)
  obtain ⟨n2, hn2⟩ : ∃ n2, n2 = A.addN N 1 := ⟨_, rfl⟩
  obtain ⟨X, hX⟩ : ∃ X, X = A.app TL [.agg [I t.ready, I t.due, .sl 3 WL]] := ⟨_, rfl⟩
  have eX : X = (addT s t).tasks.map taskD := by rw [hX, xapp hA, hT, hW]; simp [taskD, addT]
  have e2 : n2 = X.length := by rw [hn2, xaddN hA, eX]; simp [hN, addT]
  refine ⟨h1, yeqLen hA rfl, hr2, ?_⟩
  refine ops_gs hS (gs_elsE 7 rfl hX.symm ?_)
  refine gs_frz hA [7] ?_
  cbv
  rw [hn2] at e2
  have e3 : A.eqN (A.addN N 1) (A.len X) := xeqN hA (by rw [xlen hA]; exact e2)
  refine ⟨e3, e3, e3, gs_done ?_⟩
  clear hX
  obtain ⟨x, hxE⟩ : ∃ x, x = addT s t := ⟨_, rfl⟩
  have hxb : x.benches = s.benches := by rw [hxE]; rfl
  rw [← hxE] at hx eX he2' hq
  have hck : ∀ Q, Q (RA.ret (I e4)) [] → CallA Tryd.prog 52 [.agg [I s.benches, .sl 3 X]] [] Q := fun Q hq => by
    have := bCheck x hx X eX e4 he2' Q hq
    rw [hxb] at this; exact this
  refine ops_call hS [.agg [I s.benches, .sl 3 X]] [] [] rfl rfl rfl rfl rfl rfl rfl rfl (by decide) trivial (hck _ ?_)
  refine ops_go tokT hA hS ?_
  cbv
  refine bm (fun c => ?_) (fun c => ?_)
  · have hq2' := hq2 h10 (xne hA c)
    cbv
    exact gh_view [] (by decide) pre0 (H' := []) (d' := .tup [.v (.slice none 0 0), I 0, I e4]) trivial rfl (gh_done hq2')
  have h40 : chkS x = 0 := by have := xnne hA c; omega
  obtain ⟨hok, p, hp, hpe⟩ := planX_of hs h10
  have hxok : ShopOk x := shop_ok hx h40
  have hxv := chkS_val h40
  have hPp : PL = planL p := by rw [hP, hpe, List.map_map]; rfl
  have hio : IsI (A.oi (A.len TL)) N := ⟨yoiL hA hTl⟩
  have hmd : Made N p (leftS x) [] := made_add hxE hp hN
  have hq3 := hq p hp hpe hxok
  rw [← hN] at hq3
  have hcl : ∀ p' ∈ plansK N p x, ∀ LL n, LL = planL p' → n = worst x p' → ∀ Q, Q (RA.ret (I n)) [] → CallA Tryd.prog 103 [.sl 1 LL, .cb (.agg [I x.benches, .sl 3 X]) 0] [] Q := fun p' hp' LL n hL hn Q hq => by
    have h1 := plansS_ok hxv (plansK_sub hmd hp')
    exact bPutIn2 x hxv p' h1.le (by have := h1.len; have := hxv.sum; omega) X LL eX hL n hn Q hq
  have hls := bLeastK N (A.oi (A.len TL)) hio p PL hPp 103 (worst x) x hxv X eX hcl hmd
  rw [hxb] at hls
  cbv
  refine ops_gs hS (gs_frz hA [1, 3, 4] ?_)
  cbv
  refine gs_done ?_
  refine ops_call hS [.agg [I s.benches, .sl 3 X], .fn 102 [.cb (I (A.oi (A.len TL))) 0, .cb (.sl 1 PL) 0]] [] [] rfl rfl rfl rfl rfl rfl rfl rfl (by decide) trivial (bPlansK (A.oi (A.len TL)) PL s.benches X _ ?_)
  refine ops_go tokT hA hS ?_
  cbv
  refine ops_call hS [.fn 109 [.cb (.agg [I s.benches, .sl 3 X]) 0, .cb (.fn 102 [.cb (I (A.oi (A.len TL))) 0, .cb (.sl 1 PL) 0]) 0], .fn 103 [.cb (.agg [I s.benches, .sl 3 X]) 0]] [] [] rfl rfl rfl rfl rfl rfl rfl rfl (by decide) trivial (hls _ fun BL n hB hn => ?_)
  refine ops_go tokT hA hS ?_
  cbv
  exact gh_view [] (by decide) pre0 (H' := []) (d' := .tup [.sl 1 BL, I n, I 0]) trivial rfl (gh_done (hq3 BL n hB hn))
end Go.Proofs.YtmloogdalecilaaDoor
