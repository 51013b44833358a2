/- Part BenchC of the proofs about the benches of the accordion maker: see the last text of the claim for what is proved. -/
import Derived.Test.YtmloogdalecilaaDoorBenchB
import Derived.Test.YtmloogdalecilaaDoorMachD
set_option linter.unusedVariables false
set_option linter.unusedSimpArgs false
set_option linter.unnecessarySimpa false
set_option linter.constructorNameAsVariable false

/-! D17 -/
namespace Go.Proofs.YtmloogdalecilaaDoor
open Go Go.Abs Go.Proofs

theorem bub_succ {l : List Sl} {j : Nat} {x y : Sl} (h1 : l[j + 1]? = some x) (h2 : l[j]? = some y) : bub l (j + 1) = if x.k < y.k then bub (swp l (j + 1)) j else l := by
  rw [bub, h1, h2]

set_option maxRecDepth 20000 in
set_option maxHeartbeats 2000000 in
/-- insertionSortCmpFunc, of a row of slots. -/
theorem bIns (l : List Sl) (hk : ∀ x ∈ l, 0 ≤ x.k ∧ x.k ≤ 1000) (hl : l.length ≤ 1000) (n : Int) (hn : IsI n l.length) (N : Nat) (hN : N = l.length) (L : List D) (hL : L = l.map slotD) (Q) (hq : ∀ d L', L' = (sortS l).map slotD → Q (RA.ret d) [.els 7 L']) :
    CallA Tryd.prog 130 [.o 0 7 N, I 0, I n, .fn 113 []] [.els 7 L] Q := by
  obtain ⟨A, hA⟩ : ∃ A, A = ar := ⟨_, rfl⟩
  have h01 : IsI (A.add 0 1) 1 := ysucc hA ⟨rfl⟩
  have hf1 : A.fits .i64 (A.add 0 1) := yfit1 hA (k := 0) ⟨rfl⟩ (by decide)
  refine callA_start tokT hA Tryd.func130 rfl rfl rfl rfl rfl fun S hS => ?_
  cbv
  refine ⟨hf1, ?_⟩
  refine at_code hS ?_
  refine wpa_loopG (α := Int × Nat × List Sl × List D) (fun q => { env := [(0, .o 0 7 N), (1, I 0), (2, I n), (3, .fn 113 []), (8, I q.1)], H := [.els 7 q.2.2.2], nt := 53, dfs := [] })
    (fun q => l.length - q.2.1) (fun q => IsI q.1 q.2.1 ∧ 1 ≤ q.2.1 ∧ q.2.2.2 = q.2.2.1.map slotD ∧ q.2.2.1.length = l.length ∧ (∀ x ∈ q.2.2.1, 0 ≤ x.k ∧ x.k ≤ 1000) ∧ sortS l = insS q.2.2.1 q.2.1 (l.length - q.2.1)) (A.add 0 1, 1, l, L) ⟨h01, Nat.le_refl _, hL, rfl, hk, rfl⟩ ?_ ?_
  · exact gs_to [0] ⟨by decide, pre1, ⟨rfl, trivial⟩, ⟨rfl, rfl, rfl, rfl, rfl, trivial⟩, rfl, rfl⟩
  rintro ⟨i, k, l1, L1⟩ ⟨u1, u2, u3, u4, u5, u6⟩
  dsimp only at u1 u2 u3 u4 u5 u6
  refine wp_go tokT hA hS ?_
  cbv
  split
  · rename_i c
    have hkn : k < l.length := by have := xlt hA c; have := u1.eq; have := hn.eq; omega
    cbv
    refine at_code hS ?_
    refine wpa_loopG (α := Int × Nat × List Sl × List D) (fun q => { env := [(0, .o 0 7 N), (1, I 0), (2, I n), (3, .fn 113 []), (8, I i), (9, I q.1)], H := [.els 7 q.2.2.2], nt := 53, dfs := [] })
      (fun q => q.2.1) (fun q => IsI q.1 q.2.1 ∧ q.2.1 ≤ k ∧ q.2.2.2 = q.2.2.1.map slotD ∧ q.2.2.1.length = l.length ∧ (∀ x ∈ q.2.2.1, 0 ≤ x.k ∧ x.k ≤ 1000) ∧ bub l1 k = bub q.2.2.1 q.2.1) (i, k, l1, L1) ⟨u1, Nat.le_refl _, u3, u4, u5, rfl⟩ ?_ ?_
    · exact gs_to [0] ⟨by decide, pre1, ⟨rfl, trivial⟩, ⟨rfl, rfl, rfl, rfl, rfl, rfl, trivial⟩, rfl, rfl⟩
    rintro ⟨j, m, l2, L2⟩ ⟨v1, v2, v3, v4, v5, v6⟩
    dsimp only at v1 v2 v3 v4 v5 v6
    have hz : m = 0 ∨ ∃ m', m = m' + 1 := by cases m with | zero => exact .inl rfl | succ m => exact .inr ⟨m, rfl⟩
    rcases hz with hz | ⟨m', hz⟩
    · subst hz
      have hj0 : A.cmp .gtr j 0 = false := by have := v1.eq; subst hA; simp [ar, cmpI]; omega
      have hend : L2 = (bub l1 k).map slotD ∧ (bub l1 k).length = l.length ∧ (∀ x ∈ bub l1 k, 0 ≤ x.k ∧ x.k ≤ 1000) := by
        have e : bub l1 k = l2 := v6.trans rfl
        rw [e]; exact ⟨v3, v4, v5⟩
      have hS2 : sortS l = insS (bub l1 k) (k + 1) (l.length - (k + 1)) := by
        rw [u6, show l.length - k = (l.length - (k + 1)) + 1 by omega, insS]
      refine wp_go tokT hA hS ?_
      cbv
      refine draw_goE tokT hA hS [2] [0, 1, 2, 3, 4, 5, 6, 7, 8, 9, 10, 11, 12, 13, 14, 15, 16] rfl rfl fun Dk hD => ?_
      cbv
      refine draw_val tokT hA hD [] (.v (.bool false)) rfl rfl rfl rfl rfl rfl (congrArg (fun b => D.v (.bool b)) hj0) ?_
      cbv
      refine draw_callG hA hD (f := 113) (b := false) rfl rfl rfl rfl rfl rfl rfl rfl rfl rfl rfl (fun h => Bool.noConfusion h) (fun _ => ⟨by cbv, draw_on tokT hA hD ?_⟩)
      cbv
      refine gs_done ?_
      cbv
      refine ⟨yfit1 hA u1 (by omega), ?_⟩
      refine gs_loop (A.add i 1, k + 1, bub l1 k, L2) [0] ⟨ysucc hA u1, by simp only; omega, hend.1, hend.2.1, hend.2.2, hS2⟩ (by simp only; omega) ?_
      exact ⟨by decide, pre1, ⟨rfl, trivial⟩, ⟨rfl, rfl, rfl, rfl, rfl, trivial⟩, rfl, rfl⟩
    · subst hz
      have hj0 : A.cmp .gtr j 0 = true := by have := v1.eq; subst hA; simp [ar, cmpI]; omega
      have hlen : m' + 1 < l2.length := by omega
      obtain ⟨x, hx⟩ : ∃ x, x = l2[m' + 1] := ⟨_, rfl⟩
      obtain ⟨y, hy⟩ : ∃ y, y = l2[m'] := ⟨_, rfl⟩
      have hgx : l2[m' + 1]? = some x := by rw [hx]; exact List.getElem?_eq_getElem hlen
      have hgy : l2[m']? = some y := by rw [hy]; exact List.getElem?_eq_getElem (by omega)
      have hLx : L2[m' + 1]? = some (slotD x) := by rw [v3]; simp [hgx]
      have hLy : L2[m']? = some (slotD y) := by rw [v3]; simp [hgy]
      have hjs : IsI (A.sub j 1) m' := ⟨by rw [xsub hA, v1.eq]; omega⟩
      have hjf : A.fits .i64 (A.sub j 1) := xfitE hA (xsub hA j 1) (by have := v1.eq; omega)
      have hkx := v5 x (List.mem_of_getElem? hgx)
      have hky := v5 y (List.mem_of_getElem? hgy)
      have hin1 : A.inb j N := yinb hA v1 (by omega)
      have hin2 : A.inb (A.sub j 1) N := yinb hA hjs (by omega)
      have hbs := bub_succ hgx hgy
      refine wp_go tokT hA hS ?_
      cbv
      refine draw_goE tokT hA hS [2] [0, 1, 2, 3, 4, 5, 6, 7, 8, 9, 10, 11, 12, 13, 14, 15, 16] rfl rfl fun Dk hD => ?_
      cbv
      refine draw_val tokT hA hD [] (.v (.bool true)) rfl rfl rfl rfl rfl rfl (congrArg (fun b => D.v (.bool b)) hj0) ?_
      cbv
      refine ⟨hin1, ⟨_, yget hA v1 hLx, ?_⟩⟩
      cbv
      refine ⟨hjf, hin2, ⟨_, yget hA hjs hLy, ?_⟩⟩
      cbv
      refine draw_callG hA hD (b := true) rfl rfl rfl rfl rfl rfl rfl rfl rfl rfl rfl (fun _ => ⟨[], _, [slotD x, slotD y], [], [], rfl, rfl, rfl, by decide, trivial, bCmp _ _ _ _ _ _ _ _ _ _ _ _ _ _ hkx hky _ fun z hz => ⟨by cbv, draw_on tokT hA hD ?_⟩⟩) (fun h => absurd rfl h)
      cbv
      refine bm (fun c2 => ?_) (fun c2 => ?_)
      · have d2 := xlt hA c2
        rw [if_pos (by omega)] at hbs
        have hsw : swp l2 (m' + 1) = (l2.set (m' + 1) y).set m' x := by unfold swp; rw [hgx, Nat.add_sub_cancel, hgy]
        obtain ⟨L3, hL3⟩ : ∃ L3, L3 = L2.set (m' + 1) (slotD y) := ⟨_, rfl⟩
        obtain ⟨L4, hL4⟩ : ∃ L4, L4 = L3.set m' (slotD x) := ⟨_, rfl⟩
        have hm4 : L4 = (swp l2 (m' + 1)).map slotD := by rw [hL4, hL3, v3, hsw]; simp
        have hset1 := yset (x := slotD y) hA v1 hL3
        have hset2 := yset (x := slotD x) hA hjs hL4
        have hg2 : A.get (A.set L2 (A.tn j) (slotD y)) (A.tn (A.sub j 1)) = some (slotD y) := by
          rw [hset1]; exact yget hA hjs (by rw [hL3, List.getElem?_set_ne (by omega)]; exact hLy)
        have hl2 : L2.length = N := by rw [v3]; simp; omega
        have hl3 : L3.length = N := by rw [hL3]; simp [hl2]
        have hlt1 : A.ltN (A.tn j) L2 := by rw [ytn hA v1]; exact xltN hA hl2 (by omega)
        have hlt2 : A.ltN (A.tn (A.sub j 1)) L3 := by rw [ytn hA hjs]; exact xltN hA hl3 (by omega)
        cbv
        refine draw_go tokT hA hS [0, 1, 2, 3, 4, 5, 6, 7, 8, 9, 10, 11, 12, 13, 14, 15, 16, 17] rfl rfl fun Dk2 hD2 => ?_
        cbv
        refine ⟨hjf, hjf, hin2, ⟨_, yget hA hjs hLy, ?_⟩⟩
        cbv
        refine ⟨hin1, ⟨_, yget hA v1 hLx, ?_⟩⟩
        cbv
        refine ⟨hin1, ⟨_, yget hA v1 hLx, ?_⟩⟩
        cbv
        refine ⟨hin2, ⟨_, hg2, ?_⟩⟩
        cbv
        refine ⟨hjf, ?_⟩
        refine gs_loop (A.sub j 1, m', swp l2 (m' + 1), A.set (A.set L2 (A.tn j) (slotD y)) (A.tn (A.sub j 1)) (slotD x)) [0] ⟨hjs, by simp only; omega, ?_, ?_, ?_, v6.trans hbs⟩ (Nat.lt_succ_self _) ?_
        · show A.set _ _ _ = _
          rw [hset1, hset2, hm4]
        · simp only; rw [swp_length]; exact v4
        · exact fun z hz => v5 z (swp_mem hz)
        · exact ⟨by decide, pre1, ⟨rfl, trivial⟩, ⟨rfl, rfl, rfl, rfl, rfl, rfl, trivial⟩, rfl, rfl⟩
      · have d2 := xnlt hA c2
        rw [if_neg (by omega)] at hbs
        have hend : L2 = (bub l1 k).map slotD ∧ (bub l1 k).length = l.length ∧ (∀ x ∈ bub l1 k, 0 ≤ x.k ∧ x.k ≤ 1000) := by
          have e : bub l1 k = l2 := v6.trans hbs
          rw [e]; exact ⟨v3, v4, v5⟩
        have hS2 : sortS l = insS (bub l1 k) (k + 1) (l.length - (k + 1)) := by
          rw [u6, show l.length - k = (l.length - (k + 1)) + 1 by omega, insS]
        cbv
        refine gs_done ?_
        cbv
        refine ⟨yfit1 hA u1 (by omega), ?_⟩
        refine gs_loop (A.add i 1, k + 1, bub l1 k, L2) [0] ⟨ysucc hA u1, by simp only; omega, hend.1, hend.2.1, hend.2.2, hS2⟩ (by simp only; omega) ?_
        exact ⟨by decide, pre1, ⟨rfl, trivial⟩, ⟨rfl, rfl, rfl, rfl, rfl, trivial⟩, rfl, rfl⟩
  · rename_i c
    have hkn : l.length ≤ k := by have := xnlt hA c; have := u1.eq; have := hn.eq; omega
    have hfin : L1 = (sortS l).map slotD := by rw [u3, u6, show l.length - k = 0 by omega]; rfl
    cbv
    refine gs_done ?_
    cbv
    exact gh_done (hq _ _ hfin)
end Go.Proofs.YtmloogdalecilaaDoor

/-! D18 -/
namespace Go.Proofs.YtmloogdalecilaaDoor
open Go Go.Abs Go.Proofs

set_option maxRecDepth 20000 in
set_option maxHeartbeats 2000000 in
/-- stableCmpFunc, of a short row of slots. -/
theorem bStable (l : List Sl) (hk : ∀ x ∈ l, 0 ≤ x.k ∧ x.k ≤ 1000) (hl : l.length ≤ 19) (n : Int) (hn : IsI n l.length) (N : Nat) (hN : N = l.length) (L : List D) (hL : L = l.map slotD) (Q) (hq : ∀ d L', L' = (sortS l).map slotD → Q (RA.ret d) [.els 7 L']) :
    CallA Tryd.prog 125 [.o 0 7 N, I n, .fn 113 []] [.els 7 L] Q := by
  obtain ⟨A, hA⟩ : ∃ A, A = ar := ⟨_, rfl⟩
  have h1 : A.cmp .leq 20 n = false := by have := hn.eq; subst hA; simp [ar, cmpI]; omega
  have h2 : A.cmp .lss 20 n = false := by have := hn.eq; subst hA; simp [ar, cmpI]; omega
  refine callA_start tokT hA Tryd.func125 rfl rfl rfl rfl rfl fun S hS => ?_
  cbv
  refine at_code hS ?_
  refine wpa_rounds 1 (RnA.out ?_)
  refine rn_go tokT hA hS rfl ?_
  cbv
  refine bm (fun c => Bool.noConfusion (h1.symm.trans c)) (fun _ => ?_)
  cbv
  refine ops_call hS [.o 0 7 N, I 0, I n, .fn 113 []] [0] [.els 7 L] rfl rfl rfl rfl rfl rfl rfl rfl (by decide) ⟨rfl, trivial⟩ (bIns l hk (by omega) n hn N hN L hL _ fun d L' hL' => ?_)
  refine ops_go tokT hA hS ?_
  cbv
  refine at_code hS ?_
  refine wpa_rounds 1 (RnA.out ?_)
  refine rn_go tokT hA hS rfl ?_
  cbv
  refine bm (fun c => Bool.noConfusion (h2.symm.trans c)) (fun _ => ?_)
  cbv
  exact gh_done (hq _ _ hL')

/-- SortStableFunc, of a short row of slots. -/
theorem bSort (l : List Sl) (hk : ∀ x ∈ l, 0 ≤ x.k ∧ x.k ≤ 1000) (hl : l.length ≤ 19) (N : Nat) (hN : N = l.length) (L : List D) (hL : L = l.map slotD) (Q) (hq : ∀ d L', L' = (sortS l).map slotD → Q (RA.ret d) [.els 7 L']) :
    CallA Tryd.prog 112 [.o 0 7 N, .fn 113 []] [.els 7 L] Q := by
  obtain ⟨A, hA⟩ : ∃ A, A = ar := ⟨_, rfl⟩
  have hn : IsI (A.oi N) l.length := ⟨by rw [xoi hA, hN]⟩
  refine callA_start tokT hA Tryd.func112 rfl rfl rfl rfl rfl fun S hS => ?_
  cbv
  refine ops_call hS [.o 0 7 N, I (A.oi N), .fn 113 []] [0] [.els 7 L] rfl rfl rfl rfl rfl rfl rfl rfl (by decide) ⟨rfl, trivial⟩ (bStable l hk hl _ hn N hN L hL _ fun d L' hL' => ?_)
  refine ops_go tokT hA hS ?_
  cbv
  exact gh_done (hq _ _ hL')
end Go.Proofs.YtmloogdalecilaaDoor

/-! D19 -/
namespace Go.Proofs.YtmloogdalecilaaDoor
open Go Go.Abs Go.Proofs

/-- When orders end by a plan. -/
def endsS (s : Sh) (p : List Nat) : List (Int × Int) := endsF s.tasks.length (runS s (fun _ => 0) p)

theorem runS_t {s : Sh} {p : List Nat} (hv : Val s) (hp : PlanLe s p) (hpl : p.length ≤ 8) : ∀ x ∈ runS s (fun _ => 0) p, (0 ≤ x.t ∧ x.t < s.tasks.length) ∧ 0 ≤ x.k ∧ x.k ≤ 1000 := fun x hx => by
  obtain ⟨n, hn⟩ := List.mem_iff_getElem?.1 hx
  have hlt : n < p.length := by have := (List.getElem?_eq_some_iff.1 hn).1; rwa [runS_length] at this
  obtain ⟨y, hy, hr⟩ := run_facts hv hp (List.getElem?_eq_getElem hlt)
  rw [hn] at hy; cases hy
  have h1 := hr.hi
  have h2 := hr.kl
  have h3 : (p.take n).count p[n] ≤ n := Nat.le_trans List.count_le_length (by simp; omega)
  rw [hr.t, hr.k]
  refine ⟨⟨by omega, by omega⟩, by omega, by omega⟩

theorem runS_asc {s : Sh} {p : List Nat} (hv : Val s) (hp : PlanLe s p) : (runS s (fun _ => 0) p).Pairwise (fun a b => a.t = b.t → a.k < b.k) := by
  rw [List.pairwise_iff_getElem]
  intro i j hi hj hij e
  rw [runS_length] at hi hj
  obtain ⟨x, hx, rx⟩ := run_facts hv hp (List.getElem?_eq_getElem hi)
  obtain ⟨y, hy, ry⟩ := run_facts hv hp (List.getElem?_eq_getElem hj)
  rw [List.getElem?_eq_getElem (by rw [runS_length]; exact hi)] at hx
  rw [List.getElem?_eq_getElem (by rw [runS_length]; exact hj)] at hy
  cases hx; cases hy
  rw [rx.t, ry.t] at e
  have e' : p[i] = p[j] := by omega
  rw [rx.k, ry.k, ← e']
  have h1 := take_succ_count (List.getElem?_eq_getElem hi) p[i]
  rw [if_pos rfl] at h1
  have h2 : (p.take (i + 1)).count p[i] ≤ (p.take j).count p[i] := by
    have : (p.take (i + 1)).Sublist (p.take j) := by
      have e3 : p.take (i + 1) = (p.take j).take (i + 1) := by rw [List.take_take, Nat.min_eq_left (by omega)]
      rw [e3]; exact List.take_sublist _ _
    exact this.count_le _
  omega

set_option maxRecDepth 20000 in
set_option maxHeartbeats 2000000 in
/-- bench.planned.ends. -/
theorem bEndsIn (s : Sh) (hv : Val s) (p : List Nat) (hp : PlanLe s p) (hpl : p.length ≤ 8) (TL PL : List D) (hT : TL = s.tasks.map taskD) (hP : PL = p.map (fun i => I (i : Nat))) (Q) (hq : ∀ L, L = (endsS s p).map rngD → Q (RA.ret (.sl 2 L)) []) :
    CallA Tryd.prog 89 [.agg [I s.benches, .sl 3 TL, .sl 1 PL]] [] Q := by
  obtain ⟨A, hA⟩ : ∃ A, A = ar := ⟨_, rfl⟩
  obtain ⟨R, hR⟩ : ∃ R, R = runS s (fun _ => 0) p := ⟨_, rfl⟩
  obtain ⟨RL, hRL⟩ : ∃ RL, RL = R.map slotD := ⟨_, rfl⟩
  have hTl : TL.length = s.tasks.length := by rw [hT]; simp
  have hRn : R.length = p.length := by rw [hR, runS_length]
  have hRl : RL.length = p.length := by rw [hRL]; simp [hRn]
  have hlen4 := hv.len
  have hRf : ∀ x ∈ R, (0 ≤ x.t ∧ x.t < s.tasks.length) ∧ 0 ≤ x.k ∧ x.k ≤ 1000 := by rw [hR]; exact runS_t hv hp hpl
  have hfin : endsS s p = endsF s.tasks.length (sortS R) := by
    rw [endsS, ← hR, endsF_sort _ _ (by rw [hR]; exact runS_asc hv hp) (fun a ha => (hRf a ha).1.1)]
  refine callA_start tokT hA Tryd.func89 rfl rfl rfl rfl rfl fun S hS => ?_
  cbv
  refine ops_call hS [.agg [I s.benches, .sl 3 TL, .sl 1 PL], .v (.map none)] [] [] rfl rfl rfl rfl rfl rfl rfl rfl (by decide) trivial (bRun s hv p hp (by omega) TL PL hT hP _ ?_)
  rw [← hR, ← hRL]
  refine ops_go tokT hA hS ?_
  cbv
  refine at_code hS ?_
  refine wpa_loopG (α := Int × Nat × List D) (fun q => { env := [(1, .b 0 0), (3, .o 1 7 q.2.1), (10, .sl 7 RL), (11, I (A.oi (A.len RL))), (12, I q.1)], H := [.box (.agg [I s.benches, .sl 3 TL, .sl 1 PL]), .els 7 q.2.2], nt := 45, dfs := [] })
    (fun q => p.length - q.2.1) (fun q => IsI q.1 q.2.1 ∧ q.2.1 ≤ p.length ∧ q.2.2 = RL.take q.2.1) (0, 0, []) ⟨⟨rfl⟩, Nat.zero_le _, rfl⟩ ?_ ?_
  · refine gs_virt 3 7 rfl ?_
    exact gs_to [0, 1] ⟨by decide, pre0, ⟨rfl, rfl, trivial⟩, ⟨rfl, rfl, rfl, rfl, rfl, trivial⟩, rfl, rfl⟩
  rintro ⟨i, k, L1⟩ ⟨u1, u2, u3⟩
  dsimp only at u1 u2 u3
  refine wp_go tokT hA hS ?_
  cbv
  split
  · rename_i c
    have hk := yltL hA hRl u1 c
    obtain ⟨x, hx⟩ : ∃ x, x = R[k] := ⟨_, rfl⟩
    have hRx : R[k]? = some x := by rw [hx]; exact List.getElem?_eq_getElem (by omega)
    have hLx : RL[k]? = some (slotD x) := by rw [hRL]; simp [hRx]
    have hn : A.app L1 [slotD x] = RL.take (k + 1) := by rw [xapp hA, u3, List.take_add_one, hLx]; rfl
    have hLl : L1.length = k := by rw [u3]; simp; omega
    cbv
    refine ⟨yinbL hA hRl u1 hk, ⟨_, yget hA u1 hLx, ?_⟩⟩
    cbv
    refine ⟨yeqLen hA hLl, yeqLen hA rfl, yroom1 hA (by omega) (by decide), yfit1 hA u1 (by omega), ?_⟩
    refine gs_loop (A.add i 1, k + 1, A.app L1 [slotD x]) [0, 4] ⟨ysucc hA u1, hk, hn⟩ (by simp only; omega) ?_
    exact ⟨by decide, pre0, ⟨rfl, rfl, trivial⟩, ⟨rfl, by subst hA; rfl, rfl, rfl, rfl, trivial⟩, rfl, rfl⟩
  · rename_i c
    have hk : k = p.length := by have := ynltL hA hRl u1 c; omega
    have hL1 : L1 = R.map slotD := by rw [u3, hRL, List.take_of_length_le (by simp; omega)]
    have hin : A.inb (A.oi (A.len TL)) 1000 ∨ True := .inr trivial
    have hr0 : 0 ≤ ((TL.length : Nat) : Int) := by omega
    have hr1 : TL.length * 16 ≤ 140737488355328 ∧ TL.length ≤ 4611686018427387904 := by omega
    obtain ⟨n, hn⟩ : ∃ n, n = s.tasks.length := ⟨_, rfl⟩
    cbv
    refine gs_done ?_
    cbv
    refine ops_call hS [.o 0 7 k, .fn 113 []] [1] [.els 7 L1] rfl rfl rfl rfl rfl rfl rfl rfl (by decide) ⟨rfl, trivial⟩ (bSort R (fun x hx => (hRf x hx).2) (by omega) k (by omega) L1 hL1 _ fun d L2 hL2 => ?_)
    refine ops_go tokT hA hS ?_
    cbv
    refine ⟨by subst hA; exact hr0, by subst hA; exact hr1, ?_⟩
    obtain ⟨R2, hR2⟩ : ∃ R2, R2 = sortS R := ⟨_, rfl⟩
    rw [← hR2] at hL2 hfin
    have hR2l : R2.length = p.length := by rw [hR2, (sortS_ok R).1.length_eq, hRn]
    have hL2l : L2.length = p.length := by rw [hL2]; simp [hR2l]
    have hR2f : ∀ x ∈ R2, (0 ≤ x.t ∧ x.t < s.tasks.length) ∧ 0 ≤ x.k ∧ x.k ≤ 1000 := fun x hx => hRf x ((sortS_ok R).1.mem_iff.1 (by rw [← hR2]; exact hx))
    have hxn0 : ∀ x ∈ R2, x.t.toNat < n := fun x hx => by have := hR2f x hx; omega
    obtain ⟨ef, hef⟩ : ∃ ef : Nat → List (Int × Int), ef = fun m => endsF s.tasks.length (R2.take m) := ⟨_, rfl⟩
    have hefl : ∀ m, (ef m).length = n := fun m => by rw [hef]; simp [endsF, endsF_len, hn]
    refine at_code hS ?_
    refine wpa_loopG (α := Int × Nat × List D) (fun q => { env := [(6, .o 2 2 n), (29, .o 1 7 k), (30, I (A.oi k)), (31, I q.1)], H := [.box (.agg [I s.benches, .sl 3 TL, .sl 1 PL]), .els 7 L2, .els 2 q.2.2], nt := 45, dfs := [] })
      (fun q => p.length - q.2.1) (fun q => IsI q.1 q.2.1 ∧ q.2.1 ≤ p.length ∧ q.2.2 = (ef q.2.1).map rngD) (0, 0, List.replicate TL.length (rngD (0, 0))) ⟨⟨rfl⟩, Nat.zero_le _, by rw [hef]; simp [endsF, hTl]⟩ ?_ ?_
    · exact gs_to [0, 1, 2] ⟨by decide, pre0, ⟨rfl, rfl, by subst hA; rfl, trivial⟩, ⟨by subst hA; rw [hn, ← hTl]; rfl, rfl, rfl, rfl, trivial⟩, rfl, rfl⟩
    rintro ⟨j, m, OL⟩ ⟨v1, v2, v3⟩
    dsimp only at v1 v2 v3
    have hOl : OL.length = n := by rw [v3]; simp [hefl]
    refine wp_go tokT hA hS ?_
    cbv
    split
    · rename_i c2
      have hm : m < p.length := by have := yltN hA v1 c2; omega
      obtain ⟨x, hx⟩ : ∃ x, x = R2[m] := ⟨_, rfl⟩
      have hRx : R2[m]? = some x := by rw [hx]; exact List.getElem?_eq_getElem (by omega)
      have hLx : L2[m]? = some (slotD x) := by rw [hL2]; simp [hRx]
      have hxf := hR2f x (List.mem_of_getElem? hRx)
      have hxt : IsI x.t x.t.toNat := ⟨by omega⟩
      have hxn : x.t.toNat < n := hxn0 x (List.mem_of_getElem? hRx)
      obtain ⟨y, hy⟩ : ∃ y, y = (ef m)[x.t.toNat]'(by rw [hefl]; exact hxn) := ⟨_, rfl⟩
      have hOx : OL[x.t.toNat]? = some (.agg [I y.1, I y.2]) := by rw [v3]; simp [hy, rngD, hefl, hxn]
      have hes : ef (m + 1) = (ef m).set x.t.toNat (x.el, x.eh) := by rw [hef]; simp only; rw [List.take_add_one, hRx]; simp [endsF]
      have hOs : OL.set x.t.toNat (.agg [I x.el, I x.eh]) = (ef (m + 1)).map rngD := by rw [hes, v3]; simp [rngD]
      have hset := yset hA hxt hOs.symm
      cbv
      refine ⟨yinb hA v1 (by omega), ⟨_, yget hA v1 hLx, ?_⟩⟩
      cbv
      refine ⟨yinb hA hxt hxn, ⟨_, yget hA hxt hOx, ?_⟩⟩
      cbv
      refine ⟨yfit1 hA v1 (by omega), ?_⟩
      refine gs_loop (A.add j 1, m + 1, A.set OL (A.tn x.t) (.agg [I x.el, I x.eh])) [0, 1, 2] ⟨ysucc hA v1, hm, hset⟩ (by simp only; omega) ?_
      exact ⟨by decide, pre0, ⟨rfl, rfl, rfl, trivial⟩, ⟨rfl, rfl, rfl, rfl, trivial⟩, rfl, rfl⟩
    · rename_i c2
      have hm : m = p.length := by have := ynltN hA v1 c2; omega
      have hOf : OL = (endsS s p).map rngD := by rw [v3, hfin, hef]; simp only; rw [List.take_of_length_le (by omega)]
      cbv
      refine gs_done ?_
      cbv
      refine gh_frz [2] ?_
      cbv
      exact ⟨by cases OL <;> exact hOl.symm, gh_view [] (by decide) pre0 (H' := []) (d' := .sl 2 OL) trivial rfl (gh_done (hq OL hOf))⟩
end Go.Proofs.YtmloogdalecilaaDoor

/-! D20 -/
namespace Go.Proofs.YtmloogdalecilaaDoor
open Go Go.Abs Go.Proofs

/-- bench.Ends, of a whole plan. -/
theorem bEndsPlan (s : Sh) (hs : ShopOk s) (p : List Nat) (hp : PlanOk s p) (TL PL : List D) (hT : TL = s.tasks.map taskD) (hP : PL = p.map (fun i => I (i : Nat))) (Q) (hq : ∀ L, L = (endsS s p).map rngD → Q (RA.ret (.tup [.sl 2 L, I 0])) []) :
    CallA Tryd.prog 45 [.agg [I s.benches, .sl 3 TL], .sl 1 PL] [] Q := by
  obtain ⟨A, hA⟩ : ∃ A, A = ar := ⟨_, rfl⟩
  have hv := chkS_val hs.chk
  have hpl : p.length ≤ 8 := by rw [hp.len]; have := hv.sum; omega
  refine callA_start tokT hA Tryd.func45 rfl rfl rfl rfl rfl fun S hS => ?_
  cbv
  refine ops_call hS [.agg [I s.benches, .sl 3 TL], .sl 1 PL] [] [] rfl rfl rfl rfl rfl rfl rfl rfl (by decide) trivial (bCheckPlan s hs p hp TL PL hT hP _ ?_)
  refine ops_go tokT hA hS ?_
  cbv
  split
  · rename_i c
    exact absurd rfl (xne hA c)
  rename_i c
  cbv
  refine ops_call hS [.agg [I s.benches, .sl 3 TL, .sl 1 PL]] [] [] rfl rfl rfl rfl rfl rfl rfl rfl (by decide) trivial (bEndsIn s hv p hp.le hpl TL PL hT hP _ fun L hL => ?_)
  refine ops_go tokT hA hS ?_
  cbv
  exact gh_view [] (by decide) pre0 (H' := []) (d' := .tup [.sl 2 L, I 0]) trivial rfl (gh_done (hq L hL))
end Go.Proofs.YtmloogdalecilaaDoor

/-! E2 -/
namespace Go.Proofs.YtmloogdalecilaaDoor
open Go Go.Abs Go.Proofs

/-- The shop of the chapter's examples. -/
def exS : Sh := ⟨2, [⟨0, 8, [⟨0, 2, 3⟩, ⟨1, 4, 4⟩]⟩, ⟨1, 6, [⟨1, 2, 2⟩, ⟨0, 3, 5⟩]⟩, ⟨0, 20, [⟨1, 1, 3⟩]⟩]⟩
def exP : List Nat := [0, 1, 1, 2, 0]
theorem exOk : ShopOk exS := ⟨by decide, by decide, ⟨by decide, by decide⟩⟩
theorem exPlan : PlanOk exS exP := ⟨by decide, by decide, by decide⟩

set_option maxRecDepth 20000 in
set_option maxHeartbeats 2000000 in
/-- bench.Bound, of the chapter's shop. -/
theorem bBoundEx (Q) (hq : Q (RA.ret (.tup [I 9, I 0])) []) : CallA Tryd.prog 30 [shopD exS] [] Q := by
  refine callA_start (A := ar) tokT rfl Tryd.func30 rfl rfl rfl rfl rfl fun S hS => ?_
  cbv
  refine ops_call hS [.agg [I 2, .sl 3 (exS.tasks.map taskD)]] [] [] rfl rfl rfl rfl rfl rfl rfl rfl (by decide) trivial (bCheck exS exOk.fin _ rfl 0 exOk.chk.symm _ ?_)
  refine ops_go (A := ar) tokT rfl hS ?_
  cbv
  repeat (first
    | (refine loop_rounds hS 8 fun Rn hR => ?_)
    | (refine rn_go (A := ar) tokT rfl hS (by assumption) ?_; cbv)
    | (refine ⟨Int.NonNeg.mk _, ?_⟩)
    | (refine Need.mk ⟨_, rfl, ?_⟩; cbv)
    | (refine draw_go (A := ar) tokT rfl hS [0, 1, 2, 3, 4, 5, 6, 7, 8, 9, 10, 11, 12, 13, 14] rfl rfl fun Dk hD => ?_; cbv)
    | (refine KeyIs.mk ⟨[_, _], ⟨rfl, rfl⟩, ?_⟩; cbv))
  exact gh_view [] (by decide) pre0 (H' := []) (d' := .tup [I 9, I 0]) trivial rfl (gh_done hq)
end Go.Proofs.YtmloogdalecilaaDoor

/-! E3 -/
namespace Go.Proofs.YtmloogdalecilaaDoor
open Go Go.Abs Go.Proofs

def exTab : List D := [.sl 1 [I 0, I 2], .sl 1 [I 1, I 3], .sl 1 [I 7]]

set_option maxRecDepth 20000 in
set_option maxHeartbeats 4000000 in
/-- bench.checkTable, of the chapter's table. -/
theorem bTableEx (Q) (hq : Q (RA.ret (I 0)) []) : CallA Tryd.prog 73 [shopD exS, .sl 1 exTab] [] Q := by
  refine callA_start (A := ar) tokT rfl Tryd.func73 rfl rfl rfl rfl rfl fun S hS => ?_
  cbv
  repeat (first
    | (refine loop_rounds hS 8 fun Rn hR => ?_)
    | (refine rn_go (A := ar) tokT rfl hS (by assumption) ?_; cbv)
    | (refine ⟨Int.NonNeg.mk _, ?_⟩)
    | (refine Need.mk ⟨_, rfl, ?_⟩; cbv)
    | (refine draw_go (A := ar) tokT rfl hS [0, 1, 2, 3, 4, 5, 6, 7, 8] rfl rfl fun Dk hD => ?_; cbv)
    | (refine ops_call hS [I _, I 0, I 200] [] [] rfl rfl rfl rfl rfl rfl rfl rfl (by decide) trivial (bWith _ _ _ true rfl _ ?_); refine ops_go (A := ar) tokT rfl hS ?_; cbv)
    | (refine KeyIs.mk ⟨[_, _], ⟨rfl, rfl⟩, ?_⟩; cbv))
  exact gh_view [] (by decide) pre0 (H' := []) (d' := I 0) trivial rfl (gh_done hq)
set_option maxRecDepth 20000 in
set_option maxHeartbeats 8000000 in
/-- bench.Clash, of the chapter's shop and table. -/
theorem bClashEx (Q) (hq : Q (RA.ret (.tup [I 0, I 1, I 0])) []) : CallA Tryd.prog 26 [shopD exS, .sl 1 exTab] [] Q := by
  refine callA_start (A := ar) tokT rfl Tryd.func26 rfl rfl rfl rfl rfl fun S hS => ?_
  cbv
  refine scope_go (A := ar) tokT rfl hS ?_
  cbv
  refine ops_call hS [.agg [I 2, .sl 3 (exS.tasks.map taskD)]] [] [] rfl rfl rfl rfl rfl rfl rfl rfl (by decide) trivial (bCheck exS exOk.fin _ rfl 0 exOk.chk.symm _ ?_)
  refine ops_go (A := ar) tokT rfl hS ?_
  cbv
  refine ops_call hS [shopD exS, .sl 1 exTab] [] [] rfl rfl rfl rfl rfl rfl rfl rfl (by decide) trivial (bTableEx _ ?_)
  refine ops_go (A := ar) tokT rfl hS ?_
  cbv
  repeat (first
    | (refine loop_rounds hS 8 fun Rn hR => ?_)
    | (refine rn_go (A := ar) tokT rfl hS (by assumption) ?_; cbv)
    | (refine ⟨Int.NonNeg.mk _, ?_⟩)
    | (refine Need.mk ⟨_, rfl, ?_⟩; cbv)
    | (refine draw_go (A := ar) tokT rfl hS [0, 1, 2, 3, 4, 5, 6, 7, 8, 9, 10, 11, 12, 13, 14, 15, 16, 17, 18, 19, 20, 21, 22, 23, 24, 25, 26] rfl rfl fun Dk hD => ?_; cbv)
    | (refine ⟨by (repeat' (first | exact trivial | exact Need.mk ⟨_, rfl, rfl⟩ | refine ⟨?_, ?_⟩)), ?_⟩))
  exact gh_view [] (by decide) pre0 (H' := []) (d' := .tup [I 0, I 1, I 0]) trivial rfl (gh_done hq)
end Go.Proofs.YtmloogdalecilaaDoor
