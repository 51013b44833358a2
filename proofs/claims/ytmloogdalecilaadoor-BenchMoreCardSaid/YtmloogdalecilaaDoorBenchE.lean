/- Part BenchE of the proofs about the benches of the accordion maker: see the last text of the claim for what is proved. -/
import Derived.Test.YtmloogdalecilaaDoorBenchD
import Derived.Test.YtmloogdalecilaaDoorBenchB
import Derived.Test.YtmloogdalecilaaDoorMachD
set_option linter.unusedVariables false
set_option linter.unusedSimpArgs false
set_option linter.unnecessarySimpa false
set_option linter.constructorNameAsVariable false

/-! D28 -/
namespace Go.Proofs.YtmloogdalecilaaDoor
open Go Go.Abs Go.Proofs

theorem perm_set {l : List Nat} {k x y : Nat} (h : l[k]? = some y) : (l.set k x ++ [y]).Perm (l ++ [x]) := by
  induction l generalizing k with
  | nil => simp at h
  | cons a l ih =>
    cases k with
    | zero =>
      simp at h; subst h
      simp only [List.set_cons_zero, List.cons_append]
      refine (List.perm_append_comm (l₁ := x :: l) (l₂ := [a])).trans ?_
      simp only [List.cons_append, List.nil_append]
      refine List.Perm.cons _ ?_
      exact (List.perm_append_comm (l₁ := [x]) (l₂ := l))
    | succ k =>
      simp only [List.set_cons_succ, List.cons_append]
      exact (ih (by simpa using h)).cons a

set_option maxRecDepth 20000 in
set_option maxHeartbeats 2000000 in
/-- Pot.Mix. -/
theorem mix (x n : Int) (m : Nat) (hn : IsI n m) (hm : m ≤ 1000) (Q) (hq : ∀ (q : List Nat) (QL : List D) x', q.Perm (List.range m) → QL = natL q → Q (RA.ret (.sl 1 QL)) [pot x']) :
    CallA Tryd.prog 60 [.b 0 0, I n] [pot x] Q := by
  obtain ⟨A, hA⟩ : ∃ A, A = ar := ⟨_, rfl⟩
  have hmx : IsI (A.max 0 n) m := ⟨by rw [xmax hA]; have := hn.eq; omega⟩
  have hr0 : A.nneg (A.max 0 n) := by have := hmx.eq; subst hA; exact (show (0 : Int) ≤ ar.max 0 n by omega)
  have htn : A.tn (A.max 0 n) = m := ytn hA hmx
  have hr1 : A.room (A.tn (A.max 0 n)) 8 := by rw [htn]; subst hA; exact ⟨show m * 8 ≤ 140737488355328 by omega, show m ≤ 4611686018427387904 by omega⟩
  have hrep : A.rep (A.tn (A.max 0 n)) (I 0) = natL (List.replicate m 0) := by rw [htn]; subst hA; simp [natL, ar]
  refine callA_start tokT hA Tryd.func60 rfl rfl rfl rfl rfl fun S hS => ?_
  cbv
  refine ⟨hr0, hr1, ?_⟩
  refine at_code hS ?_
  refine wpa_loopG (α := Int × Nat × Int × List Nat × List D) (fun q => { env := [(0, .b 0 0), (1, I n), (5, .o 1 1 m), (6, I q.1)], H := [pot q.2.2.1, .els 1 q.2.2.2.2], nt := 31, dfs := [] })
    (fun q => m - q.2.1) (fun q => IsI q.1 q.2.1 ∧ q.2.1 ≤ m ∧ q.2.2.2.1.length = m ∧ (q.2.2.2.1.take q.2.1).Perm (List.range q.2.1) ∧ q.2.2.2.2 = natL q.2.2.2.1) (0, 0, x, List.replicate m 0, A.rep (A.tn (A.max 0 n)) (I 0)) ⟨⟨rfl⟩, Nat.zero_le _, by simp, by simp, hrep⟩ ?_ ?_
  · exact gs_to [0, 1] ⟨by decide, pre1, ⟨rfl, rfl, trivial⟩, ⟨rfl, rfl, by rw [← htn]; rfl, rfl, trivial⟩, rfl, rfl⟩
  rintro ⟨i, j, y, l, L⟩ ⟨u1, u2, u3, u4, u5⟩
  dsimp only at u1 u2 u3 u4 u5
  have hLl : L.length = m := by rw [u5]; simp [natL, u3]
  refine wp_go tokT hA hS ?_
  cbv
  refine bm (fun c => ?_) (fun c => ?_)
  · have hj : j < m := by have := xlt hA c; have := u1.eq; have := hn.eq; omega
    have hb : i ≤ 1000000000000 := by have := u1.eq; omega
    have hki : ∀ k : Int, 0 ≤ k → (k ≤ i ∨ k = 0) → k.toNat ≤ j := fun k h1 h2 => by have := u1.eq; omega
    have hin1 := yinb hA u1 hj
    have hf1 := yfit1 hA u1 (by omega)
    have hu1 := ysucc hA u1
    have hms : m - (j + 1) < m - j := by omega
    obtain ⟨lj, hlj⟩ : ∃ lj, lj = l[j] := ⟨_, rfl⟩
    have hlj' : l[j]? = some lj := by rw [hlj]; exact List.getElem?_eq_getElem (by omega)
    have hLj : L[j]? = some (I (lj : Nat)) := by rw [u5]; simp [natL, hlj']
    cbv
    refine ops_call hS [.b 0 0, I i] [0] [pot y] rfl rfl rfl rfl rfl rfl rfl rfl (by decide) ⟨rfl, trivial⟩ (upto y i hb _ fun k y' hk1 hk2 => ?_)
    have hkj := hki k hk1 hk2
    have hkI : IsI k k.toNat := ⟨by omega⟩
    obtain ⟨lk, hlk⟩ : ∃ lk, lk = l[k.toNat] := ⟨_, rfl⟩
    have hlk' : l[k.toNat]? = some lk := by rw [hlk]; exact List.getElem?_eq_getElem (by omega)
    have hLk : L[k.toNat]? = some (I (lk : Nat)) := by rw [u5]; simp [natL, hlk']
    have hin2 := yinb hA hkI (show k.toNat < m by omega)
    obtain ⟨l1, hl1⟩ : ∃ l1, l1 = l.set j lk := ⟨_, rfl⟩
    obtain ⟨l2, hl2⟩ : ∃ l2, l2 = l1.set k.toNat j := ⟨_, rfl⟩
    obtain ⟨lkI, hlkI⟩ : ∃ z : Int, z = (lk : Nat) := ⟨_, rfl⟩
    rw [← hlkI] at hLk
    have hs1 : A.set L (A.tn i) (I lkI) = natL l1 := yset hA u1 (by rw [hl1, u5, hlkI]; simp [natL])
    have hg2 : ∃ z, (natL l1)[k.toNat]? = some (I z) := by
      refine ⟨(l1[k.toNat]'(by rw [hl1]; simp; omega) : Nat), ?_⟩
      simp [natL, List.getElem?_eq_getElem (show k.toNat < l1.length by rw [hl1]; simp; omega)]
    obtain ⟨z, hz⟩ := hg2
    have hg3 : A.get (A.set L (A.tn i) (I lkI)) (A.tn k) = some (I z) := by rw [hs1]; exact yget hA hkI hz
    have hs2 : A.set (A.set L (A.tn i) (I lkI)) (A.tn k) (I i) = natL l2 := by
      rw [hs1]; exact yset hA hkI (by rw [hl2, u1.eq]; simp [natL])
    have hlen2 : l2.length = m := by rw [hl2, hl1]; simp [u3]
    have hper : (l2.take (j + 1)).Perm (List.range (j + 1)) := by
      rw [List.range_succ]
      refine List.Perm.trans ?_ (u4.append_right [j])
      have e1 : l.take (j + 1) = l.take j ++ [lj] := by rw [List.take_add_one, hlj']; rfl
      have hll : l.take j ++ [lj] = l.take (j + 1) := e1.symm
      have ht : (l.take j).length = j := by simp; omega
      have e3 : l2.take (j + 1) = ((l.take j ++ [lj]).set j lk).set k.toNat j := by rw [hl2, hl1, List.take_set, List.take_set, e1]
      have e4 : (l.take j ++ [lj]).set j lk = l.take j ++ [lk] := by
        rw [List.set_append_right _ _ (by omega), ht, Nat.sub_self, List.set_cons_zero]
      rw [e3, e4]
      by_cases hkk : k.toNat = j
      · rw [hkk, List.set_append_right _ _ (by omega), ht, Nat.sub_self, List.set_cons_zero]
      · have hlt : k.toNat < j := by omega
        rw [List.set_append_left _ _ (by omega)]
        exact perm_set (by rw [List.getElem?_take, if_pos hlt]; exact hlk')
    refine ops_go tokT hA hS ?_
    cbv
    refine ⟨hin2, ⟨_, yget hA hkI hLk, ?_⟩⟩
    cbv
    refine ⟨hin1, ⟨_, yget hA u1 hLj, ?_⟩⟩
    cbv
    refine ⟨hin2, ⟨_, hg3, ?_⟩⟩
    cbv
    refine ⟨hf1, ?_⟩
    refine gs_loop (A.add i 1, j + 1, y', l2, A.set (A.set L (A.tn i) (I lkI)) (A.tn k) (I i)) [0, 1] ⟨hu1, hj, hlen2, hper, hs2⟩ hms ?_
    exact ⟨by decide, pre1, ⟨rfl, rfl, trivial⟩, ⟨rfl, rfl, rfl, rfl, trivial⟩, rfl, rfl⟩
  · have hj : j = m := by have := xnlt hA c; have := u1.eq; have := hn.eq; omega
    have hper : l.Perm (List.range m) := by rw [hj, List.take_of_length_le (by omega)] at u4; exact u4
    cbv
    refine gs_done ?_
    cbv
    refine gh_frz [1] ?_
    cbv
    exact ⟨by cases L <;> exact hLl.symm, gh_view [0] (by decide) pre1 (H' := [pot y]) (d' := .sl 1 L) ⟨rfl, trivial⟩ rfl (gh_done (hq l L y hper u5))⟩
end Go.Proofs.YtmloogdalecilaaDoor

/-! D29 -/
namespace Go.Proofs.YtmloogdalecilaaDoor
open Go Go.Abs Go.Proofs

/-- The works of the first k orders, each as its order's number. -/
def lkS (s : Sh) (k : Nat) : List Nat := (List.range k).flatMap fun i => List.replicate (s.tasks.getD i default).works.length i

theorem lkS_succ (s : Sh) (k : Nat) : lkS s (k + 1) = lkS s k ++ List.replicate (s.tasks.getD k default).works.length k := by
  simp [lkS, List.range_succ]

theorem lkS_len (s : Sh) (k : Nat) (hk : k ≤ s.tasks.length) : (lkS s k).length = nWorks (s.tasks.take k) := by
  induction k with
  | zero => rfl
  | succ k ih =>
    rw [lkS_succ, List.length_append, ih (by omega), List.length_replicate, List.take_add_one, List.getElem?_eq_getElem (show k < s.tasks.length by omega)]
    simp only [nWorks, List.map_append, List.sum_append, Option.toList_some, List.map_cons, List.map_nil, List.sum_cons, List.sum_nil, Nat.add_zero, List.getD_eq_getElem?_getD, List.getElem?_eq_getElem (show k < s.tasks.length by omega), Option.getD_some]

theorem nWorks_take_le (l : List Tk) (k : Nat) : nWorks (l.take k) ≤ nWorks l := by
  conv => rhs; rw [← List.take_append_drop k l]
  simp only [nWorks, List.map_append, List.sum_append]; omega

theorem lkS_mem {s : Sh} {k x : Nat} (h : x ∈ lkS s k) : x < k := by
  simp only [lkS, List.mem_flatMap, List.mem_range, List.mem_replicate] at h
  obtain ⟨i, h1, -, rfl⟩ := h
  exact h1

theorem lkS_count (s : Sh) (k i : Nat) : (lkS s k).count i = if i < k then (s.tasks.getD i default).works.length else 0 := by
  induction k with
  | zero => simp [lkS]
  | succ k ih =>
    rw [lkS_succ, List.count_append, ih, List.count_replicate]
    by_cases e : k = i
    · subst e; simp
    · rw [if_neg (show ¬ (k == i) = true by simpa using e), Nat.add_zero]
      by_cases h : i < k
      · rw [if_pos h, if_pos (by omega)]
      · rw [if_neg h, if_neg (by omega)]

theorem range_map_getD (l : List Nat) : (List.range l.length).map (l.getD · 0) = l := by
  refine List.ext_getElem? fun i => ?_
  by_cases hi : i < l.length
  · rw [List.getElem?_map, List.getElem?_range hi, Option.map_some, List.getD_eq_getElem?_getD, List.getElem?_eq_getElem hi]; rfl
  · rw [List.getElem?_eq_none (by simp; omega), List.getElem?_eq_none (by omega)]

theorem planOk_of {s : Sh} {p : List Nat} (h : p.Perm (lkS s s.tasks.length)) : PlanOk s p := by
  refine ⟨fun i hi => lkS_mem (h.mem_iff.1 hi), fun i hi => ?_, ?_⟩
  · rw [h.count_eq, lkS_count, if_pos hi]
  · rw [h.length_eq, lkS_len _ _ (Nat.le_refl _), List.take_length]

set_option maxRecDepth 20000 in
set_option maxHeartbeats 2000000 in
/-- musettekit.PlanOf. -/
theorem planOf (x : Int) (s : Sh) (hsum : nWorks s.tasks ≤ 1000) (hsl : s.tasks.length ≤ 1000) (TL : List D) (hT : TL = s.tasks.map taskD) (Q) (hq : ∀ p PL x', PlanOk s p → PL = planL p → Q (RA.ret (.sl 1 PL)) [pot x']) :
    CallA Tryd.prog 22 [.b 0 0, .agg [I s.benches, .sl 3 TL]] [pot x] Q := by
  obtain ⟨A, hA⟩ : ∃ A, A = ar := ⟨_, rfl⟩
  obtain ⟨N, hN⟩ : ∃ N, N = s.tasks.length := ⟨_, rfl⟩
  have hTl : TL.length = N := by rw [hT, hN]; simp
  have hlb : ∀ k, k ≤ N → (lkS s k).length ≤ 1000 := fun k hk => by
    rw [lkS_len _ _ (by omega)]; exact Nat.le_trans (nWorks_take_le _ _) hsum
  refine callA_start tokT hA Tryd.func22 rfl rfl rfl rfl rfl fun S hS => ?_
  cbv
  refine at_code hS ?_
  refine wpa_loopG (α := Int × Nat × Nat × List D) (fun q => { env := [(0, .b 0 0), (3, .b 1 0), (5, .o 2 1 q.2.2.1), (6, I q.1)], H := [pot x, .box (.agg [I s.benches, .sl 3 TL]), .els 1 q.2.2.2], nt := 54, dfs := [] })
    (fun q => N - q.2.1) (fun q => IsI q.1 q.2.1 ∧ q.2.1 ≤ N ∧ q.2.2.1 = (lkS s q.2.1).length ∧ q.2.2.2 = natL (lkS s q.2.1)) (0, 0, 0, []) ⟨⟨rfl⟩, Nat.zero_le _, rfl, rfl⟩ ?_ ?_
  · refine gs_virt 5 1 rfl ?_
    exact gs_to [0, 1, 2] ⟨by decide, pre1, ⟨rfl, rfl, rfl, trivial⟩, ⟨rfl, rfl, rfl, rfl, trivial⟩, rfl, rfl⟩
  rintro ⟨i, k, c0, L0⟩ ⟨u1, u2, u3, u4⟩
  dsimp only at u1 u2 u3 u4
  refine wp_go tokT hA hS ?_
  cbv
  refine bm (fun c => ?_) (fun c => ?_)
  · have hk : k < N := yltL hA hTl u1 c
    obtain ⟨t, ht⟩ : ∃ t, t = s.tasks[k] := ⟨_, rfl⟩
    have htk : s.tasks[k]? = some t := by rw [ht]; exact List.getElem?_eq_getElem (by omega)
    have htd : s.tasks.getD k default = t := by rw [List.getD_eq_getElem?_getD, htk]; rfl
    obtain ⟨WL, hWL⟩ : ∃ WL, WL = t.works.map workD := ⟨_, rfl⟩
    obtain ⟨wn, hwn⟩ : ∃ wn, wn = t.works.length := ⟨_, rfl⟩
    have hWl : WL.length = wn := by rw [hWL, hwn]; simp
    have hTk : TL[k]? = some (.agg [I t.ready, I t.due, .sl 3 WL]) := by rw [hT]; simp [htk, hWL, taskD]
    have hls : lkS s (k + 1) = lkS s k ++ List.replicate wn k := by rw [lkS_succ, htd, hwn]
    have hlb1 := hlb (k + 1) hk
    rw [hls] at hlb1
    have hcb : c0 + wn ≤ 1000 := by simp at hlb1; omega
    have hin := yinbL hA hTl u1 hk
    have hgt := yget hA u1 hTk
    have hf1 := yfit1 hA u1 (by omega)
    have hu1 := ysucc hA u1
    have hms : N - (k + 1) < N - k := by omega
    cbv
    refine at_code hS ?_
    refine wpa_loopG (α := Int × Nat × Nat × List D) (fun q => { env := [(0, .b 0 0), (3, .b 1 0), (5, .o 2 1 q.2.2.1), (6, I i), (7, I q.1)], H := [pot x, .box (.agg [I s.benches, .sl 3 TL]), .els 1 q.2.2.2], nt := 54, dfs := [] })
      (fun q => wn - q.2.1) (fun q => IsI q.1 q.2.1 ∧ q.2.1 ≤ wn ∧ q.2.2.1 = c0 + q.2.1 ∧ q.2.2.2 = natL (lkS s k ++ List.replicate q.2.1 k)) (0, 0, c0, L0) ⟨⟨rfl⟩, Nat.zero_le _, rfl, by rw [u4]; simp⟩ ?_ ?_
    · exact gs_to [0, 1, 2] ⟨by decide, pre1, ⟨rfl, rfl, rfl, trivial⟩, ⟨rfl, rfl, rfl, rfl, rfl, trivial⟩, rfl, rfl⟩
    rintro ⟨j, m, c1, L1⟩ ⟨v1, v2, v3, v4⟩
    dsimp only at v1 v2 v3 v4
    have hLl : L1.length = c1 := by rw [v4, v3, u3]; simp [natL]
    have hf2 := yfit1 hA v1 (by omega)
    have hv1 := ysucc hA v1
    have hc1b : c1 ≤ 1000000 := by omega
    refine wp_go tokT hA hS ?_
    cbv
    refine ⟨hin, ⟨_, hgt, ?_⟩⟩
    cbv
    refine bm (fun c2 => ?_) (fun c2 => ?_)
    · have hm : m < wn := yltL hA hWl v1 c2
      have hms2 : wn - (m + 1) < wn - m := by omega
      have hLn : A.app L1 [I i] = natL (lkS s k ++ List.replicate (m + 1) k) := by
        rw [xapp hA, v4, u1.eq, List.replicate_succ']; simp [natL]
      have hcn : A.addN c1 1 = c0 + (m + 1) := by rw [xaddN hA]; omega
      cbv
      refine ⟨yeqLen hA hLl, yeqLen hA rfl, yroom1 hA hc1b (by decide), hf2, ?_⟩
      refine gs_loop (A.add j 1, m + 1, A.addN c1 1, A.app L1 [I i]) [0, 1, 4] ⟨hv1, hm, hcn, hLn⟩ hms2 ?_
      exact ⟨by decide, pre1, ⟨rfl, rfl, rfl, trivial⟩, ⟨rfl, rfl, rfl, rfl, rfl, trivial⟩, rfl, rfl⟩
    · have hm : m = wn := by have := ynltL hA hWl v1 c2; omega
      have hLe : L1 = natL (lkS s (k + 1)) := by rw [v4, hm, hls]
      have hce : c1 = (lkS s (k + 1)).length := by rw [v3, hm, hls, u3]; simp
      cbv
      refine gs_done ?_
      cbv
      refine ⟨hf1, ?_⟩
      refine gs_loop (A.add i 1, k + 1, c1, L1) [0, 1, 2] ⟨hu1, hk, hce, hLe⟩ hms ?_
      exact ⟨by decide, pre1, ⟨rfl, rfl, rfl, trivial⟩, ⟨rfl, rfl, rfl, rfl, trivial⟩, rfl, rfl⟩
  · have hk : k = N := by have := ynltL hA hTl u1 c; omega
    obtain ⟨l, hl⟩ : ∃ l, l = lkS s N := ⟨_, rfl⟩
    have hL0 : L0 = natL l := by rw [u4, hk, hl]
    have hc0 : c0 = l.length := by rw [u3, hk, hl]
    have hlen1 : l.length ≤ 1000 := by rw [hl]; exact hlb N (Nat.le_refl _)
    have hL0l : L0.length = c0 := by rw [hL0, hc0]; simp [natL]
    have hcI : IsI (A.oi c0) c0 := ⟨xoi hA c0⟩
    cbv
    refine gs_done ?_
    cbv
    refine ops_call hS [.b 0 0, I (A.oi c0)] [0] [pot x] rfl rfl rfl rfl rfl rfl rfl rfl (by decide) ⟨rfl, trivial⟩ (mix x (A.oi c0) c0 hcI (by omega) _ fun q QL x' hqp hQL => ?_)
    have hql : q.length = c0 := by rw [hqp.length_eq]; simp
    have hQl : QL.length = c0 := by rw [hQL]; simp [natL, hql]
    refine ops_go tokT hA hS ?_
    cbv
    refine at_code hS ?_
    refine wpa_loopG (α := Int × Nat × List D) (fun q' => { env := [(5, .o 2 1 c0), (8, .sl 1 QL), (9, .o 3 1 q'.2.1), (10, I q'.1)], H := [pot x', .box (.agg [I s.benches, .sl 3 TL]), .els 1 L0, .els 1 q'.2.2], nt := 54, dfs := [] })
      (fun q' => c0 - q'.2.1) (fun q' => IsI q'.1 q'.2.1 ∧ q'.2.1 ≤ c0 ∧ q'.2.2 = natL ((q.take q'.2.1).map (l.getD · 0))) (0, 0, []) ⟨⟨rfl⟩, Nat.zero_le _, rfl⟩ ?_ ?_
    · refine gs_virt 9 1 rfl ?_
      exact gs_to [0, 1, 2, 3] ⟨by decide, pre1, ⟨rfl, rfl, rfl, rfl, trivial⟩, ⟨rfl, rfl, rfl, rfl, trivial⟩, rfl, rfl⟩
    rintro ⟨j, m, OL⟩ ⟨v1, v2, v3⟩
    dsimp only at v1 v2 v3
    have hOl : OL.length = m := by rw [v3]; simp [natL]; omega
    refine wp_go tokT hA hS ?_
    cbv
    refine bm (fun c2 => ?_) (fun c2 => ?_)
    · have hm : m < c0 := yltL hA hQl v1 c2
      obtain ⟨a, ha⟩ : ∃ a, a = q[m] := ⟨_, rfl⟩
      have hqa : q[m]? = some a := by rw [ha]; exact List.getElem?_eq_getElem (by omega)
      have hac : a < c0 := by have := hqp.mem_iff.1 (List.mem_of_getElem? hqa); simpa using this
      obtain ⟨aI, haI⟩ : ∃ aI, IsI aI a := ⟨_, ⟨rfl⟩⟩
      have hQa : QL[m]? = some (I aI) := by rw [hQL, haI.eq]; simp [natL, hqa]
      obtain ⟨v, hv⟩ : ∃ v : Int, v = (l.getD a 0 : Nat) := ⟨_, rfl⟩
      have hLa : L0[a]? = some (I v) := by rw [hL0, hv]; simp [natL, List.getD_eq_getElem?_getD, List.getElem?_eq_getElem (show a < l.length by omega)]
      have hOn : A.app OL [I v] = natL ((q.take (m + 1)).map (l.getD · 0)) := by rw [xapp hA, v3, List.take_add_one, hqa, hv]; simp [natL]
      have hin1 := yinbL hA hQl v1 hm
      have hin2 := yinb hA haI hac
      have hf2 := yfit1 hA v1 (by omega)
      have hv1 := ysucc hA v1
      have hms2 : c0 - (m + 1) < c0 - m := by omega
      have hmb : m ≤ 1000000 := by omega
      cbv
      refine ⟨hin1, ⟨_, yget hA v1 hQa, ?_⟩⟩
      cbv
      refine ⟨hin2, ⟨_, yget hA haI hLa, ?_⟩⟩
      cbv
      refine ⟨yeqLen hA hOl, yeqLen hA rfl, yroom1 hA hmb (by decide), hf2, ?_⟩
      refine gs_loop (A.add j 1, m + 1, A.app OL [I v]) [0, 1, 2, 5] ⟨hv1, hm, hOn⟩ hms2 ?_
      exact ⟨by decide, pre1, ⟨rfl, rfl, rfl, rfl, trivial⟩, ⟨rfl, rfl, by subst hA; rfl, rfl, trivial⟩, rfl, rfl⟩
    · have hm : m = c0 := by have := ynltL hA hQl v1 c2; omega
      obtain ⟨p, hp⟩ : ∃ p, p = q.map (l.getD · 0) := ⟨_, rfl⟩
      have hOp : OL = planL p := by rw [v3, hm, List.take_of_length_le (by omega), hp]; rfl
      have hpo : PlanOk s p := planOk_of (by
        rw [hp, ← hN, ← hl]
        refine (hqp.map _).trans ?_
        rw [hc0, range_map_getD])
      cbv
      refine gs_done ?_
      cbv
      refine gh_frz [3] ?_
      cbv
      exact ⟨by cases OL <;> exact hOl.symm, gh_view [0] (by decide) pre1 (H' := [pot x']) (d' := .sl 1 OL) ⟨rfl, trivial⟩ rfl (gh_done (hq p OL x' hpo hOp))⟩
end Go.Proofs.YtmloogdalecilaaDoor

/-! D30 -/
namespace Go.Proofs.YtmloogdalecilaaDoor
open Go Go.Abs Go.Proofs

/-- Hours that a work may take: any (0), the least (1), the greatest (2). -/
structure HrOk (e : Int) (w : Wk) (h : Int) : Prop where
  lo : e = 1 → h = w.lo
  hi : e = 2 → h = w.hi
  ge : w.lo ≤ h
  le : h ≤ w.hi

/-- Hours of the first n works of an order; of the works of the first n orders. -/
structure RowOk (e : Int) (t : Tk) (n : Nat) (l : List Int) : Prop where
  len : l.length = n
  at_ : ∀ (k : Nat) (w : Wk), k < n → t.works[k]? = some w → ∃ h, l[k]? = some h ∧ HrOk e w h
structure HrsOk (s : Sh) (e : Int) (n : Nat) (g : List (List Int)) : Prop where
  len : g.length = n
  at_ : ∀ (i : Nat) (t : Tk), i < n → s.tasks[i]? = some t → ∃ l, g[i]? = some l ∧ RowOk e t t.works.length l

theorem RowOk.snoc {e : Int} {t : Tk} {n : Nat} {l : List Int} (r : RowOk e t n l) {w : Wk} {h : Int} (hw : t.works[n]? = some w) (hh : HrOk e w h) : RowOk e t (n + 1) (l ++ [h]) := by
  refine ⟨by simp [r.len], fun k w' hk hw' => ?_⟩
  by_cases e1 : k = n
  · subst e1
    rw [hw] at hw'; cases hw'
    exact ⟨h, by rw [List.getElem?_append_right (by rw [r.len]; exact Nat.le_refl _), r.len]; simp, hh⟩
  · obtain ⟨h', g1, g2⟩ := r.at_ k w' (by omega) hw'
    exact ⟨h', by rw [List.getElem?_append_left (by rw [r.len]; omega)]; exact g1, g2⟩

theorem HrsOk.snoc {s : Sh} {e : Int} {n : Nat} {g : List (List Int)} (r : HrsOk s e n g) {t : Tk} {l : List Int} (ht : s.tasks[n]? = some t) (hl : RowOk e t t.works.length l) : HrsOk s e (n + 1) (g ++ [l]) := by
  refine ⟨by simp [r.len], fun k t' hk ht' => ?_⟩
  by_cases e1 : k = n
  · subst e1
    rw [ht] at ht'; cases ht'
    exact ⟨l, by rw [List.getElem?_append_right (by rw [r.len]; exact Nat.le_refl _), r.len]; simp, hl⟩
  · obtain ⟨l', g1, g2⟩ := r.at_ k t' (by omega) ht'
    exact ⟨l', by rw [List.getElem?_append_left (by rw [r.len]; omega)]; exact g1, g2⟩

def gridL (g : List (List Int)) : List D := g.map fun l => .sl 1 (l.map I)

set_option maxRecDepth 20000 in
set_option maxHeartbeats 4000000 in
/-- hours: a truth. -/
theorem hoursF (x : Int) (s : Sh) (hv : Val s) (e : Int) (he : e = 0 ∨ e = 1 ∨ e = 2) (TL : List D) (hT : TL = s.tasks.map taskD) (Q) (hq : ∀ hrs HL x', HrsOk s e s.tasks.length hrs → HL = gridL hrs → Q (RA.ret (.sl 1 HL)) [pot x']) :
    CallA Tryd.prog 44 [.b 0 0, .agg [I s.benches, .sl 3 TL], I e] [pot x] Q := by
  obtain ⟨A, hA⟩ : ∃ A, A = ar := ⟨_, rfl⟩
  obtain ⟨N, hN⟩ : ∃ N, N = s.tasks.length := ⟨_, rfl⟩
  have hTl : TL.length = N := by rw [hT, hN]; simp
  have hlen := hv.len
  have hsum := hv.sum
  refine callA_start tokT hA Tryd.func44 rfl rfl rfl rfl rfl fun S hS => ?_
  cbv
  refine at_code hS ?_
  refine wpa_loopG (α := Int × Nat × Int × List (List Int) × List D) (fun q => { env := [(0, .b 0 0), (2, I e), (4, .b 1 0), (7, .o 2 1 q.2.1), (8, I q.1)], H := [pot q.2.2.1, .box (.agg [I s.benches, .sl 3 TL]), .els 1 q.2.2.2.2], nt := 66, dfs := [] })
    (fun q => N - q.2.1) (fun q => IsI q.1 q.2.1 ∧ q.2.1 ≤ N ∧ q.2.2.2.2 = gridL q.2.2.2.1 ∧ HrsOk s e q.2.1 q.2.2.2.1)
    (0, 0, x, [], []) ⟨⟨rfl⟩, Nat.zero_le _, rfl, ⟨rfl, fun i t h => absurd h (Nat.not_lt_zero _)⟩⟩ ?_ ?_
  · refine gs_virt 7 1 rfl ?_
    exact gs_to [0, 1, 2] ⟨by decide, pre1, ⟨rfl, rfl, rfl, trivial⟩, ⟨rfl, rfl, rfl, rfl, rfl, trivial⟩, rfl, rfl⟩
  rintro ⟨i, k, x0, hrs, HL⟩ ⟨u1, u2, u3, u4⟩
  dsimp only at u1 u2 u3 u4
  have hHl : HL.length = k := by rw [u3]; simp [gridL, u4.len]
  refine wp_go tokT hA hS ?_
  cbv
  refine bm (fun c => ?_) (fun c => ?_)
  · have hk : k < N := yltL hA hTl u1 c
    obtain ⟨t, ht⟩ : ∃ t, t = s.tasks[k] := ⟨_, rfl⟩
    have htk : s.tasks[k]? = some t := by rw [ht]; exact List.getElem?_eq_getElem (by omega)
    have hwk := hv.wk t (List.mem_of_getElem? htk)
    obtain ⟨WL, hWL⟩ : ∃ WL, WL = t.works.map workD := ⟨_, rfl⟩
    obtain ⟨wn, hwn⟩ : ∃ wn, wn = t.works.length := ⟨_, rfl⟩
    have hwb : wn ≤ 8 := by
      have h1 := leftS_at htk
      have h2 := getD_le_sum (leftS s) k
      rw [leftS_sum] at h2; omega
    have hWl : WL.length = wn := by rw [hWL, hwn]; simp
    have hTk : TL[k]? = some (.agg [I t.ready, I t.due, .sl 3 WL]) := by rw [hT]; simp [htk, hWL, taskD]
    have hin := yinbL hA hTl u1 hk
    have hgt := yget hA u1 hTk
    have hf1 := yfit1 hA u1 (by omega)
    have hu1 := ysucc hA u1
    have hms : N - (k + 1) < N - k := by omega
    have hkb : k ≤ 1000000 := by omega
    have hkn : A.addN k 1 = k + 1 := xaddN hA k 1
    cbv
    refine at_code hS ?_
    refine wpa_loopG (α := Int × Nat × Int × List Int × List D) (fun q => { env := [(0, .b 0 0), (2, I e), (4, .b 1 0), (7, .o 2 1 k), (8, I i), (10, I q.1), (9, .o 3 1 q.2.1)], H := [pot q.2.2.1, .box (.agg [I s.benches, .sl 3 TL]), .els 1 HL, .els 1 q.2.2.2.2], nt := 66, dfs := [] })
      (fun q => wn - q.2.1) (fun q => IsI q.1 q.2.1 ∧ q.2.1 ≤ wn ∧ q.2.2.2.2 = q.2.2.2.1.map I ∧ RowOk e t q.2.1 q.2.2.2.1)
      (0, 0, x0, [], []) ⟨⟨rfl⟩, Nat.zero_le _, rfl, ⟨rfl, fun k' w' h => absurd h (Nat.not_lt_zero _)⟩⟩ ?_ ?_
    · refine gs_virt 9 1 rfl ?_
      exact gs_to [0, 1, 2, 3] ⟨by decide, pre1, ⟨rfl, rfl, rfl, rfl, trivial⟩, ⟨rfl, rfl, rfl, rfl, rfl, rfl, rfl, trivial⟩, rfl, rfl⟩
    rintro ⟨j, m, x1, vals, L⟩ ⟨v1, v2, v3, v4⟩
    dsimp only at v1 v2 v3 v4
    have hLl : L.length = m := by rw [v3]; simp [v4.len]
    have hf2 := yfit1 hA v1 (by omega)
    have hv1 := ysucc hA v1
    have hmb : m ≤ 1000000 := by omega
    refine wp_go tokT hA hS ?_
    cbv
    refine ⟨hin, ⟨_, hgt, ?_⟩⟩
    cbv
    refine bm (fun c2 => ?_) (fun c2 => ?_)
    · have hm : m < wn := yltL hA hWl v1 c2
      have hms2 : wn - (m + 1) < wn - m := by omega
      have hmn : A.addN m 1 = m + 1 := xaddN hA m 1
      obtain ⟨w, hw⟩ : ∃ w, w = t.works[m] := ⟨_, rfl⟩
      have hwm : t.works[m]? = some w := by rw [hw]; exact List.getElem?_eq_getElem (by omega)
      have hww := hwk w (List.mem_of_getElem? hwm)
      have hWm : WL[m]? = some (.agg [I w.b, I w.lo, I w.hi]) := by rw [hWL]; simp [hwm, workD]
      have hin2 := yinbL hA hWl v1 hm
      have hbd : -1000000 ≤ w.lo ∧ w.lo ≤ w.hi ∧ w.hi ≤ 1000000 := by omega
      have hlow : w.lo ≤ w.hi := by omega
      have hnew : ∀ h, HrOk e w h → A.app L [I h] = (vals ++ [h]).map I ∧ RowOk e t (m + 1) (vals ++ [h]) := fun h hh => ⟨by rw [xapp hA, v3]; simp, v4.snoc hwm hh⟩
      cbv
      refine ⟨hin, ⟨_, hgt, ?_⟩⟩
      cbv
      refine ⟨hin2, ⟨_, yget hA v1 hWm, ?_⟩⟩
      cbv
      refine bm (fun c3 => ?_) (fun c3 => ?_)
      · have he1 : e = 1 := xeq hA c3
        have hok : HrOk e w w.lo := ⟨fun _ => rfl, fun e2 => by omega, Int.le_refl _, hlow⟩
        cbv
        refine ⟨yeqLen hA hLl, yeqLen hA rfl, yroom1 hA hmb (by decide), hf2, ?_⟩
        refine gs_loop (A.add j 1, m + 1, x1, vals ++ [w.lo], A.app L [I w.lo]) [0, 1, 2, 6] ⟨hv1, hm, hnew w.lo hok⟩ hms2 ?_
        exact ⟨by decide, pre1, ⟨rfl, rfl, rfl, rfl, trivial⟩, ⟨rfl, rfl, rfl, rfl, rfl, rfl, by subst hA; rfl, trivial⟩, rfl, rfl⟩
      · have he1 : e ≠ 1 := xneq hA c3
        cbv
        refine bm (fun c4 => ?_) (fun c4 => ?_)
        · have he2 : e = 2 := xeq hA c4
          have hok : HrOk e w w.hi := ⟨fun e1 => absurd e1 he1, fun _ => rfl, hlow, Int.le_refl _⟩
          cbv
          refine ⟨yeqLen hA hLl, yeqLen hA rfl, yroom1 hA hmb (by decide), hf2, ?_⟩
          refine gs_loop (A.add j 1, m + 1, x1, vals ++ [w.hi], A.app L [I w.hi]) [0, 1, 2, 6] ⟨hv1, hm, hnew w.hi hok⟩ hms2 ?_
          exact ⟨by decide, pre1, ⟨rfl, rfl, rfl, rfl, trivial⟩, ⟨rfl, rfl, rfl, rfl, rfl, rfl, by subst hA; rfl, trivial⟩, rfl, rfl⟩
        · have he2 : e ≠ 2 := xneq hA c4
          cbv
          refine ops_call hS [.b 0 0, .agg [I w.lo, I w.hi]] [0] [pot x1] rfl rfl rfl rfl rfl rfl rfl rfl (by decide) ⟨rfl, trivial⟩ (inner x1 w.lo w.hi hbd _ fun h x2 hh1 hh2 => ?_)
          have hok : HrOk e w h := ⟨fun e1 => absurd e1 he1, fun e2 => absurd e2 he2, hh1, hh2⟩
          refine ops_go tokT hA hS ?_
          cbv
          refine ⟨yeqLen hA hLl, yeqLen hA rfl, yroom1 hA hmb (by decide), hf2, ?_⟩
          refine gs_loop (A.add j 1, m + 1, x2, vals ++ [h], A.app L [I h]) [0, 1, 2, 6] ⟨hv1, hm, hnew h hok⟩ hms2 ?_
          exact ⟨by decide, pre1, ⟨rfl, rfl, rfl, rfl, trivial⟩, ⟨rfl, rfl, rfl, rfl, rfl, rfl, by subst hA; rfl, trivial⟩, rfl, rfl⟩
    · have hm : m = wn := by have := ynltL hA hWl v1 c2; omega
      have hrow : RowOk e t t.works.length vals := by rw [← hwn, ← hm]; exact v4
      have hgr := u4.snoc htk hrow
      have hHn : A.app HL [.sl 1 L] = gridL (hrs ++ [vals]) := by rw [xapp hA, u3, v3]; simp [gridL]
      cbv
      refine gs_frz hA [3] ?_
      cbv
      refine ⟨yeqLen hA hLl, gs_done ?_⟩
      cbv
      refine ⟨yeqLen hA hHl, yeqLen hA rfl, yroom1 hA hkb (by decide), hf1, ?_⟩
      refine gs_loop (A.add i 1, k + 1, x1, hrs ++ [vals], A.app HL [.sl 1 L]) [0, 1, 5] ⟨hu1, hk, hHn, hgr⟩ hms ?_
      exact ⟨by decide, pre1, ⟨rfl, rfl, rfl, trivial⟩, ⟨rfl, rfl, rfl, by subst hA; rfl, rfl, trivial⟩, rfl, rfl⟩
  · have hk : k = N := by have := ynltL hA hTl u1 c; omega
    have hgr : HrsOk s e s.tasks.length hrs := by rw [← hN, ← hk]; exact u4
    cbv
    refine gs_done ?_
    cbv
    refine gh_frz [2] ?_
    cbv
    exact ⟨by cases HL <;> exact hHl.symm, gh_view [0] (by decide) pre1 (H' := [pot x0]) (d' := .sl 1 HL) ⟨rfl, trivial⟩ rfl (gh_done (hq hrs HL x0 hgr u3))⟩
end Go.Proofs.YtmloogdalecilaaDoor

/-! D31 -/
namespace Go.Proofs.YtmloogdalecilaaDoor
open Go Go.Abs Go.Proofs

/-- What the statement reckons: the n-th work, after those before it. -/
def stepD (s : Sh) (p : List Nat) (h : Nat → Nat → Int) (n : Nat) (out : List Stt) : Stt :=
  let t := p.getD n 0
  let c := (p.take n).count t
  let w := workAt s t c
  let bg := fo (fun o => decide (o.t = (t : Int)) || decide (o.b = w.b)) (s.tasks.getD t default).ready out
  ⟨t, c, w.b, bg, bg + h t c⟩
def doneN (s : Sh) (p : List Nat) (h : Nat → Nat → Int) : Nat → List Stt
  | 0 => []
  | n + 1 => doneN s p h n ++ [stepD s p h n (doneN s p h n)]
def sttD (o : Stt) : D := .agg [I o.t, I o.k, I o.b, I o.bg, I o.en]

theorem doneN_len (s p h) : ∀ n, (doneN s p h n).length = n
  | 0 => rfl
  | n + 1 => by simp [doneN, doneN_len s p h n]

theorem fo_btw (c : Stt → Bool) (B : Int) : ∀ (l : List Stt) (a : Int), (0 ≤ a ∧ a ≤ B) → (∀ o ∈ l, 0 ≤ o.en ∧ o.en ≤ B) → 0 ≤ fo c a l ∧ fo c a l ≤ B
  | [], a, ha, _ => ha
  | o :: l, a, ha, hl => by
    have ho := hl o List.mem_cons_self
    simp only [fo, List.foldl_cons]
    exact fo_btw c B l _ (by split <;> omega) (fun o h => hl o (List.mem_cons_of_mem _ h))

theorem fo_take (c : Stt → Bool) (a : Int) (l : List Stt) (k : Nat) {o : Stt} (h : l[k]? = some o) : fo c a (l.take (k + 1)) = if c o then max (fo c a (l.take k)) o.en else fo c a (l.take k) := by
  rw [List.take_add_one, h]; exact fo_snoc c a (l.take k) o

/-- The hours of a grid. -/
def grH (g : List (List Int)) (t c : Nat) : Int := (g.getD t []).getD c 0

theorem done_bound {s : Sh} {p : List Nat} {h : Nat → Nat → Int} (hv : Val s) (hp : PlanLe s p) (hh : ∀ t c, t < s.tasks.length → c < (s.tasks.getD t default).works.length → 0 ≤ h t c ∧ h t c ≤ 20) :
    ∀ n, n ≤ p.length → ∀ o ∈ doneN s p h n, 0 ≤ o.en ∧ o.en ≤ 200 + n * 20
  | 0, _, o, ho => by simp [doneN] at ho
  | n + 1, hn, o, ho => by
    have ih := done_bound hv hp hh n (by omega)
    simp only [doneN, List.mem_append, List.mem_singleton] at ho
    rcases ho with ho | rfl
    · have := ih o ho; omega
    · have hpn : p[n]? = some p[n] := List.getElem?_eq_getElem (by omega)
      have hpd : p.getD n 0 = p[n] := by rw [List.getD_eq_getElem?_getD, hpn]; rfl
      have ht : p[n] < s.tasks.length := hp.lt _ (List.getElem_mem _)
      have hc : (p.take n).count p[n] < (s.tasks.getD p[n] default).works.length := by
        have h1 := take_succ_count hpn p[n]
        rw [if_pos rfl] at h1
        have h2 : (p.take (n + 1)).count p[n] ≤ p.count p[n] := (List.take_sublist _ _).count_le _
        have := hp.cnt _ ht
        omega
      have hr := hv.rd _ (getD_mem (d := default) ht)
      have hb := fo_btw (fun o => decide (o.t = ((p[n] : Nat) : Int)) || decide (o.b = (workAt s p[n] ((p.take n).count p[n])).b)) (200 + n * 20) (doneN s p h n) (s.tasks.getD p[n] default).ready ⟨hr.1, by omega⟩ ih
      have := hh _ _ ht hc
      simp only [stepD, hpd]
      omega

set_option maxRecDepth 20000 in
set_option maxHeartbeats 4000000 in
/-- done. -/
theorem doneF (s : Sh) (hv : Val s) (p : List Nat) (hp : PlanLe s p) (hpl : p.length ≤ 8) (e : Int) (g : List (List Int)) (hg : HrsOk s e s.tasks.length g) (TL PL HL : List D) (hT : TL = s.tasks.map taskD) (hP : PL = planL p) (hH : HL = gridL g) (Q)
    (hq : ∀ OL, OL = (doneN s p (grH g) p.length).map sttD → Q (RA.ret (.sl 5 OL)) []) :
    CallA Tryd.prog 43 [.agg [I s.benches, .sl 3 TL], .sl 1 PL, .sl 1 HL] [] Q := by
  obtain ⟨A, hA⟩ : ∃ A, A = ar := ⟨_, rfl⟩
  obtain ⟨N, hN⟩ : ∃ N, N = s.tasks.length := ⟨_, rfl⟩
  have hTl : TL.length = N := by rw [hT, hN]; simp
  have hPl : PL.length = p.length := by rw [hP]; simp [planL]
  have hHl : HL.length = N := by rw [hH, hN]; simp [gridL, hg.len]
  have hlen := hv.len
  have hr0 : 0 ≤ ((TL.length : Nat) : Int) := by omega
  have hr1 : TL.length * 8 ≤ 140737488355328 ∧ TL.length ≤ 4611686018427387904 := by omega
  have hgh : ∀ t c, t < s.tasks.length → c < (s.tasks.getD t default).works.length → ∃ l h, g[t]? = some l ∧ l.length = (s.tasks.getD t default).works.length ∧ l[c]? = some h ∧ grH g t c = h ∧ 0 ≤ h ∧ h ≤ 20 := fun t c ht hc => by
    have h1 : s.tasks[t]? = some (s.tasks.getD t default) := by rw [List.getD_eq_getElem?_getD, List.getElem?_eq_getElem ht]; rfl
    obtain ⟨l, g1, g2⟩ := hg.at_ t _ ht h1
    have hw : (s.tasks.getD t default).works[c]? = some (s.tasks.getD t default).works[c] := List.getElem?_eq_getElem hc
    obtain ⟨h, g3, g4⟩ := g2.at_ c _ hc hw
    have hww := hv.wk _ (List.mem_of_getElem? h1) _ (List.mem_of_getElem? hw)
    have := g4.ge; have := g4.le
    exact ⟨l, h, g1, g2.len, g3, by simp [grH, List.getD_eq_getElem?_getD, g1, g3], by omega, by omega⟩
  have hbd := done_bound (h := grH g) hv hp (fun t c h1 h2 => by obtain ⟨_, h, _, _, _, e, a, b⟩ := hgh t c h1 h2; rw [e]; exact ⟨a, b⟩)
  obtain ⟨dn, hdn⟩ : ∃ dn, dn = doneN s p (grH g) := ⟨_, rfl⟩
  have hdl : ∀ n, (dn n).length = n := fun n => by rw [hdn]; exact doneN_len _ _ _ n
  rw [← hdn] at hbd hq
  refine callA_start tokT hA Tryd.func43 rfl rfl rfl rfl rfl fun S hS => ?_
  cbv
  refine ⟨by subst hA; exact hr0, by subst hA; exact hr1, ?_⟩
  refine at_code hS ?_
  refine wpa_loopG (α := Int × Nat × List D × List D) (fun q => { env := [(1, .sl 1 PL), (2, .sl 1 HL), (3, .b 0 0), (7, .o 2 5 q.2.1), (8, .o 1 1 N), (9, I q.1)], H := [.box (.agg [I s.benches, .sl 3 TL]), .els 1 q.2.2.1, .els 5 q.2.2.2], nt := 107, dfs := [] })
    (fun q => p.length - q.2.1) (fun q => IsI q.1 q.2.1 ∧ q.2.1 ≤ p.length ∧ q.2.2.1 = cntD s p q.2.1 ∧ q.2.2.2 = (dn q.2.1).map sttD) (0, 0, List.replicate TL.length (I 0), []) ⟨⟨rfl⟩, Nat.zero_le _, ?_, by rw [hdn]; rfl⟩ ?_ ?_
  · exact List.ext_getElem? fun j => by
      by_cases hj : j < s.tasks.length
      · rw [cntD_get hj, List.getElem?_replicate, if_pos (by omega)]; rfl
      · rw [List.getElem?_eq_none (by simp; omega), List.getElem?_eq_none (by simp [cntD]; omega)]
  · refine gs_virt 7 5 rfl ?_
    exact gs_to [0, 1, 2] ⟨by decide, pre0, ⟨rfl, by subst hA; rfl, rfl, trivial⟩, ⟨rfl, rfl, rfl, rfl, by subst hA; rw [← hTl]; rfl, rfl, trivial⟩, rfl, rfl⟩
  rintro ⟨i, k, NL, OL⟩ ⟨u1, u2, u3, u4⟩
  dsimp only at u1 u2 u3 u4
  have hNl : NL.length = N := by rw [u3, hN]; simp [cntD]
  have hOl : OL.length = k := by rw [u4]; simp [hdl]
  refine wp_go tokT hA hS ?_
  cbv
  refine bm (fun c => ?_) (fun c => ?_)
  · have hk : k < p.length := yltL hA hPl u1 c
    obtain ⟨x, hx⟩ : ∃ x, x = p[k] := ⟨_, rfl⟩
    have hpk : p[k]? = some x := by rw [hx]; exact List.getElem?_eq_getElem hk
    have hpd : p.getD k 0 = x := by rw [List.getD_eq_getElem?_getD, hpk]; rfl
    have hxl : x < s.tasks.length := hp.lt x (List.mem_of_getElem? hpk)
    have hxN : x < N := by omega
    obtain ⟨xI, hxI⟩ : ∃ y, IsI y x := ⟨_, ⟨rfl⟩⟩
    have hPk : PL[k]? = some (I xI) := by rw [hP, hxI.eq]; simp [hpk, planL]
    obtain ⟨cn, hcn⟩ : ∃ cn, cn = (p.take k).count x := ⟨_, rfl⟩
    have hcw : cn < (s.tasks.getD x default).works.length := by
      have h1 := take_succ_count hpk x
      rw [if_pos rfl] at h1
      have h2 : (p.take (k + 1)).count x ≤ p.count x := (List.take_sublist _ _).count_le x
      have := hp.cnt x hxl
      omega
    have hck : cn ≤ k := by rw [hcn]; exact Nat.le_trans List.count_le_length (by simp; omega)
    obtain ⟨cI, hcI⟩ : ∃ y, IsI y cn := ⟨_, ⟨rfl⟩⟩
    have hNx : NL[x]? = some (I cI) := by rw [u3, hcI.eq, hcn]; exact cntD_get hxl
    obtain ⟨t, ht⟩ : ∃ t, t = s.tasks.getD x default := ⟨_, rfl⟩
    have htx : s.tasks[x]? = some t := by rw [ht, List.getD_eq_getElem?_getD, List.getElem?_eq_getElem hxl]; rfl
    rw [← ht] at hcw
    obtain ⟨WL, hWL⟩ : ∃ WL, WL = t.works.map workD := ⟨_, rfl⟩
    have hWl : WL.length = t.works.length := by rw [hWL]; simp
    have hTx : TL[x]? = some (.agg [I t.ready, I t.due, .sl 3 WL]) := by rw [hT]; simp [htx, hWL, taskD]
    obtain ⟨w, hw⟩ : ∃ w, w = workAt s x cn := ⟨_, rfl⟩
    have hwc : t.works[cn]? = some w := by rw [hw, workAt, ← ht, List.getD_eq_getElem?_getD, List.getElem?_eq_getElem hcw]; rfl
    have hWc : WL[cn]? = some (.agg [I w.b, I w.lo, I w.hi]) := by rw [hWL]; simp [hwc, workD]
    obtain ⟨hr, h, hg1, hg2, hg3, hg4, hg5, hg6⟩ := hgh x cn hxl (by rw [← ht]; exact hcw)
    obtain ⟨RW, hRW⟩ : ∃ RW, RW = hr.map I := ⟨_, rfl⟩
    have hRl : RW.length = t.works.length := by rw [hRW, List.length_map, hg2, ← ht]
    have hHx : HL[x]? = some (.sl 1 RW) := by rw [hH, hRW]; simp [gridL, hg1]
    have hRc : RW[cn]? = some (I h) := by rw [hRW]; simp [hg3]
    have hset := yset hA hxI (show cntD s p (k + 1) = NL.set x (I (A.add cI 1)) by rw [u3, (ysucc hA hcI).eq, hcn]; exact cntD_set hpk hxl)
    have hi1 := yinbL hA hPl u1 hk
    have hi2 := yinbL hA hTl hxI hxN
    have hi3 := yinb hA hxI hxN
    have hi4 := yinbL hA hWl hcI hcw
    have hi5 := yinbL hA hHl hxI hxN
    have hi6 := yinbL hA hRl hcI hcw
    have hgN := yget hA hxI hNx
    have hgT := yget hA hxI hTx
    have hgW := yget hA hcI hWc
    have hgH := yget hA hxI hHx
    have hgR := yget hA hcI hRc
    have hfc := yfit1 hA hcI (by omega)
    have hf1 := yfit1 hA u1 (by omega)
    have hu1 := ysucc hA u1
    have hms : p.length - (k + 1) < p.length - k := by omega
    have hkb : k ≤ 1000000 := by omega
    obtain ⟨cnd, hcnd⟩ : ∃ cnd : Stt → Bool, cnd = fun o => decide (o.t = (x : Int)) || decide (o.b = w.b) := ⟨_, rfl⟩
    have hcT0 : ∀ o : Stt, o.t = xI → cnd o = true := fun o h => by rw [hcnd]; simp only; rw [decide_eq_true (h.trans hxI.eq)]; rfl
    have hcB0 : ∀ o : Stt, o.t ≠ xI → cnd o = decide (o.b = w.b) := fun o h => by
      rw [hcnd]; simp only; rw [decide_eq_false (fun e => h (e.trans hxI.eq.symm))]; rfl
    have hrd := hv.rd t (List.mem_of_getElem? htx)
    cbv
    refine ⟨hi1, ⟨_, yget hA u1 hPk, ?_⟩⟩
    cbv
    refine draw_go tokT hA hS [0, 1, 2, 3, 4, 5, 6, 7, 8, 9, 10, 11, 12, 13] rfl rfl fun Dk hD => ?_
    cbv
    refine ⟨hi2, ⟨_, hgT, ?_⟩⟩
    cbv
    refine ⟨hi3, ⟨_, hgN, ?_⟩⟩
    cbv
    refine ⟨hi4, ⟨_, hgW, ?_⟩⟩
    cbv
    refine ⟨hi2, ⟨_, hgT, ?_⟩⟩
    cbv
    refine at_code hS ?_
    refine wpa_loopG (α := Int × Nat × Int) (fun q => { env := [(1, .sl 1 PL), (2, .sl 1 HL), (3, .b 0 0), (7, .o 2 5 k), (8, .o 1 1 N), (9, I i), (10, I xI), (11, .b 3 0), (12, I q.2.2), (13, I q.1)], H := [.box (.agg [I s.benches, .sl 3 TL]), .els 1 NL, .els 5 OL, .box (.agg [I w.b, I w.lo, I w.hi])], nt := 107, dfs := [] })
      (fun q => k - q.2.1) (fun q => IsI q.1 q.2.1 ∧ q.2.1 ≤ k ∧ q.2.2 = fo cnd t.ready ((dn k).take q.2.1)) (0, 0, t.ready) ⟨⟨rfl⟩, Nat.zero_le _, rfl⟩ ?_ ?_
    · exact gs_to [0, 1, 2, 3] ⟨by decide, pre0, ⟨rfl, rfl, rfl, rfl, trivial⟩, ⟨rfl, rfl, rfl, rfl, rfl, rfl, rfl, rfl, rfl, rfl, trivial⟩, rfl, rfl⟩
    rintro ⟨j, m, bg⟩ ⟨v1, v2, v3⟩
    dsimp only at v1 v2 v3
    have hf2 := yfit1 hA v1 (by omega)
    have hv1 := ysucc hA v1
    have hmk : A.cmp .lss j (A.oi k) = true → m < k := fun h => yltN hA v1 h
    have hnk : A.cmp .lss j (A.oi k) = false → m = k := fun h => by have := ynltN hA v1 h; omega
    by_cases hm : m < k
    · obtain ⟨o, ho⟩ : ∃ o, o = (dn k)[m]'(by rw [hdl]; exact hm) := ⟨_, rfl⟩
      have hdo : (dn k)[m]? = some o := by rw [ho]; exact List.getElem?_eq_getElem (by rw [hdl]; exact hm)
      have hOm : OL[m]? = some (.agg [I o.t, I o.k, I o.b, I o.bg, I o.en]) := by rw [u4]; simp [hdo, sttD]
      have hj1 := yinb hA v1 hm
      have hgO := yget hA v1 hOm
      have hms2 : k - (m + 1) < k - m := by omega
      have hft := fo_take cnd t.ready (dn k) m hdo
      have hyes : cnd o = true → A.max bg o.en = fo cnd t.ready ((dn k).take (m + 1)) := fun h => by rw [hft, if_pos h, xmax hA, v3]
      have hno : cnd o = false → bg = fo cnd t.ready ((dn k).take (m + 1)) := fun h => by rw [hft, if_neg (by rw [h]; decide), v3]
      have hcT := hcT0 o
      have hcB := hcB0 o
      by_cases hT : o.t = xI
      · have hb0 : A.cmp .eql o.t xI = true := by rw [xeqb hA]; exact decide_eq_true hT
        have hn := hyes (hcT hT)
        refine wp_go tokT hA hS ?_
        cbv
        refine bm (fun _ => ?_) (fun c2 => absurd (hnk c2) (by omega))
        cbv
        refine draw_goE tokT hA hS [6] [0, 1, 2, 3, 4, 5, 6, 7, 8, 9, 10, 11, 12, 13, 14, 15, 16] rfl rfl fun Dk hD => ?_
        cbv
        refine ⟨hj1, ⟨_, hgO, ?_⟩⟩
        cbv
        refine draw_val tokT hA hD [] (.v (.bool true)) rfl rfl rfl rfl rfl rfl (congrArg (fun b => D.v (.bool b)) hb0) ?_
        cbv
        refine ⟨hj1, ⟨_, hgO, ?_⟩⟩
        cbv
        refine ⟨hf2, ?_⟩
        refine gs_loop (A.add j 1, m + 1, A.max bg o.en) [0, 1, 2, 3] ⟨hv1, hm, hn⟩ hms2 ?_
        exact ⟨by decide, pre0, ⟨rfl, rfl, rfl, rfl, trivial⟩, ⟨rfl, rfl, rfl, rfl, rfl, rfl, rfl, rfl, rfl, rfl, trivial⟩, rfl, rfl⟩
      · have hb0 : A.cmp .eql o.t xI = false := by rw [xeqb hA]; exact decide_eq_false hT
        have hcB' := hcB hT
        refine wp_go tokT hA hS ?_
        cbv
        refine bm (fun _ => ?_) (fun c2 => absurd (hnk c2) (by omega))
        cbv
        refine draw_goE tokT hA hS [6] [0, 1, 2, 3, 4, 5, 6, 7, 8, 9, 10, 11, 12, 13, 14, 15, 16] rfl rfl fun Dk hD => ?_
        cbv
        refine ⟨hj1, ⟨_, hgO, ?_⟩⟩
        cbv
        refine draw_val tokT hA hD [] (.v (.bool false)) rfl rfl rfl rfl rfl rfl (congrArg (fun b => D.v (.bool b)) hb0) ?_
        cbv
        refine ⟨hj1, ⟨_, hgO, ?_⟩⟩
        cbv
        refine bm (fun c3 => ?_) (fun c3 => ?_)
        · have hn := hyes (by rw [hcB']; exact decide_eq_true (xeq hA c3))
          cbv
          refine ⟨hj1, ⟨_, hgO, ?_⟩⟩
          cbv
          refine ⟨hf2, ?_⟩
          refine gs_loop (A.add j 1, m + 1, A.max bg o.en) [0, 1, 2, 3] ⟨hv1, hm, hn⟩ hms2 ?_
          exact ⟨by decide, pre0, ⟨rfl, rfl, rfl, rfl, trivial⟩, ⟨rfl, rfl, rfl, rfl, rfl, rfl, rfl, rfl, rfl, rfl, trivial⟩, rfl, rfl⟩
        · have hn := hno (by rw [hcB']; exact decide_eq_false (xneq hA c3))
          cbv
          refine ⟨hf2, ?_⟩
          refine gs_loop (A.add j 1, m + 1, bg) [0, 1, 2, 3] ⟨hv1, hm, hn⟩ hms2 ?_
          exact ⟨by decide, pre0, ⟨rfl, rfl, rfl, rfl, trivial⟩, ⟨rfl, rfl, rfl, rfl, rfl, rfl, rfl, rfl, rfl, rfl, trivial⟩, rfl, rfl⟩
    · have hm2 : m = k := by omega
      have hbg : bg = fo cnd t.ready (dn k) := by rw [v3, hm2, List.take_of_length_le (by rw [hdl]; exact Nat.le_refl _)]
      have hbb := fo_btw cnd (200 + k * 20) (dn k) t.ready ⟨hrd.1, by omega⟩ (fun o ho => hbd k (by omega) o ho)
      rw [← hbg] at hbb
      have hfh : A.fits .i64 (A.add bg h) := xfitE hA (xadd hA bg h) (by omega)
      have hst : stepD s p (grH g) k (dn k) = ⟨x, cn, w.b, bg, bg + h⟩ := by
        simp only [stepD, hpd, ← hcn, ← hw, ← ht, hg4]
        rw [hbg, hcnd]
      have hdn1 : dn (k + 1) = dn k ++ [⟨x, cn, w.b, bg, bg + h⟩] := by
        rw [← hst, hdn]; rfl
      have hOn : A.app OL [.agg [I xI, I cI, I w.b, I bg, I (A.add bg h)]] = (dn (k + 1)).map sttD := by
        rw [xapp hA, hdn1, u4, xadd hA, hxI.eq, hcI.eq]; simp [sttD]
      refine wp_go tokT hA hS ?_
      cbv
      refine bm (fun c2 => absurd (hmk c2) hm) (fun _ => ?_)
      cbv
      refine gs_done ?_
      cbv
      refine draw_go tokT hA hS [0, 1, 2, 3, 4, 5, 6, 7, 8, 9, 10, 11, 12, 13, 14, 15, 16, 17, 18, 19, 20, 21, 22, 23, 24] rfl rfl fun Dk hD => ?_
      cbv
      refine ⟨hi3, ⟨_, hgN, ?_⟩⟩
      cbv
      refine ⟨hi5, ⟨_, hgH, ?_⟩⟩
      cbv
      refine ⟨hi3, ⟨_, hgN, ?_⟩⟩
      cbv
      refine ⟨hi6, ⟨_, hgR, ?_⟩⟩
      cbv
      refine ⟨hfh, yeqLen hA hOl, yeqLen hA rfl, yroom1 hA hkb (by decide), ⟨⟨_, hgR, rfl⟩, ⟨_, hgN, rfl⟩, ⟨_, hgH, rfl⟩, ⟨_, hgN, rfl⟩, trivial⟩, ?_⟩
      cbv
      refine ⟨hi3, ⟨_, hgN, ?_⟩⟩
      cbv
      refine ⟨hfc, hi3, ⟨_, hgN, ?_⟩⟩
      cbv
      refine ⟨hf1, ?_⟩
      refine gs_loop (A.add i 1, k + 1, A.set NL (A.tn xI) (I (A.add cI 1)), A.app OL [.agg [I xI, I cI, I w.b, I bg, I (A.add bg h)]]) [0, 1, 5] ⟨hu1, hk, hset, hOn⟩ hms ?_
      exact ⟨by decide, pre0, ⟨rfl, rfl, rfl, trivial⟩, ⟨rfl, rfl, rfl, by subst hA; rfl, rfl, rfl, trivial⟩, rfl, rfl⟩
  · have hk : k = p.length := by have := ynltL hA hPl u1 c; omega
    have hOf : OL = (dn p.length).map sttD := by rw [u4, hk]
    cbv
    refine gs_done ?_
    cbv
    refine gh_frz [2] ?_
    cbv
    exact ⟨by cases OL <;> exact hOl.symm, gh_view [] (by decide) pre0 (H' := []) (d' := .sl 5 OL) trivial rfl (gh_done (hq OL hOf))⟩
end Go.Proofs.YtmloogdalecilaaDoor

/-! P3 -/
namespace Go.Proofs.YtmloogdalecilaaDoor
open Go Go.Abs Go.Proofs

/-- With the least hours, or the greatest, what the statement reckons is a side of the run. -/
theorem done_run {s : Sh} {p : List Nat} (hv : Val s) (hp : PlanLe s p) (sd : Bool) (h : Nat → Nat → Int) (hh : ∀ t c, t < s.tasks.length → c < (s.tasks.getD t default).works.length → h t c = sel sd (workAt s t c).lo (workAt s t c).hi) :
    ∀ n, n ≤ p.length → doneN s p h n = ((runS s (fun _ => 0) p).map (sttOf sd)).take n
  | 0, _ => rfl
  | n + 1, hn => by
    have ih := done_run hv hp sd h hh n (by omega)
    have hpn : p[n]? = some p[n] := List.getElem?_eq_getElem (by omega)
    have hpd : p.getD n 0 = p[n] := by rw [List.getD_eq_getElem?_getD, hpn]; rfl
    obtain ⟨x, hx, hr⟩ := run_facts hv hp hpn
    have hb := bg_fo hv hp sd hpn hx
    rw [doneN, List.take_add_one, List.getElem?_map, hx, ih]
    simp only [Option.map_some, Option.toList_some]
    congr 1
    simp only [stepD, hpd, List.cons.injEq, and_true]
    rw [hh _ _ hr.hi hr.kl, ← hr.b, ← hb]
    simp only [sttOf, hr.t, hr.k, hr.en sd]

theorem grH_of {s : Sh} {e : Int} {g : List (List Int)} (hg : HrsOk s e s.tasks.length g) {t c : Nat} (ht : t < s.tasks.length) (hc : c < (s.tasks.getD t default).works.length) : HrOk e (workAt s t c) (grH g t c) := by
  have h1 : s.tasks[t]? = some (s.tasks.getD t default) := by rw [List.getD_eq_getElem?_getD, List.getElem?_eq_getElem ht]; rfl
  obtain ⟨l, g1, g2⟩ := hg.at_ t _ ht h1
  have hw : (s.tasks.getD t default).works[c]? = some (workAt s t c) := by
    unfold workAt
    generalize s.tasks.getD t default = T at hc
    rw [List.getD_eq_getElem?_getD, List.getElem?_eq_getElem hc]; rfl
  obtain ⟨h, g3, g4⟩ := g2.at_ c _ hc hw
  have e1 : grH g t c = h := by simp [grH, List.getD_eq_getElem?_getD, g1, g3]
  rw [e1]; exact g4

theorem done_lo {s : Sh} {p : List Nat} (hv : Val s) (hp : PlanLe s p) {g : List (List Int)} (hg : HrsOk s 1 s.tasks.length g) : doneN s p (grH g) p.length = (runS s (fun _ => 0) p).map (sttOf false) := by
  rw [done_run hv hp false _ (fun t c h1 h2 => (grH_of hg h1 h2).lo rfl) _ (Nat.le_refl _), List.take_of_length_le (by simp [runS_length])]
theorem done_hi {s : Sh} {p : List Nat} (hv : Val s) (hp : PlanLe s p) {g : List (List Int)} (hg : HrsOk s 2 s.tasks.length g) : doneN s p (grH g) p.length = (runS s (fun _ => 0) p).map (sttOf true) := by
  rw [done_run hv hp true _ (fun t c h1 h2 => (grH_of hg h1 h2).hi rfl) _ (Nat.le_refl _), List.take_of_length_le (by simp [runS_length])]

/-- The last work of an order says when the order ends. -/
theorem ends_at {s : Sh} {p : List Nat} (hv : Val s) (hp : PlanLe s p) {n i : Nat} (hpn : p[n]? = some i) {x : Sl} (hx : (runS s (fun _ => 0) p)[n]? = some x) (hk : x.k = ((s.tasks.getD i default).works.length : Int) - 1) : (endsS s p)[i]? = some (x.el, x.eh) := by
  obtain ⟨y, hy, hr⟩ := run_facts hv hp hpn
  rw [hx] at hy; cases hy
  have asc := runS_asc hv hp
  have et : x.t.toNat = i := by rw [hr.t]; rfl
  have key : ∀ (m : Nat) (z : Sl), (runS s (fun _ => 0) p)[m]? = some z → ∃ j, p[m]? = some j ∧ RunAt s p m j z := fun m z hz => by
    have hm : m < p.length := by have := (List.getElem?_eq_some_iff.1 hz).1; rwa [runS_length] at this
    obtain ⟨z', hz', hr'⟩ := run_facts hv hp (List.getElem?_eq_getElem hm)
    rw [hz] at hz'; cases hz'
    exact ⟨_, List.getElem?_eq_getElem hm, hr'⟩
  have hu : ∀ a ∈ runS s (fun _ => 0) p, ∀ b ∈ runS s (fun _ => 0) p, a.t = b.t → a.k = b.k → a = b := fun a ha b hb e1 e2 => by
    obtain ⟨m1, h1⟩ := List.mem_iff_getElem?.1 ha
    obtain ⟨m2, h2⟩ := List.mem_iff_getElem?.1 hb
    have l1 := (List.getElem?_eq_some_iff.1 h1)
    have l2 := (List.getElem?_eq_some_iff.1 h2)
    obtain ⟨l1, r1⟩ := l1
    obtain ⟨l2, r2⟩ := l2
    have pw := List.pairwise_iff_getElem.1 asc
    rcases Nat.lt_trichotomy m1 m2 with h | h | h
    · have := pw m1 m2 l1 l2 h (by rw [r1, r2]; exact e1); rw [r1, r2] at this; omega
    · subst h; rw [h1] at h2; exact Option.some.inj h2
    · have := pw m2 m1 l2 l1 h (by rw [r1, r2]; exact e1.symm); rw [r1, r2] at this; omega
  have := endsF_get (runS s (fun _ => 0) p) (asc.imp (S := fun (a b : Sl) => a.t = b.t → a.k ≤ b.k) fun h e => by have := h e; omega) hu (fun a ha => by
      obtain ⟨m, hm⟩ := List.mem_iff_getElem?.1 ha
      obtain ⟨j, -, rj⟩ := key m a hm
      rw [rj.t]; omega) (List.mem_of_getElem? hx) (fun y hy e => by
      obtain ⟨m, hm⟩ := List.mem_iff_getElem?.1 hy
      obtain ⟨j, -, rj⟩ := key m y hm
      have : j = i := by have := rj.t; have := hr.t; omega
      subst this
      have := rj.kl
      rw [rj.k, hk]; omega) (List.replicate s.tasks.length (0, 0)) (by rw [et]; simpa using hr.hi)
  rw [et] at this
  exact this

theorem endsS_len (s : Sh) (p : List Nat) : (endsS s p).length = s.tasks.length := by simp [endsS, endsF, endsF_len]

theorem lastS_snoc (l : List Sl) (x : Sl) : lastS (l ++ [x]) = (max (lastS l).1 x.el, max (lastS l).2 x.eh) := by
  simp only [lastS, List.foldl_append, List.foldl_cons, List.foldl_nil]
end Go.Proofs.YtmloogdalecilaaDoor

/-! D32 -/
namespace Go.Proofs.YtmloogdalecilaaDoor
open Go Go.Abs Go.Proofs

/-- NewPot, of numbers of any length. -/
theorem newPotL (L : List D) (nums : List Int) (hL : L = nums.map I) (hl : L.length ≤ 9223372036854775807) (Q) (hq : ∀ x, Q (RA.ret (.b 0 0)) [.box (.agg [U x])]) :
    CallA Tryd.prog 19 [.sl 1 L] [] Q := by
  obtain ⟨A, hA⟩ : ∃ A, A = ar := ⟨_, rfl⟩
  refine callA_start tokT hA Tryd.func19 rfl rfl rfl rfl rfl fun S hS => ?_
  cbv
  refine at_code hS ?_
  refine wpa_loopV (α := Int × Nat × Int) (fun x => { env := [(0, .sl 1 L), (3, .b 0 0), (4, .v (.int .i64 x.1))], H := [.box (.agg [U x.2.2])], nt := 41, dfs := [] }) (fun x => L.length - x.2.1) (fun x => x.2.1 ≤ L.length ∧ x.1 = x.2.1) (0, 0, 2611923443488327891) ⟨Nat.zero_le _, rfl⟩ [0] ?_ ?_
  · exact ⟨by decide, fun i hi => absurd hi (by simp), ⟨rfl, trivial⟩, ⟨rfl, rfl, rfl, trivial⟩, rfl, rfl⟩
  rintro ⟨i, k, x⟩ ⟨hk, hi⟩
  replace hk : k ≤ L.length := hk
  replace hi : i = (k : Int) := hi
  refine wp_go tokT hA hS ?_
  cbv
  split
  · rename_i hc
    cbv
    replace hi : i = (k : Int) := hi
    have hlt : k < L.length := by subst hA; simp [ar, cmpI] at hc; omega
    refine draw_go tokT hA hS [0, 1, 2, 3, 4, 5, 6, 7, 8, 9, 10, 11, 12, 13, 14] rfl rfl fun Dk hD => ?_
    cbv
    replace hi : i = (k : Int) := hi
    obtain ⟨y, hy⟩ : ∃ y, y = nums[k]'(by rw [hL] at hlt; simpa using hlt) := ⟨_, rfl⟩
    refine ⟨by subst hA; simp [ar]; omega, ⟨.v (.int .i64 y), by subst hA; simp [ar, hL, hi, hy, I], ?_⟩⟩
    cbv
    refine draw_go tokT hA hS [0, 1, 2, 3, 4, 5, 6, 7, 8, 9, 10, 11, 12, 13] rfl rfl fun Dk hD2 => ?_
    cbv
    replace hi : i = (k : Int) := hi
    subst hA
    refine ⟨by simp [ar], i64_ok (by simp [ar]; omega), (i + 1, k + 1, _), [0], ⟨by simp; omega, by simp; omega⟩, by simp; omega, by decide, fun i hi => absurd hi (by simp), ⟨rfl, trivial⟩, ⟨rfl, rfl, rfl, trivial⟩, rfl, rfl⟩
  · rename_i hc
    cbv
    refine gh_done (hq x)

theorem okS_shop {n m : Nat} {s : Sh} (h : OkS n m s) (hn : n ≤ 4) (hm : m ≤ 8) : ShopOk s := by
  have hw : ∀ w b, OkW b w → chkW b w = 0 := fun w b hw => by
    have := hw.b0; have := hw.b1; have := hw.lo; have := hw.le; have := hw.hi
    unfold chkW
    rw [if_neg, if_neg, if_neg, if_neg]
    · omega
    · simp [amg]; omega
    · simp [amg]; omega
    · simp [amg]; omega
  have hws : ∀ (l : List Wk) b, (∀ w ∈ l, OkW b w) → chkWs b l = 0 := fun l b hl => by
    induction l with
    | nil => rfl
    | cons w r ih => simp only [chkWs]; rw [if_pos (hw w b (hl w List.mem_cons_self))]; exact ih fun w hw => hl w (List.mem_cons_of_mem _ hw)
  have ht : ∀ t, OkT s.benches t → chkT s.benches t = 0 := fun t ht => by
    have := ht.r0; have := ht.r1; have := ht.d0; have := ht.d1; have := ht.w0
    unfold chkT
    rw [if_neg, if_neg, if_neg]
    · exact hws _ _ ht.wk
    · intro e; rw [e] at this; simp at this
    · simp [amg]; omega
    · simp [amg]; omega
  have hts : ∀ (l : List Tk), (∀ t ∈ l, OkT s.benches t) → chkTs s.benches l = 0 := fun l hl => by
    induction l with
    | nil => rfl
    | cons w r ih => simp only [chkTs]; rw [if_pos (ht w (hl w List.mem_cons_self))]; exact ih fun w hw => hl w (List.mem_cons_of_mem _ hw)
  have h1 := h.b0; have h2 := h.b1; have h3 := h.len; have h4 := h.sum
  refine ⟨?_, by omega, by omega, fun t ht => ?_⟩
  · unfold chkS
    rw [if_neg, if_neg, if_pos (hts _ h.tk), if_neg]
    · omega
    · omega
    · simp [amg]; omega
  · have := (h.tk t ht).w1; omega
end Go.Proofs.YtmloogdalecilaaDoor
