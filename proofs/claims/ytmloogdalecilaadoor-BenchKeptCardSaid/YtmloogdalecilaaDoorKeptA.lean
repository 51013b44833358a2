/- Part KeptA of the proofs about the benches of the accordion maker: see the last text of the claim for what is proved. -/
import Derived.Test.YtmloogdalecilaaDoorBoundA
import Derived.Test.YtmloogdalecilaaDoorTabA
import Derived.Test.YtmloogdalecilaaDoorPlansA
import Derived.Test.YtmloogdalecilaaDoorTabX
import Derived.Test.YtmloogdalecilaaDoorTrueA
set_option linter.unusedVariables false
set_option linter.unusedSimpArgs false
set_option linter.unnecessarySimpa false
set_option linter.constructorNameAsVariable false

/-! P20 -/
namespace Go.Proofs.YtmloogdalecilaaDoor
open Go Go.Abs Go.Proofs

section
variable {s : Sh} {tb : List (List Int)}

structure TbGood (s : Sh) (tb : List (List Int)) : Prop where
  nn : ∀ x ∈ allT s, 0 ≤ bgT tb x.1 x.2
  ok : ∀ x ∈ allT s, badT s tb x = false

theorem workT {i k : Nat} (hk : k < lenT s i) : (s.tasks.getD i default).works[k]? = some (workAt s i k) := by
  unfold workAt
  rw [List.getD_eq_getElem?_getD (l := (s.tasks.getD i default).works), List.getElem?_eq_getElem hk]; rfl

theorem work_hi (hv : Val s) {x : Nat × Nat} (hx : x ∈ allT s) : 1 ≤ (workAt s x.1 x.2).hi := by
  obtain ⟨h1, h2⟩ := allT_mem.1 hx
  have := work_ok hv h1 h2
  omega

theorem red_le (hg : TbGood s tb) {i k : Nat} (hi : i < s.tasks.length) (hk : k < lenT s i) : redT s tb i k ≤ bgT tb i k := by
  have h := hg.ok (i, k) (allT_mem.2 ⟨hi, hk⟩)
  simp only [badT, Bool.or_eq_false_iff, decide_eq_false_iff_not] at h
  omega

theorem bg_lt (hv : Val s) (hg : TbGood s tb) {i : Nat} (hi : i < s.tasks.length) {k : Nat} : ∀ j, k + 1 + j < lenT s i → bgT tb i k < bgT tb i (k + 1 + j)
  | 0, h => by
    have h1 := red_le hg hi h
    have h2 := work_hi hv (x := (i, k)) (allT_mem.2 ⟨hi, (by omega : k < lenT s i)⟩)
    simp only [redT, Nat.add_zero, if_neg (Nat.succ_ne_zero k), Nat.add_sub_cancel, enT] at h1 h2
    show bgT tb i k < bgT tb i (k + 1)
    omega
  | j + 1, h => by
    have h0 := bg_lt hv hg hi (k := k) j (by omega)
    have h1 := red_le hg hi h
    have h2 := work_hi hv (x := (i, k + 1 + j)) (allT_mem.2 ⟨hi, (by omega : k + 1 + j < lenT s i)⟩)
    simp only [redT, enT] at h1 h2
    rw [if_neg (by omega), show k + 1 + (j + 1) - 1 = k + 1 + j by omega] at h1
    omega

/-- The works by their begin. -/
def ordT (s : Sh) (tb : List (List Int)) : List (Nat × Nat) := (allT s).mergeSort fun x y => decide (bgT tb x.1 x.2 ≤ bgT tb y.1 y.2)
def planT (s : Sh) (tb : List (List Int)) : List Nat := (ordT s tb).map (·.1)

theorem planT_len : (planT s tb).length = (ordT s tb).length := by simp [planT]
theorem ordT_perm : (ordT s tb).Perm (allT s) := List.mergeSort_perm _ _
theorem ordT_nodup : (ordT s tb).Nodup := ordT_perm.nodup_iff.2 (prT_nodup s _ _)
theorem ordT_sorted : (ordT s tb).Pairwise fun x y => bgT tb x.1 x.2 ≤ bgT tb y.1 y.2 := by
  have := List.pairwise_mergeSort (le := fun x y : Nat × Nat => decide (bgT tb x.1 x.2 ≤ bgT tb y.1 y.2)) (fun a b c h1 h2 => by simp at *; omega) (fun a b => by simp; omega) (allT s)
  exact this.imp fun h => by simpa using h
theorem ordT_le {m n : Nat} {x y : Nat × Nat} (hm : (ordT s tb)[m]? = some x) (hn : (ordT s tb)[n]? = some y) (h : m < n) : bgT tb x.1 x.2 ≤ bgT tb y.1 y.2 := by
  obtain ⟨m1, m2⟩ := List.getElem?_eq_some_iff.1 hm
  obtain ⟨n1, n2⟩ := List.getElem?_eq_some_iff.1 hn
  have := List.pairwise_iff_getElem.1 (ordT_sorted (s := s) (tb := tb)) m n m1 n1 h
  rwa [m2, n2] at this

theorem prT_count (i : Nat) : ∀ j k, k ≤ lenT s j → ((prT s j k).map (·.1)).count i = (if i < j then lenT s i else 0) + if i = j then k else 0 := by
  have key : ∀ j k, ((prT s j 0).map (·.1)).count i = (if i < j then lenT s i else 0) → ((prT s j k).map (·.1)).count i = (if i < j then lenT s i else 0) + if i = j then k else 0 := by
    intro j k h
    induction k with
    | zero => rw [h]; simp
    | succ k ih =>
      rw [prT_succ, List.map_append, List.count_append, ih]
      by_cases e : i = j
      · subst e; simp
      · have e2 : ¬ j = i := fun h => e h.symm
        simp [e, e2]
  have base : ∀ j, ((prT s j 0).map (·.1)).count i = (if i < j then lenT s i else 0) := by
    intro j
    induction j with
    | zero => simp [prT]
    | succ j ih =>
      rw [prT_next, key j _ ih]
      by_cases e : i = j
      · subst e; rw [if_neg (by omega), if_pos rfl, if_pos (by omega)]; omega
      · rw [if_neg e]
        by_cases e2 : i < j
        · rw [if_pos e2, if_pos (by omega)]; rfl
        · rw [if_neg e2, if_neg (by omega)]
  exact fun j k _ => key j k (base j)

theorem planT_ok : PlanOk s (planT s tb) := by
  have hp : (planT s tb).Perm ((allT s).map (·.1)) := ordT_perm.map _
  refine ⟨fun i hi => ?_, fun i hi => ?_, ?_⟩
  · obtain ⟨x, hx, rfl⟩ := List.mem_map.1 hi
    exact (allT_mem.1 (ordT_perm.mem_iff.1 hx)).1
  · rw [hp.count_eq, allT, prT_count i _ _ (Nat.zero_le _), if_pos hi, if_neg (by omega)]; rfl
  · rw [hp.length_eq, List.length_map, nWorks_range]
    simp [allT, prT, List.length_flatMap, lenT, Function.comp_def]

/-- Of each order the works come one after another. -/
theorem planT_at (hv : Val s) (hg : TbGood s tb) {n i k : Nat} (hn : (ordT s tb)[n]? = some (i, k)) : ((planT s tb).take n).count i = k := by
  obtain ⟨hi, hk⟩ := allT_mem.1 (ordT_perm.mem_iff.1 (List.mem_of_getElem? hn))
  have hmem : ∀ x : Nat × Nat, x ∈ ((ordT s tb).take n).filter (fun x => decide (x.1 = i)) ↔ x ∈ (List.range k).map fun c => (i, c) := by
    intro ⟨a, c⟩
    simp only [List.mem_filter, decide_eq_true_eq, List.mem_map, List.mem_range, Prod.mk.injEq]
    constructor
    · rintro ⟨h1, rfl⟩
      obtain ⟨m, hm⟩ := List.mem_iff_getElem?.1 h1
      rw [List.getElem?_take] at hm
      split at hm
      · rename_i hmn
        have hi : a < s.tasks.length := hi
        have hle : bgT tb a c ≤ bgT tb a k := ordT_le hm hn hmn
        have hc : c < lenT s a := (allT_mem.1 (ordT_perm.mem_iff.1 (List.mem_of_getElem? hm))).2
        refine ⟨c, ?_, rfl, rfl⟩
        by_cases e : c = k
        · subst e
          have := (List.getElem?_inj (List.getElem?_eq_some_iff.1 hm).1 ordT_nodup).1 (hm.trans hn.symm)
          omega
        · apply Nat.lt_of_not_le; intro hkc
          have := bg_lt hv hg hi (k := k) (c - (k + 1)) (by omega)
          rw [show k + 1 + (c - (k + 1)) = c by omega] at this
          omega
      · cases hm
    · rintro ⟨c', h1, rfl, rfl⟩
      refine ⟨?_, rfl⟩
      have hk' : k < lenT s i := hk
      have hi : i < s.tasks.length := hi
      have hlt := bg_lt hv hg hi (k := c') (k - (c' + 1)) (by omega)
      rw [show c' + 1 + (k - (c' + 1)) = k by omega] at hlt
      have hcm : (i, c') ∈ ordT s tb := ordT_perm.mem_iff.2 (allT_mem.2 ⟨hi, show c' < lenT s i by omega⟩)
      obtain ⟨m, hm⟩ := List.mem_iff_getElem?.1 hcm
      refine List.mem_iff_getElem?.2 ⟨m, ?_⟩
      rw [List.getElem?_take, if_pos, hm]
      apply Nat.lt_of_not_le; intro h
      by_cases e : n = m
      · subst e; rw [hn] at hm; cases hm; omega
      · have : bgT tb i k ≤ bgT tb i c' := ordT_le hn hm (by omega)
        omega
  have hnd1 : (((ordT s tb).take n).filter (fun x => decide (x.1 = i))).Nodup := List.filter_sublist.nodup ((List.take_sublist _ _).nodup ordT_nodup)
  have hnd2 : ((List.range k).map fun c => (i, c)).Nodup := List.Pairwise.map _ (fun a b h e => h (by simpa using e)) List.nodup_range
  have hpm := (List.perm_ext_iff_of_nodup hnd1 hnd2).2 hmem
  have hlen := hpm.length_eq
  rw [List.length_map, List.length_range] at hlen
  rw [planT, ← List.map_take, List.count_eq_countP, List.countP_map, List.countP_eq_length_filter, ← hlen]
  rfl

/-- No work begins later than the timetable says. -/
theorem planT_le (hv : Val s) (hg : TbGood s tb) : ∀ n, n ≤ (planT s tb).length →
    (∀ j, j < s.tasks.length → (cwt s (planT s tb) n).tk.getD j 0 ≤ redT s tb j (((planT s tb).take n).count j)) ∧
    (∀ b, (cwt s (planT s tb) n).bn.getD b 0 ≤ 0 ∨ ∃ m x, m < n ∧ (ordT s tb)[m]? = some x ∧ (workAt s x.1 x.2).b.toNat = b ∧ (cwt s (planT s tb) n).bn.getD b 0 ≤ enT s tb x.1 x.2)
  | 0, _ => by
    refine ⟨fun j hj => ?_, fun b => .inl ?_⟩
    · show (initC s).tk.getD j 0 ≤ _
      rw [init_tk hj]; simp [redT]
    · show (initC s).bn.getD b 0 ≤ 0
      rw [bn_init]; exact Int.le_refl 0
  | n + 1, hn => by
    obtain ⟨h1, h2⟩ := planT_le hv hg n (by omega)
    obtain ⟨i, k, w, e, hs⟩ := cstep hv (planT_ok (s := s) (tb := tb)).le (n := n) (by omega)
    obtain ⟨x, hx⟩ : ∃ x, (ordT s tb)[n]? = some x := ⟨_, List.getElem?_eq_getElem (planT_len ▸ (by omega))⟩
    have hxi : x.1 = i := by
      have := hs.at_
      rw [planT, List.getElem?_map, hx] at this; simpa using this
    obtain ⟨i', k'⟩ := x
    subst hxi
    have hk' : k = k' := by rw [hs.hk, planT_at hv hg hx]
    subst hk'
    obtain ⟨hi, hk⟩ := allT_mem.1 (ordT_perm.mem_iff.1 (List.mem_of_getElem? hx))
    have hi : i' < s.tasks.length := hi
    have hk : k < lenT s i' := hk
    have hw : w = workAt s i' k := by have := hs.hw; rw [workT hk] at this; exact (Option.some.inj this).symm
    have hred := red_le hg hi hk
    have hb1 := h1 i' hi
    rw [← hs.hk] at hb1
    have hmx : (i', k) ∈ allT s := allT_mem.2 ⟨hi, hk⟩
    have hnn : 0 ≤ bgT tb i' k := hg.nn _ hmx
    have hbn : (cwt s (planT s tb) n).bn.getD w.b.toNat 0 ≤ bgT tb i' k := by
      rcases h2 w.b.toNat with h | ⟨m, z, z1, z2, z3, z4⟩
      · omega
      · have hle : bgT tb z.1 z.2 ≤ bgT tb i' k := ordT_le z2 hx z1
        have hzm := ordT_perm.mem_iff.1 (List.mem_of_getElem? z2)
        have hbad := hg.ok _ hmx
        simp only [badT, Bool.or_eq_false_iff, List.any_eq_false] at hbad
        have hbu := hbad.2 z hzm
        have hne : z ≠ (i', k) := fun e => by
          subst e
          have := (List.getElem?_inj (List.getElem?_eq_some_iff.1 z2).1 ordT_nodup).1 (z2.trans hx.symm)
          omega
        have hbe : (workAt s z.1 z.2).b = (workAt s i' k).b := by
          have q1 := work_ok hv (allT_mem.1 hzm).1 (allT_mem.1 hzm).2
          have q2 := work_ok hv hi hk
          rw [hw] at z3; omega
        have hwh : 1 ≤ (workAt s i' k).hi := work_hi hv hmx
        simp only [bumpT, hne, ne_eq, not_false_eq_true, decide_true, Bool.true_and, hbe, Bool.and_eq_true, decide_eq_true_eq, not_and] at hbu
        unfold enT at *
        by_cases q : bgT tb i' k < bgT tb z.1 z.2 + (workAt s z.1 z.2).hi
        · have := hbu q; omega
        · omega
    have he : e ≤ enT s tb i' k := by
      have h3 : e = max ((cwt s (planT s tb) n).tk.getD i' 0) ((cwt s (planT s tb) n).bn.getD w.b.toNat 0) + w.hi := hs.he
      rw [hw] at h3 hbn
      show e ≤ bgT tb i' k + (workAt s i' k).hi
      have hb1' : (cwt s (planT s tb) n).tk.getD i' 0 ≤ redT s tb i' k := hb1
      have hred' : redT s tb i' k ≤ bgT tb i' k := hred
      omega
    refine ⟨fun j hj => ?_, fun b => ?_⟩
    · rw [hs.tk j, hs.cnt j]
      by_cases ej : j = i'
      · subst ej; rw [if_pos rfl, if_pos rfl, redT, if_neg (Nat.succ_ne_zero k), Nat.add_sub_cancel]; exact he
      · rw [if_neg ej, if_neg ej]; exact h1 j hj
    · rw [hs.bn b]
      by_cases eb : b = w.b.toNat
      · rw [if_pos eb]
        exact .inr ⟨n, (i', k), Nat.lt_succ_self n, hx, by rw [← hw]; exact eb.symm, he⟩
      · rw [if_neg eb]
        rcases h2 b with h | ⟨m, z, z1, z2, z3, z4⟩
        · exact .inl h
        · exact .inr ⟨m, z, by omega, z2, z3, z4⟩

theorem kept_best (hv : Val s) (hg : TbGood s tb) {E : Int} (h0 : 0 ≤ E) (hE : ∀ x ∈ allT s, enT s tb x.1 x.2 ≤ E) : (bestS s).2.2 ≤ E := by
  have hok := planT_ok (s := s) (tb := tb)
  refine Int.le_trans (best_le (plansS_all hv.len hok)) (worst_le hv hok.le h0 fun n i k w e hs => ?_)
  have hn := hs.lt
  obtain ⟨x, hx⟩ : ∃ x, (ordT s tb)[n]? = some x := ⟨_, List.getElem?_eq_getElem (planT_len ▸ (by omega))⟩
  have hxi : x.1 = i := by
    have := hs.at_
    rw [planT, List.getElem?_map, hx] at this; simpa using this
  obtain ⟨i', k'⟩ := x
  subst hxi
  have hk' : k = k' := by rw [hs.hk, planT_at hv hg hx]
  subst hk'
  obtain ⟨hi, hk⟩ := allT_mem.1 (ordT_perm.mem_iff.1 (List.mem_of_getElem? hx))
  have hle := (planT_le hv hg (n + 1) (by omega)).1 i' hi
  rw [hs.tk i', if_pos rfl, hs.cnt i', if_pos rfl, redT, if_neg (Nat.succ_ne_zero k), Nat.add_sub_cancel] at hle
  have := hE _ (allT_mem.2 ⟨hi, hk⟩)
  simp only at this
  omega
end
end Go.Proofs.YtmloogdalecilaaDoor

/-! P21 -/
namespace Go.Proofs.YtmloogdalecilaaDoor
open Go Go.Abs Go.Proofs

theorem filter_at {α : Type} {l : List α} {P : α → Bool} {n : Nat} {x : α} (h : l[n]? = some x) (hx : P x = true) : (l.filter P)[(l.take n).countP P]? = some x := by
  obtain ⟨h1, h2⟩ := List.getElem?_eq_some_iff.1 h
  have e : l.filter P = (l.take n).filter P ++ x :: (l.drop (n + 1)).filter P := by
    conv => lhs; rw [← List.take_append_drop n l, List.filter_append, List.drop_eq_getElem_cons h1, h2]
    rw [List.filter_cons, if_pos hx]
  rw [e, List.countP_eq_length_filter, List.getElem?_append_right (Nat.le_refl _)]; simp

theorem ex_pos {p : List Nat} {i k : Nat} : ∀ m, m ≤ p.length → k < (p.take m).count i → ∃ n, n < m ∧ p[n]? = some i ∧ (p.take n).count i = k
  | 0, _, h => by simp at h
  | m + 1, hm, h => by
    have hp : p[m]? = some p[m] := List.getElem?_eq_getElem (by omega)
    have h1 := take_succ_count hp i
    by_cases hk : k < (p.take m).count i
    · obtain ⟨n, h2, h3⟩ := ex_pos m (by omega) hk
      exact ⟨n, by omega, h3⟩
    · by_cases e : i = p[m]
      · rw [if_pos e] at h1
        exact ⟨m, Nat.lt_succ_self m, by rw [e]; exact hp, by omega⟩
      · rw [if_neg e] at h1; omega

section
variable {s : Sh} {p : List Nat}

theorem run_cnt (i n : Nat) : ((runS s (fun _ => 0) p).take n).countP (fun x => decide (x.t = ((i : Nat) : Int))) = (p.take n).count i := by
  have e : (runS s (fun _ => 0) p).map (·.t) = p.map fun i : Nat => (i : Int) := by
    refine List.ext_getElem? fun j => ?_
    by_cases hj : j < p.length
    · simp [runS, hj]
    · rw [List.getElem?_eq_none (by simp [runS]; omega), List.getElem?_eq_none (by simp; omega)]
  have e2 : ((runS s (fun _ => 0) p).take n).countP (fun x => decide (x.t = ((i : Nat) : Int))) = (((runS s (fun _ => 0) p).map (·.t)).take n).countP (fun z => decide (z = ((i : Nat) : Int))) := by
    rw [← List.map_take, List.countP_map]; rfl
  rw [e2, e, ← List.map_take, List.countP_map, List.count_eq_countP]
  refine List.countP_congr fun j _ => ?_
  simp only [Function.comp, decide_eq_true_eq, beq_iff_eq]
  omega

theorem tab_bg {i : Nat} (hi : i < s.tasks.length) {n : Nat} {x : Sl} (hx : (runS s (fun _ => 0) p)[n]? = some x) (ht : x.t = (i : Int)) : bgT (tabS s p) i ((p.take n).count i) = x.bh := by
  have h1 := filter_at (P := fun x : Sl => decide (x.t = ((i : Nat) : Int))) hx (by simpa using ht)
  rw [run_cnt] at h1
  unfold bgT tabS tabN
  rw [List.getD_eq_getElem?_getD (l := List.map _ _), List.getElem?_map, List.getElem?_range hi]
  simp only [Option.map_some, Option.getD_some]
  rw [List.getD_eq_getElem?_getD, List.getElem?_map, h1]; rfl

/-- The slot of a work. -/
structure AtT (s : Sh) (p : List Nat) (i k n : Nat) (x : Sl) : Prop where
  pn : p[n]? = some i
  cn : (p.take n).count i = k
  hx : (runS s (fun _ => 0) p)[n]? = some x
  ra : RunAt s p n i x
  bg : bgT (tabS s p) i k = x.bh
  en : enT s (tabS s p) i k = x.eh

theorem at_T (hv : Val s) (hp : PlanOk s p) {i k : Nat} (hi : i < s.tasks.length) (hk : k < lenT s i) : ∃ n x, AtT s p i k n x := by
  obtain ⟨n, h1, h2, h3⟩ := ex_pos (p := p) (i := i) (k := k) p.length (Nat.le_refl _) (by rw [List.take_length, hp.cnt i hi]; exact hk)
  obtain ⟨x, hx, hr⟩ := run_facts hv hp.le h2
  have hb := tab_bg hi hx hr.t
  rw [h3] at hb
  refine ⟨n, x, h2, h3, hx, hr, hb, ?_⟩
  have := hr.en true
  rw [h3] at this
  unfold enT
  rw [hb]; exact this.symm

theorem cnt_mono {i m n : Nat} (h : m ≤ n) : (p.take m).count i ≤ (p.take n).count i := by
  have e : p.take m = (p.take n).take m := by rw [List.take_take, Nat.min_eq_left h]
  rw [e]; exact (List.take_sublist _ _).count_le i

theorem tab_good (hv : Val s) (hp : PlanOk s p) : TbGood s (tabS s p) := by
  refine ⟨fun x hx => ?_, fun x hx => ?_⟩
  · obtain ⟨h1, h2⟩ := allT_mem.1 hx
    obtain ⟨n, y, hy⟩ := at_T hv hp h1 h2
    rw [hy.bg]; exact (hy.ra.b0 true).1
  · obtain ⟨i, k⟩ := x
    obtain ⟨h1, h2⟩ := allT_mem.1 hx
    simp only at h1 h2
    obtain ⟨n, y, hy⟩ := at_T hv hp h1 h2
    have hn := (List.getElem?_eq_some_iff.1 hy.pn).1
    simp only [badT, Bool.or_eq_false_iff, decide_eq_false_iff_not, List.any_eq_false]
    refine ⟨?_, fun z hz => ?_⟩
    · rw [hy.bg]
      by_cases h0 : k = 0
      · rw [redT, if_pos h0]
        have hh := head_le hv hp.le h1 n (by omega)
        rw [hy.cn, h0] at hh
        have hb : y.bh = max ((cwt s p n).tk.getD i 0) _ := hy.ra.bg true
        have hr : preH (s.tasks.getD i default) 0 = (s.tasks.getD i default).ready := by simp [preH, sumI]
        rw [hr] at hh
        omega
      · rw [redT, if_neg h0]
        obtain ⟨m, x, hm⟩ := at_T hv hp h1 (by omega : k - 1 < lenT s i)
        have hmn : m < n := by
          apply Nat.lt_of_not_le; intro hle
          have := cnt_mono (p := p) (i := i) hle
          rw [hy.cn, hm.cn] at this; omega
        have := run_after hv hp.le true hmn hm.hx hy.hx (.inr (by rw [hm.ra.t, hy.ra.t]))
        rw [hm.en]
        have : x.eh ≤ y.bh := this
        omega
    · obtain ⟨j, c⟩ := z
      obtain ⟨z1, z2⟩ := allT_mem.1 hz
      simp only at z1 z2
      obtain ⟨m, x, hm⟩ := at_T hv hp z1 z2
      simp only [bumpT, Bool.and_eq_true, decide_eq_true_eq, not_and]
      intro hne hb
      have hbx : x.b = y.b := by rw [hm.ra.b, hy.ra.b, hm.cn, hy.cn]; exact hb
      rw [hy.bg, hm.en, hm.bg, hy.en]
      rcases Nat.lt_trichotomy m n with h | h | h
      · have : x.eh ≤ y.bh := run_after hv hp.le true h hm.hx hy.hx (.inl hbx)
        omega
      · subst h
        have e1 : some j = some i := hm.pn.symm.trans hy.pn
        cases e1
        have e2 := hm.cn.symm.trans hy.cn
        exact absurd (by rw [e2]) hne
      · have : y.eh ≤ x.bh := run_after hv hp.le true h hy.hx hm.hx (.inl hbx.symm)
        omega

/-- No hour is beyond what a few works take. -/
theorem clock_le (hv : Val s) (hp : PlanLe s p) (hr : ∀ t ∈ s.tasks, t.ready ≤ 6) : ∀ n, n ≤ p.length → (∀ j, j < s.tasks.length → (cwt s p n).tk.getD j 0 ≤ 6 + 20 * n) ∧ ∀ b, (cwt s p n).bn.getD b 0 ≤ 6 + 20 * n
  | 0, _ => by
    refine ⟨fun j hj => ?_, fun b => ?_⟩
    · show (initC s).tk.getD j 0 ≤ _
      rw [init_tk hj]
      have := hr _ (getD_mem (d := default) hj)
      simpa using this
    · show (initC s).bn.getD b 0 ≤ _
      rw [bn_init]; simp
  | n + 1, hn => by
    obtain ⟨h1, h2⟩ := clock_le hv hp hr n (by omega)
    obtain ⟨i, k, w, e, hs⟩ := cstep hv hp (n := n) (by omega)
    have hw : w.hi ≤ 20 := by
      have hm := List.mem_of_getElem? hs.hw
      have := hv.wk _ (getD_mem hs.hi) w hm
      omega
    have he : e ≤ 6 + 20 * ((n + 1 : Nat) : Int) := by
      have a := h1 i hs.hi
      have b := h2 w.b.toNat
      rw [hs.he]; omega
    refine ⟨fun j hj => ?_, fun b => ?_⟩
    · rw [hs.tk j]
      split
      · exact he
      · have := h1 j hj; omega
    · rw [hs.bn b]
      split
      · exact he
      · have := h2 b; omega

theorem run_le (hv : Val s) (hp : PlanLe s p) (hr : ∀ t ∈ s.tasks, t.ready ≤ 6) (hl : p.length ≤ 5) : worst s p ≤ 106 :=
  worst_le hv hp (by omega) fun n i k w e hs => by
    have hn := hs.lt
    have := (clock_le hv hp hr (n + 1) (by omega)).1 i hs.hi
    rw [hs.tk i, if_pos rfl] at this
    omega
end
end Go.Proofs.YtmloogdalecilaaDoor

/-! P23 -/
namespace Go.Proofs.YtmloogdalecilaaDoor
open Go Go.Abs Go.Proofs

/-- A timetable that is written up to a place. -/
structure InvT (s : Sh) (tb : List (List Int)) (i k : Nat) : Prop where
  ln : tb.length = s.tasks.length
  rl : ∀ a, a < s.tasks.length → (tb.getD a []).length = lenT s a
  b0 : ∀ a b, a < s.tasks.length → b < lenT s a → 0 ≤ bgT tb a b ∧ bgT tb a b ≤ 109
  b1 : ∀ a b, a < s.tasks.length → b < lenT s a → (i < a ∨ (a = i ∧ k ≤ b)) → bgT tb a b ≤ 106

def setT (tb : List (List Int)) (i k : Nat) (v : Int) : List (List Int) := tb.set i ((tb.getD i []).set k v)

theorem setT_row {tb : List (List Int)} {i k a : Nat} {v : Int} (hi : i < tb.length) : (setT tb i k v).getD a [] = if a = i then (tb.getD i []).set k v else tb.getD a [] := by
  unfold setT; exact getD_set _ _ _ _ _ hi
theorem setT_bg {tb : List (List Int)} {i k a b : Nat} {v : Int} (hi : i < tb.length) (hk : k < (tb.getD i []).length) : bgT (setT tb i k v) a b = if a = i ∧ b = k then v else bgT tb a b := by
  unfold bgT
  rw [setT_row hi]
  by_cases e : a = i
  · subst e
    rw [if_pos rfl, getD_set _ _ _ _ _ hk]
    by_cases e2 : b = k
    · rw [if_pos e2, if_pos ⟨rfl, e2⟩]
    · rw [if_neg e2, if_neg (fun h => e2 h.2)]
  · rw [if_neg e, if_neg (fun h => e h.1)]

section
variable {s : Sh} {tb : List (List Int)} {p : List Nat}

theorem inv_set {i k k' : Nat} (h : InvT s tb i k') (hkk : k' ≤ k + 1) (hi : i < s.tasks.length) (hk : k < lenT s i) {v : Int} (hv : 0 ≤ v ∧ v ≤ 109) : InvT s (setT tb i k v) i (k + 1) := by
  have hil : i < tb.length := by rw [h.ln]; exact hi
  have hkl : k < (tb.getD i []).length := by rw [h.rl i hi]; exact hk
  refine ⟨by rw [setT, List.length_set]; exact h.ln, fun a ha => ?_, fun a b ha hb => ?_, fun a b ha hb hab => ?_⟩
  · rw [setT_row hil]
    by_cases e : a = i
    · subst e; rw [if_pos rfl, List.length_set]; exact h.rl a ha
    · rw [if_neg e]; exact h.rl a ha
  · rw [setT_bg hil hkl]
    split
    · exact hv
    · exact h.b0 a b ha hb
  · rw [setT_bg hil hkl, if_neg (by omega)]
    exact h.b1 a b ha hb (by omega)

theorem inv_row {i : Nat} (h : InvT s tb i (lenT s i)) : InvT s tb (i + 1) 0 :=
  ⟨h.ln, h.rl, h.b0, fun a b ha hb hab => h.b1 a b ha hb (by omega)⟩

theorem inv_tabE {i k : Nat} (h : InvT s tb i k) : tabE s tb = 0 := by
  have h1 : lensOk s tb s.tasks.length = true := by
    simp only [lensOk, List.all_eq_true, List.mem_range, decide_eq_true_eq]
    exact h.rl
  have h2 : hrsOk tb = true := by
    simp only [hrsOk, hrsRow, List.all_eq_true, decide_eq_true_eq]
    intro l hl n hn
    obtain ⟨a, ha⟩ := List.mem_iff_getElem?.1 hl
    obtain ⟨b, hb⟩ := List.mem_iff_getElem?.1 hn
    have hal : a < s.tasks.length := by rw [← h.ln]; exact (List.getElem?_eq_some_iff.1 ha).1
    have hrow : tb.getD a [] = l := by rw [List.getD_eq_getElem?_getD, ha]; rfl
    have hbl : b < lenT s a := by rw [← h.rl a hal, hrow]; exact (List.getElem?_eq_some_iff.1 hb).1
    have := h.b0 a b hal hbl
    have hbg : bgT tb a b = n := by unfold bgT; rw [hrow, List.getD_eq_getElem?_getD, hb]; rfl
    rw [hbg] at this
    omega
  rw [tabE, if_pos h.ln, if_pos h1, if_pos h2]

theorem inv_start (hok : OkS 3 5 s) (hv : Val s) (hp : PlanOk s p) : InvT s (tabS s p) 0 0 := by
  have hlen : (tabS s p).length = s.tasks.length := by simp [tabS, tabN]
  have hpl : p.length ≤ 5 := by rw [hp.len]; exact hok.sum
  have hb : ∀ a b, a < s.tasks.length → b < lenT s a → 0 ≤ bgT (tabS s p) a b ∧ bgT (tabS s p) a b ≤ 106 := fun a b ha hb => by
    obtain ⟨n, y, hy⟩ := at_T hv hp ha hb
    have hn := (List.getElem?_eq_some_iff.1 hy.pn).1
    have h1 : y.bh = max ((cwt s p n).tk.getD a 0) _ := hy.ra.bg true
    obtain ⟨c1, c2⟩ := clock_le hv hp.le (fun t ht => (hok.tk t ht).r1) n (by omega)
    have c1 := c1 a ha
    have c2 := c2 (workAt s a ((cwt s p n).dn.getD a 0)).b.toNat
    have h0 : 0 ≤ y.bh := (hy.ra.b0 true).1
    have h1 : y.bh = max ((cwt s p n).tk.getD a 0) ((cwt s p n).bn.getD (workAt s a ((cwt s p n).dn.getD a 0)).b.toNat 0) := h1
    rw [hy.bg]
    omega
  refine ⟨hlen, fun a ha => ?_, fun a b ha hb' => ?_, fun a b ha hb' _ => (hb a b ha hb').2⟩
  · unfold tabS tabN
    rw [List.getD_eq_getElem?_getD, List.getElem?_map, List.getElem?_range ha]
    simp only [Option.map_some, Option.getD_some]
    rw [List.length_map, ← List.countP_eq_length_filter]
    have h1 := run_cnt (s := s) (p := p) a p.length
    rw [List.take_of_length_le (by rw [runS_length]; exact Nat.le_refl _), List.take_length, hp.cnt a ha] at h1
    exact h1
  · have := hb a b ha hb'; omega

theorem clash_good (hs : chkS s = 0) (h : tabE s tb = 0) (hg : TbGood s tb) : clashN s tb = (0, 0, 11) := by
  rw [clashN, if_pos hs, if_pos h, find_none fun x hx => hg.ok x hx]
theorem clash_of (hs : chkS s = 0) (h : tabE s tb = 0) : (clashN s tb).2.2 = 0 ∨ ((clashN s tb).2.2 = 11 ∧ ∀ x ∈ allT s, badT s tb x = false) := by
  rw [clashN, if_pos hs, if_pos h]
  cases hf : (allT s).find? (badT s tb) with
  | some x => exact .inl rfl
  | none =>
    refine .inr ⟨rfl, fun x hx => ?_⟩
    have := List.find?_eq_none.1 hf x hx
    simpa using this
theorem inv_good {i k : Nat} (h : InvT s tb i k) (hb : ∀ x ∈ allT s, badT s tb x = false) : TbGood s tb :=
  ⟨fun x hx => by obtain ⟨h1, h2⟩ := allT_mem.1 hx; exact (h.b0 x.1 x.2 h1 h2).1, hb⟩

theorem best_bound (hok : OkS 3 5 s) (hv : Val s) (hp : PlanOk s p) : 0 ≤ (bestS s).2.2 ∧ (bestS s).2.2 ≤ 106 := by
  have h1 := best_le (plansS_all hv.len hp)
  have h2 := run_le hv hp.le (fun t ht => (hok.tk t ht).r1) (by rw [hp.len]; exact hok.sum)
  obtain ⟨q, -, h4⟩ := best_is s
  have := worst_nn s q
  omega

/-- The end of all, as it is reckoned. -/
structure EndT (s : Sh) (tb : List (List Int)) (i k : Nat) (e : Int) : Prop where
  nn : 0 ≤ e
  ub : e ≤ 200
  ge : ∀ x, x ∈ prT s i k → enT s tb x.1 x.2 ≤ e

theorem end_zero : EndT s tb 0 0 0 := ⟨Int.le_refl 0, by omega, fun x hx => by rcases prT_mem.1 hx with h | h <;> omega⟩
theorem end_next {i k : Nat} {e : Int} (hv : Val s) (h : EndT s tb i k e) {a b : Nat} (hT : InvT s tb a b) (hi : i < s.tasks.length) (hk : k < lenT s i) : EndT s tb i (k + 1) (max e (bgT tb i k + (workAt s i k).hi)) := by
  have h1 := hT.b0 i k hi hk
  have h2 := work_ok hv hi hk
  refine ⟨by have := h.nn; omega, by have := h.ub; omega, fun x hx => ?_⟩
  rw [prT_succ, List.mem_append] at hx
  rcases hx with hx | hx
  · have := h.ge x hx; omega
  · rw [List.mem_singleton.1 hx]; simp only [enT]; omega
theorem end_row {i : Nat} {e : Int} (h : EndT s tb i (lenT s i) e) : EndT s tb (i + 1) 0 e := ⟨h.nn, h.ub, by rw [prT_next]; exact h.ge⟩
theorem end_best {e : Int} (hv : Val s) (hg : TbGood s tb) (h : EndT s tb s.tasks.length 0 e) : (bestS s).2.2 ≤ e := kept_best hv hg h.nn h.ge
end
end Go.Proofs.YtmloogdalecilaaDoor
