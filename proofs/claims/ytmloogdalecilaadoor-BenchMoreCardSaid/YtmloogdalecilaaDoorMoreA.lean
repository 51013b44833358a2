/- Part MoreA of the proofs about the benches of the accordion maker: see the last text of the claim for what is proved. -/
import Derived.Test.YtmloogdalecilaaDoorBoundA
import Derived.Test.YtmloogdalecilaaDoorPlansA
import Derived.Test.YtmloogdalecilaaDoorSlackA
set_option linter.unusedVariables false
set_option linter.unusedSimpArgs false
set_option linter.unnecessarySimpa false
set_option linter.constructorNameAsVariable false

/-! P24 -/
namespace Go.Proofs.YtmloogdalecilaaDoor
open Go Go.Abs Go.Proofs

/-- The one shop has more hours, and is ready later. -/
structure MoreOf (s x : Sh) : Prop where
  bs : x.benches = s.benches
  ln : x.tasks.length = s.tasks.length
  rd : ∀ i, i < s.tasks.length → (s.tasks.getD i default).ready ≤ (x.tasks.getD i default).ready
  wl : ∀ i, i < s.tasks.length → (x.tasks.getD i default).works.length = (s.tasks.getD i default).works.length
  wk : ∀ i k, i < s.tasks.length → k < (s.tasks.getD i default).works.length → (workAt x i k).b = (workAt s i k).b ∧ (workAt s i k).lo ≤ (workAt x i k).lo ∧ (workAt s i k).hi ≤ (workAt x i k).hi

structure CkLe (s : Sh) (c c' : Ck) : Prop where
  lb : c'.bn.length = 3
  lt : c'.tk.length = 4
  ld : c'.dn.length = 4
  tk : ∀ i, i < s.tasks.length → c.tk.getD i 0 ≤ c'.tk.getD i 0
  dn : ∀ i, i < s.tasks.length → c'.dn.getD i 0 = c.dn.getD i 0
  bn : ∀ b, c.bn.getD b 0 ≤ c'.bn.getD b 0

section
variable {s x : Sh}

theorem more_init (hv : Val s) (h : MoreOf s x) : CkLe s (initC s) (initC x) := by
  have hl := hv.len
  refine ⟨rfl, ?_, rfl, fun i hi => ?_, fun i hi => rfl, fun b => Int.le_refl _⟩
  · simp only [initC, pad4, List.length_append, List.length_map, List.length_replicate, h.ln]; omega
  · rw [init_tk hi, init_tk (by rw [h.ln]; exact hi)]; exact h.rd i hi

theorem more_step (sd : Bool) (hv : Val s) (h : MoreOf s x) {p : List Nat} (hp : PlanLe s p) {n i : Nat} (hn : p[n]? = some i) {c c' : Ck} (hc : CkOk s 0 c (p.take n)) (hr : CkLe s c c') :
    ((stepC sd s c i 0).bg ≤ (stepC sd x c' i 0).bg ∧ (stepC sd s c i 0).en ≤ (stepC sd x c' i 0).en) ∧ CkLe s (nextC c i (stepC sd s c i 0)) (nextC c' i (stepC sd x c' i 0)) := by
  obtain ⟨q1, q2, q3, -, -, -⟩ := step_ok (sd := sd) hv hp (Int.le_refl 0) (more := fun _ => 0) (fun _ => ⟨Int.le_refl 0, Int.le_refl 0⟩) hn hc (0 + n)
  obtain ⟨w1, w2, w3, w4, w5⟩ := work_ok hv q1 q3
  have hdn := hr.dn i q1
  have hk : c.dn.getD i 0 = (p.take n).count i := q2
  obtain ⟨b1, b2, b3⟩ := h.wk i _ q1 q3
  have htk := hr.tk i q1
  have hbn := hr.bn (workAt s i ((p.take n).count i)).b.toNat
  have hbg : (stepC sd s c i 0).bg ≤ (stepC sd x c' i 0).bg := by simp only [stepC, hdn, hk, b1]; omega
  have hsl : sel sd (workAt s i ((p.take n).count i)).lo (workAt s i ((p.take n).count i)).hi ≤ sel sd (workAt x i ((p.take n).count i)).lo (workAt x i ((p.take n).count i)).hi := by cases sd <;> simp only [sel] <;> omega
  have hen : (stepC sd s c i 0).en ≤ (stepC sd x c' i 0).en := by
    have e1 : (stepC sd s c i 0).en = (stepC sd s c i 0).bg + sel sd (workAt s i ((p.take n).count i)).lo (workAt s i ((p.take n).count i)).hi + 0 := by simp only [stepC, hk]
    have e2 : (stepC sd x c' i 0).en = (stepC sd x c' i 0).bg + sel sd (workAt x i ((p.take n).count i)).lo (workAt x i ((p.take n).count i)).hi + 0 := by simp only [stepC, hdn, hk]
    omega
  have hl := hv.len
  have hb3 := hv.b1
  have hbb : (stepC sd s c i 0).b = (workAt s i ((p.take n).count i)).b := by simp only [stepC, hk]
  have hbx : (stepC sd x c' i 0).b = (workAt s i ((p.take n).count i)).b := by simp only [stepC, hdn, hk, b1]
  have hkx : (stepC sd x c' i 0).k = (stepC sd s c i 0).k := by simp only [stepC, hdn]
  refine ⟨⟨hbg, hen⟩, by simp [nextC, hr.lb], by simp [nextC, hr.lt], by simp [nextC, hr.ld], fun j hj => ?_, fun j hj => ?_, fun b => ?_⟩
  · simp only [nextC]
    rw [getD_set _ _ _ _ _ (by rw [hc.tk]; omega), getD_set _ _ _ _ _ (by rw [hr.lt]; omega)]
    by_cases e : j = i
    · rw [if_pos e, if_pos e]; exact hen
    · rw [if_neg e, if_neg e]; exact hr.tk j hj
  · simp only [nextC, hkx]
    rw [getD_set _ _ _ _ _ (by rw [hr.ld]; omega), getD_set _ _ _ _ _ (by rw [hc.dn]; omega)]
    by_cases e : j = i
    · rw [if_pos e, if_pos e]
    · rw [if_neg e, if_neg e, hr.dn j hj]
  · simp only [nextC, hbb, hbx]
    rw [getD_set _ _ _ _ _ (by rw [hc.bn]; omega), getD_set _ _ _ _ _ (by rw [hr.lb]; omega)]
    by_cases e : b = (workAt s i ((p.take n).count i)).b.toNat
    · rw [if_pos e, if_pos e]; exact hen
    · rw [if_neg e, if_neg e]; exact hr.bn b

theorem more_ck (sd : Bool) (hv : Val s) (h : MoreOf s x) {p : List Nat} (hp : PlanLe s p) : ∀ n, n ≤ p.length → CkLe s (ckAt sd s (fun _ => 0) (initC s) 0 p n) (ckAt sd x (fun _ => 0) (initC x) 0 p n)
  | 0, _ => by simpa [ckAt] using more_init hv h
  | n + 1, hn => by
    have hpn : p[n]? = some p[n] := List.getElem?_eq_getElem (by omega)
    rw [ckAt_succ sd s _ p _ _ _ _ hpn, ckAt_succ sd x _ _ _ _ _ _ hpn]
    exact (more_step sd hv h hp hpn (ck_ok hv hp (Int.le_refl 0) (fun _ => ⟨Int.le_refl 0, Int.le_refl 0⟩) n (by omega)) (more_ck sd hv h hp n (by omega))).2

theorem more_run (hv : Val s) (h : MoreOf s x) {p : List Nat} (hp : PlanLe s p) {n : Nat} (hn : n < p.length) :
    ∃ a b, (runS s (fun _ => 0) p)[n]? = some a ∧ (runS x (fun _ => 0) p)[n]? = some b ∧ a.bl ≤ b.bl ∧ a.bh ≤ b.bh ∧ a.el ≤ b.el ∧ a.eh ≤ b.eh := by
  have hpn : p[n]? = some p[n] := List.getElem?_eq_getElem hn
  have g := fun sd => (more_step sd hv h hp hpn (ck_ok (sd := sd) hv hp (Int.le_refl 0) (fun _ => ⟨Int.le_refl 0, Int.le_refl 0⟩) n (by omega)) (more_ck sd hv h hp n (by omega))).1
  have e1 : p.getD n 0 = p[n] := by rw [List.getD_eq_getElem?_getD, hpn]; rfl
  refine ⟨_, _, by simp only [runS]; rw [List.getElem?_map, List.getElem?_range hn]; rfl, by simp only [runS]; rw [List.getElem?_map, List.getElem?_range hn]; rfl, ?_⟩
  simp only [e1]
  exact ⟨(g false).1, (g true).1, (g false).2, (g true).2⟩

theorem more_worst (hv : Val s) (hvx : Val x) (h : MoreOf s x) {p : List Nat} (hp : PlanLe s p) (hpx : PlanLe x p) : worst s p ≤ worst x p :=
  worst_le hv hp (worst_nn x p) fun n i k w e hs => by
    have hn := hs.lt
    obtain ⟨i', k', w', e', hx⟩ := cstep hvx hpx hn
    obtain rfl : i' = i := Option.some.inj (hx.at_.symm.trans hs.at_)
    have hg := (more_step true hv h hp hs.at_ (ck_ok (sd := true) hv hp (Int.le_refl 0) (fun _ => ⟨Int.le_refl 0, Int.le_refl 0⟩) n (by omega)) (more_ck true hv h hp n (by omega))).1.2
    have h1 : (stepC true s (cwt s p n) i' 0).en ≤ (stepC true x (cwt x p n) i' 0).en := hg
    rw [hs.en, hx.en] at h1
    exact Int.le_trans h1 hx.le

theorem more_nW (h : MoreOf s x) : nWorks x.tasks = nWorks s.tasks := by
  have e1 : ∀ l : List Tk, l.map (·.works.length) = (List.range l.length).map fun i => (l.getD i default).works.length := fun l => by
    refine List.ext_getElem? fun j => ?_
    by_cases hj : j < l.length
    · rw [List.getElem?_map, List.getElem?_map, List.getElem?_range hj, List.getElem?_eq_getElem hj]
      simp [List.getD_eq_getElem?_getD, List.getElem?_eq_getElem hj]
    · rw [List.getElem?_eq_none (by simp; omega), List.getElem?_eq_none (by simp; omega)]
  unfold nWorks
  rw [e1 x.tasks, e1 s.tasks, h.ln]
  congr 1
  exact List.map_congr_left fun i hi => h.wl i (List.mem_range.1 hi)

theorem more_plan (h : MoreOf s x) {p : List Nat} : PlanOk s p ↔ PlanOk x p := by
  constructor
  · intro hp
    refine ⟨fun i hi => by rw [h.ln]; exact hp.lt i hi, fun i hi => ?_, by rw [more_nW h]; exact hp.len⟩
    rw [h.ln] at hi
    rw [hp.cnt i hi, h.wl i hi]
  · intro hp
    have hl := h.ln
    refine ⟨fun i hi => by have := hp.lt i hi; omega, fun i hi => ?_, by rw [← more_nW h]; exact hp.len⟩
    rw [hp.cnt i (by omega), h.wl i hi]

theorem more_best (hv : Val s) (hvx : Val x) (h : MoreOf s x) : (bestS s).2.2 ≤ (bestS x).2.2 := by
  obtain ⟨p, h1, h2⟩ := best_is x
  have hpx := plansS_ok hvx h1
  have hps := (more_plan h).2 hpx
  rw [h2]
  exact Int.le_trans (best_le (plansS_all hv.len hps)) (more_worst hv hvx h hps.le hpx.le)
end
end Go.Proofs.YtmloogdalecilaaDoor

/-! P25 -/
namespace Go.Proofs.YtmloogdalecilaaDoor
open Go Go.Abs Go.Proofs

def ri (k i : Nat) : Nat := if i < k then i else i - 1
def rj (k j : Nat) : Nat := if j < k then j else j + 1
def fewS (s : Sh) (k : Nat) : Sh := ⟨s.benches, s.tasks.take k ++ s.tasks.drop (k + 1)⟩
def nk (k : Nat) (i : Nat) : Bool := decide (i ≠ k)
def pRem (k : Nat) (p : List Nat) : List Nat := (p.filter (nk k)).map (ri k)

theorem ri_rj {k j : Nat} : ri k (rj k j) = j ∧ rj k j ≠ k := by
  unfold ri rj
  by_cases h : j < k
  · rw [if_pos h, if_pos h]; omega
  · rw [if_neg h, if_neg (by omega)]; omega
theorem rj_ri {k i : Nat} (h : i ≠ k) : rj k (ri k i) = i := by
  unfold ri rj
  by_cases h1 : i < k
  · rw [if_pos h1, if_pos h1]
  · rw [if_neg h1, if_neg (by omega)]; omega

section
variable {s : Sh} {k : Nat}

theorem few_len (hk : k < s.tasks.length) : (fewS s k).tasks.length + 1 = s.tasks.length := by simp [fewS]; omega
theorem few_get (hk : k < s.tasks.length) (j : Nat) : (fewS s k).tasks.getD j default = s.tasks.getD (rj k j) default := by
  have e : (fewS s k).tasks[j]? = s.tasks[rj k j]? := by
    unfold fewS rj
    by_cases h : j < k
    · rw [if_pos h, List.getElem?_append_left (by simp; omega), List.getElem?_take, if_pos h]
    · rw [if_neg h, List.getElem?_append_right (by simp; omega), List.getElem?_drop]
      congr 1
      simp; omega
  rw [List.getD_eq_getElem?_getD, List.getD_eq_getElem?_getD, e]
theorem few_ri (hk : k < s.tasks.length) {i : Nat} (hi : i ≠ k) : (fewS s k).tasks.getD (ri k i) default = s.tasks.getD i default := by rw [few_get hk, rj_ri hi]
theorem few_mem {t : Tk} (h : t ∈ (fewS s k).tasks) : t ∈ s.tasks := by
  rcases List.mem_append.1 h with h | h
  · exact List.mem_of_mem_take h
  · exact List.mem_of_mem_drop h
theorem few_nW (hk : k < s.tasks.length) : nWorks (fewS s k).tasks + (s.tasks.getD k default).works.length = nWorks s.tasks := by
  have h1 : s.tasks.getD k default = s.tasks[k] := by rw [List.getD_eq_getElem?_getD, List.getElem?_eq_getElem hk]; rfl
  conv => rhs; rw [← List.take_append_drop k s.tasks, List.drop_eq_getElem_cons hk]
  rw [h1]
  simp only [nWorks, fewS, List.map_append, List.sum_append, List.map_cons, List.sum_cons]
  omega

theorem few_val (hv : Val s) (hk : k < s.tasks.length) : Val (fewS s k) := by
  have hl := few_len hk
  have hn := few_nW hk
  exact ⟨hv.b0, hv.b1, by have := hv.len; omega, fun t ht => hv.rd t (few_mem ht), fun t ht => hv.du t (few_mem ht), fun t ht => hv.ne t (few_mem ht), fun t ht => hv.wk t (few_mem ht), by have := hv.sum; omega⟩

theorem pRem_count {p : List Nat} {i : Nat} (hi : i ≠ k) : (pRem k p).count (ri k i) = p.count i := by
  induction p with
  | nil => rfl
  | cons a p ih =>
    by_cases ha : a = k
    · subst ha
      rw [pRem, List.filter_cons, if_neg (by simp [nk]), List.count_cons, if_neg (by simpa using fun h => hi h.symm)]
      exact ih
    · rw [pRem, List.filter_cons, if_pos (by simpa [nk] using ha), List.map_cons, List.count_cons, List.count_cons]
      rw [show List.count (ri k i) (List.map (ri k) (List.filter (nk k) p)) = p.count i from ih]
      by_cases e : a = i
      · subst e; simp
      · have e2 : ri k a ≠ ri k i := fun h => e (by rw [← rj_ri ha, h, rj_ri hi])
        rw [if_neg (by simpa using e2), if_neg (by simpa using e)]
theorem pRem_len (p : List Nat) : (pRem k p).length + p.count k = p.length := by
  induction p with
  | nil => rfl
  | cons a p ih =>
    by_cases ha : a = k
    · subst ha
      rw [pRem, List.filter_cons, if_neg (by simp [nk]), List.count_cons_self, List.length_cons]
      have : (pRem a p).length = (List.map (ri a) (List.filter (nk a) p)).length := rfl
      omega
    · rw [pRem, List.filter_cons, if_pos (by simpa [nk] using ha), List.map_cons, List.length_cons, List.count_cons, if_neg (by simpa using ha), List.length_cons]
      have : (pRem k p).length = (List.map (ri k) (List.filter (nk k) p)).length := rfl
      omega

theorem few_plan (hk : k < s.tasks.length) {p : List Nat} (hp : PlanOk s p) : PlanOk (fewS s k) (pRem k p) := by
  have hl := few_len hk
  refine ⟨fun j hj => ?_, fun j hj => ?_, ?_⟩
  · obtain ⟨i, h1, rfl⟩ := List.mem_map.1 hj
    obtain ⟨h2, h3⟩ := List.mem_filter.1 h1
    have h4 := hp.lt i h2
    have h5 : i ≠ k := by simpa [nk] using h3
    unfold ri
    split <;> omega
  · obtain ⟨h1, h2⟩ := ri_rj (k := k) (j := j)
    have h3 : rj k j < s.tasks.length := by unfold rj; split <;> omega
    have h4 := pRem_count (p := p) h2
    rw [h1] at h4
    rw [h4, hp.cnt _ h3, few_get hk]
  · have h1 := pRem_len (k := k) p
    have h2 := few_nW hk
    have h3 := hp.cnt k hk
    have h4 := hp.len
    omega

/-- How far the shorter plan is. -/
def nR (k : Nat) (p : List Nat) (n : Nat) : Nat := (pRem k (p.take n)).length

theorem pRem_take (p : List Nat) (n : Nat) : (pRem k p).take (nR k p n) = pRem k (p.take n) := by
  have e : pRem k p = pRem k (p.take n) ++ pRem k (p.drop n) := by
    conv => lhs; rw [← List.take_append_drop n p]
    rw [pRem, List.filter_append, List.map_append]; rfl
  rw [e, nR, List.take_left]
theorem pRem_at {p : List Nat} {n i : Nat} (hn : p[n]? = some i) (hi : i ≠ k) : (pRem k p)[nR k p n]? = some (ri k i) ∧ nR k p (n + 1) = nR k p n + 1 := by
  obtain ⟨h1, h2⟩ := List.getElem?_eq_some_iff.1 hn
  have e : pRem k p = pRem k (p.take n) ++ pRem k (p.drop n) := by
    conv => lhs; rw [← List.take_append_drop n p]
    rw [pRem, List.filter_append, List.map_append]; rfl
  refine ⟨?_, ?_⟩
  · rw [e, nR, List.getElem?_append_right (Nat.le_refl _), Nat.sub_self, List.drop_eq_getElem_cons h1, h2, pRem, List.filter_cons, if_pos (by simpa [nk] using hi)]; rfl
  · unfold nR
    rw [List.take_add_one, hn, pRem, pRem, Option.toList_some, List.filter_append, List.map_append, List.length_append]
    congr 1
    rw [List.filter_cons, if_pos (by simpa [nk] using hi)]; rfl
theorem pRem_k {p : List Nat} {n : Nat} (hn : p[n]? = some k) : nR k p (n + 1) = nR k p n := by
  unfold nR
  rw [List.take_add_one, hn, pRem, pRem, Option.toList_some, List.filter_append, List.map_append, List.length_append]
  rw [List.filter_cons, if_neg (by simp [nk])]; rfl
theorem pRem_ex {p : List Nat} {n' : Nat} : ∀ m, m ≤ p.length → n' < nR k p m → ∃ n i, n < m ∧ p[n]? = some i ∧ i ≠ k ∧ nR k p n = n'
  | 0, _, h => by simp [nR, pRem] at h
  | m + 1, hm, h => by
    have hp : p[m]? = some p[m] := List.getElem?_eq_getElem (by omega)
    by_cases h1 : n' < nR k p m
    · obtain ⟨n, i, h2, h3⟩ := pRem_ex m (by omega) h1
      exact ⟨n, i, by omega, h3⟩
    · by_cases e : p[m] = k
      · rw [e] at hp
        have := pRem_k hp; omega
      · have := (pRem_at hp e).2
        exact ⟨m, p[m], Nat.lt_succ_self m, hp, e, by omega⟩

/-- Without the order nothing is later. -/
theorem few_clock (hv : Val s) (hk : k < s.tasks.length) {p : List Nat} (hp : PlanOk s p) : ∀ n, n ≤ p.length →
    (∀ i, i < s.tasks.length → i ≠ k → (cwt (fewS s k) (pRem k p) (nR k p n)).tk.getD (ri k i) 0 ≤ (cwt s p n).tk.getD i 0) ∧ ∀ b, (cwt (fewS s k) (pRem k p) (nR k p n)).bn.getD b 0 ≤ (cwt s p n).bn.getD b 0
  | 0, _ => by
    have h0 : nR k p 0 = 0 := by simp [nR, pRem]
    rw [h0]
    refine ⟨fun i hi hik => ?_, fun b => ?_⟩
    · show (initC (fewS s k)).tk.getD (ri k i) 0 ≤ (initC s).tk.getD i 0
      have hl := few_len hk
      rw [init_tk hi, init_tk (by unfold ri; split <;> omega), few_ri hk hik]; exact Int.le_refl _
    · show (initC (fewS s k)).bn.getD b 0 ≤ (initC s).bn.getD b 0
      rw [bn_init, bn_init]; exact Int.le_refl 0
  | n + 1, hn => by
    obtain ⟨h1, h2⟩ := few_clock hv hk hp n (by omega)
    obtain ⟨i, c, w, e, hs⟩ := cstep hv hp.le (n := n) (by omega)
    have hvf := few_val hv hk
    have hpf := few_plan hk hp
    by_cases hik : i = k
    · subst hik
      rw [pRem_k hs.at_]
      refine ⟨fun j hj hjk => ?_, fun b => ?_⟩
      · rw [hs.tk j, if_neg hjk]; exact h1 j hj hjk
      · rw [hs.bn b]
        split
        · rename_i eb
          have he := hs.he
          have hh := hs.h1
          have h3 := h2 w.b.toNat
          rw [eb]
          omega
        · exact h2 b
    · obtain ⟨p1, p2⟩ := pRem_at hs.at_ hik
      rw [p2]
      have hlt := (List.getElem?_eq_some_iff.1 p1).1
      obtain ⟨i', c', w', e', hf⟩ := cstep hvf hpf.le hlt
      obtain rfl : i' = ri k i := Option.some.inj (hf.at_.symm.trans p1)
      have hcc : c' = c := by rw [hf.hk, pRem_take, pRem_count hik, hs.hk]
      have hww : w' = w := by
        have h3 := hf.hw
        rw [few_ri hk hik, hcc, hs.hw] at h3
        exact (Option.some.inj h3).symm
      have hee : e' ≤ e := by
        have h3 := hf.he
        have h4 := hs.he
        have h5 := h1 i hs.hi hik
        have h6 := h2 w.b.toNat
        rw [hww] at h3
        omega
      refine ⟨fun j hj hjk => ?_, fun b => ?_⟩
      · rw [hs.tk j, hf.tk (ri k j)]
        by_cases ej : j = i
        · subst ej; rw [if_pos rfl, if_pos rfl]; exact hee
        · have : ri k j ≠ ri k i := fun h => ej (by rw [← rj_ri hjk, h, rj_ri hik])
          rw [if_neg ej, if_neg this]; exact h1 j hj hjk
      · rw [hs.bn b, hf.bn b, hww]
        split
        · exact hee
        · exact h2 b

theorem few_worst (hv : Val s) (hk : k < s.tasks.length) {p : List Nat} (hp : PlanOk s p) : worst (fewS s k) (pRem k p) ≤ worst s p :=
  worst_le (few_val hv hk) (few_plan hk hp).le (worst_nn s p) fun n' i' c' w' e' hf => by
    have hn' := hf.lt
    have hfull : nR k p p.length = (pRem k p).length := by unfold nR; rw [List.take_length]
    obtain ⟨n, i, h1, h2, h3, h4⟩ := pRem_ex (k := k) (p := p) (n' := n') p.length (Nat.le_refl _) (by omega)
    obtain ⟨p1, p2⟩ := pRem_at h2 h3
    rw [h4] at p1 p2
    obtain rfl : i' = ri k i := Option.some.inj (hf.at_.symm.trans p1)
    obtain ⟨j, c, w, e, hs⟩ := cstep hv hp.le h1
    obtain rfl : j = i := Option.some.inj (hs.at_.symm.trans h2)
    have hcl := (few_clock hv hk hp (n + 1) (by omega)).1 j hs.hi h3
    rw [p2, hf.tk (ri k j), if_pos rfl, hs.tk j, if_pos rfl] at hcl
    exact Int.le_trans hcl hs.le

theorem few_best (hv : Val s) (hk : k < s.tasks.length) : (bestS (fewS s k)).2.2 ≤ (bestS s).2.2 := by
  obtain ⟨p, h1, h2⟩ := best_is s
  have hp := plansS_ok hv h1
  rw [h2]
  exact Int.le_trans (best_le (plansS_all (few_val hv hk).len (few_plan hk hp))) (few_worst hv hk hp)
end
end Go.Proofs.YtmloogdalecilaaDoor

/-! P26 -/
namespace Go.Proofs.YtmloogdalecilaaDoor
open Go Go.Abs Go.Proofs

structure MoreW (w v : Wk) : Prop where
  b : v.b = w.b
  lo : w.lo ≤ v.lo
  hi : w.hi ≤ v.hi
  le : v.lo ≤ v.hi
  mx : v.hi ≤ 20

/-- Written up to order i. -/
structure MoreAt (s : Sh) (ts : List Tk) (i : Nat) : Prop where
  ln : ts.length = s.tasks.length
  rd : ∀ j, j < s.tasks.length → (s.tasks.getD j tkZ).ready ≤ (ts.getD j tkZ).ready ∧ (ts.getD j tkZ).ready ≤ if j < i then 9 else 6
  du : ∀ j, j < s.tasks.length → (ts.getD j tkZ).due = (s.tasks.getD j tkZ).due
  wl : ∀ j, j < s.tasks.length → (ts.getD j tkZ).works.length = (s.tasks.getD j tkZ).works.length
  wk : ∀ j k, j < s.tasks.length → k < (s.tasks.getD j tkZ).works.length → MoreW ((s.tasks.getD j tkZ).works.getD k default) ((ts.getD j tkZ).works.getD k default)

def setR (ts : List Tk) (i : Nat) (r : Int) : List Tk := ts.set i ⟨r, (ts.getD i tkZ).due, (ts.getD i tkZ).works⟩
def setW (ts : List Tk) (i k : Nat) (v : Wk) : List Tk := ts.set i ⟨(ts.getD i tkZ).ready, (ts.getD i tkZ).due, (ts.getD i tkZ).works.set k v⟩

section
variable {s : Sh} {ts : List Tk}

theorem setR_at {i : Nat} {r : Int} (hi : i < ts.length) : (setR ts i r).getD i tkZ = ⟨r, (ts.getD i tkZ).due, (ts.getD i tkZ).works⟩ := by rw [setR, getD_set _ _ _ _ _ hi, if_pos rfl]
theorem setR_ne {i j : Nat} {r : Int} (hi : i < ts.length) (h : j ≠ i) : (setR ts i r).getD j tkZ = ts.getD j tkZ := by rw [setR, getD_set _ _ _ _ _ hi, if_neg h]
theorem setW_at {i k : Nat} {v : Wk} (hi : i < ts.length) : (setW ts i k v).getD i tkZ = ⟨(ts.getD i tkZ).ready, (ts.getD i tkZ).due, (ts.getD i tkZ).works.set k v⟩ := by rw [setW, getD_set _ _ _ _ _ hi, if_pos rfl]
theorem setW_ne {i j k : Nat} {v : Wk} (hi : i < ts.length) (h : j ≠ i) : (setW ts i k v).getD j tkZ = ts.getD j tkZ := by rw [setW, getD_set _ _ _ _ _ hi, if_neg h]

theorem more_start {n m : Nat} (h : OkS n m s) : MoreAt s s.tasks 0 := by
  refine ⟨rfl, fun j hj => ⟨Int.le_refl _, ?_⟩, fun j hj => rfl, fun j hj => rfl, fun j k hj hk => ?_⟩
  · rw [if_neg (by omega)]; exact (h.tk _ (getD_mem hj)).r1
  · have hw := (h.tk _ (getD_mem (d := tkZ) hj)).wk _ (getD_mem (d := default) hk)
    exact ⟨rfl, Int.le_refl _, Int.le_refl _, hw.le, hw.hi⟩

theorem more_setR {i : Nat} (h : MoreAt s ts i) (hi : i < s.tasks.length) {d : Int} (hd : 0 ≤ d ∧ d ≤ 3) : MoreAt s (setR ts i ((ts.getD i tkZ).ready + d)) (i + 1) := by
  have hil : i < ts.length := by rw [h.ln]; exact hi
  refine ⟨by rw [setR, List.length_set]; exact h.ln, fun j hj => ?_, fun j hj => ?_, fun j hj => ?_, fun j k hj hk => ?_⟩
  · obtain ⟨h1, h2⟩ := h.rd j hj
    by_cases e : j = i
    · subst e
      rw [setR_at hil, if_pos (by omega)]
      rw [if_neg (by omega)] at h2
      simp only; omega
    · rw [setR_ne hil e]
      refine ⟨h1, Int.le_trans h2 ?_⟩
      split
      · rw [if_pos (by omega)]; omega
      · split <;> omega
  · by_cases e : j = i
    · subst e; rw [setR_at hil]; exact h.du j hj
    · rw [setR_ne hil e]; exact h.du j hj
  · by_cases e : j = i
    · subst e; rw [setR_at hil]; exact h.wl j hj
    · rw [setR_ne hil e]; exact h.wl j hj
  · by_cases e : j = i
    · subst e; rw [setR_at hil]; exact h.wk j k hj hk
    · rw [setR_ne hil e]; exact h.wk j k hj hk

theorem more_setW {i i' k : Nat} (h : MoreAt s ts i') (hi : i < s.tasks.length) (hk : k < (s.tasks.getD i tkZ).works.length) {v : Wk} (hv : MoreW ((s.tasks.getD i tkZ).works.getD k default) v) : MoreAt s (setW ts i k v) i' := by
  have hil : i < ts.length := by rw [h.ln]; exact hi
  have hwl := h.wl i hi
  refine ⟨by rw [setW, List.length_set]; exact h.ln, fun j hj => ?_, fun j hj => ?_, fun j hj => ?_, fun j c hj hc => ?_⟩
  · by_cases e : j = i
    · subst e; rw [setW_at hil]; exact h.rd j hj
    · rw [setW_ne hil e]; exact h.rd j hj
  · by_cases e : j = i
    · subst e; rw [setW_at hil]; exact h.du j hj
    · rw [setW_ne hil e]; exact h.du j hj
  · by_cases e : j = i
    · subst e; rw [setW_at hil]; simp only [List.length_set]; exact h.wl j hj
    · rw [setW_ne hil e]; exact h.wl j hj
  · by_cases e : j = i
    · subst e
      rw [setW_at hil]
      simp only
      rw [getD_set _ _ _ _ _ (by rw [hwl]; exact hk)]
      by_cases ec : c = k
      · subst ec; rw [if_pos rfl]; exact hv
      · rw [if_neg ec]; exact h.wk j c hj hc
    · rw [setW_ne hil e]; exact h.wk j c hj hc

theorem more_of {i : Nat} (h : MoreAt s ts i) : MoreOf s ⟨s.benches, ts⟩ := by
  refine ⟨rfl, h.ln, fun j hj => (h.rd j hj).1, fun j hj => h.wl j hj, fun j k hj hk => ?_⟩
  have hw := h.wk j k hj hk
  exact ⟨hw.b, hw.lo, hw.hi⟩

theorem more_val {i : Nat} (hok : OkS 3 6 s) (h : MoreAt s ts i) : Val ⟨s.benches, ts⟩ := by
  have hm := more_of h
  have key : ∀ t ∈ ts, ∃ j, j < s.tasks.length ∧ t = ts.getD j tkZ := fun t ht => by
    obtain ⟨j, hj⟩ := List.mem_iff_getElem?.1 ht
    exact ⟨j, by rw [← h.ln]; exact (List.getElem?_eq_some_iff.1 hj).1, (tkD_get hj).symm⟩
  refine ⟨hok.b0, hok.b1, ?_, fun t ht => ?_, fun t ht => ?_, fun t ht => ?_, fun t ht w hw => ?_, ?_⟩
  · show ts.length ≤ 4
    have := hok.len; have := h.ln; omega
  · obtain ⟨j, hj, rfl⟩ := key t ht
    obtain ⟨h1, h2⟩ := h.rd j hj
    have := (hok.tk _ (getD_mem (d := tkZ) hj)).r0
    split at h2 <;> omega
  · obtain ⟨j, hj, rfl⟩ := key t ht
    rw [h.du j hj]
    have h1 := (hok.tk _ (getD_mem (d := tkZ) hj)).d0
    have h2 := (hok.tk _ (getD_mem (d := tkZ) hj)).d1
    omega
  · obtain ⟨j, hj, rfl⟩ := key t ht
    have h1 := h.wl j hj
    have h2 := (hok.tk _ (getD_mem (d := tkZ) hj)).w0
    intro e
    rw [e, List.length_nil] at h1; omega
  · obtain ⟨j, hj, rfl⟩ := key t ht
    obtain ⟨k, hk⟩ := List.mem_iff_getElem?.1 hw
    have hkl : k < (s.tasks.getD j tkZ).works.length := by rw [← h.wl j hj]; exact (List.getElem?_eq_some_iff.1 hk).1
    have hm := h.wk j k hj hkl
    have hwd : (ts.getD j tkZ).works.getD k default = w := by rw [List.getD_eq_getElem?_getD, hk]; rfl
    rw [hwd] at hm
    have hs := (hok.tk _ (getD_mem (d := tkZ) hj)).wk _ (getD_mem (d := default) hkl)
    have h1 := hs.b0; have h2 := hs.b1; have h3 := hs.lo
    have h4 := hm.b; have h5 := hm.lo; have h6 := hm.le; have h7 := hm.mx
    refine ⟨by omega, ?_, by omega, by omega, by omega⟩
    show w.b < s.benches
    omega
  · have h1 := more_nW hm
    have h2 := hok.sum
    show nWorks ts ≤ 8
    rw [show nWorks ts = nWorks s.tasks from h1]; omega
end
end Go.Proofs.YtmloogdalecilaaDoor
