/- Part RenA of the proofs about the benches of the accordion maker: see the last text of the claim for what is proved. -/
import Derived.Test.YtmloogdalecilaaDoorBoundA
import Derived.Test.YtmloogdalecilaaDoorFirstA
import Derived.Test.YtmloogdalecilaaDoorPlansA
import Derived.Test.YtmloogdalecilaaDoorBenchE
set_option linter.unusedVariables false
set_option linter.unusedSimpArgs false
set_option linter.unnecessarySimpa false
set_option linter.constructorNameAsVariable false

/-! P18 -/
namespace Go.Proofs.YtmloogdalecilaaDoor
open Go Go.Abs Go.Proofs

def reW (β : Nat → Nat) (w : Wk) : Wk := ⟨(β w.b.toNat : Nat), w.lo, w.hi⟩
def reT (β : Nat → Nat) (t : Tk) : Tk := ⟨t.ready, t.due, t.works.map (reW β)⟩
def reSl (π β : Nat → Nat) (x : Sl) : Sl := ⟨(π x.t.toNat : Nat), x.k, (β x.b.toNat : Nat), x.bl, x.bh, x.el, x.eh⟩

/-- A shop with other numbers: order i is order π i there, bench b is bench β b. -/
structure Ren (s y : Sh) (π β : Nat → Nat) : Prop where
  bs : y.benches = s.benches
  ln : y.tasks.length = s.tasks.length
  tk : ∀ i, i < s.tasks.length → y.tasks.getD (π i) default = reT β (s.tasks.getD i default)
  pp : ((List.range s.tasks.length).map π).Perm (List.range s.tasks.length)
  bl : ∀ b, b < s.benches.toNat → β b < s.benches.toNat
  bi : ∀ a b, a < s.benches.toNat → b < s.benches.toNat → β a = β b → a = b

section
variable {s y : Sh} {π β : Nat → Nat}

theorem Ren.pl (h : Ren s y π β) {i : Nat} (hi : i < s.tasks.length) : π i < s.tasks.length :=
  List.mem_range.1 (h.pp.mem_iff.1 (List.mem_map.2 ⟨i, List.mem_range.2 hi, rfl⟩))
theorem Ren.sur (h : Ren s y π β) {j : Nat} (hj : j < s.tasks.length) : ∃ i, i < s.tasks.length ∧ π i = j := by
  obtain ⟨i, h1, h2⟩ := List.mem_map.1 (h.pp.mem_iff.2 (List.mem_range.2 hj))
  exact ⟨i, List.mem_range.1 h1, h2⟩
theorem Ren.pi (h : Ren s y π β) {i j : Nat} (hi : i < s.tasks.length) (hj : j < s.tasks.length) (e : π i = π j) : i = j := by
  have hn : ((List.range s.tasks.length).map π).Nodup := h.pp.nodup_iff.2 List.nodup_range
  have h1 : ((List.range s.tasks.length).map π)[i]? = some (π i) := by rw [List.getElem?_map, List.getElem?_range hi]; rfl
  have h2 : ((List.range s.tasks.length).map π)[j]? = some (π j) := by rw [List.getElem?_map, List.getElem?_range hj]; rfl
  exact (List.getElem?_inj (by simpa using hi) hn).1 (h1.trans (by rw [e, h2]))

/-- Two clocks that say the same. -/
structure CkRel (s : Sh) (π β : Nat → Nat) (c c' : Ck) : Prop where
  lb : c'.bn.length = 3
  lt : c'.tk.length = 4
  ld : c'.dn.length = 4
  tk : ∀ i, i < s.tasks.length → c'.tk.getD (π i) 0 = c.tk.getD i 0
  dn : ∀ i, i < s.tasks.length → c'.dn.getD (π i) 0 = c.dn.getD i 0
  bn : ∀ b, b < s.benches.toNat → c'.bn.getD (β b) 0 = c.bn.getD b 0

theorem ren_init (hv : Val s) (h : Ren s y π β) : CkRel s π β (initC s) (initC y) := by
  have hl := hv.len
  refine ⟨rfl, ?_, rfl, fun i hi => ?_, fun i hi => ?_, fun b hb => ?_⟩
  · simp only [initC, pad4, List.length_append, List.length_map, List.length_replicate, h.ln]; omega
  · rw [init_tk hi, init_tk (by rw [h.ln]; exact h.pl hi), h.tk i hi]; rfl
  · have h0 : ∀ j, ([0, 0, 0, 0] : List Nat).getD j 0 = 0 := fun j => by match j with
      | 0 => rfl
      | 1 => rfl
      | 2 => rfl
      | 3 => rfl
      | j + 4 => rfl
    exact (h0 _).trans (h0 _).symm
  · rw [bn_init, bn_init]

theorem ren_step (sd : Bool) (hv : Val s) (h : Ren s y π β) {p : List Nat} (hp : PlanLe s p) {n i : Nat} (hn : p[n]? = some i) {c c' : Ck} (hc : CkOk s 0 c (p.take n)) (hr : CkRel s π β c c') :
    (stepC sd y c' (π i) 0 = { stepC sd s c i 0 with b := (β (stepC sd s c i 0).b.toNat : Nat) }) ∧ CkRel s π β (nextC c i (stepC sd s c i 0)) (nextC c' (π i) (stepC sd y c' (π i) 0)) := by
  obtain ⟨q1, q2, q3, -, -, -⟩ := step_ok (sd := sd) hv hp (Int.le_refl 0) (more := fun _ => 0) (fun _ => ⟨Int.le_refl 0, Int.le_refl 0⟩) hn hc (0 + n)
  obtain ⟨w1, w2, w3, w4, w5⟩ := work_ok hv q1 q3
  have hdn := hr.dn i q1
  have hk : c.dn.getD i 0 = (p.take n).count i := q2
  have hw : workAt y (π i) ((p.take n).count i) = reW β (workAt s i ((p.take n).count i)) := by
    unfold workAt
    rw [h.tk i q1]
    rw [List.getD_eq_getElem?_getD (l := (reT β (s.tasks.getD i default)).works), List.getD_eq_getElem?_getD (l := (s.tasks.getD i default).works)]
    simp only [reT]
    rw [List.getElem?_map, List.getElem?_eq_getElem q3]; rfl
  have hb : (workAt s i ((p.take n).count i)).b.toNat < s.benches.toNat := by omega
  have hbn := hr.bn _ hb
  have htk := hr.tk i q1
  have e1 : stepC sd y c' (π i) 0 = { stepC sd s c i 0 with b := (β (stepC sd s c i 0).b.toNat : Nat) } := by
    simp only [stepC, hdn, hk, hw]
    simp only [reW, Int.toNat_natCast, hbn, htk]
  refine ⟨e1, ?_⟩
  rw [e1]
  have hkk : (stepC sd s c i 0).k = (p.take n).count i := q2
  have hbb : (stepC sd s c i 0).b = (workAt s i ((p.take n).count i)).b := by simp only [stepC, hk]
  have hpi := h.pl q1
  have hl := hv.len
  have hb3 := hv.b1
  have hbl := h.bl _ hb
  refine ⟨by simp [nextC, hr.lb], by simp [nextC, hr.lt], by simp [nextC, hr.ld], fun j hj => ?_, fun j hj => ?_, fun b hb' => ?_⟩
  · simp only [nextC]
    rw [getD_set _ _ _ _ _ (by rw [hr.lt]; omega), getD_set _ _ _ _ _ (by rw [hc.tk]; omega)]
    by_cases e : j = i
    · rw [if_pos e, if_pos (by rw [e])]
    · rw [if_neg e, if_neg (fun he => e (h.pi hj q1 he)), hr.tk j hj]
  · simp only [nextC]
    rw [getD_set _ _ _ _ _ (by rw [hr.ld]; omega), getD_set _ _ _ _ _ (by rw [hc.dn]; omega)]
    by_cases e : j = i
    · rw [if_pos e, if_pos (by rw [e])]
    · rw [if_neg e, if_neg (fun he => e (h.pi hj q1 he)), hr.dn j hj]
  · simp only [nextC, hbb, Int.toNat_natCast]
    rw [getD_set _ _ _ _ _ (by rw [hr.lb]; omega), getD_set _ _ _ _ _ (by rw [hc.bn]; omega)]
    by_cases e : b = (workAt s i ((p.take n).count i)).b.toNat
    · rw [if_pos e, if_pos (by rw [e])]
    · rw [if_neg e, if_neg (fun he => e (h.bi _ _ hb' hb he)), hr.bn b hb']

theorem ren_ck (sd : Bool) (hv : Val s) (h : Ren s y π β) {p : List Nat} (hp : PlanLe s p) : ∀ n, n ≤ p.length → CkRel s π β (ckAt sd s (fun _ => 0) (initC s) 0 p n) (ckAt sd y (fun _ => 0) (initC y) 0 (p.map π) n)
  | 0, _ => by simpa [ckAt] using ren_init hv h
  | n + 1, hn => by
    have hpn : p[n]? = some p[n] := List.getElem?_eq_getElem (by omega)
    have hpn' : (p.map π)[n]? = some (π p[n]) := by rw [List.getElem?_map, hpn]; rfl
    rw [ckAt_succ sd s _ p _ _ _ _ hpn, ckAt_succ sd y _ _ _ _ _ _ hpn']
    exact (ren_step sd hv h hp hpn (ck_ok hv hp (Int.le_refl 0) (fun _ => ⟨Int.le_refl 0, Int.le_refl 0⟩) n (by omega)) (ren_ck sd hv h hp n (by omega))).2

theorem ren_run (hv : Val s) (h : Ren s y π β) {p : List Nat} (hp : PlanLe s p) : runS y (fun _ => 0) (p.map π) = (runS s (fun _ => 0) p).map (reSl π β) := by
  unfold runS
  rw [List.map_map, List.length_map]
  refine List.map_congr_left fun n hn => ?_
  have hn := List.mem_range.1 hn
  have hpn : p[n]? = some p[n] := List.getElem?_eq_getElem hn
  have e1 : p.getD n 0 = p[n] := by rw [List.getD_eq_getElem?_getD, hpn]; rfl
  have e2 : (p.map π).getD n 0 = π p[n] := by rw [List.getD_eq_getElem?_getD, List.getElem?_map, hpn]; rfl
  have g := fun sd => (ren_step sd hv h hp hpn (ck_ok (sd := sd) hv hp (Int.le_refl 0) (fun _ => ⟨Int.le_refl 0, Int.le_refl 0⟩) n (by omega)) (ren_ck sd hv h hp n (by omega))).1
  simp only [Function.comp, e1, e2, reSl, g]
  simp

theorem lastS_ren (l : List Sl) : lastS (l.map (reSl π β)) = lastS l := by
  unfold lastS; rw [List.foldl_map]; rfl
theorem ren_worst (hv : Val s) (h : Ren s y π β) {p : List Nat} (hp : PlanLe s p) : worst y (p.map π) = worst s p := by
  rw [worst, worst, ren_run hv h hp, lastS_ren]

theorem nWorks_ren (h : Ren s y π β) : nWorks y.tasks = nWorks s.tasks := by
  have e1 : ∀ l : List Tk, l.map (·.works.length) = (List.range l.length).map fun i => (l.getD i default).works.length := fun l => by
    refine List.ext_getElem? fun j => ?_
    by_cases hj : j < l.length
    · rw [List.getElem?_map, List.getElem?_map, List.getElem?_range hj, List.getElem?_eq_getElem hj]
      simp [List.getD_eq_getElem?_getD, List.getElem?_eq_getElem hj]
    · rw [List.getElem?_eq_none (by simp; omega), List.getElem?_eq_none (by simp; omega)]
  unfold nWorks
  rw [e1 y.tasks, e1 s.tasks, h.ln]
  have h2 := (h.pp.map fun i => (y.tasks.getD i default).works.length).sum_nat
  rw [List.map_map] at h2
  rw [← h2]
  congr 1
  refine List.map_congr_left fun i hi => ?_
  have := h.tk i (List.mem_range.1 hi)
  simp only [Function.comp, this, reT, List.length_map]

theorem count_ren (h : Ren s y π β) {p : List Nat} (hp : ∀ i ∈ p, i < s.tasks.length) {i : Nat} (hi : i < s.tasks.length) : (p.map π).count (π i) = p.count i := by
  induction p with
  | nil => rfl
  | cons a p ih =>
    rw [List.map_cons, List.count_cons, List.count_cons, ih fun j hj => hp j (List.mem_cons_of_mem _ hj)]
    have ha := hp a (List.mem_cons_self ..)
    by_cases e : a = i
    · subst e; simp
    · have e2 : π a ≠ π i := fun he => e (h.pi ha hi he)
      rw [if_neg (by simpa using e2), if_neg (by simpa using e)]

theorem ren_plan (h : Ren s y π β) {p : List Nat} (hp : PlanOk s p) : PlanOk y (p.map π) := by
  refine ⟨fun j hj => ?_, fun j hj => ?_, ?_⟩
  · obtain ⟨i, h1, rfl⟩ := List.mem_map.1 hj
    rw [h.ln]; exact h.pl (hp.lt i h1)
  · rw [h.ln] at hj
    obtain ⟨i, h1, rfl⟩ := h.sur hj
    rw [count_ren h hp.lt h1, hp.cnt i h1, h.tk i h1]
    simp [reT]
  · rw [List.length_map, hp.len, nWorks_ren h]

theorem ren_back (h : Ren s y π β) {q : List Nat} (hq : PlanOk y q) : ∃ p, PlanOk s p ∧ q = p.map π := by
  have hex : ∀ j, ∃ i, j < s.tasks.length → i < s.tasks.length ∧ π i = j := fun j => by
    by_cases hj : j < s.tasks.length
    · obtain ⟨i, h1, h2⟩ := h.sur hj; exact ⟨i, fun _ => ⟨h1, h2⟩⟩
    · exact ⟨0, fun h => absurd h hj⟩
  let ρ : Nat → Nat := fun j => Classical.choose (hex j)
  have hρ : ∀ j, j < s.tasks.length → ρ j < s.tasks.length ∧ π (ρ j) = j := fun j hj => Classical.choose_spec (hex j) hj
  have hql : ∀ j ∈ q, j < s.tasks.length := fun j hj => by have := hq.lt j hj; rwa [h.ln] at this
  have hpl : ∀ i ∈ q.map ρ, i < s.tasks.length := fun i hi => by
    obtain ⟨j, h1, rfl⟩ := List.mem_map.1 hi
    exact (hρ j (hql j h1)).1
  have he : q = (q.map ρ).map π := by
    rw [List.map_map]
    have h1 : q.map (π ∘ ρ) = q.map id := List.map_congr_left fun j hj => (hρ j (hql j hj)).2
    rw [h1, List.map_id]
  refine ⟨q.map ρ, ⟨hpl, fun i hi => ?_, ?_⟩, he⟩
  · rw [← count_ren h hpl hi, ← he, hq.cnt (π i) (by rw [h.ln]; exact h.pl hi), h.tk i hi]
    simp [reT]
  · rw [List.length_map, hq.len, nWorks_ren h]

/-- What is least of all plans is the same. -/
theorem ren_least (hv : Val s) (hvy : Val y) (h : Ren s y π β) {f g : List Nat → Int} (hfg : ∀ p, PlanOk s p → g (p.map π) = f p) : (leastS g (plansS y)).2.2 = (leastS f (plansS s)).2.2 := by
  have a1 := leastS_val (num := f) (plansS_ne s)
  have a2 := leastS_in (num := f) (plansS_ne s)
  have b1 := leastS_val (num := g) (plansS_ne y)
  have b2 := leastS_in (num := g) (plansS_ne y)
  have ha := plansS_ok hv a2
  obtain ⟨p, hp, he⟩ := ren_back h (plansS_ok hvy b2)
  have c1 := b1.2 _ (plansS_all hvy.len (ren_plan h ha))
  have c2 := a1.2 _ (plansS_all hv.len hp)
  rw [hfg _ ha, ← a1.1] at c1
  have c3 := b1.1
  rw [he, hfg _ hp] at c3
  omega

theorem ren_best (hv : Val s) (hvy : Val y) (h : Ren s y π β) : (bestS y).2.2 = (bestS s).2.2 := ren_least hv hvy h fun _ hp => ren_worst hv h hp.le

theorem ends_ren (h : Ren s y π β) {l : List Sl} (hl : ∀ x ∈ l, 0 ≤ x.t ∧ x.t < s.tasks.length) {i : Nat} (hi : i < s.tasks.length) : (endsF y.tasks.length (l.map (reSl π β))).getD (π i) (0, 0) = (endsF s.tasks.length l).getD i (0, 0) := by
  have key : ∀ (l : List Sl) (a a' : List (Int × Int)), (∀ x ∈ l, 0 ≤ x.t ∧ x.t < s.tasks.length) → a.length = s.tasks.length → a'.length = s.tasks.length → (∀ i, i < s.tasks.length → a'.getD (π i) (0, 0) = a.getD i (0, 0)) →
      ∀ i, i < s.tasks.length → ((l.map (reSl π β)).foldl (fun a x => a.set x.t.toNat (x.el, x.eh)) a').getD (π i) (0, 0) = (l.foldl (fun a x => a.set x.t.toNat (x.el, x.eh)) a).getD i (0, 0) := by
    intro l
    induction l with
    | nil => exact fun a a' _ _ _ h i hi => h i hi
    | cons x l ih =>
      intro a a' hl h1 h2 h3 i hi
      obtain ⟨x0, x1⟩ := hl x (List.mem_cons_self ..)
      rw [List.map_cons, List.foldl_cons, List.foldl_cons]
      refine ih _ _ (fun z hz => hl z (List.mem_cons_of_mem _ hz)) (by simp [h1]) (by simp [h2]) (fun j hj => ?_) i hi
      have hx : x.t.toNat < s.tasks.length := by omega
      have hx2 := h.pl hx
      simp only [reSl, Int.toNat_natCast]
      rw [getD_set _ _ _ _ _ (by omega), getD_set _ _ _ _ _ (by omega)]
      by_cases e : j = x.t.toNat
      · rw [if_pos e, if_pos (by rw [e])]
      · rw [if_neg e, if_neg (fun he => e (h.pi hj hx he)), h3 j hj]
  refine key l _ _ hl (by simp) (by simp [h.ln]) (fun j hj => ?_) i hi
  rw [h.ln, List.getD_eq_getElem?_getD, List.getD_eq_getElem?_getD, List.getElem?_replicate, List.getElem?_replicate, if_pos hj, if_pos (h.pl hj)]

theorem ren_late (hv : Val s) (h : Ren s y π β) {p : List Nat} (hp : PlanOk s p) : lateC y (p.map π) = lateC s p := by
  have ht := runS_t hv hp.le (by have := hp.len; have := hv.sum; omega)
  have e1 : ∀ i, i < s.tasks.length → (endsS y (p.map π)).getD (π i) (0, 0) = (endsS s p).getD i (0, 0) := fun i hi => by
    unfold endsS
    rw [ren_run hv h hp.le]
    exact ends_ren h (fun x hx => (ht x hx).1) hi
  unfold lateC lateN
  rw [h.ln]
  congr 1
  rw [← h.pp.countP_eq, List.countP_map]
  refine List.countP_congr fun i hi => ?_
  have hi := List.mem_range.1 hi
  simp only [Function.comp, e1 i hi, h.tk i hi, reT]

theorem ren_prompt (hv : Val s) (hvy : Val y) (h : Ren s y π β) : (promptS y).2.2 = (promptS s).2.2 := ren_least hv hvy h fun _ hp => ren_late hv h hp

/-- If just the benches have other numbers, the best plan is the same one. -/
theorem leastS_congr {f g : List Nat → Int} : ∀ (l : List (List Nat)), (∀ p ∈ l, f p = g p) → leastS f l = leastS g l := by
  refine revInd (fun _ => rfl) fun l x ih h => ?_
  rw [leastS_snoc, leastS_snoc, ih fun p hp => h p (List.mem_append_left _ hp), h x (by simp)]

theorem ren_bench (hv : Val s) (h : Ren s y id β) (hlen : ∀ i, i < s.tasks.length → (y.tasks.getD i default).works.length = (s.tasks.getD i default).works.length) : bestS y = bestS s := by
  have hl : leftS y = leftS s := by
    unfold leftS
    rw [h.ln]
    congr 1
    refine List.ext_getElem? fun j => ?_
    rw [List.getElem?_map, List.getElem?_map]
    by_cases hj : j < s.tasks.length
    · have := hlen j hj
      rw [List.getElem?_eq_getElem hj, List.getElem?_eq_getElem (by rw [h.ln]; exact hj)]
      rw [List.getD_eq_getElem?_getD, List.getD_eq_getElem?_getD, List.getElem?_eq_getElem hj, List.getElem?_eq_getElem (by rw [h.ln]; exact hj)] at this
      exact congrArg some this
    · rw [List.getElem?_eq_none (by rw [h.ln]; omega), List.getElem?_eq_none (by omega)]
  have hps : plansS y = plansS s := by unfold plansS; rw [h.ln, nWorks_ren h, hl]
  unfold bestS
  rw [hps]
  refine leastS_congr _ fun p hp => ?_
  have := ren_worst hv h (plansS_ok hv hp).le
  rwa [List.map_id] at this
end
end Go.Proofs.YtmloogdalecilaaDoor

/-! P19 -/
namespace Go.Proofs.YtmloogdalecilaaDoor
open Go Go.Abs Go.Proofs

/-- The number that a list says. -/
def atP (q : List Nat) (i : Nat) : Nat := q.getD i 0

section
variable {q : List Nat} {m : Nat}
theorem perm_len (h : q.Perm (List.range m)) : q.length = m := by rw [h.length_eq, List.length_range]
theorem perm_get (h : q.Perm (List.range m)) {i : Nat} (hi : i < m) : q[i]? = some (atP q i) := by
  have := perm_len h
  rw [atP, List.getD_eq_getElem?_getD, List.getElem?_eq_getElem (by omega)]; rfl
theorem perm_lt (h : q.Perm (List.range m)) {i : Nat} (hi : i < m) : atP q i < m := List.mem_range.1 (h.mem_iff.1 (List.mem_of_getElem? (perm_get h hi)))
theorem perm_inj (h : q.Perm (List.range m)) {i j : Nat} (hi : i < m) (hj : j < m) (e : atP q i = atP q j) : i = j :=
  (List.getElem?_inj (by rw [perm_len h]; exact hi) (h.nodup_iff.2 List.nodup_range)).1 (by rw [perm_get h hi, perm_get h hj, e])
theorem perm_map (h : q.Perm (List.range m)) : (List.range m).map (atP q) = q := by
  refine List.ext_getElem? fun j => ?_
  by_cases hj : j < m
  · rw [List.getElem?_map, List.getElem?_range hj, perm_get h hj]; rfl
  · rw [List.getElem?_eq_none (by simp; omega), List.getElem?_eq_none (by rw [perm_len h]; omega)]
end

/-- The benches have other numbers. -/
def xS (q : List Nat) (s : Sh) : Sh := ⟨s.benches, s.tasks.map (fullTk id (reW (atP q)))⟩

theorem xS_ren {s : Sh} {q : List Nat} (hq : q.Perm (List.range s.benches.toNat)) : Ren s (xS q s) id (atP q) := by
  refine ⟨rfl, by simp [xS], fun i hi => ?_, by simp, fun b hb => perm_lt hq hb, fun a b ha hb e => perm_inj hq ha hb e⟩
  show ((s.tasks.map _).getD i default) = _
  rw [List.getD_eq_getElem?_getD, List.getD_eq_getElem?_getD, List.getElem?_map, List.getElem?_eq_getElem hi]; rfl

theorem xS_ok {s : Sh} {n m : Nat} (h : OkS n m s) {q : List Nat} (hq : q.Perm (List.range s.benches.toNat)) : OkS n m (xS q s) := by
  refine ⟨h.b0, h.b1, by simp [xS]; exact h.len, by rw [xS, nWorks_full]; exact h.sum, fun t ht => ?_⟩
  obtain ⟨t0, h0, rfl⟩ := List.mem_map.1 ht
  have k := h.tk t0 h0
  refine ⟨k.r0, k.r1, k.d0, k.d1, by simpa [fullTk] using k.w0, by simpa [fullTk] using k.w1, fun w hw => ?_⟩
  obtain ⟨w0, hw0, rfl⟩ := List.mem_map.1 hw
  have k2 := k.wk w0 hw0
  have k3 := k2.b0
  have k4 := k2.b1
  have h1 := perm_lt hq (i := w0.b.toNat) (by omega)
  exact ⟨by simp [reW], by simp only [reW, xS]; omega, k2.lo, k2.le, k2.hi⟩

theorem xS_best {s : Sh} (hv : Val s) {q : List Nat} (hq : q.Perm (List.range s.benches.toNat)) : bestS (xS q s) = bestS s := by
  refine ren_bench hv (xS_ren hq) fun i hi => ?_
  have h := (xS_ren (s := s) hq).tk i hi
  rw [id] at h
  rw [h]; simp [reT]

theorem xS_run {s : Sh} (hv : Val s) {q : List Nat} (hq : q.Perm (List.range s.benches.toNat)) {p : List Nat} (hp : PlanOk s p) : PlanOk (xS q s) p ∧ runS (xS q s) (fun _ => 0) p = (runS s (fun _ => 0) p).map (reSl id (atP q)) := by
  have h1 := ren_plan (xS_ren hq) hp
  have h2 := ren_run hv (xS_ren hq) hp.le
  rw [List.map_id] at h1 h2
  exact ⟨h1, h2⟩

/-- The orders have other numbers. -/
structure IsY (q : List Nat) (s : Sh) (ys : List Tk) : Prop where
  ln : ys.length = s.tasks.length
  at_ : ∀ i, i < s.tasks.length → ys.getD (atP q i) tkZ = s.tasks.getD i tkZ

theorem reT_id {b : Int} {t : Tk} (h : ∀ w ∈ t.works, OkW b w) : reT id t = t := by
  obtain ⟨r, d, ws⟩ := t
  have : ws.map (reW id) = ws.map id := List.map_congr_left fun w hw => by
    have := (h w hw).b0
    obtain ⟨b, lo, hi⟩ := w
    simp only [reW, id]
    congr 1
    exact Int.toNat_of_nonneg this
  simp only [reT, this, List.map_id]

theorem yS_ren {s : Sh} {n m : Nat} (h : OkS n m s) {q : List Nat} (hq : q.Perm (List.range s.tasks.length)) {ys : List Tk} (hy : IsY q s ys) : Ren s ⟨s.benches, ys⟩ (atP q) id := by
  refine ⟨rfl, hy.ln, fun i hi => ?_, by rw [perm_map hq]; exact hq, fun b hb => hb, fun a b _ _ e => e⟩
  have e := hy.at_ i hi
  show ys.getD (atP q i) tkZ = reT id (s.tasks.getD i tkZ)
  rw [e]
  refine (reT_id (b := s.benches) fun w hw => ?_).symm
  exact (h.tk _ (getD_mem hi)).wk w hw

theorem yS_ok {s : Sh} {n m : Nat} (h : OkS n m s) {q : List Nat} (hq : q.Perm (List.range s.tasks.length)) {ys : List Tk} (hy : IsY q s ys) : OkS n m ⟨s.benches, ys⟩ := by
  have hr := yS_ren h hq hy
  refine ⟨h.b0, h.b1, by show ys.length ≤ n; rw [hy.ln]; exact h.len, by rw [nWorks_ren hr]; exact h.sum, fun t ht => ?_⟩
  obtain ⟨j, hj⟩ := List.mem_iff_getElem?.1 ht
  have hjl : j < s.tasks.length := by have h1 : j < ys.length := (List.getElem?_eq_some_iff.1 hj).1; have := hy.ln; omega
  obtain ⟨i, h1, h2⟩ := hr.sur hjl
  have e := hy.at_ i h1
  rw [h2, tkD_get hj] at e
  rw [e]
  exact h.tk _ (getD_mem h1)

theorem yS_best {s : Sh} {n m : Nat} (h : OkS n m s) (hv : Val s) {q : List Nat} (hq : q.Perm (List.range s.tasks.length)) {ys : List Tk} (hy : IsY q s ys) (hvy : Val ⟨s.benches, ys⟩) : (bestS ⟨s.benches, ys⟩).2.2 = (bestS s).2.2 ∧ (promptS ⟨s.benches, ys⟩).2.2 = (promptS s).2.2 :=
  ⟨ren_best hv hvy (yS_ren h hq hy), ren_prompt hv hvy (yS_ren h hq hy)⟩
end Go.Proofs.YtmloogdalecilaaDoor
