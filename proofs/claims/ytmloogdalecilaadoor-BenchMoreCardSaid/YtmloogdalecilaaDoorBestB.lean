/- Part BestB of the proofs about the benches of the accordion maker: see the last text of the claim for what is proved. -/
import Derived.Test.YtmloogdalecilaaDoorSlackA
import Derived.Test.YtmloogdalecilaaDoorBenchB
set_option linter.unusedVariables false
set_option linter.unusedSimpArgs false
set_option linter.unnecessarySimpa false
set_option linter.constructorNameAsVariable false

/-! P7 -/
namespace Go.Proofs.YtmloogdalecilaaDoor
open Go Go.Abs Go.Proofs

/-! The clocks of both cases side by side. -/
def ck0 (sd : Bool) (s : Sh) (p : List Nat) (n : Nat) : Ck := ckAt sd s (fun _ => 0) (initC s) 0 p n
def benD (s : Sh) (p : List Nat) (n : Nat) : List D := (List.range s.benches.toNat).map fun b => rngD ((ck0 false s p n).bn.getD b 0, (ck0 true s p n).bn.getD b 0)
def endD (s : Sh) (p : List Nat) (n : Nat) : List D := (List.range s.tasks.length).map fun i => rngD ((ck0 false s p n).tk.getD i 0, (ck0 true s p n).tk.getD i 0)

theorem benD_get {s : Sh} {p : List Nat} {n b : Nat} (h : b < s.benches.toNat) : (benD s p n)[b]? = some (.agg [I ((ck0 false s p n).bn.getD b 0), I ((ck0 true s p n).bn.getD b 0)]) := by
  simp [benD, List.getElem?_range h, rngD]
theorem endD_get {s : Sh} {p : List Nat} {n i : Nat} (h : i < s.tasks.length) : (endD s p n)[i]? = some (.agg [I ((ck0 false s p n).tk.getD i 0), I ((ck0 true s p n).tk.getD i 0)]) := by
  simp [endD, List.getElem?_range h, rngD]

section
variable {s : Sh} {p : List Nat}

theorem ck_step (hv : Val s) (hp : PlanLe s p) {n i : Nat} (hpn : p[n]? = some i) {x : Sl} (hx : (runS s (fun _ => 0) p)[n]? = some x) (sd : Bool) :
    (ck0 sd s p (n + 1)).bn = (ck0 sd s p n).bn.set x.b.toNat (pk sd x.el x.eh) ∧ (ck0 sd s p (n + 1)).tk = (ck0 sd s p n).tk.set i (pk sd x.el x.eh) ∧
      pk sd x.bl x.bh = max ((ck0 sd s p n).tk.getD i 0) ((ck0 sd s p n).bn.getD x.b.toNat 0) ∧ (ck0 sd s p n).bn.length = 3 ∧ (ck0 sd s p n).tk.length = 4 := by
  unfold ck0
  obtain ⟨y, hy, hr⟩ := run_facts hv hp hpn
  rw [hx] at hy; cases hy
  have hn := (List.getElem?_eq_some_iff.1 hpn).1
  have hck := ck_ok (sd := sd) (more := fun _ => 0) (M := 0) hv hp (by omega) (fun _ => ⟨by omega, by omega⟩) n (by omega)
  have hlen := hv.len
  have htk := hr.hi
  have hk : (ckAt sd s (fun _ => 0) (initC s) 0 p n).dn.getD i 0 = (p.take n).count i := hck.dc _ (by omega)
  have hbg := hr.bg sd
  have hen := hr.en sd
  have hend : (stepC sd s (ckAt sd s (fun _ => 0) (initC s) 0 p n) i 0).en = pk sd x.el x.eh := by
    rw [hen, hbg]; simp only [stepC, hk]; simp
  have hbb : (stepC sd s (ckAt sd s (fun _ => 0) (initC s) 0 p n) i 0).b = x.b := by
    rw [hr.b]; simp only [stepC, hk]
  rw [ckAt_succ sd s _ p _ _ _ _ hpn]
  refine ⟨?_, ?_, ?_, hck.bn, hck.tk⟩
  · simp only [nextC]; rw [hend, hbb]
  · simp only [nextC]; rw [hend]
  · rw [hbg, ← hbb]; simp only [stepC]

theorem benD_set (hv : Val s) (hp : PlanLe s p) {n i : Nat} (hpn : p[n]? = some i) {x : Sl} (hx : (runS s (fun _ => 0) p)[n]? = some x) : benD s p (n + 1) = (benD s p n).set x.b.toNat (.agg [I x.el, I x.eh]) := by
  obtain ⟨a1, -, -, a4, -⟩ := ck_step hv hp hpn hx false
  obtain ⟨b1, -, -, b4, -⟩ := ck_step hv hp hpn hx true
  obtain ⟨y, hy, hr⟩ := run_facts hv hp hpn
  rw [hx] at hy; cases hy
  have hw := work_ok hv hr.hi hr.kl
  rw [← hr.b] at hw
  have hb1 := hv.b1
  refine List.ext_getElem? fun j => ?_
  rw [List.getElem?_set]
  by_cases hj : j < s.benches.toNat
  · rw [benD_get hj, a1, b1, getD_set _ _ _ _ _ (by omega), getD_set _ _ _ _ _ (by omega)]
    by_cases e : x.b.toNat = j
    · rw [if_pos e.symm, if_pos e.symm, if_pos e, if_pos (by simp [benD]; omega)]; rfl
    · rw [if_neg e, if_neg (fun h => e h.symm), if_neg (fun h => e h.symm), benD_get hj]
  · rw [if_neg (by omega), List.getElem?_eq_none (by simp [benD]; omega), List.getElem?_eq_none (by simp [benD]; omega)]

theorem endD_set (hv : Val s) (hp : PlanLe s p) {n i : Nat} (hpn : p[n]? = some i) {x : Sl} (hx : (runS s (fun _ => 0) p)[n]? = some x) : endD s p (n + 1) = (endD s p n).set i (.agg [I x.el, I x.eh]) := by
  obtain ⟨-, a2, -, -, a5⟩ := ck_step hv hp hpn hx false
  obtain ⟨-, b2, -, -, b5⟩ := ck_step hv hp hpn hx true
  have hi := hp.lt i (List.mem_of_getElem? hpn)
  have hlen := hv.len
  refine List.ext_getElem? fun j => ?_
  rw [List.getElem?_set]
  by_cases hj : j < s.tasks.length
  · rw [endD_get hj, a2, b2, getD_set _ _ _ _ _ (by omega), getD_set _ _ _ _ _ (by omega)]
    by_cases e : i = j
    · rw [if_pos e.symm, if_pos e.symm, if_pos e, if_pos (by simp [endD]; omega)]; rfl
    · rw [if_neg e, if_neg (fun h => e h.symm), if_neg (fun h => e h.symm), endD_get hj]
  · rw [if_neg (by omega), List.getElem?_eq_none (by simp [endD]; omega), List.getElem?_eq_none (by simp [endD]; omega)]

theorem benD_zero (hv : Val s) : benD s p 0 = List.replicate s.benches.toNat (.agg [I 0, I 0]) := by
  have hb1 := hv.b1
  refine List.ext_getElem? fun j => ?_
  by_cases hj : j < s.benches.toNat
  · rw [benD_get hj, List.getElem?_replicate, if_pos hj]
    have h : ∀ sd, (ck0 sd s p 0).bn.getD j 0 = 0 := fun sd => by
      simp only [ck0, ckAt, initC]
      match j, (show j < 3 by omega) with
      | 0, _ => rfl
      | 1, _ => rfl
      | 2, _ => rfl
    rw [h, h]
  · rw [List.getElem?_eq_none (by simp [benD]; omega), List.getElem?_eq_none (by simp; omega)]

/-- The orders' readiness, as far as it is written. -/
def rdyD (s : Sh) (k : Nat) : List D := (List.range s.tasks.length).map fun i => if i < k then .agg [I (s.tasks.getD i default).ready, I (s.tasks.getD i default).ready] else .agg [I 0, I 0]
theorem rdyD_get {k i : Nat} (h : i < s.tasks.length) : (rdyD s k)[i]? = some (if i < k then .agg [I (s.tasks.getD i default).ready, I (s.tasks.getD i default).ready] else .agg [I 0, I 0]) := by simp [rdyD, List.getElem?_range h]
theorem rdyD_zero : rdyD s 0 = List.replicate s.tasks.length (.agg [I 0, I 0]) := by
  refine List.ext_getElem? fun j => ?_
  by_cases hj : j < s.tasks.length
  · rw [rdyD_get hj, List.getElem?_replicate, if_pos hj]; rfl
  · rw [List.getElem?_eq_none (by simp [rdyD]; omega), List.getElem?_eq_none (by simp; omega)]
theorem rdyD_set {k : Nat} {t : Tk} (h : s.tasks[k]? = some t) : rdyD s (k + 1) = (rdyD s k).set k (.agg [I t.ready, I t.ready]) := by
  have hk := (List.getElem?_eq_some_iff.1 h).1
  have ht : s.tasks.getD k default = t := by rw [List.getD_eq_getElem?_getD, h]; rfl
  refine List.ext_getElem? fun j => ?_
  rw [List.getElem?_set]
  by_cases hj : j < s.tasks.length
  · rw [rdyD_get hj]
    by_cases e : k = j
    · subst e
      have hl : k < (rdyD s k).length := by simpa [rdyD] using hj
      rw [if_pos (show k < k + 1 by omega), if_pos rfl, if_pos hl, ht]
    · rw [if_neg e, rdyD_get hj]
      by_cases h2 : j < k
      · rw [if_pos h2, if_pos (by omega)]
      · rw [if_neg h2, if_neg (by omega)]
  · rw [if_neg (by omega), List.getElem?_eq_none (by simp [rdyD]; omega), List.getElem?_eq_none (by simp [rdyD]; omega)]
theorem rdyD_all : rdyD s s.tasks.length = endD s p 0 := by
  refine List.ext_getElem? fun j => ?_
  by_cases hj : j < s.tasks.length
  · rw [rdyD_get hj, endD_get hj, if_pos hj]
    have h : ∀ sd, (ck0 sd s p 0).tk.getD j 0 = (s.tasks.getD j default).ready := fun sd => by
      simp only [ck0, ckAt, initC, pad4, List.getD_eq_getElem?_getD]
      rw [List.getElem?_append_left (by simpa using hj), List.getElem?_map, List.getElem?_eq_getElem hj]; rfl
    rw [h, h]
  · rw [List.getElem?_eq_none (by simp [rdyD]; omega), List.getElem?_eq_none (by simp [endD]; omega)]
end
end Go.Proofs.YtmloogdalecilaaDoor
