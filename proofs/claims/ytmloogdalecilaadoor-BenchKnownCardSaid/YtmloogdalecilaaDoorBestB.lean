/- Part BestB of the proofs about the benches of the accordion maker: see the last text of the claim for what is proved. -/
import Derived.Test.YtmloogdalecilaaDoorSlackA
import Derived.Test.YtmloogdalecilaaDoorBenchB
import Derived.Test.YtmloogdalecilaaDoorBestA
set_option linter.unusedVariables false
set_option linter.unusedSimpArgs false
set_option linter.unnecessarySimpa false
set_option linter.constructorNameAsVariable false

/-! P7 -/
namespace Go.Proofs.YtmloogdalecilaaDoor
open Go Go.Abs Go.Proofs

/-! The clocks of both cases side by side. -/
def ck0 (sd : Bool) (s : Sh) (p : List Nat) (n : Nat) : Ck := ckAt sd s (fun _ => 0) (initC s) 0 p n
def benD (s : Sh) (p : List Nat) (n : Nat) : List D := (List.range s.benches.toNat).map fun b => rngD ((ck0 false s p n).bn.getD b 0, (ck0 true s p n).bn.getD b 0)
def endD (s : Sh) (p : List Nat) (n : Nat) : List D := (List.range s.tasks.length).map fun i => rngD ((ck0 false s p n).tk.getD i 0, (ck0 true s p n).tk.getD i 0)

theorem benD_get {s : Sh} {p : List Nat} {n b : Nat} (h : b < s.benches.toNat) : (benD s p n)[b]? = some (.agg [I ((ck0 false s p n).bn.getD b 0), I ((ck0 true s p n).bn.getD b 0)]) := by
  simp [benD, List.getElem?_range h, rngD]
theorem endD_get {s : Sh} {p : List Nat} {n i : Nat} (h : i < s.tasks.length) : (endD s p n)[i]? = some (.agg [I ((ck0 false s p n).tk.getD i 0), I ((ck0 true s p n).tk.getD i 0)]) := by
  simp [endD, List.getElem?_range h, rngD]

section
variable {s : Sh} {p : List Nat}

theorem ck_step (hv : Val s) (hp : PlanLe s p) {n i : Nat} (hpn : p[n]? = some i) {x : Sl} (hx : (runS s (fun _ => 0) p)[n]? = some x) (sd : Bool) :
    (ck0 sd s p (n + 1)).bn = (ck0 sd s p n).bn.set x.b.toNat (pk sd x.el x.eh) ∧ (ck0 sd s p (n + 1)).tk = (ck0 sd s p n).tk.set i (pk sd x.el x.eh) ∧
      pk sd x.bl x.bh = max ((ck0 sd s p n).tk.getD i 0) ((ck0 sd s p n).bn.getD x.b.toNat 0) ∧ (ck0 sd s p n).bn.length = 3 ∧ (ck0 sd s p n).tk.length = 4 := by
  unfold ck0
  obtain ⟨y, hy, hr⟩ := run_facts hv hp hpn
  rw [hx] at hy; cases hy
  have hn := (List.getElem?_eq_some_iff.1 hpn).1
  have hck := ck_ok (sd := sd) (more := fun _ => 0) (M := 0) hv hp (by omega) (fun _ => ⟨by omega, by omega⟩) n (by omega)
  have hlen := hv.len
  have htk := hr.hi
  have hk : (ckAt sd s (fun _ => 0) (initC s) 0 p n).dn.getD i 0 = (p.take n).count i := hck.dc _ (by omega)
  have hbg := hr.bg sd
  have hen := hr.en sd
  have hend : (stepC sd s (ckAt sd s (fun _ => 0) (initC s) 0 p n) i 0).en = pk sd x.el x.eh := by
    rw [hen, hbg]; simp only [stepC, hk]; simp
  have hbb : (stepC sd s (ckAt sd s (fun _ => 0) (initC s) 0 p n) i 0).b = x.b := by
    rw [hr.b]; simp only [stepC, hk]
  rw [ckAt_succ sd s _ p _ _ _ _ hpn]
  refine ⟨?_, ?_, ?_, hck.bn, hck.tk⟩
  · simp only [nextC]; rw [hend, hbb]
  · simp only [nextC]; rw [hend]
  · rw [hbg, ← hbb]; simp only [stepC]

theorem benD_set (hv : Val s) (hp : PlanLe s p) {n i : Nat} (hpn : p[n]? = some i) {x : Sl} (hx : (runS s (fun _ => 0) p)[n]? = some x) : benD s p (n + 1) = (benD s p n).set x.b.toNat (.agg [I x.el, I x.eh]) := by
  obtain ⟨a1, -, -, a4, -⟩ := ck_step hv hp hpn hx false
  obtain ⟨b1, -, -, b4, -⟩ := ck_step hv hp hpn hx true
  obtain ⟨y, hy, hr⟩ := run_facts hv hp hpn
  rw [hx] at hy; cases hy
  have hw := work_ok hv hr.hi hr.kl
  rw [← hr.b] at hw
  have hb1 := hv.b1
  refine List.ext_getElem? fun j => ?_
  rw [List.getElem?_set]
  by_cases hj : j < s.benches.toNat
  · rw [benD_get hj, a1, b1, getD_set _ _ _ _ _ (by omega), getD_set _ _ _ _ _ (by omega)]
    by_cases e : x.b.toNat = j
    · rw [if_pos e.symm, if_pos e.symm, if_pos e, if_pos (by simp [benD]; omega)]; rfl
    · rw [if_neg e, if_neg (fun h => e h.symm), if_neg (fun h => e h.symm), benD_get hj]
  · rw [if_neg (by omega), List.getElem?_eq_none (by simp [benD]; omega), List.getElem?_eq_none (by simp [benD]; omega)]

theorem endD_set (hv : Val s) (hp : PlanLe s p) {n i : Nat} (hpn : p[n]? = some i) {x : Sl} (hx : (runS s (fun _ => 0) p)[n]? = some x) : endD s p (n + 1) = (endD s p n).set i (.agg [I x.el, I x.eh]) := by
  obtain ⟨-, a2, -, -, a5⟩ := ck_step hv hp hpn hx false
  obtain ⟨-, b2, -, -, b5⟩ := ck_step hv hp hpn hx true
  have hi := hp.lt i (List.mem_of_getElem? hpn)
  have hlen := hv.len
  refine List.ext_getElem? fun j => ?_
  rw [List.getElem?_set]
  by_cases hj : j < s.tasks.length
  · rw [endD_get hj, a2, b2, getD_set _ _ _ _ _ (by omega), getD_set _ _ _ _ _ (by omega)]
    by_cases e : i = j
    · rw [if_pos e.symm, if_pos e.symm, if_pos e, if_pos (by simp [endD]; omega)]; rfl
    · rw [if_neg e, if_neg (fun h => e h.symm), if_neg (fun h => e h.symm), endD_get hj]
  · rw [if_neg (by omega), List.getElem?_eq_none (by simp [endD]; omega), List.getElem?_eq_none (by simp [endD]; omega)]

theorem benD_zero (hv : Val s) : benD s p 0 = List.replicate s.benches.toNat (.agg [I 0, I 0]) := by
  have hb1 := hv.b1
  refine List.ext_getElem? fun j => ?_
  by_cases hj : j < s.benches.toNat
  · rw [benD_get hj, List.getElem?_replicate, if_pos hj]
    have h : ∀ sd, (ck0 sd s p 0).bn.getD j 0 = 0 := fun sd => by
      simp only [ck0, ckAt, initC]
      match j, (show j < 3 by omega) with
      | 0, _ => rfl
      | 1, _ => rfl
      | 2, _ => rfl
    rw [h, h]
  · rw [List.getElem?_eq_none (by simp [benD]; omega), List.getElem?_eq_none (by simp; omega)]

/-- The orders' readiness, as far as it is written. -/
def rdyD (s : Sh) (k : Nat) : List D := (List.range s.tasks.length).map fun i => if i < k then .agg [I (s.tasks.getD i default).ready, I (s.tasks.getD i default).ready] else .agg [I 0, I 0]
theorem rdyD_get {k i : Nat} (h : i < s.tasks.length) : (rdyD s k)[i]? = some (if i < k then .agg [I (s.tasks.getD i default).ready, I (s.tasks.getD i default).ready] else .agg [I 0, I 0]) := by simp [rdyD, List.getElem?_range h]
theorem rdyD_zero : rdyD s 0 = List.replicate s.tasks.length (.agg [I 0, I 0]) := by
  refine List.ext_getElem? fun j => ?_
  by_cases hj : j < s.tasks.length
  · rw [rdyD_get hj, List.getElem?_replicate, if_pos hj]; rfl
  · rw [List.getElem?_eq_none (by simp [rdyD]; omega), List.getElem?_eq_none (by simp; omega)]
theorem rdyD_set {k : Nat} {t : Tk} (h : s.tasks[k]? = some t) : rdyD s (k + 1) = (rdyD s k).set k (.agg [I t.ready, I t.ready]) := by
  have hk := (List.getElem?_eq_some_iff.1 h).1
  have ht : s.tasks.getD k default = t := by rw [List.getD_eq_getElem?_getD, h]; rfl
  refine List.ext_getElem? fun j => ?_
  rw [List.getElem?_set]
  by_cases hj : j < s.tasks.length
  · rw [rdyD_get hj]
    by_cases e : k = j
    · subst e
      have hl : k < (rdyD s k).length := by simpa [rdyD] using hj
      rw [if_pos (show k < k + 1 by omega), if_pos rfl, if_pos hl, ht]
    · rw [if_neg e, rdyD_get hj]
      by_cases h2 : j < k
      · rw [if_pos h2, if_pos (by omega)]
      · rw [if_neg h2, if_neg (by omega)]
  · rw [if_neg (by omega), List.getElem?_eq_none (by simp [rdyD]; omega), List.getElem?_eq_none (by simp [rdyD]; omega)]
theorem rdyD_all : rdyD s s.tasks.length = endD s p 0 := by
  refine List.ext_getElem? fun j => ?_
  by_cases hj : j < s.tasks.length
  · rw [rdyD_get hj, endD_get hj, if_pos hj]
    have h : ∀ sd, (ck0 sd s p 0).tk.getD j 0 = (s.tasks.getD j default).ready := fun sd => by
      simp only [ck0, ckAt, initC, pad4, List.getD_eq_getElem?_getD]
      rw [List.getElem?_append_left (by simpa using hj), List.getElem?_map, List.getElem?_eq_getElem hj]; rfl
    rw [h, h]
  · rw [List.getElem?_eq_none (by simp [rdyD]; omega), List.getElem?_eq_none (by simp [endD]; omega)]
end
end Go.Proofs.YtmloogdalecilaaDoor

/-! D51 -/
namespace Go.Proofs.YtmloogdalecilaaDoor
open Go Go.Abs Go.Proofs

theorem rLater (a b c d e f : Int) (he : e = max a c) (hf : f = max b d) (Q) (hq : Q (RA.ret (.agg [I e, I f])) []) : CallA Tryd.prog 119 [.agg [I a, I b], .agg [I c, I d]] [] Q := later a b c d Q (by rw [← he, ← hf]; exact hq)

set_option maxRecDepth 20000 in
set_option maxHeartbeats 8000000 in
/-- run, the documents' own. -/
theorem rRun (s : Sh) (hv : Val s) (p : List Nat) (hp : PlanLe s p) (hpl : p.length ≤ 20) (TL PL : List D) (hT : TL = s.tasks.map taskD) (hP : PL = planL p) (Q) (hq : ∀ RL, RL = (runS s (fun _ => 0) p).map slotD → Q (RA.ret (.sl 7 RL)) []) :
    CallA Tryd.prog 106 [.agg [I s.benches, .sl 3 TL], .sl 1 PL] [] Q := by
  obtain ⟨A, hA⟩ : ∃ A, A = ar := ⟨_, rfl⟩
  obtain ⟨N, hN⟩ : ∃ N, N = s.tasks.length := ⟨_, rfl⟩
  have hTl : TL.length = N := by rw [hT, hN]; simp
  have hlen := hv.len
  have hPl : PL.length = p.length := by rw [hP]; simp [planL]
  have hb0 := hv.b0
  have hb1 := hv.b1
  obtain ⟨n0, hn0⟩ : ∃ n0, n0 = A.tn (A.oi (A.len TL)) := ⟨_, rfl⟩
  have hn0N : n0 = N := by rw [hn0, yoiL hA hTl]; subst hA; rfl
  obtain ⟨nb, hnb⟩ : ∃ nb, nb = A.tn s.benches := ⟨_, rfl⟩
  have hnbB : nb = s.benches.toNat := by rw [hnb]; subst hA; rfl
  have hrb : A.rep nb (.agg [I 0, I 0]) = benD s p 0 := by rw [hnbB, benD_zero hv]; subst hA; rfl
  have hre : A.rep n0 (.agg [I 0, I 0]) = rdyD s 0 := by rw [hn0N, hN, rdyD_zero]; subst hA; rfl
  have hrd : A.rep n0 (I 0) = cntD s p 0 := by
    rw [hn0N, hN]; subst hA
    refine List.ext_getElem? fun j => ?_
    by_cases hj : j < s.tasks.length
    · rw [cntD_get hj]; simp [ar, hj]
    · rw [List.getElem?_eq_none (by simp [ar]; omega), List.getElem?_eq_none (by simp [cntD]; omega)]
  have hr1 : A.room (A.tn s.benches) 16 := by rw [← hnb, hnbB]; exact yroomN hA (by omega) (by decide)
  have hr2 : A.room (A.tn (A.oi (A.len TL))) 16 := by rw [← hn0, hn0N]; exact yroomN hA (by omega) (by decide)
  have hr3 : A.room (A.tn (A.oi (A.len TL))) 8 := by rw [← hn0, hn0N]; exact yroomN hA (by omega) (by decide)
  have hnn1 : A.nneg s.benches := by subst hA; show 0 ≤ s.benches; omega
  have hnn2 : A.nneg (A.oi (A.len TL)) := by subst hA; exact Int.natCast_nonneg _
  refine callA_start tokT hA Tryd.func106 rfl rfl rfl rfl rfl fun S hS => ?_
  cbv
  refine ⟨hnn1, hr1, ?_⟩
  refine draw_go tokT hA hS [0, 1, 2, 3, 4, 5, 6, 7, 8, 9] rfl rfl fun Dk hD => ?_
  cbv
  refine ⟨hnn2, hr3, hnn2, hr2, ?_⟩
  obtain ⟨BL, hBL⟩ : ∃ BL, BL = A.rep nb (.agg [I 0, I 0]) := ⟨_, rfl⟩
  obtain ⟨CL, hCL⟩ : ∃ CL, CL = A.rep n0 (I 0) := ⟨_, rfl⟩
  obtain ⟨RL, hRL⟩ : ∃ RL, RL = A.rep n0 (.agg [I 0, I 0]) := ⟨_, rfl⟩
  refine at_code hS ?_
  refine wpa_loopG (α := Int × Nat × List D) (fun q => { env := [(1, .sl 1 PL), (2, .b 0 0), (5, .v (.slice none 0 0)), (6, .o 1 2 nb), (7, .o 2 1 n0), (8, .o 3 2 n0), (9, I q.1)], H := [.box (.agg [I s.benches, .sl 3 TL]), .els 2 BL, .els 1 CL, .els 2 q.2.2], nt := 123, dfs := [] })
    (fun q => N - q.2.1) (fun q => q.2.1 ≤ N ∧ IsI q.1 q.2.1 ∧ q.2.2 = rdyD s q.2.1) (0, 0, RL) ⟨Nat.zero_le _, ⟨rfl⟩, hRL.trans hre⟩ ?_ ?_
  · rw [hBL, hCL, hRL]
    exact gs_to [0, 1, 2, 3] ⟨by decide, pre0, ⟨rfl, by rw [hnb]; rfl, by rw [hn0]; rfl, by rw [hn0]; rfl, trivial⟩, ⟨rfl, rfl, rfl, by rw [hnb]; rfl, by rw [hn0]; rfl, by rw [hn0]; rfl, rfl, trivial⟩, rfl, rfl⟩
  rintro ⟨i, k, EL⟩ ⟨u1, u2, hEL⟩
  dsimp only at u1 u2 hEL
  refine wp_goF tokT hA hS [] ?_
  cbv
  refine bm (fun c => ?_) (fun c => ?_)
  · have hk : k < N := yltL hA hTl u2 c
    obtain ⟨t, ht⟩ : ∃ t, t = s.tasks[k] := ⟨_, rfl⟩
    have htk : s.tasks[k]? = some t := by rw [ht]; exact List.getElem?_eq_getElem (by omega)
    obtain ⟨WL, hWL⟩ : ∃ WL, WL = t.works.map workD := ⟨_, rfl⟩
    have hTk : TL[k]? = some (.agg [I t.ready, I t.due, .sl 3 WL]) := by rw [hT]; simp [htk, hWL, taskD]
    have hin := yinbL hA hTl u2 hk
    have hg := yget hA u2 hTk
    have hf := yfit1 hA u2 (by omega)
    have hu2 := ysucc hA u2
    have hms : N - (k + 1) < N - k := by omega
    have hi0 : A.inb i n0 := yinb hA u2 (by omega)
    have hEk : (rdyD s k)[k]? = some (.agg [I 0, I 0]) := by rw [rdyD_get (by omega), if_neg (Nat.lt_irrefl k)]
    have hgE := yget hA u2 hEk
    have hset : A.set (rdyD s k) (A.tn i) (.agg [I t.ready, I t.ready]) = rdyD s (k + 1) := yset hA u2 (rdyD_set htk)
    rw [← hEL] at hgE hset
    cbv
    refine draw_go tokT hA hS [0, 1, 2, 3, 4, 5, 6, 7, 8, 9, 10, 11, 12, 13, 14, 15, 16] rfl rfl fun Dk1 hD1 => ?_
    cbv
    refine ⟨hin, ⟨_, hg, ?_⟩⟩
    cbv
    refine ⟨hin, ⟨_, hg, ?_⟩⟩
    cbv
    refine ⟨hi0, ⟨_, hgE, ?_⟩⟩
    cbv
    refine ⟨hf, ?_⟩
    refine gs_loop (A.add i 1, k + 1, A.set EL (A.tn i) (.agg [I t.ready, I t.ready])) [0, 1, 2, 3] ⟨hk, hu2, hset⟩ hms ?_
    exact ⟨by decide, pre0, ⟨rfl, rfl, rfl, rfl, trivial⟩, ⟨rfl, rfl, rfl, rfl, rfl, rfl, rfl, trivial⟩, rfl, rfl⟩
  have hk : k = N := by have := ynltL hA hTl u2 c; omega
  have hE0 : EL = endD s p 0 := by rw [hEL, hk, hN, rdyD_all]
  cbv
  refine gs_done ?_
  cbv
  refine at_code hS ?_
  refine wpa_loopG (α := Int × Nat × List D × Nat × List D × List D × List D) (fun q => { env := [(1, .sl 1 PL), (2, .b 0 0), (5, .o 4 7 q.2.2.2.1), (6, .o 1 2 nb), (7, .o 2 1 n0), (8, .o 3 2 n0), (10, I q.1)], H := [.box (.agg [I s.benches, .sl 3 TL]), .els 2 q.2.2.2.2.1, .els 1 q.2.2.2.2.2.1, .els 2 q.2.2.2.2.2.2, .els 7 q.2.2.1], nt := 123, dfs := [] })
    (fun q => p.length - q.2.1) (fun q => q.2.1 ≤ p.length ∧ IsI q.1 q.2.1 ∧ q.2.2.1 = ((runS s (fun _ => 0) p).take q.2.1).map slotD ∧ q.2.2.1.length = q.2.2.2.1 ∧ q.2.2.2.2.1 = benD s p q.2.1 ∧ q.2.2.2.2.2.1 = cntD s p q.2.1 ∧ q.2.2.2.2.2.2 = endD s p q.2.1) (0, 0, [], 0, BL, CL, EL) ⟨Nat.zero_le _, ⟨rfl⟩, rfl, rfl, hBL.trans hrb, hCL.trans hrd, hE0⟩ ?_ ?_
  · refine gs_virt 5 7 rfl ?_
    exact gs_to [0, 1, 2, 3, 4] ⟨by decide, pre0, ⟨rfl, rfl, rfl, rfl, rfl, trivial⟩, ⟨rfl, rfl, rfl, rfl, rfl, rfl, rfl, trivial⟩, rfl, rfl⟩
  clear u1 u2 hk hBL hCL hEL hE0 c
  clear i k BL CL EL
  rintro ⟨i, k, HL, n, BL, CL, EL⟩ ⟨u1, u2, u3, u4, hBL, hCL, hEL⟩
  dsimp only at u1 u2 u3 u4 hBL hCL hEL
  have hnk : n = k := by rw [← u4, u3, List.length_map, List.length_take, runS_length]; omega
  refine wp_goF tokT hA hS [] ?_
  cbv
  refine bm (fun c => ?_) (fun c => ?_)
  · have hk : k < p.length := yltL hA hPl u2 c
    obtain ⟨t, hpk⟩ : ∃ t, p[k]? = some t := ⟨_, List.getElem?_eq_getElem hk⟩
    obtain ⟨x, hx, hr⟩ := run_facts hv hp hpk
    have ht := hr.hi
    obtain ⟨T, hTT⟩ : ∃ T, T = s.tasks.getD t default := ⟨_, rfl⟩
    have htk : s.tasks[t]? = some T := by rw [hTT, List.getD_eq_getElem?_getD, List.getElem?_eq_getElem ht]; rfl
    obtain ⟨cn, hcn⟩ : ∃ cn, cn = (p.take k).count t := ⟨_, rfl⟩
    have hcl := hr.kl
    rw [← hcn, ← hTT] at hcl
    obtain ⟨w, hw⟩ : ∃ w, w = T.works.getD cn default := ⟨_, rfl⟩
    have hwa : workAt s t cn = w := by rw [hw, hTT]; rfl
    have hwk : T.works[cn]? = some w := by rw [hw, List.getD_eq_getElem?_getD, List.getElem?_eq_getElem hcl]; rfl
    have hww := work_ok hv ht (by rw [← hTT]; exact hcl)
    rw [hwa] at hww
    have hxb := hr.b
    rw [← hcn, hwa] at hxb
    obtain ⟨WL, hWL⟩ : ∃ WL, WL = T.works.map workD := ⟨_, rfl⟩
    have hWl : WL.length = T.works.length := by rw [hWL]; simp
    have hTk : TL[t]? = some (.agg [I T.ready, I T.due, .sl 3 WL]) := by rw [hT]; simp [htk, hWL, taskD]
    have hWk : WL[cn]? = some (.agg [I w.b, I w.lo, I w.hi]) := by rw [hWL]; simp [hwk, workD]
    obtain ⟨ti, hti⟩ : ∃ y : Int, IsI y t := ⟨_, ⟨rfl⟩⟩
    obtain ⟨ci, hci⟩ : ∃ y : Int, IsI y cn := ⟨_, ⟨rfl⟩⟩
    have hbi : IsI w.b w.b.toNat := ⟨by omega⟩
    have hPk : PL[k]? = some (I ti) := by rw [hP, hti.eq]; simp [hpk, planL]
    obtain ⟨e1, he1⟩ : ∃ e, e = (ck0 false s p k).tk.getD t 0 := ⟨_, rfl⟩
    obtain ⟨e2, he2⟩ : ∃ e, e = (ck0 true s p k).tk.getD t 0 := ⟨_, rfl⟩
    obtain ⟨f1, hf1⟩ : ∃ e, e = (ck0 false s p k).bn.getD w.b.toNat 0 := ⟨_, rfl⟩
    obtain ⟨f2, hf2⟩ : ∃ e, e = (ck0 true s p k).bn.getD w.b.toNat 0 := ⟨_, rfl⟩
    have hbB : w.b.toNat < s.benches.toNat := by omega
    have hBk : BL[w.b.toNat]? = some (.agg [I f1, I f2]) := by rw [hBL, benD_get hbB, hf1, hf2]
    have hEk : EL[t]? = some (.agg [I e1, I e2]) := by rw [hEL, endD_get ht, he1, he2]
    have hCk : CL[t]? = some (I ci) := by rw [hCL, cntD_get ht, hci.eq, hcn]
    obtain ⟨-, -, m1, -, -⟩ := ck_step hv hp hpk hx false
    obtain ⟨-, -, m2, -, -⟩ := ck_step hv hp hpk hx true
    rw [hxb, ← he1, ← hf1] at m1
    rw [hxb, ← he2, ← hf2] at m2
    have m1 : x.bl = max e1 f1 := m1
    have m2 : x.bh = max e2 f2 := m2
    have n1 : x.el = x.bl + w.lo := by have := hr.en false; rw [← hcn, hwa] at this; exact this
    have n2 : x.eh = x.bh + w.hi := by have := hr.en true; rw [← hcn, hwa] at this; exact this
    have b1 := hr.b0 false
    have b2 := hr.b0 true
    simp only [pk] at b1 b2
    have a1 : A.add x.bl w.lo = x.el := by rw [xadd hA, n1]
    have a2 : A.add x.bh w.hi = x.eh := by rw [xadd hA, n2]
    have hfa1 : A.fits .i64 (A.add x.bl w.lo) := xfitE hA a1 (by omega)
    have hfa2 : A.fits .i64 (A.add x.bh w.hi) := xfitE hA a2 (by omega)
    have i1 := yinbL hA hPl u2 hk
    have g1 := yget hA u2 hPk
    have i2 := yinbL hA hTl hti (by omega : t < N)
    have g2 := yget hA hti hTk
    have i3 : A.inb ti n0 := yinb hA hti (by omega)
    have g3 := yget hA hti hCk
    have i4 := yinbL hA hWl hci hcl
    have g4 := yget hA hci hWk
    have g5 := yget hA hti hEk
    have i6 : A.inb w.b nb := yinb hA hbi (by omega)
    have g6 := yget hA hbi hBk
    have hf := yfit1 hA u2 (by omega)
    have hfc := yfit1 hA hci (by have : cn ≤ p.length := by rw [hcn]; exact Nat.le_trans List.count_le_length (by simp; omega)
                                 omega)
    have hu2 := ysucc hA u2
    have hms : p.length - (k + 1) < p.length - k := by omega
    have hset1 : A.set CL (A.tn ti) (I (A.add ci 1)) = cntD s p (k + 1) := yset hA hti (by rw [hCL, cntD_set hpk ht, xadd hA, hci.eq, hcn]; rfl)
    have hset2 : A.set EL (A.tn ti) (.agg [I (A.add x.bl w.lo), I (A.add x.bh w.hi)]) = endD s p (k + 1) := yset hA hti (by rw [hEL, endD_set hv hp hpk hx, a1, a2])
    have hset3 : A.set BL (A.tn w.b) (.agg [I (A.add x.bl w.lo), I (A.add x.bh w.hi)]) = benD s p (k + 1) := yset hA hbi (by rw [hBL, benD_set hv hp hpk hx, a1, a2, hxb])
    have hnx : A.app HL [.agg [I ti, I ci, I w.b, I x.bl, I x.bh, I (A.add x.bl w.lo), I (A.add x.bh w.hi)]] = ((runS s (fun _ => 0) p).take (k + 1)).map slotD := by
      rw [xapp hA, u3, List.take_add_one, hx, a1, a2, hti.eq, hci.eq]
      simp only [Option.toList_some, List.map_append, List.map_cons, List.map_nil, slotD, hr.t, hr.k, hxb, hcn]
    have hnl : (A.app HL [.agg [I ti, I ci, I w.b, I x.bl, I x.bh, I (A.add x.bl w.lo), I (A.add x.bh w.hi)]]).length = A.addN n 1 := by rw [xapp hA, xaddN hA]; simp [u4]
    have hrm := yroom1 hA (k := n) (b := 56) (by omega) (by decide)
    cbv
    refine ⟨i1, ⟨_, g1, ?_⟩⟩
    cbv
    refine draw_go tokT hA hS [0, 1, 2, 3, 4, 5, 6, 7, 8, 9, 10, 11, 12, 13] rfl rfl fun Dk1 hD1 => ?_
    cbv
    refine ⟨i2, ⟨_, g2, ?_⟩⟩
    cbv
    refine ⟨i3, ⟨_, g3, ?_⟩⟩
    cbv
    refine ⟨i4, ⟨_, g4, ?_⟩⟩
    cbv
    refine draw_go tokT hA hS [0, 1, 2, 3, 4, 5, 6, 7, 8, 10, 9, 11] rfl rfl fun Dk2 hD2 => ?_
    cbv
    refine ⟨i3, ⟨_, g5, ?_⟩⟩
    cbv
    refine ⟨i6, ⟨_, g6, ?_⟩⟩
    cbv
    refine draw_call hA hD2 [.agg [I e1, I e2], .agg [I f1, I f2]] [] [] rfl rfl rfl rfl rfl rfl rfl rfl rfl rfl rfl (by decide) trivial (rLater e1 e2 f1 f2 x.bl x.bh m1 m2 _ ⟨by cbv, draw_on tokT hA hD2 ?_⟩)
    cbv
    refine ⟨hfa1, hfa2, ?_⟩
    refine draw_go tokT hA hS [0, 1, 2, 3, 4, 5, 6, 7, 8, 9, 10, 11, 12, 13] rfl rfl fun Dk3 hD3 => ?_
    cbv
    refine ⟨i3, ⟨_, g3, ?_⟩⟩
    cbv
    refine ⟨yeqLen hA u4, yeqLen hA rfl, hrm, ⟨⟨_, g3, rfl⟩, trivial⟩, ?_⟩
    refine ⟨i3, ⟨_, g3, ?_⟩⟩
    cbv
    refine ⟨hfc, i3, ⟨_, g3, ?_⟩⟩
    cbv
    refine draw_go tokT hA hS [0, 1, 2, 3, 4, 5, 6, 7, 8, 9, 10] rfl rfl fun Dk4 hD4 => ?_
    cbv
    refine ⟨i3, ⟨_, g5, ?_⟩⟩
    cbv
    refine ⟨i6, ⟨_, g6, ?_⟩⟩
    cbv
    refine ⟨hf, ?_⟩
    refine gs_loop (A.add i 1, k + 1, A.app HL [.agg [I ti, I ci, I w.b, I x.bl, I x.bh, I (A.add x.bl w.lo), I (A.add x.bh w.hi)]], A.addN n 1, A.set BL (A.tn w.b) (.agg [I (A.add x.bl w.lo), I (A.add x.bh w.hi)]), A.set CL (A.tn ti) (I (A.add ci 1)), A.set EL (A.tn ti) (.agg [I (A.add x.bl w.lo), I (A.add x.bh w.hi)])) [0, 1, 2, 3, 9] ⟨hk, hu2, hnx, hnl, hset3, hset1, hset2⟩ hms ?_
    exact ⟨by decide, pre0, ⟨rfl, rfl, rfl, rfl, rfl, trivial⟩, ⟨rfl, rfl, rfl, rfl, rfl, rfl, rfl, trivial⟩, rfl, rfl⟩
  · have hk : k = p.length := by have := ynltL hA hPl u2 c; omega
    have hHL : HL = (runS s (fun _ => 0) p).map slotD := by rw [u3, hk, List.take_of_length_le (by rw [runS_length]; exact Nat.le_refl _)]
    cbv
    refine gs_done ?_
    cbv
    refine gh_frz [4] ?_
    cbv
    exact ⟨by cases HL <;> exact u4.symm, gh_view [] (by decide) pre0 (H' := []) (d' := .sl 7 HL) trivial rfl (gh_done (hq HL hHL))⟩
end Go.Proofs.YtmloogdalecilaaDoor

/-! P8 -/
namespace Go.Proofs.YtmloogdalecilaaDoor
open Go Go.Abs Go.Proofs

/-! The last end, by the ends of orders. -/
def lastE (l : List (Int × Int)) : Int × Int := l.foldl (fun a e => (max a.1 e.1, max a.2 e.2)) (0, 0)
theorem lastE_snoc (l : List (Int × Int)) (e : Int × Int) : lastE (l ++ [e]) = (max (lastE l).1 e.1, max (lastE l).2 e.2) := by simp only [lastE, List.foldl_append, List.foldl_cons, List.foldl_nil]

theorem foldE (l : List (Int × Int)) : ∀ a b : Int, l.foldl (fun a e => (max a.1 e.1, max a.2 e.2)) (a, b) = (max a (l.foldl (fun a e => (max a.1 e.1, max a.2 e.2)) (a, b)).1, max b (l.foldl (fun a e => (max a.1 e.1, max a.2 e.2)) (a, b)).2) ∧
    ∀ c d : Int, l.foldl (fun a e => (max a.1 e.1, max a.2 e.2)) (max a c, max b d) = (max (l.foldl (fun a e => (max a.1 e.1, max a.2 e.2)) (a, b)).1 c, max (l.foldl (fun a e => (max a.1 e.1, max a.2 e.2)) (a, b)).2 d) := by
  induction l with
  | nil => intro a b; simp
  | cons x l ih =>
    intro a b
    simp only [List.foldl_cons]
    obtain ⟨h1, h2⟩ := ih (max a x.1) (max b x.2)
    constructor
    · refine Prod.ext ?_ ?_
      · have := congrArg Prod.fst h1
        simp only at this ⊢
        omega
      · have := congrArg Prod.snd h1
        simp only at this ⊢
        omega
    · intro c d
      rw [show max (max a c) x.1 = max (max a x.1) c by omega, show max (max b d) x.2 = max (max b x.2) d by omega]
      exact h2 c d

theorem foldE_set (l : List (Int × Int)) : ∀ (i : Nat) (u v : Int × Int) (a b : Int), l[i]? = some u → u.1 ≤ v.1 → u.2 ≤ v.2 →
    (l.set i v).foldl (fun a e => (max a.1 e.1, max a.2 e.2)) (a, b) = (max (l.foldl (fun a e => (max a.1 e.1, max a.2 e.2)) (a, b)).1 v.1, max (l.foldl (fun a e => (max a.1 e.1, max a.2 e.2)) (a, b)).2 v.2) := by
  induction l with
  | nil => intro i u v a b h; simp at h
  | cons x l ih =>
    intro i u v a b h h1 h2
    cases i with
    | zero =>
      simp at h; subst h
      simp only [List.set_cons_zero, List.foldl_cons]
      have := (foldE l (max a x.1) (max b x.2)).2 v.1 v.2
      rw [← this]
      congr 1
      refine Prod.ext ?_ ?_ <;> simp only <;> omega
    | succ i =>
      simp only [List.set_cons_succ, List.foldl_cons]
      exact ih i u v _ _ (by simpa using h) h1 h2

section
variable {s : Sh} {p : List Nat}

theorem endsF_src {N : Nat} (R : List Sl) : ∀ n, n ≤ R.length → ∀ (t : Nat) (v : Int × Int), (endsF N (R.take n))[t]? = some v → v = (0, 0) ∨ ∃ (k : Nat) (x : Sl), k < n ∧ R[k]? = some x ∧ x.t.toNat = t ∧ v = (x.el, x.eh)
  | 0, _, t, v, h => by
    simp only [List.take_zero, endsF, List.foldl_nil, List.getElem?_replicate] at h
    split at h
    · cases h; exact .inl rfl
    · cases h
  | n + 1, hn, t, v, h => by
    have hx : R[n]? = some R[n] := List.getElem?_eq_getElem (by omega)
    rw [List.take_add_one, hx, Option.toList_some, endsF_snoc, List.getElem?_set] at h
    split at h
    · rename_i e
      split at h
      · cases h; exact .inr ⟨n, R[n], by omega, hx, e, rfl⟩
      · cases h
    · rcases endsF_src R n (by omega) t v h with h | ⟨k, x, h1, h2, h3, h4⟩
      · exact .inl h
      · exact .inr ⟨k, x, by omega, h2, h3, h4⟩

/-- The last end of orders is the last end of works. -/
theorem lastE_ends (hv : Val s) (hp : PlanLe s p) : lastE (endsS s p) = lastS (runS s (fun _ => 0) p) := by
  obtain ⟨R, hR⟩ : ∃ R, R = runS s (fun _ => 0) p := ⟨_, rfl⟩
  have hRl : R.length = p.length := by rw [hR, runS_length]
  have key : ∀ n, n ≤ p.length → lastE (endsF s.tasks.length (R.take n)) = lastS (R.take n) := by
    intro n
    induction n with
    | zero =>
      intro _
      have : ∀ m : Nat, (List.replicate m ((0, 0) : Int × Int)).foldl (fun a e => (max a.1 e.1, max a.2 e.2)) (0, 0) = (0, 0) := fun m => by
        induction m with
        | zero => rfl
        | succ m ih => rw [List.replicate_succ, List.foldl_cons]; exact ih
      exact this _
    | succ n ih =>
      intro hn
      have hpn : p[n]? = some p[n] := List.getElem?_eq_getElem (by omega)
      obtain ⟨x, hx, hr⟩ := run_facts hv hp hpn
      rw [← hR] at hx
      rw [List.take_add_one, hx, Option.toList_some, lastS_snoc, ← ih (by omega), endsF_snoc]
      have htn : x.t.toNat = p[n] := by rw [hr.t]; rfl
      have hlt : x.t.toNat < (endsF s.tasks.length (R.take n)).length := by rw [htn]; simp only [endsF, endsF_len, List.length_replicate]; exact hr.hi
      obtain ⟨u, hu⟩ : ∃ u, (endsF s.tasks.length (R.take n))[x.t.toNat]? = some u := ⟨_, List.getElem?_eq_getElem hlt⟩
      have hw := work_ok hv hr.hi hr.kl
      have h1 := hr.en false
      have h2 := hr.en true
      have h3 := hr.b0 false
      have h4 := hr.b0 true
      simp only [pk, sel] at h1 h2 h3 h4
      have hle : u.1 ≤ x.el ∧ u.2 ≤ x.eh := by
        rcases endsF_src R n (by omega) _ u hu with rfl | ⟨k, y, k1, k2, k3, rfl⟩
        · exact ⟨by show (0 : Int) ≤ _; omega, by show (0 : Int) ≤ _; omega⟩
        · have hpk : p[k]? = some p[k] := List.getElem?_eq_getElem (by omega)
          obtain ⟨y', hy', hr'⟩ := run_facts hv hp hpk
          rw [← hR, k2] at hy'; cases hy'
          have et : y.t = x.t := by have := hr.t; have := hr'.t; omega
          have a1 := run_after hv hp false k1 (by rw [← hR]; exact k2) (by rw [← hR]; exact hx) (.inr et)
          have a2 := run_after hv hp true k1 (by rw [← hR]; exact k2) (by rw [← hR]; exact hx) (.inr et)
          simp only [pk] at a1 a2
          exact ⟨by show y.el ≤ _; omega, by show y.eh ≤ _; omega⟩
      exact foldE_set _ _ u (x.el, x.eh) 0 0 hu hle.1 hle.2
  have := key p.length (Nat.le_refl _)
  rw [List.take_of_length_le (by omega)] at this
  rw [endsS, ← hR]; exact this
end
end Go.Proofs.YtmloogdalecilaaDoor

/-! D52 -/
namespace Go.Proofs.YtmloogdalecilaaDoor
open Go Go.Abs Go.Proofs

set_option maxRecDepth 20000 in
set_option maxHeartbeats 4000000 in
/-- ends, the documents' own. -/
theorem rEnds (s : Sh) (hv : Val s) (p : List Nat) (hp : PlanLe s p) (hpl : p.length ≤ 20) (TL PL : List D) (hT : TL = s.tasks.map taskD) (hP : PL = planL p) (Q) (hq : ∀ EL, EL = (endsS s p).map rngD → Q (RA.ret (.sl 2 EL)) []) :
    CallA Tryd.prog 118 [.agg [I s.benches, .sl 3 TL], .sl 1 PL] [] Q := by
  obtain ⟨A, hA⟩ : ∃ A, A = ar := ⟨_, rfl⟩
  obtain ⟨N, hN⟩ : ∃ N, N = s.tasks.length := ⟨_, rfl⟩
  have hTl : TL.length = N := by rw [hT, hN]; simp
  have hlen := hv.len
  obtain ⟨R, hR⟩ : ∃ R, R = runS s (fun _ => 0) p := ⟨_, rfl⟩
  have hRn : R.length = p.length := by rw [hR, runS_length]
  obtain ⟨n0, hn0⟩ : ∃ n0, n0 = A.tn (A.oi (A.len TL)) := ⟨_, rfl⟩
  have hn0N : n0 = N := by rw [hn0, yoiL hA hTl]; subst hA; rfl
  have hre : A.rep n0 (.agg [I 0, I 0]) = (endsF N (R.take 0)).map rngD := by rw [hn0N]; subst hA; simp [endsF, rngD, ar]
  have hr2 : A.room (A.tn (A.oi (A.len TL))) 16 := by rw [← hn0, hn0N]; exact yroomN hA (by omega) (by decide)
  have hnn2 : A.nneg (A.oi (A.len TL)) := by subst hA; exact Int.natCast_nonneg _
  obtain ⟨E0, hE0⟩ : ∃ EL, EL = A.rep n0 (.agg [I 0, I 0]) := ⟨_, rfl⟩
  refine callA_start tokT hA Tryd.func118 rfl rfl rfl rfl rfl fun S hS => ?_
  cbv
  refine ⟨hnn2, hr2, ?_⟩
  refine ops_call hS [.agg [I s.benches, .sl 3 TL], .sl 1 PL] [] [] rfl rfl rfl rfl rfl rfl rfl rfl (by decide) trivial (rRun s hv p hp hpl TL PL hT hP _ fun RL hRL => ?_)
  rw [← hR] at hRL
  have hRl : RL.length = p.length := by rw [hRL]; simp [hRn]
  refine ops_go tokT hA hS ?_
  cbv
  refine at_code hS ?_
  refine wpa_loopG (α := Int × Nat × List D) (fun q => { env := [(5, .o 0 2 n0), (6, .sl 7 RL), (7, I q.1)], H := [.els 2 q.2.2], nt := 34, dfs := [] })
    (fun q => p.length - q.2.1) (fun q => q.2.1 ≤ p.length ∧ IsI q.1 q.2.1 ∧ q.2.2 = (endsF N (R.take q.2.1)).map rngD) (0, 0, E0) ⟨Nat.zero_le _, ⟨rfl⟩, hE0.trans hre⟩ ?_ ?_
  · rw [hE0]
    exact gs_to [1] ⟨by decide, pre0, ⟨by rw [hn0]; rfl, trivial⟩, ⟨by rw [hn0]; rfl, rfl, rfl, trivial⟩, rfl, rfl⟩
  rintro ⟨i, k, EL⟩ ⟨u1, u2, u3⟩
  dsimp only at u1 u2 u3
  refine wp_goF tokT hA hS [] ?_
  cbv
  refine bm (fun c => ?_) (fun c => ?_)
  · have hk : k < p.length := yltL hA hRl u2 c
    have hpk : p[k]? = some p[k] := List.getElem?_eq_getElem hk
    obtain ⟨x, hx, hr⟩ := run_facts hv hp hpk
    rw [← hR] at hx
    obtain ⟨t, ht⟩ : ∃ t, t = p[k] := ⟨_, rfl⟩
    have hti : IsI x.t t := ⟨by rw [hr.t, ht]⟩
    have htN : t < N := by rw [ht, hN]; exact hr.hi
    have hRk : RL[k]? = some (.agg [I x.t, I x.k, I x.b, I x.bl, I x.bh, I x.el, I x.eh]) := by rw [hRL]; simp [hx, slotD]
    have hEl : (endsF N (R.take k)).length = N := by simp [endsF, endsF_len]
    obtain ⟨u, hu⟩ : ∃ u, (endsF N (R.take k))[t]? = some u := ⟨_, List.getElem?_eq_getElem (by rw [hEl]; exact htN)⟩
    have hEt : EL[t]? = some (.agg [I u.1, I u.2]) := by rw [u3]; simp [hu, rngD]
    have i1 := yinbL hA hRl u2 hk
    have g1 := yget hA u2 hRk
    have i2 : A.inb x.t n0 := yinb hA hti (by omega)
    have g2 := yget hA hti hEt
    have hf := yfit1 hA u2 (by omega)
    have hu2 := ysucc hA u2
    have hms : p.length - (k + 1) < p.length - k := by omega
    have hset : A.set EL (A.tn x.t) (.agg [I x.el, I x.eh]) = (endsF N (R.take (k + 1))).map rngD := yset hA hti (by
      rw [List.take_add_one, hx, Option.toList_some, endsF_snoc, u3, List.map_set, show x.t.toNat = t by have := hti.eq; omega]; rfl)
    cbv
    refine draw_go tokT hA hS [0, 1, 2, 3, 4, 5, 6, 7, 8, 9, 10, 11, 12] rfl rfl fun Dk1 hD1 => ?_
    cbv
    refine ⟨i1, ⟨_, g1, ?_⟩⟩
    cbv
    refine ⟨i1, ⟨_, g1, ?_⟩⟩
    cbv
    refine ⟨i2, ⟨_, g2, ?_⟩⟩
    cbv
    refine ⟨hf, ?_⟩
    refine gs_loop (A.add i 1, k + 1, A.set EL (A.tn x.t) (.agg [I x.el, I x.eh])) [0] ⟨hk, hu2, hset⟩ hms ?_
    exact ⟨by decide, pre0, ⟨rfl, trivial⟩, ⟨rfl, rfl, rfl, trivial⟩, rfl, rfl⟩
  · have hk : k = p.length := by have := ynltL hA hRl u2 c; omega
    have hEL : EL = (endsS s p).map rngD := by rw [u3, hk, List.take_of_length_le (by omega), endsS, hN, hR]
    have hEl : EL.length = n0 := by rw [hEL, hn0N, hN]; simp [endsS_len]
    cbv
    refine gs_done ?_
    cbv
    refine gh_frz [0] ?_
    cbv
    exact ⟨by cases EL <;> exact hEl.symm, gh_view [] (by decide) pre0 (H' := []) (d' := .sl 2 EL) trivial rfl (gh_done (hq EL hEL))⟩

set_option maxRecDepth 20000 in
set_option maxHeartbeats 4000000 in
/-- last, the documents' own. -/
theorem rLast (s : Sh) (hv : Val s) (p : List Nat) (hp : PlanLe s p) (hpl : p.length ≤ 20) (TL PL : List D) (hT : TL = s.tasks.map taskD) (hP : PL = planL p) (Q) (hq : ∀ lo hi, lastS (runS s (fun _ => 0) p) = (lo, hi) → Q (RA.ret (.agg [I lo, I hi])) []) :
    CallA Tryd.prog 97 [.agg [I s.benches, .sl 3 TL], .sl 1 PL] [] Q := by
  obtain ⟨A, hA⟩ : ∃ A, A = ar := ⟨_, rfl⟩
  obtain ⟨N, hN⟩ : ∃ N, N = s.tasks.length := ⟨_, rfl⟩
  have hlen := hv.len
  obtain ⟨E, hE⟩ : ∃ E, E = endsS s p := ⟨_, rfl⟩
  have hEn : E.length = N := by rw [hE, hN, endsS_len]
  refine callA_start tokT hA Tryd.func97 rfl rfl rfl rfl rfl fun S hS => ?_
  cbv
  refine ops_call hS [.agg [I s.benches, .sl 3 TL], .sl 1 PL] [] [] rfl rfl rfl rfl rfl rfl rfl rfl (by decide) trivial (rEnds s hv p hp hpl TL PL hT hP _ fun EL hEL => ?_)
  rw [← hE] at hEL
  have hEl : EL.length = N := by rw [hEL]; simp [hEn]
  refine ops_go tokT hA hS ?_
  cbv
  refine at_code hS ?_
  refine wpa_loopG (α := Int × Nat × Int × Int) (fun q => { env := [(4, .b 0 0), (5, .b 1 0), (6, .sl 2 EL), (7, I q.1)], H := [.box (.agg [I 0, I 0]), .box (.agg [I q.2.2.1, I q.2.2.2])], nt := 24, dfs := [] })
    (fun q => N - q.2.1) (fun q => q.2.1 ≤ N ∧ IsI q.1 q.2.1 ∧ (q.2.2.1, q.2.2.2) = lastE (E.take q.2.1)) (0, 0, 0, 0) ⟨Nat.zero_le _, ⟨rfl⟩, rfl⟩ ?_ ?_
  · exact gs_to [1, 2] ⟨by decide, pre0, ⟨rfl, rfl, trivial⟩, ⟨rfl, rfl, rfl, rfl, trivial⟩, rfl, rfl⟩
  rintro ⟨i, k, a, b⟩ ⟨u1, u2, u3⟩
  dsimp only at u1 u2 u3
  refine wp_goF tokT hA hS [] ?_
  cbv
  refine bm (fun c => ?_) (fun c => ?_)
  · have hk : k < N := yltL hA hEl u2 c
    obtain ⟨e, he⟩ : ∃ e, E[k]? = some e := ⟨_, List.getElem?_eq_getElem (by omega)⟩
    have hEk : EL[k]? = some (.agg [I e.1, I e.2]) := by rw [hEL]; simp [he, rngD]
    have i1 := yinbL hA hEl u2 hk
    have g1 := yget hA u2 hEk
    have hf := yfit1 hA u2 (by omega)
    have hu2 := ysucc hA u2
    have hms : N - (k + 1) < N - k := by omega
    obtain ⟨a', ha'⟩ : ∃ a', a' = max a e.1 := ⟨_, rfl⟩
    obtain ⟨b', hb'⟩ : ∃ b', b' = max b e.2 := ⟨_, rfl⟩
    have hnx : (a', b') = lastE (E.take (k + 1)) := by rw [List.take_add_one, he, Option.toList_some, lastE_snoc, ← u3, ha', hb']
    cbv
    refine draw_go tokT hA hS [0, 1, 2, 3, 4, 5, 6] rfl rfl fun Dk1 hD1 => ?_
    cbv
    refine ⟨i1, ⟨_, g1, ?_⟩⟩
    cbv
    refine draw_call hA hD1 [.agg [I a, I b], .agg [I e.1, I e.2]] [] [] rfl rfl rfl rfl rfl rfl rfl rfl rfl rfl rfl (by decide) trivial (rLater a b e.1 e.2 a' b' ha' hb' _ ⟨by cbv, draw_on tokT hA hD1 ?_⟩)
    cbv
    refine ⟨hf, ?_⟩
    refine gs_loop (A.add i 1, k + 1, a', b') [0, 1] ⟨hk, hu2, hnx⟩ hms ?_
    exact ⟨by decide, pre0, ⟨rfl, rfl, trivial⟩, ⟨rfl, rfl, rfl, rfl, trivial⟩, rfl, rfl⟩
  · have hk : k = N := by have := ynltL hA hEl u2 c; omega
    have hz : lastS (runS s (fun _ => 0) p) = (a, b) := by rw [← lastE_ends hv hp, ← hE, u3, hk, List.take_of_length_le (by omega)]
    cbv
    refine gs_done ?_
    cbv
    exact gh_view [] (by decide) pre0 (H' := []) (d' := .agg [I a, I b]) trivial rfl (gh_done (hq a b hz))

set_option maxRecDepth 20000 in
set_option maxHeartbeats 4000000 in
/-- late, the documents' own. -/
theorem rLate (s : Sh) (hv : Val s) (p : List Nat) (hp : PlanLe s p) (hpl : p.length ≤ 20) (TL PL : List D) (hT : TL = s.tasks.map taskD) (hP : PL = planL p) (Q) (hq : ∀ n, n = lateC s p → Q (RA.ret (I n)) []) :
    CallA Tryd.prog 99 [.agg [I s.benches, .sl 3 TL], .sl 1 PL] [] Q := by
  obtain ⟨A, hA⟩ : ∃ A, A = ar := ⟨_, rfl⟩
  obtain ⟨N, hN⟩ : ∃ N, N = s.tasks.length := ⟨_, rfl⟩
  have hTl : TL.length = N := by rw [hT, hN]; simp
  have hlen := hv.len
  obtain ⟨E, hE⟩ : ∃ E, E = endsS s p := ⟨_, rfl⟩
  have hEn : E.length = N := by rw [hE, hN, endsS_len]
  refine callA_start tokT hA Tryd.func99 rfl rfl rfl rfl rfl fun S hS => ?_
  cbv
  refine ops_call hS [.agg [I s.benches, .sl 3 TL], .sl 1 PL] [] [] rfl rfl rfl rfl rfl rfl rfl rfl (by decide) trivial (rEnds s hv p hp hpl TL PL hT hP _ fun EL hEL => ?_)
  rw [← hE] at hEL
  have hEl : EL.length = N := by rw [hEL]; simp [hEn]
  refine ops_go tokT hA hS ?_
  cbv
  refine at_code hS ?_
  refine wpa_loopG (α := Int × Nat × Int) (fun q => { env := [(2, .b 0 0), (5, I q.2.2), (6, .sl 2 EL), (7, I q.1)], H := [.box (.agg [I s.benches, .sl 3 TL])], nt := 32, dfs := [] })
    (fun q => N - q.2.1) (fun q => q.2.1 ≤ N ∧ IsI q.1 q.2.1 ∧ IsI q.2.2 (lateN s p q.2.1)) (0, 0, 0) ⟨Nat.zero_le _, ⟨rfl⟩, ⟨rfl⟩⟩ ?_ ?_
  · exact gs_to [0] ⟨by decide, pre0, ⟨rfl, trivial⟩, ⟨rfl, rfl, rfl, rfl, trivial⟩, rfl, rfl⟩
  rintro ⟨i, k, n⟩ ⟨u1, u2, u3⟩
  dsimp only at u1 u2 u3
  have hnk : lateN s p k ≤ k := by rw [lateN]; exact Nat.le_trans List.countP_le_length (by simp)
  refine wp_goF tokT hA hS [] ?_
  cbv
  refine bm (fun c => ?_) (fun c => ?_)
  · have hk : k < N := yltL hA hEl u2 c
    obtain ⟨e, he⟩ : ∃ e, E[k]? = some e := ⟨_, List.getElem?_eq_getElem (by omega)⟩
    obtain ⟨t, ht⟩ : ∃ t, t = s.tasks[k] := ⟨_, rfl⟩
    have htk : s.tasks[k]? = some t := by rw [ht]; exact List.getElem?_eq_getElem (by omega)
    obtain ⟨WL, hWL⟩ : ∃ WL, WL = t.works.map workD := ⟨_, rfl⟩
    have hTk : TL[k]? = some (.agg [I t.ready, I t.due, .sl 3 WL]) := by rw [hT]; simp [htk, hWL, taskD]
    have hEk : EL[k]? = some (.agg [I e.1, I e.2]) := by rw [hEL]; simp [he, rngD]
    have i1 := yinbL hA hEl u2 hk
    have g1 := yget hA u2 hEk
    have i2 := yinbL hA hTl u2 hk
    have g2 := yget hA u2 hTk
    have hf := yfit1 hA u2 (by omega)
    have hu2 := ysucc hA u2
    have hf3 := yfit1 hA u3 (by omega)
    have hu3 := ysucc hA u3
    have hms : N - (k + 1) < N - k := by omega
    have hl := lateN_succ s p k
    rw [← hE, List.getD_eq_getElem?_getD, List.getD_eq_getElem?_getD, htk, he] at hl
    simp only [Option.getD_some] at hl
    have y1 : t.due < e.2 → IsI (A.add n 1) (lateN s p (k + 1)) := fun h => by rw [hl, if_pos h]; exact hu3
    have y2 : e.2 ≤ t.due → IsI n (lateN s p (k + 1)) := fun h => by rw [hl, if_neg (by omega)]; exact u3
    cbv
    refine draw_go tokT hA hS [0, 1, 2, 3, 4, 5, 6, 7, 8, 9, 10, 11] rfl rfl fun Dk1 hD1 => ?_
    cbv
    refine ⟨i1, ⟨_, g1, ?_⟩⟩
    cbv
    refine ⟨i2, ⟨_, g2, ?_⟩⟩
    cbv
    refine bm (fun c2 => ?_) (fun c2 => ?_)
    · have hn := y1 (xgt hA c2)
      cbv
      refine ⟨hf3, hf, ?_⟩
      refine gs_loop (A.add i 1, k + 1, A.add n 1) [0] ⟨hk, hu2, hn⟩ hms ?_
      exact ⟨by decide, pre0, ⟨rfl, trivial⟩, ⟨rfl, rfl, rfl, rfl, trivial⟩, rfl, rfl⟩
    · have hn := y2 (xngt hA c2)
      cbv
      refine ⟨hf, ?_⟩
      refine gs_loop (A.add i 1, k + 1, n) [0] ⟨hk, hu2, hn⟩ hms ?_
      exact ⟨by decide, pre0, ⟨rfl, trivial⟩, ⟨rfl, rfl, rfl, rfl, trivial⟩, rfl, rfl⟩
  · have hk : k = N := by have := ynltL hA hEl u2 c; omega
    have hz : n = lateC s p := by rw [u3.eq, lateC, hk, hN]
    cbv
    refine gs_done ?_
    cbv
    exact gh_view [] (by decide) pre0 (H' := []) (d' := I n) trivial rfl (gh_done (hq n hz))
end Go.Proofs.YtmloogdalecilaaDoor
