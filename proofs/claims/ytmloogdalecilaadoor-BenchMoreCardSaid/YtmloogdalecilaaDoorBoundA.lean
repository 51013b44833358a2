/- Part BoundA of the proofs about the benches of the accordion maker: see the last text of the claim for what is proved. -/
import Derived.Test.YtmloogdalecilaaDoorLoadsA
import Derived.Test.YtmloogdalecilaaDoorPlansA
import Derived.Test.YtmloogdalecilaaDoorOwnA
set_option linter.unusedVariables false
set_option linter.unusedSimpArgs false
set_option linter.unnecessarySimpa false
set_option linter.constructorNameAsVariable false

/-! P14 -/
namespace Go.Proofs.YtmloogdalecilaaDoor
open Go Go.Abs Go.Proofs

/-- The clock at a place, in the worst case. -/
def cwt (s : Sh) (p : List Nat) (n : Nat) : Ck := ckAt true s (fun _ => 0) (initC s) 0 p n

/-- One work of a plan: order i, its work k. -/
structure CStep (s : Sh) (p : List Nat) (n i k : Nat) (w : Wk) (e : Int) : Prop where
  at_ : p[n]? = some i
  hi : i < s.tasks.length
  hk : k = (p.take n).count i
  hw : (s.tasks.getD i default).works[k]? = some w
  he : e = max ((cwt s p n).tk.getD i 0) ((cwt s p n).bn.getD w.b.toNat 0) + w.hi
  tk : ∀ j, (cwt s p (n + 1)).tk.getD j 0 = if j = i then e else (cwt s p n).tk.getD j 0
  bn : ∀ b, (cwt s p (n + 1)).bn.getD b 0 = if b = w.b.toNat then e else (cwt s p n).bn.getD b 0
  b0 : 0 ≤ w.b
  h1 : 1 ≤ w.hi
  le : e ≤ worst s p
  en : (stepC true s (cwt s p n) i 0).en = e

section
variable {s : Sh} {p : List Nat}

theorem cstep (hv : Val s) (hp : PlanLe s p) {n : Nat} (hn : n < p.length) : ∃ i k w e, CStep s p n i k w e := by
  obtain ⟨i, hpi⟩ : ∃ i, p[n]? = some i := ⟨_, List.getElem?_eq_getElem hn⟩
  have hc : CkOk s 0 (cwt s p n) (p.take n) := ck_ok hv hp (Int.le_refl 0) (fun _ => ⟨Int.le_refl 0, Int.le_refl 0⟩) n (by omega)
  obtain ⟨q1, q2, q3, -, -, -⟩ := step_ok (sd := true) hv hp (Int.le_refl 0) (more := fun _ => 0) (fun _ => ⟨Int.le_refl 0, Int.le_refl 0⟩) hpi hc (0 + n)
  obtain ⟨w1, w2, w3, w4, w5⟩ := work_ok hv q1 q3
  have hlen := hv.len
  have hb := hv.b1
  have hk : (cwt s p n).dn.getD i 0 = (p.take n).count i := hc.dc i (by omega)
  have hsucc : cwt s p (n + 1) = nextC (cwt s p n) i (stepC true s (cwt s p n) i 0) := ckAt_succ true s (fun _ => 0) p _ _ _ _ hpi
  have hst : stepC true s (cwt s p n) i 0 = ⟨(p.take n).count i, (workAt s i ((p.take n).count i)).b, max ((cwt s p n).tk.getD i 0) ((cwt s p n).bn.getD (workAt s i ((p.take n).count i)).b.toNat 0), max ((cwt s p n).tk.getD i 0) ((cwt s p n).bn.getD (workAt s i ((p.take n).count i)).b.toNat 0) + (workAt s i ((p.take n).count i)).hi⟩ := by
    simp only [stepC, hk, sel, Int.add_zero, if_true]
  refine ⟨i, (p.take n).count i, workAt s i ((p.take n).count i), _, hpi, q1, rfl, ?_, rfl, fun j => ?_, fun b => ?_, w1, by omega, ?_, by rw [hst]⟩
  · rw [workAt, List.getD_eq_getElem?_getD (l := (s.tasks.getD i default).works), List.getElem?_eq_getElem q3]; rfl
  · rw [hsucc, hst]
    simp only [nextC]
    exact getD_set _ _ _ _ _ (by rw [hc.tk]; omega)
  · rw [hsucc, hst]
    simp only [nextC]
    exact getD_set _ _ _ _ _ (by rw [hc.bn]; omega)
  · have hmem : (⟨i, (stepC false s (ckAt false s (fun _ => 0) (initC s) 0 p n) i 0).k, (stepC false s (ckAt false s (fun _ => 0) (initC s) 0 p n) i 0).b, (stepC false s (ckAt false s (fun _ => 0) (initC s) 0 p n) i 0).bg, (stepC true s (cwt s p n) i 0).bg, (stepC false s (ckAt false s (fun _ => 0) (initC s) 0 p n) i 0).en, (stepC true s (cwt s p n) i 0).en⟩ : Sl) ∈ runS s (fun _ => 0) p := by
      refine List.mem_map.2 ⟨n, List.mem_range.2 hn, ?_⟩
      have : p.getD n 0 = i := by rw [List.getD_eq_getElem?_getD, hpi]; rfl
      simp only [this]
      rfl
    have := lastS_ge hmem
    rw [hst] at this
    exact this

theorem CStep.cnt {n i k : Nat} {w : Wk} {e : Int} (h : CStep s p n i k w e) (j : Nat) : (p.take (n + 1)).count j = if j = i then k + 1 else (p.take n).count j := by
  rw [take_succ_count h.at_ j]
  split
  · rename_i e; rw [h.hk, e]
  · rfl

theorem init_tk {j : Nat} (hj : j < s.tasks.length) : (initC s).tk.getD j 0 = (s.tasks.getD j default).ready := by
  rw [initC, pad4, List.getD_eq_getElem?_getD, List.getElem?_append_left (by simpa using hj), List.getElem?_map, List.getElem?_eq_getElem hj, List.getD_eq_getElem?_getD, List.getElem?_eq_getElem hj]; rfl

/-- An order's clock is not ahead of its head. -/
theorem head_le (hv : Val s) (hp : PlanLe s p) {j : Nat} (hj : j < s.tasks.length) : ∀ n, n ≤ p.length → preH (s.tasks.getD j default) ((p.take n).count j) ≤ (cwt s p n).tk.getD j 0
  | 0, _ => by
    rw [List.take_zero, List.count_nil, preH_zero, cwt, ckAt, init_tk hj]; exact Int.le_refl _
  | n + 1, hn => by
    obtain ⟨i, k, w, e, h⟩ := cstep hv hp (n := n) (by omega)
    have ih := head_le hv hp hj n (by omega)
    rw [h.cnt j, h.tk j]
    split
    · rename_i hji
      subst hji
      rw [preH_succ h.hw, h.he, h.hk]
      omega
    · exact ih

/-- The hours done on a bench. -/
def doneL (s : Sh) (p : List Nat) (b n : Nat) : Int := sumI ((List.range s.tasks.length).map fun i => ldS true ((s.tasks.getD i default).works.take ((p.take n).count i)) b)

theorem sumI_upd {f g : Nat → Int} {i : Nat} {x : Int} : ∀ (N : Nat), i < N → (∀ j, j ≠ i → g j = f j) → g i = f i + x → sumI ((List.range N).map g) = sumI ((List.range N).map f) + x
  | 0, h, _, _ => by omega
  | N + 1, h, h1, h2 => by
    rw [List.range_succ, List.map_append, List.map_append, sumI_app, sumI_app]
    simp only [List.map_cons, List.map_nil, sumI]
    by_cases e : i = N
    · subst e
      have : (List.range i).map g = (List.range i).map f := List.map_congr_left fun j hj => h1 j (by have := List.mem_range.1 hj; omega)
      rw [this, h2]; omega
    · rw [sumI_upd N (by omega) h1 h2, h1 N (fun h => e h.symm)]; omega

theorem doneL_succ {n i k b : Nat} {w : Wk} {e : Int} (h : CStep s p n i k w e) : doneL s p b (n + 1) = doneL s p b n + if w.b = (b : Int) then w.hi else 0 := by
  refine sumI_upd _ h.hi (fun j hj => ?_) ?_
  · rw [h.cnt j, if_neg hj]
  · rw [h.cnt i, if_pos rfl, ← h.hk, List.take_add_one, h.hw]
    exact ldS_snoc _ _ _ _

theorem doneL_zero {b : Nat} : doneL s p b 0 = 0 := by
  have : ∀ l : List Nat, sumI (l.map fun i => ldS true ((s.tasks.getD i default).works.take ((p.take 0).count i)) b) = 0 := fun l => by
    induction l with
    | nil => rfl
    | cons x l ih => rw [List.map_cons, sumI, ih]; simp [ldS, sumI]
  exact this _

theorem doneL_nn (hv : Val s) (hp : PlanLe s p) (b : Nat) : ∀ n, n ≤ p.length → 0 ≤ doneL s p b n
  | 0, _ => by rw [doneL_zero]; exact Int.le_refl _
  | n + 1, hn => by
    obtain ⟨i, k, w, e, h⟩ := cstep hv hp (n := n) (by omega)
    have := doneL_nn hv hp b n (by omega)
    have := h.h1
    rw [doneL_succ h]; split <;> omega

/-- A bench's clock. -/
theorem bench_le (hv : Val s) (hp : PlanLe s p) {b : Nat} {hm : Int} (hh : ∀ i k w, i < s.tasks.length → (s.tasks.getD i default).works[k]? = some w → w.b = (b : Int) → hm ≤ preH (s.tasks.getD i default) k) :
    ∀ n, n ≤ p.length → doneL s p b n = 0 ∨ hm + doneL s p b n ≤ (cwt s p n).bn.getD b 0
  | 0, _ => .inl doneL_zero
  | n + 1, hn => by
    obtain ⟨i, k, w, e, h⟩ := cstep hv hp (n := n) (by omega)
    have ih := bench_le hv hp hh n (by omega)
    have hd := head_le hv hp h.hi n (by omega)
    rw [← h.hk] at hd
    have b0 := h.b0; have he := h.he; have h1 := h.h1
    rw [doneL_succ h, h.bn b]
    by_cases hb : w.b = (b : Int)
    · have h2 := hh i k w h.hi h.hw hb
      have hbt : w.b.toNat = b := by omega
      rw [if_pos hb, if_pos hbt.symm]
      rw [hbt] at he
      right; omega
    · rw [if_neg hb, if_neg (by omega), Int.add_zero]; exact ih

/-- Some work done on a bench: what its order did since. -/
theorem tail_le (hv : Val s) (hp : PlanLe s p) {b : Nat} : ∀ n, n ≤ p.length → doneL s p b n = 0 ∨ ∃ i k w, i < s.tasks.length ∧ (s.tasks.getD i default).works[k]? = some w ∧ w.b = (b : Int) ∧ k < (p.take n).count i ∧ (cwt s p n).bn.getD b 0 + preH (s.tasks.getD i default) ((p.take n).count i) ≤ (cwt s p n).tk.getD i 0 + preH (s.tasks.getD i default) (k + 1)
  | 0, _ => .inl doneL_zero
  | n + 1, hn => by
    obtain ⟨i, k, w, e, h⟩ := cstep hv hp (n := n) (by omega)
    have ih := tail_le hv hp (b := b) n (by omega)
    have b0 := h.b0; have he := h.he; have h1 := h.h1
    rw [doneL_succ h, h.bn b]
    by_cases hb : w.b = (b : Int)
    · right
      refine ⟨i, k, w, h.hi, h.hw, hb, ?_, ?_⟩
      · rw [h.cnt i, if_pos rfl]; omega
      · rw [h.cnt i, if_pos rfl, h.tk i, if_pos rfl, if_pos (by omega)]; omega
    · rw [if_neg hb, if_neg (by omega), Int.add_zero]
      rcases ih with ih | ⟨i', k', w', g1, g2, g3, g4, g5⟩
      · exact .inl ih
      · right
        refine ⟨i', k', w', g1, g2, g3, ?_, ?_⟩
        · rw [h.cnt i']; split
          · rename_i e; subst e; rw [← h.hk] at g4; omega
          · exact g4
        · rw [h.cnt i', h.tk i']
          split
          · rename_i e; subst e
            rw [← h.hk] at g5
            rw [preH_succ h.hw, he]; omega
          · exact g5

/-- An order that began ends not behind the plan's end. -/
theorem tk_le (hv : Val s) (hp : PlanLe s p) {j : Nat} : ∀ n, n ≤ p.length → 0 < (p.take n).count j → (cwt s p n).tk.getD j 0 ≤ worst s p
  | 0, _, h => by simp at h
  | n + 1, hn, h0 => by
    obtain ⟨i, k, w, e, h⟩ := cstep hv hp (n := n) (by omega)
    rw [h.cnt j] at h0
    rw [h.tk j]
    split
    · exact h.le
    · rename_i hj
      rw [if_neg hj] at h0
      exact tk_le hv hp n (by omega) h0
end
end Go.Proofs.YtmloogdalecilaaDoor

/-! P15 -/
namespace Go.Proofs.YtmloogdalecilaaDoor
open Go Go.Abs Go.Proofs

theorem frS_le (b : Int) : ∀ (l : List (Int × Int × Wk)) (st : Int × Int × Int), (∀ q ∈ l, 0 ≤ q.1 ∧ 0 ≤ q.2.1) →
    ((0 ≤ st.1 → (l.foldl (frS b) st).1 ≤ st.1) ∧ (0 ≤ st.2.1 → (l.foldl (frS b) st).2.1 ≤ st.2.1)) ∧ ∀ q ∈ l, q.2.2.b = b → (l.foldl (frS b) st).1 ≤ q.1 ∧ (l.foldl (frS b) st).2.1 ≤ q.2.1
  | [], st, _ => ⟨⟨fun _ => Int.le_refl _, fun _ => Int.le_refl _⟩, fun q hq => by simp at hq⟩
  | x :: l, st, h => by
    obtain ⟨⟨h1, h2⟩, h3⟩ := frS_le b l (frS b st x) (fun q hq => h q (List.mem_cons_of_mem _ hq))
    have hx := h x List.mem_cons_self
    rw [List.foldl_cons]
    by_cases hb : x.2.2.b = b
    · have e : frS b st x = (mnm st.1 x.1, mnm st.2.1 x.2.1, st.2.2 + x.2.2.hi) := by rw [frS, if_pos hb]
      rw [e] at h1 h2 h3 ⊢
      simp only at h1 h2
      have m1 : mnm st.1 x.1 ≤ x.1 ∧ 0 ≤ mnm st.1 x.1 ∧ (0 ≤ st.1 → mnm st.1 x.1 ≤ st.1) := by unfold mnm; split <;> omega
      have m2 : mnm st.2.1 x.2.1 ≤ x.2.1 ∧ 0 ≤ mnm st.2.1 x.2.1 ∧ (0 ≤ st.2.1 → mnm st.2.1 x.2.1 ≤ st.2.1) := by unfold mnm; split <;> omega
      have h1' := h1 m1.2.1
      have h2' := h2 m2.2.1
      refine ⟨⟨fun h0 => ?_, fun h0 => ?_⟩, fun q hq hqb => ?_⟩
      · have := m1.2.2 h0; omega
      · have := m2.2.2 h0; omega
      · rcases List.mem_cons.1 hq with rfl | hq
        · omega
        · exact h3 q hq hqb
    · have e : frS b st x = st := by rw [frS, if_neg hb]
      rw [e] at h1 h2 h3 ⊢
      refine ⟨⟨h1, h2⟩, fun q hq hqb => ?_⟩
      rcases List.mem_cons.1 hq with rfl | hq
      · exact absurd hqb hb
      · exact h3 q hq hqb

section
variable {s : Sh} {p : List Nat}

theorem bnQ_at {t : Tk} {k : Nat} {w : Wk} (h : t.works[k]? = some w) : (preH t k, sufH t (k + 1), w) ∈ bnQ t := by
  have hk := (List.getElem?_eq_some_iff.1 h).1
  refine List.mem_map.2 ⟨k, List.mem_range.2 hk, ?_⟩
  rw [List.getD_eq_getElem?_getD, h]; rfl

theorem preQ_all : preQ s s.tasks.length 0 = s.tasks.flatMap bnQ := by simp [preQ]

/-- Head and rest of a work of a bench. -/
theorem frAt_le (hv : Val s) {b i k : Nat} {w : Wk} (hi : i < s.tasks.length) (hw : (s.tasks.getD i default).works[k]? = some w) (hb : w.b = (b : Int)) : (frAt s b s.tasks.length 0).1 ≤ preH (s.tasks.getD i default) k ∧ (frAt s b s.tasks.length 0).2.1 ≤ sufH (s.tasks.getD i default) (k + 1) := by
  refine (frS_le (b : Int) (preQ s s.tasks.length 0) (-1, -1, 0) (fun q hq => ?_)).2 _ (?_ : (preH (s.tasks.getD i default) k, sufH (s.tasks.getD i default) (k + 1), w) ∈ _) hb
  · rw [preQ_all, List.mem_flatMap] at hq
    obtain ⟨t, ht, hq⟩ := hq
    have := bnQ_mem hv ht q hq; omega
  · rw [preQ_all]
    exact List.mem_flatMap.2 ⟨_, getD_mem hi, bnQ_at hw⟩

theorem ldS_app (sd : Bool) (a c : List Wk) (b : Nat) : ldS sd (a ++ c) b = ldS sd a b + ldS sd c b := by rw [ldS, List.map_append, sumI_app]; rfl
theorem ldS_flat (sd : Bool) (b : Nat) : ∀ l : List Tk, ldS sd (l.flatMap (·.works)) b = sumI (l.map fun t => ldS sd t.works b)
  | [] => rfl
  | t :: l => by rw [List.flatMap_cons, ldS_app, ldS_flat sd b l]; rfl

theorem range_getD {β : Type} (f : Tk → β) (l : List Tk) : ((List.range l.length).map fun i => f (l.getD i default)) = l.map f := by
  refine List.ext_getElem? fun j => ?_
  by_cases hj : j < l.length
  · rw [List.getElem?_map, List.getElem?_range hj, List.getElem?_map, List.getElem?_eq_getElem hj]
    simp [List.getD_eq_getElem?_getD, hj]
  · rw [List.getElem?_eq_none (by simp; omega), List.getElem?_eq_none (by simp; omega)]

theorem doneL_all (hp : PlanOk s p) (b : Nat) : doneL s p b p.length = ldS true (preW s s.tasks.length 0) b := by
  have e : (List.range s.tasks.length).map (fun i => ldS true ((s.tasks.getD i default).works.take ((p.take p.length).count i)) b) = (List.range s.tasks.length).map (fun i => ldS true (s.tasks.getD i default).works b) :=
    List.map_congr_left fun i hi => by rw [List.take_length, hp.cnt i (List.mem_range.1 hi), List.take_length]
  rw [doneL, e, range_getD (fun t => ldS true t.works b), preW]
  simp only [List.take_length, List.take_zero, List.append_nil]
  exact (ldS_flat true b s.tasks).symm

theorem foldl_le {α : Type} {f : Int → α → Int} {M : Int} : ∀ (l : List α) (a : Int), a ≤ M → (∀ x ∈ l, ∀ a, a ≤ M → f a x ≤ M) → l.foldl f a ≤ M
  | [], _, h, _ => h
  | x :: l, a, h, hf => foldl_le l (f a x) (hf x List.mem_cons_self a h) fun y hy => hf y (List.mem_cons_of_mem _ hy)

theorem worst_nn (s : Sh) (p : List Nat) : 0 ≤ worst s p := lastS_nn _

/-- No plan ends before the bound. -/
theorem bound_le (hv : Val s) (hp : PlanOk s p) : bdAt s s.benches.toNat ≤ worst s p := by
  have hl := hp.le
  have hn := worst_nn s p
  refine foldl_le _ _ (foldl_le _ _ hn fun t ht a ha => ?_) fun b _ a ha => ?_
  · rw [List.take_length] at ht
    obtain ⟨i, hi, rfl⟩ := List.getElem_of_mem ht
    have hD : s.tasks.getD i default = s.tasks[i] := getD_of (List.getElem?_eq_getElem hi)
    have h1 := head_le hv hl hi p.length (Nat.le_refl _)
    have hne := hv.ne _ ht
    have hc : (p.take p.length).count i = s.tasks[i].works.length := by rw [List.take_length, hp.cnt i hi, hD]
    have h2 := tk_le hv hl (j := i) p.length (Nat.le_refl _) (by rw [hc]; exact List.length_pos_iff.2 hne)
    rw [hc, hD] at h1
    omega
  · unfold bdS
    split
    · rename_i h0
      have hh : ∀ i k w, i < s.tasks.length → (s.tasks.getD i default).works[k]? = some w → w.b = (b : Int) → (frAt s b s.tasks.length 0).1 ≤ preH (s.tasks.getD i default) k := fun i k w h1 h2 h3 => (frAt_le hv h1 h2 h3).1
      have hd := doneL_all hp b
      rw [frAt_load] at h0
      rw [frAt_load]
      have h1 := bench_le hv hl hh p.length (Nat.le_refl _)
      have h2 := tail_le hv hl (b := b) p.length (Nat.le_refl _)
      rw [hd] at h1 h2
      rcases h2 with h2 | ⟨i, k, w, g1, g2, g3, g4, g5⟩
      · omega
      have h3 := tk_le hv hl (j := i) p.length (Nat.le_refl _) (by omega)
      have h4 := (frAt_le hv g1 g2 g3).2
      have hc : (p.take p.length).count i = (s.tasks.getD i default).works.length := by rw [List.take_length, hp.cnt i g1]
      rw [hc] at g5
      have h5 := preH_suf (s.tasks.getD i default) (k + 1)
      omega
    · exact ha
end
end Go.Proofs.YtmloogdalecilaaDoor

/-! P16 -/
namespace Go.Proofs.YtmloogdalecilaaDoor
open Go Go.Abs Go.Proofs

theorem leastS_val {num : List Nat → Int} {l : List (List Nat)} (h : l ≠ []) : (leastS num l).2.2 = num (leastS num l).2.1 ∧ ∀ x ∈ l, (leastS num l).2.2 ≤ num x := by
  refine revInd (P := fun l => l ≠ [] → (leastS num l).2.2 = num (leastS num l).2.1 ∧ ∀ x ∈ l, (leastS num l).2.2 ≤ num x) (fun h => absurd rfl h) (fun l x ih _ => ?_) l h
  rw [leastS_snoc]
  by_cases hl : l = []
  · subst hl
    rw [if_pos (.inl rfl)]
    exact ⟨rfl, fun y hy => by simp at hy; subst hy; exact Int.le_refl _⟩
  · obtain ⟨h1, h2⟩ := ih hl
    have h3 := leastS_ne (num := num) hl
    split
    · rename_i hc
      rcases hc with hc | hc
      · rw [h3] at hc; cases hc
      refine ⟨rfl, fun y hy => ?_⟩
      rcases List.mem_append.1 hy with hy | hy
      · have := h2 y hy; simp only; omega
      · simp at hy; subst hy; exact Int.le_refl _
    · rename_i hc
      refine ⟨h1, fun y hy => ?_⟩
      rcases List.mem_append.1 hy with hy | hy
      · exact h2 y hy
      · simp at hy; subst hy
        exact Int.not_lt.1 fun hlt => hc (.inr hlt)

theorem leastS_in {num : List Nat → Int} {l : List (List Nat)} (h : l ≠ []) : (leastS num l).2.1 ∈ l := by
  refine revInd (P := fun l => l ≠ [] → (leastS num l).2.1 ∈ l) (fun h => absurd rfl h) (fun l x ih _ => ?_) l h
  rw [leastS_snoc]
  split
  · simp
  · rename_i hc
    by_cases hl : l = []
    · subst hl; exact absurd (.inl rfl) hc
    · exact List.mem_append_left _ (ih hl)

section
variable {s : Sh} {p : List Nat}

theorem best_le (hp : p ∈ plansS s) : (bestS s).2.2 ≤ worst s p := (leastS_val (plansS_ne s)).2 p hp
theorem best_is (s : Sh) : ∃ p, p ∈ plansS s ∧ (bestS s).2.2 = worst s p := ⟨_, leastS_in (plansS_ne s), (leastS_val (plansS_ne s)).1⟩

/-- Best ends not before the bound. -/
theorem bound_best (hv : Val s) : bdAt s s.benches.toNat ≤ (bestS s).2.2 := by
  obtain ⟨p, h1, h2⟩ := best_is s
  rw [h2]; exact bound_le hv (plansS_ok hv h1)

theorem worst_le (hv : Val s) (hp : PlanLe s p) {M : Int} (hM : 0 ≤ M) (h : ∀ n i k w e, CStep s p n i k w e → e ≤ M) : worst s p ≤ M := by
  have : ∀ l : List Sl, (∀ x ∈ l, x.eh ≤ M) → (lastS l).2 ≤ M := fun l hl => by
    rw [lastS_eh]
    refine foldl_le _ _ hM fun x hx a ha => ?_
    obtain ⟨y, hy, rfl⟩ := List.mem_map.1 hx
    have := hl y hy; omega
  refine this _ fun x hx => ?_
  obtain ⟨n, hn, rfl⟩ := List.mem_map.1 hx
  obtain ⟨i, k, w, e, hs⟩ := cstep hv hp (List.mem_range.1 hn)
  have hD : p.getD n 0 = i := by rw [List.getD_eq_getElem?_getD, hs.at_]; rfl
  have h1 := h n i k w e hs
  rw [← hs.en] at h1
  simp only [hD]
  exact h1

theorem CStep.lt {n i k : Nat} {w : Wk} {e : Int} (h : CStep s p n i k w e) : n < p.length := (List.getElem?_eq_some_iff.1 h.at_).1

theorem bn_init {b : Nat} : (initC s).bn.getD b 0 = 0 := by
  match b with
  | 0 => rfl
  | 1 => rfl
  | 2 => rfl
  | _ + 3 => rfl

/-! One order alone. -/
theorem lone_clock (hv : Val s) (hp : PlanLe s p) (h1 : s.tasks.length = 1) : ∀ n, n ≤ p.length → (cwt s p n).tk.getD 0 0 = preH (s.tasks.getD 0 default) ((p.take n).count 0) ∧ ∀ b, (cwt s p n).bn.getD b 0 ≤ (cwt s p n).tk.getD 0 0
  | 0, _ => by
    have hr := hv.rd _ (getD_mem (l := s.tasks) (i := 0) (d := default) (by omega))
    have e : (cwt s p 0).tk.getD 0 0 = (s.tasks.getD 0 default).ready := init_tk (by omega)
    refine ⟨by rw [e, List.take_zero, List.count_nil, preH_zero], fun b => ?_⟩
    rw [e]
    have : (cwt s p 0).bn.getD b 0 = 0 := bn_init
    omega
  | n + 1, hn => by
    obtain ⟨i, k, w, e, h⟩ := cstep hv hp (n := n) (by omega)
    obtain ⟨g1, g2⟩ := lone_clock hv hp h1 n (by omega)
    have hi : i = 0 := by have := h.hi; omega
    subst hi
    have hb := g2 w.b.toNat
    have he := h.he; have hh := h.h1
    have e1 : e = preH (s.tasks.getD 0 default) (k + 1) := by rw [preH_succ h.hw, he, h.hk, ← g1]; omega
    refine ⟨by rw [h.tk 0, if_pos rfl, h.cnt 0, if_pos rfl, e1], fun b => ?_⟩
    rw [h.bn b, h.tk 0, if_pos rfl]
    split
    · exact Int.le_refl _
    · have := g2 b; omega

theorem preH_mono {t : Tk} (hw : ∀ w ∈ t.works, 1 ≤ w.hi) (k : Nat) : preH t k ≤ preH t t.works.length := by
  have h1 := preH_suf t k
  have : 0 ≤ sufH t k := by
    have := (sumI_btw (l := (t.works.drop k).map (·.hi)) (lo := 0) (hi := max 0 (sumI (t.works.map (·.hi)))) (Int.le_refl 0) (fun x hx => by
      obtain ⟨w, hw', rfl⟩ := List.mem_map.1 hx
      have h2 := hw w (List.mem_of_mem_drop hw')
      have h3 : ∀ (l : List Wk), (∀ w ∈ l, 1 ≤ w.hi) → ∀ w ∈ l, w.hi ≤ sumI (l.map (·.hi)) := fun l => by
        induction l with
        | nil => intro _ w hw; simp at hw
        | cons y l ih =>
          intro hl w hw
          have h4 := ih (fun w hw => hl w (List.mem_cons_of_mem _ hw))
          have h5 := hl y List.mem_cons_self
          have h6 : 0 ≤ sumI (l.map (·.hi)) := by
            cases l with
            | nil => simp [sumI]
            | cons z l => have := h4 z List.mem_cons_self; have := hl z (List.mem_cons_of_mem _ List.mem_cons_self); omega
          rw [List.map_cons, sumI]
          rcases List.mem_cons.1 hw with rfl | hw
          · omega
          · have := h4 w hw; omega
      have := h3 _ hw w (List.mem_of_mem_drop hw')
      omega)).1
    rw [sufH]; omega
  omega

theorem best_lone (hv : Val s) (h1 : s.tasks.length = 1) : (bestS s).2.2 ≤ bdAt s s.benches.toNat := by
  obtain ⟨p, g1, g2⟩ := best_is s
  have hp := (plansS_ok hv g1).le
  obtain ⟨t, ht⟩ : ∃ t, s.tasks = [t] := by
    match h : s.tasks, h1 with
    | [t], _ => exact ⟨t, rfl⟩
  have hD : s.tasks.getD 0 default = t := by rw [ht]; rfl
  have hw : ∀ w ∈ t.works, 1 ≤ w.hi := fun w hw => by have := hv.wk t (by rw [ht]; simp) w hw; omega
  have hr := hv.rd t (by rw [ht]; simp)
  have h2 : preH t t.works.length ≤ bdAt s s.benches.toNat ∧ 0 ≤ bdAt s s.benches.toNat := by
    have h3 : ∀ (l : List Nat) (a : Int), a ≤ l.foldl (bdS s) a := fun l => by
      induction l with
      | nil => exact fun a => Int.le_refl _
      | cons x l ih =>
        intro a
        refine Int.le_trans ?_ (ih _)
        unfold bdS; split <;> omega
    have h4 := h3 (List.range s.benches.toNat) (bd0 s s.tasks.length)
    have h5 : bd0 s s.tasks.length = max 0 (preH t t.works.length) := by rw [bd0, List.take_length, ht]; rfl
    unfold bdAt
    omega
  rw [g2]
  refine worst_le hv hp h2.2 fun n i k w e h => ?_
  have hi : i = 0 := by have := h.hi; omega
  subst hi
  obtain ⟨c1, c2⟩ := lone_clock hv hp h1 n (by have := h.lt; omega)
  have hb := c2 w.b.toNat
  have he := h.he
  have e1 : e = preH t (k + 1) := by rw [← hD, preH_succ h.hw, he, h.hk, ← c1]; omega
  have := preH_mono hw (k + 1)
  omega

theorem best_none (hv : Val s) (h0 : s.tasks = []) : (bestS s).2.2 ≤ bdAt s s.benches.toNat := by
  obtain ⟨p, g1, g2⟩ := best_is s
  have hp := (plansS_ok hv g1).le
  have h3 : ∀ (l : List Nat) (a : Int), a ≤ l.foldl (bdS s) a := fun l => by
    induction l with
    | nil => exact fun a => Int.le_refl _
    | cons x l ih =>
      intro a
      refine Int.le_trans ?_ (ih _)
      unfold bdS; split <;> omega
  have h4 := h3 (List.range s.benches.toNat) (bd0 s s.tasks.length)
  have h5 : bd0 s s.tasks.length = 0 := by rw [bd0, h0]; rfl
  rw [g2]
  refine worst_le hv hp (by unfold bdAt; omega) fun n i k w e h => ?_
  have := h.hi
  rw [h0] at this
  simp at this

/-! One bench, and all orders ready at 2. -/
theorem one_clock (hv : Val s) (hp : PlanLe s p) (hr : ∀ t ∈ s.tasks, t.ready = 2) (hb : ∀ t ∈ s.tasks, ∀ w ∈ t.works, w.b = 0) : ∀ n, n ≤ p.length → (∀ j, j < s.tasks.length → (cwt s p n).tk.getD j 0 ≤ 2 + doneL s p 0 n) ∧ (cwt s p n).bn.getD 0 0 ≤ 2 + doneL s p 0 n
  | 0, _ => by
    rw [doneL_zero]
    refine ⟨fun j hj => ?_, ?_⟩
    · rw [cwt, ckAt, init_tk hj, hr _ (getD_mem hj)]; decide
    · have : (cwt s p 0).bn.getD 0 0 = 0 := bn_init
      omega
  | n + 1, hn => by
    obtain ⟨i, k, w, e, h⟩ := cstep hv hp (n := n) (by omega)
    obtain ⟨g1, g2⟩ := one_clock hv hp hr hb n (by omega)
    have hw0 : w.b = 0 := hb _ (getD_mem h.hi) w (List.mem_of_getElem? h.hw)
    have h1 := g1 i h.hi
    have he := h.he; have hh := h.h1
    rw [hw0] at he
    have hz : (0 : Int).toNat = 0 := rfl
    rw [hz] at he
    rw [doneL_succ h, if_pos (by rw [hw0]; rfl)]
    refine ⟨fun j hj => ?_, ?_⟩
    · rw [h.tk j]; have := g1 j hj; split <;> omega
    · rw [h.bn 0, hw0, hz, if_pos rfl]; omega

theorem frS_ge (b lo : Int) : ∀ (l : List (Int × Int × Wk)) (st : Int × Int × Int), (∀ q ∈ l, lo ≤ q.1 ∧ 0 ≤ q.2.1) → (st.1 < 0 ∧ st.2.1 < 0 ∧ st.2.2 = 0) ∨ (lo ≤ st.1 ∧ 0 ≤ st.2.1) →
    ((l.foldl (frS b) st).1 < 0 ∧ (l.foldl (frS b) st).2.1 < 0 ∧ (l.foldl (frS b) st).2.2 = 0) ∨ (lo ≤ (l.foldl (frS b) st).1 ∧ 0 ≤ (l.foldl (frS b) st).2.1)
  | [], st, _, h => h
  | x :: l, st, hq, h => by
    rw [List.foldl_cons]
    have hx := hq x List.mem_cons_self
    refine frS_ge b lo l _ (fun q h => hq q (List.mem_cons_of_mem _ h)) ?_
    unfold frS mnm
    split
    · right
      constructor
      · simp only; split <;> omega
      · simp only; split <;> omega
    · exact h

theorem best_one (hv : Val s) (h1 : s.benches = 1) (hr : ∀ t ∈ s.tasks, t.ready = 2) (hb : ∀ t ∈ s.tasks, ∀ w ∈ t.works, w.b = 0) : (bestS s).2.2 ≤ bdAt s s.benches.toNat := by
  by_cases h0 : s.tasks = []
  · exact best_none hv h0
  obtain ⟨p, g1, g2⟩ := best_is s
  have hok := plansS_ok hv g1
  have hp := hok.le
  have hd := doneL_all hok 0
  have hpos : 0 < doneL s p 0 p.length := by
    have hN : 0 < s.tasks.length := List.length_pos_iff.2 h0
    have hne := hv.ne _ (getD_mem hN (d := default))
    have hc := hok.cnt 0 hN
    have h2 : 0 < p.count 0 := by rw [hc]; exact List.length_pos_iff.2 hne
    have h3 : 0 < p.length := List.length_pos_iff.2 fun h => by rw [h] at h2; simp at h2
    obtain ⟨m, hm⟩ : ∃ m, p.length = m + 1 := ⟨p.length - 1, by omega⟩
    obtain ⟨i, k, w, e, h⟩ := cstep hv hp (n := m) (by omega)
    have hw0 : w.b = 0 := hb _ (getD_mem h.hi) w (List.mem_of_getElem? h.hw)
    have := doneL_nn hv hp 0 m (by omega)
    have := h.h1
    rw [hm, doneL_succ h, if_pos (by rw [hw0]; rfl)]; omega
  have hbd : 2 + doneL s p 0 p.length ≤ bdAt s s.benches.toNat := by
    have e : bdAt s s.benches.toNat = bdS s (bd0 s s.tasks.length) 0 := by rw [h1]; exact bdAt_succ 0
    have hl := frAt_load (s := s) (b := 0) (i := s.tasks.length) (k := 0)
    have hg := frS_ge 0 2 (preQ s s.tasks.length 0) (-1, -1, 0) (fun q hq => by
      rw [preQ_all, List.mem_flatMap] at hq
      obtain ⟨t, ht, hq⟩ := hq
      have h5 := bnQ_mem hv ht q hq
      obtain ⟨k, -, rfl⟩ := List.mem_map.1 hq
      have h6 : 0 ≤ sumI ((t.works.take k).map (·.hi)) := by
        have := (sumI_btw (l := (t.works.take k).map (·.hi)) (lo := 0) (hi := 20) (Int.le_refl 0) (fun x hx => by
          obtain ⟨w, hw, rfl⟩ := List.mem_map.1 hx
          have := hv.wk t ht w (List.mem_of_mem_take hw); omega)).1
        omega
      have h7 := hr t ht
      exact ⟨by simp only [preH]; omega, h5.2.2.1⟩) (.inl ⟨by decide, by decide, rfl⟩)
    change ((frAt s 0 s.tasks.length 0).1 < 0 ∧ (frAt s 0 s.tasks.length 0).2.1 < 0 ∧ (frAt s 0 s.tasks.length 0).2.2 = 0) ∨ _ at hg
    have hload : (frAt s 0 s.tasks.length 0).2.2 = doneL s p 0 p.length := by rw [hd]; exact hl
    rcases hg with ⟨-, -, hg⟩ | ⟨a1, a2⟩
    · omega
    change 2 ≤ (frAt s 0 s.tasks.length 0).1 at a1
    change 0 ≤ (frAt s 0 s.tasks.length 0).2.1 at a2
    rw [e]
    unfold bdS
    rw [if_pos (by omega)]
    omega
  rw [g2]
  refine worst_le hv hp (by omega) fun n i k w e h => ?_
  obtain ⟨c1, c2⟩ := one_clock hv hp hr hb (n + 1) h.lt
  have h2 := c1 i h.hi
  rw [h.tk i, if_pos rfl] at h2
  -- what is done never falls
  have hmono : ∀ d m, m + d ≤ p.length → doneL s p 0 m ≤ doneL s p 0 (m + d) := fun d => by
    induction d with
    | zero => exact fun m _ => Int.le_refl _
    | succ d ih =>
      intro m hm
      obtain ⟨i', k', w', e', h'⟩ := cstep hv hp (n := m + d) (by omega)
      have := ih m (by omega)
      have := h'.h1
      rw [show m + (d + 1) = m + d + 1 by omega, doneL_succ h']; split <;> omega
  have h3 := hmono (p.length - (n + 1)) (n + 1) (by have := h.lt; omega)
  rw [show n + 1 + (p.length - (n + 1)) = p.length by have := h.lt; omega] at h3
  omega
end
end Go.Proofs.YtmloogdalecilaaDoor

/-! P17 -/
namespace Go.Proofs.YtmloogdalecilaaDoor
open Go Go.Abs Go.Proofs

def zeroW (w : Wk) : Wk := ⟨0, w.lo, w.hi⟩
section
variable (r : Int → Int) (f : Wk → Wk)
/-- An order of which so many works are written. -/
def partTk (t : Tk) (k : Nat) : Tk := ⟨r t.ready, t.due, (t.works.take k).map f ++ t.works.drop k⟩
def fullTk (t : Tk) : Tk := ⟨r t.ready, t.due, t.works.map f⟩
def preAt (ts : List Tk) (i : Nat) : List Tk := (ts.take i).map (fullTk r f) ++ ts.drop i
def partAt (ts : List Tk) (i k : Nat) : List Tk := (preAt r f ts i).set i (partTk r f (ts.getD i tkZ) k)
end

section
variable {r : Int → Int} {f : Wk → Wk}
theorem partTk_all {t : Tk} {k : Nat} (h : k = t.works.length) : partTk r f t k = fullTk r f t := by subst h; simp [partTk, fullTk]
theorem partTk_len {t : Tk} {k : Nat} (h : k ≤ t.works.length) : (partTk r f t k).works.length = t.works.length := by simp [partTk]; omega
theorem partTk_succ {t : Tk} {k : Nat} {w : Wk} (h : t.works[k]? = some w) : (partTk r f t (k + 1)).works = (partTk r f t k).works.set k (f w) := by
  have hk := (List.getElem?_eq_some_iff.1 h).1
  have hw := (List.getElem?_eq_some_iff.1 h).2
  simp only [partTk]
  rw [List.set_append_right _ _ (by simp; omega), List.take_add_one, h, Option.toList_some, List.map_append, List.append_assoc]
  congr 1
  rw [show k - (List.map f (t.works.take k)).length = 0 by simp; omega]
  rw [List.drop_eq_getElem_cons hk, hw]; rfl
theorem partTk_at {t : Tk} {k : Nat} (h : k < t.works.length) : (partTk r f t k).works[k]? = t.works[k]? := by
  simp only [partTk]
  rw [List.getElem?_append_right (by simp; omega), List.getElem?_drop]
  congr 1
  simp; omega

theorem preAt_len (ts i) : (preAt r f ts i).length = ts.length := by simp [preAt]; omega
theorem partAt_len (ts i k) : (partAt r f ts i k).length = ts.length := by rw [partAt, List.length_set, preAt_len]
theorem preAt_zero (ts) : preAt r f ts 0 = ts := by simp [preAt]
theorem preAt_all {ts : List Tk} {N : Nat} (h : N = ts.length) : preAt r f ts N = ts.map (fullTk r f) := by subst h; simp [preAt]
theorem preAt_ge {ts : List Tk} {i j : Nat} (h : i ≤ j) : (preAt r f ts i).getD j tkZ = ts.getD j tkZ := by
  rw [List.getD_eq_getElem?_getD, List.getD_eq_getElem?_getD]
  by_cases hj : j < ts.length
  · rw [preAt, List.getElem?_append_right (by simp; omega), List.getElem?_drop]
    congr 2
    simp; omega
  · rw [List.getElem?_eq_none (by rw [preAt_len]; omega), List.getElem?_eq_none (by omega)]
theorem partAt_at {ts : List Tk} {i k : Nat} (h : i < ts.length) : (partAt r f ts i k).getD i tkZ = partTk r f (ts.getD i tkZ) k := by
  rw [partAt, List.getD_eq_getElem?_getD, List.getElem?_set_self (by rw [preAt_len]; exact h)]; rfl
theorem partAt_ne {ts : List Tk} {i k j : Nat} (h : j ≠ i) : (partAt r f ts i k).getD j tkZ = (preAt r f ts i).getD j tkZ := by
  rw [partAt, List.getD_eq_getElem?_getD, List.getElem?_set_ne (fun e => h e.symm), List.getD_eq_getElem?_getD]
theorem partAt_next {ts : List Tk} {i k : Nat} {t : Tk} (ht : ts[i]? = some t) (hk : k = t.works.length) : partAt r f ts i k = preAt r f ts (i + 1) := by
  have hi := (List.getElem?_eq_some_iff.1 ht).1
  have hti := (List.getElem?_eq_some_iff.1 ht).2
  rw [partAt, tkD_get ht, partTk_all hk]
  simp only [preAt]
  rw [List.set_append_right _ _ (by simp; omega), List.take_add_one, ht, Option.toList_some, List.map_append, List.append_assoc]
  congr 1
  rw [show i - (List.map (fullTk r f) (ts.take i)).length = 0 by simp; omega, List.drop_eq_getElem_cons hi, hti]; rfl
theorem nWorks_full (l : List Tk) : nWorks (l.map (fullTk r f)) = nWorks l := by
  simp only [nWorks, List.map_map]
  congr 1
  refine List.map_congr_left fun t _ => ?_
  simp [fullTk]
end

def nof : Nat → Bool := fun _ => false

section
variable {r : Int → Int} {f : Wk → Wk} {ts : List Tk} {k c : Nat} {t : Tk}
theorem elT_part (ht : ts[k]? = some t) (x : D) : elT (partAt r f ts k c) k x = .agg [I (r t.ready), I t.due, x] := by
  unfold elT
  rw [partAt_at (List.getElem?_eq_some_iff.1 ht).1, tkD_get ht]; rfl
theorem row_part (ht : ts[k]? = some t) : ((partAt r f ts k c).getD k tkZ).works = (partTk r f t c).works := by
  rw [partAt_at (List.getElem?_eq_some_iff.1 ht).1, tkD_get ht]
theorem part_upd : ∀ j, j ≠ k → (partAt r f ts k (c + 1)).getD j tkZ = (partAt r f ts k c).getD j tkZ := fun j hj => by rw [partAt_ne hj, partAt_ne hj]

/-- An element ahead of its turn. -/
theorem own_pre (ht : ts[k]? = some t) {xs : List Value} (hl : xs.length = ts.length) : (ownE (preAt r f ts k) xs nof)[k]? = some (.agg [I t.ready, I t.due, .v (xs.getD k nilS)]) := by
  have hk := (List.getElem?_eq_some_iff.1 ht).1
  rw [ownE_get (by omega), elT, preAt_ge (Nat.le_refl _), tkD_get ht]; rfl
theorem own_pre0 (ht : ts[k]? = some t) {xs : List Value} (hl : xs.length = ts.length) :
    (ownE (preAt r f ts k) xs nof).set k (.agg [I (r t.ready), I t.due, .v (xs.getD k nilS)]) = ownE (partAt r f ts k 0) xs nof ∧ ownN (preAt r f ts k) xs nof = ownN (partAt r f ts k 0) xs nof := by
  have hk := (List.getElem?_eq_some_iff.1 ht).1
  obtain ⟨u1, u2⟩ := own_upd (ts := preAt r f ts k) (ts' := partAt r f ts k 0) (t := k) (fun j hj => partAt_ne hj)
  refine ⟨shopE_upd rfl u1 (fun _ _ => rfl) u2 (fun _ _ => rfl) (by rw [elT_part ht]; rfl), List.ext_getElem? fun j => ?_⟩
  by_cases hj : j < xs.length
  · rw [ownN, ownN, shopN_get hj, shopN_get hj]
    by_cases e : j = k
    · subst e
      rw [rowsT_D, rowsT_D, row_part ht, preAt_ge (Nat.le_refl _), tkD_get ht]
      simp [partTk]
    · rw [u2 j e]
  · rw [List.getElem?_eq_none (by rw [ownN_len]; omega), List.getElem?_eq_none (by rw [ownN_len]; omega)]
theorem own_next (ht : ts[k]? = some t) (hc : c = t.works.length) : partAt r f ts k c = preAt r f ts (k + 1) := partAt_next ht hc
/-- The element of the order whose row is out. -/
theorem own_out (ht : ts[k]? = some t) {xs : List Value} (hl : xs.length = ts.length) {es : List D} {L n : Nat} (hes : es = (ownE (partAt r f ts k c) xs nof).set k (elT (partAt r f ts k c) k (.o L 3 n))) : es[k]? = some (.agg [I (r t.ready), I t.due, .o L 3 n]) := by
  have hk := (List.getElem?_eq_some_iff.1 ht).1
  rw [hes, List.getElem?_set_self (by rw [ownE_len]; omega), elT_part ht]
end

def oneS (s : Sh) : Sh := ⟨1, s.tasks.map (fullTk (fun _ => 2) zeroW)⟩
def loneS (s : Sh) : Sh := ⟨s.benches, s.tasks.take 1⟩

theorem nWorks_tk (l : List Tk) (n : Nat) : nWorks (l.take n) ≤ nWorks l := by
  conv => rhs; rw [← List.take_append_drop n l]
  simp only [nWorks, List.map_append, List.sum_append]
  omega

theorem oneS_ok {s : Sh} {n m : Nat} (h : OkS n m s) : OkS n m (oneS s) := by
  refine ⟨by simp [oneS], by simp [oneS], by simp [oneS]; exact h.len, by rw [oneS, nWorks_full]; exact h.sum, fun t ht => ?_⟩
  obtain ⟨t0, h0, rfl⟩ := List.mem_map.1 ht
  have k := h.tk t0 h0
  refine ⟨by simp [fullTk], by simp [fullTk], k.d0, k.d1, by simpa [fullTk] using k.w0, by simpa [fullTk] using k.w1, fun w hw => ?_⟩
  obtain ⟨w0, hw0, rfl⟩ := List.mem_map.1 hw
  have := k.wk w0 hw0
  exact ⟨by simp [zeroW], by simp [zeroW, oneS], this.lo, this.le, this.hi⟩
theorem loneS_ok {s : Sh} {n m : Nat} (h : OkS n m s) : OkS n m (loneS s) := by
  refine ⟨h.b0, h.b1, ?_, Nat.le_trans (nWorks_tk _ _) h.sum, fun t ht => h.tk t (List.mem_of_mem_take ht)⟩
  have := h.len
  simp only [loneS, List.length_take]; omega

theorem lone_eq {s : Sh} (hv : Val (loneS s)) : (bestS (loneS s)).2.2 = bdAt (loneS s) (loneS s).benches.toNat := by
  have h1 := bound_best hv
  have h2 : (bestS (loneS s)).2.2 ≤ bdAt (loneS s) (loneS s).benches.toNat := by
    by_cases h0 : s.tasks = []
    · exact best_none hv (by simp [loneS, h0])
    · have := List.length_pos_iff.2 h0
      exact best_lone hv (by simp only [loneS, List.length_take]; omega)
  omega
theorem one_eq {s : Sh} (hv : Val (oneS s)) : (bestS (oneS s)).2.2 = bdAt (oneS s) (oneS s).benches.toNat := by
  have h1 := bound_best hv
  have h2 := best_one hv rfl (fun t ht => by obtain ⟨t0, -, rfl⟩ := List.mem_map.1 ht; rfl) (fun t ht w hw => by
    obtain ⟨t0, -, rfl⟩ := List.mem_map.1 ht
    obtain ⟨w0, -, rfl⟩ := List.mem_map.1 hw
    rfl)
  omega
end Go.Proofs.YtmloogdalecilaaDoor
