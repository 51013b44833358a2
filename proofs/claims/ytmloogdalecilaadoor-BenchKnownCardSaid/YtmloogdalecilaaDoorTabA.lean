/- Part TabA of the proofs about the benches of the accordion maker: see the last text of the claim for what is proved. -/
import Derived.Test.YtmloogdalecilaaDoorAsB
import Derived.Test.YtmloogdalecilaaDoorBestA
import Derived.Test.YtmloogdalecilaaDoorEndsA
set_option linter.unusedVariables false
set_option linter.unusedSimpArgs false
set_option linter.unnecessarySimpa false
set_option linter.constructorNameAsVariable false

/-! P13 -/
namespace Go.Proofs.YtmloogdalecilaaDoor
open Go Go.Abs Go.Proofs

def lenT (s : Sh) (i : Nat) : Nat := (s.tasks.getD i default).works.length
def bgT (tb : List (List Int)) (i k : Nat) : Int := (tb.getD i []).getD k 0
def enT (s : Sh) (tb : List (List Int)) (i k : Nat) : Int := bgT tb i k + (workAt s i k).hi
/-- The works ahead of one. -/
def prT (s : Sh) (i k : Nat) : List (Nat × Nat) := ((List.range i).flatMap fun i => (List.range (lenT s i)).map fun k => (i, k)) ++ (List.range k).map fun k => (i, k)
/-- All works. -/
def allT (s : Sh) : List (Nat × Nat) := prT s s.tasks.length 0
/-- Two works that may be done at once on a bench. -/
def bumpT (s : Sh) (tb : List (List Int)) (x y : Nat × Nat) : Bool := decide (y ≠ x) && (decide ((workAt s y.1 y.2).b = (workAt s x.1 x.2).b) && (decide (bgT tb x.1 x.2 < enT s tb y.1 y.2) && decide (bgT tb y.1 y.2 < enT s tb x.1 x.2)))
def redT (s : Sh) (tb : List (List Int)) (i k : Nat) : Int := if k = 0 then (s.tasks.getD i default).ready else enT s tb i (k - 1)
/-- It cannot always be done. -/
def badT (s : Sh) (tb : List (List Int)) (x : Nat × Nat) : Bool := decide (bgT tb x.1 x.2 < redT s tb x.1 x.2) || (allT s).any (bumpT s tb x)
/-- The same, as the documents tell it. -/
def badR (s : Sh) (tb : List (List Int)) (x : Nat × Nat) : Bool := decide (bgT tb x.1 x.2 < (s.tasks.getD x.1 default).ready) || (decide (0 < x.2 ∧ bgT tb x.1 x.2 < enT s tb x.1 (x.2 - 1)) || (allT s).any (bumpT s tb x))
def lensOk (s : Sh) (tb : List (List Int)) (k : Nat) : Bool := (List.range k).all fun i => decide ((tb.getD i []).length = lenT s i)
def hrsRow (l : List Int) : Bool := l.all fun n => decide (0 ≤ n ∧ n ≤ 200)
def hrsOk (tb : List (List Int)) : Bool := tb.all hrsRow
/-- What is wrong with a timetable. -/
def tabE (s : Sh) (tb : List (List Int)) : Int := if tb.length = s.tasks.length then (if lensOk s tb s.tasks.length then (if hrsOk tb then 0 else 1) else 2) else 2
/-- What Clash says. -/
def clashN (s : Sh) (tb : List (List Int)) : Int × Int × Int :=
  if chkS s = 0 then (if tabE s tb = 0 then (match (allT s).find? (badT s tb) with | some x => ((x.1 : Nat), (x.2 : Nat), 0) | none => (0, 0, 11)) else (0, 0, tabE s tb)) else (0, 0, chkS s)

theorem prT_succ (s : Sh) (i k : Nat) : prT s i (k + 1) = prT s i k ++ [(i, k)] := by simp [prT, List.range_succ]
theorem prT_next (s : Sh) (i : Nat) : prT s (i + 1) 0 = prT s i (lenT s i) := by simp [prT, List.range_succ, List.flatMap_append]
theorem prT_mem {s : Sh} {i k : Nat} {x : Nat × Nat} : x ∈ prT s i k ↔ (x.1 < i ∧ x.2 < lenT s x.1) ∨ (x.1 = i ∧ x.2 < k) := by
  obtain ⟨a, b⟩ := x
  simp only [prT, List.mem_append, List.mem_flatMap, List.mem_range, List.mem_map, Prod.mk.injEq]
  constructor
  · rintro (⟨j, hj, c, hc, rfl, rfl⟩ | ⟨c, hc, rfl, rfl⟩)
    · exact .inl ⟨hj, hc⟩
    · exact .inr ⟨rfl, hc⟩
  · rintro (⟨h1, h2⟩ | ⟨h1, h2⟩)
    · exact .inl ⟨a, h1, b, h2, rfl, rfl⟩
    · exact .inr ⟨b, h2, h1.symm, rfl⟩
theorem allT_mem {s : Sh} {x : Nat × Nat} : x ∈ allT s ↔ x.1 < s.tasks.length ∧ x.2 < lenT s x.1 := by
  rw [allT, prT_mem]
  constructor
  · rintro (h | ⟨-, h⟩)
    · exact h
    · omega
  · exact .inl
theorem prT_nodup (s : Sh) : ∀ i k, (prT s i k).Nodup := by
  have key : ∀ i k, (prT s i 0).Nodup → (prT s i k).Nodup := by
    intro i k h
    induction k with
    | zero => exact h
    | succ k ih =>
      rw [prT_succ, List.nodup_append]
      refine ⟨ih, by simp, fun x hx y hy e => ?_⟩
      rw [List.mem_singleton.1 hy] at e
      subst e
      rcases prT_mem.1 hx with ⟨h1, -⟩ | ⟨-, h1⟩ <;> simp at h1
  intro i
  induction i with
  | zero => exact fun k => key 0 k (by simp [prT])
  | succ i ih => exact fun k => key (i + 1) k (by rw [prT_next]; exact ih _)

theorem prT_pre {s : Sh} : ∀ (i k : Nat), i < s.tasks.length → k ≤ lenT s i → prT s i k <+: allT s := by
  intro i k hi hk
  have h1 : ∀ j, k + j ≤ lenT s i → prT s i k <+: prT s i (k + j) := by
    intro j
    induction j with
    | zero => exact fun _ => List.prefix_refl _
    | succ j ih => exact fun h => (ih (by omega)).trans (by rw [← Nat.add_assoc, prT_succ]; exact List.prefix_append _ _)
  have h2 := h1 (lenT s i - k) (by omega)
  rw [Nat.add_sub_cancel' hk, ← prT_next] at h2
  have h3 : ∀ j, i + 1 + j ≤ s.tasks.length → prT s (i + 1) 0 <+: prT s (i + 1 + j) 0 := by
    intro j
    induction j with
    | zero => exact fun _ => List.prefix_refl _
    | succ j ih =>
      intro h
      refine (ih (by omega)).trans ?_
      rw [← Nat.add_assoc, prT_next]
      simp only [prT, List.range_zero, List.map_nil, List.append_nil]
      exact List.prefix_append _ _
  have h4 := h3 (s.tasks.length - (i + 1)) (by omega)
  rw [Nat.add_sub_cancel' (by omega)] at h4
  exact h2.trans h4
theorem allT_at {s : Sh} {i k : Nat} (hi : i < s.tasks.length) (hk : k < lenT s i) : (allT s)[(prT s i k).length]? = some (i, k) := by
  have h := prT_pre i (k + 1) hi hk
  rw [prT_succ] at h
  obtain ⟨t, ht⟩ := h
  rw [← ht, List.append_assoc, List.getElem?_append_right (Nat.le_refl _)]; simp

theorem find_pre {α : Type} {p : α → Bool} {l m : List α} {x : α} (h : l ++ [x] <+: m) (hl : ∀ y ∈ l, p y = false) (hx : p x = true) : m.find? p = some x := by
  obtain ⟨t, ht⟩ := h
  rw [← ht, List.append_assoc, List.find?_append, List.find?_eq_none.2 (fun y hy => by simp [hl y hy])]
  simp [hx]
theorem find_none {α : Type} {p : α → Bool} {l : List α} (hl : ∀ y ∈ l, p y = false) : l.find? p = none := List.find?_eq_none.2 fun y hy => by simp [hl y hy]

/-- Where no work ahead is bad, both tell the same of a work. -/
theorem bad_same {s : Sh} (hv : Val s) {tb : List (List Int)} {i : Nat} (hi : i < s.tasks.length) : ∀ k, k < lenT s i → (∀ j, j < k → badT s tb (i, j) = false) → badT s tb (i, k) = badR s tb (i, k) := by
  have hwk : ∀ k, k < lenT s i → 1 ≤ (workAt s i k).hi := fun k hk => by
    have ht : s.tasks.getD i default ∈ s.tasks := by
      rw [List.getD_eq_getElem?_getD, List.getElem?_eq_getElem hi]; exact List.getElem_mem hi
    have hw : workAt s i k ∈ (s.tasks.getD i default).works := by
      unfold workAt
      rw [List.getD_eq_getElem?_getD (l := (s.tasks.getD i default).works), List.getElem?_eq_getElem hk]; exact List.getElem_mem hk
    have := hv.wk _ ht _ hw
    omega
  have hrd : ∀ k, k < lenT s i → (∀ j, j ≤ k → badT s tb (i, j) = false) → (s.tasks.getD i default).ready ≤ bgT tb i k := by
    intro k
    induction k with
    | zero =>
      intro _ h
      have := h 0 (Nat.le_refl _)
      simp only [badT, redT, Bool.or_eq_false_iff, decide_eq_false_iff_not, if_true] at this
      omega
    | succ k ih =>
      intro hk h
      have h1 := ih (by omega) (fun j hj => h j (by omega))
      have h2 := h (k + 1) (Nat.le_refl _)
      simp only [badT, redT, if_neg (Nat.succ_ne_zero k), Bool.or_eq_false_iff, decide_eq_false_iff_not, Nat.add_sub_cancel] at h2
      have h3 := hwk k (by omega)
      unfold enT at h2
      omega
  intro k hk h
  cases k with
  | zero => simp [badT, badR, redT]
  | succ k =>
    have h1 := hrd k (by omega) (fun j hj => h j (by omega))
    have h2 := hwk k (by omega)
    simp only [badT, badR, redT, if_neg (Nat.succ_ne_zero k), Nat.add_sub_cancel, Nat.succ_pos, true_and]
    by_cases e : bgT tb i (k + 1) < enT s tb i k
    · rw [decide_eq_true e]; simp
    · rw [decide_eq_false e, decide_eq_false (by unfold enT at e; omega)]; simp
theorem allT_le {s : Sh} (hv : Val s) : (allT s).length ≤ 8 := by
  have h1 : (allT s).length = nWorks s.tasks := by
    rw [nWorks_range]
    simp [allT, prT, List.length_flatMap, lenT, Function.comp_def]
  rw [h1]; exact hv.sum
end Go.Proofs.YtmloogdalecilaaDoor

/-! D65 -/
namespace Go.Proofs.YtmloogdalecilaaDoor
open Go Go.Abs Go.Proofs

structure TbOk (tb : List (List Int)) : Prop where
  len : tb.length ≤ 20
  row : ∀ l ∈ tb, l.length ≤ 20

theorem lensOk_succ (s : Sh) (tb : List (List Int)) (k : Nat) : lensOk s tb (k + 1) = (lensOk s tb k && decide ((tb.getD k []).length = lenT s k)) := by
  simp [lensOk, List.range_succ, List.all_append]
theorem lensOk_no {s : Sh} {tb : List (List Int)} {k n : Nat} (hk : k < n) (h : (tb.getD k []).length ≠ lenT s k) : lensOk s tb n = false := by
  unfold lensOk
  rw [List.all_eq_false]
  exact ⟨k, List.mem_range.2 hk, by simpa using h⟩
theorem hrsOk_succ {tb : List (List Int)} {k : Nat} {l : List Int} (h : tb[k]? = some l) : hrsOk (tb.take (k + 1)) = (hrsOk (tb.take k) && hrsRow l) := by
  rw [List.take_add_one, h]; simp [hrsOk, List.all_append]
theorem hrsRow_succ {l : List Int} {m : Nat} {n : Int} (h : l[m]? = some n) : hrsRow (l.take (m + 1)) = (hrsRow (l.take m) && decide (0 ≤ n ∧ n ≤ 200)) := by
  rw [List.take_add_one, h]; simp [hrsRow, List.all_append]
theorem hrsOk_no {tb : List (List Int)} {k m : Nat} {l : List Int} {n : Int} (h : tb[k]? = some l) (h2 : l[m]? = some n) (hn : decide (0 ≤ n ∧ n ≤ 200) = false) : hrsOk tb = false := by
  unfold hrsOk
  rw [List.all_eq_false]
  refine ⟨l, List.mem_of_getElem? h, ?_⟩
  have : hrsRow l = false := by
    unfold hrsRow
    rw [List.all_eq_false]
    exact ⟨n, List.mem_of_getElem? h2, by simpa using hn⟩
  simp [this]

theorem bWith2 (n lo hi : Int) (b : Bool) (hb : b = decide (lo ≤ n ∧ n ≤ hi)) (Q) (hq : Q (RA.ret (.v (.bool b))) []) : CallA Tryd.prog 92 [I n, I lo, I hi] [] Q := by
  rw [hb] at hq; exact bWithin n lo hi Q hq
theorem rWith2 (n lo hi : Int) (b : Bool) (hb : b = decide (lo ≤ n ∧ n ≤ hi)) (Q) (hq : Q (RA.ret (.v (.bool b))) []) : CallA Tryd.prog 95 [I n, I lo, I hi] [] Q := by
  rw [hb] at hq; exact rAmong n lo hi Q hq

section
variable (s : Sh) (tb : List (List Int)) (hb : TbOk tb) (TL BL : List D) (hT : TL = s.tasks.map taskD) (hB : BL = tb.map fun l => .sl 1 (l.map I))

include hb hT hB in
set_option maxRecDepth 20000 in
set_option maxHeartbeats 4000000 in
/-- bench.checkTable. -/
theorem bCheckTable (n : Int) (hn : n = tabE s tb) (Q) (hq : Q (RA.ret (I n)) []) : CallA Tryd.prog 73 [.agg [I s.benches, .sl 3 TL], .sl 1 BL] [] Q := by
  obtain ⟨A, hA⟩ : ∃ A, A = ar := ⟨_, rfl⟩
  have hbt : A.bnot true = false := by subst hA; rfl
  have hbf : A.bnot false = true := by subst hA; rfl
  obtain ⟨N, hN⟩ : ∃ N, N = tb.length := ⟨_, rfl⟩
  have hN20 : N ≤ 20 := by rw [hN]; exact hb.len
  have hBl : BL.length = N := by rw [hB, hN]; simp
  have hTl : TL.length = s.tasks.length := by rw [hT]; simp
  have hlen0 : A.cmp .neq (A.oi (A.len BL)) (A.oi (A.len TL)) = true → n = 2 := fun h => by
    have h2 : A.oi (A.len BL) ≠ A.oi (A.len TL) := xne hA h
    rw [yoiL hA hBl, yoiL hA hTl] at h2
    rw [hn, tabE, if_neg (by omega)]
  have hlen1 : A.cmp .neq (A.oi (A.len BL)) (A.oi (A.len TL)) = false → tb.length = s.tasks.length := fun h => by
    have h2 : A.oi (A.len BL) = A.oi (A.len TL) := xnne hA h
    rw [yoiL hA hBl, yoiL hA hTl] at h2
    omega
  refine callA_start tokT hA Tryd.func73 rfl rfl rfl rfl rfl fun S hS => ?_
  cbv
  refine bm (fun c => ?_) (fun c => ?_)
  · rw [hlen0 c] at hq
    cbv
    exact gh_view [] (by decide) pre0 (H' := []) (d' := I 2) trivial rfl (gh_done hq)
  have hlen := hlen1 c
  cbv
  refine at_code hS ?_
  refine wpa_loopG (α := Int × Nat) (fun q => { env := [(1, .sl 1 BL), (2, .b 0 0), (18, .sl 3 TL), (19, I (A.oi (A.len TL))), (20, I q.1)], H := [.box (.agg [I s.benches, .sl 3 TL])], nt := 52, dfs := [] })
    (fun q => N - q.2) (fun q => q.2 ≤ N ∧ IsI q.1 q.2 ∧ lensOk s tb q.2 = true) (0, 0) ⟨Nat.zero_le _, ⟨rfl⟩, rfl⟩ ?_ ?_
  · exact gs_to [0] ⟨by decide, pre0, ⟨rfl, trivial⟩, ⟨rfl, rfl, rfl, rfl, rfl, trivial⟩, rfl, rfl⟩
  rintro ⟨i, k⟩ ⟨u1, u2, u3⟩
  dsimp only at u1 u2 u3
  have hTN : TL.length = N := by rw [hTl, ← hlen, hN]
  refine wp_go tokT hA hS ?_
  cbv
  refine bm (fun c => ?_) (fun c => ?_)
  · have hkN : k < N := yltL hA hTN u2 c
    have hk : k < s.tasks.length := by omega
    obtain ⟨t, ht⟩ : ∃ t, t = s.tasks.getD k default := ⟨_, rfl⟩
    have htk : s.tasks[k]? = some t := by rw [ht, List.getD_eq_getElem?_getD, List.getElem?_eq_getElem (by omega)]; rfl
    obtain ⟨WL, hWL⟩ : ∃ WL, WL = t.works.map workD := ⟨_, rfl⟩
    have hWl : WL.length = lenT s k := by rw [hWL, lenT, ← ht]; simp
    have hTk : TL[k]? = some (.agg [I t.ready, I t.due, .sl 3 WL]) := by rw [hT]; simp [htk, hWL, taskD]
    obtain ⟨l, hl⟩ : ∃ l, tb[k]? = some l := ⟨_, List.getElem?_eq_getElem (by omega)⟩
    obtain ⟨LL, hLL⟩ : ∃ LL, LL = l.map I := ⟨_, rfl⟩
    have hLl : LL.length = l.length := by rw [hLL]; simp
    have hgl : tb.getD k [] = l := by rw [List.getD_eq_getElem?_getD, hl]; rfl
    have hBk : BL[k]? = some (.sl 1 LL) := by rw [hB, hLL]; simp [hl]
    have hf := yfit1 hA u2 (by omega)
    have hu2 := ysucc hA u2
    have hn2 : A.cmp .neq (A.oi (A.len LL)) (A.oi (A.len WL)) = true → n = 2 := fun h => by
      have h2 : A.oi (A.len LL) ≠ A.oi (A.len WL) := xne hA h
      rw [yoiL hA hLl, yoiL hA hWl] at h2
      rw [hn, tabE, if_pos hlen, if_neg (by rw [lensOk_no hk (by rw [hgl]; omega)]; decide)]
    have hnx : A.cmp .neq (A.oi (A.len LL)) (A.oi (A.len WL)) = false → lensOk s tb (k + 1) = true := fun h => by
      have h2 : A.oi (A.len LL) = A.oi (A.len WL) := xnne hA h
      rw [yoiL hA hLl, yoiL hA hWl] at h2
      rw [lensOk_succ, u3, hgl, decide_eq_true (by omega)]; rfl
    have iT := yinbL hA hTN u2 hkN
    have gT := yget hA u2 hTk
    have iB := yinbL hA hBl u2 hkN
    have gB := yget hA u2 hBk
    have hms : N - (k + 1) < N - k := by omega
    cbv
    refine ⟨iT, ⟨_, gT, ?_⟩⟩
    cbv
    refine draw_go tokT hA hS [0, 1, 2, 3, 4, 5, 6, 7, 8] rfl rfl fun Dk hD => ?_
    cbv
    refine ⟨iB, ⟨_, gB, ?_⟩⟩
    cbv
    refine bm (fun c2 => ?_) (fun c2 => ?_)
    · rw [hn2 c2] at hq
      cbv
      refine gs_done ?_
      cbv
      exact gh_view [] (by decide) pre0 (H' := []) (d' := I 2) trivial rfl (gh_done hq)
    · have hx := hnx c2
      cbv
      refine ⟨hf, ?_⟩
      refine gs_loop (A.add i 1, k + 1) [0] ⟨hkN, hu2, hx⟩ hms ?_
      exact ⟨by decide, pre0, ⟨rfl, trivial⟩, ⟨rfl, rfl, rfl, rfl, rfl, trivial⟩, rfl, rfl⟩
  have hkN : k = N := by have := ynltL hA hTN u2 c; omega
  have hall : lensOk s tb s.tasks.length = true := by rw [← hlen, ← hN, ← hkN]; exact u3
  cbv
  refine gs_done ?_
  cbv
  refine at_code hS ?_
  refine wpa_loopG (α := Int × Nat) (fun q => { env := [(35, .sl 1 BL), (36, I (A.oi (A.len BL))), (37, I q.1)], H := [], nt := 52, dfs := [] })
    (fun q => N - q.2) (fun q => q.2 ≤ N ∧ IsI q.1 q.2 ∧ hrsOk (tb.take q.2) = true) (0, 0) ⟨Nat.zero_le _, ⟨rfl⟩, rfl⟩ ?_ ?_
  · exact gs_to [] ⟨by decide, pre0, trivial, ⟨rfl, rfl, rfl, trivial⟩, rfl, rfl⟩
  clear u1 u2 u3 c hkN
  clear i k
  rintro ⟨i, k⟩ ⟨u1, u2, u3⟩
  dsimp only at u1 u2 u3
  refine wp_go tokT hA hS ?_
  cbv
  refine bm (fun c => ?_) (fun c => ?_)
  · have hk : k < N := yltL hA hBl u2 c
    obtain ⟨l, hl⟩ : ∃ l, tb[k]? = some l := ⟨_, List.getElem?_eq_getElem (by omega)⟩
    obtain ⟨LL, hLL⟩ : ∃ LL, LL = l.map I := ⟨_, rfl⟩
    obtain ⟨M, hM⟩ : ∃ M, M = l.length := ⟨_, rfl⟩
    have hM20 : M ≤ 20 := by rw [hM]; exact hb.row l (List.mem_of_getElem? hl)
    have hLl : LL.length = M := by rw [hLL, hM]; simp
    have hBk : BL[k]? = some (.sl 1 LL) := by rw [hB, hLL]; simp [hl]
    have iB := yinbL hA hBl u2 hk
    have gB := yget hA u2 hBk
    have hf := yfit1 hA u2 (by omega)
    have hu2 := ysucc hA u2
    have hms : N - (k + 1) < N - k := by omega
    have hnx : hrsRow l = true → hrsOk (tb.take (k + 1)) = true := fun h => by rw [hrsOk_succ hl, u3, h]; rfl
    cbv
    refine ⟨iB, ⟨_, gB, ?_⟩⟩
    cbv
    refine at_code hS ?_
    refine wpa_loopG (α := Int × Nat) (fun q => { env := [(35, .sl 1 BL), (36, I (A.oi (A.len BL))), (37, I i), (41, .sl 1 LL), (42, I (A.oi (A.len LL))), (43, I q.1)], H := [], nt := 52, dfs := [] })
      (fun q => M - q.2) (fun q => q.2 ≤ M ∧ IsI q.1 q.2 ∧ hrsRow (l.take q.2) = true) (0, 0) ⟨Nat.zero_le _, ⟨rfl⟩, rfl⟩ ?_ ?_
    · exact gs_to [] ⟨by decide, pre0, trivial, ⟨rfl, rfl, rfl, rfl, rfl, rfl, trivial⟩, rfl, rfl⟩
    rintro ⟨j, m⟩ ⟨v1, v2, v3⟩
    dsimp only at v1 v2 v3
    refine wp_go tokT hA hS ?_
    cbv
    refine bm (fun c2 => ?_) (fun c2 => ?_)
    · have hm : m < M := yltL hA hLl v2 c2
      obtain ⟨x, hx⟩ : ∃ x, l[m]? = some x := ⟨_, List.getElem?_eq_getElem (by omega)⟩
      have hLx : LL[m]? = some (I x) := by rw [hLL]; simp [hx]
      have iL := yinbL hA hLl v2 hm
      have gL := yget hA v2 hLx
      have hfj := yfit1 hA v2 (by omega)
      have hv2 := ysucc hA v2
      have hmsj : M - (m + 1) < M - m := by omega
      obtain ⟨bx, hbx⟩ : ∃ bx, bx = decide (0 ≤ x ∧ x ≤ 200) := ⟨_, rfl⟩
      have hn1 : bx = false → n = 1 := fun h => by rw [hn, tabE, if_pos hlen, if_pos hall, if_neg (by rw [hrsOk_no hl hx (by rw [← hbx]; exact h)]; decide)]
      have hnj : bx = true → hrsRow (l.take (m + 1)) = true := fun h => by rw [hrsRow_succ hx, v3, ← hbx, h]; rfl
      cbv
      refine ⟨iL, ⟨_, gL, ?_⟩⟩
      cbv
      cases bx with
      | true =>
        have hnj' := hnj rfl
        refine ops_call hS [I x, I 0, I 200] [] [] rfl rfl rfl rfl rfl rfl rfl rfl (by decide) trivial (bWith2 _ _ _ true hbx _ ?_)
        refine ops_go tokT hA hS ?_
        cbv
        refine bm (fun c => Bool.noConfusion (hbt.symm.trans c)) (fun _ => ?_)
        cbv
        refine ⟨hfj, ?_⟩
        refine gs_loop (A.add j 1, m + 1) [] ⟨hm, hv2, hnj'⟩ hmsj ?_
        exact ⟨by decide, pre0, trivial, ⟨rfl, rfl, rfl, rfl, rfl, rfl, trivial⟩, rfl, rfl⟩
      | false =>
        have hn1' := hn1 rfl
        rw [hn1'] at hq
        refine ops_call hS [I x, I 0, I 200] [] [] rfl rfl rfl rfl rfl rfl rfl rfl (by decide) trivial (bWith2 _ _ _ false hbx _ ?_)
        refine ops_go tokT hA hS ?_
        cbv
        refine bm (fun _ => ?_) (fun c => Bool.noConfusion (hbf.symm.trans c))
        cbv
        refine gs_done (gs_done ?_)
        cbv
        exact gh_view [] (by decide) pre0 (H' := []) (d' := I 1) trivial rfl (gh_done hq)
    · have hm : m = M := by have := ynltL hA hLl v2 c2; omega
      have hnx' := hnx (by rw [hm, hM, List.take_length] at v3; exact v3)
      cbv
      refine gs_done ?_
      cbv
      refine ⟨hf, ?_⟩
      refine gs_loop (A.add i 1, k + 1) [] ⟨hk, hu2, hnx'⟩ hms ?_
      exact ⟨by decide, pre0, trivial, ⟨rfl, rfl, rfl, trivial⟩, rfl, rfl⟩
  · have hk : k = N := by have := ynltL hA hBl u2 c; omega
    have hn0 : n = 0 := by
      rw [hk, hN, List.take_length] at u3
      rw [hn, tabE, if_pos hlen, if_pos hall, if_pos u3]
    rw [hn0] at hq
    cbv
    refine gs_done ?_
    cbv
    exact gh_view [] (by decide) pre0 (H' := []) (d' := I 0) trivial rfl (gh_done hq)

end
end Go.Proofs.YtmloogdalecilaaDoor

/-! D66 -/
namespace Go.Proofs.YtmloogdalecilaaDoor
open Go Go.Abs Go.Proofs

theorem xoi {A : Ar} (hA : A = ar) (n : Nat) : A.oi n = (n : Int) := by subst hA; rfl
theorem xaddI {A : Ar} (hA : A = ar) (x y : Int) : A.add x y = x + y := by subst hA; rfl

def spD (s : Sh) (tb : List (List Int)) (p : Nat) (x : Nat × Nat) : D := .agg [I (p : Nat), I (workAt s x.1 x.2).b, I (bgT tb x.1 x.2), I (enT s tb x.1 x.2)]
def spL (s : Sh) (tb : List (List Int)) (l : List (Nat × Nat)) : List D := l.zipIdx.map fun x => spD s tb x.2 x.1
theorem spL_len (s tb l) : (spL s tb l).length = l.length := by simp [spL]
theorem spL_app (s tb) (l : List (Nat × Nat)) (x : Nat × Nat) : spL s tb (l ++ [x]) = spL s tb l ++ [spD s tb l.length x] := by
  simp [spL, List.zipIdx_append]
theorem spL_get {s tb} {l : List (Nat × Nat)} {p : Nat} {x : Nat × Nat} (h : l[p]? = some x) : (spL s tb l)[p]? = some (spD s tb p x) := by
  simp [spL, List.getElem?_zipIdx, h]

/-- What a timetable without fault keeps to. -/
theorem tab_ok {s : Sh} {tb : List (List Int)} (h : tabE s tb = 0) : tb.length = s.tasks.length ∧ ∀ i, i < s.tasks.length → (tb.getD i []).length = lenT s i ∧ ∀ k, k < lenT s i → (tb.getD i [])[k]? = some (bgT tb i k) ∧ 0 ≤ bgT tb i k ∧ bgT tb i k ≤ 200 := by
  unfold tabE at h
  split at h
  · rename_i h1
    split at h
    · rename_i h2
      split at h
      · rename_i h3
        refine ⟨h1, fun i hi => ?_⟩
        have e1 : (tb.getD i []).length = lenT s i := by
          have := List.all_eq_true.1 h2 i (List.mem_range.2 hi)
          simpa using this
        refine ⟨e1, fun k hk => ?_⟩
        have hm : tb.getD i [] ∈ tb := by
          rw [List.getD_eq_getElem?_getD, List.getElem?_eq_getElem (by omega)]; exact List.getElem_mem _
        have e2 : (tb.getD i [])[k]? = some (bgT tb i k) := by
          unfold bgT
          rw [List.getD_eq_getElem?_getD (l := tb.getD i []), List.getElem?_eq_getElem (by omega)]; rfl
        have e3 := List.all_eq_true.1 (List.all_eq_true.1 h3 _ hm) _ (List.mem_of_getElem? e2)
        have := of_decide_eq_true e3
        exact ⟨e2, this.1, this.2⟩
      · exact absurd h (by decide)
    · exact absurd h (by decide)
  · exact absurd h (by decide)

theorem any_succ {α : Type} {f : α → Bool} {l : List α} {q : Nat} {y : α} (h : l[q]? = some y) : (l.take (q + 1)).any f = ((l.take q).any f || f y) := by
  rw [List.take_add_one, h]; simp [List.any_append]

theorem xltd {A : Ar} (hA : A = ar) (x y : Int) : A.cmp .lss x y = decide (x < y) := by subst hA; rfl
theorem ceqT {A : Ar} (hA : A = ar) {x y : Int} (h : x = y) : A.cmp .eql x y = true := by subst hA; simp [ar, cmpI, h]
theorem ceqF {A : Ar} (hA : A = ar) {x y : Int} (h : x ≠ y) : A.cmp .eql x y = false := by subst hA; simp [ar, cmpI, h]
theorem xneT1 {A : Ar} (hA : A = ar) {x y : Int} (h : x ≠ y) : A.cmp .neq x y = true := by subst hA; simp [ar, cmpI, h]

section
variable (s : Sh) (hs : Fin s) (tb : List (List Int)) (hb : TbOk tb) (TL BL : List D) (hT : TL = s.tasks.map taskD) (hB : BL = tb.map fun l => .sl 1 (l.map I))

include hs hb hT hB in
set_option maxRecDepth 20000 in
set_option maxHeartbeats 8000000 in
/-- bench.Clash. -/
theorem bClashAny (Q) (hq : ∀ i k e, (i, k, e) = clashN s tb → Q (RA.ret (.tup [I i, I k, I e])) []) : CallA Tryd.prog 26 [.agg [I s.benches, .sl 3 TL], .sl 1 BL] [] Q := by
  obtain ⟨A, hA⟩ : ∃ A, A = ar := ⟨_, rfl⟩
  have hbt : A.bnot true = false := by subst hA; rfl
  have hbf : A.bnot false = true := by subst hA; rfl
  obtain ⟨e1, he1⟩ : ∃ e, e = chkS s := ⟨_, rfl⟩
  obtain ⟨e2, he2⟩ : ∃ e, e = tabE s tb := ⟨_, rfl⟩
  refine callA_startF tokT hA [18, 31] Tryd.func26 rfl rfl rfl rfl rfl fun S hS => ?_
  cbv
  refine at_code hS (wpa_scope ?_)
  refine wp_goF tokT hA hS [18, 31] ?_
  cbv
  refine ops_call hS [.agg [I s.benches, .sl 3 TL]] [] [] rfl rfl rfl rfl rfl rfl rfl rfl (by decide) trivial (bCheck s hs TL hT e1 he1 _ ?_)
  refine ops_go tokT hA hS ?_
  cbv
  refine bm (fun c => ?_) (fun c => ?_)
  · have h1 := xne hA c
    have hq1 := hq 0 0 e1 (by rw [clashN, if_neg (by rw [← he1]; exact h1), he1])
    cbv
    exact gh_view [] (by decide) pre0 (H' := []) (d' := .tup [I 0, I 0, I e1]) trivial rfl (gh_done hq1)
  have h10 : chkS s = 0 := by have := xnne hA c; omega
  have hv := chkS_val h10
  cbv
  refine ops_call hS [.agg [I s.benches, .sl 3 TL], .sl 1 BL] [] [] rfl rfl rfl rfl rfl rfl rfl rfl (by decide) trivial (bCheckTable s tb hb TL BL hT hB e2 he2 _ ?_)
  refine ops_go tokT hA hS ?_
  cbv
  refine bm (fun c => ?_) (fun c => ?_)
  · have h1 := xne hA c
    have hq1 := hq 0 0 e2 (by rw [clashN, if_pos h10, if_neg (by rw [← he2]; exact h1), he2])
    cbv
    exact gh_view [] (by decide) pre0 (H' := []) (d' := .tup [I 0, I 0, I e2]) trivial rfl (gh_done hq1)
  have h20 : tabE s tb = 0 := by have := xnne hA c; omega
  obtain ⟨hlen, hrow⟩ := tab_ok h20
  obtain ⟨N, hN⟩ : ∃ N, N = s.tasks.length := ⟨_, rfl⟩
  have hTl : TL.length = N := by rw [hT, hN]; simp
  have hBl : BL.length = N := by rw [hB, hN]; simp [hlen]
  have hN4 : N ≤ 4 := by rw [hN]; exact hv.len
  have hall := allT_le hv
  have hple : ∀ i k, i < s.tasks.length → k ≤ lenT s i → (prT s i k).length ≤ 8 := fun i k hi hk => Nat.le_trans (prT_pre i k hi hk).length_le hall
  have hqf : ∀ x, (allT s).find? (badT s tb) = some x → Q (RA.ret (.tup [I (x.1 : Nat), I (x.2 : Nat), I 0])) [] := fun x hx => hq _ _ _ (by rw [clashN, if_pos h10, if_pos h20, hx])
  have hqn : (allT s).find? (badT s tb) = none → Q (RA.ret (.tup [I 0, I 0, I 11])) [] := fun hx => hq _ _ _ (by rw [clashN, if_pos h10, if_pos h20, hx])
  cbv
  refine at_code hS ?_
  refine wpa_loopG (α := Int × Nat × List D × Nat) (fun q => { env := [(1, .sl 1 BL), (2, .b 0 0), (4, I 0), (5, I 0), (9, .o 1 4 q.2.2.2), (36, .sl 3 TL), (37, I (A.oi (A.len TL))), (38, I q.1)], H := [.box (.agg [I s.benches, .sl 3 TL]), .els 4 q.2.2.1], nt := 152, dfs := [] })
    (fun q => N - q.2.1) (fun q => q.2.1 ≤ N ∧ IsI q.1 q.2.1 ∧ q.2.2.1 = spL s tb (prT s q.2.1 0) ∧ q.2.2.2 = (prT s q.2.1 0).length) (0, 0, [], 0) ⟨Nat.zero_le _, ⟨rfl⟩, rfl, rfl⟩ ?_ ?_
  · refine gs_virt 9 4 rfl ?_
    exact gs_to [0, 1] ⟨by decide, pre0, ⟨rfl, rfl, trivial⟩, ⟨rfl, rfl, rfl, rfl, rfl, rfl, rfl, rfl, trivial⟩, rfl, rfl⟩
  rintro ⟨i, k, SL, n⟩ ⟨u1, u2, u3, u4⟩
  dsimp only at u1 u2 u3 u4
  refine wp_goF tokT hA hS [18, 31] ?_
  cbv
  refine bm (fun c => ?_) (fun c => ?_)
  · have hk : k < N := yltL hA hTl u2 c
    have hkN : k < s.tasks.length := by omega
    obtain ⟨t, ht⟩ : ∃ t, t = s.tasks.getD k default := ⟨_, rfl⟩
    have htk : s.tasks[k]? = some t := by rw [ht, List.getD_eq_getElem?_getD, List.getElem?_eq_getElem (by omega)]; rfl
    obtain ⟨WL, hWL⟩ : ∃ WL, WL = t.works.map workD := ⟨_, rfl⟩
    obtain ⟨M, hM⟩ : ∃ M, M = lenT s k := ⟨_, rfl⟩
    have hWl : WL.length = M := by rw [hWL, hM, lenT, ← ht]; simp
    have hTk : TL[k]? = some (.agg [I t.ready, I t.due, .sl 3 WL]) := by rw [hT]; simp [htk, hWL, taskD]
    obtain ⟨l, hl⟩ : ∃ l, l = tb.getD k [] := ⟨_, rfl⟩
    have hlk : tb[k]? = some l := by rw [hl, List.getD_eq_getElem?_getD, List.getElem?_eq_getElem (by omega)]; rfl
    obtain ⟨LL, hLL⟩ : ∃ LL, LL = l.map I := ⟨_, rfl⟩
    have hr1 := (hrow k hkN).1
    have hLl : LL.length = M := by rw [hLL, hM, ← hr1, ← hl]; simp
    have hBk : BL[k]? = some (.sl 1 LL) := by rw [hB, hLL]; simp [hlk]
    have hM8 : M ≤ 8 := by
      have := hple k M hkN (by omega)
      rw [prT, List.length_append, List.length_map, List.length_range] at this; omega
    have iT := yinbL hA hTl u2 hk
    have gT := yget hA u2 hTk
    have iB := yinbL hA hBl u2 hk
    have gB := yget hA u2 hBk
    have hf := yfit1 hA u2 (by omega)
    have hu2 := ysucc hA u2
    have hms : N - (k + 1) < N - k := by omega
    cbv
    refine ⟨iT, ⟨_, gT, ?_⟩⟩
    cbv
    refine at_code hS ?_
    refine wpa_loopG (α := Int × Nat × List D × Nat) (fun q => { env := [(1, .sl 1 BL), (2, .b 0 0), (4, I 0), (5, I 0), (9, .o 1 4 q.2.2.2), (10, I i), (36, .sl 3 TL), (37, I (A.oi (A.len TL))), (38, I i), (44, .sl 3 WL), (45, I (A.oi (A.len WL))), (46, I q.1)], H := [.box (.agg [I s.benches, .sl 3 TL]), .els 4 q.2.2.1], nt := 152, dfs := [] })
      (fun q => M - q.2.1) (fun q => q.2.1 ≤ M ∧ IsI q.1 q.2.1 ∧ q.2.2.1 = spL s tb (prT s k q.2.1) ∧ q.2.2.2 = (prT s k q.2.1).length) (0, 0, SL, n) ⟨Nat.zero_le _, ⟨rfl⟩, u3, u4⟩ ?_ ?_
    · exact gs_to [0, 1] ⟨by decide, pre0, ⟨rfl, rfl, trivial⟩, ⟨rfl, rfl, rfl, rfl, rfl, rfl, rfl, rfl, rfl, rfl, rfl, rfl, trivial⟩, rfl, rfl⟩
    rintro ⟨j, m, SM, nm⟩ ⟨v1, v2, v3, v4⟩
    dsimp only at v1 v2 v3 v4
    refine wp_goF tokT hA hS [18, 31] ?_
    cbv
    refine bm (fun c2 => ?_) (fun c2 => ?_)
    · have hm : m < M := yltL hA hWl v2 c2
      obtain ⟨w, hw⟩ : ∃ w, w = workAt s k m := ⟨_, rfl⟩
      have hwm : t.works[m]? = some w := by
        rw [hw, workAt, ← ht, List.getD_eq_getElem?_getD (l := t.works), List.getElem?_eq_getElem (by rw [ht]; show m < lenT s k; omega)]; rfl
      have hWm : WL[m]? = some (.agg [I w.b, I w.lo, I w.hi]) := by rw [hWL]; simp [hwm, workD]
      have hwk := hv.wk t (by rw [ht, List.getD_eq_getElem?_getD, List.getElem?_eq_getElem hkN]; exact List.getElem_mem _) w (List.mem_of_getElem? hwm)
      obtain ⟨x, hx⟩ : ∃ x, x = bgT tb k m := ⟨_, rfl⟩
      obtain ⟨hx1, hx2, hx3⟩ := (hrow k hkN).2 m (by omega)
      rw [← hx] at hx1 hx2 hx3
      have hLm : LL[m]? = some (I x) := by rw [hLL, hl, List.getElem?_map, hx1]; rfl
      have iW := yinbL hA hWl v2 hm
      have gW := yget hA v2 hWm
      have iL := yinbL hA hLl v2 hm
      have gL := yget hA v2 hLm
      have hfj := yfit1 hA v2 (by omega)
      have hv2 := ysucc hA v2
      have hmsj : M - (m + 1) < M - m := by omega
      have hfx : A.fits .i64 (A.add x w.hi) := xfitE hA (xaddI hA x w.hi) (by omega)
      have hnm : nm ≤ 8 := by rw [v4]; exact hple k m hkN (by omega)
      have hSl : SM.length = nm := by rw [v3, v4, spL_len]
      have hroom : A.room (A.addN nm 1) 32 := by rw [xaddN hA]; exact yroomN hA (by omega) (by decide)
      have hnx : A.app SM [.agg [I (A.oi nm), I w.b, I x, I (A.add x w.hi)]] = spL s tb (prT s k (m + 1)) := by
        rw [xapp hA, prT_succ, spL_app, ← v3, ← v4, spD, xoi hA, xaddI hA, enT, ← hw, ← hx]
      have hnn : A.addN nm 1 = (prT s k (m + 1)).length := by rw [xaddN hA, prT_succ, List.length_append, v4]; rfl
      cbv
      refine ⟨iW, ⟨_, gW, ?_⟩⟩
      cbv
      refine draw_go tokT hA hS [0, 1, 2, 3, 4, 5, 6, 7, 8, 9, 10, 11, 12, 13, 14, 15, 16, 17, 18, 19, 20, 21, 22, 23, 24, 25, 26] rfl rfl fun Dk hD => ?_
      cbv
      refine ⟨iB, ⟨_, gB, ?_⟩⟩
      cbv
      refine ⟨iL, ⟨_, gL, ?_⟩⟩
      cbv
      refine ⟨iB, ⟨_, gB, ?_⟩⟩
      cbv
      refine ⟨iL, ⟨_, gL, ?_⟩⟩
      cbv
      refine ⟨hfx, yeqLen hA hSl, yeqLen hA rfl, hroom, (by repeat' (first | exact trivial | exact Need.mk ⟨_, gL, rfl⟩ | exact Need.mk ⟨_, gB, rfl⟩ | refine ⟨?_, ?_⟩)), hfj, ?_⟩
      refine gs_loop (A.add j 1, m + 1, A.app SM [.agg [I (A.oi nm), I w.b, I x, I (A.add x w.hi)]], A.addN nm 1) [0, 4] ⟨hm, hv2, hnx, hnn⟩ hmsj ?_
      exact ⟨by decide, pre0, ⟨rfl, rfl, trivial⟩, ⟨rfl, rfl, rfl, rfl, rfl, rfl, rfl, rfl, rfl, rfl, rfl, rfl, trivial⟩, rfl, rfl⟩
    · have hm : m = M := by have := ynltL hA hWl v2 c2; omega
      have hn1 : SM = spL s tb (prT s (k + 1) 0) := by rw [v3, prT_next, hm, hM]
      have hn2 : nm = (prT s (k + 1) 0).length := by rw [v4, prT_next, hm, hM]
      cbv
      refine gs_done ?_
      cbv
      refine ⟨hf, ?_⟩
      refine gs_loop (A.add i 1, k + 1, SM, nm) [0, 1] ⟨hk, hu2, hn1, hn2⟩ hms ?_
      exact ⟨by decide, pre0, ⟨rfl, rfl, trivial⟩, ⟨rfl, rfl, rfl, rfl, rfl, rfl, rfl, rfl, trivial⟩, rfl, rfl⟩
  have hkN : k = N := by have := ynltL hA hTl u2 c; omega
  have hSA : SL = spL s tb (allT s) := by rw [u3, hkN, hN]; rfl
  have hnA : n = (allT s).length := by rw [u4, hkN, hN]; rfl
  have hSl : SL.length = n := by rw [hSA, hnA, spL_len]
  have en : A.eqN n (A.len SL) := xeqN hA (by rw [xlen hA, hSl])
  cbv
  refine gs_done ?_
  cbv
  refine code_gs hS (gs_frz hA [1] ?_)
  cbv
  repeat (refine And.intro en ?_)
  refine gs_done ?_
  refine at_code hS ?_
  refine wp_goF tokT hA hS [31] ?_
  cbv
  refine at_code hS ?_
  refine wpa_loopG (α := Int × Nat × Int) (fun q => { env := [(2, .b 0 0), (4, I 0), (5, I 0), (9, .sl 4 SL), (14, I q.2.2), (15, .v (.bool false)), (80, .sl 3 TL), (81, I (A.oi (A.len TL))), (82, I q.1)], H := [.box (.agg [I s.benches, .sl 3 TL])], nt := 152, dfs := [] })
    (fun q => N - q.2.1) (fun q => q.2.1 ≤ N ∧ IsI q.1 q.2.1 ∧ IsI q.2.2 (prT s q.2.1 0).length ∧ ∀ y ∈ prT s q.2.1 0, badT s tb y = false) (0, 0, 0) ⟨Nat.zero_le _, ⟨rfl⟩, ⟨rfl⟩, fun y hy => by simp [prT] at hy⟩ ?_ ?_
  · exact gs_to [0] ⟨by decide, pre0, ⟨rfl, trivial⟩, ⟨rfl, rfl, rfl, rfl, rfl, rfl, rfl, rfl, rfl, trivial⟩, rfl, rfl⟩
  rintro ⟨i, k, a⟩ ⟨u1, u2, u3, u4⟩
  dsimp only at u1 u2 u3 u4
  refine wp_goF tokT hA hS [31] ?_
  cbv
  refine bm (fun c => ?_) (fun c => ?_)
  · have hk : k < N := yltL hA hTl u2 c
    have hkN : k < s.tasks.length := by omega
    obtain ⟨t, ht⟩ : ∃ t, t = s.tasks.getD k default := ⟨_, rfl⟩
    have htk : s.tasks[k]? = some t := by rw [ht, List.getD_eq_getElem?_getD, List.getElem?_eq_getElem (by omega)]; rfl
    obtain ⟨WL, hWL⟩ : ∃ WL, WL = t.works.map workD := ⟨_, rfl⟩
    obtain ⟨M, hM⟩ : ∃ M, M = lenT s k := ⟨_, rfl⟩
    have hWl : WL.length = M := by rw [hWL, hM, lenT, ← ht]; simp
    have hTk : TL[k]? = some (.agg [I t.ready, I t.due, .sl 3 WL]) := by rw [hT]; simp [htk, hWL, taskD]
    have hM8 : M ≤ 8 := by
      have := hple k M hkN (by omega)
      rw [prT, List.length_append, List.length_map, List.length_range] at this; omega
    have iT := yinbL hA hTl u2 hk
    have gT := yget hA u2 hTk
    have hf := yfit1 hA u2 (by omega)
    have hu2 := ysucc hA u2
    have hms : N - (k + 1) < N - k := by omega
    have hrd0 : t.ready = redT s tb k 0 := by rw [redT, if_pos rfl, ht]
    cbv
    refine ⟨iT, ⟨_, gT, ?_⟩⟩
    cbv
    refine at_code hS ?_
    refine wpa_loopG (α := Int × Nat × Int × Int) (fun q => { env := [(2, .b 0 0), (4, I 0), (5, I 0), (9, .sl 4 SL), (14, I q.2.2.1), (15, .v (.bool false)), (16, I i), (18, I q.2.2.2), (80, .sl 3 TL), (81, I (A.oi (A.len TL))), (82, I i), (90, .sl 3 WL), (91, I (A.oi (A.len WL))), (92, I q.1)], H := [.box (.agg [I s.benches, .sl 3 TL])], nt := 152, dfs := [] })
      (fun q => M - q.2.1) (fun q => q.2.1 ≤ M ∧ IsI q.1 q.2.1 ∧ IsI q.2.2.1 (prT s k q.2.1).length ∧ q.2.2.2 = redT s tb k q.2.1 ∧ ∀ y ∈ prT s k q.2.1, badT s tb y = false) (0, 0, a, t.ready) ⟨Nat.zero_le _, ⟨rfl⟩, u3, hrd0, u4⟩ ?_ ?_
    · exact gs_to [0] ⟨by decide, pre0, ⟨rfl, trivial⟩, ⟨rfl, rfl, rfl, rfl, rfl, rfl, rfl, rfl, rfl, rfl, rfl, rfl, rfl, rfl, trivial⟩, rfl, rfl⟩
    rintro ⟨j, m, at', rd⟩ ⟨v1, v2, v3, v4, v5⟩
    dsimp only at v1 v2 v3 v4 v5
    refine wp_goF tokT hA hS [31] ?_
    cbv
    refine bm (fun c2 => ?_) (fun c2 => ?_)
    · have hm : m < M := yltL hA hWl v2 c2
      obtain ⟨p, hp⟩ : ∃ p, p = (prT s k m).length := ⟨_, rfl⟩
      rw [← hp] at v3
      have hpa : (allT s)[p]? = some (k, m) := by rw [hp]; exact allT_at hkN (by omega)
      have hpl : p < n := by rw [hnA]; exact (List.getElem?_eq_some_iff.1 hpa).1
      obtain ⟨b, hbE⟩ : ∃ b, b = (workAt s k m).b := ⟨_, rfl⟩
      obtain ⟨x, hxE⟩ : ∃ x, x = bgT tb k m := ⟨_, rfl⟩
      obtain ⟨y, hyE⟩ : ∃ y, y = enT s tb k m := ⟨_, rfl⟩
      obtain ⟨pi, hpi⟩ : ∃ pi : Int, IsI pi p := ⟨_, ⟨rfl⟩⟩
      have hSp : SL[p]? = some (.agg [I pi, I b, I x, I y]) := by rw [hSA, spL_get hpa, spD, hpi.eq, hbE, hxE, hyE]
      have iS := yinbL hA hSl v3 hpl
      have gS := yget hA v3 hSp
      have hfa := yfit1 hA v3 (by omega)
      have hv3 := ysucc hA v3
      have hfj := yfit1 hA v2 (by omega)
      have hv2 := ysucc hA v2
      have hmsj : M - (m + 1) < M - m := by omega
      have hp1 : IsI (A.add at' 1) (prT s k (m + 1)).length := by rw [prT_succ, List.length_append, ← hp]; exact hv3
      obtain ⟨b0, hb0⟩ : ∃ b0, b0 = A.cmp .lss x rd := ⟨_, rfl⟩
      have hb0' : b0 = decide (bgT tb k m < redT s tb k m) := by rw [hb0, xltd hA, hxE, v4]
      cbv
      refine ⟨iS, ⟨_, gS, ?_⟩⟩
      cbv
      refine ⟨hfa, ?_⟩
      refine at_code hS ?_
      refine wpa_loopG (α := Int × Nat × Bool) (fun q => { env := [(2, .b 0 0), (4, I 0), (5, I 0), (9, .sl 4 SL), (14, I (A.add at' 1)), (15, .v (.bool false)), (16, I i), (18, I rd), (19, I j), (20, .b 1 0), (21, .v (.bool q.2.2)), (80, .sl 3 TL), (81, I (A.oi (A.len TL))), (82, I i), (90, .sl 3 WL), (91, I (A.oi (A.len WL))), (92, I j), (105, .sl 4 SL), (106, I (A.oi (A.len SL))), (107, I q.1)], H := [.box (.agg [I s.benches, .sl 3 TL]), .box (.agg [I pi, I b, I x, I y])], nt := 152, dfs := [] })
        (fun q => n - q.2.1) (fun q => q.2.1 ≤ n ∧ IsI q.1 q.2.1 ∧ q.2.2 = (b0 || ((allT s).take q.2.1).any (bumpT s tb (k, m)))) (0, 0, b0) ⟨Nat.zero_le _, ⟨rfl⟩, by simp⟩ ?_ ?_
      · exact gs_to [0, 1] ⟨by decide, pre0, ⟨rfl, rfl, trivial⟩, ⟨rfl, rfl, rfl, rfl, rfl, rfl, rfl, rfl, rfl, rfl, by rw [hb0]; rfl, rfl, rfl, rfl, rfl, rfl, rfl, rfl, rfl, rfl, trivial⟩, rfl, rfl⟩
      rintro ⟨r, q, bd⟩ ⟨w1, w2, w3⟩
      dsimp only at w1 w2 w3
      refine wp_goF tokT hA hS [31] ?_
      cbv
      refine bm (fun c3 => ?_) (fun c3 => ?_)
      · have hq' : q < n := yltL hA hSl w2 c3
        obtain ⟨z, hz⟩ : ∃ z, (allT s)[q]? = some z := ⟨_, List.getElem?_eq_getElem (by omega)⟩
        obtain ⟨zb, hzb⟩ : ∃ zb, zb = (workAt s z.1 z.2).b := ⟨_, rfl⟩
        obtain ⟨zx, hzx⟩ : ∃ zx, zx = bgT tb z.1 z.2 := ⟨_, rfl⟩
        obtain ⟨zy, hzy⟩ : ∃ zy, zy = enT s tb z.1 z.2 := ⟨_, rfl⟩
        obtain ⟨qi, hqi⟩ : ∃ qi : Int, qi = (q : Nat) := ⟨_, rfl⟩
        have hSq : SL[q]? = some (.agg [I qi, I zb, I zx, I zy]) := by rw [hSA, spL_get hz, spD, hqi, hzb, hzx, hzy]
        have iZ := yinbL hA hSl w2 hq'
        have gZ := yget hA w2 hSq
        have hfr := yfit1 hA w2 (by omega)
        have hw2 := ysucc hA w2
        have hmsr : n - (q + 1) < n - q := by omega
        have hzne : z ≠ (k, m) ↔ qi ≠ pi := by
          constructor
          · intro h e
            have e2 : q = p := by have := hpi.eq; omega
            rw [e2, hpa] at hz; exact h (Option.some.inj hz).symm
          · intro h e
            rw [e] at hz
            exact h (by rw [hqi, hpi.eq, (List.getElem?_inj (List.getElem?_eq_some_iff.1 hz).1 (prT_nodup s _ _)).1 (hz.trans hpa.symm)])
        have hstep : ∀ res, res = (bd || bumpT s tb (k, m) z) → res = (b0 || ((allT s).take (q + 1)).any (bumpT s tb (k, m))) := fun res h => by
          rw [h, any_succ hz, w3, Bool.or_assoc]
        have hbump : bumpT s tb (k, m) z = (decide (qi ≠ pi) && (decide (zb = b) && (decide (x < zy) && decide (zx < y)))) := by
          rw [bumpT, hzb, hzx, hzy, hbE, hxE, hyE, decide_eq_decide.2 hzne]
        cbv
        refine ⟨iZ, ⟨_, gZ, ?_⟩⟩
        cbv
        cases bd with
        | true =>
          have hnx := hstep true (by simp)
          refine at_code hS ?_
          refine wp_go tokT hA hS ?_
          cbv
          refine ⟨hfr, ?_⟩
          refine gs_loop (A.add r 1, q + 1, true) [0, 1] ⟨hq', hw2, hnx⟩ hmsr ?_
          exact ⟨by decide, pre0, ⟨rfl, rfl, trivial⟩, ⟨rfl, rfl, rfl, rfl, rfl, rfl, rfl, rfl, rfl, rfl, rfl, rfl, rfl, rfl, rfl, rfl, rfl, rfl, rfl, rfl, trivial⟩, rfl, rfl⟩
        | false =>
          refine region_part tokT hA hS [0, 1, 2, 3, 4, 5, 6] [7, 8, 9, 10, 11, 12, 13, 14, 15, 16, 17, 18, 19, 20, 21, 22, 23, 24, 25, 26, 27, 28, 29] rfl ?_
          cbv
          by_cases h1 : qi ≠ pi
          · refine part_is tokT hA hS 117 (.v (.bool true)) rfl (congrArg (fun b => D.v (.bool b)) (xneT1 hA h1)) [7, 8, 9, 10, 11, 12] [13, 14, 15, 16, 17, 18, 19, 20, 21, 22, 23, 24, 25, 26, 27, 28, 29] ?_
            cbv
            by_cases h2 : zb = b
            · refine part_is tokT hA hS 123 (.v (.bool true)) rfl (congrArg (fun b => D.v (.bool b)) (ceqT hA h2)) [13, 14, 15, 16, 17, 18, 19] [20, 21, 22, 23, 24, 25, 26, 27, 28, 29] ?_
              cbv
              by_cases h3 : x < zy
              · refine part_is tokT hA hS 130 (.v (.bool true)) rfl (congrArg (fun b => D.v (.bool b)) (yltT hA h3)) [20, 21, 22, 23, 24, 25, 26] [27, 28, 29] ?_
                cbv
                by_cases h4 : zx < y
                · refine part_is tokT hA hS 137 (.v (.bool true)) rfl (congrArg (fun b => D.v (.bool b)) (yltT hA h4)) [27, 28, 29] [] ?_
                  cbv
                  have hnx := hstep true (by rw [hbump]; simp [h1, h2, h3, h4])
                  refine at_ops hS (ops_go tokT hA hS ?_)
                  cbv
                  refine ⟨hfr, ?_⟩
                  refine gs_loop (A.add r 1, q + 1, true) [0, 1] ⟨hq', hw2, hnx⟩ hmsr ?_
                  exact ⟨by decide, pre0, ⟨rfl, rfl, trivial⟩, ⟨rfl, rfl, rfl, rfl, rfl, rfl, rfl, rfl, rfl, rfl, rfl, rfl, rfl, rfl, rfl, rfl, rfl, rfl, rfl, rfl, trivial⟩, rfl, rfl⟩
                · refine part_is tokT hA hS 137 (.v (.bool false)) rfl (congrArg (fun b => D.v (.bool b)) (yltF hA (Int.not_lt.1 h4))) [27, 28, 29] [] ?_
                  cbv
                  have hnx := hstep false (by rw [hbump]; simp [h1, h2, h3, h4])
                  refine at_ops hS (ops_go tokT hA hS ?_)
                  cbv
                  refine ⟨hfr, ?_⟩
                  refine gs_loop (A.add r 1, q + 1, false) [0, 1] ⟨hq', hw2, hnx⟩ hmsr ?_
                  exact ⟨by decide, pre0, ⟨rfl, rfl, trivial⟩, ⟨rfl, rfl, rfl, rfl, rfl, rfl, rfl, rfl, rfl, rfl, rfl, rfl, rfl, rfl, rfl, rfl, rfl, rfl, rfl, rfl, trivial⟩, rfl, rfl⟩
              · refine part_is tokT hA hS 130 (.v (.bool false)) rfl (congrArg (fun b => D.v (.bool b)) (yltF hA (Int.not_lt.1 h3))) [20, 21, 22, 23, 24, 25, 26, 27, 28, 29] [] ?_
                cbv
                have hnx := hstep false (by rw [hbump]; simp [h1, h2, h3])
                refine at_ops hS (ops_go tokT hA hS ?_)
                cbv
                refine ⟨hfr, ?_⟩
                refine gs_loop (A.add r 1, q + 1, false) [0, 1] ⟨hq', hw2, hnx⟩ hmsr ?_
                exact ⟨by decide, pre0, ⟨rfl, rfl, trivial⟩, ⟨rfl, rfl, rfl, rfl, rfl, rfl, rfl, rfl, rfl, rfl, rfl, rfl, rfl, rfl, rfl, rfl, rfl, rfl, rfl, rfl, trivial⟩, rfl, rfl⟩
            · refine part_is tokT hA hS 123 (.v (.bool false)) rfl (congrArg (fun b => D.v (.bool b)) (ceqF hA h2)) [13, 14, 15, 16, 17, 18, 19, 20, 21, 22, 23, 24, 25, 26, 27, 28, 29] [] ?_
              cbv
              have hnx := hstep false (by rw [hbump]; simp [h1, h2])
              refine at_ops hS (ops_go tokT hA hS ?_)
              cbv
              refine ⟨hfr, ?_⟩
              refine gs_loop (A.add r 1, q + 1, false) [0, 1] ⟨hq', hw2, hnx⟩ hmsr ?_
              exact ⟨by decide, pre0, ⟨rfl, rfl, trivial⟩, ⟨rfl, rfl, rfl, rfl, rfl, rfl, rfl, rfl, rfl, rfl, rfl, rfl, rfl, rfl, rfl, rfl, rfl, rfl, rfl, rfl, trivial⟩, rfl, rfl⟩
          · refine part_is tokT hA hS 117 (.v (.bool false)) rfl (congrArg (fun b => D.v (.bool b)) (xneF hA (Classical.not_not.1 h1))) [7, 8, 9, 10, 11, 12, 13, 14, 15, 16, 17, 18, 19, 20, 21, 22, 23, 24, 25, 26, 27, 28, 29] [] ?_
            cbv
            have hnx := hstep false (by rw [hbump]; simp [h1])
            refine at_ops hS (ops_go tokT hA hS ?_)
            cbv
            refine ⟨hfr, ?_⟩
            refine gs_loop (A.add r 1, q + 1, false) [0, 1] ⟨hq', hw2, hnx⟩ hmsr ?_
            exact ⟨by decide, pre0, ⟨rfl, rfl, trivial⟩, ⟨rfl, rfl, rfl, rfl, rfl, rfl, rfl, rfl, rfl, rfl, rfl, rfl, rfl, rfl, rfl, rfl, rfl, rfl, rfl, rfl, trivial⟩, rfl, rfl⟩
      · have hqn' : q = n := by have := ynltL hA hSl w2 c3; omega
        have hbd : bd = badT s tb (k, m) := by
          rw [hqn', hnA, List.take_length] at w3
          rw [w3, badT, hb0']
        cbv
        refine gs_done ?_
        cbv
        cases bd with
        | true =>
          have hpre : prT s k m ++ [(k, m)] <+: allT s := by rw [← prT_succ]; exact prT_pre k (m + 1) hkN (by omega)
          have hfd := hqf (k, m) (find_pre hpre v5 hbd.symm)
          have e1 : i = ((k : Nat) : Int) := u2.eq
          have e2 : j = ((m : Nat) : Int) := v2.eq
          have hfd' : Q (RA.ret (.tup [I i, I j, I 0])) [] := by rw [e1, e2]; exact hfd
          refine gs_done (gs_done ?_)
          cbv
          refine bm (fun c => Bool.noConfusion (hbt.symm.trans c)) (fun _ => ?_)
          cbv
          exact gh_view [] (by decide) pre0 (H' := []) (d' := .tup [I i, I j, I 0]) trivial rfl (gh_done hfd')
        | false =>
          have hrx : y = redT s tb k (m + 1) := by rw [redT, if_neg (Nat.succ_ne_zero m), hyE]; rfl
          have hnb : ∀ y ∈ prT s k (m + 1), badT s tb y = false := fun y hy => by
            rw [prT_succ] at hy
            rcases List.mem_append.1 hy with hy | hy
            · exact v5 y hy
            · rw [List.mem_singleton.1 hy]; exact hbd.symm
          cbv
          refine ⟨hfj, ?_⟩
          refine gs_loop (A.add j 1, m + 1, A.add at' 1, y) [0] ⟨hm, hv2, hp1, hrx, hnb⟩ hmsj ?_
          exact ⟨by decide, pre0, ⟨rfl, trivial⟩, ⟨rfl, rfl, rfl, rfl, rfl, rfl, rfl, rfl, rfl, rfl, rfl, rfl, rfl, rfl, trivial⟩, rfl, rfl⟩
    · have hm : m = M := by have := ynltL hA hWl v2 c2; omega
      have hn1 : IsI at' (prT s (k + 1) 0).length := by rw [prT_next, ← hM, ← hm]; exact v3
      have hn2 : ∀ y ∈ prT s (k + 1) 0, badT s tb y = false := by rw [prT_next, ← hM, ← hm]; exact v5
      cbv
      refine gs_done ?_
      cbv
      refine ⟨hf, ?_⟩
      refine gs_loop (A.add i 1, k + 1, at') [0] ⟨hk, hu2, hn1, hn2⟩ hms ?_
      exact ⟨by decide, pre0, ⟨rfl, trivial⟩, ⟨rfl, rfl, rfl, rfl, rfl, rfl, rfl, rfl, rfl, trivial⟩, rfl, rfl⟩
  · have hkN : k = N := by have := ynltL hA hTl u2 c; omega
    have hfd := hqn (find_none fun y hy => u4 y (by rw [hkN, hN]; exact hy))
    cbv
    refine gs_done ?_
    cbv
    refine bm (fun _ => ?_) (fun c => Bool.noConfusion (hbf.symm.trans c))
    cbv
    exact gh_view [] (by decide) pre0 (H' := []) (d' := .tup [I 0, I 0, I 11]) trivial rfl (gh_done hfd)
end
end Go.Proofs.YtmloogdalecilaaDoor
