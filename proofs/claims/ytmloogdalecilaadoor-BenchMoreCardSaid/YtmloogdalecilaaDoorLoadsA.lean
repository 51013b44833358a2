/- Part LoadsA of the proofs about the benches of the accordion maker: see the last text of the claim for what is proved. -/
import Derived.Test.YtmloogdalecilaaDoorBestB
import Derived.Test.YtmloogdalecilaaDoorBenchB
set_option linter.unusedVariables false
set_option linter.unusedSimpArgs false
set_option linter.unnecessarySimpa false
set_option linter.constructorNameAsVariable false

/-! P9 -/
namespace Go.Proofs.YtmloogdalecilaaDoor
open Go Go.Abs Go.Proofs

/-! Loads, and the bound. -/
def sumI : List Int → Int
  | [] => 0
  | x :: l => x + sumI l

theorem sumI_app (a b : List Int) : sumI (a ++ b) = sumI a + sumI b := by
  induction a with
  | nil => simp [sumI]
  | cons x a ih => simp only [List.cons_append, sumI, ih]; omega

theorem sumI_btw {l : List Int} {lo hi : Int} (hlo : 0 ≤ lo) (h : ∀ x ∈ l, lo ≤ x ∧ x ≤ hi) : lo * l.length ≤ sumI l ∧ sumI l ≤ hi * l.length := by
  induction l with
  | nil => simp [sumI]
  | cons x l ih =>
    have h1 := h x List.mem_cons_self
    have h2 := ih (fun y hy => h y (List.mem_cons_of_mem _ hy))
    simp only [sumI, List.length_cons, Int.natCast_add, Int.mul_add]
    omega

/-- Hours of a bench. -/
def ldS (sd : Bool) (l : List Wk) (b : Nat) : Int := sumI (l.map fun w => if w.b = (b : Int) then sel sd w.lo w.hi else 0)
def ldD (B : Nat) (l : List Wk) : List D := (List.range B).map fun b => rngD (ldS false l b, ldS true l b)

theorem ldS_snoc (sd : Bool) (l : List Wk) (w : Wk) (b : Nat) : ldS sd (l ++ [w]) b = ldS sd l b + if w.b = (b : Int) then sel sd w.lo w.hi else 0 := by
  rw [ldS, List.map_append, sumI_app]; simp [sumI, ldS]

theorem ldD_get {B b : Nat} {l : List Wk} (h : b < B) : (ldD B l)[b]? = some (.agg [I (ldS false l b), I (ldS true l b)]) := by
  simp [ldD, List.getElem?_range h, rngD]

theorem ldD_len (B : Nat) (l : List Wk) : (ldD B l).length = B := by simp [ldD]

theorem ldD_zero (B : Nat) : ldD B [] = List.replicate B (.agg [I 0, I 0]) := by
  refine List.ext_getElem? fun j => ?_
  by_cases hj : j < B
  · rw [ldD_get hj, List.getElem?_replicate, if_pos hj]; rfl
  · rw [List.getElem?_eq_none (by rw [ldD_len]; omega), List.getElem?_eq_none (by simp; omega)]

theorem ldD_set {B b : Nat} {l : List Wk} {w : Wk} (h : b < B) (hb : IsI w.b b) : (ldD B l).set b (.agg [I (ldS false l b + w.lo), I (ldS true l b + w.hi)]) = ldD B (l ++ [w]) := by
  refine List.ext_getElem? fun j => ?_
  rw [List.getElem?_set]
  by_cases hj : j < B
  · rw [ldD_get (l := l) hj, ldD_get (l := l ++ [w]) hj, ldS_snoc, ldS_snoc, hb.eq]
    by_cases e : b = j
    · subst e; simp [ldD_len, h, sel]
    · rw [if_neg e, if_neg (by omega), if_neg (by omega)]; simp
  · rw [if_neg (by omega), List.getElem?_eq_none (by rw [ldD_len]; omega), List.getElem?_eq_none (by rw [ldD_len]; omega)]

/-- The works before a place. -/
def preW (s : Sh) (i k : Nat) : List Wk := (s.tasks.take i).flatMap (·.works) ++ (s.tasks.getD i default).works.take k

section
variable {s : Sh} {i k : Nat} {t : Tk} {w : Wk}

theorem getD_of (h : s.tasks[i]? = some t) : s.tasks.getD i default = t := by rw [List.getD_eq_getElem?_getD, h]; rfl

theorem preW_00 : preW s 0 0 = [] := by simp [preW]

theorem preW_succ (h : s.tasks[i]? = some t) (hw : t.works[k]? = some w) : preW s i (k + 1) = preW s i k ++ [w] := by
  rw [preW, preW, getD_of h, List.take_add_one, hw]; simp

theorem preW_all (h : s.tasks[i]? = some t) : preW s i t.works.length = preW s (i + 1) 0 := by
  rw [preW, preW, getD_of h, List.take_add_one, h]; simp

theorem mem_le_sum : ∀ {l : List Nat} {x : Nat}, x ∈ l → x ≤ l.sum
  | y :: l, x, h => by
    rw [List.sum_cons]
    rcases List.mem_cons.1 h with rfl | h
    · omega
    · have := mem_le_sum h; omega

theorem works_le (hv : Val s) (ht : t ∈ s.tasks) : t.works.length ≤ 8 := by
  have hs := hv.sum
  have : t.works.length ≤ nWorks s.tasks := by
    rw [nWorks]
    exact mem_le_sum (List.mem_map_of_mem ht)
  omega

theorem preW_mem (hv : Val s) : ∀ x ∈ preW s i k, 0 ≤ x.b ∧ x.b < s.benches ∧ 1 ≤ x.lo ∧ x.lo ≤ x.hi ∧ x.hi ≤ 20 := by
  intro x hx
  rw [preW, List.mem_append, List.mem_flatMap] at hx
  rcases hx with ⟨t, ht, hx⟩ | hx
  · exact hv.wk t (List.mem_of_mem_take ht) x hx
  · by_cases hi : i < s.tasks.length
    · exact hv.wk _ (getD_mem hi) x (List.mem_of_mem_take hx)
    · rw [List.getD_eq_getElem?_getD, List.getElem?_eq_none (by omega)] at hx
      cases k <;> cases hx

theorem flat_len (l : List Tk) (h : ∀ t ∈ l, t.works.length ≤ 8) : (l.flatMap (·.works)).length ≤ 8 * l.length := by
  induction l with
  | nil => simp
  | cons t l ih =>
    have h1 := h t List.mem_cons_self
    have h2 := ih (fun t' h' => h t' (List.mem_cons_of_mem _ h'))
    simp only [List.flatMap_cons, List.length_append, List.length_cons]; omega

theorem preW_len (hv : Val s) : (preW s i k).length ≤ 100 := by
  have hl := hv.len
  have h1 := flat_len (s.tasks.take i) (fun t h => works_le hv (List.mem_of_mem_take h))
  have h2 : (s.tasks.take i).length ≤ 4 := by rw [List.length_take]; omega
  have h3 : ((s.tasks.getD i default).works.take k).length ≤ 8 := by
    rw [List.length_take]
    by_cases hi : i < s.tasks.length
    · have := works_le hv (getD_mem hi (d := default)); omega
    · rw [List.getD_eq_getElem?_getD, List.getElem?_eq_none (by omega)]
      exact Nat.le_trans (Nat.min_le_right _ _) (Nat.zero_le _)
  rw [preW, List.length_append]; omega

theorem ldS_btw (hv : Val s) (sd : Bool) (b : Nat) : 0 ≤ ldS sd (preW s i k) b ∧ ldS sd (preW s i k) b ≤ 2000 := by
  have := sumI_btw (l := (preW s i k).map fun w => if w.b = (b : Int) then sel sd w.lo w.hi else 0) (lo := 0) (hi := 20) (by omega) (fun x hx => by
    obtain ⟨w, hw, rfl⟩ := List.mem_map.1 hx
    have := preW_mem hv w hw
    split
    · cases sd <;> simp only [sel] <;> omega
    · omega)
  rw [List.length_map] at this
  have hl := preW_len (i := i) (k := k) hv
  rw [ldS]; omega
end

/-- The longest that an order is worked at before a work, and behind one. -/
def preH (t : Tk) (k : Nat) : Int := t.ready + sumI ((t.works.take k).map (·.hi))
def sufH (t : Tk) (k : Nat) : Int := sumI ((t.works.drop k).map (·.hi))

theorem preH_suf (t : Tk) (k : Nat) : preH t t.works.length - preH t k = sufH t k := by
  have : sumI (t.works.map (·.hi)) = sumI ((t.works.take k).map (·.hi)) + sumI ((t.works.drop k).map (·.hi)) := by
    rw [← sumI_app, ← List.map_append, List.take_append_drop]
  rw [preH, preH, sufH, List.take_length]; omega

theorem preH_zero (t : Tk) : preH t 0 = t.ready := by simp [preH, sumI]

theorem preH_succ {t : Tk} {k : Nat} {w : Wk} (h : t.works[k]? = some w) : preH t (k + 1) = preH t k + w.hi := by
  rw [preH, preH, List.take_add_one, h, List.map_append, sumI_app]; simp [sumI]; omega

theorem preH_btw {s : Sh} (hv : Val s) {t : Tk} (ht : t ∈ s.tasks) (k : Nat) : 0 ≤ preH t k ∧ preH t k ≤ 1000 ∧ 0 ≤ sufH t k ∧ sufH t k ≤ 1000 := by
  have hr := hv.rd t ht
  have hw := works_le hv ht
  have h1 := sumI_btw (l := (t.works.take k).map (·.hi)) (lo := 0) (hi := 20) (by omega) (fun x hx => by
    obtain ⟨w, hw, rfl⟩ := List.mem_map.1 hx
    have := hv.wk t ht w (List.mem_of_mem_take hw); omega)
  have h2 := sumI_btw (l := (t.works.drop k).map (·.hi)) (lo := 0) (hi := 20) (by omega) (fun x hx => by
    obtain ⟨w, hw, rfl⟩ := List.mem_map.1 hx
    have := hv.wk t ht w (List.mem_of_mem_drop hw); omega)
  rw [List.length_map, List.length_take] at h1
  rw [List.length_map, List.length_drop] at h2
  rw [preH, sufH]; omega

def mnm (a x : Int) : Int := if a < 0 ∨ x < a then x else a
def frS (b : Int) (st : Int × Int × Int) (q : Int × Int × Wk) : Int × Int × Int := if q.2.2.b = b then (mnm st.1 q.1, mnm st.2.1 q.2.1, st.2.2 + q.2.2.hi) else st
def bnQ (t : Tk) : List (Int × Int × Wk) := (List.range t.works.length).map fun k => (preH t k, sufH t (k + 1), t.works.getD k default)
def preQ (s : Sh) (i k : Nat) : List (Int × Int × Wk) := (s.tasks.take i).flatMap bnQ ++ (bnQ (s.tasks.getD i default)).take k
/-- The first beginning, the least rest, and the load of a bench, so far. -/
def frAt (s : Sh) (b i k : Nat) : Int × Int × Int := (preQ s i k).foldl (frS b) (-1, -1, 0)

theorem bnQ_len (t : Tk) : (bnQ t).length = t.works.length := by simp [bnQ]
theorem bnQ_wk (t : Tk) : (bnQ t).map (·.2.2) = t.works := by
  rw [bnQ, List.map_map]
  refine List.ext_getElem? fun j => ?_
  by_cases hj : j < t.works.length
  · simp [List.getElem?_range hj, hj]
  · rw [List.getElem?_eq_none (by simp; omega), List.getElem?_eq_none (by omega)]

section
variable {s : Sh} {b i k : Nat} {t : Tk} {w : Wk}

theorem preQ_wk : (preQ s i k).map (·.2.2) = preW s i k := by
  rw [preQ, preW, List.map_append, List.map_flatMap, List.map_take, bnQ_wk]
  congr 2
  funext t
  exact bnQ_wk t

theorem frAt_00 : frAt s b 0 0 = (-1, -1, 0) := by simp [frAt, preQ]

theorem frAt_succ (h : s.tasks[i]? = some t) (hw : t.works[k]? = some w) : frAt s b i (k + 1) = frS b (frAt s b i k) (preH t k, sufH t (k + 1), w) := by
  have hk := (List.getElem?_eq_some_iff.1 hw).1
  have : (bnQ t)[k]? = some (preH t k, sufH t (k + 1), w) := by
    rw [bnQ, List.getElem?_map, List.getElem?_range hk]
    simp [hw]
  rw [frAt, frAt, preQ, preQ, getD_of h, List.take_add_one, this, ← List.append_assoc, List.foldl_append]
  rfl

theorem frAt_all (h : s.tasks[i]? = some t) : frAt s b i t.works.length = frAt s b (i + 1) 0 := by
  rw [frAt, frAt, preQ, preQ, getD_of h, List.take_add_one, h, ← bnQ_len t, List.take_length]; simp

/-- What is known of it. -/
structure FrOk (st : Int × Int × Int) (n : Nat) : Prop where
  f0 : -1 ≤ st.1
  f1 : st.1 ≤ 1000
  r0 : -1 ≤ st.2.1
  r1 : st.2.1 ≤ 1000
  l0 : 0 ≤ st.2.2
  l1 : st.2.2 ≤ 20 * n
  fl : 0 ≤ st.1 ↔ 0 < st.2.2

theorem fr_ok (b : Int) : ∀ (l : List (Int × Int × Wk)) (st : Int × Int × Int) (n : Nat), FrOk st n → (∀ q ∈ l, 0 ≤ q.1 ∧ q.1 ≤ 1000 ∧ 0 ≤ q.2.1 ∧ q.2.1 ≤ 1000 ∧ 1 ≤ q.2.2.hi ∧ q.2.2.hi ≤ 20) → FrOk (l.foldl (frS b) st) (n + l.length)
  | [], st, n, h, _ => h
  | q :: l, st, n, h, hq => by
    have h1 := hq q List.mem_cons_self
    have h2 : FrOk (frS b st q) (n + 1) := by
      obtain ⟨a1, a2, a3, a4, a5, a6, a7⟩ := h
      unfold frS mnm
      split
      · refine ⟨?_, ?_, ?_, ?_, ?_, ?_, ?_⟩ <;> simp only [] <;> (try split) <;> omega
      · exact ⟨a1, a2, a3, a4, a5, by omega, a7⟩
    have := fr_ok b l (frS b st q) (n + 1) h2 (fun q hq' => hq q (List.mem_cons_of_mem _ hq'))
    rw [List.length_cons, show n + (l.length + 1) = n + 1 + l.length by omega]
    exact this

theorem fr_load (b : Nat) : ∀ (l : List (Int × Int × Wk)) (st : Int × Int × Int), (l.foldl (frS b) st).2.2 = st.2.2 + ldS true (l.map (·.2.2)) b
  | [], st => by simp [ldS, sumI]
  | q :: l, st => by
    rw [List.foldl_cons, fr_load b l]
    simp only [ldS, List.map_cons, sumI, frS, sel]
    by_cases hc : q.2.2.b = (b : Int)
    · rw [if_pos hc, if_pos hc]; simp only []; omega
    · rw [if_neg hc, if_neg hc]; omega

theorem frAt_load : (frAt s b i k).2.2 = ldS true (preW s i k) b := by
  rw [frAt, fr_load, preQ_wk]; simp

theorem bnQ_mem (hv : Val s) (ht : t ∈ s.tasks) : ∀ q ∈ bnQ t, 0 ≤ q.1 ∧ q.1 ≤ 1000 ∧ 0 ≤ q.2.1 ∧ q.2.1 ≤ 1000 ∧ 1 ≤ q.2.2.hi ∧ q.2.2.hi ≤ 20 := by
  intro q hq
  obtain ⟨k, hk, rfl⟩ := List.mem_map.1 hq
  have h1 := preH_btw hv ht k
  have h2 := preH_btw hv ht (k + 1)
  have h3 := hv.wk t ht _ (getD_mem (List.mem_range.1 hk) (d := default))
  exact ⟨h1.1, h1.2.1, h2.2.2.1, h2.2.2.2, by simp only; omega, by simp only; omega⟩

theorem frAt_ok (hv : Val s) : FrOk (frAt s b i k) 100 := by
  have hl : (preQ s i k).length ≤ 100 := by
    have := preW_len (i := i) (k := k) hv
    rw [← preQ_wk, List.length_map] at this; exact this
  have := fr_ok b (preQ s i k) (-1, -1, 0) 0 ⟨by decide, by decide, by decide, by decide, by decide, by decide, by decide⟩ (fun q hq => by
    rw [preQ, List.mem_append, List.mem_flatMap] at hq
    rcases hq with ⟨t, ht, hq⟩ | hq
    · exact bnQ_mem hv (List.mem_of_mem_take ht) q hq
    · by_cases hi : i < s.tasks.length
      · exact bnQ_mem hv (getD_mem hi) q (List.mem_of_mem_take hq)
      · rw [List.getD_eq_getElem?_getD, List.getElem?_eq_none (by omega)] at hq
        have : bnQ (default : Tk) = [] := rfl
        simp [this] at hq)
  obtain ⟨a1, a2, a3, a4, a5, a6, a7⟩ := this
  exact ⟨a1, a2, a3, a4, a5, by unfold frAt; omega, a7⟩

/-- The hour before which no plan ends: by the orders alone, then by the benches, too. -/
def bd0 (s : Sh) (i : Nat) : Int := (s.tasks.take i).foldl (fun o t => max o (preH t t.works.length)) 0
def bdS (s : Sh) (o : Int) (b : Nat) : Int := if 0 < (frAt s b s.tasks.length 0).2.2 then max o ((frAt s b s.tasks.length 0).1 + (frAt s b s.tasks.length 0).2.2 + (frAt s b s.tasks.length 0).2.1) else o
def bdAt (s : Sh) (n : Nat) : Int := (List.range n).foldl (bdS s) (bd0 s s.tasks.length)

theorem bd0_zero : bd0 s 0 = 0 := rfl
theorem bd0_succ (h : s.tasks[i]? = some t) : bd0 s (i + 1) = max (bd0 s i) (preH t t.works.length) := by
  rw [bd0, List.take_add_one, h, List.foldl_append]; rfl
theorem bdAt_zero : bdAt s 0 = bd0 s s.tasks.length := rfl
theorem bdAt_succ (n : Nat) : bdAt s (n + 1) = bdS s (bdAt s n) n := by
  rw [bdAt, List.range_succ, List.foldl_append]; rfl
end

theorem mget_put (l : List (List Int × D)) (k k' : List Int) (d z : D) : ar.mget (ar.mput l k d) k' z = if k' = k then some d else ar.mget l k' z := by
  show some ((((match l.findIdx? (fun x : List Int × D => x.1 == k) with | some i => l.set i (k, d) | none => l ++ [(k, d)]).find? (fun x : List Int × D => x.1 == k')).map (fun x : List Int × D => x.2)).getD z) = if k' = k then some d else some (((l.find? (fun x : List Int × D => x.1 == k')).map (fun x : List Int × D => x.2)).getD z)
  have : ((match l.findIdx? (fun x : List Int × D => x.1 == k) with | some i => l.set i (k, d) | none => l ++ [(k, d)]).find? (fun x : List Int × D => x.1 == k')) = if k' = k then some (k, d) else l.find? (fun x : List Int × D => x.1 == k') := by
    induction l with
    | nil =>
      by_cases e : k' = k
      · subst e; simp
      · rw [if_neg e]; simp; exact fun h => e h.symm
    | cons x l ih =>
      rw [List.findIdx?_cons]
      by_cases hx : x.1 = k
      · rw [if_pos (by simpa using hx)]
        by_cases e : k' = k
        · subst e; simp
        · rw [if_neg e]
          have h1 : ¬ (k = k') := fun h => e h.symm
          have h2 : ¬ (x.1 = k') := fun h => e (h.symm.trans hx)
          simp [h1, h2]
      · rw [if_neg (by simpa using hx)]
        have e2 : (match Option.map (fun i => i + 1) (List.findIdx? (fun x => x.1 == k) l) with | some i => (x :: l).set i (k, d) | none => x :: l ++ [(k, d)]) = x :: (match l.findIdx? (fun x : List Int × D => x.1 == k) with | some i => l.set i (k, d) | none => l ++ [(k, d)]) := by
          cases l.findIdx? (fun x : List Int × D => x.1 == k) <;> rfl
        rw [e2, List.find?_cons, ih, List.find?_cons]
        by_cases e : k' = k
        · subst e
          rw [if_pos rfl, if_pos rfl]
          have : (x.1 == k') = false := by simpa using hx
          rw [this]
        · rw [if_neg e, if_neg e]
  rw [this]
  split <;> rfl

/-- What a table of hours tells: all places before one. -/
def HeadOk (s : Sh) (A : Ar) (ents : List (List Int × D)) (i k : Nat) : Prop := ∀ i' k' t x y, s.tasks[i']? = some t → IsI x i' → IsI y k' → (i' < i ∧ k' ≤ t.works.length ∨ i' = i ∧ k' < k) → A.mget ents [x, y] (I 0) = some (I (preH t k'))

theorem head_put {s : Sh} {A : Ar} (hA : A = ar) {ents : List (List Int × D)} {i k : Nat} {t : Tk} {x y v : Int} (h : HeadOk s A ents i k) (ht : s.tasks[i]? = some t) (hx : IsI x i) (hy : IsI y k) (hv : v = preH t k) : HeadOk s A (A.mput ents [x, y] (I v)) i (k + 1) := by
  subst hA
  intro i' k' t' x' y' ht' hx' hy' hc
  rw [mget_put]
  split
  · rename_i e
    have e1 : x' = x := by injection e
    have e2 : y' = y := by injection e with _ e; injection e
    have e3 : i' = i := by have a1 := hx.eq; have a2 := hx'.eq; omega
    have e4 : k' = k := by have a1 := hy.eq; have a2 := hy'.eq; omega
    subst e3; subst e4
    rw [ht] at ht'; cases ht'
    rw [hv]
  · rename_i e
    refine h i' k' t' x' y' ht' hx' hy' ?_
    rcases hc with hc | ⟨hc, hk⟩
    · exact .inl hc
    · refine .inr ⟨hc, ?_⟩
      by_cases e2 : k' = k
      · exfalso; apply e
        have a1 := hx.eq; have a2 := hx'.eq; have a3 := hy.eq; have a4 := hy'.eq
        rw [show x' = x by rw [a1, a2, hc], show y' = y by rw [a3, a4, e2]]
      · omega

theorem head_next {s : Sh} {A : Ar} {ents : List (List Int × D)} {i : Nat} {t : Tk} (ht : s.tasks[i]? = some t) (h : HeadOk s A ents i (t.works.length + 1)) : HeadOk s A ents (i + 1) 0 := by
  intro i' k' t' x' y' ht' hx' hy' hc
  refine h i' k' t' x' y' ht' hx' hy' ?_
  rcases hc with ⟨hc, hk⟩ | ⟨hc, hk⟩
  · by_cases e : i' = i
    · subst e; rw [ht] at ht'; cases ht'; exact .inr ⟨rfl, by omega⟩
    · exact .inl ⟨by omega, hk⟩
  · omega
end Go.Proofs.YtmloogdalecilaaDoor
