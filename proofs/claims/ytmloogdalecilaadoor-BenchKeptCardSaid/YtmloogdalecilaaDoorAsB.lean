/- Part AsB of the proofs about the benches of the accordion maker: see the last text of the claim for what is proved. -/
import Derived.Test.YtmloogdalecilaaDoorAsA
import Derived.Test.YtmloogdalecilaaDoorBenchB
import Derived.Test.YtmloogdalecilaaDoorBestC
set_option linter.unusedVariables false
set_option linter.unusedSimpArgs false
set_option linter.unnecessarySimpa false
set_option linter.constructorNameAsVariable false

/-! G2 -/
namespace Go.Proofs.YtmloogdalecilaaDoor
open Go Go.Abs Go.Proofs

theorem alloc_at (w : World) (o : Obj) : (w.alloc o).heap = w.heap.push o := rfl
theorem alloc_old {w : World} {o : Obj} {b : Nat} (h : b < w.heap.size) : (w.alloc o).heap[b]? = w.heap[b]? ∧ b < (w.alloc o).heap.size := by
  rw [alloc_at]; exact ⟨by rw [Array.getElem?_push, if_neg (Nat.ne_of_lt h)], by rw [Array.size_push]; omega⟩

/-- A block that nobody names. -/
theorem hr_garb {F : Fz} {μ : Mu} {H : List Blk} {w : World} (h : HR F μ H w) (o : Obj) : HR F μ H (w.alloc o) ∧ Post F μ H w F μ H (w.alloc o) := by
  have := hr_on (μ' := μ) (H' := H) (w' := w.alloc o) (fun _ => False) h (Nat.le_refl _) (fun _ _ => rfl) (fun _ _ => rfl) (fun _ _ _ => Iff.rfl) (fun _ h => h.elim) (by rw [alloc_at, Array.size_push]; omega) rfl rfl rfl
    (fun b hb _ => (alloc_old hb).1) (fun _ _ h => h.elim) (fun _ _ _ h => h.elim) (fun _ h => h.elim) (fun _ _ _ _ h => h.elim) (fun _ _ h => h.elim) (fun _ _ _ h => h.elim) (fun _ h => h.elim) (fun _ _ h => h.elim)
  exact ⟨this.1, this.2.1⟩

/-- errors.As: the error is an invalid. -/
theorem asHit (n m : Int) (Q) (hq : Q (RA.ret (.v (.bool true))) [.box (.agg [I n])]) : CallA Tryd.prog 107 [.ifc 146 (.agg [I n]), .ifc 151 (.b 0 0)] [.box (.agg [I m])] Q := by
  refine ⟨⟨_, Tryd.func107, by kernel_rfl, by kernel_rfl⟩, fun F μ vs w hr hl hv => ?_⟩
  have hsz : vs.size = 2 := hl.symm
  obtain ⟨x0, e0⟩ : ∃ x, vs[0]? = some x := ⟨_, Array.getElem?_eq_getElem (by omega)⟩
  obtain ⟨x1, e1⟩ : ∃ x, vs[1]? = some x := ⟨_, Array.getElem?_eq_getElem (by omega)⟩
  have hvs : vs = #[x0, x1] := by
    apply Array.ext_getElem?
    intro i
    match i with
    | 0 => rw [e0]; rfl
    | 1 => rw [e1]; rfl
    | i + 2 => rw [Array.getElem?_eq_none (by omega), Array.getElem?_eq_none (by simp)]
  obtain ⟨y0, rfl, h0⟩ := VR.ifc_inv (hv 0 _ x0 rfl e0)
  obtain ⟨y1, rfl, h1⟩ := VR.ifc_inv (hv 1 _ x1 rfl e1)
  obtain ⟨cs, rfl, hcl, hcv, -⟩ := VR.agg_inv h0
  have hcs : cs = #[.int .i64 n] := by
    have h2 : cs.size = 1 := hcl.symm
    obtain ⟨z, ez⟩ : ∃ z, cs[0]? = some z := ⟨_, Array.getElem?_eq_getElem (by omega)⟩
    have := VR.v_inv (hcv 0 _ z rfl ez)
    subst this
    apply Array.ext_getElem?
    intro i
    match i with
    | 0 => rw [ez]; rfl
    | i + 1 => rw [Array.getElem?_eq_none (by omega), Array.getElem?_eq_none (by simp)]
  subst hcs
  obtain ⟨b, m0, rfl, hμ⟩ : ∃ b m0, y1 = .pointer (some ⟨b, 0, none⟩) ∧ μ 0 = some (some (b, m0)) := by
    cases h1 with
    | cl _ _ hc => cases hc
    | b _ _ b m h => exact ⟨b, m, rfl, h⟩
  subst hvs
  have hblk : blkOf [Blk.box (.agg [I m])] 0 = some (1, [.agg [I m]]) := rfl
  rcases hr.row 0 1 _ hblk (by rw [hμ]; simp) with ⟨e, -⟩ | ⟨b', m', c, ty, e, hw, hcz, hle, hc⟩
  · rw [hμ] at e; cases e
  rw [hμ] at e; cases e
  obtain ⟨v0, g1, g2, g3⟩ := (hc 0 _ rfl).2 0 _ rfl
  have hv0 := VR.v_inv g3
  subst hv0
  have hcell : w.cell? ⟨b, 0, none⟩ = some (.int .i64 m) := by simp only [World.cell?, hw]; simpa using g1
  have hfz : w.frozen? ⟨b, 0, none⟩ = false := by simp [World.frozen?, hw]
  have hh := (hr.frz 0 0 hndlV F.kn).1
  have hcall := as_hit n ⟨b, 0, none⟩ _ w hh hcell hfz
  refine CallsIn.mono (callsIn_wide.2 hcall) fun e w' he => ?_
  obtain ⟨rfl, rfl⟩ := he
  obtain ⟨r1, p1⟩ := hr_garb hr (.cells #[.pointer (some ⟨b, 0, none⟩)] 151)
  obtain ⟨r2, p2⟩ := hr_garb r1 (.cells #[.pointer (some ⟨4, 151, none⟩), .pointer (some ⟨w.heap.size, 0, none⟩), .int .u64 150] 171)
  obtain ⟨r3, p3⟩ := hr_garb r2 (.cells #[.pointer (some ⟨4, 151, none⟩), .pointer (some ⟨w.heap.size, 0, none⟩), .int .u64 150] 171)
  obtain ⟨r4, p4⟩ := hr_garb r3 (.cells #[.int .i64 n] 146)
  have pp := ((p1.trans p2).trans p3).trans p4
  have hblt := (Array.getElem?_eq_some_iff.1 hw).1
  generalize hW : (((w.alloc (.cells #[.pointer (some ⟨b, 0, none⟩)] 151)).alloc (.cells #[.pointer (some ⟨4, 151, none⟩), .pointer (some ⟨w.heap.size, 0, none⟩), .int .u64 150] 171)).alloc (.cells #[.pointer (some ⟨4, 151, none⟩), .pointer (some ⟨w.heap.size, 0, none⟩), .int .u64 150] 171)).alloc (.cells #[.int .i64 n] 146) = W at r4 pp ⊢
  have hwW : W.heap[b]? = some (.cells c ty (0, 0)) := by
    rcases r4.row 0 1 _ hblk (by rw [hμ]; simp) with ⟨e, -⟩ | ⟨b2, m2, c2, ty2, e, hw2, -, -, -⟩
    · rw [hμ] at e; cases e
    · rw [← hW]
      have h3 : ∀ (w : World) (o : Obj), b < w.heap.size → (w.alloc o).heap[b]? = w.heap[b]? ∧ b < (w.alloc o).heap.size := fun w o h => alloc_old h
      rw [(h3 _ _ (h3 _ _ (h3 _ _ (h3 _ _ hblt).2).2).2).1, (h3 _ _ (h3 _ _ (h3 _ _ hblt).2).2).1, (h3 _ _ (h3 _ _ hblt).2).1, (h3 _ _ hblt).1]; exact hw
  have hlt0 : 0 < c.size := (Array.getElem?_eq_some_iff.1 (by simpa using g1)).1
  have hup := hr_upd (w' := W.setCell ⟨b, 0, none⟩ (.int .i64 n)) (x := .box (.agg [I n])) (c' := c.setIfInBounds 0 (.int .i64 n)) (sz' := 1) (es' := [.agg [I n]]) r4 hblk hμ hwW (by
      have hb2 := (Array.getElem?_eq_some_iff.1 hwW).1
      apply Array.ext_getElem?
      intro i
      simp only [World.setCell, Array.getElem?_modify, Array.getElem?_setIfInBounds]
      by_cases e : b = i
      · subst e; rw [if_pos rfl, if_pos rfl, if_pos hb2, hwW]; rfl
      · rw [if_neg e, if_neg e]) rfl rfl rfl (by simpa using hcz) (fun _ _ e => by cases e) rfl (by simpa using hle) (fun i d hd => by
      match i, hd with
      | 0, hd =>
        simp at hd; subst hd
        refine ⟨rfl, fun r cc hcc => ?_⟩
        match r, hcc with
        | 0, hcc => simp [D.cells] at hcc; subst hcc; exact ⟨.int .i64 n, by simp [Array.getElem?_setIfInBounds, hlt0], rfl, .cl _ _ (.v _ rfl)⟩
        | r + 1, hcc => simp [D.cells] at hcc
      | i + 1, hd => simp at hd)
  refine ⟨F, μ, [.box (.agg [I n])], .v (.bool true), ⟨pp.trans hup.2, hup.1, Nat.le_refl _, fun _ _ => rfl, fun k hk => ?_⟩, .cl _ _ (.v _ rfl), hq⟩
  match k, hk with
  | 0, hk => cases hk
  | k + 1, hk => simp [obOf] at hk
end Go.Proofs.YtmloogdalecilaaDoor

/-! G3 -/
namespace Go.Proofs.YtmloogdalecilaaDoor
open Go Go.Abs Go.Proofs

/-- The plan's numbers, one by one: an error, or the plan. -/
def scanP (s : Sh) : List Nat → List Int → Int × List Nat
  | p, [] => (0, p)
  | p, x :: r => if ¬ (0 ≤ x ∧ x ≤ (s.tasks.length : Int) - 1) then (3, p) else if (s.tasks.getD x.toNat default).works.length < p.count x.toNat + 1 then (6, p) else scanP s (p ++ [x.toNat]) r
def chkP (s : Sh) (pl : List Int) : Int := if (scanP s [] pl).1 ≠ 0 then (scanP s [] pl).1 else if (scanP s [] pl).2.length < nWorks s.tasks then 7 else 0
def chkSP (s : Sh) (pl : List Int) : Int := if chkS s ≠ 0 then chkS s else chkP s pl

/-- So far all is well. -/
structure ScOk (s : Sh) (pl : List Int) (p : List Nat) (k : Nat) : Prop where
  tk : pl.take k = p.map (fun i : Nat => (i : Int))
  len : p.length = k
  le : PlanLe s p
  sc : scanP s [] pl = scanP s p (pl.drop k)

theorem scOk_zero (s : Sh) (pl : List Int) : ScOk s pl [] 0 := ⟨rfl, rfl, ⟨fun i h => by simp at h, fun i _ => by simp⟩, rfl⟩

theorem scOk_err1 {s : Sh} {pl : List Int} {p : List Nat} {k : Nat} (h : ScOk s pl p k) {x : Int} (hx : pl[k]? = some x) (hc : ¬ (0 ≤ x ∧ x ≤ (s.tasks.length : Int) - 1)) : chkP s pl = 3 := by
  have hd : pl.drop k = x :: pl.drop (k + 1) := by
    obtain ⟨h1, h2⟩ := List.getElem?_eq_some_iff.1 hx
    rw [← h2]; exact List.drop_eq_getElem_cons h1
  have : (scanP s [] pl) = (3, p) := by rw [h.sc, hd, scanP, if_pos hc]
  rw [chkP, this]; rfl

theorem scOk_err2 {s : Sh} {pl : List Int} {p : List Nat} {k : Nat} (h : ScOk s pl p k) {x : Int} (hx : pl[k]? = some x) (hc : 0 ≤ x ∧ x ≤ (s.tasks.length : Int) - 1) (hn : (s.tasks.getD x.toNat default).works.length < p.count x.toNat + 1) : chkP s pl = 6 := by
  have hd : pl.drop k = x :: pl.drop (k + 1) := by
    obtain ⟨h1, h2⟩ := List.getElem?_eq_some_iff.1 hx
    rw [← h2]; exact List.drop_eq_getElem_cons h1
  have : (scanP s [] pl) = (6, p) := by rw [h.sc, hd, scanP, if_neg (fun h => h hc), if_pos hn]
  rw [chkP, this]; rfl

theorem scOk_next {s : Sh} {pl : List Int} {p : List Nat} {k : Nat} (h : ScOk s pl p k) {x : Int} (hx : pl[k]? = some x) (hc : 0 ≤ x ∧ x ≤ (s.tasks.length : Int) - 1) (hn : ¬ (s.tasks.getD x.toNat default).works.length < p.count x.toNat + 1) : ScOk s pl (p ++ [x.toNat]) (k + 1) := by
  have hd : pl.drop k = x :: pl.drop (k + 1) := by
    obtain ⟨h1, h2⟩ := List.getElem?_eq_some_iff.1 hx
    rw [← h2]; exact List.drop_eq_getElem_cons h1
  refine ⟨?_, by simp [h.len], ⟨fun i hi => ?_, fun i hi => ?_⟩, by rw [h.sc, hd, scanP, if_neg (fun h => h hc), if_neg hn]⟩
  · rw [List.take_add_one, hx, h.tk]; simp; omega
  · rcases List.mem_append.1 hi with hi | hi
    · exact h.le.lt i hi
    · simp at hi; omega
  · rw [List.count_append]
    have := h.le.cnt i hi
    by_cases e : i = x.toNat
    · rw [e] at this ⊢; rw [List.count_singleton_self]; omega
    · rw [List.count_singleton, if_neg (by simpa using fun h => e h.symm)]; omega

theorem sumn_zero (l : List Nat) : (l.map fun _ => 0).sum = 0 := by
  induction l with
  | nil => rfl
  | cons x l ih => rw [List.map_cons, List.sum_cons, ih]
theorem sumn_add (l : List Nat) (f g : Nat → Nat) : (l.map fun i => f i + g i).sum = (l.map f).sum + (l.map g).sum := by
  induction l with
  | nil => rfl
  | cons x l ih => simp only [List.map_cons, List.sum_cons]; rw [ih]; omega
theorem sumn_ind (x : Nat) : ∀ (l : List Nat), l.Nodup → (l.map fun i => if x = i then 1 else 0).sum = if x ∈ l then 1 else 0
  | [], _ => by simp
  | y :: l, hl => by
    obtain ⟨h1, h2⟩ := List.nodup_cons.1 hl
    rw [List.map_cons, List.sum_cons, sumn_ind x l h2]
    by_cases e : x = y
    · subst e; rw [if_pos rfl, if_neg h1, if_pos List.mem_cons_self]
    · rw [if_neg e]
      by_cases h : x ∈ l
      · rw [if_pos h, if_pos (List.mem_cons_of_mem _ h)]
      · rw [if_neg h, if_neg (fun h' => (List.mem_cons.1 h').elim e h)]

theorem sum_count (N : Nat) : ∀ (p : List Nat), (∀ i ∈ p, i < N) → ((List.range N).map fun i => p.count i).sum = p.length
  | [], _ => by simp only [List.count_nil, List.length_nil]; exact sumn_zero _
  | x :: p, h => by
    have ih := sum_count N p (fun i hi => h i (List.mem_cons_of_mem _ hi))
    have hx := h x List.mem_cons_self
    have e : (fun i => (x :: p).count i) = fun i => p.count i + if x = i then 1 else 0 := by
      funext i
      rw [List.count_cons]
      by_cases e : x = i
      · subst e; simp
      · rw [if_neg e, if_neg (by simpa using e)]
    rw [e, sumn_add, ih, sumn_ind x _ List.nodup_range, if_pos (List.mem_range.2 hx)]; rfl

theorem nWorks_range (s : Sh) : nWorks s.tasks = ((List.range s.tasks.length).map fun i => (s.tasks.getD i default).works.length).sum := by
  rw [nWorks]
  congr 1
  refine List.ext_getElem? fun j => ?_
  by_cases hj : j < s.tasks.length
  · simp [hj]
  · rw [List.getElem?_eq_none (by simp; omega), List.getElem?_eq_none (by simp; omega)]

theorem sum_le_le (l : List Nat) (f g : Nat → Nat) (h : ∀ i ∈ l, f i ≤ g i) : (l.map f).sum ≤ (l.map g).sum ∧ ((l.map f).sum = (l.map g).sum → ∀ i ∈ l, f i = g i) := by
  induction l with
  | nil => simp
  | cons x l ih =>
    obtain ⟨h1, h2⟩ := ih (fun i hi => h i (List.mem_cons_of_mem _ hi))
    have hx := h x List.mem_cons_self
    simp only [List.map_cons, List.sum_cons]
    refine ⟨by omega, fun e i hi => ?_⟩
    rcases List.mem_cons.1 hi with rfl | hi
    · omega
    · exact h2 (by omega) i hi

theorem mem_le_sumV : ∀ {l : List Nat} {x : Nat}, x ∈ l → x ≤ l.sum
  | y :: l, x, h => by
    rw [List.sum_cons]
    rcases List.mem_cons.1 h with rfl | h
    · omega
    · have := mem_le_sumV h; omega

theorem works_leV {s : Sh} {t : Tk} (hv : Val s) (ht : t ∈ s.tasks) : t.works.length ≤ 8 := by
  have hs := hv.sum
  have : t.works.length ≤ nWorks s.tasks := by
    rw [nWorks]
    exact mem_le_sumV (List.mem_map_of_mem ht)
  omega

/-- A plan that does not too much, and enough, is whole. -/
theorem whole_of {s : Sh} {p : List Nat} (h : PlanLe s p) : p.length ≤ nWorks s.tasks ∧ (nWorks s.tasks ≤ p.length → PlanOk s p) := by
  have h1 := sum_count s.tasks.length p h.lt
  have h2 := nWorks_range s
  obtain ⟨h3, h4⟩ := sum_le_le (List.range s.tasks.length) (fun i => p.count i) (fun i => (s.tasks.getD i default).works.length) (fun i hi => h.cnt i (List.mem_range.1 hi))
  refine ⟨by omega, fun hle => ⟨h.lt, fun i hi => h4 (by omega) i (List.mem_range.2 hi), by omega⟩⟩

theorem scOk_end {s : Sh} {pl : List Int} {p : List Nat} (h : ScOk s pl p pl.length) : chkP s pl = (if p.length < nWorks s.tasks then 7 else 0) ∧ pl = p.map (fun i : Nat => (i : Int)) := by
  have h1 : scanP s [] pl = (0, p) := by rw [h.sc, List.drop_length]; rfl
  exact ⟨by rw [chkP, h1]; rfl, by rw [← h.tk, List.take_length]⟩
end Go.Proofs.YtmloogdalecilaaDoor
