/- Part AsB of the proofs about the benches of the accordion maker: see the last text of the claim for what is proved. -/
import Derived.Test.YtmloogdalecilaaDoorAsA
import Derived.Test.YtmloogdalecilaaDoorBenchB
import Derived.Test.YtmloogdalecilaaDoorBestC
set_option linter.unusedVariables false
set_option linter.unusedSimpArgs false
set_option linter.unnecessarySimpa false
set_option linter.constructorNameAsVariable false

/-! G2 -/
namespace Go.Proofs.YtmloogdalecilaaDoor
open Go Go.Abs Go.Proofs

theorem alloc_at (w : World) (o : Obj) : (w.alloc o).heap = w.heap.push o := rfl
theorem alloc_old {w : World} {o : Obj} {b : Nat} (h : b < w.heap.size) : (w.alloc o).heap[b]? = w.heap[b]? ∧ b < (w.alloc o).heap.size := by
  rw [alloc_at]; exact ⟨by rw [Array.getElem?_push, if_neg (Nat.ne_of_lt h)], by rw [Array.size_push]; omega⟩

/-- A block that nobody names. -/
theorem hr_garb {F : Fz} {μ : Mu} {H : List Blk} {w : World} (h : HR F μ H w) (o : Obj) : HR F μ H (w.alloc o) ∧ Post F μ H w F μ H (w.alloc o) := by
  have := hr_on (μ' := μ) (H' := H) (w' := w.alloc o) (fun _ => False) h (Nat.le_refl _) (fun _ _ => rfl) (fun _ _ => rfl) (fun _ _ _ => Iff.rfl) (fun _ h => h.elim) (by rw [alloc_at, Array.size_push]; omega) rfl rfl rfl
    (fun b hb _ => (alloc_old hb).1) (fun _ _ h => h.elim) (fun _ _ _ h => h.elim) (fun _ h => h.elim) (fun _ _ _ _ h => h.elim) (fun _ _ h => h.elim) (fun _ _ _ h => h.elim) (fun _ h => h.elim) (fun _ _ h => h.elim)
  exact ⟨this.1, this.2.1⟩

/-- errors.As: the error is an invalid. -/
theorem asHit (n m : Int) (Q) (hq : Q (RA.ret (.v (.bool true))) [.box (.agg [I n])]) : CallA Tryd.prog 107 [.ifc 146 (.agg [I n]), .ifc 151 (.b 0 0)] [.box (.agg [I m])] Q := by
  refine ⟨⟨_, Tryd.func107, by kernel_rfl, by kernel_rfl⟩, fun F μ vs w hr hl hv => ?_⟩
  have hsz : vs.size = 2 := hl.symm
  obtain ⟨x0, e0⟩ : ∃ x, vs[0]? = some x := ⟨_, Array.getElem?_eq_getElem (by omega)⟩
  obtain ⟨x1, e1⟩ : ∃ x, vs[1]? = some x := ⟨_, Array.getElem?_eq_getElem (by omega)⟩
  have hvs : vs = #[x0, x1] := by
    apply Array.ext_getElem?
    intro i
    match i with
    | 0 => rw [e0]; rfl
    | 1 => rw [e1]; rfl
    | i + 2 => rw [Array.getElem?_eq_none (by omega), Array.getElem?_eq_none (by simp)]
  obtain ⟨y0, rfl, h0⟩ := VR.ifc_inv (hv 0 _ x0 rfl e0)
  obtain ⟨y1, rfl, h1⟩ := VR.ifc_inv (hv 1 _ x1 rfl e1)
  obtain ⟨cs, rfl, hcl, hcv, -⟩ := VR.agg_inv h0
  have hcs : cs = #[.int .i64 n] := by
    have h2 : cs.size = 1 := hcl.symm
    obtain ⟨z, ez⟩ : ∃ z, cs[0]? = some z := ⟨_, Array.getElem?_eq_getElem (by omega)⟩
    have := VR.v_inv (hcv 0 _ z rfl ez)
    subst this
    apply Array.ext_getElem?
    intro i
    match i with
    | 0 => rw [ez]; rfl
    | i + 1 => rw [Array.getElem?_eq_none (by omega), Array.getElem?_eq_none (by simp)]
  subst hcs
  obtain ⟨b, m0, rfl, hμ⟩ : ∃ b m0, y1 = .pointer (some ⟨b, 0, none⟩) ∧ μ 0 = some (some (b, m0)) := by
    cases h1 with
    | cl _ _ hc => cases hc
    | b _ _ b m h => exact ⟨b, m, rfl, h⟩
  subst hvs
  have hblk : blkOf [Blk.box (.agg [I m])] 0 = some (1, [.agg [I m]]) := rfl
  rcases hr.row 0 1 _ hblk (by rw [hμ]; simp) with ⟨e, -⟩ | ⟨b', m', c, ty, e, hw, hcz, hle, hc⟩
  · rw [hμ] at e; cases e
  rw [hμ] at e; cases e
  obtain ⟨v0, g1, g2, g3⟩ := (hc 0 _ rfl).2 0 _ rfl
  have hv0 := VR.v_inv g3
  subst hv0
  have hcell : w.cell? ⟨b, 0, none⟩ = some (.int .i64 m) := by simp only [World.cell?, hw]; simpa using g1
  have hfz : w.frozen? ⟨b, 0, none⟩ = false := by simp [World.frozen?, hw]
  have hh := (hr.frz 0 0 hndlV F.kn).1
  have hcall := as_hit n ⟨b, 0, none⟩ _ w hh hcell hfz
  refine CallsIn.mono (callsIn_wide.2 hcall) fun e w' he => ?_
  obtain ⟨rfl, rfl⟩ := he
  obtain ⟨r1, p1⟩ := hr_garb hr (.cells #[.pointer (some ⟨b, 0, none⟩)] 151)
  obtain ⟨r2, p2⟩ := hr_garb r1 (.cells #[.pointer (some ⟨4, 151, none⟩), .pointer (some ⟨w.heap.size, 0, none⟩), .int .u64 150] 171)
  obtain ⟨r3, p3⟩ := hr_garb r2 (.cells #[.pointer (some ⟨4, 151, none⟩), .pointer (some ⟨w.heap.size, 0, none⟩), .int .u64 150] 171)
  obtain ⟨r4, p4⟩ := hr_garb r3 (.cells #[.int .i64 n] 146)
  have pp := ((p1.trans p2).trans p3).trans p4
  have hblt := (Array.getElem?_eq_some_iff.1 hw).1
  generalize hW : (((w.alloc (.cells #[.pointer (some ⟨b, 0, none⟩)] 151)).alloc (.cells #[.pointer (some ⟨4, 151, none⟩), .pointer (some ⟨w.heap.size, 0, none⟩), .int .u64 150] 171)).alloc (.cells #[.pointer (some ⟨4, 151, none⟩), .pointer (some ⟨w.heap.size, 0, none⟩), .int .u64 150] 171)).alloc (.cells #[.int .i64 n] 146) = W at r4 pp ⊢
  have hwW : W.heap[b]? = some (.cells c ty (0, 0)) := by
    rcases r4.row 0 1 _ hblk (by rw [hμ]; simp) with ⟨e, -⟩ | ⟨b2, m2, c2, ty2, e, hw2, -, -, -⟩
    · rw [hμ] at e; cases e
    · rw [← hW]
      have h3 : ∀ (w : World) (o : Obj), b < w.heap.size → (w.alloc o).heap[b]? = w.heap[b]? ∧ b < (w.alloc o).heap.size := fun w o h => alloc_old h
      rw [(h3 _ _ (h3 _ _ (h3 _ _ (h3 _ _ hblt).2).2).2).1, (h3 _ _ (h3 _ _ (h3 _ _ hblt).2).2).1, (h3 _ _ (h3 _ _ hblt).2).1, (h3 _ _ hblt).1]; exact hw
  have hlt0 : 0 < c.size := (Array.getElem?_eq_some_iff.1 (by simpa using g1)).1
  have hup := hr_upd (w' := W.setCell ⟨b, 0, none⟩ (.int .i64 n)) (x := .box (.agg [I n])) (c' := c.setIfInBounds 0 (.int .i64 n)) (sz' := 1) (es' := [.agg [I n]]) r4 hblk hμ hwW (by
      have hb2 := (Array.getElem?_eq_some_iff.1 hwW).1
      apply Array.ext_getElem?
      intro i
      simp only [World.setCell, Array.getElem?_modify, Array.getElem?_setIfInBounds]
      by_cases e : b = i
      · subst e; rw [if_pos rfl, if_pos rfl, if_pos hb2, hwW]; rfl
      · rw [if_neg e, if_neg e]) rfl rfl rfl (by simpa using hcz) (fun _ _ e => by cases e) rfl (by simpa using hle) (fun i d hd => by
      match i, hd with
      | 0, hd =>
        simp at hd; subst hd
        refine ⟨rfl, fun r cc hcc => ?_⟩
        match r, hcc with
        | 0, hcc => simp [D.cells] at hcc; subst hcc; exact ⟨.int .i64 n, by simp [Array.getElem?_setIfInBounds, hlt0], rfl, .cl _ _ (.v _ rfl)⟩
        | r + 1, hcc => simp [D.cells] at hcc
      | i + 1, hd => simp at hd)
  refine ⟨F, μ, [.box (.agg [I n])], .v (.bool true), ⟨pp.trans hup.2, hup.1, Nat.le_refl _, fun _ _ => rfl, fun k hk => ?_⟩, .cl _ _ (.v _ rfl), hq⟩
  match k, hk with
  | 0, hk => cases hk
  | k + 1, hk => simp [obOf] at hk
end Go.Proofs.YtmloogdalecilaaDoor

/-! G3 -/
namespace Go.Proofs.YtmloogdalecilaaDoor
open Go Go.Abs Go.Proofs

/-- The plan's numbers, one by one: an error, or the plan. -/
def scanP (s : Sh) : List Nat → List Int → Int × List Nat
  | p, [] => (0, p)
  | p, x :: r => if ¬ (0 ≤ x ∧ x ≤ (s.tasks.length : Int) - 1) then (3, p) else if (s.tasks.getD x.toNat default).works.length < p.count x.toNat + 1 then (6, p) else scanP s (p ++ [x.toNat]) r
def chkP (s : Sh) (pl : List Int) : Int := if (scanP s [] pl).1 ≠ 0 then (scanP s [] pl).1 else if (scanP s [] pl).2.length < nWorks s.tasks then 7 else 0
def chkSP (s : Sh) (pl : List Int) : Int := if chkS s ≠ 0 then chkS s else chkP s pl

/-- So far all is well. -/
structure ScOk (s : Sh) (pl : List Int) (p : List Nat) (k : Nat) : Prop where
  tk : pl.take k = p.map (fun i : Nat => (i : Int))
  len : p.length = k
  le : PlanLe s p
  sc : scanP s [] pl = scanP s p (pl.drop k)

theorem scOk_zero (s : Sh) (pl : List Int) : ScOk s pl [] 0 := ⟨rfl, rfl, ⟨fun i h => by simp at h, fun i _ => by simp⟩, rfl⟩

theorem scOk_err1 {s : Sh} {pl : List Int} {p : List Nat} {k : Nat} (h : ScOk s pl p k) {x : Int} (hx : pl[k]? = some x) (hc : ¬ (0 ≤ x ∧ x ≤ (s.tasks.length : Int) - 1)) : chkP s pl = 3 := by
  have hd : pl.drop k = x :: pl.drop (k + 1) := by
    obtain ⟨h1, h2⟩ := List.getElem?_eq_some_iff.1 hx
    rw [← h2]; exact List.drop_eq_getElem_cons h1
  have : (scanP s [] pl) = (3, p) := by rw [h.sc, hd, scanP, if_pos hc]
  rw [chkP, this]; rfl

theorem scOk_err2 {s : Sh} {pl : List Int} {p : List Nat} {k : Nat} (h : ScOk s pl p k) {x : Int} (hx : pl[k]? = some x) (hc : 0 ≤ x ∧ x ≤ (s.tasks.length : Int) - 1) (hn : (s.tasks.getD x.toNat default).works.length < p.count x.toNat + 1) : chkP s pl = 6 := by
  have hd : pl.drop k = x :: pl.drop (k + 1) := by
    obtain ⟨h1, h2⟩ := List.getElem?_eq_some_iff.1 hx
    rw [← h2]; exact List.drop_eq_getElem_cons h1
  have : (scanP s [] pl) = (6, p) := by rw [h.sc, hd, scanP, if_neg (fun h => h hc), if_pos hn]
  rw [chkP, this]; rfl

theorem scOk_next {s : Sh} {pl : List Int} {p : List Nat} {k : Nat} (h : ScOk s pl p k) {x : Int} (hx : pl[k]? = some x) (hc : 0 ≤ x ∧ x ≤ (s.tasks.length : Int) - 1) (hn : ¬ (s.tasks.getD x.toNat default).works.length < p.count x.toNat + 1) : ScOk s pl (p ++ [x.toNat]) (k + 1) := by
  have hd : pl.drop k = x :: pl.drop (k + 1) := by
    obtain ⟨h1, h2⟩ := List.getElem?_eq_some_iff.1 hx
    rw [← h2]; exact List.drop_eq_getElem_cons h1
  refine ⟨?_, by simp [h.len], ⟨fun i hi => ?_, fun i hi => ?_⟩, by rw [h.sc, hd, scanP, if_neg (fun h => h hc), if_neg hn]⟩
  · rw [List.take_add_one, hx, h.tk]; simp; omega
  · rcases List.mem_append.1 hi with hi | hi
    · exact h.le.lt i hi
    · simp at hi; omega
  · rw [List.count_append]
    have := h.le.cnt i hi
    by_cases e : i = x.toNat
    · rw [e] at this ⊢; rw [List.count_singleton_self]; omega
    · rw [List.count_singleton, if_neg (by simpa using fun h => e h.symm)]; omega

theorem sumn_zero (l : List Nat) : (l.map fun _ => 0).sum = 0 := by
  induction l with
  | nil => rfl
  | cons x l ih => rw [List.map_cons, List.sum_cons, ih]
theorem sumn_add (l : List Nat) (f g : Nat → Nat) : (l.map fun i => f i + g i).sum = (l.map f).sum + (l.map g).sum := by
  induction l with
  | nil => rfl
  | cons x l ih => simp only [List.map_cons, List.sum_cons]; rw [ih]; omega
theorem sumn_ind (x : Nat) : ∀ (l : List Nat), l.Nodup → (l.map fun i => if x = i then 1 else 0).sum = if x ∈ l then 1 else 0
  | [], _ => by simp
  | y :: l, hl => by
    obtain ⟨h1, h2⟩ := List.nodup_cons.1 hl
    rw [List.map_cons, List.sum_cons, sumn_ind x l h2]
    by_cases e : x = y
    · subst e; rw [if_pos rfl, if_neg h1, if_pos List.mem_cons_self]
    · rw [if_neg e]
      by_cases h : x ∈ l
      · rw [if_pos h, if_pos (List.mem_cons_of_mem _ h)]
      · rw [if_neg h, if_neg (fun h' => (List.mem_cons.1 h').elim e h)]

theorem sum_count (N : Nat) : ∀ (p : List Nat), (∀ i ∈ p, i < N) → ((List.range N).map fun i => p.count i).sum = p.length
  | [], _ => by simp only [List.count_nil, List.length_nil]; exact sumn_zero _
  | x :: p, h => by
    have ih := sum_count N p (fun i hi => h i (List.mem_cons_of_mem _ hi))
    have hx := h x List.mem_cons_self
    have e : (fun i => (x :: p).count i) = fun i => p.count i + if x = i then 1 else 0 := by
      funext i
      rw [List.count_cons]
      by_cases e : x = i
      · subst e; simp
      · rw [if_neg e, if_neg (by simpa using e)]
    rw [e, sumn_add, ih, sumn_ind x _ List.nodup_range, if_pos (List.mem_range.2 hx)]; rfl

theorem nWorks_range (s : Sh) : nWorks s.tasks = ((List.range s.tasks.length).map fun i => (s.tasks.getD i default).works.length).sum := by
  rw [nWorks]
  congr 1
  refine List.ext_getElem? fun j => ?_
  by_cases hj : j < s.tasks.length
  · simp [hj]
  · rw [List.getElem?_eq_none (by simp; omega), List.getElem?_eq_none (by simp; omega)]

theorem sum_le_le (l : List Nat) (f g : Nat → Nat) (h : ∀ i ∈ l, f i ≤ g i) : (l.map f).sum ≤ (l.map g).sum ∧ ((l.map f).sum = (l.map g).sum → ∀ i ∈ l, f i = g i) := by
  induction l with
  | nil => simp
  | cons x l ih =>
    obtain ⟨h1, h2⟩ := ih (fun i hi => h i (List.mem_cons_of_mem _ hi))
    have hx := h x List.mem_cons_self
    simp only [List.map_cons, List.sum_cons]
    refine ⟨by omega, fun e i hi => ?_⟩
    rcases List.mem_cons.1 hi with rfl | hi
    · omega
    · exact h2 (by omega) i hi

theorem mem_le_sumV : ∀ {l : List Nat} {x : Nat}, x ∈ l → x ≤ l.sum
  | y :: l, x, h => by
    rw [List.sum_cons]
    rcases List.mem_cons.1 h with rfl | h
    · omega
    · have := mem_le_sumV h; omega

theorem works_leV {s : Sh} {t : Tk} (hv : Val s) (ht : t ∈ s.tasks) : t.works.length ≤ 8 := by
  have hs := hv.sum
  have : t.works.length ≤ nWorks s.tasks := by
    rw [nWorks]
    exact mem_le_sumV (List.mem_map_of_mem ht)
  omega

/-- A plan that does not too much, and enough, is whole. -/
theorem whole_of {s : Sh} {p : List Nat} (h : PlanLe s p) : p.length ≤ nWorks s.tasks ∧ (nWorks s.tasks ≤ p.length → PlanOk s p) := by
  have h1 := sum_count s.tasks.length p h.lt
  have h2 := nWorks_range s
  obtain ⟨h3, h4⟩ := sum_le_le (List.range s.tasks.length) (fun i => p.count i) (fun i => (s.tasks.getD i default).works.length) (fun i hi => h.cnt i (List.mem_range.1 hi))
  refine ⟨by omega, fun hle => ⟨h.lt, fun i hi => h4 (by omega) i (List.mem_range.2 hi), by omega⟩⟩

theorem scOk_end {s : Sh} {pl : List Int} {p : List Nat} (h : ScOk s pl p pl.length) : chkP s pl = (if p.length < nWorks s.tasks then 7 else 0) ∧ pl = p.map (fun i : Nat => (i : Int)) := by
  have h1 : scanP s [] pl = (0, p) := by rw [h.sc, List.drop_length]; rfl
  exact ⟨by rw [chkP, h1]; rfl, by rw [← h.tk, List.take_length]⟩
end Go.Proofs.YtmloogdalecilaaDoor

/-! G4 -/
namespace Go.Proofs.YtmloogdalecilaaDoor
open Go Go.Abs Go.Proofs

/-- The error of a plan, as a value. -/
def badD (e : Int) : D := if e = 0 then .v .nilIface else .ifc 146 (.agg [I e])

set_option maxRecDepth 20000 in
set_option maxHeartbeats 4000000 in
/-- bench.checked, of any plan. -/
theorem bCheckedAny (s : Sh) (hv : Val s) (pl : List Int) (hpl : pl.length ≤ 1000000) (TL PL : List D) (hT : TL = s.tasks.map taskD) (hP : PL = pl.map I) (Q) (h0 : chkP s pl = 0 → Q (RA.ret (.v .nilIface)) []) (h1 : ∀ e, e = chkP s pl → e ≠ 0 → Q (RA.ret (.ifc 146 (.agg [I e]))) []) :
    CallA Tryd.prog 108 [.agg [I s.benches, .sl 3 TL], .sl 1 PL] [] Q := by
  obtain ⟨A, hA⟩ : ∃ A, A = ar := ⟨_, rfl⟩
  obtain ⟨N, hN⟩ : ∃ N, N = s.tasks.length := ⟨_, rfl⟩
  have hTl : TL.length = N := by rw [hT, hN]; simp
  have hPl : PL.length = pl.length := by rw [hP]; simp
  have hlen := hv.len
  obtain ⟨n0, hn0⟩ : ∃ n0, n0 = A.tn (A.oi (A.len TL)) := ⟨_, rfl⟩
  have hn0N : n0 = N := by rw [hn0, yoiL hA hTl]; subst hA; rfl
  have hrb : A.rep n0 (I 0) = cntD s [] 0 := by
    rw [hn0N, hN]; subst hA
    refine List.ext_getElem? fun j => ?_
    by_cases hj : j < s.tasks.length
    · rw [cntD_get hj]; simp [ar, hj]
    · rw [List.getElem?_eq_none (by simp [ar]; omega), List.getElem?_eq_none (by simp [cntD]; omega)]
  have hr1 : A.room (A.tn (A.oi (A.len TL))) 8 := by rw [← hn0, hn0N]; exact yroomN hA (by omega) (by decide)
  have hnn : A.nneg (A.oi (A.len TL)) := by subst hA; exact Int.natCast_nonneg _
  refine callA_start tokT hA Tryd.func108 rfl rfl rfl rfl rfl fun S hS => ?_
  cbv
  refine ⟨hnn, hr1, ?_⟩
  obtain ⟨CL, hCL⟩ : ∃ CL, CL = A.rep n0 (I 0) := ⟨_, rfl⟩
  refine at_code hS ?_
  refine wpa_loopG (α := Int × Nat × List D × List Nat) (fun q => { env := [(1, .sl 1 PL), (2, .b 0 0), (5, .o 1 1 n0), (12, .sl 1 PL), (13, I (A.oi (A.len PL))), (14, I q.1)], H := [.box (.agg [I s.benches, .sl 3 TL]), .els 1 q.2.2.1], nt := 55, dfs := [] })
    (fun q => pl.length - q.2.1) (fun q => q.2.1 ≤ pl.length ∧ IsI q.1 q.2.1 ∧ q.2.2.1 = cntD s q.2.2.2 q.2.2.2.length ∧ ScOk s pl q.2.2.2 q.2.1) (0, 0, CL, []) ⟨Nat.zero_le _, ⟨rfl⟩, hCL.trans hrb, scOk_zero s pl⟩ ?_ ?_
  · rw [hCL]
    exact gs_to [0, 1] ⟨by decide, pre0, ⟨rfl, by rw [hn0]; rfl, trivial⟩, ⟨rfl, rfl, by rw [hn0]; rfl, rfl, rfl, rfl, trivial⟩, rfl, rfl⟩
  rintro ⟨i, k, L, p⟩ ⟨u1, u2, u3, u4⟩
  dsimp only at u1 u2 u3 u4
  have hpk := u4.len
  have hLl : L.length = N := by rw [u3, hN]; simp [cntD]
  refine wp_goF tokT hA hS [] ?_
  cbv
  refine bm (fun c => ?_) (fun c => ?_)
  · have hk : k < pl.length := yltL hA hPl u2 c
    obtain ⟨x, hx⟩ : ∃ x, x = pl[k] := ⟨_, rfl⟩
    have hxk : pl[k]? = some x := by rw [hx]; exact List.getElem?_eq_getElem hk
    have hPk : PL[k]? = some (I x) := by rw [hP]; simp [hxk]
    obtain ⟨b, hb⟩ : ∃ b, b = decide (0 ≤ x ∧ x ≤ A.sub (A.oi (A.len TL)) 1) := ⟨_, rfl⟩
    have hbe : A.sub (A.oi (A.len TL)) 1 = (s.tasks.length : Int) - 1 := by rw [xsub hA, yoiL hA hTl, hN]
    have hf : A.fits .i64 (A.sub (A.oi (A.len TL)) 1) := xfitE hA hbe (by omega)
    have hin := yinbL hA hPl u2 hk
    have hg := yget hA u2 hPk
    have hfi := yfit1 hA u2 (by omega)
    have hu2 := ysucc hA u2
    have hms : pl.length - (k + 1) < pl.length - k := by omega
    cbv
    refine ⟨hin, ⟨_, hg, ?_⟩⟩
    cbv
    refine ⟨hf, ?_⟩
    refine ops_call hS [I x, I 0, I (A.sub (A.oi (A.len TL)) 1)] [] [] rfl rfl rfl rfl rfl rfl rfl rfl (by decide) trivial (bWith _ _ _ b hb _ ?_)
    refine ops_go tokT hA hS ?_
    cbv
    refine bm (fun c2 => ?_) (fun c2 => ?_)
    · have hbf : b = false := xnot hA c2
      have he := scOk_err1 u4 hxk (by rw [hb, hbe] at hbf; exact of_decide_eq_false hbf)
      have hq := h1 3 he.symm (by decide)
      cbv
      refine gs_done ?_
      cbv
      exact gh_view [] (by decide) pre0 (H' := []) (d' := .ifc 146 (.agg [I 3])) trivial rfl (gh_done hq)
    have hbt : b = true := xnnot hA c2
    have hxb : 0 ≤ x ∧ x ≤ (s.tasks.length : Int) - 1 := by rw [hb, hbe] at hbt; exact of_decide_eq_true hbt
    obtain ⟨y, hy⟩ : ∃ y, y = x.toNat := ⟨_, rfl⟩
    have hxI : IsI x y := ⟨by omega⟩
    have hyl : y < s.tasks.length := by omega
    obtain ⟨t, ht⟩ : ∃ t, t = s.tasks[y] := ⟨_, rfl⟩
    have htx : s.tasks[y]? = some t := by rw [ht]; exact List.getElem?_eq_getElem hyl
    have htd : s.tasks.getD x.toNat default = t := by rw [← hy, List.getD_eq_getElem?_getD, htx]; rfl
    have hwl8 : t.works.length ≤ 8 := works_leV hv (List.mem_of_getElem? htx)
    obtain ⟨WL, hWL⟩ : ∃ WL, WL = t.works.map workD := ⟨_, rfl⟩
    have hWl : WL.length = t.works.length := by rw [hWL]; simp
    have hTk : TL[y]? = some (.agg [I t.ready, I t.due, .sl 3 WL]) := by rw [hT]; simp [htx, hWL, taskD]
    obtain ⟨cI, hcI⟩ : ∃ z, IsI z (p.count y) := ⟨_, ⟨rfl⟩⟩
    have hcl : p.count y ≤ 1000000 := Nat.le_trans List.count_le_length (by omega)
    have hLx : L[y]? = some (I cI) := by
      have := cntD_get (p := p) (k := p.length) hyl
      rw [List.take_length] at this
      rw [u3, hcI.eq]; exact this
    have i1 : A.inb x n0 := yinb hA hxI (by omega)
    have g1 := yget hA hxI hLx
    have g2 := ysetGet hA hxI hLl (x := I (A.add cI 1)) (by omega)
    have i3 := yinbL hA hTl hxI (by omega)
    have g3 := yget hA hxI hTk
    have hfc := yfit1 hA hcI (by omega)
    have hset : A.set L (A.tn x) (I (A.add cI 1)) = cntD s (p ++ [x.toNat]) (p ++ [x.toNat]).length := yset hA hxI (by
      have hk2 : (p ++ [x.toNat])[p.length]? = some y := by rw [← hy]; simp
      have := cntD_set (s := s) hk2 hyl
      rw [List.length_append, List.length_singleton, this, u3, (ysucc hA hcI).eq]
      have e1 : (p ++ [x.toNat]).take p.length = p := by simp
      have e2 : cntD s (p ++ [x.toNat]) p.length = cntD s p p.length := by simp only [cntD, e1, List.take_length]
      rw [e1, e2])
    cbv
    refine ⟨i1, ⟨_, g1, ?_⟩⟩
    cbv
    refine ⟨hfc, i1, ⟨_, g1, ?_⟩⟩
    cbv
    refine draw_go tokT hA hS [0, 1, 2, 3, 4, 5, 6, 7, 8, 9, 10, 11] rfl rfl fun Dk hD => ?_
    cbv
    refine ⟨i1, ⟨_, g2, ?_⟩⟩
    cbv
    refine ⟨i3, ⟨_, g3, ?_⟩⟩
    cbv
    refine bm (fun c3 => ?_) (fun c3 => ?_)
    · have hgt : t.works.length < p.count y + 1 := by
        have h : A.oi (A.len WL) < A.add cI 1 := xgt hA c3
        rw [yoiL hA hWl, (ysucc hA hcI).eq] at h; omega
      have he := scOk_err2 u4 hxk hxb (by rw [htd, ← hy]; exact hgt)
      have hq := h1 6 he.symm (by decide)
      cbv
      refine gs_done ?_
      cbv
      exact gh_view [] (by decide) pre0 (H' := []) (d' := .ifc 146 (.agg [I 6])) trivial rfl (gh_done hq)
    · have hle : ¬ t.works.length < p.count y + 1 := by
        have h : A.add cI 1 ≤ A.oi (A.len WL) := xngt hA c3
        rw [yoiL hA hWl, (ysucc hA hcI).eq] at h; omega
      have hnx := scOk_next u4 hxk hxb (by rw [htd, ← hy]; exact hle)
      cbv
      refine ⟨hfi, ?_⟩
      refine gs_loop (A.add i 1, k + 1, A.set L (A.tn x) (I (A.add cI 1)), p ++ [x.toNat]) [0, 1] ⟨hk, hu2, hset, hnx⟩ hms ?_
      exact ⟨by decide, pre0, ⟨rfl, rfl, trivial⟩, ⟨rfl, rfl, rfl, rfl, rfl, rfl, trivial⟩, rfl, rfl⟩
  · have hk : k = pl.length := by have := ynltL hA hPl u2 c; omega
    rw [hk] at u4
    obtain ⟨he, hep⟩ := scOk_end u4
    have hpl2 : p.length = pl.length := by rw [hep]; simp
    obtain ⟨nw, hnw⟩ : ∃ x, IsI x (nWorks s.tasks) := ⟨_, ⟨rfl⟩⟩
    cbv
    refine gs_done ?_
    cbv
    refine ops_call hS [.agg [I s.benches, .sl 3 TL]] [] [] rfl rfl rfl rfl rfl rfl rfl rfl (by decide) trivial (bWorks s TL hT hlen (fun t ht => by have := works_leV hv ht; omega) nw hnw _ ?_)
    refine ops_go tokT hA hS ?_
    cbv
    refine bm (fun c2 => ?_) (fun c2 => ?_)
    · have hlt : p.length < nWorks s.tasks := by
        have h : A.oi (A.len PL) < nw := xlt hA c2
        rw [yoiL hA hPl, hnw.eq] at h; omega
      rw [if_pos hlt] at he
      have hq := h1 7 he.symm (by decide)
      cbv
      exact gh_view [] (by decide) pre0 (H' := []) (d' := .ifc 146 (.agg [I 7])) trivial rfl (gh_done hq)
    · have hlt : ¬ p.length < nWorks s.tasks := by
        have h : nw ≤ A.oi (A.len PL) := xnlt hA c2
        rw [yoiL hA hPl, hnw.eq] at h; omega
      rw [if_neg hlt] at he
      have hq := h0 he
      cbv
      exact gh_view [] (by decide) pre0 (H' := []) (d' := .v .nilIface) trivial rfl (gh_done hq)

set_option maxRecDepth 20000 in
set_option maxHeartbeats 4000000 in
/-- bench.checkPlan, of any shop and plan. -/
theorem bCheckPlanAny (s : Sh) (hs : Fin s) (pl : List Int) (hpl : pl.length ≤ 1000000) (TL PL : List D) (hT : TL = s.tasks.map taskD) (hP : PL = pl.map I) (n : Int) (hn : n = chkSP s pl) (Q) (hq : Q (RA.ret (I n)) []) :
    CallA Tryd.prog 77 [.agg [I s.benches, .sl 3 TL], .sl 1 PL] [] Q := by
  obtain ⟨A, hA⟩ : ∃ A, A = ar := ⟨_, rfl⟩
  obtain ⟨z, hz⟩ : ∃ z, z = chkS s := ⟨_, rfl⟩
  refine callA_start tokT hA Tryd.func77 rfl rfl rfl rfl rfl fun S hS => ?_
  cbv
  refine ops_call hS [.agg [I s.benches, .sl 3 TL]] [] [] rfl rfl rfl rfl rfl rfl rfl rfl (by decide) trivial (bCheck s hs TL hT z hz _ ?_)
  refine ops_go tokT hA hS ?_
  cbv
  refine bm (fun c => ?_) (fun c => ?_)
  · have hz0 : z ≠ 0 := xne hA c
    have e : n = z := by rw [hn, chkSP, if_pos (by rw [← hz]; exact hz0), hz]
    rw [e] at hq
    cbv
    exact gh_view [] (by decide) pre0 (H' := []) (d' := I z) trivial rfl (gh_done hq)
  have hz0 : chkS s = 0 := by rw [← hz]; exact xnne hA c
  have hv := chkS_val hz0
  have hnP : n = chkP s pl := by rw [hn, chkSP, if_neg (fun h => h hz0)]
  cbv
  refine ops_call hS [.agg [I s.benches, .sl 3 TL], .sl 1 PL] [] [] rfl rfl rfl rfl rfl rfl rfl rfl (by decide) trivial (bCheckedAny s hv pl hpl TL PL hT hP _ (fun h0 => ?_) fun e he hne => ?_)
  · have e : n = 0 := by rw [hnP, h0]
    rw [e] at hq
    refine ops_go tokT hA hS ?_
    cbv
    refine ops_call hS [.v .nilIface, .ifc 151 (.b 0 0)] [1] [.box (.agg [I 0])] rfl rfl rfl rfl rfl rfl rfl rfl (by decide) ⟨rfl, trivial⟩ (asNil 151 _ _ ?_)
    refine ops_go tokT hA hS ?_
    cbv
    exact gh_view [] (by decide) pre0 (H' := []) (d' := I 0) trivial rfl (gh_done hq)
  · have e2 : n = e := by rw [hnP, he]
    rw [e2] at hq
    refine ops_go tokT hA hS ?_
    cbv
    refine ops_call hS [.ifc 146 (.agg [I e]), .ifc 151 (.b 0 0)] [1] [.box (.agg [I 0])] rfl rfl rfl rfl rfl rfl rfl rfl (by decide) ⟨rfl, trivial⟩ (asHit e 0 _ ?_)
    refine ops_go tokT hA hS ?_
    cbv
    exact gh_view [] (by decide) pre0 (H' := []) (d' := I e) trivial rfl (gh_done hq)
end Go.Proofs.YtmloogdalecilaaDoor
