/- Part BatJ of the proofs about the benches of the accordion maker: see the last text of the claim for what is proved. -/
import Derived.Test.YtecfpfhkicapeaaBatI
import Derived.Test.YtecfpfhkicapeaaSaysB
set_option linter.unusedVariables false
set_option linter.unusedSimpArgs false
set_option linter.unnecessarySimpa false
set_option linter.constructorNameAsVariable false

/-! T31 -/
namespace Go.Proofs.Ytecfpfhkicapeaa
open Go Go.Abs Go.Proofs Go.Batch
set_option maxRecDepth 20000 in
set_option maxHeartbeats 2000000 in
/-- Pot.Pick. -/
theorem kPick (x n : Int) (m : Nat) (hn : IsI n m) (hm : m ≤ 1000) (Q) (hq : ∀ (q : List Nat) (QL : List D) x', Asc m q → QL = natD q → Q (RA.ret (.sl 1 QL)) [pot x']) :
    CallA Try.prog 53 [.b 0 0, I n] [pot x] Q := by
  obtain ⟨A, hA⟩ : ∃ A, A = ar := ⟨_, rfl⟩
  refine callA_start tokT hA Try.func53 rfl rfl rfl rfl rfl fun S hS => ?_
  cbv
  refine at_code hS ?_
  refine wpa_loopG (α := Int × Nat × Int × List Nat × Nat × List D) (fun q => { env := [(0, .b 0 0), (1, I n), (5, .o 1 1 q.2.2.2.2.1), (6, I q.1)], H := [pot q.2.2.1, .els 1 q.2.2.2.2.2], nt := 19, dfs := [] })
    (fun q => m - q.2.1) (fun q => q.2.1 ≤ m ∧ IsI q.1 q.2.1 ∧ Asc q.2.1 q.2.2.2.1 ∧ q.2.2.2.2.1 = q.2.2.2.1.length ∧ q.2.2.2.2.2 = natD q.2.2.2.1) (0, 0, x, [], 0, []) ⟨Nat.zero_le _, ⟨rfl⟩, asc_nil _, rfl, rfl⟩ ?_ ?_
  · refine gs_virt 5 1 rfl ?_
    exact gs_to [0, 1] ⟨by decide, pre1, ⟨rfl, rfl, trivial⟩, ⟨rfl, rfl, rfl, rfl, trivial⟩, rfl, rfl⟩
  rintro ⟨i, k, y, q, c, L⟩ ⟨u1, u2, u3, u4, u5⟩
  dsimp only at u1 u2 u3 u4 u5
  have hLl : L.length = c := by rw [u5, u4]; simp [natD]
  have hc6 : c ≤ 1000000 := by rw [u4]; have := u3.len; omega
  have hyes : A.cmp .lss i n = true → k < m := fun c => by have := xlt hA c; have := u2.eq; have := hn.eq; omega
  have hno : A.cmp .lss i n = false → k = m := fun c => by have := xnlt hA c; have := u2.eq; have := hn.eq; omega
  refine wp_go tokT hA hS ?_
  cbv
  refine bm (fun c1 => ?_) (fun c1 => ?_)
  · have hk := hyes c1
    have hf1 := yfit1 hA u2 (by omega)
    have hu2 := ysucc hA u2
    have hms : m - (k + 1) < m - k := by omega
    have hq1 : Asc (k + 1) (q ++ [k]) := u3.snoc (Nat.lt_succ_self k)
    have hc1 : A.addN c 1 = (q ++ [k]).length := by rw [xaddN hA, u4]; simp
    have hL1 : A.app L [I i] = natD (q ++ [k]) := by rw [xapp hA, u5, u2.eq]; simp [natD]
    have hq2 : Asc (k + 1) q := u3.mono (by omega)
    cbv
    refine ops_call hS [.b 0 0, I 1, I 2] [0] [pot y] rfl rfl rfl rfl rfl rfl rfl rfl (by decide) ⟨rfl, trivial⟩ (odds y 1 2 (by omega) _ fun b y' => ?_)
    cases b with
    | true =>
      refine ops_go tokT hA hS ?_
      cbv
      refine ⟨yeqLen hA hLl, yeqLen hA rfl, yroom1 hA hc6 (by decide), hf1, ?_⟩
      refine gs_loop (A.add i 1, k + 1, y', q ++ [k], A.addN c 1, A.app L [I i]) [0, 3] ⟨hk, hu2, hq1, hc1, hL1⟩ hms ?_
      exact ⟨by decide, pre1, ⟨rfl, rfl, trivial⟩, ⟨rfl, rfl, rfl, rfl, trivial⟩, rfl, rfl⟩
    | false =>
      refine ops_go tokT hA hS ?_
      cbv
      refine ⟨hf1, ?_⟩
      refine gs_loop (A.add i 1, k + 1, y', q, c, L) [0, 1] ⟨hk, hu2, hq2, u4, u5⟩ hms ?_
      exact ⟨by decide, pre1, ⟨rfl, rfl, trivial⟩, ⟨rfl, rfl, rfl, rfl, trivial⟩, rfl, rfl⟩
  · have hk := hno c1
    have hq1 : Asc m q := hk ▸ u3
    have hz := hq q L y hq1 u5
    cbv
    refine gs_done ?_
    cbv
    refine gh_frz [1] ?_
    cbv
    exact ⟨by cases L <;> exact hLl.symm, gh_view [0] (by decide) pre1 (H' := [pot y]) (d' := .sl 1 L) ⟨rfl, trivial⟩ rfl (gh_done hz)⟩
set_option maxRecDepth 20000 in
set_option maxHeartbeats 2000000 in
/-- Place. -/
theorem kPlace (l : List Int) (hl : l.length ≤ 1000000) (L : List D) (hL : L = l.map I) (v : Int) (Q) (hq : ∀ r, (0 ≤ r ↔ v ∈ l) → Q (RA.ret (I r)) []) : CallA Try.prog 65 [.sl 1 L, I v] [] Q := by
  obtain ⟨A, hA⟩ : ∃ A, A = ar := ⟨_, rfl⟩
  have hLl : L.length = l.length := by rw [hL]; simp
  refine callA_start tokT hA Try.func65 rfl rfl rfl rfl rfl fun S hS => ?_
  cbv
  refine at_code hS ?_
  refine wpa_loopG (α := Int × Nat) (fun q => { env := [(0, .sl 1 L), (1, I v), (5, I q.1)], H := [], nt := 19, dfs := [] })
    (fun q => l.length - q.2) (fun q => q.2 ≤ l.length ∧ IsI q.1 q.2 ∧ ∀ x ∈ l.take q.2, x ≠ v) (0, 0) ⟨Nat.zero_le _, ⟨rfl⟩, fun x h => by simp at h⟩ ?_ ?_
  · exact gs_to [] ⟨by decide, pre0, trivial, ⟨rfl, rfl, rfl, trivial⟩, rfl, rfl⟩
  rintro ⟨i, k⟩ ⟨u1, u2, u3⟩
  dsimp only at u1 u2 u3
  have hyes : A.cmp .lss i (A.oi (A.len L)) = true → k < l.length := fun c => yltL hA hLl u2 c
  have hno : A.cmp .lss i (A.oi (A.len L)) = false → k = l.length := fun c => by have := ynltL hA hLl u2 c; omega
  refine wp_go tokT hA hS ?_
  cbv
  refine bm (fun c => ?_) (fun c => ?_)
  · have hk := hyes c
    obtain ⟨e, he⟩ : ∃ e, l[k]? = some e := ⟨_, List.getElem?_eq_getElem hk⟩
    have gL := yget hA u2 (show L[k]? = some (I e) by rw [hL, List.getElem?_map, he]; rfl)
    have iL := yinbL hA hLl u2 hk
    have hf1 := yfit1 hA u2 (by omega)
    have hu2 := ysucc hA u2
    have hms : l.length - (k + 1) < l.length - k := by omega
    have hit : A.cmp .eql e v = true → Q (RA.ret (I i)) [] := fun h => hq i ⟨fun _ => by rw [← xeq hA h]; exact List.mem_of_getElem? he, fun _ => by have := u2.eq; omega⟩
    have hms2 : A.cmp .eql e v = false → ∀ x ∈ l.take (k + 1), x ≠ v := fun h x hx => by
      rw [List.take_add_one, he] at hx
      rcases List.mem_append.1 hx with hx | hx
      · exact u3 x hx
      · simp at hx; subst hx; exact xneq hA h
    cbv
    refine ⟨iL, ⟨_, gL, ?_⟩⟩
    cbv
    refine bm (fun c1 => ?_) (fun c1 => ?_)
    · have hz := hit c1
      cbv
      refine gs_done ?_
      cbv
      exact gh_view [] (by decide) pre0 (H' := []) (d' := I i) trivial rfl (gh_done hz)
    · have hz := hms2 c1
      cbv
      refine ⟨hf1, ?_⟩
      refine gs_loop (A.add i 1, k + 1) [] ⟨hk, hu2, hz⟩ hms ?_
      exact ⟨by decide, pre0, trivial, ⟨rfl, rfl, rfl, trivial⟩, rfl, rfl⟩
  · have hk := hno c
    have hz := hq (-1) ⟨fun h => absurd h (by decide), fun h => absurd rfl (u3 v (by rw [hk, List.take_length]; exact h))⟩
    cbv
    refine gs_done ?_
    cbv
    exact gh_view [] (by decide) pre0 (H' := []) (d' := I (-1)) trivial rfl (gh_done hz)
theorem chkGs_asc {n : Nat} : ∀ (l : List Nat) (p : Option Int), (∀ x ∈ l, x < n ∧ p.all (fun q => decide (q < (x : Int))) = true) → l.Pairwise (· < ·) → chkGs (n : Int) p (l.map fun i : Nat => (i : Int)) = 0
  | [], _, _, _ => rfl
  | x :: l, p, h, hp => by
    have h1 := h x (by simp)
    have hc := List.pairwise_cons.1 hp
    simp only [List.map_cons, chkGs]
    rw [if_neg (fun g => g ⟨by omega, by omega⟩), if_neg]
    · exact chkGs_asc l _ (fun y hy => ⟨(h y (by simp [hy])).1, by simp; exact hc.1 y hy⟩) hc.2
    · intro g
      cases p with
      | none => simp at g
      | some q =>
        have h2 := h1.2
        simp at g h2; omega
theorem asc_chk {n : Nat} {l : List Nat} (h : Asc n l) : chkG (n : Int) (l.map fun i : Nat => (i : Int)) = 0 := chkGs_asc l none (fun x hx => ⟨h.lt x hx, rfl⟩) h.pw
theorem nat_back (l : List Nat) : (l.map fun i : Nat => (i : Int)).map Int.toNat = l := by
  rw [List.map_map]; exact (List.map_congr_left fun i _ => Int.toNat_natCast i).trans (List.map_id _)
section
variable {j : Jn} {ins : Int} {N n m : Nat} {FL ML : List D}
theorem MdJ.recall (h : MdJ j ins N n m FL ML) {NB : Nat} (hNB : NB = (binsOf j.moves).length) {l : List Nat} (hl : Asc NB l) {XL : List D} (hX : XL = natD l) (Q) (hq : ∀ L, L = (recallJ j l).map I → Q (RA.ret (.tup [.sl 1 L, I 0])) []) :
    CallA Try.prog 57 [.agg [I ins, .sl 1 FL, .sl 5 ML], .sl 1 XL] [] Q := by
  have e := h.ie
  subst e
  have hc := asc_chk hl
  rw [hNB] at hc
  have hb := h.ok.b4
  have hn := hl.len
  refine bRecall j h.fl h.ml (l.map fun i : Nat => (i : Int)) (lim (by simp; omega)) FL ML XL h.F h.M (by rw [hX, natD, List.map_map]; rfl) Q (fun e h1 h2 => no_err h.c0 h1 h2) (fun _ e h1 h2 => absurd (h1.trans hc) h2) (fun _ _ g => no_std h.st g) (fun _ _ _ L hL => hq L ?_)
  rw [hL, nat_back]
theorem MdJ.has (h : MdJ j ins N n m FL ML) {NB : Nat} (hNB : NB = (binsOf j.moves).length) {l : List Nat} (hl : Asc NB l) {XL : List D} (hX : XL = natD l) (Q) (hq : ∀ L, L = (hasJ j l).map I → Q (RA.ret (.tup [.sl 1 L, I 0])) []) :
    CallA Try.prog 55 [.agg [I ins, .sl 1 FL, .sl 5 ML], .sl 1 XL] [] Q := by
  have e := h.ie
  subst e
  have hc := asc_chk hl
  rw [hNB] at hc
  have hb := h.ok.b4
  have hn := hl.len
  refine bHas j h.fl h.ml (l.map fun i : Nat => (i : Int)) (lim (by simp; omega)) FL ML XL h.F h.M (by rw [hX, natD, List.map_map]; rfl) Q (fun e h1 h2 => no_err h.c0 h1 h2) (fun _ e h1 h2 => absurd (h1.trans hc) h2) (fun _ _ g => no_std h.st g) (fun _ _ _ L hL => hq L ?_)
  rw [hL, nat_back]
end
end Go.Proofs.Ytecfpfhkicapeaa

/-! T33 -/
namespace Go.Proofs.Ytecfpfhkicapeaa
open Go Go.Abs Go.Proofs Go.Batch
/-- Pot.Narrow. -/
theorem kNarrow (x lo hi n : Int) (h : -1000000 ≤ lo ∧ lo ≤ n ∧ n ≤ hi ∧ hi ≤ 1000000) (Q) (hq : ∀ a b x', lo ≤ a → a ≤ b → b ≤ hi → Q (RA.ret (.agg [I a, I b])) [pot x']) :
    CallA Try.prog 61 [.b 0 0, .agg [I lo, I hi], I n] [pot x] Q := by
  obtain ⟨A, hA⟩ : ∃ A, A = ar := ⟨_, rfl⟩
  have hl1 : lo ≤ n := h.2.1
  have hl2 : n ≤ hi := h.2.2.1
  refine callA_start tokT hA Try.func61 rfl rfl rfl rfl rfl fun S hS => ?_
  cbv
  refine draw_go tokT hA hS [0, 1, 2, 3, 4, 5, 6, 7, 11, 12, 13, 14, 15, 16, 17, 18, 8, 9, 10, 19, 20, 21, 22, 23] rfl rfl fun Dk hD => ?_
  cbv
  refine draw_call hA hD [.b 0 0, I lo, I n] [0] [pot x] rfl rfl rfl rfl rfl rfl rfl rfl rfl rfl rfl (by decide) ⟨rfl, trivial⟩ (within x lo n (by omega) _ fun u xu hu1 hu2 => ⟨by cbv, draw_on tokT hA hD ?_⟩)
  cbv
  refine draw_callF hA hD [3] rfl rfl rfl rfl rfl rfl fun CG hC => ?_
  cbv
  refine ⟨by subst hA; rfl, ?_⟩
  rw [hC]
  refine callG_of [.b 0 0, .sl 1 [I lo, I n, I u]] [0] [pot xu] rfl rfl rfl rfl rfl (by decide) ⟨rfl, trivial⟩ (of_ xu _ [lo, n, u] rfl (Nat.le_of_ble_eq_true rfl) (by simp) _ fun a xa ha => aftG_of hA tokT hD ?_ ?_)
  · cbv
  cbv
  refine draw_call hA hD [.b 0 0, I n, I hi] [0] [pot xa] rfl rfl rfl rfl rfl rfl rfl rfl rfl rfl rfl (by decide) ⟨rfl, trivial⟩ (within xa n hi (by omega) _ fun w xw hw1 hw2 => ⟨by cbv, draw_on tokT hA hD ?_⟩)
  cbv
  refine draw_callF hA hD [4] rfl rfl rfl rfl rfl rfl fun CG hC => ?_
  cbv
  refine ⟨by subst hA; rfl, ?_⟩
  rw [hC]
  refine callG_of [.b 0 0, .sl 1 [I hi, I n, I w]] [0] [pot xw] rfl rfl rfl rfl rfl (by decide) ⟨rfl, trivial⟩ (of_ xw _ [hi, n, w] rfl (Nat.le_of_ble_eq_true rfl) (by simp) _ fun b xb hb => aftG_of hA tokT hD ?_ ?_)
  · cbv
  have hz := hq a b xb (by simp at ha; omega) (by simp at ha hb; omega) (by simp at hb; omega)
  cbv
  exact gh_view [0] (by decide) (by decide) (H' := [pot xb]) (d' := .agg [I a, I b]) ⟨rfl, trivial⟩ rfl (gh_done hz)
/-- Wider. -/
theorem kWider (a b c d : Int) (h : a ≤ c ∧ d ≤ b) (Q) (hq : Q (RA.ret (.v (.bool true))) []) : CallA Try.prog 66 [.agg [I a, I b], .agg [I c, I d]] [] Q := by
  obtain ⟨A, hA⟩ : ∃ A, A = ar := ⟨_, rfl⟩
  have h1 : A.cmp .leq a c = true := by subst hA; simp [ar, cmpI]; exact h.1
  have h2 : A.cmp .leq d b = true := by subst hA; simp [ar, cmpI]; exact h.2
  refine callA_start tokT hA Try.func66 rfl rfl rfl rfl rfl fun S hS => ?_
  cbv
  refine bmT h1 ?_
  cbv
  refine gh_view [] (by decide) pre0 (H' := []) (d' := .v (.bool (A.cmp .leq d b))) trivial rfl (gh_done ?_)
  rw [h2]; exact hq
set_option maxRecDepth 20000 in
set_option maxHeartbeats 4000000 in
/-- withMove. -/
theorem lWithMove (ins : Int) (FL ML : List D) (mv : Mv) (m : Nat) (hM : ML.length = m) (hm : m ≤ 1000) (Q) (hq : ∀ ML', ML' = ML ++ [mvD mv] → Q (RA.ret (.agg [I ins, .sl 1 FL, .sl 5 ML'])) []) :
    CallA Try.prog 21 [.agg [I ins, .sl 1 FL, .sl 5 ML], mvD mv] [] Q := by
  obtain ⟨A, hA⟩ : ∃ A, A = ar := ⟨_, rfl⟩
  obtain ⟨kd, bn, it, lo, hi⟩ := mv
  have e2 : A.addN 0 (A.len ML) = m := by rw [xaddN hA, xlen hA hM, Nat.zero_add]
  have e3 : A.addN (A.addN 0 (A.len ML)) 1 = m + 1 := by rw [xaddN hA, e2]
  have a2 : A.app [] ML = ML := by rw [xapp hA, List.nil_append]
  have a3 : A.app (A.app [] ML) [.agg [I kd, I bn, I it, I lo, I hi]] = ML ++ [.agg [I kd, I bn, I it, I lo, I hi]] := by rw [a2, xapp hA]
  have r2 : A.room (A.addN 0 (A.len ML)) 40 := by
    rw [e2]; subst hA; exact ⟨by show m * 40 ≤ 140737488355328; omega, by show m ≤ 4611686018427387904; omega⟩
  have r3 : A.room (A.addN (A.addN 0 (A.len ML)) 1) 40 := by
    rw [e3]; subst hA; exact ⟨by show (m + 1) * 40 ≤ 140737488355328; omega, by show m + 1 ≤ 4611686018427387904; omega⟩
  have h3 : A.eqN (A.addN 0 (A.len ML)) (A.len (A.app [] ML)) := xeqN hA (by rw [a2, e2, xlen hA hM])
  obtain ⟨R, hR⟩ : ∃ R, R = ML ++ [.agg [I kd, I bn, I it, I lo, I hi]] := ⟨_, rfl⟩
  have hle : R.length = A.addN (A.addN 0 (A.len ML)) 1 := by rw [hR, e3]; simp [hM]
  have hz := hq R hR
  rw [← hR] at a3
  refine callA_startF tokT hA [2] Try.func21 rfl rfl rfl rfl rfl fun S hS => ?_
  cbv
  refine draw_go tokT hA hS [0, 1, 2, 4, 5, 3, 6, 7, 8] rfl rfl fun Dk hD => ?_
  cbv
  refine ⟨yeqLen hA rfl, r2, h3, yeqLen hA rfl, r3, ?_⟩
  refine code_gs hS (gs_blkE 6 rfl (congrArg (Blk.els 5) a3) (gs_done (at_code hS ?_)))
  refine wp_go tokT hA hS ?_
  cbv
  refine gh_frz [6] ?_
  cbv
  refine ⟨by cases R <;> exact hle.symm, by cases R <;> exact hle.symm, by cases R <;> exact hle.symm, ?_⟩
  exact gh_view [] (by decide) pre0 (H' := []) (d' := .agg [I ins, .sl 1 FL, .sl 5 R]) trivial rfl (gh_done hz)
end Go.Proofs.Ytecfpfhkicapeaa
