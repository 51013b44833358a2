/- Part BatJ of the proofs about the benches of the accordion maker: see the last text of the claim for what is proved. -/
import Derived.Test.YtecfpfhkicapeaaBatI
import Derived.Test.YtecfpfhkicapeaaSaysB
set_option linter.unusedVariables false
set_option linter.unusedSimpArgs false
set_option linter.unnecessarySimpa false
set_option linter.constructorNameAsVariable false

namespace Go.Proofs.Ytecfpfhkicapeaa
open Go Go.Abs Go.Proofs Go.Batch
set_option maxRecDepth 20000 in
set_option maxHeartbeats 2000000 in
theorem kPick (x n : Int) (m : Nat) (hn : IsI n m) (hm : m ≤ 1000) (Q) (hq : ∀ (q : List Nat) (QL : List D) x', Asc m q → QL = natD q → Q (RA.ret (.sl 1 QL)) [pot x']) :
    CallA Try.prog 53 [.b 0 0, I n] [pot x] Q := by
  obtain ⟨A, hA⟩ : ∃ A, A = ar := ⟨_, rfl⟩
  refine callA_start tokT hA Try.func53 rfl rfl rfl rfl rfl fun S hS => ?_
  cbv
  refine at_code hS ?_
  refine wpa_loopG (α := Int × Nat × Int × List Nat × Nat × List D) (fun q => { env := [(0, .b 0 0), (1, I n), (5, .o 1 1 q.2.2.2.2.1), (6, I q.1)], H := [pot q.2.2.1, .els 1 q.2.2.2.2.2], nt := 19, dfs := [] })
    (fun q => m - q.2.1) (fun q => q.2.1 ≤ m ∧ IsI q.1 q.2.1 ∧ Asc q.2.1 q.2.2.2.1 ∧ q.2.2.2.2.1 = q.2.2.2.1.length ∧ q.2.2.2.2.2 = natD q.2.2.2.1) (0, 0, x, [], 0, []) ⟨Nat.zero_le _, ⟨rfl⟩, asc_nil _, rfl, rfl⟩ ?_ ?_
  · refine gs_virt 5 1 rfl ?_
    exact gs_to [0, 1] ⟨by decide, pre1, ⟨rfl, rfl, trivial⟩, ⟨rfl, rfl, rfl, rfl, trivial⟩, rfl, rfl⟩
  rintro ⟨i, k, y, q, c, L⟩ ⟨u1, u2, u3, u4, u5⟩
  dsimp only at u1 u2 u3 u4 u5
  have hLl : L.length = c := by rw [u5, u4]; simp [natD]
  have hc6 : c ≤ 1000000 := by rw [u4]; have := u3.len; omega
  have hyes : A.cmp .lss i n = true → k < m := fun c => by have := xlt hA c; have := u2.eq; have := hn.eq; omega
  have hno : A.cmp .lss i n = false → k = m := fun c => by have := xnlt hA c; have := u2.eq; have := hn.eq; omega
  refine wp_go tokT hA hS ?_
  cbv
  refine bm (fun c1 => ?_) (fun c1 => ?_)
  · have hk := hyes c1
    have hf1 := yfit1 hA u2 (by omega)
    have hu2 := ysucc hA u2
    have hms : m - (k + 1) < m - k := by omega
    have hq1 : Asc (k + 1) (q ++ [k]) := u3.snoc (Nat.lt_succ_self k)
    have hc1 : A.addN c 1 = (q ++ [k]).length := by rw [xaddN hA, u4]; simp
    have hL1 : A.app L [I i] = natD (q ++ [k]) := by rw [xapp hA, u5, u2.eq]; simp [natD]
    have hq2 : Asc (k + 1) q := u3.mono (by omega)
    cbv
    refine ops_call hS [.b 0 0, I 1, I 2] [0] [pot y] rfl rfl rfl rfl rfl rfl rfl rfl (by decide) ⟨rfl, trivial⟩ (odds y 1 2 (by omega) _ fun b y' => ?_)
    cases b with
    | true =>
      refine ops_go tokT hA hS ?_
      cbv
      refine ⟨yeqLen hA hLl, yeqLen hA rfl, yroom1 hA hc6 (by decide), hf1, ?_⟩
      refine gs_loop (A.add i 1, k + 1, y', q ++ [k], A.addN c 1, A.app L [I i]) [0, 3] ⟨hk, hu2, hq1, hc1, hL1⟩ hms ?_
      exact ⟨by decide, pre1, ⟨rfl, rfl, trivial⟩, ⟨rfl, rfl, rfl, rfl, trivial⟩, rfl, rfl⟩
    | false =>
      refine ops_go tokT hA hS ?_
      cbv
      refine ⟨hf1, ?_⟩
      refine gs_loop (A.add i 1, k + 1, y', q, c, L) [0, 1] ⟨hk, hu2, hq2, u4, u5⟩ hms ?_
      exact ⟨by decide, pre1, ⟨rfl, rfl, trivial⟩, ⟨rfl, rfl, rfl, rfl, trivial⟩, rfl, rfl⟩
  · have hk := hno c1
    have hq1 : Asc m q := hk ▸ u3
    have hz := hq q L y hq1 u5
    cbv
    refine gs_done ?_
    cbv
    refine gh_frz [1] ?_
    cbv
    exact ⟨by cases L <;> exact hLl.symm, gh_view [0] (by decide) pre1 (H' := [pot y]) (d' := .sl 1 L) ⟨rfl, trivial⟩ rfl (gh_done hz)⟩
set_option maxRecDepth 20000 in
set_option maxHeartbeats 2000000 in
theorem kPlace (l : List Int) (hl : l.length ≤ 1000000) (L : List D) (hL : L = l.map I) (v : Int) (Q) (hq : ∀ r, (0 ≤ r ↔ v ∈ l) → Q (RA.ret (I r)) []) : CallA Try.prog 65 [.sl 1 L, I v] [] Q := by
  obtain ⟨A, hA⟩ : ∃ A, A = ar := ⟨_, rfl⟩
  have hLl : L.length = l.length := by rw [hL]; simp
  refine callA_start tokT hA Try.func65 rfl rfl rfl rfl rfl fun S hS => ?_
  cbv
  refine at_code hS ?_
  refine wpa_loopG (α := Int × Nat) (fun q => { env := [(0, .sl 1 L), (1, I v), (5, I q.1)], H := [], nt := 19, dfs := [] })
    (fun q => l.length - q.2) (fun q => q.2 ≤ l.length ∧ IsI q.1 q.2 ∧ ∀ x ∈ l.take q.2, x ≠ v) (0, 0) ⟨Nat.zero_le _, ⟨rfl⟩, fun x h => by simp at h⟩ ?_ ?_
  · exact gs_to [] ⟨by decide, pre0, trivial, ⟨rfl, rfl, rfl, trivial⟩, rfl, rfl⟩
  rintro ⟨i, k⟩ ⟨u1, u2, u3⟩
  dsimp only at u1 u2 u3
  have hyes : A.cmp .lss i (A.oi (A.len L)) = true → k < l.length := fun c => yltL hA hLl u2 c
  have hno : A.cmp .lss i (A.oi (A.len L)) = false → k = l.length := fun c => by have := ynltL hA hLl u2 c; omega
  refine wp_go tokT hA hS ?_
  cbv
  refine bm (fun c => ?_) (fun c => ?_)
  · have hk := hyes c
    obtain ⟨e, he⟩ : ∃ e, l[k]? = some e := ⟨_, List.getElem?_eq_getElem hk⟩
    have gL := yget hA u2 (show L[k]? = some (I e) by rw [hL, List.getElem?_map, he]; rfl)
    have iL := yinbL hA hLl u2 hk
    have hf1 := yfit1 hA u2 (by omega)
    have hu2 := ysucc hA u2
    have hms : l.length - (k + 1) < l.length - k := by omega
    have hit : A.cmp .eql e v = true → Q (RA.ret (I i)) [] := fun h => hq i ⟨fun _ => by rw [← xeq hA h]; exact List.mem_of_getElem? he, fun _ => by have := u2.eq; omega⟩
    have hms2 : A.cmp .eql e v = false → ∀ x ∈ l.take (k + 1), x ≠ v := fun h x hx => by
      rw [List.take_add_one, he] at hx
      rcases List.mem_append.1 hx with hx | hx
      · exact u3 x hx
      · simp at hx; subst hx; exact xneq hA h
    cbv
    refine ⟨iL, ⟨_, gL, ?_⟩⟩
    cbv
    refine bm (fun c1 => ?_) (fun c1 => ?_)
    · have hz := hit c1
      cbv
      refine gs_done ?_
      cbv
      exact gh_view [] (by decide) pre0 (H' := []) (d' := I i) trivial rfl (gh_done hz)
    · have hz := hms2 c1
      cbv
      refine ⟨hf1, ?_⟩
      refine gs_loop (A.add i 1, k + 1) [] ⟨hk, hu2, hz⟩ hms ?_
      exact ⟨by decide, pre0, trivial, ⟨rfl, rfl, rfl, trivial⟩, rfl, rfl⟩
  · have hk := hno c
    have hz := hq (-1) ⟨fun h => absurd h (by decide), fun h => absurd rfl (u3 v (by rw [hk, List.take_length]; exact h))⟩
    cbv
    refine gs_done ?_
    cbv
    exact gh_view [] (by decide) pre0 (H' := []) (d' := I (-1)) trivial rfl (gh_done hz)
theorem chkGs_asc {n : Nat} : ∀ (l : List Nat) (p : Option Int), (∀ x ∈ l, x < n ∧ p.all (fun q => decide (q < (x : Int))) = true) → l.Pairwise (· < ·) → chkGs (n : Int) p (l.map fun i : Nat => (i : Int)) = 0
  | [], _, _, _ => rfl
  | x :: l, p, h, hp => by
    have h1 := h x (by simp)
    have hc := List.pairwise_cons.1 hp
    simp only [List.map_cons, chkGs]
    rw [if_neg (fun g => g ⟨by omega, by omega⟩), if_neg]
    · exact chkGs_asc l _ (fun y hy => ⟨(h y (by simp [hy])).1, by simp; exact hc.1 y hy⟩) hc.2
    · intro g
      cases p with
      | none => simp at g
      | some q =>
        have h2 := h1.2
        simp at g h2; omega
theorem asc_chk {n : Nat} {l : List Nat} (h : Asc n l) : chkG (n : Int) (l.map fun i : Nat => (i : Int)) = 0 := chkGs_asc l none (fun x hx => ⟨h.lt x hx, rfl⟩) h.pw
theorem nat_back (l : List Nat) : (l.map fun i : Nat => (i : Int)).map Int.toNat = l := by
  rw [List.map_map]; exact (List.map_congr_left fun i _ => Int.toNat_natCast i).trans (List.map_id _)
section
variable {j : Jn} {ins : Int} {N n m : Nat} {FL ML : List D}
theorem MdJ.recall (h : MdJ j ins N n m FL ML) {NB : Nat} (hNB : NB = (binsOf j.moves).length) {l : List Nat} (hl : Asc NB l) {XL : List D} (hX : XL = natD l) (Q) (hq : ∀ L, L = (recallJ j l).map I → Q (RA.ret (.tup [.sl 1 L, I 0])) []) :
    CallA Try.prog 57 [.agg [I ins, .sl 1 FL, .sl 5 ML], .sl 1 XL] [] Q := by
  have e := h.ie
  subst e
  have hc := asc_chk hl
  rw [hNB] at hc
  have hb := h.ok.b4
  have hn := hl.len
  refine bRecall j h.fl h.ml (l.map fun i : Nat => (i : Int)) (lim (by simp; omega)) FL ML XL h.F h.M (by rw [hX, natD, List.map_map]; rfl) Q (fun e h1 h2 => no_err h.c0 h1 h2) (fun _ e h1 h2 => absurd (h1.trans hc) h2) (fun _ _ g => no_std h.st g) (fun _ _ _ L hL => hq L ?_)
  rw [hL, nat_back]
theorem MdJ.has (h : MdJ j ins N n m FL ML) {NB : Nat} (hNB : NB = (binsOf j.moves).length) {l : List Nat} (hl : Asc NB l) {XL : List D} (hX : XL = natD l) (Q) (hq : ∀ L, L = (hasJ j l).map I → Q (RA.ret (.tup [.sl 1 L, I 0])) []) :
    CallA Try.prog 55 [.agg [I ins, .sl 1 FL, .sl 5 ML], .sl 1 XL] [] Q := by
  have e := h.ie
  subst e
  have hc := asc_chk hl
  rw [hNB] at hc
  have hb := h.ok.b4
  have hn := hl.len
  refine bHas j h.fl h.ml (l.map fun i : Nat => (i : Int)) (lim (by simp; omega)) FL ML XL h.F h.M (by rw [hX, natD, List.map_map]; rfl) Q (fun e h1 h2 => no_err h.c0 h1 h2) (fun _ e h1 h2 => absurd (h1.trans hc) h2) (fun _ _ g => no_std h.st g) (fun _ _ _ L hL => hq L ?_)
  rw [hL, nat_back]
end
end Go.Proofs.Ytecfpfhkicapeaa

namespace Go.Proofs.Ytecfpfhkicapeaa
open Go Go.Abs Go.Proofs Go.Batch
end Go.Proofs.Ytecfpfhkicapeaa
