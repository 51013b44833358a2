/- Part TabB of the proofs about the benches of the accordion maker: see the last text of the claim for what is proved. -/
import Derived.Test.YtmloogdalecilaaDoorTabA
set_option linter.unusedVariables false
set_option linter.unusedSimpArgs false
set_option linter.unnecessarySimpa false
set_option linter.constructorNameAsVariable false

/-! D67 -/
namespace Go.Proofs.YtmloogdalecilaaDoor
open Go Go.Abs Go.Proofs

theorem find_same {α : Type} {p q : α → Bool} : ∀ (m : List α), (∀ l x, l ++ [x] <+: m → (∀ y ∈ l, p y = false) → p x = q x) → m.find? p = m.find? q
  | [], _ => rfl
  | x :: r, h => by
    have h1 := h [] x (by simp) (by simp)
    simp only [List.find?_cons]
    rw [← h1]
    cases hx : p x with
    | true => rfl
    | false =>
      refine find_same r fun l z hl hy => h (x :: l) z (by simpa using hl) fun y hy' => ?_
      rcases List.mem_cons.1 hy' with rfl | hy'
      · exact hx
      · exact hy y hy'

theorem clash_same {s : Sh} (hv : Val s) (tb : List (List Int)) : (allT s).find? (badT s tb) = (allT s).find? (badR s tb) := by
  refine find_same _ fun l x hl hb => ?_
  obtain ⟨i, k⟩ := x
  obtain ⟨t, ht⟩ := hl
  have hm : (i, k) ∈ allT s := by rw [← ht]; simp
  obtain ⟨hi, hk⟩ := allT_mem.1 hm
  dsimp only at hi hk
  have h1 : (allT s)[l.length]? = some (i, k) := by rw [← ht, List.append_assoc, List.getElem?_append_right (Nat.le_refl _)]; simp
  have h2 := allT_at hi hk
  have h3 : l.length = (prT s i k).length := (List.getElem?_inj (List.getElem?_eq_some_iff.1 h1).1 (prT_nodup s _ _)).1 (h1.trans h2.symm)
  have h4 : l = prT s i k := by
    obtain ⟨u, hu⟩ := prT_pre i k hi (by omega)
    have h5 : l ++ ([(i, k)] ++ t) = prT s i k ++ u := by rw [hu, ← ht, List.append_assoc]
    exact (List.append_inj h5 h3).1
  exact bad_same hv hi k hk fun j hj => hb _ (by rw [h4]; exact prT_mem.2 (.inr ⟨rfl, hj⟩))

section
variable (s : Sh) (hs : Fin s) (tb : List (List Int)) (hb : TbOk tb) (TL BL : List D) (hT : TL = s.tasks.map taskD) (hB : BL = tb.map fun l => .sl 1 (l.map I))

/-- What is wrong with a shop, or with a timetable. -/
def chkST (s : Sh) (tb : List (List Int)) : Int := if chkS s = 0 then tabE s tb else chkS s

include hs hb hT hB in
set_option maxRecDepth 20000 in
set_option maxHeartbeats 4000000 in
/-- checkTable, the documents' own. -/
theorem rCheckTable (n : Int) (hn0 : n = chkST s tb) (Q) (hq : Q (RA.ret (I n)) []) : CallA Tryd.prog 74 [.agg [I s.benches, .sl 3 TL], .sl 1 BL] [] Q := by
  obtain ⟨A, hA⟩ : ∃ A, A = ar := ⟨_, rfl⟩
  have hbt : A.bnot true = false := by subst hA; rfl
  have hbf : A.bnot false = true := by subst hA; rfl
  obtain ⟨N, hN⟩ : ∃ N, N = tb.length := ⟨_, rfl⟩
  have hN20 : N ≤ 20 := by rw [hN]; exact hb.len
  have hBl : BL.length = N := by rw [hB, hN]; simp
  have hTl : TL.length = s.tasks.length := by rw [hT]; simp
  obtain ⟨e1, he1⟩ : ∃ e, e = chkS s := ⟨_, rfl⟩
  refine callA_start tokT hA Tryd.func74 rfl rfl rfl rfl rfl fun S hS => ?_
  cbv
  refine ops_call hS [.agg [I s.benches, .sl 3 TL]] [] [] rfl rfl rfl rfl rfl rfl rfl rfl (by decide) trivial (rCheck s hs TL hT e1 he1 _ ?_)
  refine ops_go tokT hA hS ?_
  cbv
  refine bm (fun c => ?_) (fun c => ?_)
  · have h1 := xne hA c
    have hne : n = e1 := by rw [hn0, chkST, if_neg (by rw [← he1]; exact h1), he1]
    rw [hne] at hq
    cbv
    exact gh_view [] (by decide) pre0 (H' := []) (d' := I e1) trivial rfl (gh_done hq)
  have hn : n = tabE s tb := by rw [hn0, chkST, if_pos (by have := xnne hA c; omega)]
  have hlen0 : A.cmp .neq (A.oi (A.len BL)) (A.oi (A.len TL)) = true → n = 2 := fun h => by
    have h2 : A.oi (A.len BL) ≠ A.oi (A.len TL) := xne hA h
    rw [yoiL hA hBl, yoiL hA hTl] at h2
    rw [hn, tabE, if_neg (by omega)]
  have hlen1 : A.cmp .neq (A.oi (A.len BL)) (A.oi (A.len TL)) = false → tb.length = s.tasks.length := fun h => by
    have h2 : A.oi (A.len BL) = A.oi (A.len TL) := xnne hA h
    rw [yoiL hA hBl, yoiL hA hTl] at h2
    omega
  cbv
  refine bm (fun c => ?_) (fun c => ?_)
  · rw [hlen0 c] at hq
    cbv
    exact gh_view [] (by decide) pre0 (H' := []) (d' := I 2) trivial rfl (gh_done hq)
  have hlen := hlen1 c
  cbv
  refine at_code hS ?_
  refine wpa_loopG (α := Int × Nat) (fun q => { env := [(1, .sl 1 BL), (2, .b 0 0), (6, I q.1)], H := [.box (.agg [I s.benches, .sl 3 TL])], nt := 63, dfs := [] })
    (fun q => N - q.2) (fun q => q.2 ≤ N ∧ IsI q.1 q.2 ∧ lensOk s tb q.2 = true) (0, 0) ⟨Nat.zero_le _, ⟨rfl⟩, rfl⟩ ?_ ?_
  · exact gs_to [0] ⟨by decide, pre0, ⟨rfl, trivial⟩, ⟨rfl, rfl, rfl, trivial⟩, rfl, rfl⟩
  rintro ⟨i, k⟩ ⟨u1, u2, u3⟩
  dsimp only at u1 u2 u3
  have hTN : TL.length = N := by rw [hTl, ← hlen, hN]
  refine wp_go tokT hA hS ?_
  cbv
  refine bm (fun c => ?_) (fun c => ?_)
  · have hkN : k < N := yltL hA hBl u2 c
    have hk : k < s.tasks.length := by omega
    obtain ⟨t, ht⟩ : ∃ t, t = s.tasks.getD k default := ⟨_, rfl⟩
    have htk : s.tasks[k]? = some t := by rw [ht, List.getD_eq_getElem?_getD, List.getElem?_eq_getElem (by omega)]; rfl
    obtain ⟨WL, hWL⟩ : ∃ WL, WL = t.works.map workD := ⟨_, rfl⟩
    have hWl : WL.length = lenT s k := by rw [hWL, lenT, ← ht]; simp
    have hTk : TL[k]? = some (.agg [I t.ready, I t.due, .sl 3 WL]) := by rw [hT]; simp [htk, hWL, taskD]
    obtain ⟨l, hl⟩ : ∃ l, tb[k]? = some l := ⟨_, List.getElem?_eq_getElem (by omega)⟩
    obtain ⟨LL, hLL⟩ : ∃ LL, LL = l.map I := ⟨_, rfl⟩
    have hLl : LL.length = l.length := by rw [hLL]; simp
    have hgl : tb.getD k [] = l := by rw [List.getD_eq_getElem?_getD, hl]; rfl
    have hBk : BL[k]? = some (.sl 1 LL) := by rw [hB, hLL]; simp [hl]
    have hf := yfit1 hA u2 (by omega)
    have hu2 := ysucc hA u2
    have hn2 : A.cmp .neq (A.oi (A.len LL)) (A.oi (A.len WL)) = true → n = 2 := fun h => by
      have h2 : A.oi (A.len LL) ≠ A.oi (A.len WL) := xne hA h
      rw [yoiL hA hLl, yoiL hA hWl] at h2
      rw [hn, tabE, if_pos hlen, if_neg (by rw [lensOk_no hk (by rw [hgl]; omega)]; decide)]
    have hnx : A.cmp .neq (A.oi (A.len LL)) (A.oi (A.len WL)) = false → lensOk s tb (k + 1) = true := fun h => by
      have h2 : A.oi (A.len LL) = A.oi (A.len WL) := xnne hA h
      rw [yoiL hA hLl, yoiL hA hWl] at h2
      rw [lensOk_succ, u3, hgl, decide_eq_true (by omega)]; rfl
    have iT := yinbL hA hTN u2 hkN
    have gT := yget hA u2 hTk
    have iB := yinbL hA hBl u2 hkN
    have gB := yget hA u2 hBk
    have hms : N - (k + 1) < N - k := by omega
    cbv
    refine draw_go tokT hA hS [0, 1, 2, 3, 4, 5, 6, 7, 8, 9, 10, 11, 12] rfl rfl fun Dk hD => ?_
    cbv
    refine ⟨iB, ⟨_, gB, ?_⟩⟩
    cbv
    refine ⟨iT, ⟨_, gT, ?_⟩⟩
    cbv
    refine bm (fun c2 => ?_) (fun c2 => ?_)
    · rw [hn2 c2] at hq
      cbv
      refine gs_done ?_
      cbv
      exact gh_view [] (by decide) pre0 (H' := []) (d' := I 2) trivial rfl (gh_done hq)
    · have hx := hnx c2
      cbv
      refine ⟨hf, ?_⟩
      refine gs_loop (A.add i 1, k + 1) [0] ⟨hkN, hu2, hx⟩ hms ?_
      exact ⟨by decide, pre0, ⟨rfl, trivial⟩, ⟨rfl, rfl, rfl, trivial⟩, rfl, rfl⟩
  have hkN : k = N := by have := ynltL hA hBl u2 c; omega
  have hall : lensOk s tb s.tasks.length = true := by rw [← hlen, ← hN, ← hkN]; exact u3
  cbv
  refine gs_done ?_
  cbv
  refine at_code hS ?_
  refine wpa_loopG (α := Int × Nat) (fun q => { env := [(1, .sl 1 BL), (7, I q.1)], H := [], nt := 63, dfs := [] })
    (fun q => N - q.2) (fun q => q.2 ≤ N ∧ IsI q.1 q.2 ∧ hrsOk (tb.take q.2) = true) (0, 0) ⟨Nat.zero_le _, ⟨rfl⟩, rfl⟩ ?_ ?_
  · exact gs_to [] ⟨by decide, pre0, trivial, ⟨rfl, rfl, trivial⟩, rfl, rfl⟩
  clear u1 u2 u3 c hkN
  clear i k
  rintro ⟨i, k⟩ ⟨u1, u2, u3⟩
  dsimp only at u1 u2 u3
  refine wp_go tokT hA hS ?_
  cbv
  refine bm (fun c => ?_) (fun c => ?_)
  · have hk : k < N := yltL hA hBl u2 c
    obtain ⟨l, hl⟩ : ∃ l, tb[k]? = some l := ⟨_, List.getElem?_eq_getElem (by omega)⟩
    obtain ⟨LL, hLL⟩ : ∃ LL, LL = l.map I := ⟨_, rfl⟩
    obtain ⟨M, hM⟩ : ∃ M, M = l.length := ⟨_, rfl⟩
    have hM20 : M ≤ 20 := by rw [hM]; exact hb.row l (List.mem_of_getElem? hl)
    have hLl : LL.length = M := by rw [hLL, hM]; simp
    have hBk : BL[k]? = some (.sl 1 LL) := by rw [hB, hLL]; simp [hl]
    have iB := yinbL hA hBl u2 hk
    have gB := yget hA u2 hBk
    have hf := yfit1 hA u2 (by omega)
    have hu2 := ysucc hA u2
    have hms : N - (k + 1) < N - k := by omega
    have hnx : hrsRow l = true → hrsOk (tb.take (k + 1)) = true := fun h => by rw [hrsOk_succ hl, u3, h]; rfl
    cbv
    refine at_code hS ?_
    refine wpa_loopG (α := Int × Nat) (fun q => { env := [(1, .sl 1 BL), (7, I i), (8, I q.1)], H := [], nt := 63, dfs := [] })
      (fun q => M - q.2) (fun q => q.2 ≤ M ∧ IsI q.1 q.2 ∧ hrsRow (l.take q.2) = true) (0, 0) ⟨Nat.zero_le _, ⟨rfl⟩, rfl⟩ ?_ ?_
    · exact gs_to [] ⟨by decide, pre0, trivial, ⟨rfl, rfl, rfl, trivial⟩, rfl, rfl⟩
    rintro ⟨j, m⟩ ⟨v1, v2, v3⟩
    dsimp only at v1 v2 v3
    refine wp_go tokT hA hS ?_
    cbv
    refine ⟨iB, ⟨_, gB, ?_⟩⟩
    cbv
    refine bm (fun c2 => ?_) (fun c2 => ?_)
    · have hm : m < M := yltL hA hLl v2 c2
      obtain ⟨x, hx⟩ : ∃ x, l[m]? = some x := ⟨_, List.getElem?_eq_getElem (by omega)⟩
      have hLx : LL[m]? = some (I x) := by rw [hLL]; simp [hx]
      have iL := yinbL hA hLl v2 hm
      have gL := yget hA v2 hLx
      have hfj := yfit1 hA v2 (by omega)
      have hv2 := ysucc hA v2
      have hmsj : M - (m + 1) < M - m := by omega
      obtain ⟨bx, hbx⟩ : ∃ bx, bx = decide (0 ≤ x ∧ x ≤ 200) := ⟨_, rfl⟩
      have hn1 : bx = false → n = 1 := fun h => by rw [hn, tabE, if_pos hlen, if_pos hall, if_neg (by rw [hrsOk_no hl hx (by rw [← hbx]; exact h)]; decide)]
      have hnj : bx = true → hrsRow (l.take (m + 1)) = true := fun h => by rw [hrsRow_succ hx, v3, ← hbx, h]; rfl
      cbv
      refine ⟨iB, ⟨_, gB, ?_⟩⟩
      cbv
      refine ⟨iL, ⟨_, gL, ?_⟩⟩
      cbv
      cases bx with
      | true =>
        have hnj' := hnj rfl
        refine ops_call hS [I x, I 0, I 200] [] [] rfl rfl rfl rfl rfl rfl rfl rfl (by decide) trivial (rWith2 _ _ _ true hbx _ ?_)
        refine ops_go tokT hA hS ?_
        cbv
        refine bm (fun c => Bool.noConfusion (hbt.symm.trans c)) (fun _ => ?_)
        cbv
        refine ⟨hfj, ?_⟩
        refine gs_loop (A.add j 1, m + 1) [] ⟨hm, hv2, hnj'⟩ hmsj ?_
        exact ⟨by decide, pre0, trivial, ⟨rfl, rfl, rfl, trivial⟩, rfl, rfl⟩
      | false =>
        have hn1' := hn1 rfl
        rw [hn1'] at hq
        refine ops_call hS [I x, I 0, I 200] [] [] rfl rfl rfl rfl rfl rfl rfl rfl (by decide) trivial (rWith2 _ _ _ false hbx _ ?_)
        refine ops_go tokT hA hS ?_
        cbv
        refine bm (fun _ => ?_) (fun c => Bool.noConfusion (hbf.symm.trans c))
        cbv
        refine gs_done (gs_done ?_)
        cbv
        exact gh_view [] (by decide) pre0 (H' := []) (d' := I 1) trivial rfl (gh_done hq)
    · have hm : m = M := by have := ynltL hA hLl v2 c2; omega
      have hnx' := hnx (by rw [hm, hM, List.take_length] at v3; exact v3)
      cbv
      refine gs_done ?_
      cbv
      refine ⟨hf, ?_⟩
      refine gs_loop (A.add i 1, k + 1) [] ⟨hk, hu2, hnx'⟩ hms ?_
      exact ⟨by decide, pre0, trivial, ⟨rfl, rfl, trivial⟩, rfl, rfl⟩
  · have hk : k = N := by have := ynltL hA hBl u2 c; omega
    have hn0 : n = 0 := by
      rw [hk, hN, List.take_length] at u3
      rw [hn, tabE, if_pos hlen, if_pos hall, if_pos u3]
    rw [hn0] at hq
    cbv
    refine gs_done ?_
    cbv
    exact gh_view [] (by decide) pre0 (H' := []) (d' := I 0) trivial rfl (gh_done hq)

end
end Go.Proofs.YtmloogdalecilaaDoor

/-! D68 -/
namespace Go.Proofs.YtmloogdalecilaaDoor
open Go Go.Abs Go.Proofs

theorem xgtT3 {A : Ar} (hA : A = ar) {x y : Int} (h : y < x) : A.cmp .gtr x y = true := by subst hA; simp [ar, cmpI]; omega
theorem xgtF3 {A : Ar} (hA : A = ar) {x y : Int} (h : x ≤ y) : A.cmp .gtr x y = false := by subst hA; simp [ar, cmpI]; omega
theorem ypred {A : Ar} (hA : A = ar) {j : Int} {m : Nat} (h : IsI j (m + 1)) : IsI (A.sub j 1) m := ⟨by rw [xsub hA, h.eq]; omega⟩

theorem len_le_nW {l : List Tk} {t : Tk} (h : t ∈ l) : t.works.length ≤ nWorks l := by
  induction l with
  | nil => simp at h
  | cons x l ih =>
    simp only [nWorks, List.map_cons, List.sum_cons] at ih ⊢
    rcases List.mem_cons.1 h with rfl | h
    · omega
    · have := ih h; omega

section
variable (s : Sh) (hv : Val s) (tb : List (List Int)) (htb : tabE s tb = 0) (TL BL : List D) (hT : TL = s.tasks.map taskD) (hB : BL = tb.map fun l => .sl 1 (l.map I))

/-- A work's row, and its hours, as they lie in the two lists. -/
structure AtW (s : Sh) (tb : List (List Int)) (A : Ar) (TL BL : List D) (k : Nat) (t : Tk) (WL LL : List D) (M : Nat) : Prop where
  tk : TL[k]? = some (.agg [I t.ready, I t.due, .sl 3 WL])
  te : t = s.tasks.getD k default
  wl : WL.length = M
  ll : LL.length = M
  me : M = lenT s k
  m8 : M ≤ 8
  bk : BL[k]? = some (.sl 1 LL)
  we : ∀ m, m < M → WL[m]? = some (.agg [I (workAt s k m).b, I (workAt s k m).lo, I (workAt s k m).hi])
  le : ∀ m, m < M → LL[m]? = some (I (bgT tb k m))
  bd : ∀ m, m < M → 0 ≤ bgT tb k m ∧ bgT tb k m ≤ 200 ∧ 1 ≤ (workAt s k m).hi ∧ (workAt s k m).hi ≤ 20

include hv htb hT hB in
theorem at_w (A : Ar) {k : Nat} (hkN : k < s.tasks.length) : ∃ t WL LL M, AtW s tb A TL BL k t WL LL M := by
  obtain ⟨hlen, hrow⟩ := tab_ok htb
  obtain ⟨t, ht⟩ : ∃ t, t = s.tasks.getD k default := ⟨_, rfl⟩
  have htk : s.tasks[k]? = some t := by rw [ht, List.getD_eq_getElem?_getD, List.getElem?_eq_getElem hkN]; rfl
  have htm : t ∈ s.tasks := List.mem_of_getElem? htk
  have hlk : tb[k]? = some (tb.getD k []) := by rw [List.getD_eq_getElem?_getD, List.getElem?_eq_getElem (by omega)]; rfl
  obtain ⟨hr1, hr2⟩ := hrow k hkN
  have hwm : ∀ m, m < lenT s k → t.works[m]? = some (workAt s k m) := fun m hm => by
    rw [workAt, ← ht, List.getD_eq_getElem?_getD (l := t.works), List.getElem?_eq_getElem (by rw [ht]; exact hm)]; rfl
  refine ⟨t, t.works.map workD, (tb.getD k []).map I, lenT s k, ⟨by rw [hT]; simp [htk, taskD], ht, by rw [lenT, ← ht]; simp, by rw [List.length_map]; exact hr1, rfl, ?_, by rw [hB, List.getElem?_map, hlk]; rfl, fun m hm => by rw [List.getElem?_map, hwm m hm]; rfl, fun m hm => by rw [List.getElem?_map, (hr2 m hm).1]; rfl, fun m hm => ?_⟩⟩
  · have h1 := len_le_nW htm
    have h2 := hv.sum
    rw [lenT, ← ht]; omega
  · have h3 := hv.wk t htm _ (List.mem_of_getElem? (hwm m hm))
    exact ⟨(hr2 m hm).2.1, (hr2 m hm).2.2, by omega, h3.2.2.2.2⟩

include hv htb hT hB in
set_option maxRecDepth 20000 in
set_option maxHeartbeats 8000000 in
/-- can: whether a work of a timetable can always be done. -/
theorem rCan (i : Nat) (k : Nat) (ii ki : Int) (hii : IsI ii i) (hki : IsI ki k) (hiN : i < s.tasks.length) (hkM : k < lenT s i) (v : Bool) (hve : v = !(badR s tb (i, k))) (Q) (hq : Q (RA.ret (.v (.bool v))) []) : CallA Tryd.prog 75 [.agg [I s.benches, .sl 3 TL], .sl 1 BL, I ii, I ki] [] Q := by
  obtain ⟨A, hA⟩ : ∃ A, A = ar := ⟨_, rfl⟩
  obtain ⟨N, hN⟩ : ∃ N, N = s.tasks.length := ⟨_, rfl⟩
  have hTl : TL.length = N := by rw [hT, hN]; simp
  have hBl : BL.length = N := by rw [hB, hN]; simp [(tab_ok htb).1]
  have hN4 : N ≤ 4 := by rw [hN]; exact hv.len
  obtain ⟨t, WL, LL, M, h⟩ := at_w s hv tb htb TL BL hT hB A hiN
  have hkM' : k < M := by rw [h.me]; exact hkM
  obtain ⟨w, hwE⟩ : ∃ w, w = workAt s i k := ⟨_, rfl⟩
  obtain ⟨x, hxE⟩ : ∃ x, x = bgT tb i k := ⟨_, rfl⟩
  have hWk := h.we k hkM'
  have hLk := h.le k hkM'
  have hbd := h.bd k hkM'
  rw [← hwE] at hWk hbd
  rw [← hxE] at hLk hbd
  have iT := yinbL hA hTl hii (show i < N by omega)
  have gT := yget hA hii h.tk
  have iB := yinbL hA hBl hii (show i < N by omega)
  have gB := yget hA hii h.bk
  have iW := yinbL hA h.wl hki hkM'
  have gW := yget hA hki hWk
  have iL := yinbL hA h.ll hki hkM'
  have gL := yget hA hki hLk
  have hfx : A.fits .i64 (A.add x w.hi) := xfitE hA (xaddI hA x w.hi) (by omega)
  have hxy : A.add x w.hi = enT s tb i k := by rw [xaddI hA, enT, ← hwE, ← hxE]
  obtain ⟨y, hyE⟩ : ∃ y, y = A.add x w.hi := ⟨_, rfl⟩
  have hyE' : y = enT s tb i k := hyE.trans hxy
  have hbad1 : x < t.ready → v = false := fun h1 => by
    rw [hve, badR]; simp only []
    rw [decide_eq_true (by rw [← hxE, ← h.te]; exact h1)]; rfl
  have hbad2 : 0 < k → x < enT s tb i (k - 1) → v = false := fun h1 h2 => by
    rw [hve, badR]; simp only []
    rw [decide_eq_true (p := 0 < k ∧ _) ⟨h1, by rw [← hxE]; exact h2⟩]; simp
  have hany : (allT s).any (bumpT s tb (i, k)) = true → v = false := fun h1 => by rw [hve, badR, h1]; simp
  have hgood : ¬ x < t.ready → ¬ (0 < k ∧ x < enT s tb i (k - 1)) → (allT s).any (bumpT s tb (i, k)) = false → v = true := fun h1 h2 h3 => by
    rw [hve, badR, h3]; simp only []
    rw [decide_eq_false (by rw [← hxE, ← h.te]; exact h1), decide_eq_false (p := 0 < k ∧ _) (by rw [← hxE]; exact h2)]; rfl
  refine callA_startF tokT hA [5, 12] Tryd.func75 rfl rfl rfl rfl rfl fun S hS => ?_
  cbv
  refine ⟨iT, ⟨_, gT, ?_⟩⟩
  cbv
  refine ⟨iW, ⟨_, gW, ?_⟩⟩
  cbv
  refine draw_go tokT hA hS [0, 1, 2, 3, 4, 5, 6, 7, 8, 9, 10, 11, 12, 13, 14, 15, 16, 17, 18, 19] rfl rfl fun Dk hD => ?_
  cbv
  refine ⟨iB, ⟨_, gB, ?_⟩⟩
  cbv
  refine ⟨iL, ⟨_, gL, ?_⟩⟩
  cbv
  refine ⟨iB, ⟨_, gB, ?_⟩⟩
  cbv
  refine ⟨iL, ⟨_, gL, ?_⟩⟩
  cbv
  refine ⟨hfx, ?_⟩
  obtain ⟨b3, hb3⟩ : ∃ b3, b3 = decide (x < t.ready ∨ (0 < k ∧ x < enT s tb i (k - 1))) := ⟨_, rfl⟩
  refine code_cut hS { env := [(1, .sl 1 BL), (2, I ii), (3, I ki), (4, .b 0 0), (9, .b 1 0), (10, I x), (11, I (A.add x w.hi)), (79, .v (.bool b3))], H := [.box (.agg [I s.benches, .sl 3 TL]), .box (.agg [I w.b, I w.lo, I w.hi])], nt := 146, dfs := [] } ?_ ?_
  · by_cases h1 : x < t.ready
    · have e3 : b3 = true := by rw [hb3]; exact decide_eq_true (.inl h1)
      have c1 : A.cmp .lss x t.ready = true := yltT hA h1
      refine draw_goE tokT hA hS [7] [0, 1, 2, 3, 4, 5, 6, 7, 8, 9, 10, 11, 12, 13, 14, 15, 16, 17, 18, 19, 20, 21, 22, 23, 24, 25, 26, 27, 28, 29, 30, 31, 32, 33, 34, 35, 36] rfl rfl fun Dk hD => ?_
      cbv
      refine ⟨iT, ⟨_, gT, ?_⟩⟩
      cbv
      refine draw_val tokT hA hD [] (.v (.bool true)) rfl rfl rfl rfl rfl rfl (congrArg (fun b => D.v (.bool b)) c1) ?_
      cbv
      exact gs_to [0, 1] ⟨by decide, pre0, ⟨rfl, rfl, trivial⟩, ⟨rfl, rfl, rfl, rfl, rfl, rfl, rfl, by rw [e3]; rfl, trivial⟩, rfl, rfl⟩
    have c1 : A.cmp .lss x t.ready = false := yltF hA (Int.not_lt.1 h1)
    cases k with
    | zero =>
      have e3 : b3 = false := by rw [hb3]; exact decide_eq_false (by rintro (h | ⟨h, -⟩); exact h1 h; exact Nat.lt_irrefl _ h)
      have c2 : A.cmp .gtr ki 0 = false := xgtF3 hA (by rw [hki.eq]; decide)
      refine draw_goE tokT hA hS [7] [0, 1, 2, 3, 4, 5, 6, 7, 8, 9, 10, 11, 12, 13, 14, 15, 16, 17, 18, 19, 20, 21, 22, 23, 24, 25, 26, 27, 28, 29, 30, 31, 32, 33, 34, 35, 36] rfl rfl fun Dk hD => ?_
      cbv
      refine ⟨iT, ⟨_, gT, ?_⟩⟩
      cbv
      refine draw_val tokT hA hD [10] (.v (.bool false)) rfl rfl rfl rfl rfl rfl (congrArg (fun b => D.v (.bool b)) c1) ?_
      cbv
      refine draw_valG tokT hA hD [] (.v (.bool false)) rfl rfl rfl rfl rfl rfl rfl rfl rfl (congrArg (fun b => D.v (.bool b)) c2) ?_
      cbv
      exact gs_to [0, 1] ⟨by decide, pre0, ⟨rfl, rfl, trivial⟩, ⟨rfl, rfl, rfl, rfl, rfl, rfl, rfl, by rw [e3]; rfl, trivial⟩, rfl, rfl⟩
    | succ k' =>
      have hk' : k' < M := by omega
      have hpr := ypred hA hki
      have c2 : A.cmp .gtr ki 0 = true := xgtT3 hA (by rw [hki.eq]; omega)
      obtain ⟨w', hw'E⟩ : ∃ w', w' = workAt s i k' := ⟨_, rfl⟩
      obtain ⟨x', hx'E⟩ : ∃ x', x' = bgT tb i k' := ⟨_, rfl⟩
      have hWk' := h.we k' hk'
      have hLk' := h.le k' hk'
      have hbd' := h.bd k' hk'
      rw [← hw'E] at hWk' hbd'
      rw [← hx'E] at hLk' hbd'
      have iW' := yinbL hA h.wl hpr hk'
      have gW' := yget hA hpr hWk'
      have iL' := yinbL hA h.ll hpr hk'
      have gL' := yget hA hpr hLk'
      have hfs : A.fits .i64 (A.sub ki 1) := xfitE hA (xsub hA ki 1) (by rw [hki.eq]; have := h.m8; omega)
      have hfx' : A.fits .i64 (A.add x' w'.hi) := xfitE hA (xaddI hA x' w'.hi) (by omega)
      have hen : A.add x' w'.hi = enT s tb i k' := by rw [xaddI hA, enT, ← hw'E, ← hx'E]
      obtain ⟨c3, hc3⟩ : ∃ c3, c3 = A.cmp .lss x (A.add x' w'.hi) := ⟨_, rfl⟩
      have e3 : b3 = c3 := by
        rw [hb3, hc3, xltd hA, hen]
        exact decide_eq_decide.2 ⟨fun h => h.elim (fun h => absurd h h1) (fun h => h.2), fun h => .inr ⟨Nat.succ_pos _, h⟩⟩
      refine draw_goE tokT hA hS [7] [0, 1, 2, 3, 4, 5, 6, 7, 8, 9, 10, 11, 12, 13, 14, 15, 16, 17, 18, 19, 20, 21, 22, 23, 24, 25, 26, 27, 28, 29, 30, 31, 32, 33, 34, 35, 36] rfl rfl fun Dk hD => ?_
      cbv
      refine ⟨iT, ⟨_, gT, ?_⟩⟩
      cbv
      refine draw_val tokT hA hD [10] (.v (.bool false)) rfl rfl rfl rfl rfl rfl (congrArg (fun b => D.v (.bool b)) c1) ?_
      cbv
      refine draw_valG tokT hA hD [34] (.v (.bool true)) rfl rfl rfl rfl rfl rfl rfl rfl rfl (congrArg (fun b => D.v (.bool b)) c2) ?_
      cbv
      refine ⟨iB, ⟨_, gB, ?_⟩⟩
      cbv
      refine ⟨hfs, iL', ⟨_, gL', ?_⟩⟩
      cbv
      refine ⟨iT, ⟨_, gT, ?_⟩⟩
      cbv
      refine ⟨hfs, iW', ⟨_, gW', ?_⟩⟩
      cbv
      refine ⟨hfx', ?_⟩
      refine draw_valG tokT hA hD [] (.v (.bool c3)) rfl rfl rfl rfl rfl rfl rfl rfl rfl (congrArg (fun b => D.v (.bool b)) hc3.symm) ?_
      cbv
      exact gs_to [0, 1] ⟨by decide, pre0, ⟨rfl, rfl, trivial⟩, ⟨rfl, rfl, rfl, rfl, rfl, rfl, rfl, by rw [e3]; rfl, trivial⟩, rfl, rfl⟩
  cbv
  cases b3 with
  | true =>
    have h3 := of_decide_eq_true hb3.symm
    rw [h3.elim hbad1 (fun h => hbad2 h.1 h.2)] at hq
    cbv
    exact gh_view [] (by decide) pre0 (H' := []) (d' := .v (.bool false)) trivial rfl (gh_done hq)
  | false =>
  have h3 := of_decide_eq_false hb3.symm
  have hgood' := hgood (fun h => h3 (.inl h)) (fun h => h3 (.inr h))
  cbv
  refine at_code hS ?_
  refine wp_goF tokT hA hS [12] ?_
  cbv
  refine at_code hS ?_
  refine wpa_loopG (α := Int × Nat) (fun q => { env := [(1, .sl 1 BL), (2, I ii), (3, I ki), (4, .b 0 0), (9, .b 1 0), (10, I x), (11, I (A.add x w.hi)), (12, I q.1)], H := [.box (.agg [I s.benches, .sl 3 TL]), .box (.agg [I w.b, I w.lo, I w.hi])], nt := 146, dfs := [] })
    (fun q => N - q.2) (fun q => q.2 ≤ N ∧ IsI q.1 q.2 ∧ (prT s q.2 0).any (bumpT s tb (i, k)) = false) (0, 0) ⟨Nat.zero_le _, ⟨rfl⟩, by simp [prT]⟩ ?_ ?_
  · exact gs_to [0, 1] ⟨by decide, pre0, ⟨rfl, rfl, trivial⟩, ⟨rfl, rfl, rfl, rfl, rfl, rfl, rfl, rfl, trivial⟩, rfl, rfl⟩
  rintro ⟨ai, a⟩ ⟨u1, u2, u3⟩
  dsimp only at u1 u2 u3
  refine wp_goF tokT hA hS [12] ?_
  cbv
  refine bm (fun c => ?_) (fun c => ?_)
  · have ha : a < N := yltL hA hBl u2 c
    obtain ⟨ta, WA, LA, MA, hA'⟩ := at_w s hv tb htb TL BL hT hB A (show a < s.tasks.length by omega)
    have iTa := yinbL hA hTl u2 ha
    have gTa := yget hA u2 hA'.tk
    have iBa := yinbL hA hBl u2 ha
    have gBa := yget hA u2 hA'.bk
    have hf := yfit1 hA u2 (by omega)
    have hu2 := ysucc hA u2
    have hms : N - (a + 1) < N - a := by omega
    have hMA8 := hA'.m8
    cbv
    refine at_code hS ?_
    refine wpa_loopG (α := Int × Nat) (fun q => { env := [(1, .sl 1 BL), (2, I ii), (3, I ki), (4, .b 0 0), (9, .b 1 0), (10, I x), (11, I (A.add x w.hi)), (12, I ai), (13, I q.1)], H := [.box (.agg [I s.benches, .sl 3 TL]), .box (.agg [I w.b, I w.lo, I w.hi])], nt := 146, dfs := [] })
      (fun q => MA - q.2) (fun q => q.2 ≤ MA ∧ IsI q.1 q.2 ∧ (prT s a q.2).any (bumpT s tb (i, k)) = false) (0, 0) ⟨Nat.zero_le _, ⟨rfl⟩, u3⟩ ?_ ?_
    · exact gs_to [0, 1] ⟨by decide, pre0, ⟨rfl, rfl, trivial⟩, ⟨rfl, rfl, rfl, rfl, rfl, rfl, rfl, rfl, rfl, trivial⟩, rfl, rfl⟩
    rintro ⟨ci, c0⟩ ⟨v1, v2, v3⟩
    dsimp only at v1 v2 v3
    refine wp_goF tokT hA hS [12] ?_
    cbv
    refine ⟨iBa, ⟨_, gBa, ?_⟩⟩
    cbv
    refine bm (fun c2 => ?_) (fun c2 => ?_)
    · have hc : c0 < MA := yltL hA hA'.ll v2 c2
      have hWc := hA'.we c0 hc
      have hLc := hA'.le c0 hc
      have hbc := hA'.bd c0 hc
      obtain ⟨wa, hwaE⟩ : ∃ wa, wa = workAt s a c0 := ⟨_, rfl⟩
      obtain ⟨xa, hxaE⟩ : ∃ xa, xa = bgT tb a c0 := ⟨_, rfl⟩
      rw [← hwaE] at hWc hbc
      rw [← hxaE] at hLc hbc
      have iWc := yinbL hA hA'.wl v2 hc
      have gWc := yget hA v2 hWc
      have iLc := yinbL hA hA'.ll v2 hc
      have gLc := yget hA v2 hLc
      have hfc := yfit1 hA v2 (by omega)
      have hv2 := ysucc hA v2
      have hmsc : MA - (c0 + 1) < MA - c0 := by omega
      have hfxa : A.fits .i64 (A.add xa wa.hi) := xfitE hA (xaddI hA xa wa.hi) (by omega)
      have hena : A.add xa wa.hi = enT s tb a c0 := by rw [xaddI hA, enT, ← hwaE, ← hxaE]
      obtain ⟨ob, hob⟩ : ∃ ob, ob = decide ((a, c0) ≠ (i, k)) := ⟨_, rfl⟩
      obtain ⟨bb, hbb⟩ : ∃ bb, bb = bumpT s tb (i, k) (a, c0) := ⟨_, rfl⟩
      have hbb' : bb = (ob && (decide (wa.b = w.b) && (decide (x < A.add xa wa.hi) && decide (xa < A.add x w.hi)))) := by rw [hbb, bumpT, hob, hena, hxy, hwaE, hxaE, hwE, hxE]
      have hnx : bb = false → (prT s a (c0 + 1)).any (bumpT s tb (i, k)) = false := fun h => by rw [prT_succ, List.any_append, v3]; simp [← hbb, h]
      have hyes : bb = true → v = false := fun h => hany (List.any_eq_true.2 ⟨(a, c0), allT_mem.2 ⟨by show a < _; omega, by show c0 < lenT s a; rw [← hA'.me]; exact hc⟩, by rw [← hbb]; exact h⟩)
      have hne1 : a ≠ i → A.cmp .neq ai ii = true := fun h => xneT1 hA (by rw [u2.eq, hii.eq]; omega)
      have hne2 : a = i → A.cmp .neq ai ii = false := fun h => xneF hA (by rw [u2.eq, hii.eq, h])
      have hne3 : c0 ≠ k → A.cmp .neq ci ki = true := fun h => xneT1 hA (by rw [v2.eq, hki.eq]; omega)
      have hne4 : c0 = k → A.cmp .neq ci ki = false := fun h => xneF hA (by rw [v2.eq, hki.eq, h])
      cbv
      refine ⟨iTa, ⟨_, gTa, ?_⟩⟩
      cbv
      refine ⟨iWc, ⟨_, gWc, ?_⟩⟩
      cbv
      refine code_cut hS { env := [(1, .sl 1 BL), (2, I ii), (3, I ki), (4, .b 0 0), (9, .b 1 0), (10, I x), (11, I (A.add x w.hi)), (12, I ai), (13, I ci), (14, .b 2 0), (15, .v (.bool ob))], H := [.box (.agg [I s.benches, .sl 3 TL]), .box (.agg [I w.b, I w.lo, I w.hi]), .box (.agg [I wa.b, I wa.lo, I wa.hi])], nt := 146, dfs := [] } ?_ ?_
      · refine region_part tokT hA hS [0, 1, 2] [3, 4, 5, 6, 7, 8] rfl ?_
        cbv
        by_cases g1 : a = i
        · refine part_is tokT hA hS 106 (.v (.bool false)) rfl (congrArg (fun b => D.v (.bool b)) (hne2 g1)) [3, 4, 5, 6] [7, 8] ?_
          cbv
          by_cases g2 : c0 = k
          · have eo : ob = false := by rw [hob, g1, g2]; simp
            refine part_is tokT hA hS 110 (.v (.bool false)) rfl (congrArg (fun b => D.v (.bool b)) (hne4 g2)) [7, 8] [] ?_
            cbv
            refine at_ops hS (ops_go tokT hA hS ?_)
            cbv
            exact gs_to [0, 1, 2] ⟨by decide, pre0, ⟨rfl, rfl, rfl, trivial⟩, ⟨rfl, rfl, rfl, rfl, rfl, rfl, rfl, rfl, rfl, rfl, by rw [eo]; rfl, trivial⟩, rfl, rfl⟩
          · have eo : ob = true := by rw [hob]; simp [g2]
            refine part_is tokT hA hS 110 (.v (.bool true)) rfl (congrArg (fun b => D.v (.bool b)) (hne3 g2)) [7, 8] [] ?_
            cbv
            refine at_ops hS (ops_go tokT hA hS ?_)
            cbv
            exact gs_to [0, 1, 2] ⟨by decide, pre0, ⟨rfl, rfl, rfl, trivial⟩, ⟨rfl, rfl, rfl, rfl, rfl, rfl, rfl, rfl, rfl, rfl, by rw [eo]; rfl, trivial⟩, rfl, rfl⟩
        · have eo : ob = true := by rw [hob]; simp [g1]
          refine part_is tokT hA hS 106 (.v (.bool true)) rfl (congrArg (fun b => D.v (.bool b)) (hne1 g1)) [3, 4, 5, 6, 7, 8] [] ?_
          cbv
          refine at_ops hS (ops_go tokT hA hS ?_)
          cbv
          exact gs_to [0, 1, 2] ⟨by decide, pre0, ⟨rfl, rfl, rfl, trivial⟩, ⟨rfl, rfl, rfl, rfl, rfl, rfl, rfl, rfl, rfl, rfl, by rw [eo]; rfl, trivial⟩, rfl, rfl⟩
      cbv
      refine code_cut hS { env := [(1, .sl 1 BL), (2, I ii), (3, I ki), (4, .b 0 0), (9, .b 1 0), (10, I x), (11, I (A.add x w.hi)), (12, I ai), (13, I ci), (145, .v (.bool bb))], H := [.box (.agg [I s.benches, .sl 3 TL]), .box (.agg [I w.b, I w.lo, I w.hi])], nt := 146, dfs := [] } ?_ ?_
      · cases ob with
        | false =>
          have eb : bb = false := by rw [hbb']; rfl
          refine draw_goE tokT hA hS [] [0, 1, 2, 3, 4, 5, 6, 7, 8, 9, 10, 11, 12, 13, 14, 15, 16, 17, 18, 19, 20, 21, 22, 23, 24, 25, 26, 27, 28, 29, 30, 31, 32, 33] rfl rfl fun Dk hD => ?_
          cbv
          exact gs_to [0, 1] ⟨by decide, pre0, ⟨rfl, rfl, trivial⟩, ⟨rfl, rfl, rfl, rfl, rfl, rfl, rfl, rfl, rfl, by rw [eb]; rfl, trivial⟩, rfl, rfl⟩
        | true =>
          refine draw_goE tokT hA hS [6] [0, 1, 2, 3, 4, 5, 6, 7, 8, 9, 10, 11, 12, 13, 14, 15, 16, 17, 18, 19, 20, 21, 22, 23, 24, 25, 26, 27, 28, 29, 30, 31, 32, 33] rfl rfl fun Dk hD => ?_
          cbv
          by_cases g3 : wa.b = w.b
          · refine draw_valG tokT hA hD [21] (.v (.bool true)) rfl rfl rfl rfl rfl rfl rfl rfl rfl (congrArg (fun b => D.v (.bool b)) (ceqT hA g3)) ?_
            cbv
            refine ⟨iBa, ⟨_, gBa, ?_⟩⟩
            cbv
            refine ⟨iLc, ⟨_, gLc, ?_⟩⟩
            cbv
            refine ⟨hfxa, ?_⟩
            by_cases g4 : x < A.add xa wa.hi
            · refine draw_valG tokT hA hD [32] (.v (.bool true)) rfl rfl rfl rfl rfl rfl rfl rfl rfl (congrArg (fun b => D.v (.bool b)) (yltT hA g4)) ?_
              cbv
              refine ⟨iBa, ⟨_, gBa, ?_⟩⟩
              cbv
              refine ⟨iLc, ⟨_, gLc, ?_⟩⟩
              cbv
              by_cases g5 : xa < A.add x w.hi
              · have eb : bb = true := by rw [hbb']; simp [g3, g4, g5]
                refine draw_valG tokT hA hD [] (.v (.bool true)) rfl rfl rfl rfl rfl rfl rfl rfl rfl (congrArg (fun b => D.v (.bool b)) (yltT hA g5)) ?_
                cbv
                exact gs_to [0, 1] ⟨by decide, pre0, ⟨rfl, rfl, trivial⟩, ⟨rfl, rfl, rfl, rfl, rfl, rfl, rfl, rfl, rfl, by rw [eb]; rfl, trivial⟩, rfl, rfl⟩
              · have eb : bb = false := by rw [hbb']; simp [g3, g4, g5]
                refine draw_valG tokT hA hD [] (.v (.bool false)) rfl rfl rfl rfl rfl rfl rfl rfl rfl (congrArg (fun b => D.v (.bool b)) (yltF hA (Int.not_lt.1 g5))) ?_
                cbv
                exact gs_to [0, 1] ⟨by decide, pre0, ⟨rfl, rfl, trivial⟩, ⟨rfl, rfl, rfl, rfl, rfl, rfl, rfl, rfl, rfl, by rw [eb]; rfl, trivial⟩, rfl, rfl⟩
            · have eb : bb = false := by rw [hbb']; simp [g3, g4]
              refine draw_valG tokT hA hD [] (.v (.bool false)) rfl rfl rfl rfl rfl rfl rfl rfl rfl (congrArg (fun b => D.v (.bool b)) (yltF hA (Int.not_lt.1 g4))) ?_
              cbv
              exact gs_to [0, 1] ⟨by decide, pre0, ⟨rfl, rfl, trivial⟩, ⟨rfl, rfl, rfl, rfl, rfl, rfl, rfl, rfl, rfl, by rw [eb]; rfl, trivial⟩, rfl, rfl⟩
          · have eb : bb = false := by rw [hbb']; simp [g3]
            refine draw_valG tokT hA hD [] (.v (.bool false)) rfl rfl rfl rfl rfl rfl rfl rfl rfl (congrArg (fun b => D.v (.bool b)) (ceqF hA g3)) ?_
            cbv
            exact gs_to [0, 1] ⟨by decide, pre0, ⟨rfl, rfl, trivial⟩, ⟨rfl, rfl, rfl, rfl, rfl, rfl, rfl, rfl, rfl, by rw [eb]; rfl, trivial⟩, rfl, rfl⟩
      cbv
      cases bb with
      | true =>
        rw [hyes rfl] at hq
        cbv
        refine gs_done (gs_done ?_)
        cbv
        exact gh_view [] (by decide) pre0 (H' := []) (d' := .v (.bool false)) trivial rfl (gh_done hq)
      | false =>
        have hnx' := hnx rfl
        cbv
        refine ⟨hfc, ?_⟩
        refine gs_loop (A.add ci 1, c0 + 1) [0, 1] ⟨hc, hv2, hnx'⟩ hmsc ?_
        exact ⟨by decide, pre0, ⟨rfl, rfl, trivial⟩, ⟨rfl, rfl, rfl, rfl, rfl, rfl, rfl, rfl, rfl, trivial⟩, rfl, rfl⟩
    · have hc : c0 = MA := by have := ynltL hA hA'.ll v2 c2; omega
      have hnx' : (prT s (a + 1) 0).any (bumpT s tb (i, k)) = false := by rw [prT_next, ← hA'.me, ← hc]; exact v3
      cbv
      refine gs_done ?_
      cbv
      refine ⟨hf, ?_⟩
      refine gs_loop (A.add ai 1, a + 1) [0, 1] ⟨ha, hu2, hnx'⟩ hms ?_
      exact ⟨by decide, pre0, ⟨rfl, rfl, trivial⟩, ⟨rfl, rfl, rfl, rfl, rfl, rfl, rfl, rfl, trivial⟩, rfl, rfl⟩
  · have ha : a = N := by have := ynltL hA hBl u2 c; omega
    rw [hgood' (by rw [ha, hN] at u3; exact u3)] at hq
    cbv
    refine gs_done ?_
    cbv
    exact gh_view [] (by decide) pre0 (H' := []) (d' := .v (.bool true)) trivial rfl (gh_done hq)

include hT hB in
set_option maxRecDepth 20000 in
set_option maxHeartbeats 8000000 in
/-- Clash, the documents' own. -/
theorem rClashAny (hs : Fin s) (hb : TbOk tb) (Q) (hq : ∀ i k e, (i, k, e) = clashN s tb → Q (RA.ret (.tup [I i, I k, I e])) []) : CallA Tryd.prog 27 [.agg [I s.benches, .sl 3 TL], .sl 1 BL] [] Q := by
  obtain ⟨A, hA⟩ : ∃ A, A = ar := ⟨_, rfl⟩
  have hbt : A.bnot true = false := by subst hA; rfl
  have hbf : A.bnot false = true := by subst hA; rfl
  obtain ⟨e1, he1⟩ : ∃ e, e = chkST s tb := ⟨_, rfl⟩
  refine callA_startF tokT hA [] Tryd.func27 rfl rfl rfl rfl rfl fun S hS => ?_
  cbv
  refine ops_call hS [.agg [I s.benches, .sl 3 TL], .sl 1 BL] [] [] rfl rfl rfl rfl rfl rfl rfl rfl (by decide) trivial (rCheckTable s hs tb hb TL BL hT hB e1 he1 _ ?_)
  refine ops_go tokT hA hS ?_
  cbv
  refine bm (fun c => ?_) (fun c => ?_)
  · have h1 := xne hA c
    have hq1 := hq 0 0 e1 (by
      rw [chkST] at he1
      by_cases h2 : chkS s = 0
      · rw [if_pos h2] at he1
        rw [clashN, if_pos h2, if_neg (by rw [← he1]; exact h1), he1]
      · rw [if_neg h2] at he1
        rw [clashN, if_neg h2, he1])
    cbv
    exact gh_view [] (by decide) pre0 (H' := []) (d' := .tup [I 0, I 0, I e1]) trivial rfl (gh_done hq1)
  have h0 : chkST s tb = 0 := by have := xnne hA c; omega
  have h10 : chkS s = 0 := by
    rw [chkST] at h0
    by_cases h2 : chkS s = 0
    · exact h2
    · rw [if_neg h2] at h0; exact h0
  have h20 : tabE s tb = 0 := by rw [chkST, if_pos h10] at h0; exact h0
  have hv := chkS_val h10
  obtain ⟨N, hN⟩ : ∃ N, N = s.tasks.length := ⟨_, rfl⟩
  have hBl : BL.length = N := by rw [hB, hN]; simp [(tab_ok h20).1]
  have hN4 : N ≤ 4 := by rw [hN]; exact hv.len
  have hqf : ∀ x, (allT s).find? (badR s tb) = some x → Q (RA.ret (.tup [I (x.1 : Nat), I (x.2 : Nat), I 0])) [] := fun x hx => hq _ _ _ (by rw [clashN, if_pos h10, if_pos h20, clash_same hv, hx])
  have hqn : (allT s).find? (badR s tb) = none → Q (RA.ret (.tup [I 0, I 0, I 11])) [] := fun hx => hq _ _ _ (by rw [clashN, if_pos h10, if_pos h20, clash_same hv, hx])
  cbv
  refine at_code hS ?_
  refine wpa_loopG (α := Int × Nat) (fun q => { env := [(1, .sl 1 BL), (2, .b 0 0), (8, I q.1)], H := [.box (.agg [I s.benches, .sl 3 TL])], nt := 39, dfs := [] })
    (fun q => N - q.2) (fun q => q.2 ≤ N ∧ IsI q.1 q.2 ∧ ∀ y ∈ prT s q.2 0, badR s tb y = false) (0, 0) ⟨Nat.zero_le _, ⟨rfl⟩, fun y hy => by simp [prT] at hy⟩ ?_ ?_
  · exact gs_to [0] ⟨by decide, pre0, ⟨rfl, trivial⟩, ⟨rfl, rfl, rfl, trivial⟩, rfl, rfl⟩
  rintro ⟨ai, a⟩ ⟨u1, u2, u3⟩
  dsimp only at u1 u2 u3
  refine wp_goF tokT hA hS [] ?_
  cbv
  refine bm (fun c => ?_) (fun c => ?_)
  · have ha : a < N := yltL hA hBl u2 c
    have haN : a < s.tasks.length := by omega
    obtain ⟨ta, WA, LA, MA, hA'⟩ := at_w s hv tb h20 TL BL hT hB A haN
    have iBa := yinbL hA hBl u2 ha
    have gBa := yget hA u2 hA'.bk
    have hf := yfit1 hA u2 (by omega)
    have hu2 := ysucc hA u2
    have hms : N - (a + 1) < N - a := by omega
    have hMA8 := hA'.m8
    cbv
    refine at_code hS ?_
    refine wpa_loopG (α := Int × Nat) (fun q => { env := [(1, .sl 1 BL), (2, .b 0 0), (8, I ai), (9, I q.1)], H := [.box (.agg [I s.benches, .sl 3 TL])], nt := 39, dfs := [] })
      (fun q => MA - q.2) (fun q => q.2 ≤ MA ∧ IsI q.1 q.2 ∧ ∀ y ∈ prT s a q.2, badR s tb y = false) (0, 0) ⟨Nat.zero_le _, ⟨rfl⟩, u3⟩ ?_ ?_
    · exact gs_to [0] ⟨by decide, pre0, ⟨rfl, trivial⟩, ⟨rfl, rfl, rfl, rfl, trivial⟩, rfl, rfl⟩
    rintro ⟨ci, c0⟩ ⟨v1, v2, v3⟩
    dsimp only at v1 v2 v3
    refine wp_goF tokT hA hS [] ?_
    cbv
    refine ⟨iBa, ⟨_, gBa, ?_⟩⟩
    cbv
    refine bm (fun c2 => ?_) (fun c2 => ?_)
    · have hc : c0 < MA := yltL hA hA'.ll v2 c2
      have hcl : c0 < lenT s a := by rw [← hA'.me]; exact hc
      have hfc := yfit1 hA v2 (by omega)
      have hv2 := ysucc hA v2
      have hmsc : MA - (c0 + 1) < MA - c0 := by omega
      obtain ⟨bd, hbd⟩ : ∃ bd, bd = badR s tb (a, c0) := ⟨_, rfl⟩
      have hcan : ∀ v, v = !bd → ∀ Q, Q (RA.ret (.v (.bool v))) [] → CallA Tryd.prog 75 [.agg [I s.benches, .sl 3 TL], .sl 1 BL, I ai, I ci] [] Q := fun v hv' Q hq => rCan s hv tb h20 TL BL hT hB a c0 ai ci u2 v2 haN hcl v (by rw [hv', hbd]) Q hq
      cbv
      cases bd with
      | true =>
        have hpre : prT s a c0 ++ [(a, c0)] <+: allT s := by rw [← prT_succ]; exact prT_pre a (c0 + 1) haN (by omega)
        have hfd := hqf (a, c0) (find_pre hpre v3 hbd.symm)
        have e1 : ai = ((a : Nat) : Int) := u2.eq
        have e2 : ci = ((c0 : Nat) : Int) := v2.eq
        have hfd' : Q (RA.ret (.tup [I ai, I ci, I 0])) [] := by rw [e1, e2]; exact hfd
        refine ops_call hS [.agg [I s.benches, .sl 3 TL], .sl 1 BL, I ai, I ci] [] [] rfl rfl rfl rfl rfl rfl rfl rfl (by decide) trivial (hcan false rfl _ ?_)
        refine ops_go tokT hA hS ?_
        cbv
        refine bm (fun _ => ?_) (fun c => Bool.noConfusion (hbf.symm.trans c))
        cbv
        refine gs_done (gs_done ?_)
        cbv
        exact gh_view [] (by decide) pre0 (H' := []) (d' := .tup [I ai, I ci, I 0]) trivial rfl (gh_done hfd')
      | false =>
        have hnb : ∀ y ∈ prT s a (c0 + 1), badR s tb y = false := fun y hy => by
          rw [prT_succ] at hy
          rcases List.mem_append.1 hy with hy | hy
          · exact v3 y hy
          · rw [List.mem_singleton.1 hy]; exact hbd.symm
        refine ops_call hS [.agg [I s.benches, .sl 3 TL], .sl 1 BL, I ai, I ci] [] [] rfl rfl rfl rfl rfl rfl rfl rfl (by decide) trivial (hcan true rfl _ ?_)
        refine ops_go tokT hA hS ?_
        cbv
        refine bm (fun c => Bool.noConfusion (hbt.symm.trans c)) (fun _ => ?_)
        cbv
        refine ⟨hfc, ?_⟩
        refine gs_loop (A.add ci 1, c0 + 1) [0] ⟨hc, hv2, hnb⟩ hmsc ?_
        exact ⟨by decide, pre0, ⟨rfl, trivial⟩, ⟨rfl, rfl, rfl, rfl, trivial⟩, rfl, rfl⟩
    · have hc : c0 = MA := by have := ynltL hA hA'.ll v2 c2; omega
      have hn2 : ∀ y ∈ prT s (a + 1) 0, badR s tb y = false := by rw [prT_next, ← hA'.me, ← hc]; exact v3
      cbv
      refine gs_done ?_
      cbv
      refine ⟨hf, ?_⟩
      refine gs_loop (A.add ai 1, a + 1) [0] ⟨ha, hu2, hn2⟩ hms ?_
      exact ⟨by decide, pre0, ⟨rfl, trivial⟩, ⟨rfl, rfl, rfl, trivial⟩, rfl, rfl⟩
  · have ha : a = N := by have := ynltL hA hBl u2 c; omega
    have hfd := hqn (find_none fun y hy => u3 y (by rw [ha, hN]; exact hy))
    cbv
    refine gs_done ?_
    cbv
    exact gh_view [] (by decide) pre0 (H' := []) (d' := .tup [I 0, I 0, I 11]) trivial rfl (gh_done hfd)
end
end Go.Proofs.YtmloogdalecilaaDoor
