/- Part RunsZ of the proofs about the benches of the accordion maker: see the last text of the claim for what is proved. -/
import Derived.Test.YtmloogdalecilaaGreatDoorRunsA
import Derived.Test.YtmloogdalecilaaGreatDoorBestB
import Derived.Test.YtmloogdalecilaaGreatDoorTurnA
set_option linter.unusedVariables false
set_option linter.unusedSimpArgs false
set_option linter.unnecessarySimpa false
set_option linter.constructorNameAsVariable false

/-! Y1 -/
namespace Go.Proofs.YtmloogdalecilaaGreatDoor
open Go Go.Abs Go.Proofs

set_option maxRecDepth 20000 in
set_option maxHeartbeats 2000000 in
theorem rEndsErr (s : Sh) (hs : Fin s) (pl : List Int) (hpl : pl.length ≤ 1000000) (TL PL : List D) (hT : TL = s.tasks.map taskD) (hP : PL = pl.map I) (e : Int) (he : e = chkSP s pl) (hne : e ≠ 0) (Q) (hq : Q (RA.ret (.tup [.v (.slice none 0 0), I e])) []) :
    CallA Tryz.prog 29 [.agg [I s.benches, .sl 3 TL], .sl 1 PL] [] Q := by
  obtain ⟨A, hA⟩ : ∃ A, A = ar := ⟨_, rfl⟩
  refine callA_start tokT hA Tryz.func29 rfl rfl rfl rfl rfl fun S hS => ?_
  cbv
  refine ops_call hS [.agg [I s.benches, .sl 3 TL], .sl 1 PL] [] [] rfl rfl rfl rfl rfl rfl rfl rfl (by decide) trivial (rCheckPlanAny s hs pl hpl TL PL hT hP e he _ ?_)
  refine ops_go tokT hA hS ?_
  cbv
  refine bm (fun c => ?_) (fun c => ?_)
  · cbv
    exact gh_view [] (by decide) pre0 (H' := []) (d' := .tup [.v (.slice none 0 0), I e]) trivial rfl (gh_done hq)
  · exact absurd (xnne hA c) hne

set_option maxRecDepth 20000 in
set_option maxHeartbeats 2000000 in
theorem rLateErr (s : Sh) (hs : Fin s) (pl : List Int) (hpl : pl.length ≤ 1000000) (TL PL : List D) (hT : TL = s.tasks.map taskD) (hP : PL = pl.map I) (e : Int) (he : e = chkSP s pl) (hne : e ≠ 0) (Q) (hq : Q (RA.ret (.tup [.v (.slice none 0 0), I e])) []) :
    CallA Tryz.prog 33 [.agg [I s.benches, .sl 3 TL], .sl 1 PL] [] Q := by
  obtain ⟨A, hA⟩ : ∃ A, A = ar := ⟨_, rfl⟩
  refine callA_start tokT hA Tryz.func33 rfl rfl rfl rfl rfl fun S hS => ?_
  cbv
  refine ops_call hS [.agg [I s.benches, .sl 3 TL], .sl 1 PL] [] [] rfl rfl rfl rfl rfl rfl rfl rfl (by decide) trivial (rCheckPlanAny s hs pl hpl TL PL hT hP e he _ ?_)
  refine ops_go tokT hA hS ?_
  cbv
  refine bm (fun c => ?_) (fun c => ?_)
  · cbv
    exact gh_view [] (by decide) pre0 (H' := []) (d' := .tup [.v (.slice none 0 0), I e]) trivial rfl (gh_done hq)
  · exact absurd (xnne hA c) hne

set_option maxRecDepth 20000 in
set_option maxHeartbeats 2000000 in
theorem rLastErr (s : Sh) (hs : Fin s) (pl : List Int) (hpl : pl.length ≤ 1000000) (TL PL : List D) (hT : TL = s.tasks.map taskD) (hP : PL = pl.map I) (e : Int) (he : e = chkSP s pl) (hne : e ≠ 0) (Q) (hq : Q (RA.ret (.tup [.agg [I 0, I 0], I e])) []) :
    CallA Tryz.prog 31 [.agg [I s.benches, .sl 3 TL], .sl 1 PL] [] Q := by
  obtain ⟨A, hA⟩ : ∃ A, A = ar := ⟨_, rfl⟩
  refine callA_start tokT hA Tryz.func31 rfl rfl rfl rfl rfl fun S hS => ?_
  cbv
  refine ops_call hS [.agg [I s.benches, .sl 3 TL], .sl 1 PL] [] [] rfl rfl rfl rfl rfl rfl rfl rfl (by decide) trivial (rCheckPlanAny s hs pl hpl TL PL hT hP e he _ ?_)
  refine ops_go tokT hA hS ?_
  cbv
  refine bm (fun c => ?_) (fun c => ?_)
  · cbv
    exact gh_view [] (by decide) pre0 (H' := []) (d' := .tup [.agg [I 0, I 0], I e]) trivial rfl (gh_done hq)
  · exact absurd (xnne hA c) hne

set_option maxRecDepth 20000 in
set_option maxHeartbeats 4000000 in
theorem rEndsPlan (s : Sh) (hs : ShopOk s) (p : List Nat) (hp : PlanOk s p) (pl : List Int) (hpe : pl = p.map (fun i : Nat => (i : Int))) (h0 : chkSP s pl = 0) (TL PL : List D) (hT : TL = s.tasks.map taskD) (hP : PL = planL p) (Q) (hq : ∀ L, L = (endsS s p).map rngD → Q (RA.ret (.tup [.sl 2 L, I 0])) []) :
    CallA Tryz.prog 29 [.agg [I s.benches, .sl 3 TL], .sl 1 PL] [] Q := by
  obtain ⟨A, hA⟩ : ∃ A, A = ar := ⟨_, rfl⟩
  have hv := chkS_val hs.chk
  have hlen := hv.len
  have hp8 : p.length ≤ 8 := by rw [hp.len]; exact hv.sum
  have hpl : pl.length ≤ 1000000 := by rw [hpe, List.length_map]; omega
  have hP2 : PL = pl.map I := by rw [hP, hpe, List.map_map]; rfl
  refine callA_start tokT hA Tryz.func29 rfl rfl rfl rfl rfl fun S hS => ?_
  cbv
  refine ops_call hS [.agg [I s.benches, .sl 3 TL], .sl 1 PL] [] [] rfl rfl rfl rfl rfl rfl rfl rfl (by decide) trivial (rCheckPlanAny s hs.fin pl hpl TL PL hT hP2 0 h0.symm _ ?_)
  refine ops_go tokT hA hS ?_
  cbv
  refine bm (fun c => absurd rfl (xne hA c)) (fun c => ?_)
  cbv
  refine ops_call hS [.agg [I s.benches, .sl 3 TL], .sl 1 PL] [] [] rfl rfl rfl rfl rfl rfl rfl rfl (by decide) trivial (rEnds s hv p hp.le (by omega) TL PL hT hP _ fun EL hE => ?_)
  refine ops_go tokT hA hS ?_
  cbv
  exact gh_view [] (by decide) pre0 (H' := []) (d' := .tup [.sl 2 EL, I 0]) trivial rfl (gh_done (hq EL hE))

set_option maxRecDepth 20000 in
set_option maxHeartbeats 4000000 in
theorem rLastPlan (s : Sh) (hs : ShopOk s) (p : List Nat) (hp : PlanOk s p) (pl : List Int) (hpe : pl = p.map (fun i : Nat => (i : Int))) (h0 : chkSP s pl = 0) (TL PL : List D) (hT : TL = s.tasks.map taskD) (hP : PL = planL p) (Q) (hq : ∀ lo hi, lastS (runS s (fun _ => 0) p) = (lo, hi) → Q (RA.ret (.tup [.agg [I lo, I hi], I 0])) []) :
    CallA Tryz.prog 31 [.agg [I s.benches, .sl 3 TL], .sl 1 PL] [] Q := by
  obtain ⟨A, hA⟩ : ∃ A, A = ar := ⟨_, rfl⟩
  have hv := chkS_val hs.chk
  have hlen := hv.len
  have hp8 : p.length ≤ 8 := by rw [hp.len]; exact hv.sum
  have hpl : pl.length ≤ 1000000 := by rw [hpe, List.length_map]; omega
  have hP2 : PL = pl.map I := by rw [hP, hpe, List.map_map]; rfl
  refine callA_start tokT hA Tryz.func31 rfl rfl rfl rfl rfl fun S hS => ?_
  cbv
  refine ops_call hS [.agg [I s.benches, .sl 3 TL], .sl 1 PL] [] [] rfl rfl rfl rfl rfl rfl rfl rfl (by decide) trivial (rCheckPlanAny s hs.fin pl hpl TL PL hT hP2 0 h0.symm _ ?_)
  refine ops_go tokT hA hS ?_
  cbv
  refine bm (fun c => absurd rfl (xne hA c)) (fun c => ?_)
  cbv
  refine ops_call hS [.agg [I s.benches, .sl 3 TL], .sl 1 PL] [] [] rfl rfl rfl rfl rfl rfl rfl rfl (by decide) trivial (rLast s hv p hp.le (by omega) TL PL hT hP _ fun lo hi hl => ?_)
  refine ops_go tokT hA hS ?_
  cbv
  exact gh_view [] (by decide) pre0 (H' := []) (d' := .tup [.agg [I lo, I hi], I 0]) trivial rfl (gh_done (hq lo hi hl))

set_option maxRecDepth 20000 in
set_option maxHeartbeats 4000000 in
theorem rLatePlan (s : Sh) (hs : ShopOk s) (p : List Nat) (hp : PlanOk s p) (pl : List Int) (hpe : pl = p.map (fun i : Nat => (i : Int))) (h0 : chkSP s pl = 0) (TL PL : List D) (hT : TL = s.tasks.map taskD) (hP : PL = planL p) (Q) (hq : ∀ L, L = (lateS s p).map I → Q (RA.ret (.tup [.sl 1 L, I 0])) []) :
    CallA Tryz.prog 33 [.agg [I s.benches, .sl 3 TL], .sl 1 PL] [] Q := by
  obtain ⟨A, hA⟩ : ∃ A, A = ar := ⟨_, rfl⟩
  have hv := chkS_val hs.chk
  have hlen := hv.len
  have hp8 : p.length ≤ 8 := by rw [hp.len]; exact hv.sum
  have hpl : pl.length ≤ 1000000 := by rw [hpe, List.length_map]; omega
  have hP2 : PL = pl.map I := by rw [hP, hpe, List.map_map]; rfl
  refine callA_start tokT hA Tryz.func33 rfl rfl rfl rfl rfl fun S hS => ?_
  cbv
  refine ops_call hS [.agg [I s.benches, .sl 3 TL], .sl 1 PL] [] [] rfl rfl rfl rfl rfl rfl rfl rfl (by decide) trivial (rCheckPlanAny s hs.fin pl hpl TL PL hT hP2 0 h0.symm _ ?_)
  refine ops_go tokT hA hS ?_
  cbv
  refine bm (fun c => absurd rfl (xne hA c)) (fun c => ?_)
  cbv
  refine ops_call hS [.agg [I s.benches, .sl 3 TL], .sl 1 PL] [] [] rfl rfl rfl rfl rfl rfl rfl rfl (by decide) trivial (rEnds s hv p hp.le (by omega) TL PL hT hP _ fun EL hE => ?_)
  obtain ⟨N, hN⟩ : ∃ N, N = s.tasks.length := ⟨_, rfl⟩
  have hTl : TL.length = N := by rw [hT, hN]; simp
  have hEl : EL.length = N := by rw [hE, hN]; simp [endsS_len]
  refine ops_go tokT hA hS ?_
  cbv
  refine at_code hS ?_
  refine wpa_loopG (α := Int × Nat × List D) (fun q => { env := [(2, .b 0 0), (7, .o 1 1 q.2.1), (8, .sl 2 EL), (9, I q.1)], H := [.box (.agg [I s.benches, .sl 3 TL]), .els 1 q.2.2], nt := 58, dfs := [] })
    (fun q => N - q.2.1) (fun q => IsI q.1 q.2.1 ∧ q.2.1 ≤ N ∧ q.2.2 = ((lateS s p).take q.2.1).map I) (0, 0, []) ⟨⟨rfl⟩, Nat.zero_le _, rfl⟩ ?_ ?_
  · refine gs_virt 7 1 rfl ?_
    exact gs_to [0, 1] ⟨by decide, pre0, ⟨rfl, rfl, trivial⟩, ⟨rfl, rfl, rfl, rfl, trivial⟩, rfl, rfl⟩
  rintro ⟨i, k, L⟩ ⟨u1, u2, u3⟩
  dsimp only at u1 u2 u3
  have hLs : (lateS s p).length = N := by rw [hN]; simp [lateS]
  have hLl : L.length = k := by rw [u3]; simp [hLs]; omega
  refine wp_go tokT hA hS ?_
  cbv
  refine bm (fun c => ?_) (fun c => ?_)
  · have hk : k < N := yltL hA hEl u1 c
    obtain ⟨t, ht⟩ : ∃ t, t = s.tasks.getD k default := ⟨_, rfl⟩
    have htk : s.tasks[k]? = some t := by rw [ht, List.getD_eq_getElem?_getD, List.getElem?_eq_getElem (by omega)]; rfl
    obtain ⟨WL, hWL⟩ : ∃ WL, WL = t.works.map workD := ⟨_, rfl⟩
    have hTk : TL[k]? = some (.agg [I t.ready, I t.due, .sl 3 WL]) := by rw [hT]; simp [htk, hWL, taskD]
    obtain ⟨e1, e2, he⟩ : ∃ e1 e2, (endsS s p)[k]? = some (e1, e2) := ⟨_, _, List.getElem?_eq_getElem (by rw [endsS_len]; omega)⟩
    have hEk : EL[k]? = some (.agg [I e1, I e2]) := by rw [hE]; simp [he, rngD]
    have hat : (lateS s p)[k]? = some (lateV (e1, e2) t.due) := by
      rw [lateS, List.getElem?_map, List.getElem?_range (by omega), Option.map_some, ← ht, List.getD_eq_getElem?_getD, he]; rfl
    have i1 := yinbL hA hEl u1 hk
    have i2 := yinbL hA hTl u1 hk
    have g1 := yget hA u1 hEk
    have g2 := yget hA u1 hTk
    have hf1 := yfit1 hA u1 (by omega)
    have hu1 := ysucc hA u1
    have hms : N - (k + 1) < N - k := by omega
    have hkb : k ≤ 1000000 := by omega
    have hnx : ∀ v, lateV (e1, e2) t.due = v → A.app L [I v] = ((lateS s p).take (k + 1)).map I := fun v h => by
      rw [xapp hA, List.take_add_one, hat, u3, h]; simp
    have hv1 : t.due < e1 → lateV (e1, e2) t.due = 1 := fun h => by simp only [lateV]; rw [if_pos h]
    have hv2 : e1 ≤ t.due → e2 ≤ t.due → lateV (e1, e2) t.due = 2 := fun h h2 => by simp only [lateV]; rw [if_neg (by omega), if_pos h2]
    have hv3 : e1 ≤ t.due → t.due < e2 → lateV (e1, e2) t.due = 3 := fun h h2 => by simp only [lateV]; rw [if_neg (by omega), if_neg (by omega)]
    cbv
    refine ⟨i2, ⟨_, g2, ?_⟩⟩
    cbv
    refine ⟨i1, ⟨_, g1, ?_⟩⟩
    cbv
    refine bm (fun c1 => ?_) (fun c1 => ?_)
    · have hn := hnx 1 (hv1 (xgt hA c1))
      cbv
      refine ⟨yeqLen hA hLl, yeqLen hA rfl, yroom1 hA hkb (by decide), hf1, ?_⟩
      refine gs_loop (A.add i 1, k + 1, A.app L [I 1]) [0, 3] ⟨hu1, hk, hn⟩ hms ?_
      exact ⟨by decide, pre0, ⟨rfl, rfl, trivial⟩, ⟨rfl, by subst hA; rfl, rfl, rfl, trivial⟩, rfl, rfl⟩
    · cbv
      refine ⟨i1, ⟨_, g1, ?_⟩⟩
      cbv
      refine bm (fun c2 => ?_) (fun c2 => ?_)
      · have hn := hnx 2 (hv2 (xngt hA c1) (xle hA c2))
        cbv
        refine ⟨yeqLen hA hLl, yeqLen hA rfl, yroom1 hA hkb (by decide), hf1, ?_⟩
        refine gs_loop (A.add i 1, k + 1, A.app L [I 2]) [0, 3] ⟨hu1, hk, hn⟩ hms ?_
        exact ⟨by decide, pre0, ⟨rfl, rfl, trivial⟩, ⟨rfl, by subst hA; rfl, rfl, rfl, trivial⟩, rfl, rfl⟩
      · have hn := hnx 3 (hv3 (xngt hA c1) (xnle hA c2))
        cbv
        refine ⟨yeqLen hA hLl, yeqLen hA rfl, yroom1 hA hkb (by decide), hf1, ?_⟩
        refine gs_loop (A.add i 1, k + 1, A.app L [I 3]) [0, 3] ⟨hu1, hk, hn⟩ hms ?_
        exact ⟨by decide, pre0, ⟨rfl, rfl, trivial⟩, ⟨rfl, by subst hA; rfl, rfl, rfl, trivial⟩, rfl, rfl⟩
  · have hk : k = N := by have := ynltL hA hEl u1 c; omega
    have hL : L = (lateS s p).map I := by rw [u3, hk, List.take_of_length_le (by omega)]
    cbv
    refine gs_done ?_
    cbv
    refine gh_frz [1] ?_
    cbv
    exact ⟨by cases L <;> exact hLl.symm, gh_view [] (by decide) pre0 (H' := []) (d' := .tup [.sl 1 L, I 0]) trivial rfl (gh_done (hq L hL))⟩

section
variable (s : Sh) (hs : Fin s) (pl : List Int) (hpl : pl.length ≤ 1000000) (TL PL : List D) (hT : TL = s.tasks.map taskD) (hP : PL = pl.map I)

include hs hpl hT hP in
theorem rEndsAll (Q) (hq : ∀ a e, (a, e) = endsN s pl → ∀ L, L = a.map rngD → Q (RA.ret (.tup [.sl 2 L, I e])) []) : CallA Tryz.prog 29 [.agg [I s.benches, .sl 3 TL], .sl 1 PL] [] Q := by
  by_cases h : chkSP s pl = 0
  · obtain ⟨hok, p, hp, hpe⟩ := planX_of hs h
    have hPp : PL = p.map (fun i => I (i : Nat)) := by rw [hP, hpe, List.map_map]; rfl
    exact rEndsPlan s hok p hp pl hpe h TL PL hT hPp Q fun L hL => hq _ 0 (by rw [endsN, if_pos h, hpe, toNat_mapX]) L hL
  · refine callA_gh (rEndsErr s hs pl hpl TL PL hT hP _ rfl h (ghQ ([] : List Blk).length Q) ?_)
    have := hq [] (chkSP s pl) (by rw [endsN, if_neg h]) [] rfl
    exact gh_weak (d' := .tup [.sl 2 [], I (chkSP s pl)]) (.tup ⟨.nil, .rfl, trivial⟩) (gh_done this)

include hs hpl hT hP in
theorem rLateAll (Q) (hq : ∀ a e, (a, e) = lateAN s pl → ∀ L, L = a.map I → Q (RA.ret (.tup [.sl 1 L, I e])) []) : CallA Tryz.prog 33 [.agg [I s.benches, .sl 3 TL], .sl 1 PL] [] Q := by
  by_cases h : chkSP s pl = 0
  · obtain ⟨hok, p, hp, hpe⟩ := planX_of hs h
    have hPp : PL = p.map (fun i => I (i : Nat)) := by rw [hP, hpe, List.map_map]; rfl
    exact rLatePlan s hok p hp pl hpe h TL PL hT hPp Q fun L hL => hq _ 0 (by rw [lateAN, if_pos h, hpe, toNat_mapX]) L hL
  · refine callA_gh (rLateErr s hs pl hpl TL PL hT hP _ rfl h (ghQ ([] : List Blk).length Q) ?_)
    have := hq [] (chkSP s pl) (by rw [lateAN, if_neg h]) [] rfl
    exact gh_weak (d' := .tup [.sl 1 [], I (chkSP s pl)]) (.tup ⟨.nil, .rfl, trivial⟩) (gh_done this)

include hs hpl hT hP in
theorem rLastAll (Q) (hq : ∀ lo hi e, ((lo, hi), e) = lastN s pl → Q (RA.ret (.tup [.agg [I lo, I hi], I e])) []) : CallA Tryz.prog 31 [.agg [I s.benches, .sl 3 TL], .sl 1 PL] [] Q := by
  by_cases h : chkSP s pl = 0
  · obtain ⟨hok, p, hp, hpe⟩ := planX_of hs h
    have hPp : PL = p.map (fun i => I (i : Nat)) := by rw [hP, hpe, List.map_map]; rfl
    exact rLastPlan s hok p hp pl hpe h TL PL hT hPp Q fun lo hi hl => hq lo hi 0 (by rw [lastN, if_pos h, hpe, toNat_mapX, hl])
  · exact rLastErr s hs pl hpl TL PL hT hP _ rfl h Q (hq 0 0 (chkSP s pl) (by rw [lastN, if_neg h]))
end
end Go.Proofs.YtmloogdalecilaaGreatDoor
