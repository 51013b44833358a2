/- Part BestA of the proofs about the benches of the accordion maker: see the last text of the claim for what is proved. -/
import Derived.Test.YtmloogdalecilaaDoorBenchB
import Derived.Test.YtmloogdalecilaaDoorMachD
import Derived.Test.YtmloogdalecilaaDoorFirstA
set_option linter.unusedVariables false
set_option linter.unusedSimpArgs false
set_option linter.unnecessarySimpa false
set_option linter.constructorNameAsVariable false

/-! D46 -/
namespace Go.Proofs.YtmloogdalecilaaDoor
open Go Go.Abs Go.Proofs

set_option maxRecDepth 20000 in
set_option maxHeartbeats 2000000 in
/-- checkWork, the documents' own. -/
theorem rCheckWork (b : Int) (hb : 1 ≤ b ∧ b ≤ 3) (w : Wk) (TL : List D) (n : Int) (hn : n = chkW b w) (Q) (hq : Q (RA.ret (I n)) []) :
    CallA Tryd.prog 96 [.agg [I b, .sl 3 TL], .agg [I w.b, I w.lo, I w.hi]] [] Q := by
  obtain ⟨A, hA⟩ : ∃ A, A = ar := ⟨_, rfl⟩
  obtain ⟨b3, hb3⟩ : ∃ x, x = decide (0 ≤ w.b ∧ w.b ≤ b - 1) := ⟨_, rfl⟩
  obtain ⟨b4, hb4⟩ : ∃ x, x = decide (1 ≤ w.lo ∧ w.lo ≤ 20) := ⟨_, rfl⟩
  obtain ⟨b5, hb5⟩ : ∃ x, x = decide (1 ≤ w.hi ∧ w.hi ≤ 20) := ⟨_, rfl⟩
  have hb3' : b3 = decide (0 ≤ w.b ∧ w.b ≤ A.sub b 1) := by rw [xsub hA]; exact hb3
  have hf : A.fits .i64 (A.sub b 1) := xfitE hA (xsub hA b 1) (by omega)
  have z1 : b3 = false → n = 3 := fun h => by rw [hn, chkW, amg, ← hb3, if_pos h]
  have z2 : b3 = true → b4 = false → n = 1 := fun h h2 => by rw [hn, chkW, amg, ← hb3, h, if_neg (by decide), amg, ← hb4, if_pos h2]
  have z3 : b3 = true → b4 = true → b5 = false → n = 1 := fun h h2 h3 => by rw [hn, chkW, amg, ← hb3, h, if_neg (by decide), amg, ← hb4, h2, if_neg (by decide), amg, ← hb5, if_pos h3]
  have z4 : b3 = true → b4 = true → b5 = true → w.hi < w.lo → n = 5 := fun h h2 h3 h4 => by rw [hn, chkW, amg, ← hb3, h, if_neg (by decide), amg, ← hb4, h2, if_neg (by decide), amg, ← hb5, h3, if_neg (by decide), if_pos h4]
  have z5 : b3 = true → b4 = true → b5 = true → w.lo ≤ w.hi → n = 0 := fun h h2 h3 h4 => by rw [hn, chkW, amg, ← hb3, h, if_neg (by decide), amg, ← hb4, h2, if_neg (by decide), amg, ← hb5, h3, if_neg (by decide), if_neg (by omega)]
  refine callA_start tokT hA Tryd.func96 rfl rfl rfl rfl rfl fun S hS => ?_
  cbv
  refine ⟨hf, ?_⟩
  refine ops_call hS [I w.b, I 0, I (A.sub b 1)] [] [] rfl rfl rfl rfl rfl rfl rfl rfl (by decide) trivial (rAm _ _ _ b3 hb3' _ ?_)
  refine ops_go tokT hA hS ?_
  cbv
  refine bm (fun c => ?_) (fun c => ?_)
  · have hz := z1 (xnot hA c)
    rw [hz] at hq
    cbv
    exact gh_view [] (by decide) pre0 (H' := []) (d' := I 3) trivial rfl (gh_done hq)
  have d3 := xnnot hA c
  cbv
  refine ops_call hS [I w.lo, I 1, I 20] [] [] rfl rfl rfl rfl rfl rfl rfl rfl (by decide) trivial (rAm _ _ _ b4 hb4 _ ?_)
  refine ops_go tokT hA hS ?_
  cbv
  refine bm (fun c => ?_) (fun c => ?_)
  · have hz := z2 d3 (xnot hA c)
    rw [hz] at hq
    cbv
    refine ops_callG (f := 0) hS rfl rfl rfl rfl rfl rfl rfl rfl (fun e => Bool.noConfusion e) (fun _ => ?_)
    refine ops_go tokT hA hS ?_
    cbv
    exact gh_view [] (by decide) pre0 (H' := []) (d' := I 1) trivial rfl (gh_done hq)
  have d4 := xnnot hA c
  cbv
  refine ops_callG hS rfl rfl rfl rfl rfl rfl rfl rfl (fun _ => ⟨_, _, [I w.hi, I 1, I 20], [], [], rfl, rfl, rfl, by decide, trivial, rAm _ _ _ b5 hb5 _ ?_⟩) (fun e => absurd rfl e)
  refine ops_go tokT hA hS ?_
  cbv
  refine bm (fun c => ?_) (fun c => ?_)
  · have hz := z3 d3 d4 (xnot hA c)
    rw [hz] at hq
    cbv
    exact gh_view [] (by decide) pre0 (H' := []) (d' := I 1) trivial rfl (gh_done hq)
  have d5 := xnnot hA c
  cbv
  refine bm (fun c => ?_) (fun c => ?_)
  · have hz := z4 d3 d4 d5 (xgt hA c)
    rw [hz] at hq
    cbv
    exact gh_view [] (by decide) pre0 (H' := []) (d' := I 5) trivial rfl (gh_done hq)
  have hz := z5 d3 d4 d5 (xngt hA c)
  rw [hz] at hq
  cbv
  exact gh_view [] (by decide) pre0 (H' := []) (d' := I 0) trivial rfl (gh_done hq)
end Go.Proofs.YtmloogdalecilaaDoor

/-! D47 -/
namespace Go.Proofs.YtmloogdalecilaaDoor
open Go Go.Abs Go.Proofs

def chkR (s : Sh) (x : Int) : Int := if x = 0 then (if 8 < nWorks s.tasks then 6 else 0) else x
theorem chkR_ne {s : Sh} {x : Int} (h : x ≠ 0) : chkR s x = x := if_neg h

set_option maxRecDepth 20000 in
set_option maxHeartbeats 4000000 in
/-- Check, the documents' own. -/
theorem rCheck (s : Sh) (hs : Fin s) (TL : List D) (hT : TL = s.tasks.map taskD) (n : Int) (hn : n = chkS s) (Q) (hq : Q (RA.ret (I n)) []) :
    CallA Tryd.prog 53 [.agg [I s.benches, .sl 3 TL]] [] Q := by
  obtain ⟨A, hA⟩ : ∃ A, A = ar := ⟨_, rfl⟩
  obtain ⟨N, hN⟩ : ∃ N, N = s.tasks.length := ⟨_, rfl⟩
  have hTl : TL.length = N := by rw [hT, hN]; simp
  obtain ⟨b1, hb1⟩ : ∃ x, x = decide (1 ≤ s.benches ∧ s.benches ≤ 3) := ⟨_, rfl⟩
  refine callA_start tokT hA Tryd.func53 rfl rfl rfl rfl rfl fun S hS => ?_
  cbv
  refine ops_call hS [I s.benches, I 1, I 3] [] [] rfl rfl rfl rfl rfl rfl rfl rfl (by decide) trivial (rAm _ _ _ b1 hb1 _ ?_)
  refine ops_go tokT hA hS ?_
  cbv
  refine bm (fun c1 => ?_) (fun c1 => ?_)
  · have hz : n = 1 := by rw [hn, chkS, amg, ← hb1, if_pos (xnot hA c1)]
    rw [hz] at hq
    cbv
    exact gh_view [] (by decide) pre0 (H' := []) (d' := I 1) trivial rfl (gh_done hq)
  have d1 := xnnot hA c1
  have hbb : 1 ≤ s.benches ∧ s.benches ≤ 3 := by rw [d1] at hb1; exact of_decide_eq_true hb1.symm
  have hn1 : n = if 4 < s.tasks.length then 6 else chkR s (chkTs s.benches s.tasks) := by
    rw [hn, chkS, amg, ← hb1, d1, if_neg (by decide)]; rfl
  cbv
  refine bm (fun c2 => ?_) (fun c2 => ?_)
  · have hz : n = 6 := by have := ygtL hA hTl c2; rw [hn1, if_pos (by omega)]
    rw [hz] at hq
    cbv
    exact gh_view [] (by decide) pre0 (H' := []) (d' := I 6) trivial rfl (gh_done hq)
  have hN4 : N ≤ 4 := by have := yngtL hA hTl c2; omega
  have hn2 : n = chkR s (chkTs s.benches (s.tasks.drop 0)) := by rw [hn1, if_neg (by omega)]; rfl
  cbv
  refine at_code hS ?_
  refine wpa_loopG (α := Int × Nat × Int) (fun q => { env := [(1, .b 0 0), (3, I q.2.2), (4, I q.1)], H := [.box (.agg [I s.benches, .sl 3 TL])], nt := 66, dfs := [] })
    (fun q => N - q.2.1) (fun q => q.2.1 ≤ N ∧ IsI q.1 q.2.1 ∧ IsI q.2.2 (nWorks (s.tasks.take q.2.1)) ∧ n = chkR s (chkTs s.benches (s.tasks.drop q.2.1))) (0, 0, 0) ⟨Nat.zero_le _, ⟨rfl⟩, ⟨rfl⟩, hn2⟩ ?_ ?_
  · exact gs_to [0] ⟨by decide, pre0, ⟨rfl, trivial⟩, ⟨rfl, rfl, rfl, trivial⟩, rfl, rfl⟩
  rintro ⟨i, k, x⟩ ⟨u1, u2, u3, u4⟩
  dsimp only at u1 u2 u3 u4
  refine wp_go tokT hA hS ?_
  cbv
  refine bm (fun c => ?_) (fun c => ?_)
  · have hk : k < N := yltL hA hTl u2 c
    obtain ⟨t, ht⟩ : ∃ t, t = s.tasks[k] := ⟨_, rfl⟩
    have htk : s.tasks[k]? = some t := by rw [ht]; exact List.getElem?_eq_getElem (by omega)
    obtain ⟨WL, hWL⟩ : ∃ WL, WL = t.works.map workD := ⟨_, rfl⟩
    obtain ⟨W, hW⟩ : ∃ W, W = t.works.length := ⟨_, rfl⟩
    have hWl : WL.length = W := by rw [hWL, hW]; simp
    have hTk : TL[k]? = some (.agg [I t.ready, I t.due, .sl 3 WL]) := by rw [hT]; simp [htk, hWL, taskD]
    have hWb : W ≤ 1152921504606846976 := by rw [hW]; exact hs.2 t (List.mem_of_getElem? htk)
    have hsum : nWorks (s.tasks.take (k + 1)) = nWorks (s.tasks.take k) + W := by rw [List.take_add_one, htk]; simp [nWorks, hW]
    have hb := nWorks_take hs.2 (k + 1)
    have hfx : A.fits .i64 (A.add x (A.oi (A.len WL))) := by
      subst hA; exact ok64 (n := x + (WL.length : Int)) (by
        have := u3.eq
        have h4 : (k + 1) * 1152921504606846976 ≤ 4 * 1152921504606846976 := Nat.mul_le_mul_right _ (by omega)
        omega)
    have hx : IsI (A.add x (A.oi (A.len WL))) (nWorks (s.tasks.take (k + 1))) := by
      subst hA; exact ⟨by rw [hsum, u3.eq, ← hWl]; rfl⟩
    rw [chkTs_drop htk] at u4
    obtain ⟨z, hz⟩ : ∃ z, z = chkTs s.benches (s.tasks.drop (k + 1)) := ⟨_, rfl⟩
    rw [← hz] at u4
    obtain ⟨b2, hb2⟩ : ∃ x, x = decide (0 ≤ t.ready ∧ t.ready ≤ 200) := ⟨_, rfl⟩
    obtain ⟨b3, hb3⟩ : ∃ x, x = decide (0 ≤ t.due ∧ t.due ≤ 200) := ⟨_, rfl⟩
    have hin := yinbL hA hTl u2 hk
    have hg := yget hA u2 hTk
    have hf := yfit1 hA u2 (by omega)
    have hu2 := ysucc hA u2
    have hms : N - (k + 1) < N - k := by omega
    have z1 : b2 = false → n = 1 := fun h => by
      have e : chkT s.benches t = 1 := by rw [chkT, amg, ← hb2, if_pos h]
      rw [u4, e]; rfl
    have z2 : b2 = true → b3 = false → n = 1 := fun h h2 => by
      have e : chkT s.benches t = 1 := by rw [chkT, amg, ← hb2, h, if_neg (by decide), amg, ← hb3, if_pos h2]
      rw [u4, e]; rfl
    have z3 : b2 = true → b3 = true → (W : Int) = 0 → n = 7 := fun h h2 h3 => by
      have e : chkT s.benches t = 7 := by rw [chkT, amg, ← hb2, h, if_neg (by decide), amg, ← hb3, h2, if_neg (by decide), if_pos (List.eq_nil_of_length_eq_zero (by omega))]
      rw [u4, e]; rfl
    have z4 : b2 = true → b3 = true → (W : Int) ≠ 0 → n = chkR s (if chkWs s.benches (t.works.drop 0) = 0 then z else chkWs s.benches (t.works.drop 0)) := fun h h2 h3 => by
      have e : chkT s.benches t = chkWs s.benches t.works := by rw [chkT, amg, ← hb2, h, if_neg (by decide), amg, ← hb3, h2, if_neg (by decide), if_neg (fun e => h3 (by rw [hW, e]; rfl))]
      rw [u4, e]; rfl
    cbv
    refine ⟨hin, ⟨_, hg, ?_⟩⟩
    cbv
    refine ops_call hS [I t.ready, I 0, I 200] [] [] rfl rfl rfl rfl rfl rfl rfl rfl (by decide) trivial (rAm _ _ _ b2 hb2 _ ?_)
    refine ops_go tokT hA hS ?_
    cbv
    refine bm (fun c3 => ?_) (fun c3 => ?_)
    · have hz1 := z1 (xnot hA c3)
      rw [hz1] at hq
      cbv
      refine ops_callG (f := 0) hS rfl rfl rfl rfl rfl rfl rfl rfl (fun e => Bool.noConfusion e) (fun _ => ?_)
      refine ops_go tokT hA hS ?_
      cbv
      refine gs_done ?_
      cbv
      exact gh_view [] (by decide) pre0 (H' := []) (d' := I 1) trivial rfl (gh_done hq)
    have d3 := xnnot hA c3
    cbv
    refine ops_callG hS rfl rfl rfl rfl rfl rfl rfl rfl (fun _ => ⟨_, _, [I t.due, I 0, I 200], [], [], rfl, rfl, rfl, by decide, trivial, rAm _ _ _ b3 hb3 _ ?_⟩) (fun e => absurd rfl e)
    refine ops_go tokT hA hS ?_
    cbv
    refine bm (fun c4 => ?_) (fun c4 => ?_)
    · have hz1 := z2 d3 (xnot hA c4)
      rw [hz1] at hq
      cbv
      refine gs_done ?_
      cbv
      exact gh_view [] (by decide) pre0 (H' := []) (d' := I 1) trivial rfl (gh_done hq)
    have d4 := xnnot hA c4
    cbv
    refine bm (fun c5 => ?_) (fun c5 => ?_)
    · have hz1 := z3 d3 d4 (yeqL hA hWl c5)
      rw [hz1] at hq
      cbv
      refine gs_done ?_
      cbv
      exact gh_view [] (by decide) pre0 (H' := []) (d' := I 7) trivial rfl (gh_done hq)
    have hn3 := z4 d3 d4 (yneqL hA hWl c5)
    cbv
    refine at_code hS ?_
    refine wpa_loopG (α := Int × Nat) (fun q => { env := [(1, .b 0 0), (3, I x), (4, I i), (5, .b 1 0), (6, I q.1)], H := [.box (.agg [I s.benches, .sl 3 TL]), .box (.agg [I t.ready, I t.due, .sl 3 WL])], nt := 66, dfs := [] })
      (fun q => W - q.2) (fun q => q.2 ≤ W ∧ IsI q.1 q.2 ∧ n = chkR s (if chkWs s.benches (t.works.drop q.2) = 0 then z else chkWs s.benches (t.works.drop q.2))) (0, 0) ⟨Nat.zero_le _, ⟨rfl⟩, hn3⟩ ?_ ?_
    · exact gs_to [0, 1] ⟨by decide, pre0, ⟨rfl, rfl, trivial⟩, ⟨rfl, rfl, rfl, rfl, rfl, trivial⟩, rfl, rfl⟩
    rintro ⟨j, m⟩ ⟨v1, v2, v3⟩
    dsimp only at v1 v2 v3
    refine wp_go tokT hA hS ?_
    cbv
    refine bm (fun c6 => ?_) (fun c6 => ?_)
    · have hm : m < W := yltL hA hWl v2 c6
      obtain ⟨w, hw⟩ : ∃ w, w = t.works[m] := ⟨_, rfl⟩
      have hwm : t.works[m]? = some w := by rw [hw]; exact List.getElem?_eq_getElem (by omega)
      have hWm : WL[m]? = some (.agg [I w.b, I w.lo, I w.hi]) := by rw [hWL]; simp [hwm, workD]
      rw [chkWs_drop hwm] at v3
      obtain ⟨y, hy⟩ : ∃ y, y = chkW s.benches w := ⟨_, rfl⟩
      rw [← hy] at v3
      have hin2 := yinbL hA hWl v2 hm
      have hg2 := yget hA v2 hWm
      have hf2 := yfit1 hA v2 (by omega)
      have hv2 := ysucc hA v2
      have hms2 : W - (m + 1) < W - m := by omega
      have y1 : y ≠ 0 → n = y := fun h => by rw [v3, if_neg h, if_neg h, chkR_ne h]
      have y2 : y = 0 → n = chkR s (if chkWs s.benches (t.works.drop (m + 1)) = 0 then z else chkWs s.benches (t.works.drop (m + 1))) := fun h => by rw [v3, if_pos h]
      cbv
      refine draw_go tokT hA hS [0, 1, 2, 3, 4, 5, 6, 7] rfl rfl fun Dk hD => ?_
      cbv
      refine ⟨hin2, ⟨_, hg2, ?_⟩⟩
      cbv
      refine draw_call hA hD [.agg [I s.benches, .sl 3 TL], .agg [I w.b, I w.lo, I w.hi]] [] [] rfl rfl rfl rfl rfl rfl rfl rfl rfl rfl rfl (by decide) trivial (rCheckWork s.benches hbb w TL y hy _ ⟨by cbv, draw_on tokT hA hD ?_⟩)
      cbv
      refine bm (fun c7 => ?_) (fun c7 => ?_)
      · have hz1 := y1 (xne hA c7)
        rw [hz1] at hq
        cbv
        refine gs_done ?_
        cbv
        refine gs_done ?_
        cbv
        exact gh_view [] (by decide) pre0 (H' := []) (d' := I y) trivial rfl (gh_done hq)
      · have hz1 := y2 (xnne hA c7)
        cbv
        refine ⟨hf2, ?_⟩
        refine gs_loop (A.add j 1, m + 1) [0, 1] ⟨hm, hv2, hz1⟩ hms2 ?_
        exact ⟨by decide, pre0, ⟨rfl, rfl, trivial⟩, ⟨rfl, rfl, rfl, rfl, rfl, trivial⟩, rfl, rfl⟩
    · have hm : m = W := by have := ynltL hA hWl v2 c6; omega
      have hz1 : n = chkR s z := by rw [v3, List.drop_eq_nil_of_le (by omega)]; rfl
      rw [hz] at hz1
      cbv
      refine gs_done ?_
      cbv
      refine ⟨hfx, hf, ?_⟩
      refine gs_loop (A.add i 1, k + 1, A.add x (A.oi (A.len WL))) [0] ⟨hk, hu2, hx, hz1⟩ hms ?_
      exact ⟨by decide, pre0, ⟨rfl, trivial⟩, ⟨rfl, rfl, rfl, trivial⟩, rfl, rfl⟩
  · have hk : k = N := by have := ynltL hA hTl u2 c; omega
    have hz : n = if 8 < nWorks s.tasks then 6 else 0 := by rw [u4, List.drop_eq_nil_of_le (by omega)]; rfl
    have hx : IsI x (nWorks s.tasks) := by rw [hk, hN, List.take_length] at u3; exact u3
    have z1 : 8 < x → n = 6 := fun h => by have := hx.eq; rw [hz, if_pos (by omega)]
    have z2 : x ≤ 8 → n = 0 := fun h => by have := hx.eq; rw [hz, if_neg (by omega)]
    cbv
    refine gs_done ?_
    cbv
    refine bm (fun c => ?_) (fun c => ?_)
    · have hz1 := z1 (xgt hA c)
      rw [hz1] at hq
      cbv
      exact gh_view [] (by decide) pre0 (H' := []) (d' := I 6) trivial rfl (gh_done hq)
    · have hz1 := z2 (xngt hA c)
      rw [hz1] at hq
      cbv
      exact gh_view [] (by decide) pre0 (H' := []) (d' := I 0) trivial rfl (gh_done hq)
end Go.Proofs.YtmloogdalecilaaDoor

/-! D48 -/
namespace Go.Proofs.YtmloogdalecilaaDoor
open Go Go.Abs Go.Proofs

theorem ygtT {A : Ar} (hA : A = ar) {x y : Int} (h : y < x) : A.cmp .gtr x y = true := by subst hA; simp [ar, cmpI]; omega
theorem ygtF {A : Ar} (hA : A = ar) {x y : Int} (h : x ≤ y) : A.cmp .gtr x y = false := by subst hA; simp [ar, cmpI]; omega

/-- huge. -/
theorem kHuge (t : Tk) (WL : List D) (hW : WL = t.works.map workD) (b : Bool) (hb : b = decide (20 < t.works.length)) (Q) (hq : Q (RA.ret (.v (.bool b))) []) : CallA Tryd.prog 47 [.agg [I t.ready, I t.due, .sl 3 WL]] [] Q := by
  obtain ⟨A, hA⟩ : ∃ A, A = ar := ⟨_, rfl⟩
  have hWl : WL.length = t.works.length := by rw [hW]; simp
  have hg : A.cmp .gtr (A.oi (A.len WL)) 20 = b := by rw [yoiL hA hWl, hb]; subst hA; simp only [ar, cmpI]; exact decide_eq_decide.2 (by omega)
  rw [← hg] at hq
  refine callA_start tokT hA Tryd.func47 rfl rfl rfl rfl rfl fun S hS => ?_
  cbv
  exact gh_view [] (by decide) pre0 (H' := []) (d' := .v (.bool (A.cmp .gtr (A.oi (A.len WL)) 20))) trivial rfl (gh_done hq)

/-- What is not big. -/
def NotBig (s : Sh) : Prop := s.tasks.length ≤ 20 ∧ ∀ t ∈ s.tasks, t.works.length ≤ 20

set_option maxRecDepth 20000 in
set_option maxHeartbeats 2000000 in
/-- big. -/
theorem kBig (s : Sh) (hs : Fin s) (TL : List D) (hT : TL = s.tasks.map taskD) (Q) (h1 : Q (RA.ret (.v (.bool true))) []) (h2 : NotBig s → Q (RA.ret (.v (.bool false))) []) : CallA Tryd.prog 17 [.agg [I s.benches, .sl 3 TL]] [] Q := by
  obtain ⟨A, hA⟩ : ∃ A, A = ar := ⟨_, rfl⟩
  obtain ⟨N, hN⟩ : ∃ N, N = s.tasks.length := ⟨_, rfl⟩
  have hTl : TL.length = N := by rw [hT, hN]; simp
  have hNb := hs.1
  refine callA_startF tokT hA [] Tryd.func17 rfl rfl rfl rfl rfl fun S hS => ?_
  cbv
  refine at_code hS ?_
  refine wpa_loopG (α := Int × Nat) (fun q => { env := [(1, .b 0 0), (3, I q.1)], H := [.box (.agg [I s.benches, .sl 3 TL])], nt := 25, dfs := [] })
    (fun q => N - q.2) (fun q => IsI q.1 q.2 ∧ q.2 ≤ N ∧ q.2 ≤ 20 ∧ ∀ i t, i < q.2 → s.tasks[i]? = some t → t.works.length ≤ 20) (0, 0) ⟨⟨rfl⟩, Nat.zero_le _, by decide, fun i t h => by omega⟩ ?_ ?_
  · exact gs_to [0] ⟨by decide, pre0, ⟨rfl, trivial⟩, ⟨rfl, rfl, trivial⟩, rfl, rfl⟩
  rintro ⟨i, k⟩ ⟨u1, u2, u3, u4⟩
  dsimp only at u1 u2 u3 u4
  by_cases hk : k < N ∧ k < 20
  · obtain ⟨hk, hk20⟩ := hk
    obtain ⟨t, ht⟩ : ∃ t, t = s.tasks[k] := ⟨_, rfl⟩
    have htk : s.tasks[k]? = some t := by rw [ht]; exact List.getElem?_eq_getElem (by omega)
    obtain ⟨WL, hWL⟩ : ∃ WL, WL = t.works.map workD := ⟨_, rfl⟩
    have hTk : TL[k]? = some (.agg [I t.ready, I t.due, .sl 3 WL]) := by rw [hT]; simp [htk, hWL, taskD]
    have hin := yinbL hA hTl u1 hk
    have hg := yget hA u1 hTk
    have hf := yfit1 hA u1 (by omega)
    have hu1 := ysucc hA u1
    have hms : N - (k + 1) < N - k := by omega
    have c1 : A.cmp .lss i (A.oi (A.len TL)) = true := by rw [yoiL hA hTl, u1.eq]; subst hA; simp [ar, cmpI]; omega
    have c2 : A.cmp .lss i 20 = true := by rw [u1.eq]; subst hA; simp [ar, cmpI]; omega
    obtain ⟨b, hb⟩ : ∃ b, b = decide (20 < t.works.length) := ⟨_, rfl⟩
    refine wp_goF tokT hA hS [2] ?_
    cbv
    refine code_cut hS { env := [(1, .b 0 0), (3, I i), (12, .v (.bool true))], H := [.box (.agg [I s.benches, .sl 3 TL])], nt := 25, dfs := [] } ?_ ?_
    · refine region_part tokT hA hS [0, 1, 2, 3, 4] [5, 6, 7, 8] rfl ?_
      cbv
      refine part_is tokT hA hS 8 (.v (.bool true)) rfl (congrArg (fun b => D.v (.bool b)) c1) [5, 6, 7] [8] ?_
      cbv
      refine part_is tokT hA hS 11 (.v (.bool true)) rfl (congrArg (fun b => D.v (.bool b)) c2) [8] [] ?_
      cbv
      refine at_ops hS (ops_go tokT hA hS ?_)
      cbv
      exact gs_to [0] ⟨by decide, pre0, ⟨rfl, trivial⟩, ⟨rfl, rfl, rfl, trivial⟩, rfl, rfl⟩
    cbv
    refine ⟨hin, ⟨_, hg, ?_⟩⟩
    cbv
    refine ops_call hS [.agg [I t.ready, I t.due, .sl 3 WL]] [] [] rfl rfl rfl rfl rfl rfl rfl rfl (by decide) trivial (kHuge t WL hWL b hb _ ?_)
    refine ops_go tokT hA hS ?_
    cbv
    refine bm (fun c => ?_) (fun c => ?_)
    · cbv
      refine gs_done ?_
      cbv
      exact gh_view [] (by decide) pre0 (H' := []) (d' := .v (.bool true)) trivial rfl (gh_done h1)
    · have hle : t.works.length ≤ 20 := by rw [c] at hb; have := of_decide_eq_false hb.symm; omega
      have hnx : ∀ i t, i < k + 1 → s.tasks[i]? = some t → t.works.length ≤ 20 := fun i' t' h h' => by
        by_cases e : i' = k
        · rw [e, htk] at h'; cases h'; exact hle
        · exact u4 i' t' (by omega) h'
      cbv
      refine ⟨hf, ?_⟩
      refine gs_loop (A.add i 1, k + 1) [0] ⟨hu1, hk, hk20, hnx⟩ hms ?_
      exact ⟨by decide, pre0, ⟨rfl, trivial⟩, ⟨rfl, rfl, trivial⟩, rfl, rfl⟩
  · have fin : ∀ b, A.cmp .gtr (A.oi (A.len TL)) 20 = b → Q (RA.ret (.v (.bool b))) [] := fun b hb => by
      cases b
      · refine h2 ?_
        have := yngtL hA hTl hb
        refine ⟨by omega, fun t ht => ?_⟩
        obtain ⟨i', hi'⟩ := List.mem_iff_getElem?.1 ht
        exact u4 i' t (by have := (List.getElem?_eq_some_iff.1 hi').1; omega) hi'
      · exact h1
    have hfin := fin _ rfl
    refine wp_goF tokT hA hS [2] ?_
    cbv
    refine code_cut hS { env := [(1, .b 0 0), (12, .v (.bool false))], H := [.box (.agg [I s.benches, .sl 3 TL])], nt := 25, dfs := [] } ?_ ?_
    · by_cases hkN : k < N
      · have c1 : A.cmp .lss i (A.oi (A.len TL)) = true := by rw [yoiL hA hTl, u1.eq]; subst hA; simp [ar, cmpI]; omega
        have c2 : A.cmp .lss i 20 = false := by rw [u1.eq]; subst hA; simp [ar, cmpI]; omega
        refine region_part tokT hA hS [0, 1, 2, 3, 4] [5, 6, 7, 8] rfl ?_
        cbv
        refine part_is tokT hA hS 8 (.v (.bool true)) rfl (congrArg (fun b => D.v (.bool b)) c1) [5, 6, 7] [8] ?_
        cbv
        refine part_is tokT hA hS 11 (.v (.bool false)) rfl (congrArg (fun b => D.v (.bool b)) c2) [8] [] ?_
        cbv
        refine at_ops hS (ops_go tokT hA hS ?_)
        cbv
        exact gs_to [0] ⟨by decide, pre0, ⟨rfl, trivial⟩, ⟨rfl, rfl, trivial⟩, rfl, rfl⟩
      · have c1 : A.cmp .lss i (A.oi (A.len TL)) = false := by rw [yoiL hA hTl, u1.eq]; subst hA; simp [ar, cmpI]; omega
        refine region_part tokT hA hS [0, 1, 2, 3, 4] [5, 6, 7, 8] rfl ?_
        cbv
        refine part_is tokT hA hS 8 (.v (.bool false)) rfl (congrArg (fun b => D.v (.bool b)) c1) [5, 6, 7, 8] [] ?_
        cbv
        refine at_ops hS (ops_go tokT hA hS ?_)
        cbv
        exact gs_to [0] ⟨by decide, pre0, ⟨rfl, trivial⟩, ⟨rfl, rfl, trivial⟩, rfl, rfl⟩
    cbv
    refine gs_done ?_
    cbv
    exact gh_view [] (by decide) pre0 (H' := []) (d' := .v (.bool (A.cmp .gtr (A.oi (A.len TL)) 20))) trivial rfl (gh_done hfin)

set_option maxRecDepth 20000 in
set_option maxHeartbeats 2000000 in
/-- many. -/
theorem kMany (s : Sh) (hs : Fin s) (TL : List D) (hT : TL = s.tasks.map taskD) (Q) (h1 : Q (RA.ret (.v (.bool true))) []) (h2 : NotBig s → ∀ b, Q (RA.ret (.v (.bool b))) []) : CallA Tryd.prog 55 [.agg [I s.benches, .sl 3 TL]] [] Q := by
  obtain ⟨A, hA⟩ : ∃ A, A = ar := ⟨_, rfl⟩
  obtain ⟨N, hN⟩ : ∃ N, N = s.tasks.length := ⟨_, rfl⟩
  have hTl : TL.length = N := by rw [hT, hN]; simp
  refine callA_startF tokT hA [8] Tryd.func55 rfl rfl rfl rfl rfl fun S hS => ?_
  cbv
  refine ops_call hS [.agg [I s.benches, .sl 3 TL]] [] [] rfl rfl rfl rfl rfl rfl rfl rfl (by decide) trivial (kBig s hs TL hT _ ?_ fun hnb => ?_)
  · refine ops_go tokT hA hS ?_
    cbv
    exact gh_view [] (by decide) pre0 (H' := []) (d' := .v (.bool true)) trivial rfl (gh_done h1)
  have hNb : N ≤ 20 := by rw [hN]; exact hnb.1
  refine ops_go tokT hA hS ?_
  cbv
  refine at_code hS ?_
  refine wpa_loopG (α := Int × Nat × Int) (fun q => { env := [(1, .b 0 0), (3, I q.2.2), (4, I q.1)], H := [.box (.agg [I s.benches, .sl 3 TL])], nt := 30, dfs := [] })
    (fun q => N - q.2.1) (fun q => q.2.1 ≤ N ∧ IsI q.1 q.2.1 ∧ IsI q.2.2 (nWorks (s.tasks.take q.2.1))) (0, 0, 0) ⟨Nat.zero_le _, ⟨rfl⟩, ⟨rfl⟩⟩ ?_ ?_
  · exact gs_to [0] ⟨by decide, pre0, ⟨rfl, trivial⟩, ⟨rfl, rfl, rfl, trivial⟩, rfl, rfl⟩
  rintro ⟨i, k, x⟩ ⟨u1, u2, u3⟩
  dsimp only at u1 u2 u3
  refine wp_goF tokT hA hS [] ?_
  cbv
  refine bm (fun c => ?_) (fun c => ?_)
  · have hk : k < N := yltL hA hTl u2 c
    obtain ⟨t, ht⟩ : ∃ t, t = s.tasks[k] := ⟨_, rfl⟩
    have htk : s.tasks[k]? = some t := by rw [ht]; exact List.getElem?_eq_getElem (by omega)
    obtain ⟨WL, hWL⟩ : ∃ WL, WL = t.works.map workD := ⟨_, rfl⟩
    obtain ⟨W, hW⟩ : ∃ W, W = t.works.length := ⟨_, rfl⟩
    have hWl : WL.length = W := by rw [hWL, hW]; simp
    have hTk : TL[k]? = some (.agg [I t.ready, I t.due, .sl 3 WL]) := by rw [hT]; simp [htk, hWL, taskD]
    have hsum : nWorks (s.tasks.take (k + 1)) = nWorks (s.tasks.take k) + W := by rw [List.take_add_one, htk]; simp [nWorks, hW]
    have hb := nWorks_take hnb.2 (k + 1)
    have hx : IsI (A.add x (A.oi (A.len WL))) (nWorks (s.tasks.take (k + 1))) := by
      subst hA; exact ⟨by rw [hsum, u3.eq, ← hWl]; rfl⟩
    have hfx : A.fits .i64 (A.add x (A.oi (A.len WL))) := xfitE hA hx.eq (by
      have : (k + 1) * 20 ≤ 20 * 20 := Nat.mul_le_mul_right _ (by omega)
      omega)
    have hin := yinbL hA hTl u2 hk
    have hg := yget hA u2 hTk
    have hf := yfit1 hA u2 (by omega)
    have hu2 := ysucc hA u2
    have hms : N - (k + 1) < N - k := by omega
    cbv
    refine ⟨hin, ⟨_, hg, ?_⟩⟩
    cbv
    refine ⟨hfx, hf, ?_⟩
    refine gs_loop (A.add i 1, k + 1, A.add x (A.oi (A.len WL))) [0] ⟨hk, hu2, hx⟩ hms ?_
    exact ⟨by decide, pre0, ⟨rfl, trivial⟩, ⟨rfl, rfl, rfl, trivial⟩, rfl, rfl⟩
  · cbv
    refine gs_done ?_
    cbv
    refine region_part tokT hA hS [0, 1] [2, 3, 4, 5, 6, 7] rfl ?_
    cbv
    by_cases c8 : 6 < x
    · have c1 : A.cmp .gtr x 6 = true := ygtT hA c8
      refine part_is tokT hA hS 24 (.v (.bool true)) rfl (congrArg (fun b => D.v (.bool b)) c1) [2, 3] [4, 5, 6, 7] ?_
      cbv
      obtain ⟨n, hn⟩ : ∃ n, n = chkS s := ⟨_, rfl⟩
      refine ops_callG hS (b := true) rfl rfl rfl rfl rfl rfl rfl rfl (fun _ => ⟨[], _, [.agg [I s.benches, .sl 3 TL]], [], [], rfl, rfl, rfl, by decide, trivial, rCheck s hs TL hT n hn _ ?_⟩) (fun h => absurd rfl h)
      refine ops_go tokT hA hS ?_
      cbv
      exact gh_view [] (by decide) pre0 (H' := []) (d' := .v (.bool (A.cmp .eql n 0))) trivial rfl (gh_done (h2 hnb _))
    · have c1 : A.cmp .gtr x 6 = false := ygtF hA (by omega)
      refine part_is tokT hA hS 24 (.v (.bool false)) rfl (congrArg (fun b => D.v (.bool b)) c1) [2, 3] [4, 5, 6, 7] ?_
      cbv
      refine ops_callG (f := 0) hS rfl rfl rfl rfl rfl rfl rfl rfl (fun e => Bool.noConfusion e) (fun _ => ?_)
      refine ops_go tokT hA hS ?_
      cbv
      exact gh_view [] (by decide) pre0 (H' := []) (d' := .v (.bool false)) trivial rfl (gh_done (h2 hnb _))
end Go.Proofs.YtmloogdalecilaaDoor

/-! D49 -/
namespace Go.Proofs.YtmloogdalecilaaDoor
open Go Go.Abs Go.Proofs

theorem set_same {l : List D} {k : Nat} {d d' : D} (h : l[k]? = some d') : l = (l.set k d).set k d' := by
  rw [List.set_set]
  refine List.ext_getElem? fun j => ?_
  rw [List.getElem?_set]
  split
  · rename_i e; subst e
    split
    · exact h
    · rename_i hl; rw [List.getElem?_eq_none (by omega)] at h; cases h
  · rfl

set_option maxRecDepth 20000 in
set_option maxHeartbeats 4000000 in
/-- CopyShop. -/
theorem kCopyShop (s : Sh) (hs : NotBig s) (TL : List D) (hT : TL = s.tasks.map taskD) (Q) (hq : Q (RA.ret (.agg [I s.benches, .sl 3 TL])) []) : CallA Tryd.prog 25 [.agg [I s.benches, .sl 3 TL]] [] Q := by
  obtain ⟨A, hA⟩ : ∃ A, A = ar := ⟨_, rfl⟩
  obtain ⟨N, hN⟩ : ∃ N, N = s.tasks.length := ⟨_, rfl⟩
  have hTl : TL.length = N := by rw [hT, hN]; simp
  have hNb : N ≤ 20 := by rw [hN]; exact hs.1
  have hN2 : A.addN 0 (A.len TL) = N := by rw [xaddN hA, xlen hA, hTl]; simp
  have hr1 : A.room (A.addN 0 (A.len TL)) 40 := by rw [hN2]; exact yroomN hA (by omega) (by decide)
  have hTe : A.app [] TL = TL := by rw [xapp hA]; rfl
  have hfr : FrL TL := by rw [hT]; exact .map (fun t => rfl) _
  have hlm : A.addN 0 (A.len TL) = TL.length := by rw [hN2, hTl]
  refine callA_start tokT hA Tryd.func25 rfl rfl rfl rfl rfl fun S hS => ?_
  cbv
  refine ⟨yeqLen hA rfl, hr1, ?_⟩
  refine at_code hS ?_
  refine wpa_loopG (α := Int × Nat) (fun q => { env := [(1, .b 0 0), (2, .b 1 0), (3, I q.1)], H := [.box (.agg [I s.benches, .o 2 3 (A.addN 0 (A.len TL))]), .box (.agg [I 0, .v (.slice none 0 0)]), .els 3 TL], nt := 30, dfs := [] })
    (fun q => N - q.2) (fun q => q.2 ≤ N ∧ IsI q.1 q.2) (0, 0) ⟨Nat.zero_le _, ⟨rfl⟩⟩ ?_ ?_
  · exact gs_to [0, 1, 3] ⟨by decide, pre0, ⟨rfl, rfl, nthB_els rfl hTe, trivial⟩, ⟨rfl, rfl, rfl, trivial⟩, rfl, rfl⟩
  rintro ⟨i, k⟩ ⟨u1, u2⟩
  dsimp only at u1 u2
  have hlt1 : A.cmp .lss i (A.oi (A.addN 0 (A.len TL))) = true → k < N := fun h => by
    have := xlt hA h; rw [hN2, u2.eq] at this; subst hA; simp [ar] at this; omega
  have hlt2 : A.cmp .lss i (A.oi (A.addN 0 (A.len TL))) = false → k = N := fun h => by
    have := xnlt hA h; rw [hN2, u2.eq] at this; subst hA; simp [ar] at this; omega
  refine wp_goF tokT hA hS [] ?_
  cbv
  refine bm (fun c => ?_) (fun c => ?_)
  · have hk : k < N := hlt1 c
    obtain ⟨t, ht⟩ : ∃ t, t = s.tasks[k] := ⟨_, rfl⟩
    have htk : s.tasks[k]? = some t := by rw [ht]; exact List.getElem?_eq_getElem (by omega)
    obtain ⟨WL, hWL⟩ : ∃ WL, WL = t.works.map workD := ⟨_, rfl⟩
    have hWl : WL.length = t.works.length := by rw [hWL]; simp
    have hWb := hs.2 t (List.mem_of_getElem? htk)
    have hTk : TL[k]? = some (.agg [I t.ready, I t.due, .sl 3 WL]) := by rw [hT]; simp [htk, hWL, taskD]
    have hM2 : A.addN 0 (A.len WL) = t.works.length := by rw [xaddN hA, xlen hA, hWl]; simp
    have hr2 : A.room (A.addN 0 (A.len WL)) 24 := by rw [hM2]; exact yroomN hA (by omega) (by decide)
    have hi1 : A.inb i (A.addN 0 (A.len TL)) := yinb hA u2 (by rw [hN2]; exact hk)
    have hg1 := yget hA u2 hTk
    have hf := yfit1 hA u2 (by omega)
    have hu2 := ysucc hA u2
    have hms : N - (k + 1) < N - k := by omega
    obtain ⟨row, hrow⟩ : ∃ row, row = A.app [] WL := ⟨_, rfl⟩
    have hrow2 : row = WL := by rw [hrow, xapp hA]; rfl
    have hrl : row.length = A.addN 0 (A.len WL) := by rw [hM2, hrow2, hWl]
    obtain ⟨es, hes⟩ : ∃ es, es = A.set TL (A.tn i) (.agg [I t.ready, I t.due, .o 4 3 (A.addN 0 (A.len WL))]) := ⟨_, rfl⟩
    have hes2 : es = TL.set k (.agg [I t.ready, I t.due, .o 4 3 (A.addN 0 (A.len WL))]) := by rw [hes]; exact yset hA u2 rfl
    have hfz := fzp_set (k2 := 4) (isz := 3) (row := row) (es := es) (es' := TL) (i := k) (d := .agg [I t.ready, I t.due, .o 4 3 (A.addN 0 (A.len WL))]) (d' := .agg [I t.ready, I t.due, .sl 3 row])
      ⟨rfl, fun r c' hc => by
        match r, hc with
        | 0, hc => exact .inl hc
        | 1, hc => exact .inl hc
        | 2, hc => simp [D.cells] at hc; subst hc; exact .inr ⟨by rw [hrl]; rfl, rfl⟩
        | r + 3, hc => simp [D.cells] at hc⟩ (by rw [hes2, hrow2]; exact set_same hTk) (fun hh => by rw [hes2, List.getElem?_set_self (by rw [hTl]; exact hk)])
    cbv
    refine draw_go tokT hA hS [0, 1, 2, 3, 4, 5, 6, 7, 8, 9, 10, 11, 12, 13] rfl rfl fun Dk hD => ?_
    cbv
    refine ⟨hi1, ⟨_, hg1, ?_⟩⟩
    cbv
    refine ⟨yeqLen hA rfl, hr2, hi1, ⟨_, hg1, ?_⟩⟩
    cbv
    refine ⟨hf, ?_⟩
    refine gs_fzE 2 4 (es := es) (row := row) (by rw [hes]; rfl) (by rw [hrow]; rfl) hfz ?_
    refine gs_els 2 rfl hfr ?_
    refine gs_loop (A.add i 1, k + 1) [0, 1, 2] ⟨hk, hu2⟩ hms ?_
    exact ⟨by decide, pre0, ⟨rfl, rfl, rfl, trivial⟩, ⟨rfl, rfl, rfl, trivial⟩, rfl, rfl⟩
  · cbv
    refine gs_done ?_
    cbv
    refine gh_frz [2] ?_
    cbv
    exact ⟨by cases TL <;> exact hlm, by cases TL <;> exact hlm, by cases TL <;> exact hlm, gh_view [] (by decide) pre0 (H' := []) (d' := .agg [I s.benches, .sl 3 TL]) trivial rfl (gh_done hq)⟩
end Go.Proofs.YtmloogdalecilaaDoor
