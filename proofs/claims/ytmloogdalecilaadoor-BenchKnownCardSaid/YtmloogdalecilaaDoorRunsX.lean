/- Part RunsX of the proofs about the benches of the accordion maker: see the last text of the claim for what is proved. -/
import Derived.Test.YtmloogdalecilaaDoorAsB
import Derived.Test.YtmloogdalecilaaDoorBenchC
import Derived.Test.YtmloogdalecilaaDoorBestA
set_option linter.unusedVariables false
set_option linter.unusedSimpArgs false
set_option linter.unnecessarySimpa false
set_option linter.constructorNameAsVariable false

/-! K0 -/
namespace Go.Proofs.YtmloogdalecilaaDoor
open Go Go.Abs Go.Proofs

/-- A plan without fault is whole. -/
theorem planX_of {s : Sh} {pl : List Int} (hs : Fin s) (h : chkSP s pl = 0) : ShopOk s ∧ ∃ p, PlanOk s p ∧ pl = p.map (fun i : Nat => (i : Int)) := by
  have h0 : chkS s = 0 := by
    by_cases h0 : chkS s = 0
    · exact h0
    · rw [chkSP, if_pos h0] at h; exact absurd h h0
  rw [chkSP, if_neg (fun h' => h' h0)] at h
  have key : ∀ k, k ≤ pl.length → ∃ p, ScOk s pl p k := by
    intro k
    induction k with
    | zero => exact fun _ => ⟨[], scOk_zero s pl⟩
    | succ k ih =>
      intro hk
      obtain ⟨p, hp⟩ := ih (by omega)
      have hx : pl[k]? = some pl[k] := List.getElem?_eq_getElem (by omega)
      by_cases c1 : 0 ≤ pl[k] ∧ pl[k] ≤ (s.tasks.length : Int) - 1
      · by_cases c2 : (s.tasks.getD pl[k].toNat default).works.length < p.count pl[k].toNat + 1
        · have := scOk_err2 hp hx c1 c2; omega
        · exact ⟨_, scOk_next hp hx c1 c2⟩
      · have := scOk_err1 hp hx c1; omega
  obtain ⟨p, hp⟩ := key pl.length (Nat.le_refl _)
  obtain ⟨h1, h2⟩ := scOk_end hp
  refine ⟨shop_ok hs h0, p, (whole_of hp.le).2 ?_, h2⟩
  rw [h] at h1
  rcases Nat.lt_or_ge p.length (nWorks s.tasks) with h3 | h3
  · rw [if_pos h3] at h1; omega
  · exact h3

theorem toNat_mapX (p : List Nat) : (p.map (fun i : Nat => (i : Int))).map Int.toNat = p := by
  rw [List.map_map]
  exact (List.map_congr_left fun a _ => Int.toNat_natCast a).trans (List.map_id p)

set_option maxRecDepth 20000 in
set_option maxHeartbeats 2000000 in
theorem bRunErr (s : Sh) (hs : Fin s) (pl : List Int) (hpl : pl.length ≤ 1000000) (TL PL : List D) (hT : TL = s.tasks.map taskD) (hP : PL = pl.map I) (e : Int) (he : e = chkSP s pl) (hne : e ≠ 0) (Q) (hq : Q (RA.ret (.tup [.v (.slice none 0 0), I e])) []) :
    CallA Tryd.prog 33 [.agg [I s.benches, .sl 3 TL], .sl 1 PL] [] Q := by
  obtain ⟨A, hA⟩ : ∃ A, A = ar := ⟨_, rfl⟩
  refine callA_start tokT hA Tryd.func33 rfl rfl rfl rfl rfl fun S hS => ?_
  cbv
  refine ops_call hS [.agg [I s.benches, .sl 3 TL], .sl 1 PL] [] [] rfl rfl rfl rfl rfl rfl rfl rfl (by decide) trivial (bCheckPlanAny s hs pl hpl TL PL hT hP e he _ ?_)
  refine ops_go tokT hA hS ?_
  cbv
  refine bm (fun c => ?_) (fun c => ?_)
  · cbv
    exact gh_view [] (by decide) pre0 (H' := []) (d' := .tup [.v (.slice none 0 0), I e]) trivial rfl (gh_done hq)
  · exact absurd (xnne hA c) hne

set_option maxRecDepth 20000 in
set_option maxHeartbeats 4000000 in
/-- SameSlots, of a list and itself. -/
theorem kSameSlots (a : List Sl) (L : List D) (hL : L = a.map slotD) (hl : a.length ≤ 1152921504606846976) (Q) (hq : Q (RA.ret (.v (.bool true))) []) : CallA Tryd.prog 69 [.sl 7 L, .sl 7 L] [] Q := by
  obtain ⟨A, hA⟩ : ∃ A, A = ar := ⟨_, rfl⟩
  obtain ⟨N, hN⟩ : ∃ N, N = a.length := ⟨_, rfl⟩
  have hLl : L.length = N := by rw [hL, hN]; simp
  have e0 := yeqT hA (A.oi (A.len L))
  refine callA_startF tokT hA [] Tryd.func69 rfl rfl rfl rfl rfl fun S hS => ?_
  cbv
  refine at_code hS ?_
  refine wpa_loopG (α := Int × Nat) (fun q => { env := [(0, .sl 7 L), (1, .sl 7 L), (5, .v (.bool true)), (6, I q.1)], H := [], nt := 31, dfs := [] })
    (fun q => N - q.2) (fun q => q.2 ≤ N ∧ IsI q.1 q.2) (0, 0) ⟨Nat.zero_le _, ⟨rfl⟩⟩ ?_ ?_
  · exact gs_to [] ⟨by decide, pre0, trivial, ⟨rfl, rfl, by rw [← e0]; rfl, rfl, trivial⟩, rfl, rfl⟩
  rintro ⟨i, k⟩ ⟨u1, u2⟩
  dsimp only at u1 u2
  refine wp_goF tokT hA hS [] ?_
  cbv
  refine bm (fun c => ?_) (fun c => ?_)
  · have hk : k < N := yltL hA hLl u2 c
    obtain ⟨x, hx⟩ : ∃ x, a[k]? = some x := ⟨_, List.getElem?_eq_getElem (by omega)⟩
    have hLk : L[k]? = some (.agg [I x.t, I x.k, I x.b, I x.bl, I x.bh, I x.el, I x.eh]) := by rw [hL]; simp [hx, slotD]
    have hin := yinbL hA hLl u2 hk
    have hg := yget hA u2 hLk
    have hf := yfit1 hA u2 (by omega)
    have hu2 := ysucc hA u2
    have hms : N - (k + 1) < N - k := by omega
    have hl1 : A.leq [x.t, x.k, x.b, x.bl, x.bh, x.el, x.eh] [x.t, x.k, x.b, x.bl, x.bh, x.el, x.eh] = true := by subst hA; simp [ar]
    cbv
    refine draw_goE tokT hA hS [8] [0, 1, 2, 3, 4, 5, 6, 7, 8, 9] rfl rfl fun Dk hD => ?_
    cbv
    refine ⟨hin, ⟨_, hg, ?_⟩⟩
    cbv
    refine ⟨hin, ⟨_, hg, ?_⟩⟩
    cbv
    refine draw_val tokT hA hD [] (.v (.bool true)) rfl rfl rfl rfl rfl rfl ⟨[x.t, x.k, x.b, x.bl, x.bh, x.el, x.eh], [x.t, x.k, x.b, x.bl, x.bh, x.el, x.eh], rfl, rfl, rfl, rfl, congrArg (fun b => D.v (.bool b)) hl1⟩ ?_
    cbv
    refine ⟨hf, ?_⟩
    refine gs_loop (A.add i 1, k + 1) [] ⟨hk, hu2⟩ hms ?_
    exact ⟨by decide, pre0, trivial, ⟨rfl, rfl, rfl, rfl, trivial⟩, rfl, rfl⟩
  · cbv
    refine gs_done ?_
    cbv
    exact gh_view [] (by decide) pre0 (H' := []) (d' := .v (.bool true)) trivial rfl (gh_done hq)
end Go.Proofs.YtmloogdalecilaaDoor
