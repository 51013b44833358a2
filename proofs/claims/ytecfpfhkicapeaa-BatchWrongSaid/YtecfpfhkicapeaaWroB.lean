/- Part WroB of the proofs about the benches of the accordion maker: see the last text of the claim for what is proved. -/
import Derived.Test.YtecfpfhkicapeaaWroA
import Derived.Test.YtecfpfhkicapeaaBatG
import Derived.Test.YtecfpfhkicapeaaBatJ
import Derived.Test.YtecfpfhkicapeaaCloseB
set_option linter.unusedVariables false
set_option linter.unusedSimpArgs false
set_option linter.unnecessarySimpa false
set_option linter.constructorNameAsVariable false

namespace Go.Proofs.Ytecfpfhkicapeaa
open Go Go.Abs Go.Proofs Go.Batch
set_option maxRecDepth 20000 in
set_option maxHeartbeats 4000000 in
theorem lCopyJournal (ins : Int) (FL ML : List D) (n m : Nat) (hF : FL.length = n) (hM : ML.length = m) (hn : n ≤ 1000) (hm : m ≤ 1000) (Q) (hq : Q (RA.ret (.agg [I ins, .sl 1 FL, .sl 5 ML])) []) :
    CallA Try.prog 22 [.agg [I ins, .sl 1 FL, .sl 5 ML]] [] Q := by
  obtain ⟨A, hA⟩ : ∃ A, A = ar := ⟨_, rfl⟩
  have e1 : A.addN 0 (A.len FL) = n := by rw [xaddN hA, xlen hA hF, Nat.zero_add]
  have e2 : A.addN 0 (A.len ML) = m := by rw [xaddN hA, xlen hA hM, Nat.zero_add]
  have a1 : A.app [] FL = FL := by rw [xapp hA, List.nil_append]
  have a2 : A.app [] ML = ML := by rw [xapp hA, List.nil_append]
  have r1 : A.room (A.addN 0 (A.len FL)) 1 := by
    rw [e1]; subst hA; exact ⟨by show n * 1 ≤ 140737488355328; omega, by show n ≤ 4611686018427387904; omega⟩
  have r2 : A.room (A.addN 0 (A.len ML)) 40 := by
    rw [e2]; subst hA; exact ⟨by show m * 40 ≤ 140737488355328; omega, by show m ≤ 4611686018427387904; omega⟩
  have wk : WkD (.agg [I ins, .o 4 1 (A.addN 0 (A.len FL)), .o 5 5 (A.addN 0 (A.len ML))]) (.agg [I ins, .o 4 1 n, .o 5 5 m]) := WkD.eq (by rw [e1, e2])
  refine callA_start tokT hA Try.func22 rfl rfl rfl rfl rfl fun S hS => ?_
  cbv
  refine draw_goE tokT hA hS [7] [0, 1, 2, 4, 5, 6, 3, 8, 7, 9, 10, 11] rfl rfl fun Dk hD => ?_
  cbv
  refine ⟨yeqLen hA rfl, r1, ?_⟩
  refine draw_two tokT hA hD rfl rfl rfl rfl rfl rfl rfl rfl rfl rfl rfl ?_ ?_
  · cbv
    refine ⟨yeqLen hA rfl, r2, ?_⟩
    rw [hD]
    refine draw_on tokT hA hD ?_
    cbv
    refine gh_weak wk ?_
    exact gh_view [4, 5] (by decide) pre0 (H' := [.els 1 FL, .els 5 ML]) (d' := .agg [I ins, .o 0 1 n, .o 1 5 m]) ⟨congrArg (fun l => some (Blk.els 1 l)) a1, congrArg (fun l => some (Blk.els 5 l)) a2, trivial⟩ rfl (by
      refine gh_frz [0, 1] ?_
      cbv
      exact ⟨by cases FL <;> exact hF.symm, by cases ML <;> exact hM.symm, gh_view [] (by decide) pre0 (H' := []) (d' := .agg [I ins, .sl 1 FL, .sl 5 ML]) trivial rfl (gh_done hq)⟩)
  · cbv
    rw [hD]
    refine draw_on tokT hA hD ?_
    cbv
    refine ⟨yeqLen hA rfl, r2, ?_⟩
    refine gh_weak wk ?_
    exact gh_view [4, 5] (by decide) pre0 (H' := [.els 1 FL, .els 5 ML]) (d' := .agg [I ins, .o 0 1 n, .o 1 5 m]) ⟨congrArg (fun l => some (Blk.els 1 l)) a1, congrArg (fun l => some (Blk.els 5 l)) a2, trivial⟩ rfl (by
      refine gh_frz [0, 1] ?_
      cbv
      exact ⟨by cases FL <;> exact hF.symm, by cases ML <;> exact hM.symm, gh_view [] (by decide) pre0 (H' := []) (d' := .agg [I ins, .sl 1 FL, .sl 5 ML]) trivial rfl (gh_done hq)⟩)
theorem xneF {A : Ar} (hA : A = ar) (x : Int) : A.cmp .neq x x = false := by subst hA; simp [ar, cmpI]
section
structure JLim (j : Jn) (FL ML : List D) : Prop where
  F : FL = j.first.map bolD
  M : ML = j.moves.map mvD
  f : j.first.length ≤ 100
  m : j.moves.length ≤ 100
variable {j : Jn} {FL ML : List D}
theorem JLim.fl (h : JLim j FL ML) : j.first.length ≤ 1152921504606846976 := by have := h.f; omega
theorem JLim.ml (h : JLim j FL ML) : j.moves.length ≤ 1152921504606846976 := by have := h.m; omega
theorem JLim.copy (h : JLim j FL ML) (ins : Int) (Q) (hq : Q (RA.ret (.agg [I ins, .sl 1 FL, .sl 5 ML])) []) : CallA Try.prog 22 [.agg [I ins, .sl 1 FL, .sl 5 ML]] [] Q :=
  lCopyJournal ins FL ML j.first.length j.moves.length (by rw [h.F, List.length_map]) (by rw [h.M, List.length_map]) (by have := h.f; omega) (by have := h.m; omega) Q hq
theorem JLim.same (h : JLim j FL ML) (Q) (hq : Q (RA.ret (.v (.bool true))) []) : CallA Try.prog 26 [.agg [I j.ins, .sl 1 FL, .sl 5 ML], .agg [I j.ins, .sl 1 FL, .sl 5 ML]] [] Q :=
  kSameJournals j FL ML h.F h.M (by have := h.f; omega) (by have := h.m; omega) Q hq
end
theorem wrongV_len {j : Jn} (h : j.moves.length ≤ 100) : (wrongV j).1.length ≤ 100 := by
  unfold wrongV
  split
  · exact Nat.zero_le _
  · cases hw : wrongJ j with
    | none => exact Nat.zero_le _
    | some c =>
      show c.length ≤ 100
      unfold wrongJ at hw
      have := List.mem_of_find?_eq_some hw
      unfold wrongTry at this
      obtain ⟨k, hk, hc⟩ := List.mem_flatMap.1 this
      have h1 := (choicesL_mem (countsJ j) k c hc).1
      have h2 := countsL_len j.moves 0
      have h3 : (countsJ j).length ≤ j.moves.length := h2
      have := List.mem_range.1 hk
      omega
set_option maxRecDepth 40000 in
set_option maxHeartbeats 16000000 in
theorem wBatchWrong (j : Jn) (hj : JFin j) (FL ML : List D) (hF : FL = j.first.map bolD) (hM : ML = j.moves.map mvD) (mv : Mv) (L : List D) (nums : List Int) (hL : L = nums.map I) (hl : L.length ≤ 9223372036854775807) (Q) (hq : Q (RA.ret (.v (.bool true))) []) :
    CallA Try.prog 3 [.agg [I j.ins, .sl 1 FL, .sl 5 ML], mvD mv, .sl 1 L] [] Q := by
  obtain ⟨A, hA⟩ : ∃ A, A = ar := ⟨_, rfl⟩
  have hbn : A.bnot true = false := by subst hA; rfl
  obtain ⟨kd, bn, it, lo, hi'⟩ := mv
  unfold mvD
  dsimp only
  have hlarge := fun Q h => lLarge j FL ML hF hM Q h
  have hJ := fun (h : j.first.length ≤ 20 ∧ j.moves.length ≤ 20) => (⟨hF, hM, by omega, by omega⟩ : JLim j FL ML)
  refine callA_startF tokT hA [] Try.func3 rfl rfl rfl rfl rfl fun S hS => ?_
  cbv
  refine ops_call hS [.agg [I j.ins, .sl 1 FL, .sl 5 ML]] [] [] rfl rfl rfl rfl rfl rfl rfl rfl (by decide) trivial (hlarge _ fun b hb => ?_)
  refine ops_go tokT hA hS ?_
  cases b with
  | true =>
    cbv
    refine ops_call hS [] [] [] rfl rfl rfl rfl rfl rfl rfl rfl (by decide) trivial (lStored _ ?_)
    refine ops_go tokT hA hS ?_
    cbv
    exact gh_view [] (by decide) pre0 (H' := []) (d' := .v (.bool true)) trivial rfl (gh_done hq)
  | false =>
  have hj1 := hJ (hb rfl)
  cbv
  refine ops_call hS [.sl 1 L] [] [] rfl rfl rfl rfl rfl rfl rfl rfl (by decide) trivial (newPotL L nums hL hl _ fun x0 => ?_)
  refine ops_go tokT hA hS ?_
  cbv
  refine ops_call hS [.b 0 0, I 5, I 1] [2] [pot x0] rfl rfl rfl rfl rfl rfl rfl rfl (by decide) ⟨rfl, trivial⟩ (kJournalOf x0 5 1 (by decide) ⟨by decide, by decide⟩ _ fun ins first ms lies truth x1 F1 M1 TL RL hi1 hi4 hfl hm10 hmm hg _ hF1 hM1 hT hR => ?_)
  have hF1l : F1.length = first.length := by rw [hF1, List.length_map]
  have hFi : A.fits .i64 (A.sub (A.oi (A.len F1)) 1) := xfitE hA (xsub hA _ _) (by rw [yoiL hA hF1l]; omega)
  have hFle : A.sub (A.oi (A.len F1)) 1 ≤ 1000000000000 := by rw [xsub hA, yoiL hA hF1l]; omega
  have hms0 : ms.length ≤ 10 := hm10
  refine ops_go tokT hA hS ?_
  cbv
  refine ops_call hS [.b 0 0, I 2] [2] [pot x1] rfl rfl rfl rfl rfl rfl rfl rfl (by decide) ⟨rfl, trivial⟩ (upto x1 2 (by decide) _ fun i0 x2 hi0 hi3 => ?_)
  have hi0N : IsI i0 i0.toNat := ⟨by omega⟩
  refine ops_go tokT hA hS ?_
  cbv
  refine at_code hS ?_
  refine wpa_loopG (α := Int × Nat × Int × List Mv × List D) (fun q => { env := [(3, .b 0 0), (4, .b 1 0), (7, .b 2 0), (8, .b 3 0), (11, I q.1)], H := [.box (.agg [I j.ins, .sl 1 FL, .sl 5 ML]), .box (.agg [I kd, I bn, I it, I lo, I hi']), pot q.2.2.1, .box (.agg [I ins, .sl 1 F1, .sl 5 q.2.2.2.2])], nt := 100, dfs := [] })
    (fun q => q.2.1) (fun q => q.2.1 ≤ 2 ∧ IsI q.1 q.2.1 ∧ q.2.2.2.1.length + q.2.1 ≤ 12 ∧ q.2.2.2.2 = q.2.2.2.1.map mvD) (i0, i0.toNat, x2, ms, M1) ⟨by show i0.toNat ≤ 2; omega, hi0N, by show ms.length + i0.toNat ≤ 12; omega, hM1⟩ ?_ ?_
  · exact gs_to [0, 1, 2, 3] ⟨by decide, pre0, ⟨rfl, rfl, rfl, rfl, trivial⟩, ⟨rfl, rfl, rfl, rfl, rfl, trivial⟩, rfl, rfl⟩
  rintro ⟨i, k, y, mm, MM⟩ ⟨u1, u2, u3, u4⟩
  dsimp only at u1 u2 u3 u4
  refine wp_goF tokT hA hS [] ?_
  cbv
  refine bm (fun c => ?_) (fun c => ?_)
  · obtain ⟨k', hk'⟩ : ∃ k', k = k' + 1 := ⟨k - 1, by have := xgt hA c; have := u2.eq; omega⟩
    subst hk'
    have hi1 : IsI (A.sub i 1) k' := ⟨by rw [xsub hA, u2.eq]; omega⟩
    have hfi : A.fits .i64 (A.sub i 1) := xfitE hA (xsub hA _ _) (by have := u2.eq; omega)
    have hMl : MM.length = mm.length := by rw [u4, List.length_map]
    have hm1000 : mm.length ≤ 1000 := by omega
    cbv
    refine ops_call hS [.b 0 0, I 5] [2] [pot y] rfl rfl rfl rfl rfl rfl rfl rfl (by decide) ⟨rfl, trivial⟩ (upto y 5 (by decide) _ fun c0 y2 hc1 hc2 => ?_)
    refine ops_go tokT hA hS ?_
    cbv
    refine draw_go tokT hA hS [0, 1, 2, 3, 4, 5, 7, 8, 9, 6, 10, 11, 12] rfl rfl fun Dk hD => ?_
    cbv
    refine ⟨hFi, ?_⟩
    refine draw_call hA hD [.b 0 0, I (A.sub (A.oi (A.len F1)) 1)] [2] [pot y2] rfl rfl rfl rfl rfl rfl rfl rfl rfl rfl rfl (by decide) ⟨rfl, trivial⟩ (upto y2 _ hFle _ fun bb y3 hb1 hb2 => ⟨by cbv; repeat' (first | exact trivial | exact rfl | refine ⟨?_, ?_⟩), draw_on tokT hA hD ?_⟩)
    cbv
    refine draw_call hA hD [.agg [I ins, .sl 1 F1, .sl 5 MM], .agg [I 3, I bb, I 0, I c0, I c0]] [] [] rfl rfl rfl rfl rfl rfl rfl rfl rfl rfl rfl (by decide) trivial (lWithMove ins F1 MM ⟨3, bb, 0, c0, c0⟩ mm.length hMl hm1000 _ fun M' hM' => ⟨by cbv; repeat' (first | exact trivial | exact rfl | refine ⟨?_, ?_⟩), draw_on tokT hA hD ?_⟩)
    have hM2 : M' = (mm ++ ([⟨3, bb, 0, c0, c0⟩] : List Mv)).map mvD := by rw [hM', u4, List.map_append]; rfl
    obtain ⟨m2, hm2⟩ : ∃ m2 : List Mv, m2 = mm ++ ([⟨3, bb, 0, c0, c0⟩] : List Mv) := ⟨_, rfl⟩
    rw [← hm2] at hM2
    have hjl : m2.length + k' ≤ 12 := by rw [hm2, List.length_append, List.length_singleton]; omega
    clear hM' hm2
    have hk3 : k' ≤ 2 := by omega
    cbv
    refine ⟨hfi, ?_⟩
    refine gs_loop (A.sub i 1, k', y3, m2, M') [0, 1, 2, 3] ⟨hk3, hi1, hjl, hM2⟩ (Nat.lt_succ_self k') ?_
    exact ⟨by decide, pre0, ⟨rfl, rfl, rfl, rfl, trivial⟩, ⟨rfl, rfl, rfl, rfl, rfl, trivial⟩, rfl, rfl⟩
  have hMl : MM.length = mm.length := by rw [u4, List.length_map]
  have hm1000 : mm.length ≤ 1000 := by omega
  obtain ⟨J1, hJ1⟩ : ∃ J1 : Jn, J1 = ⟨ins, first, mm⟩ := ⟨_, rfl⟩
  obtain ⟨J2, hJ2⟩ : ∃ J2 : Jn, J2 = ⟨ins, first, mm ++ [⟨kd, bn, it, lo, hi'⟩]⟩ := ⟨_, rfl⟩
  have hl1 : JLim J1 F1 MM := by rw [hJ1]; exact ⟨hF1, u4, by show first.length ≤ 100; omega, by show mm.length ≤ 100; omega⟩
  have hi1' : J1.ins = ins := by rw [hJ1]
  have hi2' : J2.ins = ins := by rw [hJ2]
  have hml2 : mm.length + 1 ≤ 100 := by omega
  cbv
  refine gs_done ?_
  cbv
  refine draw_go tokT hA hS [0, 1, 2, 3, 4, 5, 6] rfl rfl fun Dk hD => ?_
  cbv
  refine draw_call hA hD [.agg [I ins, .sl 1 F1, .sl 5 MM], .agg [I kd, I bn, I it, I lo, I hi']] [] [] rfl rfl rfl rfl rfl rfl rfl rfl rfl rfl rfl (by decide) trivial (lWithMove ins F1 MM ⟨kd, bn, it, lo, hi'⟩ mm.length hMl hm1000 _ fun M2 hM2 => ⟨by cbv; repeat' (first | exact trivial | exact rfl | refine ⟨?_, ?_⟩), draw_on tokT hA hD ?_⟩)
  have hl2 : JLim J2 F1 M2 := by rw [hJ2]; exact ⟨hF1, by rw [hM2, u4, List.map_append]; rfl, by show first.length ≤ 100; omega, by show (mm ++ [_]).length ≤ 100; rw [List.length_append]; exact hml2⟩
  cbv
  obtain ⟨SS, hSS⟩ : ∃ SS : List D, SS = [.agg [I j.ins, .sl 1 FL, .sl 5 ML], .agg [I ins, .sl 1 F1, .sl 5 MM], .agg [I ins, .sl 1 F1, .sl 5 M2]] := ⟨_, rfl⟩
  have hSl : SS.length = 3 := by rw [hSS]; rfl
  refine at_code hS ?_
  refine wpa_loopG (α := Int × Nat) (fun q => { env := [(13, .sl 3 SS), (14, I q.1)], H := [], nt := 100, dfs := [] })
    (fun q => 3 - q.2) (fun q => q.2 ≤ 3 ∧ IsI q.1 q.2) (0, 0) ⟨by decide, ⟨rfl⟩⟩ ?_ ?_
  · refine gs_frz hA [4] ?_
    cbv
    exact ⟨yeqLen hA rfl, yeqLen hA rfl, gs_to [] ⟨by decide, pre0, trivial, ⟨by rw [hSS]; rfl, rfl, trivial⟩, rfl, rfl⟩⟩
  rintro ⟨t, s⟩ ⟨v1, v2⟩
  dsimp only at v1 v2
  refine wp_goF tokT hA hS [] ?_
  cbv
  refine bm (fun c2 => ?_) (fun c2 => ?_)
  · have hs : s < 3 := yltL hA hSl v2 c2
    obtain ⟨z, FZ, MZ, hz, hSk⟩ : ∃ (z : Jn) (FZ MZ : List D), JLim z FZ MZ ∧ SS[s]? = some (.agg [I z.ins, .sl 1 FZ, .sl 5 MZ]) := by
      match s, hs with
      | 0, _ => exact ⟨j, FL, ML, hj1, by rw [hSS]; rfl⟩
      | 1, _ => exact ⟨J1, F1, MM, hl1, by rw [hSS, hi1']; rfl⟩
      | 2, _ => exact ⟨J2, F1, M2, hl2, by rw [hSS, hi2']; rfl⟩
    have iS := yinbL hA hSl v2 hs
    have gS := yget hA v2 hSk
    have hf := yfit1 hA v2 (by omega)
    have hv2 := ysucc hA v2
    have hms : 3 - (s + 1) < 3 - s := by omega
    obtain ⟨w, hw⟩ : ∃ w, w = wrongV z := ⟨_, rfl⟩
    have hwl : w.1.length ≤ 1000 := by rw [hw]; have := wrongV_len hz.m; omega
    have hbw := fun Q h => bWrongV z hz.fl hz.ml FZ MZ hz.F hz.M w hw Q h
    have hrw := fun Q h => rWrongV z hz.fl hz.ml FZ MZ hz.F hz.M w hw Q h
    have hcp := fun Q h => hz.copy z.ins Q h
    have hsm := fun Q h => hz.same Q h
    obtain ⟨wl, we⟩ := w
    dsimp only at hwl hbw hrw
    have b1 := xneF hA we
    obtain ⟨zi, hzi⟩ : ∃ zi, zi = z.ins := ⟨_, rfl⟩
    rw [← hzi] at gS hbw hrw hcp hsm
    cbv
    refine ⟨iS, ⟨_, gS, ?_⟩⟩
    cbv
    refine ops_call hS [.agg [I zi, .sl 1 FZ, .sl 5 MZ]] [] [] rfl rfl rfl rfl rfl rfl rfl rfl (by decide) trivial (hcp _ ?_)
    refine ops_go tokT hA hS ?_
    cbv
    refine ops_call hS [.agg [I zi, .sl 1 FZ, .sl 5 MZ]] [] [] rfl rfl rfl rfl rfl rfl rfl rfl (by decide) trivial (hbw _ fun P1 hP1 => ?_)
    refine ops_go tokT hA hS ?_
    cbv
    refine ⟨iS, ⟨_, gS, ?_⟩⟩
    cbv
    refine ops_call hS [.agg [I zi, .sl 1 FZ, .sl 5 MZ]] [] [] rfl rfl rfl rfl rfl rfl rfl rfl (by decide) trivial (hrw _ fun P2 hP2 => ?_)
    have hsi := fun Q h => kSameInts (wl.map fun i : Nat => (i : Int)) (wl.map fun i : Nat => (i : Int)) P1 P2 (by rw [hP1, natD, List.map_map]; rfl) (by rw [hP2, natD, List.map_map]; rfl) (by rw [List.length_map]; omega) true (decide_eq_true rfl).symm Q h
    refine ops_go tokT hA hS ?_
    cbv
    refine draw_goE tokT hA hS [2] [0, 1, 2, 3, 4, 5, 6, 7, 8, 9, 10, 11, 12, 13, 14, 15, 16, 17] rfl rfl fun Dk hD => ?_
    cbv
    refine draw_val tokT hA hD [] (.v (.bool false)) rfl rfl rfl rfl rfl rfl (congrArg (fun b => D.v (.bool b)) b1) ?_
    cbv
    refine draw_callG hA hD (b := false) rfl rfl rfl rfl rfl rfl rfl rfl rfl rfl rfl (fun _ => ⟨[], _, [.sl 1 P1, .sl 1 P2], [], [], rfl, rfl, rfl, by decide, trivial, hsi _ ⟨by cbv; repeat' (first | exact trivial | exact Need.mk ⟨_, gS, rfl⟩ | refine ⟨?_, ?_⟩), draw_onE tokT hA hD [7] ?_⟩⟩) (fun h => absurd rfl h)
    cbv
    refine draw_valG tokT hA hD [] (.v (.bool false)) rfl rfl rfl rfl rfl rfl rfl rfl rfl (congrArg (fun b => D.v (.bool b)) hbn) ?_
    cbv
    refine ⟨iS, ⟨_, gS, ?_⟩⟩
    cbv
    refine draw_callG hA hD (b := false) rfl rfl rfl rfl rfl rfl rfl rfl rfl rfl rfl (fun _ => ⟨[], _, [.agg [I zi, .sl 1 FZ, .sl 5 MZ], .agg [I zi, .sl 1 FZ, .sl 5 MZ]], [], [], rfl, rfl, rfl, by decide, trivial, hsm _ ⟨by cbv; repeat' (first | exact trivial | exact Need.mk ⟨_, gS, rfl⟩ | refine ⟨?_, ?_⟩), draw_onE tokT hA hD [16] ?_⟩⟩) (fun h => absurd rfl h)
    cbv
    refine draw_valG tokT hA hD [] (.v (.bool false)) rfl rfl rfl rfl rfl rfl rfl rfl rfl (congrArg (fun b => D.v (.bool b)) hbn) ?_
    cbv
    refine ⟨hf, ?_⟩
    refine gs_loop (A.add t 1, s + 1) [] ⟨hs, hv2⟩ hms ?_
    exact ⟨by decide, pre0, trivial, ⟨rfl, rfl, trivial⟩, rfl, rfl⟩
  · cbv
    refine gs_done ?_
    cbv
    refine ops_call hS [] [] [] rfl rfl rfl rfl rfl rfl rfl rfl (by decide) trivial (lStored _ ?_)
    refine ops_go tokT hA hS ?_
    cbv
    exact gh_view [] (by decide) pre0 (H' := []) (d' := .v (.bool true)) trivial rfl (gh_done hq)
end Go.Proofs.Ytecfpfhkicapeaa
