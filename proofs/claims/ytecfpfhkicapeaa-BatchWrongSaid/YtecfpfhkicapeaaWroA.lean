/- Part WroA of the proofs about the benches of the accordion maker: see the last text of the claim for what is proved. -/
import Derived.Test.YtecfpfhkicapeaaRefB
import Derived.Test.YtecfpfhkicapeaaFewA
import Derived.Test.YtecfpfhkicapeaaBatG
import Derived.Test.YtecfpfhkicapeaaBatJ
set_option linter.unusedVariables false
set_option linter.unusedSimpArgs false
set_option linter.unnecessarySimpa false
set_option linter.constructorNameAsVariable false

namespace Go.Proofs.Ytecfpfhkicapeaa
open Go Go.Abs Go.Proofs Go.Batch
def wrongO : Option (List Nat) → List Nat × Int
  | none => ([], 9)
  | some c => (c, 0)
def wrongV (j : Jn) : List Nat × Int := if checkJ j ≠ 0 then ([], checkJ j) else wrongO (wrongJ j)
theorem wk_err (e : Int) : WkD (.tup [.v (.slice none 0 0), I e]) (.tup [.sl 1 (natD []), I e]) := WkD.tup ⟨WkD.nil, .rfl, trivial⟩
theorem bWrongV (j : Jn) (hf : j.first.length ≤ 1152921504606846976) (hm : j.moves.length ≤ 1152921504606846976) (FL ML : List D) (hF : FL = j.first.map bolD) (hM : ML = j.moves.map mvD) (w : List Nat × Int) (hw : w = wrongV j) (Q) (hq : ∀ L, L = natD w.1 → Q (RA.ret (.tup [.sl 1 L, I w.2])) []) :
    CallA Try.prog 23 [.agg [I j.ins, .sl 1 FL, .sl 5 ML]] [] Q := by
  have hz := hq _ rfl
  refine callA_res (Q := fun x H' => H' = [] ∧ ∃ d, x = RA.ret d ∧ WkD d (.tup [.sl 1 (natD w.1), I w.2])) (bWrong j hf hm FL ML hF hM _ (fun e h1 h2 => ⟨rfl, _, rfl, ?_⟩) (fun hj h => ⟨rfl, _, rfl, ?_⟩) (fun hj _ c hc L hL => ⟨rfl, _, rfl, ?_⟩)) (fun d H' h => ?_) (fun d H' h => ?_)
  · have : w = ([], e) := by rw [hw, wrongV, if_pos (by rw [← h1]; exact h2), h1]
    rw [this]; exact wk_err e
  · have : w = ([], 9) := by rw [hw, wrongV, if_neg (fun h => h (checkJ_of hj)), wrong_none h]; rfl
    rw [this]; exact wk_err 9
  · have : w = (c, 0) := by rw [hw, wrongV, if_neg (fun h => h (checkJ_of hj)), hc]; rfl
    rw [this, hL]; exact .rfl
  · obtain ⟨rfl, d1, h1, h2⟩ := h
    cases h1
    exact ⟨_, h2, hz⟩
  · obtain ⟨-, d1, h1, -⟩ := h
    cases h1
set_option maxRecDepth 40000 in
set_option maxHeartbeats 16000000 in
theorem rWrongV (j : Jn) (hf : j.first.length ≤ 1152921504606846976) (hm : j.moves.length ≤ 1152921504606846976) (FL ML : List D) (hF : FL = j.first.map bolD) (hM : ML = j.moves.map mvD) (w : List Nat × Int) (hw : w = wrongV j) (Q) (hq : ∀ L, L = natD w.1 → Q (RA.ret (.tup [.sl 1 L, I w.2])) []) :
    CallA Try.prog 24 [.agg [I j.ins, .sl 1 FL, .sl 5 ML]] [] Q := by
  obtain ⟨A, hA⟩ : ∃ A, A = ar := ⟨_, rfl⟩
  obtain ⟨e, he⟩ : ∃ e, e = checkJ j := ⟨_, rfl⟩
  refine callA_start tokT hA Try.func24 rfl rfl rfl rfl rfl fun S hS => ?_
  cbv
  refine ops_call hS [.agg [I j.ins, .sl 1 FL, .sl 5 ML]] [] [] rfl rfl rfl rfl rfl rfl rfl rfl (by decide) trivial (rCheck j hf hm FL ML hF hM e he _ ?_)
  refine ops_go tokT hA hS ?_
  cbv
  refine bm (fun c => ?_) (fun c => ?_)
  · have hz := hq _ rfl
    have hwe : w = ([], e) := by rw [hw, wrongV, if_pos (by rw [← he]; exact xne hA c), he]
    rw [hwe] at hz
    cbv
    refine gh_weak (wk_err e) ?_
    exact gh_view [] (by decide) pre0 (H' := []) (d' := .tup [.sl 1 (natD []), I e]) trivial rfl (gh_done hz)
  have e0 : e = 0 := by have := xnne hA c; exact this
  have hok : JOk j := checkJ_ok (he.symm.trans e0)
  have hm10 := hok.m10
  rw [wrongV, if_neg (fun h => h (he.symm.trans e0))] at hw
  have hcl : (countsJ j).length ≤ 10 := Nat.le_trans (countsL_len j.moves 0) hm10
  obtain ⟨cs, hcs⟩ : ∃ cs, cs = countsJ j := ⟨_, rfl⟩
  have hcount := fun Q h => rCounts j (by omega) FL ML hM Q h
  rw [← hcs] at hcl hcount
  cbv
  refine ops_call hS [.agg [I j.ins, .sl 1 FL, .sl 5 ML]] [] [] rfl rfl rfl rfl rfl rfl rfl rfl (by decide) trivial (hcount _ fun CL hCL => ?_)
  have hCl : CL.length = cs.length := by rw [hCL]; simp [natD]
  refine ops_go tokT hA hS ?_
  cbv
  refine at_code hS ?_
  refine wpa_loopG (α := Int × Nat) (fun q => { env := [(1, .b 0 0), (5, .sl 1 CL), (6, I q.1)], H := [.box (.agg [I j.ins, .sl 1 FL, .sl 5 ML])], nt := 42, dfs := [] })
    (fun q => cs.length + 1 - q.2) (fun q => q.2 ≤ cs.length + 1 ∧ IsI q.1 q.2 ∧ NoneK j q.2 0) (0, 0) ⟨Nat.zero_le _, ⟨rfl⟩, ⟨noneOf_0 j⟩⟩ ?_ ?_
  · exact gs_to [0] ⟨by decide, pre0, ⟨rfl, trivial⟩, ⟨rfl, rfl, rfl, trivial⟩, rfl, rfl⟩
  rintro ⟨mi, mk⟩ ⟨v1, v2, v3⟩
  dsimp only at v1 v2 v3
  have hyes : A.cmp .leq mi (A.oi (A.len CL)) = true → mk ≤ cs.length := fun c => by rw [yoiL hA hCl] at c; have := xle hA c; have := v2.eq; omega
  have hno : A.cmp .leq mi (A.oi (A.len CL)) = false → cs.length < mk := fun c => by rw [yoiL hA hCl] at c; have := xnle hA c; have := v2.eq; omega
  refine wp_go tokT hA hS ?_
  cbv
  refine bm (fun c2 => ?_) (fun c2 => ?_)
  · have hmk := hyes c2
    have hfm := yfit1 hA v2 (by omega)
    have hv2 := ysucc hA v2
    have hms : cs.length + 1 - (mk + 1) < cs.length + 1 - mk := by omega
    obtain ⟨ch, hch⟩ : ∃ ch, ch = choicesL cs mk := ⟨_, rfl⟩
    have hchl : ch.length ≤ 1024 := by rw [hch]; exact Nat.le_trans (choicesL_len cs mk) (Nat.le_trans (Nat.pow_le_pow_right (by decide) (show cs.length ≤ 10 by omega)) (by decide))
    have hchs := fun Q h => rChoices mk cs (by omega) CL hCL mi v2 (by omega) Q h
    rw [← hch] at hchs
    cbv
    refine ops_call hS [.sl 1 CL, I mi] [] [] rfl rfl rfl rfl rfl rfl rfl rfl (by decide) trivial (hchs _ fun OL hOL => ?_)
    have hOl : OL.length = ch.length := by rw [hOL, chD_len]
    refine ops_go tokT hA hS ?_
    cbv
    refine at_code hS ?_
    refine wpa_loopG (α := Int × Nat) (fun q => { env := [(1, .b 0 0), (5, .sl 1 CL), (6, I mi), (7, .sl 1 OL), (8, I q.1)], H := [.box (.agg [I j.ins, .sl 1 FL, .sl 5 ML])], nt := 42, dfs := [] })
      (fun q => ch.length - q.2) (fun q => q.2 ≤ ch.length ∧ IsI q.1 q.2 ∧ NoneK j mk q.2) (0, 0) ⟨Nat.zero_le _, ⟨rfl⟩, v3⟩ ?_ ?_
    · exact gs_to [0] ⟨by decide, pre0, ⟨rfl, trivial⟩, ⟨rfl, rfl, rfl, rfl, rfl, trivial⟩, rfl, rfl⟩
    rintro ⟨ti, t⟩ ⟨w1, w2, w3⟩
    dsimp only at w1 w2 w3
    have hyes2 : A.cmp .lss ti (A.oi (A.len OL)) = true → t < ch.length := fun c => yltL hA hOl w2 c
    have hno2 : A.cmp .lss ti (A.oi (A.len OL)) = false → t = ch.length := fun c => by have := ynltL hA hOl w2 c; omega
    refine wp_go tokT hA hS ?_
    cbv
    refine bm (fun c3 => ?_) (fun c3 => ?_)
    · have ht := hyes2 c3
      obtain ⟨p, hp⟩ : ∃ p, ch[t]? = some p := ⟨_, List.getElem?_eq_getElem ht⟩
      obtain ⟨PL, hPL⟩ : ∃ PL, PL = natD p := ⟨_, rfl⟩
      have gO := yget hA w2 (show OL[t]? = some (.sl 1 PL) by rw [hOL, hPL]; simp [chD, hp])
      have iO := yinbL hA hOl w2 ht
      have hft := yfit1 hA w2 (by omega)
      have hw2 := ysucc hA w2
      have hms2 : ch.length - (t + 1) < ch.length - t := by omega
      have hpm := choicesL_mem cs mk p (by rw [← hch]; exact List.mem_of_getElem? hp)
      have hpl : p.length ≤ 10 := by omega
      have hp' : (choicesL (countsJ j) mk)[t]? = some p := by rw [← hcs, ← hch]; exact hp
      have hnext : standsJ (withoutJ j p) = false → NoneK j mk (t + 1) := fun h => ⟨w3.none.next hp' h⟩
      have hhit : standsJ (withoutJ j p) = true → w = (p, 0) := fun h => by
        rw [hw, w3.none.hit (by rw [← hcs]; exact hmk) hp' h]; rfl
      have hwo := fun Q h => rWithout j (by omega) p (by omega) FL ML PL hM hPL Q h
      have hstd := fun ML' (hML' : ML' = (withoutJ j p).moves.map mvD) b hb Q h => rStandsJ (withoutJ j p) (hok.without p) FL ML' hF hML' b hb Q h
      cbv
      refine draw_go tokT hA hS [0, 1, 2, 3, 4, 5, 6] rfl rfl fun Dk hD => ?_
      cbv
      refine ⟨iO, ⟨_, gO, ?_⟩⟩
      cbv
      refine draw_call hA hD [.agg [I j.ins, .sl 1 FL, .sl 5 ML], .sl 1 PL] [] [] rfl rfl rfl rfl rfl rfl rfl rfl rfl rfl rfl (by decide) trivial (hwo _ fun M' hM' => ⟨by cbv; repeat' (first | exact trivial | exact rfl | exact ⟨_, gO, rfl⟩ | exact iO | refine ⟨?_, ?_⟩), draw_on tokT hA hD ?_⟩)
      cbv
      refine draw_call hA hD [.agg [I j.ins, .sl 1 FL, .sl 5 M']] [] [] rfl rfl rfl rfl rfl rfl rfl rfl rfl rfl rfl (by decide) trivial (hstd M' hM' (standsJ (withoutJ j p)) rfl _ ⟨by cbv; repeat' (first | exact trivial | exact rfl | exact ⟨_, gO, rfl⟩ | exact iO | refine ⟨?_, ?_⟩), draw_on tokT hA hD ?_⟩)
      cases hb : standsJ (withoutJ j p) with
      | true =>
        have hz := hq PL (by rw [hPL, hhit hb])
        rw [hhit hb] at hz
        cbv
        refine ⟨iO, ⟨_, gO, ?_⟩⟩
        cbv
        refine gs_done ?_
        cbv
        refine gs_done ?_
        cbv
        exact gh_view [] (by decide) pre0 (H' := []) (d' := .tup [.sl 1 PL, I 0]) trivial rfl (gh_done hz)
      | false =>
        have hz := hnext hb
        cbv
        refine ⟨hft, ?_⟩
        refine gs_loop (A.add ti 1, t + 1) [0] ⟨ht, hw2, hz⟩ hms2 ?_
        exact ⟨by decide, pre0, ⟨rfl, trivial⟩, ⟨rfl, rfl, rfl, rfl, rfl, trivial⟩, rfl, rfl⟩
    · have ht := hno2 c3
      have hz : NoneK j (mk + 1) 0 := ⟨w3.none.more (by rw [← hcs, ← hch, ht]; exact Nat.le_refl _)⟩
      have hmk1 : mk + 1 ≤ cs.length + 1 := by omega
      cbv
      refine gs_done ?_
      cbv
      refine ⟨hfm, ?_⟩
      refine gs_loop (A.add mi 1, mk + 1) [0] ⟨hmk1, hv2, hz⟩ hms ?_
      exact ⟨by decide, pre0, ⟨rfl, trivial⟩, ⟨rfl, rfl, rfl, trivial⟩, rfl, rfl⟩
  · have hmk := hno c2
    have hnone := v3.none.all (by rw [← hcs]; exact hmk)
    have hwe : w = ([], 9) := by rw [hw, hnone]; rfl
    have hz := hq _ rfl
    rw [hwe] at hz
    cbv
    refine gs_done ?_
    cbv
    refine gh_weak (wk_err 9) ?_
    exact gh_view [] (by decide) pre0 (H' := []) (d' := .tup [.sl 1 (natD []), I 9]) trivial rfl (gh_done hz)
end Go.Proofs.Ytecfpfhkicapeaa

namespace Go.Proofs.Ytecfpfhkicapeaa
open Go Go.Abs Go.Proofs Go.Batch
section
variable {P : Program} {T : TT} {r : Option Nat} {m : Nat}
theorem ops_callN {S : Stop} (hS : S = theStop P r m) {ops : Array Oper} {Q : AX → St → Prop} {s : St} {i : Nat} {l : List Nat} {o oj : Oper} {j t : Nat} {want : Bool}
    (hoi : ops[i]? = some o) (hd : dstOk s.nt o.dst = true) (hg : o.guard = some (j, want)) (hj : ops[j]? = some oj) (hjd : oj.dst = some t) (hb : getE s.env t = some (.tup []))
    (hno : OpsA P r m ops Q l (s.step o.dst (.tup []) s.H s.dfs)) : S.ops ops Q (i :: l) s := by
  subst hS
  refine opsA_cons hoi hd ?_
  simp only [guardA, hg, hj, hjd, hb]
  exact hno
end
theorem yeqT {A : Ar} (hA : A = ar) (x : Int) : A.cmp .eql x x = true := by subst hA; simp [ar, cmpI]
set_option maxRecDepth 20000 in
set_option maxHeartbeats 2000000 in
theorem lLarge (j : Jn) (FL ML : List D) (hF : FL = j.first.map bolD) (hM : ML = j.moves.map mvD) (Q) (hq : ∀ b, (b = false → j.first.length ≤ 20 ∧ j.moves.length ≤ 20) → Q (RA.ret (.v (.bool b))) []) :
    CallA Try.prog 16 [.agg [I j.ins, .sl 1 FL, .sl 5 ML]] [] Q := by
  obtain ⟨A, hA⟩ : ∃ A, A = ar := ⟨_, rfl⟩
  have hFl : FL.length = j.first.length := by rw [hF]; simp
  have hMl : ML.length = j.moves.length := by rw [hM]; simp
  have h1 := fun c => yngtL (x := 20) hA hFl c
  have h2 := fun c => yngtL (x := 20) hA hMl c
  have h3 : A.cmp .leq (A.oi (A.len ML)) 10 = true → j.moves.length ≤ 1000 := fun c => by rw [yoiL hA hMl] at c; have := xle hA c; omega
  have hz1 := hq true (fun h => Bool.noConfusion h)
  have hz0 : A.cmp .gtr (A.oi (A.len FL)) 20 = false → A.cmp .gtr (A.oi (A.len ML)) 20 = false → ∀ b, Q (RA.ret (.v (.bool b))) [] := fun c c' b => hq b fun _ => by
    have := h1 c; have := h2 c'; omega
  refine callA_start tokT hA Try.func16 rfl rfl rfl rfl rfl fun S hS => ?_
  cbv
  refine bm (fun c1 => ?_) (fun c1 => ?_)
  · cbv
    refine ops_callN hS rfl rfl rfl rfl rfl rfl ?_
    refine ops_go tokT hA hS ?_
    cbv
    exact gh_view [] (by decide) pre0 (H' := []) (d' := .v (.bool true)) trivial rfl (gh_done hz1)
  · cbv
    refine bm (fun c2 => ?_) (fun c2 => ?_)
    · cbv
      refine ops_callN hS rfl rfl rfl rfl rfl rfl ?_
      refine ops_go tokT hA hS ?_
      cbv
      exact gh_view [] (by decide) pre0 (H' := []) (d' := .v (.bool true)) trivial rfl (gh_done hz1)
    · have hz := hz0 c1 c2
      cbv
      refine bm (fun c3 => ?_) (fun c3 => ?_)
      · cbv
        refine ops_callG hS (b := true) rfl rfl rfl rfl rfl rfl rfl rfl (fun _ => ⟨[], _, [.agg [I j.ins, .sl 1 FL, .sl 5 ML]], [], [], rfl, rfl, rfl, by decide, trivial, rCounts j (h3 c3) FL ML hM _ fun CL hCL => ?_⟩) (fun e => absurd rfl e)
        refine ops_go tokT hA hS ?_
        cbv
        exact gh_view [] (by decide) pre0 (H' := []) (d' := .v (.bool (A.cmp .gtr (A.oi (A.len CL)) 4))) trivial rfl (gh_done (hz _))
      · cbv
        refine ops_callG (f := 0) hS rfl rfl rfl rfl rfl rfl rfl rfl (fun e => Bool.noConfusion e) (fun _ => ?_)
        refine ops_go tokT hA hS ?_
        cbv
        exact gh_view [] (by decide) pre0 (H' := []) (d' := .v (.bool false)) trivial rfl (gh_done (hz _))
set_option maxRecDepth 20000 in
set_option maxHeartbeats 4000000 in
theorem kSameJournals (j : Jn) (FL ML : List D) (hF : FL = j.first.map bolD) (hM : ML = j.moves.map mvD) (hf20 : j.first.length ≤ 1000000) (hm20 : j.moves.length ≤ 1000000) (Q) (hq : Q (RA.ret (.v (.bool true))) []) :
    CallA Try.prog 26 [.agg [I j.ins, .sl 1 FL, .sl 5 ML], .agg [I j.ins, .sl 1 FL, .sl 5 ML]] [] Q := by
  obtain ⟨A, hA⟩ : ∃ A, A = ar := ⟨_, rfl⟩
  obtain ⟨N, hN⟩ : ∃ N, N = j.first.length := ⟨_, rfl⟩
  obtain ⟨W, hW⟩ : ∃ W, W = j.moves.length := ⟨_, rfl⟩
  have hFl : FL.length = N := by rw [hF, hN]; simp
  have hMl : ML.length = W := by rw [hM, hW]; simp
  have e1 := yeqT hA j.ins
  have e2 := yeqT hA (A.oi (A.len FL))
  have e3 := yeqT hA (A.oi (A.len ML))
  refine callA_startF tokT hA [1] Try.func26 rfl rfl rfl rfl rfl fun S hS => ?_
  cbv
  refine code_cut hS { env := [(2, .b 0 0), (3, .b 1 0), (5, .v (.bool true))], H := [.box (.agg [I j.ins, .sl 1 FL, .sl 5 ML]), .box (.agg [I j.ins, .sl 1 FL, .sl 5 ML])], nt := 74, dfs := [] } ?_ ?_
  · refine region_part tokT hA hS [0, 1, 2, 3, 4] [5, 6, 7, 8, 9, 10, 11, 12, 13, 14, 15, 16, 17, 18, 19, 20, 21, 22, 23] rfl ?_
    cbv
    refine part_is tokT hA hS 12 (.v (.bool true)) rfl (congrArg (fun b => D.v (.bool b)) e1) [5, 6, 7, 8, 9, 10, 11, 12] [13, 14, 15, 16, 17, 18, 19, 20, 21, 22, 23] ?_
    cbv
    refine part_is tokT hA hS 20 (.v (.bool true)) rfl (congrArg (fun b => D.v (.bool b)) e2) [13, 14, 15, 16, 17, 18, 19, 20, 21] [22, 23] ?_
    cbv
    refine part_is tokT hA hS 29 (.v (.bool true)) rfl (congrArg (fun b => D.v (.bool b)) e3) [22, 23] [] ?_
    cbv
    refine at_ops hS (ops_go tokT hA hS ?_)
    cbv
    exact gs_to [0, 1] ⟨by decide, pre0, ⟨rfl, rfl, trivial⟩, ⟨rfl, rfl, rfl, trivial⟩, rfl, rfl⟩
  cbv
  refine at_code hS ?_
  refine wpa_loopG (α := Int × Nat) (fun q => { env := [(2, .b 0 0), (3, .b 1 0), (5, .v (.bool true)), (6, I q.1)], H := [.box (.agg [I j.ins, .sl 1 FL, .sl 5 ML]), .box (.agg [I j.ins, .sl 1 FL, .sl 5 ML])], nt := 74, dfs := [] })
    (fun q => N - q.2) (fun q => q.2 ≤ N ∧ IsI q.1 q.2) (0, 0) ⟨Nat.zero_le _, ⟨rfl⟩⟩ ?_ ?_
  · exact gs_to [0, 1] ⟨by decide, pre0, ⟨rfl, rfl, trivial⟩, ⟨rfl, rfl, rfl, rfl, trivial⟩, rfl, rfl⟩
  rintro ⟨i, k⟩ ⟨u1, u2⟩
  dsimp only at u1 u2
  refine wp_goF tokT hA hS [] ?_
  cbv
  refine bm (fun c => ?_) (fun c => ?_)
  · have hk : k < N := yltL hA hFl u2 c
    obtain ⟨x, hx⟩ : ∃ x, j.first[k]? = some x := ⟨_, List.getElem?_eq_getElem (by omega)⟩
    have hbq : A.beq x x = true := by subst hA; cases x <;> rfl
    have hFk : FL[k]? = some (.v (.bool x)) := by rw [hF, List.getElem?_map, hx]; rfl
    have hin := yinbL hA hFl u2 hk
    have hg := yget hA u2 hFk
    have hf := yfit1 hA u2 (by omega)
    have hu2 := ysucc hA u2
    have hms : N - (k + 1) < N - k := by omega
    cbv
    refine draw_goE tokT hA hS [10] [0, 1, 2, 3, 4, 5, 6, 7, 8, 9, 10, 11] rfl rfl fun Dk hD => ?_
    cbv
    refine ⟨hin, ⟨_, hg, ?_⟩⟩
    cbv
    refine ⟨hin, ⟨_, hg, ?_⟩⟩
    cbv
    refine draw_val tokT hA hD [] (.v (.bool true)) rfl rfl rfl rfl rfl rfl (congrArg (fun b => D.v (.bool b)) hbq) ?_
    cbv
    refine ⟨hf, ?_⟩
    refine gs_loop (A.add i 1, k + 1) [0, 1] ⟨hk, hu2⟩ hms ?_
    exact ⟨by decide, pre0, ⟨rfl, rfl, trivial⟩, ⟨rfl, rfl, rfl, rfl, trivial⟩, rfl, rfl⟩
  cbv
  refine gs_done ?_
  cbv
  refine at_code hS ?_
  refine wpa_loopG (α := Int × Nat) (fun q => { env := [(2, .b 0 0), (3, .b 1 0), (5, .v (.bool true)), (7, I q.1)], H := [.box (.agg [I j.ins, .sl 1 FL, .sl 5 ML]), .box (.agg [I j.ins, .sl 1 FL, .sl 5 ML])], nt := 74, dfs := [] })
    (fun q => W - q.2) (fun q => q.2 ≤ W ∧ IsI q.1 q.2) (0, 0) ⟨Nat.zero_le _, ⟨rfl⟩⟩ ?_ ?_
  · exact gs_to [0, 1] ⟨by decide, pre0, ⟨rfl, rfl, trivial⟩, ⟨rfl, rfl, rfl, rfl, trivial⟩, rfl, rfl⟩
  clear u1 u2 c
  rintro ⟨i, k⟩ ⟨u1, u2⟩
  dsimp only at u1 u2
  refine wp_goF tokT hA hS [] ?_
  cbv
  refine bm (fun c => ?_) (fun c => ?_)
  · have hk : k < W := yltL hA hMl u2 c
    obtain ⟨m, hm⟩ : ∃ m, j.moves[k]? = some m := ⟨_, List.getElem?_eq_getElem (by omega)⟩
    have hMk : ML[k]? = some (.agg [I m.kind, I m.bin, I m.inst, I m.lo, I m.hi]) := by rw [hM, List.getElem?_map, hm]; rfl
    have hin := yinbL hA hMl u2 hk
    have hg := yget hA u2 hMk
    have hf := yfit1 hA u2 (by omega)
    have hu2 := ysucc hA u2
    have hms : W - (k + 1) < W - k := by omega
    have hl1 : A.leq [m.kind, m.bin, m.inst, m.lo, m.hi] [m.kind, m.bin, m.inst, m.lo, m.hi] = true := by subst hA; simp [ar]
    cbv
    refine draw_goE tokT hA hS [10] [0, 1, 2, 3, 4, 5, 6, 7, 8, 9, 10, 11] rfl rfl fun Dk hD => ?_
    cbv
    refine ⟨hin, ⟨_, hg, ?_⟩⟩
    cbv
    refine ⟨hin, ⟨_, hg, ?_⟩⟩
    cbv
    refine draw_val tokT hA hD [] (.v (.bool true)) rfl rfl rfl rfl rfl rfl ⟨[m.kind, m.bin, m.inst, m.lo, m.hi], [m.kind, m.bin, m.inst, m.lo, m.hi], rfl, rfl, rfl, rfl, congrArg (fun b => D.v (.bool b)) hl1⟩ ?_
    cbv
    refine ⟨hf, ?_⟩
    refine gs_loop (A.add i 1, k + 1) [0, 1] ⟨hk, hu2⟩ hms ?_
    exact ⟨by decide, pre0, ⟨rfl, rfl, trivial⟩, ⟨rfl, rfl, rfl, rfl, trivial⟩, rfl, rfl⟩
  · cbv
    refine gs_done ?_
    cbv
    exact gh_view [] (by decide) pre0 (H' := []) (d' := .v (.bool true)) trivial rfl (gh_done hq)
end Go.Proofs.Ytecfpfhkicapeaa
