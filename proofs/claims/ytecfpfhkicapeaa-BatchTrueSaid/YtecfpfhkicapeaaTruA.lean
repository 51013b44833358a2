/- Part TruA of the proofs about the benches of the accordion maker: see the last text of the claim for what is proved. -/
import Derived.Test.YtecfpfhkicapeaaBatL
import Derived.Test.YtecfpfhkicapeaaSaysB
set_option linter.unusedVariables false
set_option linter.unusedSimpArgs false
set_option linter.unnecessarySimpa false
set_option linter.constructorNameAsVariable false

namespace Go.Proofs.Ytecfpfhkicapeaa
open Go Go.Abs Go.Proofs Go.Batch
theorem ygtD {A : Ar} (hA : A = ar) (x y : Int) : A.cmp .gtr x y = decide (y < x) := by subst hA; rfl
theorem ygeD {A : Ar} (hA : A = ar) (x y : Int) : A.cmp .geq x y = decide (y ≤ x) := by subst hA; rfl
theorem ylssF {A : Ar} (hA : A = ar) {x y : Int} (h : y ≤ x) : A.cmp .lss x y = false := by subst hA; simp [ar, cmpI]; exact h
theorem GridV.lists {NB : Nat} {f g : Nat → List D} (h : ∀ j, j < NB → f j = g j) : ((List.range NB).map fun j => D.sl 1 (f j)) = (List.range NB).map fun j => D.sl 1 (g j) := List.map_congr_left fun j hj => by rw [h j (List.mem_range.1 hj)]
structure SumL (bin : Int) (bs l : List Int) (s : Nat) (x : Int) : Prop where
  eq : x = inL bin (bs.take s) l
set_option maxRecDepth 40000 in
set_option maxHeartbeats 16000000 in
theorem wBatchTrue (L : List D) (nums : List Int) (hL : L = nums.map I) (hl : L.length ≤ 9223372036854775807) (Q) (hq : Q (RA.ret (.v (.bool true))) []) : CallA Try.prog 15 [.sl 1 L] [] Q := by
  obtain ⟨A, hA⟩ : ∃ A, A = ar := ⟨_, rfl⟩
  have n00 : A.cmp .neq 0 0 = false := by subst hA; rfl
  have bT : A.bnot true = false := by subst hA; rfl
  refine callA_start tokT hA Try.func15 rfl rfl rfl rfl rfl fun S hS => ?_
  cbv
  refine ops_call hS [.sl 1 L] [] [] rfl rfl rfl rfl rfl rfl rfl rfl (by decide) trivial (newPotL L nums hL hl _ fun x0 => ?_)
  refine ops_go tokT hA hS ?_
  cbv
  refine ops_call hS [.b 0 0, I 9, I 1] [0] [pot x0] rfl rfl rfl rfl rfl rfl rfl rfl (by decide) ⟨rfl, trivial⟩ (kJournalOf x0 9 1 (by decide) ⟨by decide, by decide⟩ _ fun ins first ms lies truth x1 FL ML TL RL hi1 hi4 hfl hm10 hmm hg _ hF hM hT hR => ?_)
  obtain ⟨j, N, n, m, hj, md⟩ := md_of hi1 hi4 hfl hm10 hg hF hM
  obtain ⟨NB, hNB⟩ : ∃ NB, NB = (binsOf j.moves).length := ⟨_, rfl⟩
  have hNB4 : NB ≤ 4 := by rw [hNB]; exact md.ok.b4
  have hRl : RL.length = NB := by rw [hR, hNB, hj]; simp; have := hg.l.len; have := hg.b4; omega
  have hR' : RL = (lies.take NB).map I := by rw [hR, hNB, hj]
  have hll := hg.l.len
  have hlB : ∀ k, 0 ≤ lies.getD k 0 ∧ lies.getD k 0 ≤ 5 := fun k => ⟨hg.l.lo k, hg.l.hi k⟩
  have hRg : ∀ k, k < NB → RL[k]? = some (I (lies.getD k 0)) := fun k hk => by
    rw [hR', List.getElem?_map, List.getElem?_take, if_pos hk, List.getElem?_eq_getElem (by omega), List.getD_eq_getElem?_getD, List.getElem?_eq_getElem (by omega)]; rfl
  have htru : Tru j (fun n b => amtT n b truth) lies := by rw [hj]; exact tru_of hg
  have hN4 := md.N4
  have hn2 := md.n2
  have hNi : IsI ins N := md.nI
  have hNj : IsI j.ins N := ⟨md.ie.trans md.nI.eq⟩
  have hNe : j.ins = N := hNj.eq
  have hjt : j.ins.toNat = N := by omega
  have hFl := md.Fl
  have ht5 : ∀ t ∈ truth, ∀ k, 0 ≤ t.2.getD k 0 ∧ t.2.getD k 0 ≤ 5 := fun t ht => (hg.ti t ht).2.2
  have hto : ∀ t ∈ truth, t.2 = [] ∨ t.2.length = 4 := fun t ht => (hg.ti t ht).2.1
  have htl : truth.length ≤ 10 := by rw [hg.tl]; exact hm10
  have hRI : IsI (A.oi (A.len RL)) NB := ⟨yoiL hA hRl⟩
  have hnn : A.nneg (A.oi (A.len RL)) := by have := hRI.eq; subst hA; show 0 ≤ _; omega
  have htn : A.tn (A.oi (A.len RL)) = NB := ytn hA hRI
  have hrm : A.room (A.tn (A.oi (A.len RL))) 24 := by rw [htn]; exact yroomN hA (by omega) (by decide)
  obtain ⟨E0, hE0⟩ : ∃ E0, E0 = gridE (List.replicate NB nilS) (List.replicate NB []) 0 := ⟨_, rfl⟩
  obtain ⟨G0, hG0⟩ : ∃ G0, G0 = gridN (List.replicate NB nilS) (List.replicate NB []) 0 := ⟨_, rfl⟩
  have hV0 : GridV NB E0 G0 (fun _ => []) := ⟨_, _, gridS_0 NB, hE0, hG0⟩
  have hG0n : ∀ (j : Nat) (e : Value) (row : List D), G0[j]? ≠ some (e, some row) := fun j e row => by rw [hG0]; exact gridN_none
  have hrep : A.rep (A.tn (A.oi (A.len RL))) (.v (.slice none 0 0)) = E0 := by rw [htn, hE0, gridE_rep]; subst hA; rfl
  have hlenN : A.cmp .neq (A.oi N) ins = false := by have := hNi.eq; subst hA; simp [ar, cmpI]; omega
  have hbins := fun Q => kBins j (by have := md.ok.m10; omega) FL ML md.M Q
  rw [md.ie] at hbins
  refine ops_go tokT hA hS ?_
  cbv
  refine ops_gs hS (gs_frz hA [1] ?_)
  cbv
  refine gs_done ?_
  refine ops_call hS [.b 0 0, I (A.oi (A.len RL))] [0] [pot x1] rfl rfl rfl rfl rfl rfl rfl rfl (by decide) ⟨rfl, trivial⟩ (kPick x1 _ NB hRI (by omega) _ fun q QL x2 hqa hQ => ?_)
  have hQ2 : QL = (q.map fun i : Nat => (i : Int)).map I := by rw [hQ, natD, List.map_map]; rfl
  have hqlen := hqa.len
  have hq4 : ∀ x ∈ q, x < 4 := fun x hx => by have := hqa.lt x hx; omega
  refine ops_go tokT hA hS ?_
  cbv
  refine ops_call hS [.agg [I ins, .sl 1 FL, .sl 5 ML]] [] [] rfl rfl rfl rfl rfl rfl rfl rfl (by decide) trivial (md.holds _ fun H1 hH1 => ?_)
  have hT1 := holdT_of hNj hNB hH1
  have hH1l := hT1.len
  refine ops_go tokT hA hS ?_
  cbv
  refine ops_call hS [.agg [I ins, .sl 1 FL, .sl 5 ML], .sl 1 QL] [] [] rfl rfl rfl rfl rfl rfl rfl rfl (by decide) trivial (md.has hNB hqa hQ _ fun A1 hA1 => ?_)
  have hA1l : A1.length = N := by rw [hA1, List.length_map]; simp [hasJ, hjt]
  refine ops_go tokT hA hS ?_
  cbv
  refine ops_call hS [.agg [I ins, .sl 1 FL, .sl 5 ML], .sl 1 QL] [] [] rfl rfl rfl rfl rfl rfl rfl rfl (by decide) trivial (md.recall hNB hqa hQ _ fun R1 hR1 => ?_)
  obtain ⟨RC, hRC⟩ : ∃ RC, RC = recallJ j q := ⟨_, rfl⟩
  rw [← hRC] at hR1
  have hRCl : RC.length ≤ 1000000 := by rw [hRC, recallJ_eq, List.length_map, hjt]; have := List.length_filter_le (callB j q) (List.range N); rw [List.length_range] at this; omega
  refine ops_go tokT hA hS ?_
  cbv
  refine ops_call hS [.agg [I ins, .sl 1 FL, .sl 5 ML]] [] [] rfl rfl rfl rfl rfl rfl rfl rfl (by decide) trivial (md.mixed _ fun X1 hX1 => ?_)
  have hX1l : X1.length = N := by rw [hX1, List.length_map]; simp [mixedJ, hjt]
  refine ops_go tokT hA hS ?_
  cbv
  refine ops_call hS [.agg [I ins, .sl 1 FL, .sl 5 ML]] [] [] rfl rfl rfl rfl rfl rfl rfl rfl (by decide) trivial (md.left _ fun L1 hL1 => ?_)
  have hL1l : L1.length = n := by rw [hL1, List.length_map]; simp [leftJ, md.n]
  refine ops_go tokT hA hS ?_
  cbv
  refine ops_call hS [.agg [I ins, .sl 1 FL, .sl 5 ML]] [] [] rfl rfl rfl rfl rfl rfl rfl rfl (by decide) trivial (md.rest _ fun K1 hK1 => ?_)
  have hS1 := restT_of hNB hK1
  have hK1l := hS1.len
  refine ops_go tokT hA hS ?_
  cbv
  refine ops_call hS [.agg [I ins, .sl 1 FL, .sl 5 ML]] [] [] rfl rfl rfl rfl rfl rfl rfl rfl (by decide) trivial (md.wrong _ ?_)
  have w0 : A.cmp .gtr (A.oi (A.len [])) 0 = false := by subst hA; rfl
  have l1 : A.cmp .neq (A.oi (A.len H1)) ins = false := by rw [xlen hA hH1l]; exact hlenN
  have l2 : A.cmp .neq (A.oi (A.len A1)) ins = false := by rw [xlen hA hA1l]; exact hlenN
  have l3 : A.cmp .neq (A.oi (A.len X1)) ins = false := by rw [xlen hA hX1l]; exact hlenN
  have l4 : A.cmp .neq (A.oi (A.len L1)) (A.oi (A.len FL)) = false := by rw [xlen hA hL1l, xlen hA hFl]; subst hA; simp [ar, cmpI]
  have l5 : A.cmp .neq (A.oi (A.len K1)) (A.oi (A.len RL)) = false := by rw [xlen hA hK1l, xlen hA hRl]; subst hA; simp [ar, cmpI]
  refine ops_go tokT hA hS ?_
  cbv
  refine bmF n00 ?_
  cbv
  refine bmF n00 ?_
  cbv
  refine bmF n00 ?_
  cbv
  refine bmF n00 ?_
  cbv
  refine bmF n00 ?_
  cbv
  refine bmF n00 ?_
  cbv
  refine bmF n00 ?_
  cbv
  refine bmF w0 ?_
  cbv
  refine bmF l1 ?_
  cbv
  refine bmF l2 ?_
  cbv
  refine bmF l3 ?_
  cbv
  refine bmF l4 ?_
  cbv
  refine bmF l5 ?_
  cbv
  refine ops_call hS [.agg [I ins, .sl 1 FL, .sl 5 ML]] [] [] rfl rfl rfl rfl rfl rfl rfl rfl (by decide) trivial (hbins _ fun BL hBL => ?_)
  have hBl : BL.length = NB := by rw [hBL, hNB, List.length_map]
  obtain ⟨P, hP⟩ : ∃ P : Nat → Nat → Bool, P = fun (b x : Nat) => decide (0 < amtT (x : Int) b truth) := ⟨_, rfl⟩
  obtain ⟨PN, hPN⟩ : ∃ PN : Nat → Nat → Bool, PN = fun (b x : Nat) => !decide (0 < amtT (x : Int) b truth) := ⟨_, rfl⟩
  have hVB := hV0.congr (F' := setF P 0 0) fun j _ => (setF_zero P j).symm
  have hVG := hV0.congr (F' := setF PN 0 0) fun j _ => (setF_zero PN j).symm
  refine ops_go tokT hA hS ?_
  cbv
  refine ⟨hnn, hrm, hnn, hrm, ?_⟩
  refine at_code hS ?_
  refine wpa_loopG (α := (Int × Nat) × (List D × List Ent) × (List D × List Ent)) (fun z => { env := [(4, .cb (.agg [I ins, .sl 1 FL, .sl 5 ML]) 0), (5, .sl 2 TL), (6, .sl 1 RL), (7, .sl 1 QL), (8, .sl 1 H1), (10, .sl 1 A1), (12, .sl 1 R1), (14, .sl 1 X1), (16, .sl 2 L1), (18, .sl 2 K1), (22, .sl 1 BL), (23, .o 0 1 NB), (24, .o 1 1 NB), (25, I z.1.1)], H := [.els 1 z.2.1.1, .els 1 z.2.2.1, .ob (.gr 1 z.2.1.2), .ob (.gr 1 z.2.2.2)], nt := 351, dfs := [] })
    (fun z => N - z.1.2) (fun z => z.1.2 ≤ N ∧ IsI z.1.1 z.1.2 ∧ GridV NB z.2.1.1 z.2.1.2 (setF P z.1.2 0) ∧ GridV NB z.2.2.1 z.2.2.2 (setF PN z.1.2 0)) ((0, 0), (E0, G0), (E0, G0)) ⟨Nat.zero_le _, ⟨rfl⟩, hVB, hVG⟩ ?_ ?_
  · refine gs_elsE 2 rfl hrep ?_
    refine gs_elsE 3 rfl hrep ?_
    refine gs_grNewN 1 G0 hG0n ?_
    refine gs_grNewN 1 G0 hG0n ?_
    exact gs_to [2, 3, 4, 5] ⟨by decide, pre0, ⟨rfl, rfl, rfl, rfl, trivial⟩, ⟨rfl, rfl, rfl, rfl, rfl, rfl, rfl, rfl, rfl, rfl, rfl, congrArg (fun k => some (D.o 2 1 k)) htn, congrArg (fun k => some (D.o 3 1 k)) htn, rfl, trivial⟩, rfl, rfl⟩
  rintro ⟨⟨ni, t⟩, ⟨EB, GB⟩, ⟨EG, GG⟩⟩ ⟨v1, v2, v3, v4⟩
  dsimp only at v1 v2 v3 v4
  have hyes : A.cmp .lss ni ins = true → t < N := fun c => by have := xlt hA c; have := hNi.eq; have := v2.eq; omega
  have hno : A.cmp .lss ni ins = false → t = N := fun c => by have := xnlt hA c; have := hNi.eq; have := v2.eq; omega
  refine wp_go tokT hA hS ?_
  cbv
  refine bm (fun c => ?_) (fun c => ?_)
  · have ht := hyes c
    have hnie := v2.eq
    have hft := yfit1 hA v2 (by omega)
    have hv2 := ysucc hA v2
    have hms : N - (t + 1) < N - t := by omega
    obtain ⟨Ra, ra1, ra2, ra3⟩ := hT1.row t ht
    have iH := yinbL hA hH1l v2 ht
    have gH := yget hA v2 ra1
    have la : A.cmp .neq (A.oi (A.len Ra)) (A.oi (A.len RL)) = false := by rw [xlen hA ra2, xlen hA hRl]; subst hA; simp [ar, cmpI]
    obtain ⟨f, hf⟩ : ∃ f : Nat → Int, f = fun b => amtT (t : Int) b truth := ⟨_, rfl⟩
    have hPf : ∀ s, P s t = decide (0 < f s) := fun s => by rw [hP, hf]
    have hPNf : ∀ s, PN s t = !decide (0 < f s) := fun s => by rw [hPN, hf]
    have hhad2 : ∀ Q, (∀ OL, OL = fourD f → Q (RA.ret (.sl 1 OL)) []) → CallA Try.prog 67 [.sl 2 TL, I ni] [] Q := fun Q h => by
      refine kHad ni truth ht5 hto htl TL hT Q fun OL hOL => h OL ?_
      rw [hOL, hf, hnie]
    cbv
    refine ops_call hS [.sl 2 TL, I ni] [] [] rfl rfl rfl rfl rfl rfl rfl rfl (by decide) trivial (hhad2 _ fun OL hOL => ?_)
    have hOl : OL.length = 4 := by rw [hOL]; simp [fourD]
    have hOg : ∀ s, s < 4 → OL[s]? = some (I (f s)) := fun s hs => by rw [hOL, fourD, List.getElem?_map, List.getElem?_range hs]; rfl
    refine ops_go tokT hA hS ?_
    cbv
    refine ⟨iH, ⟨_, gH, ?_⟩⟩
    cbv
    refine bmF la ?_
    cbv
    refine at_code hS ?_
    refine wpa_loopG (α := (Int × Nat) × (Int × Bool) × (List D × List Ent) × (List D × List Ent)) (fun z => { env := [(4, .cb (.agg [I ins, .sl 1 FL, .sl 5 ML]) 0), (5, .sl 2 TL), (6, .sl 1 RL), (7, .sl 1 QL), (8, .sl 1 H1), (10, .sl 1 A1), (12, .sl 1 R1), (14, .sl 1 X1), (16, .sl 2 L1), (18, .sl 2 K1), (22, .sl 1 BL), (23, .o 0 1 NB), (24, .o 1 1 NB), (25, I ni), (26, .sl 1 OL), (27, I z.2.1.1), (28, .v (.bool z.2.1.2)), (29, I z.1.1)], H := [.els 1 z.2.2.1.1, .els 1 z.2.2.2.1, .ob (.gr 1 z.2.2.1.2), .ob (.gr 1 z.2.2.2.2)], nt := 351, dfs := [] })
      (fun z => NB - z.1.2) (fun z => z.1.2 ≤ NB ∧ IsI z.1.1 z.1.2 ∧ IsI z.2.1.1 (manyB f z.1.2) ∧ z.2.1.2 = anyK f q z.1.2 ∧ GridV NB z.2.2.1.1 z.2.2.1.2 (setF P t z.1.2) ∧ GridV NB z.2.2.2.1 z.2.2.2.2 (setF PN t z.1.2)) ((0, 0), (0, false), (EB, GB), (EG, GG)) ⟨Nat.zero_le _, ⟨rfl⟩, ⟨rfl⟩, rfl, v3, v4⟩ ?_ ?_
    · exact gs_to [0, 1, 2, 3] ⟨by decide, pre0, ⟨rfl, rfl, rfl, rfl, trivial⟩, ⟨rfl, rfl, rfl, rfl, rfl, rfl, rfl, rfl, rfl, rfl, rfl, rfl, rfl, rfl, rfl, rfl, rfl, rfl, trivial⟩, rfl, rfl⟩
    rintro ⟨⟨bi, s⟩, ⟨mi, an⟩, ⟨E1, G1⟩, ⟨E2, G2⟩⟩ ⟨w1, w2, w3, w4, w5, w6⟩
    dsimp only at w1 w2 w3 w4 w5 w6
    have hyes2 : A.cmp .lss bi (A.oi (A.len RL)) = true → s < NB := fun c => yltL hA hRl w2 c
    have hno2 : A.cmp .lss bi (A.oi (A.len RL)) = false → s = NB := fun c => by have := ynltL hA hRl w2 c; omega
    have hmle := manyB_le f s
    refine wp_goF tokT hA hS [32, 33] ?_
    cbv
    refine bm (fun c2 => ?_) (fun c2 => ?_)
    · have hs := hyes2 c2
      have hfb := yfit1 hA w2 (by omega)
      have hw2 := ysucc hA w2
      have hms2 : NB - (s + 1) < NB - s := by omega
      have hbie := w2.eq
      obtain ⟨x, hx⟩ : ∃ x, x = f s := ⟨_, rfl⟩
      obtain ⟨v, hv⟩ : ∃ v, v = verdI (noteR j (tkAmt (t : Int) s)) := ⟨_, rfl⟩
      have ra4 := ra3 s hs
      rw [← hv] at ra4
      have iO := yinbL hA hOl w2 (by omega)
      have gO := yget hA w2 (by rw [hOg s (by omega), ← hx])
      have iR := yinbL hA ra2 w2 hs
      have gR := yget hA w2 ra4
      have hgx := ygtD hA x 0
      have hamt0 := htru.amt (Int.natCast_nonneg t) s
      have hvd0 := htru.verd md.ok (Int.natCast_nonneg t) s
      have hfx : amtT (t : Int) s truth = x := by rw [hx, hf]
      simp only [hfx] at hamt0 hvd0
      have hin : ∀ lo hi, lo = (noteR j (tkAmt (t : Int) s)).1 → hi = (noteR j (tkAmt (t : Int) s)).2 → lo ≤ x ∧ x ≤ hi := fun lo hi h1 h2 => by rw [h1, h2]; exact hamt0
      have hrt : rightB v (A.cmp .gtr x 0) = true := by rw [hgx, hv]; exact hvd0
      have hmiS : A.cmp .gtr x 0 = true → IsI (A.add mi 1) (manyB f (s + 1)) := fun h => ⟨by
        rw [hgx] at h
        have := of_decide_eq_true h
        rw [xadd hA, w3.eq]
        simp only [manyB, ← hx, if_pos this]
        omega⟩
      have hmi0 : A.cmp .gtr x 0 = false → IsI mi (manyB f (s + 1)) := fun h => ⟨by
        rw [hgx] at h
        have := of_decide_eq_false h
        rw [w3.eq]
        simp only [manyB, ← hx, if_neg this]
        omega⟩
      have hfmi := yfit1 hA w3 (by omega)
      have hany1 : A.cmp .gtr x 0 = true → anyK f q (s + 1) = (an || decide (s ∈ q)) := fun h => by
        rw [hgx] at h
        simp only [anyK, ← hx, h, ← w4, Bool.true_and]
      have hany0 : A.cmp .gtr x 0 = false → anyK f q (s + 1) = an := fun h => by
        rw [hgx] at h
        simp only [anyK, ← hx, h, ← w4, Bool.false_and, Bool.or_false]
      have hpl : ∀ r, (0 ≤ r ↔ bi ∈ q.map fun i : Nat => (i : Int)) → A.cmp .geq r 0 = decide (s ∈ q) := fun r h => by
        rw [ygeD hA]
        refine decide_eq_decide.2 (h.trans ?_)
        rw [List.mem_map, hbie]
        constructor
        · rintro ⟨y, hy, e⟩
          have : y = s := by omega
          exact this ▸ hy
        · intro h; exact ⟨s, h, rfl⟩
      have hPt : A.cmp .gtr x 0 = true → P s t = true ∧ PN s t = false := fun h => by rw [hPf, hPNf, ← hx, ← hgx, h]; exact ⟨rfl, rfl⟩
      have hPf0 : A.cmp .gtr x 0 = false → P s t = false ∧ PN s t = true := fun h => by rw [hPf, hPNf, ← hx, ← hgx, h]; exact ⟨rfl, rfl⟩
      have iN : A.inb bi NB := yinb hA w2 hs
      cbv
      refine ops_call hS [.agg [I ins, .sl 1 FL, .sl 5 ML], I ni, I bi] [] [] rfl rfl rfl rfl rfl rfl rfl rfl (by decide) trivial (md.amount2 hNB v2 w2 ht hs _ fun lo hi h1 h2 _ => ?_)
      have hin1 := hin lo hi h1 h2
      refine ops_go tokT hA hS ?_
      cbv
      refine draw_go tokT hA hS [0, 1, 2, 3, 4, 5, 6, 7, 8, 9, 10, 11, 12, 13, 14, 15, 16, 17, 18, 19, 20, 21, 22, 23, 24, 25, 26] rfl rfl fun Dk hD => ?_
      cbv
      refine bmF n00 ?_
      cbv
      refine ⟨iO, ⟨_, gO, ?_⟩⟩
      cbv
      refine draw_callG hA hD (b := false) rfl rfl rfl rfl rfl rfl rfl rfl rfl rfl rfl (fun _ => ⟨[], _, [.agg [I lo, I hi], I x], [], [], rfl, rfl, rfl, by decide, trivial, kIn lo hi x hin1 _ ⟨by cbv; repeat' (first | exact trivial | exact rfl | exact ⟨_, gO, rfl⟩ | exact iO | refine ⟨?_, ?_⟩), draw_on tokT hA hD ?_⟩⟩) (fun h => absurd rfl h)
      cbv
      refine bmF bT ?_
      cbv
      refine ⟨iH, ⟨_, gH, ?_⟩⟩
      cbv
      refine ⟨iR, ⟨_, gR, ?_⟩⟩
      cbv
      refine ⟨iO, ⟨_, gO, ?_⟩⟩
      cbv
      refine draw_callG hA hD (b := false) rfl rfl rfl rfl rfl rfl rfl rfl rfl rfl rfl (fun _ => ⟨[], _, [I v, .v (.bool (A.cmp .gtr x 0))], [], [], rfl, rfl, rfl, by decide, trivial, kRight v _ hrt _ ⟨by cbv; repeat' (first | exact trivial | exact rfl | exact ⟨_, gO, rfl⟩ | exact iO | exact ⟨_, gH, rfl⟩ | exact iH | exact ⟨_, gR, rfl⟩ | exact iR | refine ⟨?_, ?_⟩), draw_on tokT hA hD ?_⟩⟩) (fun h => absurd rfl h)
      cbv
      refine bmF bT ?_
      cbv
      refine ⟨iO, ⟨_, gO, ?_⟩⟩
      cbv
      refine bm (fun c3 => ?_) (fun c3 => ?_)
      · obtain ⟨hpp1, hpp2⟩ := hPt c3
        have hmi2 := hmiS c3
        have hany := hany1 c3
        cbv
        refine ⟨hfmi, ?_⟩
        refine' bm2 (S := S) (α := Bool) (fun a => { env := [(4, .cb (.agg [I ins, .sl 1 FL, .sl 5 ML]) 0), (5, .sl 2 TL), (6, .sl 1 RL), (7, .sl 1 QL), (8, .sl 1 H1), (10, .sl 1 A1), (12, .sl 1 R1), (14, .sl 1 X1), (16, .sl 2 L1), (18, .sl 2 K1), (22, .sl 1 BL), (23, .o 0 1 NB), (24, .o 1 1 NB), (25, I ni), (26, .sl 1 OL), (27, I (A.add mi 1)), (28, .v (.bool a)), (29, I bi)], H := [.els 1 E1, .els 1 E2, .ob (.gr 1 G1), .ob (.gr 1 G2)], nt := 351, dfs := [] }) (fun a => a = anyK f q (s + 1)) (fun rest c => ?h1) (fun rest c => ?h2) ?h3
        case h1 =>
          have hz : true = anyK f q (s + 1) := by rw [hany, c]; rfl
          cbv
          refine ops_callG hS (f := 65) (b := true) rfl rfl rfl rfl rfl rfl rfl rfl (fun h => Bool.noConfusion h) (fun _ => ?_)
          refine ops_go tokT hA hS ?_
          cbv
          refine join_at hS rest true hz ?_
          exact gs_to [0, 1, 2, 3] ⟨by decide, pre0, ⟨rfl, rfl, rfl, rfl, trivial⟩, ⟨rfl, rfl, rfl, rfl, rfl, rfl, rfl, rfl, rfl, rfl, rfl, rfl, rfl, rfl, rfl, rfl, rfl, rfl, trivial⟩, rfl, rfl⟩
        case h2 =>
          have hz : ∀ r, (0 ≤ r ↔ bi ∈ q.map fun i : Nat => (i : Int)) → A.cmp .geq r 0 = anyK f q (s + 1) := fun r h => by rw [hpl r h, hany, c]; rfl
          cbv
          refine ops_callG hS (b := false) rfl rfl rfl rfl rfl rfl rfl rfl (fun _ => ⟨[], _, [.sl 1 QL, I bi], [], [], rfl, rfl, rfl, by decide, trivial, kPlace (q.map fun i : Nat => (i : Int)) (by simp; omega) QL hQ2 bi _ fun r hr => ?_⟩) (fun h => absurd rfl h)
          have hz2 := hz r hr
          refine ops_go tokT hA hS ?_
          cbv
          refine join_at hS rest (A.cmp .geq r 0) hz2 ?_
          exact gs_to [0, 1, 2, 3] ⟨by decide, pre0, ⟨rfl, rfl, rfl, rfl, trivial⟩, ⟨rfl, rfl, rfl, rfl, rfl, rfl, rfl, rfl, rfl, rfl, rfl, rfl, rfl, rfl, rfl, rfl, rfl, rfl, trivial⟩, rfl, rfl⟩
        intro a ha
        obtain ⟨R, hR0⟩ : ∃ R, R = natD (setF P t s s) := ⟨_, rfl⟩
        obtain ⟨n0, hn0⟩ : ∃ n0, n0 = (setF P t s s).length := ⟨_, rfl⟩
        have hRl0 : R.length = n0 := by rw [hR0, natD_len, hn0]
        have hn6 : n0 ≤ 1000000 := by rw [hn0]; have := setF_len P t s s; omega
        have hRn : A.app R [I ni] = natD (setF P t s s ++ [t]) := by rw [xapp hA, hR0, hnie]; simp [natD]
        have hRnl : (A.app R [I ni]).length = A.addN n0 1 := by rw [hRn, natD_len, xaddN hA, hn0]; simp
        have hVo := w6.congr fun j _ => setF_miss hpp2 (P := PN) j
        refine code_gs hS (w5.takeB hs hR0 fun E3 G3 hT3 => ?_)
        have hE3 := hT3.get hs
        rw [← hn0] at hE3
        have gE := yget hA w2 hE3
        have hE4 : A.set E3 (A.tn bi) (.o 6 1 (A.addN n0 1)) = E3.set s (.o 6 1 (A.app R [I ni]).length) := by rw [yset hA w2 rfl, hRnl]
        refine gs_done (at_code hS ?_)
        refine wp_go tokT hA hS ?_
        cbv
        refine ⟨iN, ⟨_, gE, ?_⟩⟩
        cbv
        refine ⟨yeqLen hA hRl0, yeqLen hA rfl, yroom1 hA hn6 (by decide), iN, ⟨_, gE, ?_⟩⟩
        cbv
        refine ⟨hfb, ?_⟩
        refine hT3.putB hs (t := t) (n0 := NB) (sl := 23) rfl hRn hE4 fun E4 G4 hV4 => ?_
        have hV4 := hV4.congr fun j _ => setF_hit hpp1 (P := P) j
        refine gs_loop ((A.add bi 1, s + 1), (A.add mi 1, a), (E4, G4), (E2, G2)) [0, 1, 2, 3] ⟨hs, hw2, hmi2, ha, hV4, hVo⟩ hms2 ?_
        exact ⟨by decide, pre0, ⟨rfl, rfl, rfl, rfl, trivial⟩, ⟨rfl, rfl, rfl, rfl, rfl, rfl, rfl, rfl, rfl, rfl, rfl, rfl, rfl, rfl, rfl, rfl, rfl, rfl, trivial⟩, rfl, rfl⟩
      · obtain ⟨hpp2, hpp1⟩ := hPf0 c3
        have hmi2 := hmi0 c3
        have hany := hany0 c3
        have ha2 : an = anyK f q (s + 1) := hany.symm
        cbv
        obtain ⟨R, hR0⟩ : ∃ R, R = natD (setF PN t s s) := ⟨_, rfl⟩
        obtain ⟨n0, hn0⟩ : ∃ n0, n0 = (setF PN t s s).length := ⟨_, rfl⟩
        have hRl0 : R.length = n0 := by rw [hR0, natD_len, hn0]
        have hn6 : n0 ≤ 1000000 := by rw [hn0]; have := setF_len PN t s s; omega
        have hRn : A.app R [I ni] = natD (setF PN t s s ++ [t]) := by rw [xapp hA, hR0, hnie]; simp [natD]
        have hRnl : (A.app R [I ni]).length = A.addN n0 1 := by rw [hRn, natD_len, xaddN hA, hn0]; simp
        have hVo := w5.congr fun j _ => setF_miss hpp2 (P := P) j
        refine code_gs hS (gs_view (a := { env := [(4, .cb (.agg [I ins, .sl 1 FL, .sl 5 ML]) 0), (5, .sl 2 TL), (6, .sl 1 RL), (7, .sl 1 QL), (8, .sl 1 H1), (10, .sl 1 A1), (12, .sl 1 R1), (14, .sl 1 X1), (16, .sl 2 L1), (18, .sl 2 K1), (22, .sl 1 BL), (23, .o 0 1 NB), (24, .o 1 1 NB), (25, I ni), (26, .sl 1 OL), (27, I mi), (28, .v (.bool an)), (29, I bi)], H := [.els 1 E1, .els 1 E2, .ob (.gr 1 G1), .ob (.gr 1 G2)], nt := 351, dfs := [] }) [0, 1, 2, 3] ⟨by decide, pre0, ⟨rfl, rfl, rfl, rfl, trivial⟩, ⟨rfl, rfl, rfl, rfl, rfl, rfl, rfl, rfl, rfl, rfl, rfl, rfl, rfl, rfl, rfl, rfl, rfl, rfl, trivial⟩, rfl, rfl⟩ (w6.takeG hs hR0 fun E3 G3 hT3 => ?_))
        have hE3 := hT3.get hs
        rw [← hn0] at hE3
        have gE := yget hA w2 hE3
        have hE4 : A.set E3 (A.tn bi) (.o 6 1 (A.addN n0 1)) = E3.set s (.o 6 1 (A.app R [I ni]).length) := by rw [yset hA w2 rfl, hRnl]
        refine gs_done (at_code hS ?_)
        refine wp_go tokT hA hS ?_
        cbv
        refine ⟨iN, ⟨_, gE, ?_⟩⟩
        cbv
        refine ⟨yeqLen hA hRl0, yeqLen hA rfl, yroom1 hA hn6 (by decide), iN, ⟨_, gE, ?_⟩⟩
        cbv
        refine ⟨hfb, ?_⟩
        refine hT3.putG hs (t := t) (n0 := NB) (sl := 24) rfl hRn hE4 fun E4 G4 hV4 => ?_
        have hV4 := hV4.congr fun j _ => setF_hit hpp1 (P := PN) j
        refine gs_loop ((A.add bi 1, s + 1), (mi, an), (E1, G1), (E4, G4)) [0, 1, 2, 3] ⟨hs, hw2, hmi2, ha2, hVo, hV4⟩ hms2 ?_
        exact ⟨by decide, pre0, ⟨rfl, rfl, rfl, rfl, trivial⟩, ⟨rfl, rfl, rfl, rfl, rfl, rfl, rfl, rfl, rfl, rfl, rfl, rfl, rfl, rfl, rfl, rfl, rfl, rfl, trivial⟩, rfl, rfl⟩
    · have hs := hno2 c2
      subst hs
      have hV1 := w5.congr fun j hj => setF_row P (t := t) hj
      have hV2 := w6.congr fun j hj => setF_row PN (t := t) hj
      obtain ⟨vh, hvh⟩ : ∃ v, v = verdI (noteR j (tkHas (groupOf q) t)) := ⟨_, rfl⟩
      have gA := yget hA v2 (show A1[t]? = some (I vh) by rw [hA1, List.getElem?_map, hasJ_at j q hNe ht, hvh]; rfl)
      have iA := yinbL hA hA1l v2 ht
      obtain ⟨vm, hvm⟩ : ∃ v, v = verdI (rangeI ((endsS j (tkMix (t : Int)) 0).map fun s => moreB s.2)) := ⟨_, rfl⟩
      have gX := yget hA v2 (show X1[t]? = some (I vm) by rw [hX1, mixedJ, List.map_map, List.getElem?_map, List.getElem?_range (by omega), hvm]; rfl)
      have iX := yinbL hA hX1l v2 ht
      have hra : rightB vh an = true := by
        have h1 := htru.has md.ok (Int.natCast_nonneg t) (l := q) hq4
        have e : an = decide (∃ b ∈ q, 0 < amtT (t : Int) b truth) := by
          have h2 := anyK_iff f q s
          rw [← w4] at h2
          cases an with
          | true =>
            obtain ⟨b, -, h3, h4⟩ := h2.1 rfl
            exact (decide_eq_true ⟨b, h4, by rw [hf] at h3; exact h3⟩).symm
          | false =>
            refine (decide_eq_false fun h => ?_).symm
            obtain ⟨b, h3, h4⟩ := h
            exact Bool.noConfusion (h2.2 ⟨b, hqa.lt b h3, by rw [hf]; exact h4, h3⟩)
        rw [e, hvh]; exact h1
      have hrm2 : rightB vm (A.cmp .gtr mi 1) = true := by
        have h1 := htru.mixed md.ok (Int.natCast_nonneg t)
        have e2 : manyB (fun b => amtT (t : Int) b truth) (binsOf j.moves).length = manyB f s := by rw [← hNB, hf]
        have e : A.cmp .gtr mi 1 = decide (1 < manyB (fun b => amtT (t : Int) b truth) (binsOf j.moves).length) := by
          rw [e2, ygtD hA, w3.eq]
          exact decide_eq_decide.2 ⟨fun h => by omega, fun h => by omega⟩
        rw [e, hvm]; exact h1
      have hcall : an = true → ∀ r, (0 ≤ r ↔ ni ∈ RC) → A.cmp .lss r 0 = false := fun h r hr => by
        rw [w4, anyK_iff] at h
        obtain ⟨b, -, h3, h4⟩ := h
        rw [hf] at h3
        have h5 := htru.call md.ok md.st (n := t) (l := q) hq4 h4 h3
        refine ylssF hA (hr.2 ?_)
        rw [hRC, hnie, mem_recall j q hNe ht]; exact h5
      cbv
      refine gs_done ?_
      cbv
      refine ⟨iA, ⟨_, gA, ?_⟩⟩
      cbv
      refine ops_call hS [I vh, .v (.bool an)] [] [] rfl rfl rfl rfl rfl rfl rfl rfl (by decide) trivial (kRight vh an hra _ ?_)
      refine ops_go tokT hA hS ?_
      cbv
      refine bmF bT ?_
      cbv
      cases an with
      | true =>
        have hcl := hcall rfl
        refine ops_callG hS (b := true) rfl rfl rfl rfl rfl rfl rfl rfl (fun _ => ⟨[], _, [.sl 1 R1, I ni], [], [], rfl, rfl, rfl, by decide, trivial, kPlace RC hRCl R1 hR1 ni _ fun r hr => ?_⟩) (fun h => absurd rfl h)
        have kz := hcl r hr
        refine ops_go tokT hA hS ?_
        cbv
        refine bmF kz ?_
        cbv
        refine ⟨iX, ⟨_, gX, ?_⟩⟩
        cbv
        refine ops_callG hS (b := false) rfl rfl rfl rfl rfl rfl rfl rfl (fun _ => ⟨[], _, [I vm, .v (.bool (A.cmp .gtr mi 1))], [], [], rfl, rfl, rfl, by decide, trivial, kRight vm _ hrm2 _ ?_⟩) (fun h => absurd rfl h)
        refine ops_go tokT hA hS ?_
        cbv
        refine bmF bT ?_
        cbv
        refine ⟨hft, ?_⟩
        refine gs_loop ((A.add ni 1, t + 1), (E1, G1), (E2, G2)) [0, 1, 2, 3] ⟨ht, hv2, hV1, hV2⟩ hms ?_
        exact ⟨by decide, pre0, ⟨rfl, rfl, rfl, rfl, trivial⟩, ⟨rfl, rfl, rfl, rfl, rfl, rfl, rfl, rfl, rfl, rfl, rfl, rfl, rfl, rfl, trivial⟩, rfl, rfl⟩
      | false =>
        refine ops_callG hS (f := 65) (b := false) rfl rfl rfl rfl rfl rfl rfl rfl (fun h => Bool.noConfusion h) (fun _ => ?_)
        refine ops_go tokT hA hS ?_
        cbv
        refine ⟨iX, ⟨_, gX, ?_⟩⟩
        cbv
        refine ops_callG hS (b := false) rfl rfl rfl rfl rfl rfl rfl rfl (fun _ => ⟨[], _, [I vm, .v (.bool (A.cmp .gtr mi 1))], [], [], rfl, rfl, rfl, by decide, trivial, kRight vm _ hrm2 _ ?_⟩) (fun h => absurd rfl h)
        refine ops_go tokT hA hS ?_
        cbv
        refine bmF bT ?_
        cbv
        refine ⟨hft, ?_⟩
        refine gs_loop ((A.add ni 1, t + 1), (E1, G1), (E2, G2)) [0, 1, 2, 3] ⟨ht, hv2, hV1, hV2⟩ hms ?_
        exact ⟨by decide, pre0, ⟨rfl, rfl, rfl, rfl, trivial⟩, ⟨rfl, rfl, rfl, rfl, rfl, rfl, rfl, rfl, rfl, rfl, rfl, rfl, rfl, rfl, trivial⟩, rfl, rfl⟩
  have ht := hno c
  subst ht
  obtain ⟨BB, hBB⟩ : ∃ BB, BB = (List.range NB).map fun j => D.sl 1 (natD (setF P t 0 j)) := ⟨_, rfl⟩
  obtain ⟨BG, hBG⟩ : ∃ BG, BG = (List.range NB).map fun j => D.sl 1 (natD (setF PN t 0 j)) := ⟨_, rfl⟩
  have hBBl : BB.length = NB := by rw [hBB]; simp
  have hBGl : BG.length = NB := by rw [hBG]; simp
  obtain ⟨bs, hbs⟩ : ∃ bs, bs = binsOf j.moves := ⟨_, rfl⟩
  have hbsl : bs.length = NB := by rw [hbs, hNB]
  rw [← hbs] at hBL
  cbv
  refine gs_done ?_
  cbv
  refine at_code hS ?_
  refine wpa_loopG (α := Int × Nat) (fun z => { env := [(4, .cb (.agg [I ins, .sl 1 FL, .sl 5 ML]) 0), (6, .sl 1 RL), (16, .sl 2 L1), (18, .sl 2 K1), (22, .sl 1 BL), (23, .sl 1 BB), (24, .sl 1 BG), (32, I z.1)], H := [], nt := 351, dfs := [] })
    (fun z => n - z.2) (fun z => z.2 ≤ n ∧ IsI z.1 z.2) (0, 0) ⟨Nat.zero_le _, ⟨rfl⟩⟩ ?_ ?_
  · refine gs_view (a := { env := [(4, .cb (.agg [I ins, .sl 1 FL, .sl 5 ML]) 0), (6, .sl 1 RL), (16, .sl 2 L1), (18, .sl 2 K1), (22, .sl 1 BL), (23, .o 0 1 NB), (24, .o 1 1 NB), (32, I 0)], H := [.els 1 EB, .els 1 EG, .ob (.gr 1 GB), .ob (.gr 1 GG)], nt := 351, dfs := [] }) [0, 1, 2, 3] ⟨by decide, pre0, ⟨rfl, rfl, rfl, rfl, trivial⟩, ⟨rfl, rfl, rfl, rfl, rfl, rfl, rfl, rfl, trivial⟩, rfl, rfl⟩ ?_
    refine v3.meltB (fun es bg => ⟨by decide, pre0, ⟨rfl, rfl, rfl, rfl, trivial⟩, ⟨rfl, rfl, rfl, rfl, rfl, rfl, rfl, rfl, trivial⟩, rfl, rfl⟩) fun g1 => ?_
    rw [← hBB]
    refine v4.meltG (fun es bg => ⟨by decide, pre0, ⟨rfl, rfl, rfl, rfl, trivial⟩, ⟨rfl, rfl, rfl, rfl, rfl, rfl, rfl, rfl, trivial⟩, rfl, rfl⟩) fun g2 => ?_
    rw [← hBG]
    refine gs_frz hA [0, 1] ?_
    cbv
    repeat (refine And.intro (by first | exact yeqLen hA hBBl | exact yeqLen hA hBGl) ?_)
    exact gs_to [] ⟨by decide, pre0, trivial, ⟨rfl, rfl, rfl, rfl, rfl, rfl, rfl, rfl, trivial⟩, rfl, rfl⟩
  rintro ⟨fi, u⟩ ⟨v5, v6⟩
  dsimp only at v5 v6
  have hyes3 : A.cmp .lss fi (A.oi (A.len FL)) = true → u < n := fun c => yltL hA hFl v6 c
  refine wp_go tokT hA hS ?_
  cbv
  refine bm (fun c3 => ?_) (fun c3 => ?_)
  · have hu := hyes3 c3
    have hfie := v6.eq
    have hff := yfit1 hA v6 (by omega)
    have hv6 := ysucc hA v6
    have hms3 : n - (u + 1) < n - u := by omega
    have hlu : u < (leftJ j).length := by simp [leftJ]; have := md.n; omega
    obtain ⟨⟨lo, hi⟩, hlr⟩ : ∃ r : Int × Int, (leftJ j)[u]? = some r := ⟨_, List.getElem?_eq_getElem hlu⟩
    have hlt := htru.left hlr
    rw [← hbs] at hlt
    simp only at hlt
    rw [← hfie] at hlt
    have hkin : ∀ z, z = inL fi bs lies → lo ≤ z ∧ z ≤ hi := fun z hz => by rw [hz]; exact hlt
    clear hlt
    have gL := yget hA v6 (show L1[u]? = some (.agg [I lo, I hi]) by rw [hL1, List.getElem?_map, hlr]; rfl)
    have iL := yinbL hA hL1l v6 hu
    cbv
    refine at_code hS ?_
    refine wpa_loopG (α := (Int × Nat) × Int) (fun z => { env := [(4, .cb (.agg [I ins, .sl 1 FL, .sl 5 ML]) 0), (6, .sl 1 RL), (16, .sl 2 L1), (18, .sl 2 K1), (22, .sl 1 BL), (23, .sl 1 BB), (24, .sl 1 BG), (32, I fi), (33, I z.2), (34, I z.1.1)], H := [], nt := 351, dfs := [] })
      (fun z => NB - z.1.2) (fun z => z.1.2 ≤ NB ∧ IsI z.1.1 z.1.2 ∧ SumL fi bs lies z.1.2 z.2) ((0, 0), 0) ⟨Nat.zero_le _, ⟨rfl⟩, ⟨by simp [inL]⟩⟩ ?_ ?_
    · exact gs_to [] ⟨by decide, pre0, trivial, ⟨rfl, rfl, rfl, rfl, rfl, rfl, rfl, rfl, rfl, rfl, trivial⟩, rfl, rfl⟩
    rintro ⟨⟨bi, s⟩, x⟩ ⟨w1, w2, w3⟩
    dsimp only at w1 w2 w3
    have hyes4 : A.cmp .lss bi (A.oi (A.len RL)) = true → s < NB := fun c => yltL hA hRl w2 c
    have hno4 : A.cmp .lss bi (A.oi (A.len RL)) = false → s = NB := fun c => by have := ynltL hA hRl w2 c; omega
    refine wp_go tokT hA hS ?_
    cbv
    refine bm (fun c4 => ?_) (fun c4 => ?_)
    · have hs := hyes4 c4
      obtain ⟨bn, hbn⟩ : ∃ bn, bs[s]? = some bn := ⟨_, List.getElem?_eq_getElem (by omega)⟩
      obtain ⟨y, hy⟩ : ∃ y, y = lies.getD s 0 := ⟨_, rfl⟩
      have gB := yget hA w2 (show BL[s]? = some (I bn) by rw [hBL, List.getElem?_map, hbn]; rfl)
      have gR := yget hA w2 (by rw [hRg s hs, ← hy])
      have iB := yinbL hA hBl w2 hs
      have iR := yinbL hA hRl w2 hs
      have hfb := yfit1 hA w2 (by omega)
      have hw2 := ysucc hA w2
      have hms4 : NB - (s + 1) < NB - s := by omega
      have htk := inL_take (bin := fi) (l := lies) hbn
      have hbd := inL_bnd (bin := fi) (bs := bs.take s) (l := lies) hlB
      have hbtl : (bs.take s).length ≤ 4 := by rw [List.length_take]; omega
      have hlBs := hlB s
      rw [← hy] at htk hlBs
      have hxe := w3.eq
      have hfx : A.fits .i64 (A.add x y) := xfitE hA (xadd hA x y) (by omega)
      have hS1' : A.cmp .eql bn fi = true → SumL fi bs lies (s + 1) (A.add x y) := fun h => ⟨by
        rw [htk, if_pos (xeq hA h), xadd hA, hxe]⟩
      have hS0' : A.cmp .eql bn fi = false → SumL fi bs lies (s + 1) x := fun h => ⟨by
        rw [htk, if_neg (xneq hA h), hxe, Int.add_zero]⟩
      cbv
      refine ⟨iB, ⟨_, gB, ?_⟩⟩
      cbv
      refine bm (fun c5 => ?_) (fun c5 => ?_)
      · have hz := hS1' c5
        cbv
        refine ⟨iR, ⟨_, gR, ?_⟩⟩
        cbv
        refine ⟨hfx, hfb, ?_⟩
        refine gs_loop ((A.add bi 1, s + 1), A.add x y) [] ⟨hs, hw2, hz⟩ hms4 ?_
        exact ⟨by decide, pre0, trivial, ⟨rfl, rfl, rfl, rfl, rfl, rfl, rfl, rfl, rfl, rfl, trivial⟩, rfl, rfl⟩
      · have hz := hS0' c5
        cbv
        refine ⟨hfb, ?_⟩
        refine gs_loop ((A.add bi 1, s + 1), x) [] ⟨hs, hw2, hz⟩ hms4 ?_
        exact ⟨by decide, pre0, trivial, ⟨rfl, rfl, rfl, rfl, rfl, rfl, rfl, rfl, rfl, rfl, trivial⟩, rfl, rfl⟩
    · have hs := hno4 c4
      have hlt := hkin x (by rw [w3.eq, List.take_of_length_le (by omega)])
      cbv
      refine gs_done ?_
      cbv
      refine ⟨iL, ⟨_, gL, ?_⟩⟩
      cbv
      refine ops_call hS [.agg [I lo, I hi], I x] [] [] rfl rfl rfl rfl rfl rfl rfl rfl (by decide) trivial (kIn lo hi x hlt _ ?_)
      refine ops_go tokT hA hS ?_
      cbv
      refine bmF bT ?_
      cbv
      refine ⟨hff, ?_⟩
      refine gs_loop (A.add fi 1, u + 1) [] ⟨hu, hv6⟩ hms3 ?_
      exact ⟨by decide, pre0, trivial, ⟨rfl, rfl, rfl, rfl, rfl, rfl, rfl, rfl, trivial⟩, rfl, rfl⟩
  cbv
  refine gs_done ?_
  cbv
  refine at_code hS ?_
  refine wpa_loopG (α := Int × Nat) (fun z => { env := [(4, .cb (.agg [I ins, .sl 1 FL, .sl 5 ML]) 0), (6, .sl 1 RL), (18, .sl 2 K1), (23, .sl 1 BB), (24, .sl 1 BG), (35, I z.1)], H := [], nt := 351, dfs := [] })
    (fun z => NB - z.2) (fun z => z.2 ≤ NB ∧ IsI z.1 z.2) (0, 0) ⟨Nat.zero_le _, ⟨rfl⟩⟩ ?_ ?_
  · exact gs_to [] ⟨by decide, pre0, trivial, ⟨rfl, rfl, rfl, rfl, rfl, rfl, trivial⟩, rfl, rfl⟩
  rintro ⟨bi, s⟩ ⟨w1, w2⟩
  dsimp only at w1 w2
  have hyes5 : A.cmp .lss bi (A.oi (A.len RL)) = true → s < NB := fun c => yltL hA hRl w2 c
  refine wp_go tokT hA hS ?_
  cbv
  refine bm (fun c5 => ?_) (fun c5 => ?_)
  · have hs := hyes5 c5
    have hbie := w2.eq
    have hfb := yfit1 hA w2 (by omega)
    have hw2 := ysucc hA w2
    have hms5 : NB - (s + 1) < NB - s := by omega
    obtain ⟨XB, hXB⟩ : ∃ XB, XB = natD (setF P t 0 s) := ⟨_, rfl⟩
    obtain ⟨XG, hXG⟩ : ∃ XG, XG = natD (setF PN t 0 s) := ⟨_, rfl⟩
    have gB := yget hA w2 (show BB[s]? = some (.sl 1 XB) by rw [hBB, List.getElem?_map, List.getElem?_range hs, hXB]; rfl)
    have gG := yget hA w2 (show BG[s]? = some (.sl 1 XG) by rw [hBG, List.getElem?_map, List.getElem?_range hs, hXG]; rfl)
    have iB := yinbL hA hBBl w2 hs
    have iG := yinbL hA hBGl w2 hs
    obtain ⟨⟨lo, hi⟩, hr1, hr2⟩ := hS1.row s hs
    have hrt := htru.rest hr1
    obtain ⟨y, hy⟩ : ∃ y, y = lies.getD s 0 := ⟨_, rfl⟩
    rw [← hy] at hrt
    simp only at hrt hr2
    have gK := yget hA w2 hr2
    have iK := yinbL hA hK1l w2 hs
    have gR := yget hA w2 (by rw [hRg s hs, ← hy])
    have iR := yinbL hA hRl w2 hs
    have hsus : suspB j (groupOf (setF P t 0 s)) (groupOf (setF PN t 0 s)) s = true := by
      refine htru.susp md.ok (fun x hx => ?_) (fun x hx => ?_)
      · obtain ⟨h1, h2⟩ := setF_mem hx
        rw [hP] at h2
        exact ⟨by omega, of_decide_eq_true h2⟩
      · obtain ⟨h1, h2⟩ := setF_mem hx
        rw [hPN] at h2
        have h3 : decide (0 < amtT (x : Int) s truth) = false := by simpa using h2
        have := of_decide_eq_false h3
        exact ⟨by omega, by omega⟩
    have hsu := fun Q h => md.suspects (setF_asc P t s) (setF_asc PN t s) hXB hXG (by rw [← hNB]; exact hs) hsus Q h
    rw [← hbie] at hsu
    cbv
    refine draw_go tokT hA hS [0, 1, 2, 3, 4, 5, 6, 7, 8, 9, 10, 11, 12, 13, 14] rfl rfl fun Dk hD => ?_
    cbv
    refine ⟨iB, ⟨_, gB, ?_⟩⟩
    cbv
    refine ⟨iG, ⟨_, gG, ?_⟩⟩
    cbv
    refine draw_call hA hD [.agg [I ins, .sl 1 FL, .sl 5 ML], .sl 1 XB, .sl 1 XG] [] [] rfl rfl rfl rfl rfl rfl rfl rfl rfl rfl rfl (by decide) trivial (hsu _ fun SL sl hSL hmem hsl => ⟨by cbv; repeat' (first | exact trivial | exact rfl | exact ⟨_, gB, rfl⟩ | exact iB | exact ⟨_, gG, rfl⟩ | exact iG | refine ⟨?_, ?_⟩), draw_on tokT hA hD ?_⟩)
    have hkz : ∀ r, (0 ≤ r ↔ bi ∈ sl) → A.cmp .lss r 0 = false := fun r h => ylssF hA (h.2 hmem)
    cbv
    refine draw_go tokT hA hS [0, 1, 2, 3, 4, 5, 6, 7, 8, 9, 10, 11, 12, 13, 14, 15, 16, 17, 18, 19] rfl rfl fun Dk2 hD2 => ?_
    cbv
    refine ⟨iK, ⟨_, gK, ?_⟩⟩
    cbv
    refine ⟨iR, ⟨_, gR, ?_⟩⟩
    cbv
    refine draw_call hA hD2 [.agg [I lo, I hi], I y] [] [] rfl rfl rfl rfl rfl rfl rfl rfl rfl rfl rfl (by decide) trivial (kIn lo hi y hrt _ ⟨by cbv; repeat' (first | exact trivial | exact rfl | exact ⟨_, gK, rfl⟩ | exact iK | exact ⟨_, gR, rfl⟩ | exact iR | refine ⟨?_, ?_⟩), draw_on tokT hA hD2 ?_⟩)
    cbv
    refine bmF bT ?_
    cbv
    refine bmF n00 ?_
    cbv
    refine draw_callG hA hD2 (b := false) rfl rfl rfl rfl rfl rfl rfl rfl rfl rfl rfl (fun _ => ⟨[], _, [.sl 1 SL, I bi], [], [], rfl, rfl, rfl, by decide, trivial, kPlace sl (by omega) SL hSL bi _ fun r hr => ⟨by cbv; repeat' (first | exact trivial | exact rfl | exact ⟨_, gK, rfl⟩ | exact iK | exact ⟨_, gR, rfl⟩ | exact iR | refine ⟨?_, ?_⟩), draw_on tokT hA hD2 ?_⟩⟩) (fun h => absurd rfl h)
    have kz := hkz r hr
    cbv
    refine bmF kz ?_
    cbv
    refine ⟨hfb, ?_⟩
    refine gs_loop (A.add bi 1, s + 1) [] ⟨hs, hw2⟩ hms5 ?_
    exact ⟨by decide, pre0, trivial, ⟨rfl, rfl, rfl, rfl, rfl, rfl, trivial⟩, rfl, rfl⟩
  · cbv
    refine gs_done ?_
    cbv
    refine ops_call hS [] [] [] rfl rfl rfl rfl rfl rfl rfl rfl (by decide) trivial (lStored _ ?_)
    refine ops_go tokT hA hS ?_
    cbv
    exact gh_view [] (by decide) pre0 (H' := []) (d' := .v (.bool true)) trivial rfl (gh_done hq)
end Go.Proofs.Ytecfpfhkicapeaa
