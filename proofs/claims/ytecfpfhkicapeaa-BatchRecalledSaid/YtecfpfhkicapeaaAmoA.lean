/- Part AmoA of the proofs about the benches of the accordion maker: see the last text of the claim for what is proved. -/
import Derived.Test.YtecfpfhkicapeaaBatI
import Derived.Test.YtecfpfhkicapeaaSaysC
set_option linter.unusedVariables false
set_option linter.unusedSimpArgs false
set_option linter.unnecessarySimpa false
set_option linter.constructorNameAsVariable false

/-! T29 -/
namespace Go.Proofs.Ytecfpfhkicapeaa
open Go Go.Abs Go.Proofs Go.Batch
/-- Sums on the way. -/
structure SumI (r1 : Int) (f : Nat → Int) (t : Nat) (x : Int) : Prop where
  eq : x = r1 + sumR f t
theorem MdJ.amount {j : Jn} {ins : Int} {N n m : Nat} {FL ML : List D} (h : MdJ j ins N n m FL ML) {NB : Nat} (hNB : NB = (binsOf j.moves).length) {t b : Nat} {ti bi : Int} (ht : IsI ti t) (hb : IsI bi b) (htN : t < N) (hbN : b < NB) (Q)
    (hq : ∀ lo hi, lo = (noteR j (tkAmt (t : Int) b)).1 → hi = (noteR j (tkAmt (t : Int) b)).2 → 0 ≤ lo ∧ lo ≤ hi ∧ hi ≤ 640 → Q (RA.ret (.tup [.agg [I lo, I hi], I 0])) []) : CallA Try.prog 38 [.agg [I ins, .sl 1 FL, .sl 5 ML], I ti, I bi] [] Q := by
  have e := h.ie
  have hI := h.nI.eq
  have e1 := ht.eq
  have e2 := hb.eq
  have hy1 : 0 ≤ ti ∧ ti ≤ j.ins - 1 := by omega
  have hy2 : 0 ≤ bi ∧ bi ≤ ((binsOf j.moves).length : Int) - 1 := by omega
  subst e1
  subst e
  have hbn : bi.toNat = b := by omega
  have hnb := noteR_b h.ok h.st (tkB_amt (t : Int) b)
  refine bAmountF j h.fl h.ml _ bi FL ML h.F h.M Q (fun e h1 h2 => no_err h.c0 h1 h2) (fun _ g => absurd ⟨hy1, hy2⟩ g) (fun _ _ _ g => no_std h.st g) (fun _ _ _ _ lo hi h1 h2 => ?_)
  rw [hbn] at h1 h2
  refine hq lo hi h1 h2 ?_
  rw [h1, h2]; exact hnb
theorem verdEq1 {A : Ar} (hA : A = ar) {v x : Int} (h : v = 1 ↔ 0 < x) : A.bnot (A.beq (A.cmp .eql v 1) (A.cmp .gtr x 0)) = false := by
  subst hA
  by_cases hx : 0 < x
  · have := h.2 hx; subst this; simp [ar, cmpI, hx]
  · have : ¬ v = 1 := fun e => hx (h.1 e)
    simp [ar, cmpI, hx, this]
theorem verdEq2 {A : Ar} (hA : A = ar) {v x : Int} (h : v = 2 ↔ x = 0) : A.bnot (A.beq (A.cmp .eql v 2) (A.cmp .eql x 0)) = false := by
  have e : A.cmp .eql v 2 = A.cmp .eql x 0 := by
    subst hA
    show (v == 2) = (x == 0)
    by_cases hx : x = 0
    · rw [h.2 hx, hx]; rfl
    · rw [show (v == 2) = false from beq_eq_false_iff_ne.2 fun e => hx (h.1 e), show (x == 0) = false from beq_eq_false_iff_ne.2 hx]
  rw [e]
  subst hA
  simp [ar]
set_option maxRecDepth 40000 in
set_option maxHeartbeats 8000000 in
/-- BatchAmounts. -/
theorem wBatchAmounts (L : List D) (nums : List Int) (hL : L = nums.map I) (hl : L.length ≤ 9223372036854775807) (Q) (hq : Q (RA.ret (.v (.bool true))) []) : CallA Try.prog 9 [.sl 1 L] [] Q := by
  obtain ⟨A, hA⟩ : ∃ A, A = ar := ⟨_, rfl⟩
  have n00 : A.cmp .neq 0 0 = false := by subst hA; rfl
  refine callA_start tokT hA Try.func9 rfl rfl rfl rfl rfl fun S hS => ?_
  cbv
  refine ops_call hS [.sl 1 L] [] [] rfl rfl rfl rfl rfl rfl rfl rfl (by decide) trivial (newPotL L nums hL hl _ fun x => ?_)
  refine ops_go tokT hA hS ?_
  cbv
  refine ops_call hS [.b 0 0, I 9, I 2] [0] [pot x] rfl rfl rfl rfl rfl rfl rfl rfl (by decide) ⟨rfl, trivial⟩ (kJournalOf x 9 2 (by decide) ⟨by decide, by decide⟩ _ fun ins first ms lies truth x' FL ML TL RL hi1 hi4 hfl hm10 hmm hg _ hF hM hT hR => ?_)
  obtain ⟨j, N, n, m, hj, md⟩ := md_of hi1 hi4 hfl hm10 hg hF hM
  obtain ⟨NB, hNB⟩ : ∃ NB, NB = (binsOf j.moves).length := ⟨_, rfl⟩
  have hNB4 : NB ≤ 4 := by rw [hNB]; exact md.ok.b4
  have hN4 := md.N4
  have hm10' := md.m10
  have hMl := md.Ml
  have hNi : IsI ins N := md.nI
  have hNj : IsI j.ins N := ⟨md.ie.trans md.nI.eq⟩
  have hbins := fun Q => kBins j (by have := md.ok.m10; omega) FL ML md.M Q
  rw [md.ie] at hbins
  have hamt := fun (t b : Nat) (ti bi : Int) (ht : IsI ti t) (hb : IsI bi b) (h1 : t < N) (h2 : b < NB) Q => md.amount hNB ht hb h1 h2 Q
  have hHold := fun Q => md.holds Q
  have hRest := fun Q => md.rest Q
  refine ops_go tokT hA hS ?_
  cbv
  refine ops_gs hS (gs_frz hA [1] ?_)
  cbv
  refine gs_done ?_
  refine ops_call hS [.agg [I ins, .sl 1 FL, .sl 5 ML]] [] [] rfl rfl rfl rfl rfl rfl rfl rfl (by decide) trivial (hHold _ fun HL hHL => ?_)
  have hHT := holdT_of hNj hNB hHL
  have hHl := hHT.len
  refine ops_go tokT hA hS ?_
  cbv
  refine ops_call hS [.agg [I ins, .sl 1 FL, .sl 5 ML]] [] [] rfl rfl rfl rfl rfl rfl rfl rfl (by decide) trivial (hRest _ fun KL hKL => ?_)
  have hRT := restT_of hNB hKL
  have hKl := hRT.len
  refine ops_go tokT hA hS ?_
  cbv
  refine ops_call hS [.agg [I ins, .sl 1 FL, .sl 5 ML]] [] [] rfl rfl rfl rfl rfl rfl rfl rfl (by decide) trivial (hbins _ fun BL hBL => ?_)
  have hBl : BL.length = NB := by rw [hBL, hNB, List.length_map]
  have hl1 : A.cmp .neq (A.oi (A.len HL)) ins = false := by rw [yoiL hA hHl, hNi.eq]; subst hA; simp [ar, cmpI]
  have hl2 : A.cmp .neq (A.oi (A.len KL)) (A.oi (A.len BL)) = false := by rw [yoiL hA hKl, yoiL hA hBl]; subst hA; simp [ar, cmpI]
  refine ops_go tokT hA hS ?_
  cbv
  refine bmF n00 ?_
  cbv
  refine bmF n00 ?_
  cbv
  refine bmF hl1 ?_
  cbv
  refine bmF hl2 ?_
  cbv
  refine at_code hS ?_
  refine wpa_loopG (α := (Int × Nat) × (Int × Nat)) (fun q => { env := [(3, .cb (.agg [I ins, .sl 1 FL, .sl 5 ML]) 0), (6, .sl 1 HL), (8, .sl 2 KL), (10, .sl 1 BL), (11, I q.2.1), (12, I q.1.1)], H := [], nt := 177, dfs := [] })
    (fun q => m - q.1.2) (fun q => q.1.2 ≤ m ∧ IsI q.1.1 q.1.2 ∧ q.2.2 = comeN j q.1.2 ∧ IsI q.2.1 q.2.2) ((0, 0), (0, 0)) ⟨Nat.zero_le _, ⟨rfl⟩, (comeN_0 j).symm, ⟨rfl⟩⟩ ?_ ?_
  · exact gs_to [] ⟨by decide, pre0, trivial, ⟨rfl, rfl, rfl, rfl, rfl, rfl, trivial⟩, rfl, rfl⟩
  rintro ⟨⟨i, k⟩, ⟨at_, b⟩⟩ ⟨u1, u2, u3, u4⟩
  dsimp only at u1 u2 u3 u4
  have hyes : A.cmp .lss i (A.oi (A.len ML)) = true → ∃ mv, j.moves[k]? = some mv ∧ k < m := fun c => by
    have := yltL hA hMl u2 c
    exact ⟨_, List.getElem?_eq_getElem (by rw [md.m]; exact this), this⟩
  have hff := fun h => yfit1 hA u2 h
  have hu2 := ysucc hA u2
  refine wp_go tokT hA hS ?_
  cbv
  refine bm (fun c => ?_) (fun c => ?_)
  · obtain ⟨mv, hmv, hk⟩ := hyes c
    have hMk : ML[k]? = some (.agg [I mv.kind, I mv.bin, I mv.inst, I mv.lo, I mv.hi]) := by rw [md.M, List.getElem?_map, hmv]; rfl
    have hin := yinbL hA hMl u2 hk
    have hgM := yget hA u2 hMk
    have hfi := hff (by omega)
    have hms : m - (k + 1) < m - k := by omega
    have hcs := comeN_succ hmv
    cbv
    refine ⟨hin, ⟨_, hgM, ?_⟩⟩
    cbv
    refine bm (fun c2 => ?_) (fun c2 => ?_)
    · have hb2 : b = comeN j (k + 1) := by rw [hcs, if_neg (xne hA c2), u3]; rfl
      cbv
      refine ⟨hfi, ?_⟩
      refine gs_loop ((A.add i 1, k + 1), (at_, b)) [] ⟨hk, hu2, hb2, u4⟩ hms ?_
      exact ⟨by decide, pre0, trivial, ⟨rfl, rfl, rfl, rfl, rfl, rfl, trivial⟩, rfl, rfl⟩
    · have hk1 := xnne hA c2
      have hb2 : b + 1 = comeN j (k + 1) := by rw [hcs, if_pos hk1, u3]
      have hbN : b < NB := by rw [u3, hNB]; exact come_lt hmv hk1
      obtain ⟨r, hr1, hr2⟩ := hRT.row b hbN
      have hrb := rest_b md.ok md.st hr1
      have hsum := amounts_sum md.ok md.st (N := N) hNj.eq (m := mv) (by rw [u3]; exact insM_at hmv hk1) hr1
      obtain ⟨r1, r2⟩ := r
      dsimp only at hr2 hrb hsum
      obtain ⟨mlo, hmlo⟩ : ∃ x, x = mv.lo := ⟨_, rfl⟩
      obtain ⟨mhi, hmhi⟩ : ∃ x, x = mv.hi := ⟨_, rfl⟩
      obtain ⟨fl, hfl'⟩ : ∃ f : Nat → Int, f = fun n : Nat => (noteR j (tkAmt (n : Int) b)).1 := ⟨_, rfl⟩
      obtain ⟨fh, hfh⟩ : ∃ f : Nat → Int, f = fun n : Nat => (noteR j (tkAmt (n : Int) b)).2 := ⟨_, rfl⟩
      rw [← hfl', ← hfh, ← hmlo, ← hmhi] at hsum
      rw [← hmlo, ← hmhi] at hgM
      have hbd : ∀ t, t ≤ 4 → 0 ≤ sumR fl t ∧ sumR fl t ≤ 2560 ∧ 0 ≤ sumR fh t ∧ sumR fh t ≤ 2560 := fun t ht => by
        have g1 := sumR_bd (f := fl) (K := 640) t fun i _ => by have := noteR_b md.ok md.st (tkB_amt (i : Int) b); rw [hfl']; dsimp only; omega
        have g2 := sumR_bd (f := fh) (K := 640) t fun i _ => by have := noteR_b md.ok md.st (tkB_amt (i : Int) b); rw [hfh]; dsimp only; omega
        omega
      have iK := yinbL hA hKl u4 hbN
      have gK := yget hA u4 hr2
      have hfa := yfit1 hA u4 (by omega)
      have hu4 := ysucc hA u4
      cbv
      refine draw_go tokT hA hS [0, 1, 2, 3, 4, 5, 6, 7, 8, 9, 10, 11] rfl rfl fun Dk hD => ?_
      cbv
      refine ⟨iK, ⟨_, gK, ?_⟩⟩
      cbv
      refine ⟨iK, ⟨_, gK, ?_⟩⟩
      cbv
      refine at_code hS ?_
      refine wpa_loopG (α := (Int × Nat) × (Int × Int)) (fun q => { env := [(3, .cb (.agg [I ins, .sl 1 FL, .sl 5 ML]) 0), (6, .sl 1 HL), (8, .sl 2 KL), (10, .sl 1 BL), (11, I at_), (12, I i), (13, I q.2.1), (14, I q.2.2), (15, I q.1.1)], H := [], nt := 177, dfs := [] })
        (fun q => N - q.1.2) (fun q => q.1.2 ≤ N ∧ IsI q.1.1 q.1.2 ∧ SumI r1 fl q.1.2 q.2.1 ∧ SumI r2 fh q.1.2 q.2.2) ((0, 0), (r1, r2)) ⟨Nat.zero_le _, ⟨rfl⟩, ⟨(Int.add_zero _).symm⟩, ⟨(Int.add_zero _).symm⟩⟩ ?_ ?_
      · exact gs_to [] ⟨by decide, pre0, trivial, ⟨rfl, rfl, rfl, rfl, rfl, rfl, rfl, rfl, rfl, trivial⟩, rfl, rfl⟩
      rintro ⟨⟨ni, t⟩, ⟨le, mo⟩⟩ ⟨v1, v2, v3, v4⟩
      dsimp only at v1 v2 v3 v4
      have hyes2 : A.cmp .lss ni ins = true → t < N := fun c => by have := xlt hA c; have := hNi.eq; have := v2.eq; omega
      have hno2 : A.cmp .lss ni ins = false → t = N := fun c => by have := xnlt hA c; have := hNi.eq; have := v2.eq; omega
      refine wp_go tokT hA hS ?_
      cbv
      refine bm (fun c3 => ?_) (fun c3 => ?_)
      · have ht := hyes2 c3
        have hms2 : N - (t + 1) < N - t := by omega
        obtain ⟨R, hR1, hR2, hR3⟩ := hHT.row t ht
        obtain ⟨v, hv⟩ : ∃ v, v = verdI (noteR j (tkAmt (t : Int) b)) := ⟨_, rfl⟩
        have hR4 := hR3 b hbN
        rw [← hv] at hR4
        have iH := yinbL hA hHl v2 ht
        have gH := yget hA v2 hR1
        have iR := yinbL hA hR2 u4 hbN
        have gR := yget hA u4 hR4
        have hlR : A.cmp .neq (A.oi (A.len R)) (A.oi (A.len BL)) = false := by rw [yoiL hA hR2, yoiL hA hBl]; subst hA; simp [ar, cmpI]
        have hft := yfit1 hA v2 (by omega)
        have hv2 := ysucc hA v2
        have hb0 := hbd t (by omega)
        have hb1 := hbd (t + 1) (by omega)
        have hv1 := (verd1 (noteR j (tkAmt (t : Int) b)))
        have hv2' := (verd2 (noteR_le md.st (tkAmt (t : Int) b)))
        rw [← hv] at hv1 hv2'
        have e3 := v3.eq
        have e4 := v4.eq
        have key : ∀ lo hi, lo = (noteR j (tkAmt (t : Int) b)).1 → hi = (noteR j (tkAmt (t : Int) b)).2 → 0 ≤ lo ∧ lo ≤ hi ∧ hi ≤ 640 →
            A.bnot (A.beq (A.cmp .eql v 1) (A.cmp .gtr lo 0)) = false ∧ A.bnot (A.beq (A.cmp .eql v 2) (A.cmp .eql hi 0)) = false ∧ A.cmp .lss lo 0 = false ∧ A.cmp .gtr lo hi = false ∧ A.fits .i64 (A.add le lo) ∧ A.fits .i64 (A.add mo hi) ∧ SumI r1 fl (t + 1) (A.add le lo) ∧ SumI r2 fh (t + 1) (A.add mo hi) := fun lo hi h1 h2 h3 => by
          have g1 : fl t = lo := by rw [hfl', h1]
          have g2 : fh t = hi := by rw [hfh, h2]
          rw [← h1] at hv1
          rw [← h2] at hv2'
          have s1 : sumR fl (t + 1) = sumR fl t + lo := by rw [← g1]; rfl
          have s2 : sumR fh (t + 1) = sumR fh t + hi := by rw [← g2]; rfl
          have a1 := xadd hA le lo
          have a2 := xadd hA mo hi
          refine ⟨?_, ?_, ?_, ?_, xfitE hA a1 (by omega), xfitE hA a2 (by omega), ⟨by omega⟩, ⟨by omega⟩⟩
          · exact verdEq1 hA hv1
          · exact verdEq2 hA hv2'
          · subst hA; simp [ar, cmpI]; exact h3.1
          · subst hA; simp [ar, cmpI]; exact h3.2.1
        cbv
        refine ops_call hS [.agg [I ins, .sl 1 FL, .sl 5 ML], I ni, I at_] [] [] rfl rfl rfl rfl rfl rfl rfl rfl (by decide) trivial (hamt t b ni at_ v2 u4 ht hbN _ fun lo hi h1 h2 h3 => ?_)
        obtain ⟨k1, k2, k3, k4, k5, k6, k7, k8⟩ := key lo hi h1 h2 h3
        refine ops_go tokT hA hS ?_
        cbv
        refine draw_go tokT hA hS [0, 1, 2, 3, 4, 5, 6, 7, 8, 9, 10, 11, 12, 13, 14, 15, 16, 17, 18, 19, 20, 21, 22, 23, 24, 25, 26, 27, 28, 29, 30, 31, 32, 33, 34, 35, 36, 37, 38, 39, 40, 41, 42, 43, 44, 45, 46, 47, 48, 49, 50, 51] rfl rfl fun Dk2 hD2 => ?_
        cbv
        refine bmF n00 ?_
        cbv
        refine ⟨iH, ⟨_, gH, ?_⟩⟩
        cbv
        refine bmF hlR ?_
        cbv
        refine ⟨iH, ⟨_, gH, ?_⟩⟩
        cbv
        refine ⟨iR, ⟨_, gR, ?_⟩⟩
        cbv
        refine bmF k1 ?_
        cbv
        refine ⟨iH, ⟨_, gH, ?_⟩⟩
        cbv
        refine ⟨iR, ⟨_, gR, ?_⟩⟩
        cbv
        refine bmF k2 ?_
        cbv
        refine bmF k3 ?_
        cbv
        refine bmF k4 ?_
        cbv
        refine draw_go tokT hA hS [0, 1, 2, 3, 4, 5, 6, 7, 8, 9] rfl rfl fun Dk3 hD3 => ?_
        cbv
        refine ⟨k5, k6, hft, ?_⟩
        refine gs_loop ((A.add ni 1, t + 1), (A.add le lo, A.add mo hi)) [] ⟨ht, hv2, k7, k8⟩ hms2 ?_
        exact ⟨by decide, pre0, trivial, ⟨rfl, rfl, rfl, rfl, rfl, rfl, rfl, rfl, rfl, trivial⟩, rfl, rfl⟩
      · have ht := hno2 c3
        have e3 : le = r1 + sumR fl N := by rw [← ht]; exact v3.eq
        have e4 : mo = r2 + sumR fh N := by rw [← ht]; exact v4.eq
        have z1 : A.cmp .gtr le mhi = false := by
          have : le ≤ mhi := by omega
          subst hA; simp [ar, cmpI]; exact this
        have z2 : A.cmp .lss mo mlo = false := by
          have : mlo ≤ mo := by omega
          subst hA; simp [ar, cmpI]; exact this
        cbv
        refine gs_done ?_
        cbv
        refine ⟨hin, ⟨_, hgM, ?_⟩⟩
        cbv
        refine bmF z1 ?_
        cbv
        refine ⟨hin, ⟨_, hgM, ?_⟩⟩
        cbv
        refine bmF z2 ?_
        cbv
        refine ⟨hfa, hfi, ?_⟩
        refine gs_loop ((A.add i 1, k + 1), (A.add at_ 1, b + 1)) [] ⟨hk, hu2, hb2, hu4⟩ hms ?_
        exact ⟨by decide, pre0, trivial, ⟨rfl, rfl, rfl, rfl, rfl, rfl, trivial⟩, rfl, rfl⟩
  · cbv
    refine gs_done ?_
    cbv
    refine ops_call hS [] [] [] rfl rfl rfl rfl rfl rfl rfl rfl (by decide) trivial (lStored _ ?_)
    refine ops_go tokT hA hS ?_
    cbv
    exact gh_view [] (by decide) pre0 (H' := []) (d' := .v (.bool true)) trivial rfl (gh_done hq)
end Go.Proofs.Ytecfpfhkicapeaa
