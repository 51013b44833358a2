/- Part RecA of the proofs about the benches of the accordion maker: see the last text of the claim for what is proved. -/
import Derived.Test.YtecfpfhkicapeaaBatJ
import Derived.Test.YtecfpfhkicapeaaAmoA
set_option linter.unusedVariables false
set_option linter.unusedSimpArgs false
set_option linter.unnecessarySimpa false
set_option linter.constructorNameAsVariable false

/-! T32 -/
namespace Go.Proofs.Ytecfpfhkicapeaa
open Go Go.Abs Go.Proofs Go.Batch
/-- Whether one of the first numbers is above 0. -/
def mayB (f : Nat → Int) : Nat → Bool
  | 0 => false
  | k + 1 => mayB f k || decide (0 < f k)
theorem mayB_iff (f : Nat → Int) : ∀ k, mayB f k = true ↔ ∃ i, i < k ∧ 0 < f i
  | 0 => by simp [mayB]
  | k + 1 => by
    simp only [mayB, Bool.or_eq_true, decide_eq_true_eq, mayB_iff f k]
    constructor
    · rintro (⟨i, h1, h2⟩ | h)
      · exact ⟨i, by omega, h2⟩
      · exact ⟨k, by omega, h⟩
    · rintro ⟨i, h1, h2⟩
      by_cases e : i = k
      · subst e; exact .inr h2
      · exact .inl ⟨i, by omega, h2⟩
theorem verdEq3 {A : Ar} (hA : A = ar) {v r : Int} (h : 0 ≤ r ↔ v ≠ 2) : A.bnot (A.beq (A.cmp .eql v 2) (A.cmp .lss r 0)) = false := by
  have e : A.cmp .eql v 2 = A.cmp .lss r 0 := by
    subst hA
    show (v == 2) = decide (r < 0)
    by_cases hv : v = 2
    · have : r < 0 := Int.not_le.1 fun g => h.1 g hv
      rw [hv, decide_eq_true this]; rfl
    · have : ¬ r < 0 := Int.not_lt.2 (h.2 hv)
      rw [decide_eq_false this]; exact beq_eq_false_iff_ne.2 hv
  rw [e]
  subst hA
  simp [ar]
/-- A number at a place of the called back. -/
structure AtC (P : Nat → Bool) (t : Nat) (a : Nat) : Prop where
  eq : a = ((List.range t).filter P).length
set_option maxRecDepth 40000 in
set_option maxHeartbeats 8000000 in
/-- BatchRecalled. -/
theorem wBatchRecalled (L : List D) (nums : List Int) (hL : L = nums.map I) (hl : L.length ≤ 9223372036854775807) (Q) (hq : Q (RA.ret (.v (.bool true))) []) : CallA Try.prog 14 [.sl 1 L] [] Q := by
  obtain ⟨A, hA⟩ : ∃ A, A = ar := ⟨_, rfl⟩
  have n00 : A.cmp .neq 0 0 = false := by subst hA; rfl
  refine callA_start tokT hA Try.func14 rfl rfl rfl rfl rfl fun S hS => ?_
  cbv
  refine ops_call hS [.sl 1 L] [] [] rfl rfl rfl rfl rfl rfl rfl rfl (by decide) trivial (newPotL L nums hL hl _ fun x => ?_)
  refine ops_go tokT hA hS ?_
  cbv
  refine ops_call hS [.b 0 0, I 8, I 1] [0] [pot x] rfl rfl rfl rfl rfl rfl rfl rfl (by decide) ⟨rfl, trivial⟩ (kJournalOf x 8 1 (by decide) ⟨by decide, by decide⟩ _ fun ins first ms lies truth x' FL ML TL RL hi1 hi4 hfl hm10 hmm hg _ hF hM hT hR => ?_)
  obtain ⟨j, N, n, m, hj, md⟩ := md_of hi1 hi4 hfl hm10 hg hF hM
  obtain ⟨NB, hNB⟩ : ∃ NB, NB = (binsOf j.moves).length := ⟨_, rfl⟩
  have hNB4 : NB ≤ 4 := by rw [hNB]; exact md.ok.b4
  have hRl : RL.length = NB := by rw [hR, hNB, hj]; simp; have := hg.l.len; have := hg.b4; omega
  have hN4 := md.N4
  have hNi : IsI ins N := md.nI
  have hNj : j.ins = N := md.ie.trans md.nI.eq
  have hjt : j.ins.toNat = N := by omega
  have hamt := fun (t b : Nat) (ti bi : Int) (ht : IsI ti t) (hb : IsI bi b) (h1 : t < N) (h2 : b < NB) Q => md.amount hNB ht hb h1 h2 Q
  have hrec := fun (l : List Nat) (hl : Asc NB l) (XL : List D) (hX : XL = natD l) Q => md.recall hNB hl hX Q
  have hhas := fun (l : List Nat) (hl : Asc NB l) (XL : List D) (hX : XL = natD l) Q => md.has hNB hl hX Q
  have hRI : IsI (A.oi (A.len RL)) NB := ⟨yoiL hA hRl⟩
  refine ops_go tokT hA hS ?_
  cbv
  refine ops_gs hS (gs_frz hA [1] ?_)
  cbv
  refine gs_done ?_
  refine ops_call hS [.b 0 0, I (A.oi (A.len RL))] [0] [pot x'] rfl rfl rfl rfl rfl rfl rfl rfl (by decide) ⟨rfl, trivial⟩ (kPick x' _ NB hRI (by omega) _ fun q QL x2 hqa hQ => ?_)
  have hQl : QL.length = q.length := by rw [hQ]; simp [natD]
  have hql := hqa.len
  refine ops_go tokT hA hS ?_
  cbv
  refine at_code hS ?_
  refine wpa_loopG (α := Int × Nat × Int × List Nat × Nat × List D) (fun s => { env := [(3, .b 0 0), (4, .cb (.agg [I ins, .sl 1 FL, .sl 5 ML]) 0), (6, .sl 1 RL), (7, .sl 1 QL), (8, .o 1 1 s.2.2.2.2.1), (9, .v (.slice none 0 0)), (10, I s.1)], H := [pot s.2.2.1, .els 1 s.2.2.2.2.2], nt := 179, dfs := [] })
    (fun s => q.length - s.2.1) (fun s => s.2.1 ≤ q.length ∧ IsI s.1 s.2.1 ∧ s.2.2.2.1.Sublist (q.take s.2.1) ∧ s.2.2.2.2.1 = s.2.2.2.1.length ∧ s.2.2.2.2.2 = natD s.2.2.2.1) (0, 0, x2, [], 0, []) ⟨Nat.zero_le _, ⟨rfl⟩, List.nil_sublist _, rfl, rfl⟩ ?_ ?_
  · refine gs_virt 8 1 rfl ?_
    exact gs_to [0, 2] ⟨by decide, pre0, ⟨rfl, rfl, trivial⟩, ⟨rfl, rfl, rfl, rfl, rfl, rfl, rfl, trivial⟩, rfl, rfl⟩
  rintro ⟨i, k, y, s, c, SL⟩ ⟨u1, u2, u3, u4, u5⟩
  dsimp only at u1 u2 u3 u4 u5
  have hSl : SL.length = c := by rw [u5, u4]; simp [natD]
  have hc6 : c ≤ 1000000 := by rw [u4]; have := u3.length_le; simp at this; omega
  have hyes : A.cmp .lss i (A.oi (A.len QL)) = true → k < q.length := fun c => yltL hA hQl u2 c
  have hno : A.cmp .lss i (A.oi (A.len QL)) = false → k = q.length := fun c => by have := ynltL hA hQl u2 c; omega
  refine wp_go tokT hA hS ?_
  cbv
  refine bm (fun c1 => ?_) (fun c1 => ?_)
  · have hk := hyes c1
    obtain ⟨e, he⟩ : ∃ e, q[k]? = some e := ⟨_, List.getElem?_eq_getElem hk⟩
    obtain ⟨eI, heI⟩ : ∃ z : Int, z = (e : Nat) := ⟨_, rfl⟩
    have gQ := yget hA u2 (show QL[k]? = some (I eI) by rw [hQ, heI]; simp [natD, he])
    have iQ := yinbL hA hQl u2 hk
    have hf1 := yfit1 hA u2 (by omega)
    have hu2 := ysucc hA u2
    have hms : q.length - (k + 1) < q.length - k := by omega
    have htk : q.take (k + 1) = q.take k ++ [e] := by rw [List.take_add_one, he]; rfl
    have hs1 : (s ++ [e]).Sublist (q.take (k + 1)) := by rw [htk]; exact u3.append (List.Sublist.refl _)
    have hs2 : s.Sublist (q.take (k + 1)) := by rw [htk]; exact u3.trans (List.sublist_append_left _ _)
    have hc1 : A.addN c 1 = (s ++ [e]).length := by rw [xaddN hA, u4]; simp
    have hL1 : A.app SL [I eI] = natD (s ++ [e]) := by rw [xapp hA, u5, heI]; simp [natD]
    cbv
    refine ops_call hS [.b 0 0, I 1, I 2] [0] [pot y] rfl rfl rfl rfl rfl rfl rfl rfl (by decide) ⟨rfl, trivial⟩ (odds y 1 2 (by omega) _ fun b y' => ?_)
    cases b with
    | true =>
      refine ops_go tokT hA hS ?_
      cbv
      refine ⟨iQ, ⟨_, gQ, ?_⟩⟩
      cbv
      refine ⟨yeqLen hA hSl, yeqLen hA rfl, yroom1 hA hc6 (by decide), hf1, ?_⟩
      refine gs_loop (A.add i 1, k + 1, y', s ++ [e], A.addN c 1, A.app SL [I eI]) [0, 3] ⟨hk, hu2, hs1, hc1, hL1⟩ hms ?_
      exact ⟨by decide, pre0, ⟨rfl, rfl, trivial⟩, ⟨rfl, rfl, rfl, rfl, rfl, rfl, rfl, trivial⟩, rfl, rfl⟩
    | false =>
      refine ops_go tokT hA hS ?_
      cbv
      refine ⟨hf1, ?_⟩
      refine gs_loop (A.add i 1, k + 1, y', s, c, SL) [0, 1] ⟨hk, hu2, hs2, u4, u5⟩ hms ?_
      exact ⟨by decide, pre0, ⟨rfl, rfl, trivial⟩, ⟨rfl, rfl, rfl, rfl, rfl, rfl, rfl, trivial⟩, rfl, rfl⟩
  have hk := hno c1
  have hsq : s.Sublist q := by rw [hk, List.take_length] at u3; exact u3
  have hsa : Asc NB s := hqa.sub hsq
  clear u3
  cbv
  refine gs_done ?_
  cbv
  refine at_code hS ?_
  refine wpa_loopG (α := Int × Nat × Nat × List D) (fun z => { env := [(4, .cb (.agg [I ins, .sl 1 FL, .sl 5 ML]) 0), (6, .sl 1 RL), (7, .sl 1 QL), (8, .sl 1 SL), (9, .o 0 1 z.2.2.1), (11, I z.1)], H := [.els 1 z.2.2.2], nt := 179, dfs := [] })
    (fun z => NB - z.2.1) (fun z => z.2.1 ≤ NB ∧ IsI z.1 z.2.1 ∧ z.2.2.1 = z.2.1 ∧ z.2.2.2 = natD (List.range z.2.1)) (0, 0, 0, []) ⟨Nat.zero_le _, ⟨rfl⟩, rfl, rfl⟩ ?_ ?_
  · refine gs_frz hA [1] ?_
    cbv
    refine ⟨yeqLen hA hSl, ?_⟩
    refine gs_virt 9 1 rfl ?_
    exact gs_to [2] ⟨by decide, pre0, ⟨rfl, trivial⟩, ⟨rfl, rfl, rfl, rfl, rfl, rfl, trivial⟩, rfl, rfl⟩
  rintro ⟨bi, b, ca, AL⟩ ⟨v1, v2, v3, v4⟩
  dsimp only at v1 v2 v3 v4
  have hAl : AL.length = ca := by rw [v4, v3]; simp [natD]
  have hyes2 : A.cmp .lss bi (A.oi (A.len RL)) = true → b < NB := fun c => yltL hA hRl v2 c
  have hno2 : A.cmp .lss bi (A.oi (A.len RL)) = false → b = NB := fun c => by have := ynltL hA hRl v2 c; omega
  have hca6 : ca ≤ 1000000 := by omega
  refine wp_go tokT hA hS ?_
  cbv
  refine bm (fun c2 => ?_) (fun c2 => ?_)
  · have hb := hyes2 c2
    have hf1 := yfit1 hA v2 (by omega)
    have hv2 := ysucc hA v2
    have hms : NB - (b + 1) < NB - b := by omega
    have hc1 : A.addN ca 1 = b + 1 := by rw [xaddN hA, v3]
    have hL1 : A.app AL [I bi] = natD (List.range (b + 1)) := by rw [xapp hA, v4, v2.eq, List.range_succ]; simp [natD]
    cbv
    refine ⟨yeqLen hA hAl, yeqLen hA rfl, yroom1 hA hca6 (by decide), hf1, ?_⟩
    refine gs_loop (A.add bi 1, b + 1, A.addN ca 1, A.app AL [I bi]) [2] ⟨hb, hv2, hc1, hL1⟩ hms ?_
    exact ⟨by decide, pre0, ⟨rfl, trivial⟩, ⟨rfl, rfl, rfl, rfl, rfl, rfl, trivial⟩, rfl, rfl⟩
  have hb := hno2 c2
  have hAa : AL = natD (List.range NB) := by rw [v4, hb]
  obtain ⟨P, hP⟩ : ∃ P, P = callB j (List.range NB) := ⟨_, rfl⟩
  obtain ⟨C, hC⟩ : ∃ C, C = recallJ j (List.range NB) := ⟨_, rfl⟩
  obtain ⟨RB, hRB⟩ : ∃ RB, RB = recallJ j q := ⟨_, rfl⟩
  obtain ⟨RA', hRA⟩ : ∃ RA', RA' = recallJ j s := ⟨_, rfl⟩
  obtain ⟨HV, hHV⟩ : ∃ HV, HV = hasJ j q := ⟨_, rfl⟩
  have hC2 : C = ((List.range N).filter P).map fun i : Nat => (i : Int) := by rw [hC, recallJ_eq, hjt, hP]
  have hCl : C.length ≤ 4 := by rw [hC2, List.length_map]; have := List.length_filter_le P (List.range N); rw [List.length_range] at this; omega
  have hRAl : RA'.length ≤ 1000000 := by rw [hRA, recallJ_eq, List.length_map, hjt]; have := List.length_filter_le (callB j s) (List.range N); rw [List.length_range] at this; omega
  have hRBl : RB.length ≤ 1000000 := by rw [hRB, recallJ_eq, List.length_map, hjt]; have := List.length_filter_le (callB j q) (List.range N); rw [List.length_range] at this; omega
  have hHVl : HV.length = N := by rw [hHV]; simp [hasJ, hjt]
  have hq4 : ∀ x ∈ q, x < 4 := fun x hx => by have := hqa.lt x hx; omega
  have hlenC : A.cmp .neq (A.oi N) ins = false := by have := hNi.eq; subst hA; simp [ar, cmpI]; omega
  cbv
  refine gs_done ?_
  cbv
  refine ops_gs hS (gs_frz hA [0] ?_)
  cbv
  refine ⟨yeqLen hA hAl, ?_⟩
  refine gs_done ?_
  refine ops_call hS [.agg [I ins, .sl 1 FL, .sl 5 ML], .sl 1 SL] [] [] rfl rfl rfl rfl rfl rfl rfl rfl (by decide) trivial (hrec s hsa SL u5 _ fun R1 hR1 => ?_)
  rw [← hRA] at hR1
  refine ops_go tokT hA hS ?_
  cbv
  refine ops_call hS [.agg [I ins, .sl 1 FL, .sl 5 ML], .sl 1 QL] [] [] rfl rfl rfl rfl rfl rfl rfl rfl (by decide) trivial (hrec q hqa QL hQ _ fun R2 hR2 => ?_)
  rw [← hRB] at hR2
  refine ops_go tokT hA hS ?_
  cbv
  refine ops_call hS [.agg [I ins, .sl 1 FL, .sl 5 ML], .sl 1 AL] [] [] rfl rfl rfl rfl rfl rfl rfl rfl (by decide) trivial (hrec (List.range NB) (asc_range NB) AL hAa _ fun R3 hR3 => ?_)
  rw [← hC] at hR3
  have hR3l : R3.length = C.length := by rw [hR3, List.length_map]
  refine ops_go tokT hA hS ?_
  cbv
  refine ops_call hS [.agg [I ins, .sl 1 FL, .sl 5 ML], .sl 1 QL] [] [] rfl rfl rfl rfl rfl rfl rfl rfl (by decide) trivial (hhas q hqa QL hQ _ fun H1 hH1 => ?_)
  rw [← hHV] at hH1
  have hH1l : H1.length = N := by rw [hH1, List.length_map, hHVl]
  have hl1 : A.cmp .neq (A.oi (A.len H1)) ins = false := by rw [xlen hA hH1l]; exact hlenC
  refine ops_go tokT hA hS ?_
  cbv
  refine bmF n00 ?_
  cbv
  refine bmF n00 ?_
  cbv
  refine bmF n00 ?_
  cbv
  refine bmF n00 ?_
  cbv
  refine bmF hl1 ?_
  cbv
  refine at_code hS ?_
  refine wpa_loopG (α := (Int × Nat) × (Int × Nat)) (fun z => { env := [(4, .cb (.agg [I ins, .sl 1 FL, .sl 5 ML]) 0), (6, .sl 1 RL), (12, .sl 1 R1), (14, .sl 1 R2), (16, .sl 1 R3), (18, .sl 1 H1), (20, I z.2.1), (21, I z.1.1)], H := [], nt := 179, dfs := [] })
    (fun z => N - z.1.2) (fun z => z.1.2 ≤ N ∧ IsI z.1.1 z.1.2 ∧ IsI z.2.1 z.2.2 ∧ AtC P z.1.2 z.2.2) ((0, 0), (0, 0)) ⟨Nat.zero_le _, ⟨rfl⟩, ⟨rfl⟩, ⟨rfl⟩⟩ ?_ ?_
  · exact gs_to [] ⟨by decide, pre0, trivial, ⟨rfl, rfl, rfl, rfl, rfl, rfl, rfl, rfl, trivial⟩, rfl, rfl⟩
  rintro ⟨⟨ni, t⟩, ⟨ai, a⟩⟩ ⟨w1, w2, w3, w4⟩
  dsimp only at w1 w2 w3 w4
  have hyes3 : A.cmp .lss ni ins = true → t < N := fun c => by have := xlt hA c; have := hNi.eq; have := w2.eq; omega
  have hno3 : A.cmp .lss ni ins = false → t = N := fun c => by have := xnlt hA c; have := hNi.eq; have := w2.eq; omega
  refine wp_go tokT hA hS ?_
  cbv
  refine bm (fun c3 => ?_) (fun c3 => ?_)
  · have ht := hyes3 c3
    obtain ⟨v, hv⟩ : ∃ v, v = verdI (noteR j (tkHas (groupOf q) t)) := ⟨_, rfl⟩
    have gH := yget hA w2 (show H1[t]? = some (I v) by rw [hH1, hHV, List.getElem?_map, hasJ_at j q hNj ht, hv]; rfl)
    have iH := yinbL hA hH1l w2 ht
    have hft := yfit1 hA w2 (by omega)
    have hw2 := ysucc hA w2
    have hms3 : N - (t + 1) < N - t := by omega
    have hnie := w2.eq
    have hcb : callB j q t = decide (v ≠ 2) := by rw [hv]; rfl
    have key1 : ∀ r1 r2, (0 ≤ r1 ↔ ni ∈ RA') → (0 ≤ r2 ↔ ni ∈ RB) → A.cmp .geq r1 0 = true → A.cmp .lss r2 0 = false := fun r1 r2 h1 h2 h3 => by
      have h4 := h1.1 (xge hA h3)
      rw [hRA, hnie, mem_recall j s hNj ht] at h4
      have h5 := call_mono md.ok md.st hq4 (fun x hx => hsq.subset hx) h4
      have h6 : 0 ≤ r2 := h2.2 (by rw [hRB, hnie, mem_recall j q hNj ht]; exact h5)
      subst hA; simp [ar, cmpI]; exact h6
    have key2 : ∀ r3, (0 ≤ r3 ↔ ni ∈ RB) → A.bnot (A.beq (A.cmp .eql v 2) (A.cmp .lss r3 0)) = false := fun r3 h3 => by
      rw [hRB, hnie, mem_recall j q hNj ht, hcb, decide_eq_true_eq] at h3
      exact verdEq3 hA h3
    obtain ⟨fm, hfm⟩ : ∃ fm : Nat → Int, fm = fun k : Nat => (noteR j (tkAmt (t : Int) k)).2 := ⟨_, rfl⟩
    have hPt : ∀ b : Bool, b = mayB fm NB → P t = b := fun b hb => by
      rw [hb]
      have h1 := mayB_iff fm NB
      have h2 := call_all md.ok md.st t
      rw [← hNB, ← hP] at h2
      rw [hfm] at h1 ⊢
      cases e1 : P t <;> cases e2 : mayB (fun k : Nat => (noteR j (tkAmt (t : Int) k)).2) NB
      · rfl
      · exact absurd (h2.2 (h1.1 e2)) (by rw [e1]; exact Bool.false_ne_true)
      · exact absurd (h1.2 (h2.1 e1)) (by rw [e2]; exact Bool.false_ne_true)
      · rfl
    have hae := w4.eq
    have hsuc := filter_succ P t
    have hstep1 : P t = true → AtC P (t + 1) (a + 1) := fun h => ⟨by rw [hsuc, if_pos h, hae]⟩
    have hstep0 : P t = false → AtC P (t + 1) a := fun h => ⟨by rw [hsuc, if_neg (by rw [h]; exact Bool.false_ne_true), hae, Nat.add_zero]⟩
    have hhit : P t = true → A.cmp .geq ai (A.oi (A.len R3)) = false ∧ A.inb ai (A.len R3) ∧ A.get R3 (A.tn ai) = some (I ni) ∧ A.cmp .neq ni ni = false ∧ A.fits .i64 (A.add ai 1) ∧ IsI (A.add ai 1) (a + 1) := fun h => by
      have h1 := filter_at P ht h
      rw [← hae] at h1
      have h2 : C[a]? = some ni := by rw [hC2, List.getElem?_map, h1, hnie]; rfl
      have h3 := (List.getElem?_eq_some_iff.1 h2).1
      refine ⟨?_, yinbL hA hR3l w3 h3, yget hA w3 (by rw [hR3, List.getElem?_map, h2]; rfl), ?_, yfit1 hA w3 (by omega), ysucc hA w3⟩
      · rw [yoiL hA hR3l, w3.eq]; subst hA; simp [ar, cmpI]; omega
      · subst hA; simp [ar, cmpI]
    cbv
    refine draw_go tokT hA hS [0, 1, 2, 3, 4, 5, 6, 7, 8, 9, 10, 11, 12, 13, 14, 15, 16, 17, 18, 19, 20, 21] rfl rfl fun Dk hD => ?_
    cbv
    refine draw_call hA hD [.sl 1 R1, I ni] [] [] rfl rfl rfl rfl rfl rfl rfl rfl rfl rfl rfl (by decide) trivial (kPlace RA' hRAl R1 hR1 ni _ fun r1 hr1 => ⟨by cbv; repeat' (first | exact trivial | exact rfl | exact ⟨_, gH, rfl⟩ | exact iH | refine ⟨?_, ?_⟩), draw_on tokT hA hD ?_⟩)
    cbv
    refine bm (fun c4 => ?_) (fun c4 => ?_)
    · cbv
      refine draw_callG hA hD (b := true) rfl rfl rfl rfl rfl rfl rfl rfl rfl rfl rfl (fun _ => ⟨[], _, [.sl 1 R2, I ni], [], [], rfl, rfl, rfl, by decide, trivial, kPlace RB hRBl R2 hR2 ni _ fun r2 hr2 => ⟨by cbv; repeat' (first | exact trivial | exact rfl | exact ⟨_, gH, rfl⟩ | exact iH | refine ⟨?_, ?_⟩), draw_on tokT hA hD ?_⟩⟩) (fun h => absurd rfl h)
      have kz := key1 r1 r2 hr1 hr2 c4
      cbv
      refine bmF kz ?_
      cbv
      refine ⟨iH, ⟨_, gH, ?_⟩⟩
      cbv
      refine draw_callG hA hD (b := false) rfl rfl rfl rfl rfl rfl rfl rfl rfl rfl rfl (fun _ => ⟨[], _, [.sl 1 R2, I ni], [], [], rfl, rfl, rfl, by decide, trivial, kPlace RB hRBl R2 hR2 ni _ fun r3 hr3 => ⟨by cbv; repeat' (first | exact trivial | exact rfl | exact ⟨_, gH, rfl⟩ | exact iH | refine ⟨?_, ?_⟩), draw_on tokT hA hD ?_⟩⟩) (fun h => absurd rfl h)
      have kz3 := key2 r3 hr3
      cbv
      refine bmF kz3 ?_
      cbv
      refine at_code hS ?_
      refine wpa_loopG (α := Int × Nat × Bool) (fun z => { env := [(4, .cb (.agg [I ins, .sl 1 FL, .sl 5 ML]) 0), (6, .sl 1 RL), (12, .sl 1 R1), (14, .sl 1 R2), (16, .sl 1 R3), (18, .sl 1 H1), (20, I ai), (21, I ni), (22, .v (.bool z.2.2)), (23, I z.1)], H := [], nt := 179, dfs := [] })
        (fun z => NB - z.2.1) (fun z => z.2.1 ≤ NB ∧ IsI z.1 z.2.1 ∧ z.2.2 = mayB fm z.2.1) (0, 0, false) ⟨Nat.zero_le _, ⟨rfl⟩, rfl⟩ ?_ ?_
      · exact gs_to [] ⟨by decide, pre0, trivial, ⟨rfl, rfl, rfl, rfl, rfl, rfl, rfl, rfl, rfl, rfl, trivial⟩, rfl, rfl⟩
      rintro ⟨ki, s2, may⟩ ⟨z1, z2, z3⟩
      dsimp only at z1 z2 z3
      have hyes4 : A.cmp .lss ki (A.oi (A.len RL)) = true → s2 < NB := fun c => yltL hA hRl z2 c
      have hno4 : A.cmp .lss ki (A.oi (A.len RL)) = false → s2 = NB := fun c => by have := ynltL hA hRl z2 c; omega
      have hms : mayB fm (s2 + 1) = (may || decide (0 < fm s2)) := by rw [z3]; rfl
      have hmsT : may = true → true = mayB fm (s2 + 1) := fun h => by rw [hms, h]; rfl
      have hmsF : may = false → ∀ hi, hi = fm s2 → A.cmp .gtr hi 0 = mayB fm (s2 + 1) := fun h hi e => by rw [hms, h, e]; subst hA; rfl
      refine wp_go tokT hA hS ?_
      cbv
      refine bm (fun c5 => ?_) (fun c5 => ?_)
      · have hk4 := hyes4 c5
        have hfk := yfit1 hA z2 (by omega)
        have hz2 := ysucc hA z2
        have hms4 : NB - (s2 + 1) < NB - s2 := by omega
        have hfs : (noteR j (tkAmt (t : Int) s2)).2 = fm s2 := by rw [hfm]
        cbv
        refine ops_call hS [.agg [I ins, .sl 1 FL, .sl 5 ML], I ni, I ki] [] [] rfl rfl rfl rfl rfl rfl rfl rfl (by decide) trivial (hamt t s2 ni ki w2 z2 ht hk4 _ fun lo hi h1 h2 h3 => ?_)
        have hhi := h2.trans hfs
        clear hfs
        refine ops_go tokT hA hS ?_
        cbv
        refine bmF n00 ?_
        cbv
        cases may with
        | true =>
          have hz := hmsT rfl
          cbv
          refine ⟨hfk, ?_⟩
          refine gs_loop (A.add ki 1, s2 + 1, true) [] ⟨hk4, hz2, hz⟩ hms4 ?_
          exact ⟨by decide, pre0, trivial, ⟨rfl, rfl, rfl, rfl, rfl, rfl, rfl, rfl, rfl, rfl, trivial⟩, rfl, rfl⟩
        | false =>
          have hz := hmsF rfl hi hhi
          cbv
          refine ⟨hfk, ?_⟩
          refine gs_loop (A.add ki 1, s2 + 1, A.cmp .gtr hi 0) [] ⟨hk4, hz2, hz⟩ hms4 ?_
          exact ⟨by decide, pre0, trivial, ⟨rfl, rfl, rfl, rfl, rfl, rfl, rfl, rfl, rfl, rfl, trivial⟩, rfl, rfl⟩
      · have hs2 := hno4 c5
        have hpt : P t = may := hPt may (by rw [z3, hs2])
        cbv
        refine gs_done ?_
        cbv
        cases may with
        | true =>
          obtain ⟨q1, q2, q3, q4, q5, q6⟩ := hhit hpt
          have haS := hstep1 hpt
          cbv
          refine bmF q1 ?_
          cbv
          refine ⟨q2, ⟨_, q3, ?_⟩⟩
          cbv
          refine bmF q4 ?_
          cbv
          refine ⟨q5, hft, ?_⟩
          refine gs_loop ((A.add ni 1, t + 1), (A.add ai 1, a + 1)) [] ⟨ht, hw2, q6, haS⟩ hms3 ?_
          exact ⟨by decide, pre0, trivial, ⟨rfl, rfl, rfl, rfl, rfl, rfl, rfl, rfl, trivial⟩, rfl, rfl⟩
        | false =>
          have haS := hstep0 hpt
          cbv
          refine ⟨hft, ?_⟩
          refine gs_loop ((A.add ni 1, t + 1), (ai, a)) [] ⟨ht, hw2, w3, haS⟩ hms3 ?_
          exact ⟨by decide, pre0, trivial, ⟨rfl, rfl, rfl, rfl, rfl, rfl, rfl, rfl, trivial⟩, rfl, rfl⟩
    · cbv
      refine draw_callG hA hD (f := 65) (b := false) rfl rfl rfl rfl rfl rfl rfl rfl rfl rfl rfl (fun h => Bool.noConfusion h) (fun _ => ⟨by cbv; repeat' (first | exact trivial | exact rfl | exact ⟨_, gH, rfl⟩ | exact iH | refine ⟨?_, ?_⟩), draw_on tokT hA hD ?_⟩)
      cbv
      refine ⟨iH, ⟨_, gH, ?_⟩⟩
      cbv
      refine draw_callG hA hD (b := false) rfl rfl rfl rfl rfl rfl rfl rfl rfl rfl rfl (fun _ => ⟨[], _, [.sl 1 R2, I ni], [], [], rfl, rfl, rfl, by decide, trivial, kPlace RB hRBl R2 hR2 ni _ fun r3 hr3 => ⟨by cbv; repeat' (first | exact trivial | exact rfl | exact ⟨_, gH, rfl⟩ | exact iH | refine ⟨?_, ?_⟩), draw_on tokT hA hD ?_⟩⟩) (fun h => absurd rfl h)
      have kz3 := key2 r3 hr3
      cbv
      refine bmF kz3 ?_
      cbv
      refine at_code hS ?_
      refine wpa_loopG (α := Int × Nat × Bool) (fun z => { env := [(4, .cb (.agg [I ins, .sl 1 FL, .sl 5 ML]) 0), (6, .sl 1 RL), (12, .sl 1 R1), (14, .sl 1 R2), (16, .sl 1 R3), (18, .sl 1 H1), (20, I ai), (21, I ni), (22, .v (.bool z.2.2)), (23, I z.1)], H := [], nt := 179, dfs := [] })
        (fun z => NB - z.2.1) (fun z => z.2.1 ≤ NB ∧ IsI z.1 z.2.1 ∧ z.2.2 = mayB fm z.2.1) (0, 0, false) ⟨Nat.zero_le _, ⟨rfl⟩, rfl⟩ ?_ ?_
      · exact gs_to [] ⟨by decide, pre0, trivial, ⟨rfl, rfl, rfl, rfl, rfl, rfl, rfl, rfl, rfl, rfl, trivial⟩, rfl, rfl⟩
      rintro ⟨ki, s2, may⟩ ⟨z1, z2, z3⟩
      dsimp only at z1 z2 z3
      have hyes4 : A.cmp .lss ki (A.oi (A.len RL)) = true → s2 < NB := fun c => yltL hA hRl z2 c
      have hno4 : A.cmp .lss ki (A.oi (A.len RL)) = false → s2 = NB := fun c => by have := ynltL hA hRl z2 c; omega
      have hms : mayB fm (s2 + 1) = (may || decide (0 < fm s2)) := by rw [z3]; rfl
      have hmsT : may = true → true = mayB fm (s2 + 1) := fun h => by rw [hms, h]; rfl
      have hmsF : may = false → ∀ hi, hi = fm s2 → A.cmp .gtr hi 0 = mayB fm (s2 + 1) := fun h hi e => by rw [hms, h, e]; subst hA; rfl
      refine wp_go tokT hA hS ?_
      cbv
      refine bm (fun c5 => ?_) (fun c5 => ?_)
      · have hk4 := hyes4 c5
        have hfk := yfit1 hA z2 (by omega)
        have hz2 := ysucc hA z2
        have hms4 : NB - (s2 + 1) < NB - s2 := by omega
        have hfs : (noteR j (tkAmt (t : Int) s2)).2 = fm s2 := by rw [hfm]
        cbv
        refine ops_call hS [.agg [I ins, .sl 1 FL, .sl 5 ML], I ni, I ki] [] [] rfl rfl rfl rfl rfl rfl rfl rfl (by decide) trivial (hamt t s2 ni ki w2 z2 ht hk4 _ fun lo hi h1 h2 h3 => ?_)
        have hhi := h2.trans hfs
        clear hfs
        refine ops_go tokT hA hS ?_
        cbv
        refine bmF n00 ?_
        cbv
        cases may with
        | true =>
          have hz := hmsT rfl
          cbv
          refine ⟨hfk, ?_⟩
          refine gs_loop (A.add ki 1, s2 + 1, true) [] ⟨hk4, hz2, hz⟩ hms4 ?_
          exact ⟨by decide, pre0, trivial, ⟨rfl, rfl, rfl, rfl, rfl, rfl, rfl, rfl, rfl, rfl, trivial⟩, rfl, rfl⟩
        | false =>
          have hz := hmsF rfl hi hhi
          cbv
          refine ⟨hfk, ?_⟩
          refine gs_loop (A.add ki 1, s2 + 1, A.cmp .gtr hi 0) [] ⟨hk4, hz2, hz⟩ hms4 ?_
          exact ⟨by decide, pre0, trivial, ⟨rfl, rfl, rfl, rfl, rfl, rfl, rfl, rfl, rfl, rfl, trivial⟩, rfl, rfl⟩
      · have hs2 := hno4 c5
        have hpt : P t = may := hPt may (by rw [z3, hs2])
        cbv
        refine gs_done ?_
        cbv
        cases may with
        | true =>
          obtain ⟨q1, q2, q3, q4, q5, q6⟩ := hhit hpt
          have haS := hstep1 hpt
          cbv
          refine bmF q1 ?_
          cbv
          refine ⟨q2, ⟨_, q3, ?_⟩⟩
          cbv
          refine bmF q4 ?_
          cbv
          refine ⟨q5, hft, ?_⟩
          refine gs_loop ((A.add ni 1, t + 1), (A.add ai 1, a + 1)) [] ⟨ht, hw2, q6, haS⟩ hms3 ?_
          exact ⟨by decide, pre0, trivial, ⟨rfl, rfl, rfl, rfl, rfl, rfl, rfl, rfl, trivial⟩, rfl, rfl⟩
        | false =>
          have haS := hstep0 hpt
          cbv
          refine ⟨hft, ?_⟩
          refine gs_loop ((A.add ni 1, t + 1), (ai, a)) [] ⟨ht, hw2, w3, haS⟩ hms3 ?_
          exact ⟨by decide, pre0, trivial, ⟨rfl, rfl, rfl, rfl, rfl, rfl, rfl, rfl, trivial⟩, rfl, rfl⟩
  · have ht := hno3 c3
    have haC : a = C.length := by rw [w4.eq, ht, hC2, List.length_map]
    have hend : A.cmp .eql ai (A.oi (A.len R3)) = true := by rw [yoiL hA hR3l, w3.eq, haC]; subst hA; simp [ar, cmpI]
    cbv
    refine gs_done ?_
    cbv
    refine ops_gs hS (gs_weak 176 (.v (.bool true)) rfl (WkD.eq (congrArg (fun b => D.v (.bool b)) hend)) (gs_done ?_))
    refine ops_callG hS (b := true) rfl rfl rfl rfl rfl rfl rfl rfl (fun _ => ⟨[], _, [], [], [], rfl, rfl, rfl, by decide, trivial, lStored _ ?_⟩) (fun h => absurd rfl h)
    refine ops_go tokT hA hS ?_
    cbv
    exact gh_view [] (by decide) pre0 (H' := []) (d' := .v (.bool true)) trivial rfl (gh_done hq)
end Go.Proofs.Ytecfpfhkicapeaa
