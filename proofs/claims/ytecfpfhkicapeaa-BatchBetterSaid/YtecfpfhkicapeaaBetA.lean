/- Part BetA of the proofs about the benches of the accordion maker: see the last text of the claim for what is proved. -/
import Derived.Test.YtecfpfhkicapeaaBatJ
set_option linter.unusedVariables false
set_option linter.unusedSimpArgs false
set_option linter.unnecessarySimpa false
set_option linter.constructorNameAsVariable false

/-! T34 -/
namespace Go.Batch
/-- The first moves are known better, the others are as they were. -/
structure NarK (ins : Int) (ms ns : List Mv) (k : Nat) : Prop where
  len : ms.length = ns.length
  lt : ∀ (i : Nat) (m x : Mv), i < k → ms[i]? = some m → ns[i]? = some x → NarM ins m x
  ge : ∀ i : Nat, k ≤ i → ns[i]? = ms[i]?
theorem narK_0 (ins : Int) (ms : List Mv) : NarK ins ms ms 0 := ⟨rfl, fun i _ _ h => absurd h (Nat.not_lt_zero _), fun _ _ => rfl⟩
theorem NarK.next {ins : Int} {ms ns : List Mv} {k : Nat} (h : NarK ins ms ns k) {m x : Mv} (hm : ms[k]? = some m) (hx : NarM ins m x) : NarK ins ms (ns.set k x) (k + 1) := by
  have hk : k < ns.length := by rw [← h.len]; exact (List.getElem?_eq_some_iff.1 hm).1
  refine ⟨by rw [List.length_set]; exact h.len, fun i m' x' hi h1 h2 => ?_, fun i hi => ?_⟩
  · rw [List.getElem?_set] at h2
    by_cases e : k = i
    · subst e
      rw [if_pos rfl, if_pos hk] at h2
      rw [hm] at h1
      cases h1; cases h2; exact hx
    · rw [if_neg e] at h2
      exact h.lt i m' x' (by omega) h1 h2
  · rw [List.getElem?_set, if_neg (by omega)]; exact h.ge i (by omega)
theorem NarK.sub {j : Jn} (hj : JOk j) {ns : List Mv} {k : Nat} (h : NarK j.ins j.moves ns k) (hk : j.moves.length ≤ k) : Sub ⟨j.ins, j.first, ns⟩ j :=
  sub_nar hj h.len fun i m x h1 h2 => h.lt i m x (by have := (List.getElem?_eq_some_iff.1 h1).1; omega) h1 h2
end Go.Batch
namespace Go.Proofs.Ytecfpfhkicapeaa
open Go Go.Abs Go.Proofs Go.Batch
set_option maxRecDepth 40000 in
set_option maxHeartbeats 16000000 in
/-- BatchBetter. -/
theorem wBatchBetter (L : List D) (nums : List Int) (hL : L = nums.map I) (hl : L.length ≤ 9223372036854775807) (Q) (hq : Q (RA.ret (.v (.bool true))) []) : CallA Try.prog 13 [.sl 1 L] [] Q := by
  obtain ⟨A, hA⟩ : ∃ A, A = ar := ⟨_, rfl⟩
  have n00 : A.cmp .neq 0 0 = false := by subst hA; rfl
  have e00 : A.cmp .eql 0 0 = true := by subst hA; rfl
  have bT : A.bnot true = false := by subst hA; rfl
  have bF : A.bnot false = true := by subst hA; rfl
  refine callA_startF tokT hA [14] Try.func13 rfl rfl rfl rfl rfl fun S hS => ?_
  cbv
  refine ops_call hS [.sl 1 L] [] [] rfl rfl rfl rfl rfl rfl rfl rfl (by decide) trivial (newPotL L nums hL hl _ fun x0 => ?_)
  refine ops_go tokT hA hS ?_
  cbv
  refine ops_call hS [.b 0 0, I 7, I 2] [0] [pot x0] rfl rfl rfl rfl rfl rfl rfl rfl (by decide) ⟨rfl, trivial⟩ (kJournalOf x0 7 2 (by decide) ⟨by decide, by decide⟩ _ fun ins first ms lies truth x1 FL ML TL RL hi1 hi4 hfl hm10 hmm hg _ hF hM hT hR => ?_)
  obtain ⟨j, N, n, m, hj, md⟩ := md_of hi1 hi4 hfl hm10 hg hF hM
  obtain ⟨NB, hNB⟩ : ∃ NB, NB = (binsOf j.moves).length := ⟨_, rfl⟩
  have hNB4 : NB ≤ 4 := by rw [hNB]; exact md.ok.b4
  have hRl : RL.length = NB := by rw [hR, hNB, hj]; simp; have := hg.l.len; have := hg.b4; omega
  have hm7 : m ≤ 7 := by have := md.m; rw [hj] at this; replace this : ms.length = m := this; omega
  have hN4 := md.N4
  have hn2 := md.n2
  have hNi : IsI ins N := md.nI
  have hNj : IsI j.ins N := ⟨md.ie.trans md.nI.eq⟩
  have hFl := md.Fl
  have hMl := md.Ml
  have hm := md.m
  have hTl : TL.length = m := by rw [hT, List.length_map, hg.tl, ← hm, hj]
  have hTg : ∀ k, k < m → ∃ (t : Int) (w : D), TL[k]? = some (.agg [I t, w]) ∧ (t = -1 ∨ 0 ≤ t ∧ t < ins) := fun k hk => by
    have hk' : k < truth.length := by rw [hg.tl]; have := hm; rw [hj] at this; replace this : ms.length = m := this; omega
    refine ⟨truth[k].1, _, by rw [hT, List.getElem?_map, List.getElem?_eq_getElem hk']; rfl, (hg.ti _ (List.getElem_mem hk')).1⟩
  have hRI : IsI (A.oi (A.len RL)) NB := ⟨yoiL hA hRl⟩
  have hn1000 : n ≤ 1000 := by omega
  have hm1000 : m ≤ 1000 := by omega
  have hup : ins - 1 ≤ 1000000000000 := by omega
  have hfi : A.fits .i64 (A.sub ins 1) := xfitE hA (xsub hA ins 1) (by omega)
  have hse : A.sub ins 1 = ins - 1 := xsub hA _ _
  have hsle : A.sub ins 1 ≤ 1000000000000 := by omega
  refine ops_go tokT hA hS ?_
  cbv
  refine ops_call hS [.agg [I ins, .sl 1 FL, .sl 5 ML]] [] [] rfl rfl rfl rfl rfl rfl rfl rfl (by decide) trivial (kCopyJournal ins FL ML n m hFl hMl hn1000 hm1000 _ ?_)
  refine ops_go tokT hA hS ?_
  cbv
  refine at_code hS ?_
  refine wpa_loopG (α := Int × Nat × Int × List Mv × List D) (fun s => { env := [(3, .b 0 0), (4, .cb (.agg [I ins, .sl 1 FL, .sl 5 ML]) 0), (5, .sl 2 TL), (6, .sl 1 RL), (7, .b 1 0), (8, I s.1)], H := [pot s.2.2.1, .box (.agg [I ins, .o 2 1 n, .o 3 5 m]), .els 1 FL, .els 5 s.2.2.2.2], nt := 286, dfs := [] })
    (fun s => m - s.2.1) (fun s => s.2.1 ≤ m ∧ IsI s.1 s.2.1 ∧ NarK j.ins j.moves s.2.2.2.1 s.2.1 ∧ s.2.2.2.2 = s.2.2.2.1.map mvD) (0, 0, x1, j.moves, ML) ⟨Nat.zero_le _, ⟨rfl⟩, narK_0 _ _, md.M⟩ ?_ ?_
  · refine gs_frz hA [1] ?_
    cbv
    exact gs_to [0, 4, 2, 3] ⟨by decide, pre0, ⟨rfl, rfl, rfl, rfl, trivial⟩, ⟨rfl, rfl, rfl, rfl, rfl, rfl, trivial⟩, rfl, rfl⟩
  rintro ⟨i, k, y, ns, M⟩ ⟨u1, u2, u3, u4⟩
  dsimp only at u1 u2 u3 u4
  have hMl1 : M.length = m := by rw [u4, List.length_map, ← u3.len, hm]
  have hyes : A.cmp .lss i (A.oi m) = true → k < m := fun c => by have := xlt hA c; rw [xoi hA] at this; have := u2.eq; omega
  have hno : A.cmp .lss i (A.oi m) = false → k = m := fun c => by have := xnlt hA c; rw [xoi hA] at this; have := u2.eq; omega
  refine wp_go tokT hA hS ?_
  cbv
  refine bm (fun c => ?_) (fun c => ?_)
  · have hk := hyes c
    obtain ⟨⟨kd, bn, it, lo, hi⟩, hm0⟩ : ∃ a : Mv, j.moves[k]? = some a := ⟨_, List.getElem?_eq_getElem (by omega)⟩
    have hns0 : ns[k]? = some ⟨kd, bn, it, lo, hi⟩ := (u3.ge k (Nat.le_refl _)).trans hm0
    have hmo := md.ok.mv _ (List.mem_of_getElem? hm0)
    have hl0 : 0 ≤ lo := hmo.l0
    have hlh : lo ≤ hi := hmo.lh
    have hh5 : hi ≤ 5 := hmo.h5
    have hin0 : -1000000 ≤ lo ∧ lo ≤ hi ∧ hi ≤ 1000000 := by omega
    have hnr : ∀ u, lo ≤ u → u ≤ hi → -1000000 ≤ lo ∧ lo ≤ u ∧ u ≤ hi ∧ hi ≤ 1000000 := fun u h1 h2 => by omega
    have gM := yget hA u2 (show M[k]? = some (.agg [I kd, I bn, I it, I lo, I hi]) by rw [u4, List.getElem?_map, hns0]; rfl)
    have iM : A.inb i m := yinb hA u2 hk
    have hf1 := yfit1 hA u2 (by omega)
    have hu2 := ysucc hA u2
    have hms : m - (k + 1) < m - k := by omega
    have hkM : k < M.length := by omega
    have gM1 : ∀ a b, A.get (A.set M (A.tn i) (.agg [I kd, I bn, I it, I a, I b])) (A.tn i) = some (.agg [I kd, I bn, I it, I a, I b]) := fun a b => yget hA u2 (by rw [yset hA u2 rfl, List.getElem?_set_self hkM])
    have hset1 : ∀ a b, A.set M (A.tn i) (.agg [I kd, I bn, I it, I a, I b]) = (ns.set k ⟨kd, bn, it, a, b⟩).map mvD := fun a b => by rw [yset hA u2 rfl, u4, List.map_set]; rfl
    have hset2 : ∀ a b o, A.set (A.set M (A.tn i) (.agg [I kd, I bn, I it, I a, I b])) (A.tn i) (.agg [I kd, I bn, I o, I a, I b]) = (ns.set k ⟨kd, bn, o, a, b⟩).map mvD := fun a b o => by rw [yset hA u2 rfl, yset hA u2 rfl, List.set_set, u4, List.map_set]; rfl
    have hnar : ∀ a b o, lo ≤ a → a ≤ b → b ≤ hi → (o = it ∨ it < 0 ∧ -1 ≤ o ∧ o < ins) → NarK j.ins j.moves (ns.set k ⟨kd, bn, o, a, b⟩) (k + 1) := fun a b o h1 h2 h3 h4 => u3.next hm0 ⟨rfl, rfl, h1, h2, h3, by rw [md.ie]; exact h4⟩
    have hneg : A.cmp .lss it 0 = true → it < 0 := fun h => xlt hA h
    obtain ⟨t, w, hTk, htt⟩ := hTg k hk
    have iT := yinbL hA hTl u2 hk
    have gT := yget hA u2 hTk
    have hoo : ∀ o u, o ∈ [t, u] → 0 ≤ u → (u ≤ A.sub ins 1 ∨ u = 0) → A.cmp .lss it 0 = true → (o = it ∨ it < 0 ∧ -1 ≤ o ∧ o < ins) := fun o u h1 h2 h3 h4 => by
      have := hneg h4
      simp at h1
      rcases h1 with h1 | h1 <;> omega
    cbv
    refine ⟨iM, ?_⟩
    refine draw_go tokT hA hS [0, 1, 2, 3, 4, 5, 6, 7, 8, 9, 10, 11, 12, 13, 14, 15] rfl rfl fun Dk hD => ?_
    cbv
    refine ⟨_, gM, ?_⟩
    cbv
    refine ⟨_, gM, ?_⟩
    cbv
    refine draw_call hA hD [.b 0 0, .agg [I lo, I hi]] [0] [pot y] rfl rfl rfl rfl rfl rfl rfl rfl rfl rfl rfl (by decide) ⟨rfl, trivial⟩ (inner y lo hi hin0 _ fun u y1 hu1 hu2' => ⟨by cbv; repeat' (first | exact trivial | exact rfl | exact ⟨_, gM, rfl⟩ | exact iM | refine ⟨?_, ?_⟩), draw_on tokT hA hD ?_⟩)
    have hnr' := hnr u hu1 hu2'
    cbv
    refine draw_call hA hD [.b 0 0, .agg [I lo, I hi], I u] [0] [pot y1] rfl rfl rfl rfl rfl rfl rfl rfl rfl rfl rfl (by decide) ⟨rfl, trivial⟩ (kNarrow y1 lo hi u hnr' _ fun a b y2 ha hab hb => ⟨by cbv; repeat' (first | exact trivial | exact rfl | exact ⟨_, gM, rfl⟩ | exact iM | refine ⟨?_, ?_⟩), draw_on tokT hA hD ?_⟩)
    have gM2 := gM1 a b
    have hs1 := hset1 a b
    have hs2 := hset2 a b
    have hn1 := hnar a b it ha hab hb (.inl rfl)
    have hn2 := fun o h => hnar a b o ha hab hb h
    cbv
    refine ⟨_, gM, ?_⟩
    cbv
    refine ⟨_, gM2, ?_⟩
    cbv
    refine bm (fun c2 => ?_) (fun c2 => ?_)
    · have hoo2 := fun o u h1 h2 h3 => hoo o u h1 h2 h3 c2
      cbv
      refine ops_callG hS (b := true) rfl rfl rfl rfl rfl rfl rfl rfl (fun _ => ⟨[], _, [.b 0 0, I 1, I 2], [0], [pot y2], rfl, rfl, rfl, by decide, ⟨rfl, trivial⟩, odds y2 1 2 (by omega) _ fun ob y3 => ?_⟩) (fun h => absurd rfl h)
      cases ob with
      | true =>
        refine ops_go tokT hA hS ?_
        cbv
        refine draw_go tokT hA hS [0, 1, 2, 3, 4, 5, 6, 7, 8, 9, 10, 11, 12, 13, 14, 15, 16] rfl rfl fun Dk hD => ?_
        cbv
        refine ⟨iT, ⟨_, gT, ?_⟩⟩
        cbv
        refine ⟨hfi, ?_⟩
        refine draw_call hA hD [.b 0 0, I (A.sub ins 1)] [0] [pot y3] rfl rfl rfl rfl rfl rfl rfl rfl rfl rfl rfl (by decide) ⟨rfl, trivial⟩ (upto y3 _ hsle _ fun u2 y4 hw1 hw2 => ⟨by cbv; repeat' (first | exact trivial | exact rfl | exact ⟨_, gT, rfl⟩ | exact iT | refine ⟨?_, ?_⟩), draw_on tokT hA hD ?_⟩)
        cbv
        refine draw_callF hA hD [4] rfl rfl rfl rfl rfl rfl fun CG hC => ?_
        cbv
        refine ⟨by subst hA; rfl, ?_⟩
        rw [hC]
        refine callG_of [.b 0 0, .sl 1 [I t, I u2]] [0] [pot y4] rfl rfl rfl rfl rfl (by decide) ⟨rfl, trivial⟩ (of_ y4 _ [t, u2] rfl (Nat.le_of_ble_eq_true rfl) (by simp) _ fun o y5 ho => aftG_of hA tokT hD ?_ ?_)
        · cbv; repeat' (first | exact trivial | exact rfl | exact ⟨_, gT, rfl⟩ | exact iT | refine ⟨?_, ?_⟩)
        have hn3 := hn2 o (hoo2 o u2 ho hw1 hw2)
        have hs3 := hs2 o
        cbv
        refine ⟨_, gM2, ?_⟩
        cbv
        refine ⟨hf1, ?_⟩
        refine gs_loop (A.add i 1, k + 1, y5, ns.set k ⟨kd, bn, o, a, b⟩, A.set (A.set M (A.tn i) (.agg [I kd, I bn, I it, I a, I b])) (A.tn i) (.agg [I kd, I bn, I o, I a, I b])) [0, 1, 2, 3] ⟨hk, hu2, hn3, hs3⟩ hms ?_
        exact ⟨by decide, pre0, ⟨rfl, rfl, rfl, rfl, trivial⟩, ⟨rfl, rfl, rfl, rfl, rfl, rfl, trivial⟩, rfl, rfl⟩
      | false =>
        refine ops_go tokT hA hS ?_
        cbv
        refine ⟨hf1, ?_⟩
        refine gs_loop (A.add i 1, k + 1, y3, ns.set k ⟨kd, bn, it, a, b⟩, A.set M (A.tn i) (.agg [I kd, I bn, I it, I a, I b])) [0, 1, 2, 3] ⟨hk, hu2, hn1, hs1⟩ hms ?_
        exact ⟨by decide, pre0, ⟨rfl, rfl, rfl, rfl, trivial⟩, ⟨rfl, rfl, rfl, rfl, rfl, rfl, trivial⟩, rfl, rfl⟩
    · cbv
      refine ops_callG hS (f := 63) (b := false) rfl rfl rfl rfl rfl rfl rfl rfl (fun h => Bool.noConfusion h) (fun _ => ?_)
      refine ops_go tokT hA hS ?_
      cbv
      refine ⟨hf1, ?_⟩
      refine gs_loop (A.add i 1, k + 1, y2, ns.set k ⟨kd, bn, it, a, b⟩, A.set M (A.tn i) (.agg [I kd, I bn, I it, I a, I b])) [0, 1, 2, 3] ⟨hk, hu2, hn1, hs1⟩ hms ?_
      exact ⟨by decide, pre0, ⟨rfl, rfl, rfl, rfl, trivial⟩, ⟨rfl, rfl, rfl, rfl, rfl, rfl, trivial⟩, rfl, rfl⟩
  have hk := hno c
  obtain ⟨jx0, hjx0⟩ : ∃ y : Jn, y = ⟨j.ins, j.first, ns⟩ := ⟨_, rfl⟩
  have hsub0 : Sub jx0 j := by rw [hjx0]; exact u3.sub md.ok (by omega)
  have hf0 : jx0.first = j.first := by rw [hjx0]
  have hM0 : M = jx0.moves.map mvD := by rw [hjx0]; exact u4
  have hl0 : jx0.moves.length = m := by rw [hjx0]; exact u3.len.symm.trans hm
  have hFi : A.fits .i64 (A.sub (A.oi (A.len FL)) 1) := xfitE hA (xsub hA _ _) (by rw [yoiL hA hFl]; omega)
  have hFe : A.sub (A.oi (A.len FL)) 1 = (n : Int) - 1 := by rw [xsub hA, yoiL hA hFl]
  have hFle : A.sub (A.oi (A.len FL)) 1 ≤ 1000000000000 := by rw [hFe]; omega
  have hcnt : ∀ bb c0, 0 ≤ bb → (bb ≤ A.sub (A.oi (A.len FL)) 1 ∨ bb = 0) → 0 ≤ c0 → (c0 ≤ 4 ∨ c0 = 0) → Sub ⟨jx0.ins, jx0.first, jx0.moves ++ [⟨3, bb, 0, c0, 5⟩]⟩ j := fun bb c0 h1 h2 h3 h4 => by
    rw [hFe] at h2
    have e1 : jx0.first.length = n := by rw [hf0]; exact md.n
    refine hsub0.cnt ⟨?_, ?_, h1, by show bb < (jx0.first.length : Int); omega, fun h => ?_, fun h => ?_, fun _ => rfl, h3, by show c0 ≤ 5; omega, ?_⟩ (by omega)
    · show (1 : Int) ≤ 3; decide
    · show (3 : Int) ≤ 3; decide
    · exact absurd (show (3 : Int) = 2 from h) (by decide)
    · exact absurd (show (3 : Int) = 2 from h) (by decide)
    · show (5 : Int) ≤ 5; decide
  clear u3 u4
  cbv
  refine gs_done ?_
  cbv
  refine ops_gs hS (gs_frz hA [2, 3] ?_)
  cbv
  repeat (refine ⟨by first | exact yeqLen hA hFl | exact yeqLen hA hMl1, ?_⟩)
  refine gs_done ?_
  refine ops_call hS [.b 0 0, I 1, I 2] [0] [pot y] rfl rfl rfl rfl rfl rfl rfl rfl (by decide) ⟨rfl, trivial⟩ (odds y 1 2 (by omega) _ fun ob y1 => ?_)
  refine ops_go tokT hA hS ?_
  cbv
  refine' bm2 (S := S) (α := Int × List D × Jn) (fun s => { env := [(3, .b 0 0), (4, .cb (.agg [I ins, .sl 1 FL, .sl 5 ML]) 0), (6, .sl 1 RL), (7, .cb (.agg [I ins, .sl 1 FL, .sl 5 s.2.1]) 0)], H := [pot s.1], nt := 286, dfs := [] }) (fun s => s.2.1 = s.2.2.moves.map mvD ∧ Sub s.2.2 j ∧ s.2.2.first = j.first) (fun rest c => ?h1) (fun rest c => ?h2) ?h3
  case h1 =>
    cbv
    refine ops_call hS [.b 0 0, I 4] [0] [pot y1] rfl rfl rfl rfl rfl rfl rfl rfl (by decide) ⟨rfl, trivial⟩ (upto y1 4 (by decide) _ fun c0 y2 hc1 hc2 => ?_)
    refine ops_go tokT hA hS ?_
    cbv
    refine draw_go tokT hA hS [0, 1, 2, 3, 4, 5, 7, 6, 8, 9, 10] rfl rfl fun Dk hD => ?_
    cbv
    refine ⟨hFi, ?_⟩
    refine draw_call hA hD [.b 0 0, I (A.sub (A.oi (A.len FL)) 1)] [0] [pot y2] rfl rfl rfl rfl rfl rfl rfl rfl rfl rfl rfl (by decide) ⟨rfl, trivial⟩ (upto y2 _ hFle _ fun bb y3 hb1 hb2 => ⟨by cbv; repeat' (first | exact trivial | exact rfl | refine ⟨?_, ?_⟩), draw_on tokT hA hD ?_⟩)
    have hsub1 := hcnt bb c0 hb1 hb2 hc1 hc2
    cbv
    refine draw_call hA hD [I bb, I c0, I 5] [] [] rfl rfl rfl rfl rfl rfl rfl rfl rfl rfl rfl (by decide) trivial (lCount bb c0 5 _ ⟨by cbv; repeat' (first | exact trivial | exact rfl | refine ⟨?_, ?_⟩), draw_on tokT hA hD ?_⟩)
    cbv
    refine draw_call hA hD [.agg [I ins, .sl 1 FL, .sl 5 M], .agg [I 3, I bb, I 0, I c0, I 5]] [] [] rfl rfl rfl rfl rfl rfl rfl rfl rfl rfl rfl (by decide) trivial (lWithMove ins FL M ⟨3, bb, 0, c0, 5⟩ m hMl1 hm1000 _ fun M' hM' => ⟨by cbv; repeat' (first | exact trivial | exact rfl | refine ⟨?_, ?_⟩), draw_on tokT hA hD ?_⟩)
    have hM2 : M' = (jx0.moves ++ [(⟨3, bb, 0, c0, 5⟩ : Mv)]).map mvD := by rw [hM', hM0, List.map_append]; rfl
    clear hM'
    cbv
    refine join_at hS rest (y3, M', ⟨jx0.ins, jx0.first, jx0.moves ++ [⟨3, bb, 0, c0, 5⟩]⟩) ⟨hM2, hsub1, hf0⟩ ?_
    refine gs_frz hA [1] ?_
    cbv
    exact gs_to [0] ⟨by decide, pre0, ⟨rfl, trivial⟩, ⟨rfl, rfl, rfl, rfl, trivial⟩, rfl, rfl⟩
  case h2 =>
    cbv
    refine join_at hS rest (y1, M, jx0) ⟨hM0, hsub0, hf0⟩ ?_
    refine gs_frz hA [1] ?_
    cbv
    exact gs_to [0] ⟨by decide, pre0, ⟨rfl, trivial⟩, ⟨rfl, rfl, rfl, rfl, trivial⟩, rfl, rfl⟩
  clear hcnt hsub0 hM0 hf0 hjx0 hl0
  rintro ⟨y2, M2, jx⟩ ⟨hMx, hsub, hfx⟩
  dsimp only at hMx hsub hfx
  have hie : jx.ins = ins := hsub.ins.trans md.ie
  have hx10 := hsub.ok'.m10
  have hstd : ∀ Q, (∀ b, b = standsJ jx → Q (RA.ret (.tup [.v (.bool b), I 0])) []) → CallA Try.prog 35 [.agg [I ins, .sl 1 FL, .sl 5 M2]] [] Q := fun Q h => by
    rw [← hie]
    exact bStandsF jx (by rw [hfx]; exact md.fl) (lim (by omega)) FL M2 (by rw [hfx]; exact md.F) hMx Q (fun e h1 h2 => no_err (checkJ_of hsub.ok') h1 h2) (fun _ b hb => h b hb)
  refine at_code hS ?_
  refine wp_go tokT hA hS ?_
  cbv
  refine ops_call hS [.agg [I ins, .sl 1 FL, .sl 5 M2]] [] [] rfl rfl rfl rfl rfl rfl rfl rfl (by decide) trivial (hstd _ fun b hb => ?_)
  cases b with
  | false =>
    refine ops_go tokT hA hS ?_
    cbv
    refine bmF n00 ?_
    cbv
    refine bmT bF ?_
    cbv
    refine ops_gs hS (gs_weak 116 (.v (.bool true)) rfl (WkD.eq (congrArg (fun b => D.v (.bool b)) e00)) (gs_done ?_))
    refine ops_callG hS (b := true) rfl rfl rfl rfl rfl rfl rfl rfl (fun _ => ⟨[], _, [], [], [], rfl, rfl, rfl, by decide, trivial, lStored _ ?_⟩) (fun h => absurd rfl h)
    refine ops_go tokT hA hS ?_
    cbv
    exact gh_view [] (by decide) pre0 (H' := []) (d' := .v (.bool true)) trivial rfl (gh_done hq)
  | true =>
  have mdx : MdJ jx ins N n jx.moves.length FL M2 := ⟨hsub.ok', hb.symm, hie, hNi, by rw [hfx]; exact md.F, hMx, by rw [hfx]; exact md.n, rfl⟩
  have hNBx : NB = (binsOf jx.moves).length := by rw [hsub.bins]; exact hNB
  have hNx : IsI jx.ins N := ⟨hie.trans hNi.eq⟩
  have hrec := fun (l : List Nat) (hl : Asc NB l) (XL : List D) (hX : XL = natD l) Q => md.recall hNB hl hX Q
  have hrecx := fun (l : List Nat) (hl : Asc NB l) (XL : List D) (hX : XL = natD l) Q => mdx.recall hNBx hl hX Q
  have hH := fun Q => md.holds Q
  have hHx := fun Q => mdx.holds Q
  have hR1 := fun Q => md.rest Q
  have hRx := fun Q => mdx.rest Q
  have hlenN : A.cmp .neq (A.oi N) ins = false := by have := hNi.eq; subst hA; simp [ar, cmpI]; omega
  refine ops_go tokT hA hS ?_
  cbv
  refine bmF n00 ?_
  cbv
  refine bmF bT ?_
  cbv
  refine ops_call hS [.b 0 0, I (A.oi (A.len RL))] [0] [pot y2] rfl rfl rfl rfl rfl rfl rfl rfl (by decide) ⟨rfl, trivial⟩ (kPick y2 _ NB hRI (by omega) _ fun q QL y3 hqa hQ => ?_)
  have hq4 : ∀ x ∈ q, x < 4 := fun x hx => by have := hqa.lt x hx; omega
  have hsr := hsub.recall mdx.st (l := q) hq4
  refine ops_go tokT hA hS ?_
  cbv
  refine ops_call hS [.agg [I ins, .sl 1 FL, .sl 5 ML]] [] [] rfl rfl rfl rfl rfl rfl rfl rfl (by decide) trivial (hH _ fun H1 hH1 => ?_)
  have hT1 := holdT_of hNj hNB hH1
  have hH1l := hT1.len
  refine ops_go tokT hA hS ?_
  cbv
  refine ops_call hS [.agg [I ins, .sl 1 FL, .sl 5 M2]] [] [] rfl rfl rfl rfl rfl rfl rfl rfl (by decide) trivial (hHx _ fun H2 hH2 => ?_)
  have hT2 := holdT_of hNx hNBx hH2
  have hH2l := hT2.len
  refine ops_go tokT hA hS ?_
  cbv
  refine ops_call hS [.agg [I ins, .sl 1 FL, .sl 5 ML], .sl 1 QL] [] [] rfl rfl rfl rfl rfl rfl rfl rfl (by decide) trivial (hrec q hqa QL hQ _ fun C1 hC1 => ?_)
  refine ops_go tokT hA hS ?_
  cbv
  refine ops_call hS [.agg [I ins, .sl 1 FL, .sl 5 M2], .sl 1 QL] [] [] rfl rfl rfl rfl rfl rfl rfl rfl (by decide) trivial (hrecx q hqa QL hQ _ fun C2 hC2 => ?_)
  refine ops_go tokT hA hS ?_
  cbv
  refine ops_call hS [.agg [I ins, .sl 1 FL, .sl 5 ML]] [] [] rfl rfl rfl rfl rfl rfl rfl rfl (by decide) trivial (hR1 _ fun K1 hK1 => ?_)
  have hS1 := restT_of hNB hK1
  have hK1l := hS1.len
  refine ops_go tokT hA hS ?_
  cbv
  refine ops_call hS [.agg [I ins, .sl 1 FL, .sl 5 M2]] [] [] rfl rfl rfl rfl rfl rfl rfl rfl (by decide) trivial (hRx _ fun K2 hK2 => ?_)
  have hS2 := restT_of hNBx hK2
  have hK2l := hS2.len
  obtain ⟨E1, hE1⟩ : ∃ E, E = recallJ j q := ⟨_, rfl⟩
  obtain ⟨E2, hE2⟩ : ∃ E, E = recallJ jx q := ⟨_, rfl⟩
  rw [← hE1] at hC1 hsr
  rw [← hE2] at hC2 hsr
  have hE1l : E1.length ≤ 1000000 := by rw [hE1, recallJ_eq, List.length_map]; have := List.length_filter_le (callB j q) (List.range j.ins.toNat); rw [List.length_range] at this; have := hNj.eq; omega
  have hE2l : E2.length ≤ 1000000 := by rw [hE2, recallJ_eq, List.length_map]; have := List.length_filter_le (callB jx q) (List.range jx.ins.toNat); rw [List.length_range] at this; have := hNx.eq; omega
  have hC2l : C2.length = E2.length := by rw [hC2, List.length_map]
  have l1 : A.cmp .neq (A.oi (A.len H1)) ins = false := by rw [xlen hA hH1l]; exact hlenN
  have l2 : A.cmp .neq (A.oi (A.len H2)) ins = false := by rw [xlen hA hH2l]; exact hlenN
  have l3 : A.cmp .neq (A.oi (A.len K1)) (A.oi (A.len RL)) = false := by rw [xlen hA hK1l, xlen hA hRl]; subst hA; simp [ar, cmpI]
  have l4 : A.cmp .neq (A.oi (A.len K2)) (A.oi (A.len RL)) = false := by rw [xlen hA hK2l, xlen hA hRl]; subst hA; simp [ar, cmpI]
  refine ops_go tokT hA hS ?_
  cbv
  refine bmF n00 ?_
  cbv
  refine bmF n00 ?_
  cbv
  refine bmF n00 ?_
  cbv
  refine bmF n00 ?_
  cbv
  refine bmF n00 ?_
  cbv
  refine bmF n00 ?_
  cbv
  refine bmF l1 ?_
  cbv
  refine bmF l2 ?_
  cbv
  refine bmF l3 ?_
  cbv
  refine bmF l4 ?_
  cbv
  refine at_code hS ?_
  refine wpa_loopG (α := Int × Nat) (fun z => { env := [(4, .cb (.agg [I ins, .sl 1 FL, .sl 5 ML]) 0), (6, .sl 1 RL), (14, .sl 1 H1), (15, .sl 1 H2), (17, .sl 1 C1), (19, .sl 1 C2), (21, .sl 2 K1), (23, .sl 2 K2), (25, I z.1)], H := [], nt := 286, dfs := [] })
    (fun z => E2.length - z.2) (fun z => z.2 ≤ E2.length ∧ IsI z.1 z.2) (0, 0) ⟨Nat.zero_le _, ⟨rfl⟩⟩ ?_ ?_
  · exact gs_to [] ⟨by decide, pre0, trivial, ⟨rfl, rfl, rfl, rfl, rfl, rfl, rfl, rfl, rfl, trivial⟩, rfl, rfl⟩
  rintro ⟨di, d⟩ ⟨v1, v2⟩
  dsimp only at v1 v2
  have hyes2 : A.cmp .lss di (A.oi (A.len C2)) = true → d < E2.length := fun c => yltL hA hC2l v2 c
  refine wp_go tokT hA hS ?_
  cbv
  refine bm (fun c2 => ?_) (fun c2 => ?_)
  · have hd := hyes2 c2
    obtain ⟨e, he⟩ : ∃ e, E2[d]? = some e := ⟨_, List.getElem?_eq_getElem hd⟩
    have gC := yget hA v2 (show C2[d]? = some (I e) by rw [hC2, List.getElem?_map, he]; rfl)
    have iC := yinbL hA hC2l v2 hd
    have hfd := yfit1 hA v2 (by omega)
    have hv2 := ysucc hA v2
    have hms : E2.length - (d + 1) < E2.length - d := by omega
    have key : ∀ r, (0 ≤ r ↔ e ∈ E1) → A.cmp .lss r 0 = false := fun r h => by
      have := h.2 (hsr e (List.mem_of_getElem? he))
      subst hA; simp [ar, cmpI]; exact this
    cbv
    refine ⟨iC, ⟨_, gC, ?_⟩⟩
    cbv
    refine ops_call hS [.sl 1 C1, I e] [] [] rfl rfl rfl rfl rfl rfl rfl rfl (by decide) trivial (kPlace E1 hE1l C1 hC1 e _ fun r hr => ?_)
    have kz := key r hr
    refine ops_go tokT hA hS ?_
    cbv
    refine bmF kz ?_
    cbv
    refine ⟨hfd, ?_⟩
    refine gs_loop (A.add di 1, d + 1) [] ⟨hd, hv2⟩ hms ?_
    exact ⟨by decide, pre0, trivial, ⟨rfl, rfl, rfl, rfl, rfl, rfl, rfl, rfl, rfl, trivial⟩, rfl, rfl⟩
  cbv
  refine gs_done ?_
  cbv
  refine at_code hS ?_
  refine wpa_loopG (α := Int × Nat) (fun z => { env := [(4, .cb (.agg [I ins, .sl 1 FL, .sl 5 ML]) 0), (6, .sl 1 RL), (14, .sl 1 H1), (15, .sl 1 H2), (21, .sl 2 K1), (23, .sl 2 K2), (26, I z.1)], H := [], nt := 286, dfs := [] })
    (fun z => NB - z.2) (fun z => z.2 ≤ NB ∧ IsI z.1 z.2) (0, 0) ⟨Nat.zero_le _, ⟨rfl⟩⟩ ?_ ?_
  · exact gs_to [] ⟨by decide, pre0, trivial, ⟨rfl, rfl, rfl, rfl, rfl, rfl, rfl, trivial⟩, rfl, rfl⟩
  rintro ⟨qi, b⟩ ⟨w1, w2⟩
  dsimp only at w1 w2
  have hyes3 : A.cmp .lss qi (A.oi (A.len RL)) = true → b < NB := fun c => yltL hA hRl w2 c
  refine wp_go tokT hA hS ?_
  cbv
  refine bm (fun c3 => ?_) (fun c3 => ?_)
  · have hb3 := hyes3 c3
    obtain ⟨⟨p1, p2⟩, hp1, hp2⟩ := hS1.row b hb3
    obtain ⟨⟨p3, p4⟩, hp3, hp4⟩ := hS2.row b hb3
    have hwd := hsub.rest mdx.st hp1 hp3
    dsimp only at hp2 hp4 hwd
    have gK := yget hA w2 hp2
    have gX := yget hA w2 hp4
    have iK := yinbL hA hK1l w2 hb3
    have iX := yinbL hA hK2l w2 hb3
    have hfb := yfit1 hA w2 (by omega)
    have hw2 := ysucc hA w2
    have hms : NB - (b + 1) < NB - b := by omega
    cbv
    refine draw_go tokT hA hS [0, 1, 2, 3, 4, 5, 6, 7, 8, 9] rfl rfl fun Dk hD => ?_
    cbv
    refine ⟨iK, ⟨_, gK, ?_⟩⟩
    cbv
    refine ⟨iX, ⟨_, gX, ?_⟩⟩
    cbv
    refine draw_call hA hD [.agg [I p1, I p2], .agg [I p3, I p4]] [] [] rfl rfl rfl rfl rfl rfl rfl rfl rfl rfl rfl (by decide) trivial (kWider p1 p2 p3 p4 hwd _ ⟨by cbv; repeat' (first | exact trivial | exact rfl | exact ⟨_, gK, rfl⟩ | exact ⟨_, gX, rfl⟩ | exact iK | exact iX | refine ⟨?_, ?_⟩), draw_on tokT hA hD ?_⟩)
    cbv
    refine bmF bT ?_
    cbv
    refine at_code hS ?_
    refine wpa_loopG (α := Int × Nat) (fun z => { env := [(4, .cb (.agg [I ins, .sl 1 FL, .sl 5 ML]) 0), (6, .sl 1 RL), (14, .sl 1 H1), (15, .sl 1 H2), (21, .sl 2 K1), (23, .sl 2 K2), (26, I qi), (27, I z.1)], H := [], nt := 286, dfs := [] })
      (fun z => N - z.2) (fun z => z.2 ≤ N ∧ IsI z.1 z.2) (0, 0) ⟨Nat.zero_le _, ⟨rfl⟩⟩ ?_ ?_
    · exact gs_to [] ⟨by decide, pre0, trivial, ⟨rfl, rfl, rfl, rfl, rfl, rfl, rfl, rfl, trivial⟩, rfl, rfl⟩
    rintro ⟨ni, t⟩ ⟨z1, z2⟩
    dsimp only at z1 z2
    have hyes4 : A.cmp .lss ni ins = true → t < N := fun c => by have := xlt hA c; have := hNi.eq; have := z2.eq; omega
    refine wp_go tokT hA hS ?_
    cbv
    refine bm (fun c4 => ?_) (fun c4 => ?_)
    · have ht := hyes4 c4
      obtain ⟨Ra, ra1, ra2, ra3⟩ := hT1.row t ht
      obtain ⟨Rb, rb1, rb2, rb3⟩ := hT2.row t ht
      have ra4 := ra3 b hb3
      have rb4 := rb3 b hb3
      have hvd := hsub.verd mdx.st (t : Int) b
      obtain ⟨va, hva⟩ : ∃ v, v = verdI (noteR j (tkAmt (t : Int) b)) := ⟨_, rfl⟩
      obtain ⟨vb, hvb⟩ : ∃ v, v = verdI (noteR jx (tkAmt (t : Int) b)) := ⟨_, rfl⟩
      rw [← hva] at ra4 hvd
      rw [← hvb] at rb4 hvd
      have iA := yinbL hA hH1l z2 ht
      have iB := yinbL hA hH2l z2 ht
      have gA := yget hA z2 ra1
      have gB := yget hA z2 rb1
      have iRa := yinbL hA ra2 w2 hb3
      have iRb := yinbL hA rb2 w2 hb3
      have gRa := yget hA w2 ra4
      have gRb := yget hA w2 rb4
      have la : A.cmp .neq (A.oi (A.len Ra)) (A.oi (A.len RL)) = false := by rw [xlen hA ra2, xlen hA hRl]; subst hA; simp [ar, cmpI]
      have lb : A.cmp .neq (A.oi (A.len Rb)) (A.oi (A.len RL)) = false := by rw [xlen hA rb2, xlen hA hRl]; subst hA; simp [ar, cmpI]
      have hv3 : A.cmp .neq va 3 = true → A.cmp .neq va vb = false := fun h => by
        have := hvd (xne hA h)
        rw [this]; subst hA; simp [ar, cmpI]
      have hft := yfit1 hA z2 (by omega)
      have hz2 := ysucc hA z2
      have hms4 : N - (t + 1) < N - t := by omega
      cbv
      refine draw_go tokT hA hS [0, 1, 2, 3, 4, 5, 6, 7, 8, 9, 10, 11, 12, 13, 14, 15, 16, 17, 18, 19, 20, 21, 22, 23, 24, 25, 26, 27, 28, 29, 30, 31, 32, 33, 34, 35, 36, 37, 38, 39, 40, 41, 42, 43, 44] rfl rfl fun Dk2 hD2 => ?_
      cbv
      refine ⟨iA, ⟨_, gA, ?_⟩⟩
      cbv
      refine bmF la ?_
      cbv
      refine ⟨iB, ⟨_, gB, ?_⟩⟩
      cbv
      refine bmF lb ?_
      cbv
      refine ⟨iA, ⟨_, gA, ?_⟩⟩
      cbv
      refine ⟨iRa, ⟨_, gRa, ?_⟩⟩
      cbv
      refine bm (fun c5 => ?_) (fun c5 => ?_)
      · have hv4 := hv3 c5
        cbv
        refine ⟨iA, ⟨_, gA, ?_⟩⟩
        cbv
        refine ⟨iRa, ⟨_, gRa, ?_⟩⟩
        cbv
        refine ⟨iB, ⟨_, gB, ?_⟩⟩
        cbv
        refine ⟨iRb, ⟨_, gRb, ?_⟩⟩
        cbv
        refine bmF hv4 ?_
        cbv
        refine ⟨hft, ?_⟩
        refine gs_loop (A.add ni 1, t + 1) [] ⟨ht, hz2⟩ hms4 ?_
        exact ⟨by decide, pre0, trivial, ⟨rfl, rfl, rfl, rfl, rfl, rfl, rfl, rfl, trivial⟩, rfl, rfl⟩
      · cbv
        refine ⟨hft, ?_⟩
        refine gs_loop (A.add ni 1, t + 1) [] ⟨ht, hz2⟩ hms4 ?_
        exact ⟨by decide, pre0, trivial, ⟨rfl, rfl, rfl, rfl, rfl, rfl, rfl, rfl, trivial⟩, rfl, rfl⟩
    · cbv
      refine gs_done ?_
      cbv
      refine ⟨hfb, ?_⟩
      refine gs_loop (A.add qi 1, b + 1) [] ⟨hb3, hw2⟩ hms ?_
      exact ⟨by decide, pre0, trivial, ⟨rfl, rfl, rfl, rfl, rfl, rfl, rfl, trivial⟩, rfl, rfl⟩
  · cbv
    refine gs_done ?_
    cbv
    refine ops_call hS [] [] [] rfl rfl rfl rfl rfl rfl rfl rfl (by decide) trivial (lStored _ ?_)
    refine ops_go tokT hA hS ?_
    cbv
    exact gh_view [] (by decide) pre0 (H' := []) (d' := .v (.bool true)) trivial rfl (gh_done hq)
end Go.Proofs.Ytecfpfhkicapeaa
