/- Part FewA of the proofs about the benches of the accordion maker: see the last text of the claim for what is proved. -/
import Derived.Test.YtecfpfhkicapeaaBatK
import Derived.Test.YtecfpfhkicapeaaSaysD
import Derived.Test.YtecfpfhkicapeaaBatE
set_option linter.unusedVariables false
set_option linter.unusedSimpArgs false
set_option linter.unnecessarySimpa false
set_option linter.constructorNameAsVariable false

/-! T39 -/
namespace Go.Proofs.Ytecfpfhkicapeaa
open Go Go.Abs Go.Proofs Go.Batch
/-- What a call gives, less exactly. -/
theorem callA_res {P : Program} {f : FuncId} {vs0 : List D} {H : List Blk} {Q Q' : RA → List Blk → Prop} (h : CallA P f vs0 H Q) (hq : ∀ d H', Q (.ret d) H' → ∃ d', WkD d d' ∧ Q' (.ret d') H') (hp : ∀ d H', Q (.pan d) H' → Q' (.pan d) H') : CallA P f vs0 H Q' :=
  ⟨h.fn, fun F μ vs w h1 h2 h3 => CallsIn.mono (h.out F μ vs w h1 h2 h3) fun e w' he => by
    cases e with
    | returned v =>
      obtain ⟨F', μ', H', d, g1, g2, g3⟩ := he
      obtain ⟨d', hw, hk⟩ := hq _ _ g3
      exact ⟨F', μ', H', d', g1, hw.out _ _ _ g2, hk⟩
    | panicked ch => obtain ⟨F', μ', H', d, v, g1, g2, g3, g4⟩ := he; exact ⟨F', μ', H', d, v, g1, g2, g3, hp _ _ g4⟩
    | outgrown => exact he.elim⟩
theorem WkD.tup {cs ds : List D} (h : WkL cs ds) : WkD (.tup cs) (.tup ds) := ⟨fun F μ v hv => by
  obtain ⟨vs, rfl, hl, hr⟩ := hv.tup_inv
  exact .tup _ _ (by rw [← h.length]; exact hl) (fun i c v hc hv => by
    obtain ⟨a, h1, h2⟩ := h.get hc
    exact h2.out _ _ _ (hr i a v h1 hv))⟩
/-- What Wrong says: nothing, or the fewest counts. -/
structure WrongR (j : Jn) (WL : List D) (e : Int) : Prop where
  or : (e = 9 ∧ WL = [] ∧ wrongJ j = none) ∨ (e = 0 ∧ ∃ c, WL = natD c ∧ wrongJ j = some c)
theorem bWrongR (j : Jn) (hj : JOk j) (hf : j.first.length ≤ 1152921504606846976) (hm : j.moves.length ≤ 1152921504606846976) (FL ML : List D) (hF : FL = j.first.map bolD) (hM : ML = j.moves.map mvD) (Q) (hq : ∀ WL e, WrongR j WL e → Q (RA.ret (.tup [.sl 1 WL, I e])) []) :
    CallA Try.prog 23 [.agg [I j.ins, .sl 1 FL, .sl 5 ML]] [] Q := by
  refine callA_res (Q := fun x H' => H' = [] ∧ ((x = RA.ret (.tup [.v (.slice none 0 0), I 9]) ∧ wrongJ j = none) ∨ ∃ c, x = RA.ret (.tup [.sl 1 (natD c), I 0]) ∧ wrongJ j = some c)) (bWrong j hf hm FL ML hF hM _ (fun e h1 h2 => no_err (checkJ_of hj) h1 h2) (fun _ h => ⟨rfl, .inl ⟨rfl, wrong_none h⟩⟩) (fun _ _ c hc L hL => ⟨rfl, .inr ⟨c, by rw [hL], hc⟩⟩)) (fun d H' h => ?_) (fun d H' h => ?_)
  · obtain ⟨rfl, h⟩ := h
    rcases h with ⟨h1, h2⟩ | ⟨c, h1, h2⟩
    · cases h1
      exact ⟨_, WkD.tup (ds := [.sl 1 [], I 9]) ⟨WkD.nil, .rfl, trivial⟩, hq [] 9 ⟨.inl ⟨rfl, rfl, h2⟩⟩⟩
    · cases h1
      exact ⟨_, .rfl, hq _ 0 ⟨.inr ⟨rfl, c, rfl, h2⟩⟩⟩
  · obtain ⟨-, h⟩ := h
    rcases h with ⟨h1, -⟩ | ⟨c, h1, -⟩ <;> cases h1
/-- Nothing found so far, as a fact that is kept. -/
structure NoneK (j : Jn) (k i : Nat) : Prop where
  none : NoneOf j k i
set_option maxRecDepth 40000 in
set_option maxHeartbeats 16000000 in
/-- BatchFewest. -/
theorem wBatchFewest (L : List D) (nums : List Int) (hL : L = nums.map I) (hl : L.length ≤ 9223372036854775807) (Q) (hq : Q (RA.ret (.v (.bool true))) []) : CallA Try.prog 5 [.sl 1 L] [] Q := by
  obtain ⟨A, hA⟩ : ∃ A, A = ar := ⟨_, rfl⟩
  have n00 : A.cmp .neq 0 0 = false := by subst hA; rfl
  have e00 : A.cmp .eql 0 0 = true := by subst hA; rfl
  have e99 : A.cmp .eql 9 9 = true := by subst hA; rfl
  refine callA_start tokT hA Try.func5 rfl rfl rfl rfl rfl fun S hS => ?_
  cbv
  refine ops_call hS [.sl 1 L] [] [] rfl rfl rfl rfl rfl rfl rfl rfl (by decide) trivial (newPotL L nums hL hl _ fun x0 => ?_)
  refine ops_go tokT hA hS ?_
  cbv
  refine ops_call hS [.b 0 0, I 5, I 1] [0] [pot x0] rfl rfl rfl rfl rfl rfl rfl rfl (by decide) ⟨rfl, trivial⟩ (kJournalOf x0 5 1 (by decide) ⟨by decide, by decide⟩ _ fun ins first ms lies truth x1 FL ML TL RL hi1 hi4 hfl hm10 hmm hg _ hF hM hT hR => ?_)
  obtain ⟨j, N, n, m, hj, md⟩ := md_of hi1 hi4 hfl hm10 hg hF hM
  have hm5 : j.moves.length ≤ 5 := by rw [hj]; show ms.length ≤ 5; omega
  have hn2 := md.n2
  have hFl := md.Fl
  have hsubj : Sub j j := ⟨rfl, rfl, md.ok, md.ok, fun s h => h⟩
  have hFi : A.fits .i64 (A.sub (A.oi (A.len FL)) 1) := xfitE hA (xsub hA _ _) (by rw [yoiL hA hFl]; omega)
  have hFe : A.sub (A.oi (A.len FL)) 1 = (n : Int) - 1 := by rw [xsub hA, yoiL hA hFl]
  have hFle : A.sub (A.oi (A.len FL)) 1 ≤ 1000000000000 := by rw [hFe]; omega
  have hcnt : ∀ (jj : Jn) bb c0 u, Sub jj j → jj.first = j.first → jj.moves.length ≤ 8 → 0 ≤ bb → (bb ≤ A.sub (A.oi (A.len FL)) 1 ∨ bb = 0) → 0 ≤ c0 → (c0 ≤ 4 ∨ c0 = 0) → 0 ≤ u → (u ≤ 1 ∨ u = 0) →
      A.fits .i64 (A.add c0 u) ∧ Sub ⟨jj.ins, jj.first, jj.moves ++ [⟨3, bb, 0, c0, A.min (A.add c0 u) 5⟩]⟩ j := fun jj bb c0 u hs hf hl h1 h2 h3 h4 h5 h6 => by
    rw [hFe] at h2
    have e1 : jj.first.length = n := by rw [hf]; exact md.n
    have e2 : A.min (A.add c0 u) 5 = c0 + u ∨ A.min (A.add c0 u) 5 = 5 := by rw [xmin hA, xadd hA]; omega
    have e3 : c0 ≤ A.min (A.add c0 u) 5 ∧ A.min (A.add c0 u) 5 ≤ 5 := by rw [xmin hA, xadd hA]; omega
    refine ⟨xfitE hA (xadd hA c0 u) (by omega), ?_⟩
    refine hs.cnt ⟨?_, ?_, h1, by show bb < (jj.first.length : Int); omega, fun h => ?_, fun h => ?_, fun _ => rfl, h3, e3.1, e3.2⟩ (by omega)
    · show (1 : Int) ≤ 3; decide
    · show (3 : Int) ≤ 3; decide
    · exact absurd (show (3 : Int) = 2 from h) (by decide)
    · exact absurd (show (3 : Int) = 2 from h) (by decide)
  refine ops_go tokT hA hS ?_
  cbv
  refine ops_call hS [.b 0 0, I 3] [0] [pot x1] rfl rfl rfl rfl rfl rfl rfl rfl (by decide) ⟨rfl, trivial⟩ (upto x1 3 (by decide) _ fun i0 x2 hi0 hi3 => ?_)
  have hi0N : IsI i0 i0.toNat := ⟨by omega⟩
  refine ops_go tokT hA hS ?_
  cbv
  refine at_code hS ?_
  refine wpa_loopG (α := Int × Nat × Int × Jn × List D) (fun q => { env := [(3, .b 0 0), (4, .b 1 0), (7, I q.1)], H := [pot q.2.2.1, .box (.agg [I ins, .sl 1 FL, .sl 5 q.2.2.2.2])], nt := 106, dfs := [] })
    (fun q => q.2.1) (fun q => q.2.1 ≤ 3 ∧ IsI q.1 q.2.1 ∧ Sub q.2.2.2.1 j ∧ q.2.2.2.1.first = j.first ∧ q.2.2.2.1.moves.length + q.2.1 ≤ 8 ∧ q.2.2.2.2 = q.2.2.2.1.moves.map mvD) (i0, i0.toNat, x2, j, ML) ⟨by show i0.toNat ≤ 3; omega, hi0N, hsubj, rfl, by show j.moves.length + i0.toNat ≤ 8; omega, md.M⟩ ?_ ?_
  · exact gs_to [0, 1] ⟨by decide, pre0, ⟨rfl, rfl, trivial⟩, ⟨rfl, rfl, rfl, trivial⟩, rfl, rfl⟩
  rintro ⟨i, k, y, jj, M⟩ ⟨u1, u2, u3, u4, u5, u6⟩
  dsimp only at u1 u2 u3 u4 u5 u6
  refine wp_go tokT hA hS ?_
  cbv
  refine bm (fun c => ?_) (fun c => ?_)
  · obtain ⟨k', hk'⟩ : ∃ k', k = k' + 1 := ⟨k - 1, by have := xgt hA c; have := u2.eq; omega⟩
    subst hk'
    have hi1 : IsI (A.sub i 1) k' := ⟨by rw [xsub hA, u2.eq]; omega⟩
    have hfi : A.fits .i64 (A.sub i 1) := xfitE hA (xsub hA _ _) (by have := u2.eq; omega)
    have hMl : M.length = jj.moves.length := by rw [u6, List.length_map]
    have hm1000 : jj.moves.length ≤ 1000 := by omega
    have hcn := fun bb c0 u h1 h2 h3 h4 h5 h6 => hcnt jj bb c0 u u3 u4 (by omega) h1 h2 h3 h4 h5 h6
    cbv
    refine ops_call hS [.b 0 0, I 4] [0] [pot y] rfl rfl rfl rfl rfl rfl rfl rfl (by decide) ⟨rfl, trivial⟩ (upto y 4 (by decide) _ fun c0 y2 hc1 hc2 => ?_)
    refine ops_go tokT hA hS ?_
    cbv
    refine draw_go tokT hA hS [0, 1, 2, 3, 4, 5, 7, 8, 9, 6, 10, 11, 12, 13, 14, 15] rfl rfl fun Dk hD => ?_
    cbv
    refine ⟨hFi, ?_⟩
    refine draw_call hA hD [.b 0 0, I (A.sub (A.oi (A.len FL)) 1)] [0] [pot y2] rfl rfl rfl rfl rfl rfl rfl rfl rfl rfl rfl (by decide) ⟨rfl, trivial⟩ (upto y2 _ hFle _ fun bb y3 hb1 hb2 => ⟨by cbv; repeat' (first | exact trivial | exact rfl | refine ⟨?_, ?_⟩), draw_on tokT hA hD ?_⟩)
    cbv
    refine draw_call hA hD [.b 0 0, I 1] [0] [pot y3] rfl rfl rfl rfl rfl rfl rfl rfl rfl rfl rfl (by decide) ⟨rfl, trivial⟩ (upto y3 1 (by decide) _ fun u y4 hw1 hw2 => ⟨by cbv; repeat' (first | exact trivial | exact rfl | refine ⟨?_, ?_⟩), draw_on tokT hA hD ?_⟩)
    obtain ⟨hf2, hsub1⟩ := hcn bb c0 u hb1 hb2 hc1 hc2 hw1 hw2
    cbv
    refine ⟨hf2, ?_⟩
    refine draw_call hA hD [I bb, I c0, I (A.min (A.add c0 u) 5)] [] [] rfl rfl rfl rfl rfl rfl rfl rfl rfl rfl rfl (by decide) trivial (lCount bb c0 _ _ ⟨by cbv; repeat' (first | exact trivial | exact rfl | refine ⟨?_, ?_⟩), draw_on tokT hA hD ?_⟩)
    cbv
    refine draw_call hA hD [.agg [I ins, .sl 1 FL, .sl 5 M], .agg [I 3, I bb, I 0, I c0, I (A.min (A.add c0 u) 5)]] [] [] rfl rfl rfl rfl rfl rfl rfl rfl rfl rfl rfl (by decide) trivial (lWithMove ins FL M ⟨3, bb, 0, c0, A.min (A.add c0 u) 5⟩ jj.moves.length hMl hm1000 _ fun M' hM' => ⟨by cbv; repeat' (first | exact trivial | exact rfl | refine ⟨?_, ?_⟩), draw_on tokT hA hD ?_⟩)
    obtain ⟨jk, hjk⟩ : ∃ y : Jn, y = ⟨jj.ins, jj.first, jj.moves ++ [⟨3, bb, 0, c0, A.min (A.add c0 u) 5⟩]⟩ := ⟨_, rfl⟩
    have hM2 : M' = jk.moves.map mvD := by rw [hM', u6, hjk, List.map_append]; rfl
    have hjf : jk.first = j.first := by rw [hjk]; exact u4
    have hjl : jk.moves.length + k' ≤ 8 := by rw [hjk]; simp; omega
    rw [← hjk] at hsub1
    clear hM' hjk
    have hk3 : k' ≤ 3 := by omega
    cbv
    refine ⟨hfi, ?_⟩
    refine gs_loop (A.sub i 1, k', y4, jk, M') [0, 1] ⟨hk3, hi1, hsub1, hjf, hjl, hM2⟩ (Nat.lt_succ_self k') ?_
    exact ⟨by decide, pre0, ⟨rfl, rfl, trivial⟩, ⟨rfl, rfl, rfl, trivial⟩, rfl, rfl⟩
  have hok := u3.ok'
  have hie : jj.ins = ins := u3.ins.trans md.ie
  have hjF : FL = jj.first.map bolD := by rw [u4]; exact md.F
  have hjl : jj.moves.length ≤ 8 := by omega
  have hjfl : jj.first.length ≤ 1152921504606846976 := by rw [u4]; exact md.fl
  have hjml : jj.moves.length ≤ 1152921504606846976 := lim (by omega)
  have hcl : (countsJ jj).length ≤ 8 := Nat.le_trans (countsL_len jj.moves 0) hjl
  have hcount : ∀ Q, (∀ CL, CL = natD (countsJ jj) → Q (RA.ret (.sl 1 CL)) []) → CallA Try.prog 33 [.agg [I ins, .sl 1 FL, .sl 5 M]] [] Q := fun Q h => by
    rw [← hie]; exact rCounts jj (by omega) FL M u6 Q h
  have hwrong : ∀ Q, (∀ WL e, WrongR jj WL e → Q (RA.ret (.tup [.sl 1 WL, I e])) []) → CallA Try.prog 23 [.agg [I ins, .sl 1 FL, .sl 5 M]] [] Q := fun Q h => by
    rw [← hie]; exact bWrongR jj hok hjfl hjml FL M hjF u6 Q h
  have hwithout : ∀ (l : List Nat) (LL : List D), LL = natD l → l.length ≤ 10 → ∀ Q, (∀ ML', ML' = (withoutJ jj l).moves.map mvD → Q (RA.ret (.agg [I ins, .sl 1 FL, .sl 5 ML'])) []) → CallA Try.prog 36 [.agg [I ins, .sl 1 FL, .sl 5 M], .sl 1 LL] [] Q := fun l LL hLL hl Q h => by
    rw [← hie] at h ⊢; exact rWithout jj (by omega) l (by omega) FL M LL u6 hLL Q h
  have hstd : ∀ (l : List Nat) (ML' : List D), ML' = (withoutJ jj l).moves.map mvD → ∀ Q, (∀ b, b = standsJ (withoutJ jj l) → Q (RA.ret (.tup [.v (.bool b), I 0])) []) → CallA Try.prog 35 [.agg [I ins, .sl 1 FL, .sl 5 ML']] [] Q := fun l ML' hML Q h => by
    rw [← hie]
    exact bStandsF (withoutJ jj l) hjfl (lim (by have := withoutL_len l jj.moves 0; show (withoutL l jj.moves 0).length ≤ _; omega)) FL ML' hjF hML Q (fun e h1 h2 => no_err (checkJ_of (hok.without l)) h1 h2) (fun _ b hb => h b hb)
  obtain ⟨cs, hcs⟩ : ∃ cs, cs = countsJ jj := ⟨_, rfl⟩
  rw [← hcs] at hcl hcount
  cbv
  refine gs_done ?_
  cbv
  refine ops_gs hS (gs_frz hA [1] ?_)
  cbv
  refine gs_done ?_
  refine ops_call hS [.agg [I ins, .sl 1 FL, .sl 5 M]] [] [] rfl rfl rfl rfl rfl rfl rfl rfl (by decide) trivial (hcount _ fun CL hCL => ?_)
  have hCl : CL.length = cs.length := by rw [hCL]; simp [natD]
  refine ops_go tokT hA hS ?_
  cbv
  refine ops_call hS [.agg [I ins, .sl 1 FL, .sl 5 M]] [] [] rfl rfl rfl rfl rfl rfl rfl rfl (by decide) trivial (hwrong _ fun WL eI hW => ?_)
  refine ops_go tokT hA hS ?_
  cbv
  refine at_code hS ?_
  refine wpa_loopG (α := Int × Nat) (fun q => { env := [(4, .cb (.agg [I ins, .sl 1 FL, .sl 5 M]) 0), (9, .sl 1 CL), (10, .sl 1 WL), (11, I eI), (12, I q.1)], H := [], nt := 106, dfs := [] })
    (fun q => cs.length + 1 - q.2) (fun q => q.2 ≤ cs.length + 1 ∧ IsI q.1 q.2 ∧ NoneK jj q.2 0) (0, 0) ⟨Nat.zero_le _, ⟨rfl⟩, ⟨noneOf_0 jj⟩⟩ ?_ ?_
  · exact gs_to [] ⟨by decide, pre0, trivial, ⟨rfl, rfl, rfl, rfl, rfl, trivial⟩, rfl, rfl⟩
  rintro ⟨mi, mk⟩ ⟨v1, v2, v3⟩
  dsimp only at v1 v2 v3
  have hyes : A.cmp .leq mi (A.oi (A.len CL)) = true → mk ≤ cs.length := fun c => by rw [yoiL hA hCl] at c; have := xle hA c; have := v2.eq; omega
  have hno : A.cmp .leq mi (A.oi (A.len CL)) = false → cs.length < mk := fun c => by rw [yoiL hA hCl] at c; have := xnle hA c; have := v2.eq; omega
  refine wp_go tokT hA hS ?_
  cbv
  refine bm (fun c2 => ?_) (fun c2 => ?_)
  · have hmk := hyes c2
    have hfm := yfit1 hA v2 (by omega)
    have hv2 := ysucc hA v2
    have hms : cs.length + 1 - (mk + 1) < cs.length + 1 - mk := by omega
    obtain ⟨ch, hch⟩ : ∃ ch, ch = choicesL cs mk := ⟨_, rfl⟩
    have hchl : ch.length ≤ 1024 := by rw [hch]; exact Nat.le_trans (choicesL_len cs mk) (Nat.le_trans (Nat.pow_le_pow_right (by decide) (show cs.length ≤ 10 by omega)) (by decide))
    have hchs := fun Q h => rChoices mk cs (by omega) CL hCL mi v2 (by omega) Q h
    rw [← hch] at hchs
    cbv
    refine ops_call hS [.sl 1 CL, I mi] [] [] rfl rfl rfl rfl rfl rfl rfl rfl (by decide) trivial (hchs _ fun OL hOL => ?_)
    have hOl : OL.length = ch.length := by rw [hOL, chD_len]
    refine ops_go tokT hA hS ?_
    cbv
    refine at_code hS ?_
    refine wpa_loopG (α := Int × Nat) (fun q => { env := [(4, .cb (.agg [I ins, .sl 1 FL, .sl 5 M]) 0), (9, .sl 1 CL), (10, .sl 1 WL), (11, I eI), (12, I mi), (13, .sl 1 OL), (14, I q.1)], H := [], nt := 106, dfs := [] })
      (fun q => ch.length - q.2) (fun q => q.2 ≤ ch.length ∧ IsI q.1 q.2 ∧ NoneK jj mk q.2) (0, 0) ⟨Nat.zero_le _, ⟨rfl⟩, v3⟩ ?_ ?_
    · exact gs_to [] ⟨by decide, pre0, trivial, ⟨rfl, rfl, rfl, rfl, rfl, rfl, rfl, trivial⟩, rfl, rfl⟩
    rintro ⟨ti, t⟩ ⟨w1, w2, w3⟩
    dsimp only at w1 w2 w3
    have hyes2 : A.cmp .lss ti (A.oi (A.len OL)) = true → t < ch.length := fun c => yltL hA hOl w2 c
    have hno2 : A.cmp .lss ti (A.oi (A.len OL)) = false → t = ch.length := fun c => by have := ynltL hA hOl w2 c; omega
    refine wp_go tokT hA hS ?_
    cbv
    refine bm (fun c3 => ?_) (fun c3 => ?_)
    · have ht := hyes2 c3
      obtain ⟨p, hp⟩ : ∃ p, ch[t]? = some p := ⟨_, List.getElem?_eq_getElem ht⟩
      obtain ⟨PL, hPL⟩ : ∃ PL, PL = natD p := ⟨_, rfl⟩
      have gO := yget hA w2 (show OL[t]? = some (.sl 1 PL) by rw [hOL, hPL]; simp [chD, hp])
      have iO := yinbL hA hOl w2 ht
      have hft := yfit1 hA w2 (by omega)
      have hw2 := ysucc hA w2
      have hms2 : ch.length - (t + 1) < ch.length - t := by omega
      have hpm := choicesL_mem cs mk p (by rw [← hch]; exact List.mem_of_getElem? hp)
      have hpl : p.length ≤ 10 := by omega
      have hp' : (choicesL (countsJ jj) mk)[t]? = some p := by rw [← hcs, ← hch]; exact hp
      have hnext : standsJ (withoutJ jj p) = false → NoneK jj mk (t + 1) := fun h => ⟨w3.none.next hp' h⟩
      have hhit : standsJ (withoutJ jj p) = true → eI = 0 ∧ WL = PL := fun h => by
        have hw := w3.none.hit (by rw [← hcs]; exact hmk) hp' h
        rcases hW.or with ⟨-, -, h3⟩ | ⟨h1, c, h2, h3⟩
        · rw [hw] at h3; cases h3
        · rw [hw] at h3; cases h3
          exact ⟨h1, h2.trans hPL.symm⟩
      have hwo := fun Q h => hwithout p PL hPL hpl Q h
      have hsame := fun Q => kSameInts (p.map fun i : Nat => (i : Int)) (p.map fun i : Nat => (i : Int)) PL PL (by rw [hPL, natD, List.map_map]; rfl) (by rw [hPL, natD, List.map_map]; rfl) (by simp; omega) true (by simp) Q
      cbv
      refine draw_go tokT hA hS [0, 1, 2, 3, 4, 5, 6, 7, 8, 9, 10, 11] rfl rfl fun Dk hD => ?_
      cbv
      refine ⟨iO, ⟨_, gO, ?_⟩⟩
      cbv
      refine draw_call hA hD [.agg [I ins, .sl 1 FL, .sl 5 M], .sl 1 PL] [] [] rfl rfl rfl rfl rfl rfl rfl rfl rfl rfl rfl (by decide) trivial (hwo _ fun M' hM' => ⟨by cbv; repeat' (first | exact trivial | exact rfl | exact ⟨_, gO, rfl⟩ | exact iO | refine ⟨?_, ?_⟩), draw_on tokT hA hD ?_⟩)
      cbv
      refine draw_call hA hD [.agg [I ins, .sl 1 FL, .sl 5 M']] [] [] rfl rfl rfl rfl rfl rfl rfl rfl rfl rfl rfl (by decide) trivial (hstd p M' hM' _ fun b hb => ⟨by cbv; repeat' (first | exact trivial | exact rfl | exact ⟨_, gO, rfl⟩ | exact iO | refine ⟨?_, ?_⟩), draw_on tokT hA hD ?_⟩)
      cbv
      refine bmF n00 ?_
      cbv
      cases b with
      | true =>
        obtain ⟨he0, hWP⟩ := hhit hb.symm
        subst he0
        rw [hWP]
        cbv
        refine bmT e00 ?_
        cbv
        refine ⟨iO, ⟨_, gO, ?_⟩⟩
        cbv
        refine ops_callG hS (b := true) rfl rfl rfl rfl rfl rfl rfl rfl (fun _ => ⟨[], _, [.sl 1 PL, .sl 1 PL], [], [], rfl, rfl, rfl, by decide, trivial, hsame _ ?_⟩) (fun h => absurd rfl h)
        refine ops_go tokT hA hS ?_
        cbv
        refine ops_callG hS (b := true) rfl rfl rfl rfl rfl rfl rfl rfl (fun _ => ⟨[], _, [], [], [], rfl, rfl, rfl, by decide, trivial, lStored _ ?_⟩) (fun h => absurd rfl h)
        refine ops_go tokT hA hS ?_
        cbv
        refine gs_done ?_
        cbv
        refine gs_done ?_
        cbv
        exact gh_view [] (by decide) pre0 (H' := []) (d' := .v (.bool true)) trivial rfl (gh_done hq)
      | false =>
        have hz := hnext hb.symm
        cbv
        refine ⟨hft, ?_⟩
        refine gs_loop (A.add ti 1, t + 1) [] ⟨ht, hw2, hz⟩ hms2 ?_
        exact ⟨by decide, pre0, trivial, ⟨rfl, rfl, rfl, rfl, rfl, rfl, rfl, trivial⟩, rfl, rfl⟩
    · have ht := hno2 c3
      have hz : NoneK jj (mk + 1) 0 := ⟨w3.none.more (by rw [← hcs, ← hch, ht]; exact Nat.le_refl _)⟩
      have hmk1 : mk + 1 ≤ cs.length + 1 := by omega
      cbv
      refine gs_done ?_
      cbv
      refine ⟨hfm, ?_⟩
      refine gs_loop (A.add mi 1, mk + 1) [] ⟨hmk1, hv2, hz⟩ hms ?_
      exact ⟨by decide, pre0, trivial, ⟨rfl, rfl, rfl, rfl, rfl, trivial⟩, rfl, rfl⟩
  · have hmk := hno c2
    have hnone := v3.none.all (by rw [← hcs]; exact hmk)
    have hWn : eI = 9 ∧ WL = [] := by
      rcases hW.or with ⟨h1, h2, -⟩ | ⟨-, c, -, h3⟩
      · exact ⟨h1, h2⟩
      · rw [hnone] at h3; cases h3
    obtain ⟨he9, hW0⟩ := hWn
    subst he9
    subst hW0
    have e0 : A.cmp .eql (A.oi (A.len [])) 0 = true := by subst hA; rfl
    cbv
    refine gs_done ?_
    cbv
    refine bmT e99 ?_
    cbv
    refine ops_gs hS (gs_weak 103 (.v (.bool true)) rfl (WkD.eq (congrArg (fun b => D.v (.bool b)) e0)) (gs_done ?_))
    refine ops_callG hS (b := true) rfl rfl rfl rfl rfl rfl rfl rfl (fun _ => ⟨[], _, [], [], [], rfl, rfl, rfl, by decide, trivial, lStored _ ?_⟩) (fun h => absurd rfl h)
    refine ops_go tokT hA hS ?_
    cbv
    exact gh_view [] (by decide) pre0 (H' := []) (d' := .v (.bool true)) trivial rfl (gh_done hq)
end Go.Proofs.Ytecfpfhkicapeaa
