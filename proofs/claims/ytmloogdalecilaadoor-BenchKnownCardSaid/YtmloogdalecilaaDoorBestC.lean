/- Part BestC of the proofs about the benches of the accordion maker: see the last text of the claim for what is proved. -/
import Derived.Test.YtmloogdalecilaaDoorBestB
import Derived.Test.YtmloogdalecilaaDoorFirstA
set_option linter.unusedVariables false
set_option linter.unusedSimpArgs false
set_option linter.unnecessarySimpa false
set_option linter.constructorNameAsVariable false

/-! D53 -/
namespace Go.Proofs.YtmloogdalecilaaDoor
open Go Go.Abs Go.Proofs

/-- The place of the least so far. -/
structure LeastAt (num : List Nat → Int) (ps : List (List Nat)) (k at_ : Nat) : Prop where
  lt : at_ < ps.length
  zero : k = 0 → at_ = 0
  pos : 0 < k → ∀ qa, ps[at_]? = some qa → leastS num (ps.take k) = (true, qa, num qa)

theorem least_step {num : List Nat → Int} {ps : List (List Nat)} {k a : Nat} (h : LeastAt num ps k a) {qk qa : List Nat} (hk : ps[k]? = some qk) (ha : ps[a]? = some qa) :
    (num qk < num qa → LeastAt num ps (k + 1) k) ∧ (num qa ≤ num qk → LeastAt num ps (k + 1) a) := by
  have hkl := (List.getElem?_eq_some_iff.1 hk).1
  have e : ps.take (k + 1) = ps.take k ++ [qk] := by rw [List.take_add_one, hk]; rfl
  refine ⟨fun hl => ⟨hkl, fun h => by omega, fun _ q hq => ?_⟩, fun hl => ⟨h.lt, fun h => by omega, fun _ q hq => ?_⟩⟩
  · rw [hk] at hq; cases hq
    rw [e, leastS_snoc, if_pos]
    by_cases h0 : k = 0
    · have := h.zero h0
      subst this; subst h0
      rw [ha] at hk; cases hk; omega
    · rw [h.pos (by omega) qa ha]; exact .inr hl
  · rw [ha] at hq; cases hq
    rw [e, leastS_snoc]
    by_cases h0 : k = 0
    · have := h.zero h0
      subst this; subst h0
      rw [ha] at hk; cases hk
      rw [if_pos (.inl rfl)]
    · rw [h.pos (by omega) qa ha, if_neg]
      rintro (h | h)
      · cases h
      · simp only at h; omega

theorem shop_ok {s : Sh} (hs : Fin s) (h : chkS s = 0) : ShopOk s := ⟨h, (chkS_val h).len, hs⟩

set_option maxRecDepth 20000 in
set_option maxHeartbeats 4000000 in
/-- Best, the documents' own. -/
theorem rBest (s : Sh) (hs : Fin s) (TL : List D) (hT : TL = s.tasks.map taskD) (Q) (h1 : chkS s ≠ 0 → Q (RA.ret (.tup [.v (.slice none 0 0), I 0, I (chkS s)])) []) (h2 : ShopOk s → ∀ PL n, PL = planL (bestS s).2.1 → n = (bestS s).2.2 → Q (RA.ret (.tup [.sl 1 PL, I n, I 0])) []) :
    CallA Tryd.prog 56 [.agg [I s.benches, .sl 3 TL]] [] Q := by
  obtain ⟨A, hA⟩ : ∃ A, A = ar := ⟨_, rfl⟩
  obtain ⟨z, hz⟩ : ∃ z, z = chkS s := ⟨_, rfl⟩
  refine callA_start tokT hA Tryd.func56 rfl rfl rfl rfl rfl fun S hS => ?_
  cbv
  refine ops_call hS [.agg [I s.benches, .sl 3 TL]] [] [] rfl rfl rfl rfl rfl rfl rfl rfl (by decide) trivial (rCheck s hs TL hT z hz _ ?_)
  refine ops_go tokT hA hS ?_
  cbv
  refine bm (fun c => ?_) (fun c => ?_)
  · have hq := h1 (by rw [← hz]; exact xne hA c)
    rw [← hz] at hq
    cbv
    exact gh_view [] (by decide) pre0 (H' := []) (d' := .tup [.v (.slice none 0 0), I 0, I z]) trivial rfl (gh_done hq)
  have hok : ShopOk s := shop_ok hs (by rw [← hz]; exact xnne hA c)
  have hv := chkS_val hok.chk
  have hlen := hv.len
  have hsum := hv.sum
  replace h2 := h2 hok
  obtain ⟨N, hN⟩ : ∃ N, N = s.tasks.length := ⟨_, rfl⟩
  cbv
  refine ops_call hS [.agg [I s.benches, .sl 3 TL], .v (.slice none 0 0)] [] [] rfl rfl rfl rfl rfl rfl rfl rfl (by decide) trivial
    (callA_weak (as' := [.agg [I s.benches, .sl 3 TL], .sl 1 []]) ⟨.rfl, WkD.nil, trivial⟩
      (kPlans s hv TL hT N hN (nWorks s.tasks) (leftS s) [] (leftS_sum s) (leftS_len hlen) (by simp; omega) (fun i hi => leftS_out (by omega)) (fun i t h => by rw [leftS_at h]; simp) [] rfl _ fun RL hRL => ?_))
  obtain ⟨ps, hps⟩ : ∃ ps, ps = plansS s := ⟨_, rfl⟩
  have hRL2 : RL = ps.map fun p => .sl 1 (planL p) := by rw [hRL, plansD, hps, plansS, hN]; simp
  obtain ⟨M, hM⟩ : ∃ M, M = ps.length := ⟨_, rfl⟩
  have hRl : RL.length = M := by rw [hRL2, hM]; simp
  have hMb : M ≤ 70000 := by
    have h1 := plansF_len N (nWorks s.tasks) (leftS s)
    have h2 : N ^ nWorks s.tasks ≤ 4 ^ 8 := Nat.le_trans (Nat.pow_le_pow_left (by omega) _) (Nat.pow_le_pow_right (by omega) hsum)
    have h3 : ps.length = (plansF N (nWorks s.tasks) (leftS s)).length := by rw [hps, plansS, hN]
    have : (4 : Nat) ^ 8 = 65536 := by decide
    omega
  have hM0 : 0 < M := by rw [hM, hps]; exact List.length_pos_iff.2 (plansS_ne s)
  have hat : ∀ k, k < M → ∃ q, ps[k]? = some q ∧ PlanOk s q := fun k hk => by
    obtain ⟨q, hq⟩ : ∃ q, ps[k]? = some q := ⟨_, List.getElem?_eq_getElem (by omega)⟩
    exact ⟨q, hq, plansS_ok hv (by rw [← hps]; exact List.mem_of_getElem? hq)⟩
  have hql : ∀ q, PlanOk s q → q.length ≤ 20 := fun q hq => by rw [hq.len]; omega
  refine ops_go tokT hA hS ?_
  cbv
  refine at_code hS ?_
  refine wpa_loopG (α := Int × Nat × Int × Nat) (fun q => { env := [(1, .b 0 0), (6, .sl 1 RL), (7, I q.2.2.1), (8, I q.1)], H := [.box (.agg [I s.benches, .sl 3 TL])], nt := 49, dfs := [] })
    (fun q => M - q.2.1) (fun q => q.2.1 ≤ M ∧ IsI q.1 q.2.1 ∧ IsI q.2.2.1 q.2.2.2 ∧ LeastAt (worst s) ps q.2.1 q.2.2.2) (0, 0, 0, 0) ⟨Nat.zero_le _, ⟨rfl⟩, ⟨rfl⟩, ⟨by show 0 < ps.length; omega, fun _ => rfl, fun h => by simp at h⟩⟩ ?_ ?_
  · exact gs_to [0] ⟨by decide, pre0, ⟨rfl, trivial⟩, ⟨rfl, rfl, rfl, rfl, trivial⟩, rfl, rfl⟩
  rintro ⟨i, k, a, an⟩ ⟨u1, u2, u3, u4⟩
  dsimp only at u1 u2 u3 u4
  obtain ⟨qa, hqa, hoa⟩ := hat an (by have := u4.lt; omega)
  obtain ⟨AL, hAL⟩ : ∃ AL, AL = planL qa := ⟨_, rfl⟩
  have hRa : RL[an]? = some (.sl 1 AL) := by rw [hRL2]; simp [hqa, hAL]
  have i2 := yinbL hA hRl u3 (by have := u4.lt; omega)
  have g2 := yget hA u3 hRa
  refine wp_goF tokT hA hS [] ?_
  cbv
  refine bm (fun c => ?_) (fun c => ?_)
  · have hk : k < M := yltL hA hRl u2 c
    obtain ⟨qk, hqk, hok2⟩ := hat k hk
    obtain ⟨KL, hKL⟩ : ∃ KL, KL = planL qk := ⟨_, rfl⟩
    have hRk : RL[k]? = some (.sl 1 KL) := by rw [hRL2]; simp [hqk, hKL]
    have i1 := yinbL hA hRl u2 hk
    have g1 := yget hA u2 hRk
    have hf := yfit1 hA u2 (by omega)
    have hu2 := ysucc hA u2
    have hms : M - (k + 1) < M - k := by omega
    obtain ⟨st1, st2⟩ := least_step u4 hqk hqa
    cbv
    refine draw_go tokT hA hS [0, 1, 2, 3, 4, 7, 8, 9, 10, 11, 5, 6, 12, 13, 14] rfl rfl fun Dk1 hD1 => ?_
    cbv
    refine ⟨i1, ⟨_, g1, ?_⟩⟩
    cbv
    refine ⟨i2, ⟨_, g2, ?_⟩⟩
    cbv
    refine draw_call hA hD1 [.agg [I s.benches, .sl 3 TL], .sl 1 KL] [] [] rfl rfl rfl rfl rfl rfl rfl rfl rfl rfl rfl (by decide) trivial (rLast s hv qk hok2.le (hql _ hok2) TL KL hT hKL _ fun ln1 n1 hn1 => ⟨by cbv; repeat' (first | exact trivial | exact Need.mk ⟨_, g2, rfl⟩ | exact Need.mk ⟨_, g1, rfl⟩ | refine ⟨?_, ?_⟩), draw_on tokT hA hD1 ?_⟩)
    have en1 : n1 = worst s qk := by rw [worst, hn1]
    cbv
    refine draw_call hA hD1 [.agg [I s.benches, .sl 3 TL], .sl 1 AL] [] [] rfl rfl rfl rfl rfl rfl rfl rfl rfl rfl rfl (by decide) trivial (rLast s hv qa hoa.le (hql _ hoa) TL AL hT hAL _ fun ln2 n2 hn2 => ⟨by cbv; repeat' (first | exact trivial | exact Need.mk ⟨_, g2, rfl⟩ | exact Need.mk ⟨_, g1, rfl⟩ | refine ⟨?_, ?_⟩), draw_on tokT hA hD1 ?_⟩)
    have en2 : n2 = worst s qa := by rw [worst, hn2]
    cbv
    refine bm (fun c2 => ?_) (fun c2 => ?_)
    · have hl := st1 (by rw [← en1, ← en2]; exact xlt hA c2)
      cbv
      refine ⟨hf, ?_⟩
      refine gs_loop (A.add i 1, k + 1, i, k) [0] ⟨hk, hu2, u2, hl⟩ hms ?_
      exact ⟨by decide, pre0, ⟨rfl, trivial⟩, ⟨rfl, rfl, rfl, rfl, trivial⟩, rfl, rfl⟩
    · have hl := st2 (by rw [← en1, ← en2]; exact xnlt hA c2)
      cbv
      refine ⟨hf, ?_⟩
      refine gs_loop (A.add i 1, k + 1, a, an) [0] ⟨hk, hu2, u3, hl⟩ hms ?_
      exact ⟨by decide, pre0, ⟨rfl, trivial⟩, ⟨rfl, rfl, rfl, rfl, trivial⟩, rfl, rfl⟩
  · have hk : k = M := by have := ynltL hA hRl u2 c; omega
    have hb : bestS s = (true, qa, worst s qa) := by
      have := u4.pos (by omega) qa hqa
      rw [List.take_of_length_le (by omega), hps] at this
      exact this
    cbv
    refine gs_done ?_
    cbv
    refine draw_go tokT hA hS [0, 1, 2, 3, 4, 5, 6, 7, 8, 9, 10, 11, 12, 13] rfl rfl fun Dk2 hD2 => ?_
    cbv
    refine ⟨i2, ⟨_, g2, ?_⟩⟩
    cbv
    refine ⟨i2, ⟨_, g2, ?_⟩⟩
    cbv
    refine draw_call hA hD2 [.agg [I s.benches, .sl 3 TL], .sl 1 AL] [] [] rfl rfl rfl rfl rfl rfl rfl rfl rfl rfl rfl (by decide) trivial (rLast s hv qa hoa.le (hql _ hoa) TL AL hT hAL _ fun ln3 n3 hn3 => ⟨by cbv; repeat' (first | exact trivial | exact Need.mk ⟨_, g2, rfl⟩ | refine ⟨?_, ?_⟩), draw_on tokT hA hD2 ?_⟩)
    have en3 : n3 = worst s qa := by rw [worst, hn3]
    cbv
    exact gh_view [] (by decide) pre0 (H' := []) (d' := .tup [.sl 1 AL, I n3, I 0]) trivial rfl (gh_done (h2 AL n3 (by rw [hb]; exact hAL) (by rw [hb]; exact en3)))

set_option maxRecDepth 20000 in
set_option maxHeartbeats 4000000 in
/-- Prompt, the documents' own. -/
theorem rPrompt (s : Sh) (hs : Fin s) (TL : List D) (hT : TL = s.tasks.map taskD) (Q) (h1 : chkS s ≠ 0 → Q (RA.ret (.tup [.v (.slice none 0 0), I 0, I (chkS s)])) []) (h2 : ShopOk s → ∀ PL n, PL = planL (promptS s).2.1 → n = (promptS s).2.2 → Q (RA.ret (.tup [.sl 1 PL, I n, I 0])) []) :
    CallA Tryd.prog 58 [.agg [I s.benches, .sl 3 TL]] [] Q := by
  obtain ⟨A, hA⟩ : ∃ A, A = ar := ⟨_, rfl⟩
  obtain ⟨z, hz⟩ : ∃ z, z = chkS s := ⟨_, rfl⟩
  refine callA_start tokT hA Tryd.func58 rfl rfl rfl rfl rfl fun S hS => ?_
  cbv
  refine ops_call hS [.agg [I s.benches, .sl 3 TL]] [] [] rfl rfl rfl rfl rfl rfl rfl rfl (by decide) trivial (rCheck s hs TL hT z hz _ ?_)
  refine ops_go tokT hA hS ?_
  cbv
  refine bm (fun c => ?_) (fun c => ?_)
  · have hq := h1 (by rw [← hz]; exact xne hA c)
    rw [← hz] at hq
    cbv
    exact gh_view [] (by decide) pre0 (H' := []) (d' := .tup [.v (.slice none 0 0), I 0, I z]) trivial rfl (gh_done hq)
  have hok : ShopOk s := shop_ok hs (by rw [← hz]; exact xnne hA c)
  have hv := chkS_val hok.chk
  have hlen := hv.len
  have hsum := hv.sum
  replace h2 := h2 hok
  obtain ⟨N, hN⟩ : ∃ N, N = s.tasks.length := ⟨_, rfl⟩
  cbv
  refine ops_call hS [.agg [I s.benches, .sl 3 TL], .v (.slice none 0 0)] [] [] rfl rfl rfl rfl rfl rfl rfl rfl (by decide) trivial
    (callA_weak (as' := [.agg [I s.benches, .sl 3 TL], .sl 1 []]) ⟨.rfl, WkD.nil, trivial⟩
      (kPlans s hv TL hT N hN (nWorks s.tasks) (leftS s) [] (leftS_sum s) (leftS_len hlen) (by simp; omega) (fun i hi => leftS_out (by omega)) (fun i t h => by rw [leftS_at h]; simp) [] rfl _ fun RL hRL => ?_))
  obtain ⟨ps, hps⟩ : ∃ ps, ps = plansS s := ⟨_, rfl⟩
  have hRL2 : RL = ps.map fun p => .sl 1 (planL p) := by rw [hRL, plansD, hps, plansS, hN]; simp
  obtain ⟨M, hM⟩ : ∃ M, M = ps.length := ⟨_, rfl⟩
  have hRl : RL.length = M := by rw [hRL2, hM]; simp
  have hMb : M ≤ 70000 := by
    have h1 := plansF_len N (nWorks s.tasks) (leftS s)
    have h2 : N ^ nWorks s.tasks ≤ 4 ^ 8 := Nat.le_trans (Nat.pow_le_pow_left (by omega) _) (Nat.pow_le_pow_right (by omega) hsum)
    have h3 : ps.length = (plansF N (nWorks s.tasks) (leftS s)).length := by rw [hps, plansS, hN]
    have : (4 : Nat) ^ 8 = 65536 := by decide
    omega
  have hM0 : 0 < M := by rw [hM, hps]; exact List.length_pos_iff.2 (plansS_ne s)
  have hat : ∀ k, k < M → ∃ q, ps[k]? = some q ∧ PlanOk s q := fun k hk => by
    obtain ⟨q, hq⟩ : ∃ q, ps[k]? = some q := ⟨_, List.getElem?_eq_getElem (by omega)⟩
    exact ⟨q, hq, plansS_ok hv (by rw [← hps]; exact List.mem_of_getElem? hq)⟩
  have hql : ∀ q, PlanOk s q → q.length ≤ 20 := fun q hq => by rw [hq.len]; omega
  refine ops_go tokT hA hS ?_
  cbv
  refine at_code hS ?_
  refine wpa_loopG (α := Int × Nat × Int × Nat) (fun q => { env := [(1, .b 0 0), (6, .sl 1 RL), (7, I q.2.2.1), (8, I q.1)], H := [.box (.agg [I s.benches, .sl 3 TL])], nt := 46, dfs := [] })
    (fun q => M - q.2.1) (fun q => q.2.1 ≤ M ∧ IsI q.1 q.2.1 ∧ IsI q.2.2.1 q.2.2.2 ∧ LeastAt (lateC s) ps q.2.1 q.2.2.2) (0, 0, 0, 0) ⟨Nat.zero_le _, ⟨rfl⟩, ⟨rfl⟩, ⟨by show 0 < ps.length; omega, fun _ => rfl, fun h => by simp at h⟩⟩ ?_ ?_
  · exact gs_to [0] ⟨by decide, pre0, ⟨rfl, trivial⟩, ⟨rfl, rfl, rfl, rfl, trivial⟩, rfl, rfl⟩
  rintro ⟨i, k, a, an⟩ ⟨u1, u2, u3, u4⟩
  dsimp only at u1 u2 u3 u4
  obtain ⟨qa, hqa, hoa⟩ := hat an (by have := u4.lt; omega)
  obtain ⟨AL, hAL⟩ : ∃ AL, AL = planL qa := ⟨_, rfl⟩
  have hRa : RL[an]? = some (.sl 1 AL) := by rw [hRL2]; simp [hqa, hAL]
  have i2 := yinbL hA hRl u3 (by have := u4.lt; omega)
  have g2 := yget hA u3 hRa
  refine wp_goF tokT hA hS [] ?_
  cbv
  refine bm (fun c => ?_) (fun c => ?_)
  · have hk : k < M := yltL hA hRl u2 c
    obtain ⟨qk, hqk, hok2⟩ := hat k hk
    obtain ⟨KL, hKL⟩ : ∃ KL, KL = planL qk := ⟨_, rfl⟩
    have hRk : RL[k]? = some (.sl 1 KL) := by rw [hRL2]; simp [hqk, hKL]
    have i1 := yinbL hA hRl u2 hk
    have g1 := yget hA u2 hRk
    have hf := yfit1 hA u2 (by omega)
    have hu2 := ysucc hA u2
    have hms : M - (k + 1) < M - k := by omega
    obtain ⟨st1, st2⟩ := least_step u4 hqk hqa
    cbv
    refine draw_go tokT hA hS [0, 1, 2, 3, 4, 6, 7, 8, 9, 10, 5, 11, 12] rfl rfl fun Dk1 hD1 => ?_
    cbv
    refine ⟨i1, ⟨_, g1, ?_⟩⟩
    cbv
    refine ⟨i2, ⟨_, g2, ?_⟩⟩
    cbv
    refine draw_call hA hD1 [.agg [I s.benches, .sl 3 TL], .sl 1 KL] [] [] rfl rfl rfl rfl rfl rfl rfl rfl rfl rfl rfl (by decide) trivial (rLate s hv qk hok2.le (hql _ hok2) TL KL hT hKL _ fun n1 en1 => ⟨by cbv; repeat' (first | exact trivial | exact Need.mk ⟨_, g2, rfl⟩ | exact Need.mk ⟨_, g1, rfl⟩ | refine ⟨?_, ?_⟩), draw_on tokT hA hD1 ?_⟩)
    cbv
    refine draw_call hA hD1 [.agg [I s.benches, .sl 3 TL], .sl 1 AL] [] [] rfl rfl rfl rfl rfl rfl rfl rfl rfl rfl rfl (by decide) trivial (rLate s hv qa hoa.le (hql _ hoa) TL AL hT hAL _ fun n2 en2 => ⟨by cbv; repeat' (first | exact trivial | exact Need.mk ⟨_, g2, rfl⟩ | exact Need.mk ⟨_, g1, rfl⟩ | refine ⟨?_, ?_⟩), draw_on tokT hA hD1 ?_⟩)
    cbv
    refine bm (fun c2 => ?_) (fun c2 => ?_)
    · have hl := st1 (by rw [← en1, ← en2]; exact xlt hA c2)
      cbv
      refine ⟨hf, ?_⟩
      refine gs_loop (A.add i 1, k + 1, i, k) [0] ⟨hk, hu2, u2, hl⟩ hms ?_
      exact ⟨by decide, pre0, ⟨rfl, trivial⟩, ⟨rfl, rfl, rfl, rfl, trivial⟩, rfl, rfl⟩
    · have hl := st2 (by rw [← en1, ← en2]; exact xnlt hA c2)
      cbv
      refine ⟨hf, ?_⟩
      refine gs_loop (A.add i 1, k + 1, a, an) [0] ⟨hk, hu2, u3, hl⟩ hms ?_
      exact ⟨by decide, pre0, ⟨rfl, trivial⟩, ⟨rfl, rfl, rfl, rfl, trivial⟩, rfl, rfl⟩
  · have hk : k = M := by have := ynltL hA hRl u2 c; omega
    have hb : promptS s = (true, qa, lateC s qa) := by
      have := u4.pos (by omega) qa hqa
      rw [List.take_of_length_le (by omega), hps] at this
      exact this
    cbv
    refine gs_done ?_
    cbv
    refine draw_go tokT hA hS [0, 1, 2, 3, 4, 5, 6, 7, 8, 9, 10, 11, 12] rfl rfl fun Dk2 hD2 => ?_
    cbv
    refine ⟨i2, ⟨_, g2, ?_⟩⟩
    cbv
    refine ⟨i2, ⟨_, g2, ?_⟩⟩
    cbv
    refine draw_call hA hD2 [.agg [I s.benches, .sl 3 TL], .sl 1 AL] [] [] rfl rfl rfl rfl rfl rfl rfl rfl rfl rfl rfl (by decide) trivial (rLate s hv qa hoa.le (hql _ hoa) TL AL hT hAL _ fun n3 en3 => ⟨by cbv; repeat' (first | exact trivial | exact Need.mk ⟨_, g2, rfl⟩ | refine ⟨?_, ?_⟩), draw_on tokT hA hD2 ?_⟩)
    cbv
    exact gh_view [] (by decide) pre0 (H' := []) (d' := .tup [.sl 1 AL, I n3, I 0]) trivial rfl (gh_done (h2 AL n3 (by rw [hb]; exact hAL) (by rw [hb]; exact en3)))

end Go.Proofs.YtmloogdalecilaaDoor
