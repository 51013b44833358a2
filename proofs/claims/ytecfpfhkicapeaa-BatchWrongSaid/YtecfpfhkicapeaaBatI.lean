/- Part BatI of the proofs about the benches of the accordion maker: see the last text of the claim for what is proved. -/
import Derived.Test.YtecfpfhkicapeaaBatD
import Derived.Test.YtecfpfhkicapeaaBatH
import Derived.Test.YtecfpfhkicapeaaSaysB
set_option linter.unusedVariables false
set_option linter.unusedSimpArgs false
set_option linter.unnecessarySimpa false
set_option linter.constructorNameAsVariable false

namespace Go.Proofs.Ytecfpfhkicapeaa
open Go Go.Abs Go.Proofs Go.Batch
end Go.Proofs.Ytecfpfhkicapeaa

namespace Go.Proofs.Ytecfpfhkicapeaa
open Go Go.Abs Go.Proofs Go.Batch
theorem has_all : ∀ (g : Fin 16) (k : Fin 4), ar.cmp .eql (ar.bits .and .i64 (ar.shift .shr .i64 (g.val : Int) (k.val : Int)) 1) 1 = hasB (g.val : Int) k.val := by decide +kernel
theorem bHasB (g n : Int) (k : Nat) (hg : 0 ≤ g ∧ g ≤ 15) (hn : IsI n k) (hk : k < 4) (r : Bool) (hr : r = hasB g k) (Q) (hq : Q (RA.ret (.v (.bool r))) []) : CallA Try.prog 111 [I g, I n] [] Q := by
  obtain ⟨A, hA⟩ : ∃ A, A = ar := ⟨_, rfl⟩
  have hnn : A.nneg n := by subst hA; have := hn.eq; show 0 ≤ n; omega
  have hz : A.cmp .eql (A.bits .and .i64 (A.shift .shr .i64 g n) 1) 1 = r := by
    have := has_all ⟨g.toNat, by omega⟩ ⟨k, hk⟩
    have e1 : ((g.toNat : Nat) : Int) = g := by omega
    simp only [e1] at this
    subst hA
    rw [hn.eq, hr]
    exact this
  refine callA_start tokT hA Try.func111 rfl rfl rfl rfl rfl fun S hS => ?_
  cbv
  refine ⟨hnn, ?_⟩
  refine gh_view [] (by decide) pre0 (H' := []) (d' := .v (.bool (A.cmp .eql (A.bits .and .i64 (A.shift .shr .i64 g n) 1) 1))) trivial rfl (gh_done ?_)
  rw [hz]; exact hq
theorem tkHasOk (i0 g : Int) (hg : 0 ≤ g ∧ g ≤ 15) : TookOk 110 [.cb (I i0) 0, .cb (I g) 0] (tkHas g i0) := by
  refine ⟨.inr (.inr ⟨_, _, rfl⟩), tkB_has _ _, fun x i b bi n h1 h2 h3 h4 h5 h6 h7 h8 r hr Q hq => ?_⟩
  obtain ⟨A, hA⟩ : ∃ A, A = ar := ⟨_, rfl⟩
  obtain ⟨hb, hhb⟩ : ∃ hb, hb = hasB g b := ⟨_, rfl⟩
  have r1 : i = i0 → hb = true → r = 1 := fun h h' => by rw [hr]; unfold tkHas; rw [if_pos ⟨h, hhb.symm.trans h'⟩]
  have r2 : i = i0 → hb = false → r = x := fun h h' => by rw [hr]; unfold tkHas; rw [if_neg (fun k => by rw [← hhb, h'] at k; cases k.2)]
  have r3 : i ≠ i0 → r = x := fun h => by rw [hr]; unfold tkHas; rw [if_neg (fun k => h k.1)]
  have hw := fun Q => bHasB g bi b hg h1 h2 hb hhb Q
  refine callA_start tokT hA Try.func110 rfl rfl rfl rfl rfl fun S hS => ?_
  cbv
  refine bm (fun c1 => ?_) (fun c1 => ?_)
  · have e1 := r1 (xeq hA c1)
    have e2 := r2 (xeq hA c1)
    cbv
    refine ops_callG hS (b := true) rfl rfl rfl rfl rfl rfl rfl rfl (fun _ => ⟨[], _, [I g, I bi], [], [], rfl, rfl, rfl, by decide, trivial, hw _ ?_⟩) (fun h => absurd rfl h)
    refine ops_go tokT hA hS ?_
    cbv
    refine bm (fun c2 => ?_) (fun c2 => ?_)
    · rw [e1 c2] at hq
      cbv
      exact gh_view [] (by decide) pre0 (H' := []) (d' := I 1) trivial rfl (gh_done hq)
    · rw [e2 c2] at hq
      cbv
      exact gh_view [] (by decide) pre0 (H' := []) (d' := I x) trivial rfl (gh_done hq)
  · rw [r3 (xneq hA c1)] at hq
    cbv
    refine ops_callG hS (f := 111) (b := false) rfl rfl rfl rfl rfl rfl rfl rfl (fun h => Bool.noConfusion h) (fun _ => ?_)
    refine ops_go tokT hA hS ?_
    cbv
    exact gh_view [] (by decide) pre0 (H' := []) (d' := I x) trivial rfl (gh_done hq)
set_option maxRecDepth 20000 in
set_option maxHeartbeats 4000000 in
theorem bHas (j : Jn) (hf : j.first.length ≤ 1152921504606846976) (hm : j.moves.length ≤ 1152921504606846976) (l : List Int) (hl : l.length ≤ 1152921504606846976) (FL ML XL : List D) (hF : FL = j.first.map bolD) (hM : ML = j.moves.map mvD) (hX : XL = l.map I) (Q)
    (he : ∀ e, e = checkJ j → e ≠ 0 → Q (RA.ret (.tup [.v (.slice none 0 0), I e])) []) (hx : JOk j → ∀ e, e = chkG ((binsOf j.moves).length : Int) l → e ≠ 0 → Q (RA.ret (.tup [.v (.slice none 0 0), I e])) [])
    (hp : JOk j → chkG ((binsOf j.moves).length : Int) l = 0 → standsJ j = false → Q (RA.ret (.tup [.v (.slice none 0 0), I 9])) [])
    (hq : JOk j → chkG ((binsOf j.moves).length : Int) l = 0 → standsJ j = true → ∀ L, L = (hasJ j (l.map Int.toNat)).map I → Q (RA.ret (.tup [.sl 1 L, I 0])) []) :
    CallA Try.prog 55 [.agg [I j.ins, .sl 1 FL, .sl 5 ML], .sl 1 XL] [] Q := by
  obtain ⟨A, hA⟩ : ∃ A, A = ar := ⟨_, rfl⟩
  obtain ⟨e1, he1⟩ : ∃ e1, e1 = checkJ j := ⟨_, rfl⟩
  refine callA_start tokT hA Try.func55 rfl rfl rfl rfl rfl fun S hS => ?_
  cbv
  refine ops_call hS [.agg [I j.ins, .sl 1 FL, .sl 5 ML]] [] [] rfl rfl rfl rfl rfl rfl rfl rfl (by decide) trivial (bCheck j hf hm FL ML hF hM e1 he1 _ ?_)
  refine ops_go tokT hA hS ?_
  cbv
  refine bm (fun c => ?_) (fun c => ?_)
  · have hz := he e1 he1 (xne hA c)
    cbv
    exact gh_view [] (by decide) pre0 (H' := []) (d' := .tup [.v (.slice none 0 0), I e1]) trivial rfl (gh_done hz)
  have hc0 : checkJ j = 0 := he1.symm.trans (xnne hA c)
  have hj : JOk j := checkJ_ok hc0
  have hi1 := hj.i1
  have hi4 := hj.i4
  have hj10 := hj.m10
  have hb4 := hj.b4
  obtain ⟨NB, hNB⟩ : ∃ NB, NB = (binsOf j.moves).length := ⟨_, rfl⟩
  rw [← hNB] at hx hp hq hb4
  have hopn := fun Q => bOpen j (by omega) FL ML hM 81 [] (.inl rfl) Q
  obtain ⟨gI, hgI⟩ : ∃ gI, gI = grpI l := ⟨_, rfl⟩
  have hcg : ∀ BL : List D, BL = (binsOf j.moves).map I → ∀ Q, (∀ e g, e = chkG (NB : Int) l → (e = 0 → g = gI ∧ 0 ≤ g ∧ g ≤ 15) → (e ≠ 0 → g = 0) → Q (RA.ret (.tup [I g, I e])) []) → CallA Try.prog 109 [.sl 1 XL, I (A.oi (A.len BL))] [] Q := fun BL hBL Q h => by
    have e := yoiL hA (show BL.length = NB by rw [hBL, hNB, List.length_map])
    rw [e, hgI] at *
    exact bCheckGroup l hl (NB : Int) ⟨by omega, by omega⟩ XL hX Q h
  obtain ⟨N, hN⟩ : ∃ N : Nat, IsI j.ins N := ⟨j.ins.toNat, ⟨by omega⟩⟩
  have hN4 : N ≤ 4 := by have := hN.eq; omega
  cbv
  refine ops_call hS [.agg [I j.ins, .sl 1 FL, .sl 5 ML], .fn 81 []] [] [] rfl rfl rfl rfl rfl rfl rfl rfl (by decide) trivial (hopn _ fun BL hBL => ?_)
  refine ops_go tokT hA hS ?_
  cbv
  refine ops_call hS [.sl 1 XL, I (A.oi (A.len BL))] [] [] rfl rfl rfl rfl rfl rfl rfl rfl (by decide) trivial (hcg BL hBL _ fun ex gx hex hg0 _ => ?_)
  refine ops_go tokT hA hS ?_
  cbv
  refine bm (fun c => ?_) (fun c => ?_)
  · have hz := hx hj ex hex (xne hA c)
    cbv
    exact gh_view [] (by decide) pre0 (H' := []) (d' := .tup [.v (.slice none 0 0), I ex]) trivial rfl (gh_done hz)
  have hcx : chkG (NB : Int) l = 0 := hex.symm.trans (xnne hA c)
  obtain ⟨hg1, hg2⟩ := hg0 (xnne hA c)
  obtain ⟨g, hg⟩ : ∃ g : Nat → Int, g = fun i : Nat => verdI (noteR j (tkHas (grpI l) i)) := ⟨_, rfl⟩
  have hmx : intL g N = (hasJ j (l.map Int.toNat)).map I := by
    have : j.ins.toNat = N := by have := hN.eq; omega
    rw [intL, hg, hasJ, this]; rfl
  have hz0 := fun (h : standsJ j = true) L hL => hq hj hcx h L hL
  have hp0 := fun (h : standsJ j = false) => hp hj hcx h
  have hcN : A.cmp .neq 9 0 = true := by subst hA; rfl
  have hc00 : A.cmp .neq 0 0 = false := by subst hA; rfl
  cbv
  refine at_code hS ?_
  refine wpa_loopG (α := Int × Nat × List D) (fun q => { env := [(2, .cb (.agg [I j.ins, .sl 1 FL, .sl 5 ML]) 0), (7, .cb (I gx) 0), (9, .o 0 1 q.2.1), (31, I j.ins), (32, I q.1)], H := [.els 1 q.2.2], nt := 52, dfs := [] })
    (fun q => N - q.2.1) (fun q => q.2.1 ≤ N ∧ IsI q.1 q.2.1 ∧ q.2.2 = intL g q.2.1 ∧ (q.2.1 ≠ 0 → standsJ j = true)) (0, 0, []) ⟨Nat.zero_le _, ⟨rfl⟩, rfl, fun h => absurd rfl h⟩ ?_ ?_
  · refine gs_frz hA [0, 1] ?_
    cbv
    refine gs_virt 9 1 rfl ?_
    exact gs_to [2] ⟨by decide, pre0, ⟨rfl, trivial⟩, ⟨rfl, rfl, rfl, rfl, rfl, trivial⟩, rfl, rfl⟩
  rintro ⟨i, k, L⟩ ⟨u1, u2, u3, u4⟩
  dsimp only at u1 u2 u3 u4
  have hLl : L.length = k := by rw [u3]; simp [intL]
  have hsu := intL_succ g k
  obtain ⟨v, hv⟩ : ∃ v, v = g k := ⟨_, rfl⟩
  rw [← hv] at hsu
  have hie := u2.eq
  have hv' : v = verdI (noteR j (tkHas gx i)) := by rw [hv, hg, hie, hg1, hgI]
  have hk6 : k ≤ 1000000 := by omega
  have hyes : A.cmp .lss i j.ins = true → k < N := fun c => by have := xlt hA c; have := hN.eq; omega
  have hno : A.cmp .lss i j.ins = false → k = N := fun c => by have := xnlt hA c; have := hN.eq; omega
  refine wp_go tokT hA hS ?_
  cbv
  refine bm (fun c => ?_) (fun c => ?_)
  · have hk := hyes c
    have hf1 := yfit1 hA u2 (by omega)
    have hu2 := ysucc hA u2
    have hms : N - (k + 1) < N - k := by omega
    have hL2 : A.app L [I v] = intL g (k + 1) := by rw [xapp hA, hsu, u3]
    have hn2 : A.addN k 1 = k + 1 := xaddN hA _ _
    cbv
    refine ops_gs hS (gs_frz hA [1] ?_)
    cbv
    refine gs_done ?_
    refine ops_call hS [.agg [I j.ins, .sl 1 FL, .sl 5 ML], .fn 110 [.cb (I i) 0, .cb (I gx) 0]] [] [] rfl rfl rfl rfl rfl rfl rfl rfl (by decide) trivial (bKnown j hf hm (tkHas gx i) 110 _ (tkHasOk i gx hg2) FL ML hF hM _ (fun e2 he2 hne => absurd (he2.trans hc0) hne) (fun _ ents hme hne => ?_) (fun _ h0 => ?_))
    · have hsok : ∀ s ∈ endsS j (tkHas gx i) 0, StOk s := fun s hs => by rw [← nowK_all] at hs; exact nowK_ok (tkB_has gx i) hj _ s hs
      have hst : k + 1 ≠ 0 → standsJ j = true := fun _ => (standsJ_iff j _).2 hne
      obtain ⟨lo, hlo⟩ : ∃ lo, lo = (rangeI ((endsS j (tkHas gx i) 0).map (·.2))).1 := ⟨_, rfl⟩
      obtain ⟨hi, hhi⟩ : ∃ hi, hi = (rangeI ((endsS j (tkHas gx i) 0).map (·.2))).2 := ⟨_, rfl⟩
      have hvv : v = verdI (lo, hi) := by rw [hv', hlo, hhi]; rfl
      refine ops_go tokT hA hS ?_
      cbv
      refine bmF hc00 ?_
      cbv
      refine ops_call hS [.mv 0, .fn 90 []] [2] [.ob (.mp 5 ents)] rfl rfl rfl rfl rfl rfl rfl rfl (by decide) ⟨rfl, trivial⟩ (bSpread ents _ hme hne hsok 90 _ _ numNote lo hi hlo hhi _ ?_)
      refine ops_go tokT hA hS ?_
      cbv
      refine ops_call hS [.agg [I lo, I hi]] [] [] rfl rfl rfl rfl rfl rfl rfl rfl (by decide) trivial (bVerdict lo hi v hvv _ ?_)
      refine ops_go tokT hA hS ?_
      cbv
      refine ⟨yeqLen hA hLl, yeqLen hA rfl, yroom1 hA hk6 (by decide), hf1, ?_⟩
      refine gs_loop (A.add i 1, k + 1, A.app L [I v]) [4] ⟨hk, hu2, hL2, hst⟩ hms ?_
      exact ⟨by decide, pre0, ⟨rfl, trivial⟩, ⟨rfl, rfl, by rw [← hn2]; rfl, rfl, rfl, trivial⟩, rfl, rfl⟩
    · have hz := hp0 (standsJ_no h0)
      refine ops_go tokT hA hS ?_
      cbv
      refine bmT hcN ?_
      cbv
      refine gs_done ?_
      cbv
      exact gh_view [] (by decide) pre0 (H' := []) (d' := .tup [.v (.slice none 0 0), I 9]) trivial rfl (gh_done hz)
  · have hk := hno c
    have hs1 : standsJ j = true := u4 (by have := hN.eq; omega)
    have hz2 := hz0 hs1 L (by rw [u3, hk, hmx])
    cbv
    refine gs_done ?_
    cbv
    refine gh_frz [0] ?_
    cbv
    exact ⟨by cases L <;> exact hLl.symm, gh_view [] (by decide) pre0 (H' := []) (d' := .tup [.sl 1 L, I 0]) trivial rfl (gh_done hz2)⟩
end Go.Proofs.Ytecfpfhkicapeaa

namespace Go.Proofs.Ytecfpfhkicapeaa
open Go Go.Abs Go.Proofs Go.Batch
structure HoldT (j : Jn) (N NB : Nat) (L : List D) : Prop where
  len : L.length = N
  row : ∀ n, n < N → ∃ R : List D, L[n]? = some (.sl 1 R) ∧ R.length = NB ∧ ∀ q, q < NB → R[q]? = some (I (verdI (noteR j (tkAmt (n : Int) q))))
structure RestT (j : Jn) (NB : Nat) (L : List D) : Prop where
  len : L.length = NB
  row : ∀ b, b < NB → ∃ r : Int × Int, (restJ j)[b]? = some r ∧ L[b]? = some (.agg [I r.1, I r.2])
end Go.Proofs.Ytecfpfhkicapeaa
