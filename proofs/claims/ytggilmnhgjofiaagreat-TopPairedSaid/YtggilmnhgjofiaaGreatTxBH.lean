/- Part TxBH of the proofs about the benches of the accordion maker: see the last text of the claim for what is proved. -/
import Derived.Test.YtggilmnhgjofiaaGreatTxBG
import Derived.Test.YtggilmnhgjofiaaGreatTxAW
import Derived.Test.YtggilmnhgjofiaaGreatTxAU
set_option linter.unusedVariables false
set_option linter.unusedSimpArgs false
set_option linter.unnecessarySimpa false
set_option linter.constructorNameAsVariable false

namespace Go.Proofs.YtggilmnhgjofiaaGreat
open Go Go.Abs Go.Proofs
set_option maxRecDepth 40000 in
set_option maxHeartbeats 8000000 in
theorem Z26u (J : JbP) (sh : List R2) (h : OkJ J sh) (hne : sh ≠ []) (Q) (hq : ∀ a b, (a, b) = Z1vz (sh.map (Z1uu J.wi)) -> (∀ n nI v, Z21p (winJ J a b) = some n -> n <= 4 -> IsI nI n -> v = Z1vu (winJ J a b) n (J.p0, J.p1) 0 0 -> Q (RA.ret (.tup [I v, I nI, I 0])) []) /\ (Z21p (winJ J a b) = none -> Q (RA.ret (.tup [I 0, I 0, I 11])) [])) :
  CallA Tryz.prog 16 [jDat J] [] Q := by
 obtain ⟨A, hA⟩ : ∃ A, A = ar := ⟨_, rfl⟩;refine Z5 Z0 hA Tryz.func16 rfl rfl rfl rfl rfl fun S hS => ?_;cbv;refine Z4 hS [jDat J] [] [] rfl rfl rfl rfl rfl rfl rfl rfl (by decide) trivial (Z1xq J sh h _ (Z3 Z0 hA hS ?_));cbv;refine bmF (by subst hA; rfl) ?_;cbv;refine Z4 hS [jDat J] [] [] rfl rfl rfl rfl rfl rfl rfl rfl (by decide) trivial (Z26t J sh h hne _ fun a b hab => Z3 Z0 hA hS ?_);obtain ⟨hq1, hq2⟩ := hq a b hab;have hG := h.g a b;cbv;refine Z26 hS (Z1a hA [0] ?_);cbv;refine Z7 ?_;refine Z4 hS [.fn 43 [.b 0 0, .cb (jDat (winJ J a b)) 0]] [4, 1, 2, 3] (gHH (winJ J a b) []) rfl rfl rfl rfl rfl rfl rfl rfl (by decide) ⟨rfl, rfl, rfl, rfl, trivial⟩
  (Z236 43 (jDat (winJ J a b)) (winJ J a b) rfl (fun n => Z1u4 (winJ J a b) n (J.p0, J.p1) 0 0) (fun n nI hn hn4 en hen Q' hq' => Z27d (winJ J a b) hG _ rfl n nI hn hn4 (h.pb n hn4) en hen Q' hq') [] .nil _ (fun en n nI hen hle hn => Z3 Z0 hA hS ?_) (fun en hen hle => Z3 Z0 hA hS ?_))
 ·have hn4 : n <= 4 := by
   have := List.mem_of_find?_eq_some hle;simp at this; omega
  have hst := fun (n' : Nat) (nI' : Int) (h1 : n' = n) (h2 : IsI nI' n') Q' hq' => Z261 (winJ J a b) hG n' (by omega) J.p0 J.p1 nI' h2 (h.pb n' (by omega)) en hen Q' hq';obtain ⟨sv, hsv⟩ : ∃ sv, sv = Z1vu (winJ J a b) n (J.p0, J.p1) 0 0 := ⟨_, rfl⟩;have hqq := hq1 n nI sv hle hn4 hn hsv;cbv;refine bmF (by subst hA; rfl) ?_;cbv;refine bm (fun c => ?_) (fun c => ?_)
  ·have hz : nI = 0 := by have := xeq hA c; exact this
   have hn0 : n = 0 := by have := hn.eq; omega
   subst hn0;have hs0 : sv = 0 := hsv;rw [hz, hs0] at hqq;cbv;exact Z2 (H' := []) (d' := .tup [I 0, I 0, I 0]) [] (by simp) (fun i hi => absurd hi (by simp)) trivial rfl (Z1 hqq)
  ·cbv;refine Z4 hS [gDat (winJ J a b) 0 1, .agg [I J.p0, I J.p1, I 0, I 0, I nI]] [1, 2, 3] (gH (winJ J a b) en) rfl rfl rfl rfl rfl rfl rfl rfl (by decide) ⟨rfl, rfl, rfl, trivial⟩ (hst n nI rfl hn _ fun en' v hv hen' => Z3 Z0 hA hS ?_);have hvs : v = sv := hv.trans hsv.symm;subst hvs;cbv;exact Z2 (H' := []) (d' := .tup [I v, I nI, I 0]) [] (by simp) (fun i hi => absurd hi (by simp)) trivial rfl (Z1 hqq)
 ·have hqq := hq2 hle;cbv;refine bmT (by subst hA; rfl) ?_;cbv;exact Z2 (H' := []) (d' := .tup [I 0, I 0, I 11]) [] (by simp) (fun i hi => absurd hi (by simp)) trivial rfl (Z1 hqq)
set_option maxRecDepth 40000 in
set_option maxHeartbeats 8000000 in
theorem Z28d (J : JbP) (sh : List R2) (h : OkJ J sh) (r : Int) (hr : J.p0 - J.me <= r /\ r <= J.p1 + J.me) (Q) (hq : ∀ a b, (a, b) = Z1vg (J.p0, J.p1) (r - J.me, r + J.me) -> Q (RA.ret (.tup [.agg [I a, I b], I 0])) []) :
  CallA Tryz.prog 13 [jDat J, I r] [] Q := by
 obtain ⟨A, hA⟩ : ∃ A, A = ar := ⟨_, rfl⟩;have hp := h.p;have hm := h.me;simp only [InR] at hp;refine Z5 Z0 hA Tryz.func13 rfl rfl rfl rfl rfl fun S hS => ?_;cbv;refine Z4 hS [jDat J] [] [] rfl rfl rfl rfl rfl rfl rfl rfl (by decide) trivial (Z1xq J sh h _ (Z3 Z0 hA hS ?_));cbv;refine bmF (by subst hA; rfl) ?_;cbv;refine ⟨by subst hA; exact Zbu (n := J.p0 - J.me) (by omega), by subst hA; exact Zbu (n := J.p1 + J.me) (by omega), ?_⟩;refine Z4 hS [I r, I (A.sub J.p0 J.me), I (A.add J.p1 J.me)] [] [] rfl rfl rfl rfl rfl rfl rfl rfl (by decide) trivial (Z1wo _ _ _ _ fun v hv => Z3 Z0 hA hS ?_);obtain rfl : v = true := by rw [hv]; subst hA; show (decide (J.p0 - J.me <= r) && decide (r <= J.p1 + J.me)) = true; simp; omega
 cbv;refine bmF (by subst hA; rfl) ?_;cbv;refine ⟨by subst hA; exact Zbu (n := r - J.me) (by omega), by subst hA; exact Zbu (n := r + J.me) (by omega), ?_⟩;refine Z26 hS (Z1a hA [2] ?_);cbv;refine ⟨by subst hA; rfl, Z7 ?_⟩;refine Z4 hS [.agg [I J.p0, I J.p1], .sl 2 [.agg [I (A.sub r J.me), I (A.add r J.me)]]] [] [] rfl rfl rfl rfl rfl rfl rfl rfl (by decide) trivial (Z21j J.p0 J.p1 [(A.sub r J.me, A.add r J.me)] _ rfl (by simp) _ fun x y hxy => Z3 Z0 hA hS ?_);have hqq := hq x y (by rw [hxy]; subst hA; rfl);cbv;exact Z2 (H' := []) (d' := .tup [.agg [I x, I y], I 0]) [] (by simp) (fun i hi => absurd hi (by simp)) trivial rfl (Z1 hqq)
end Go.Proofs.YtggilmnhgjofiaaGreat

namespace Go.Proofs.YtggilmnhgjofiaaGreat
open Go Go.Abs Go.Proofs
set_option maxRecDepth 40000 in
set_option maxHeartbeats 8000000 in
theorem Z24x (J : JbP) (sh : List R2) (h : OkJ J sh) (Q) (hq : ∀ a b c e, (a, b) = Z1wn (J.p0, J.p1) (J.u0, J.u1) -> (c, e) = Z1vf (J.t0, J.t1) (J.x0, J.x1) -> Q (RA.ret (.agg [I a, I b, I c, I e, I J.r0, I J.r1, I J.u0, I J.u1, I J.d0, I J.d1, I J.x0, I J.x1, I J.y0, I J.y1, I J.least])) []) :
  CallA Tryz.prog 46 [jDat J, .sl 1 [I 1]] [] Q := by
 obtain ⟨A, hA⟩ : ∃ A, A = ar := ⟨_, rfl⟩;have hp := h.p;have h1 := h.u;have h2 := h.t;have h3 := h.x;simp only [InR] at hp h1 h2 h3;have hm1 : MidV J.p0 /\ MidV J.p1 /\ MidV J.u0 /\ MidV J.u1 := by simp only [MidV]; omega
 have hm2 : MidV J.t0 /\ MidV J.t1 /\ MidV J.x0 /\ MidV J.x1 := by simp only [MidV]; omega
 refine Z5 Z0 hA Tryz.func46 rfl rfl rfl rfl rfl fun S hS => ?_;cbv;refine Z1xz Z0 hA hS [5, 6] 1 fun L hL => ?_;cbv;refine bmT (by subst hA; rfl) ?_;cbv;refine ⟨by subst hA; exact ⟨by decide, by decide⟩, Need.mk ⟨I 1, by subst hA; rfl, ?_⟩⟩;cbv;refine Z4j Z0 hA hS [0] [1, 2] rfl ?_;cbv;refine Z2g hS rfl rfl rfl (Z1xk [.int .i64 J.p0, .int .i64 J.p1, .int .i64 J.t0, .int .i64 J.t1, .int .i64 J.r0, .int .i64 J.r1, .int .i64 J.u0, .int .i64 J.u1, .int .i64 J.d0, .int .i64 J.d1, .int .i64 J.x0, .int .i64 J.x1, .int .i64 J.y0, .int .i64 J.y1, .int .i64 J.least] rfl rfl ?_);refine Z3 Z0 hA hS ?_;cbv;refine Z4j Z0 hA hS [0, 1] [2, 3] rfl ?_;cbv;refine Z2g hS rfl rfl rfl (Z202 [.int .i64 J.p0, .int .i64 J.p1, .int .i64 J.t0, .int .i64 J.t1, .int .i64 J.r0, .int .i64 J.r1, .int .i64 J.u0, .int .i64 J.u1, .int .i64 J.d0, .int .i64 J.d1, .int .i64 J.x0, .int .i64 J.x1, .int .i64 J.y0, .int .i64 J.y1, .int .i64 J.least] (by intro v hv; simp at hv; rcases hv with rfl | rfl | rfl | rfl | rfl | rfl | rfl | rfl | rfl | rfl | rfl | rfl | rfl | rfl | rfl <;> rfl) (ix := []) (Hf := []) (as' := [.agg [I J.p0, I J.p1, I J.t0, I J.t1, I J.r0, I J.r1, I J.u0, I J.u1, I J.d0, I J.d1, I J.x0, I J.x1, I J.y0, I J.y1, I J.least], I 1]) rfl rfl rfl rfl rfl (by decide) trivial (Z231 J.p0 J.p1 J.t0 J.t1 J.r0 J.r1 J.u0 J.u1 J.d0 J.d1 J.x0 J.x1 J.y0 J.y1 J.least hm1 hm2 _ fun a b c e hab hce => ?_));have hqq := hq a b c e hab hce;refine Z3 Z0 hA hS ?_;cbv;refine ⟨by subst hA; exact Zbu (n := 1) (by omega), ?_⟩;refine Z1x7 Z0 hA hS [5, 6] hL fun L2 hL2 => ?_;cbv;refine bmF (by subst hA; rfl) ?_;cbv;exact Z2 (H' := []) (d' := .agg [I a, I b, I c, I e, I J.r0, I J.r1, I J.u0, I J.u1, I J.d0, I J.d1, I J.x0, I J.x1, I J.y0, I J.y1, I J.least]) [] (by simp) (fun i hi => absurd hi (by simp)) trivial rfl (Z1 hqq)
set_option maxRecDepth 40000 in
set_option maxHeartbeats 4000000 in
theorem Z1zi (J : JbP) (sh : List R2) (h : OkJ J sh) (Q) (hq : Q (RA.ret (I 0)) []) : CallA Tryz.prog 45 [jDat J, .sl 1 [I 1]] [] Q := by
 obtain ⟨A, hA⟩ : ∃ A, A = ar := ⟨_, rfl⟩;refine Z5 Z0 hA Tryz.func45 rfl rfl rfl rfl rfl fun S hS => ?_;cbv;refine Z4 hS [jDat J] [] [] rfl rfl rfl rfl rfl rfl rfl rfl (by decide) trivial (Z1xq J sh h _ (Z3 Z0 hA hS ?_));cbv;refine bmF (by subst hA; rfl) ?_;cbv;refine bmF (by subst hA; rfl) ?_;cbv;refine Z1xb Z0 hA hS 1 fun L hL => ?_;cbv;refine bmT (by subst hA; rfl) ?_;cbv;refine ⟨by subst hA; exact ⟨by decide, by decide⟩, Need.mk ⟨I 1, by subst hA; rfl, ?_⟩⟩;cbv;refine bmF (by subst hA; rfl) ?_;cbv
 
 
 refine ⟨by subst hA; exact Zbu (n := 1) (by omega), ?_⟩;refine Z1y4 Z0 hA hS hL fun L2 hL2 => ?_;cbv;refine bmF (by subst hA; rfl) ?_;cbv;exact Z2 (H' := []) (d' := I 0) [] (by simp) (fun i hi => absurd hi (by simp)) trivial rfl (Z1 hq)
set_option maxRecDepth 40000 in
theorem Z262 (J : JbP) (sh : List R2) (h : OkJ J sh) (Q) (hq : ∀ a b c e, (a, b) = Z1wn (J.p0, J.p1) (J.u0, J.u1) -> (c, e) = Z1vf (J.t0, J.t1) (J.x0, J.x1) -> Q (RA.ret (.tup [.agg [I a, I b, I c, I e, I J.r0, I J.r1], I 0])) []) :
  CallA Tryz.prog 17 [jDat J, .sl 1 [I 1]] [] Q := by
 obtain ⟨A, hA⟩ : ∃ A, A = ar := ⟨_, rfl⟩;refine Z5 Z0 hA Tryz.func17 rfl rfl rfl rfl rfl fun S hS => ?_;cbv;refine Z4 hS [jDat J, .sl 1 [I 1]] [] [] rfl rfl rfl rfl rfl rfl rfl rfl (by decide) trivial (Z1zi J sh h _ (Z3 Z0 hA hS ?_));cbv;refine bmF (by subst hA; rfl) ?_;cbv;refine Z4 hS [jDat J, .sl 1 [I 1]] [] [] rfl rfl rfl rfl rfl rfl rfl rfl (by decide) trivial (Z24x J sh h _ fun a b c e hab hce => Z3 Z0 hA hS ?_);have hqq := hq a b c e hab hce;cbv;exact Z2 (H' := []) (d' := .tup [.agg [I a, I b, I c, I e, I J.r0, I J.r1], I 0]) [] (by simp) (fun i hi => absurd hi (by simp)) trivial rfl (Z1 hqq)
set_option maxRecDepth 40000 in
set_option maxHeartbeats 8000000 in
theorem Z24y (J : JbP) (sh : List R2) (h : OkJ J sh) (Q) (hq : ∀ a b c e, (a, b) = Z1vf (J.p0, J.p1) (J.d0, J.d1) -> (c, e) = Z1vf (J.r0, J.r1) (J.y0, J.y1) -> Q (RA.ret (.agg [I a, I b, I J.t0, I J.t1, I c, I e, I J.u0, I J.u1, I J.d0, I J.d1, I J.x0, I J.x1, I J.y0, I J.y1, I J.least])) []) :
  CallA Tryz.prog 46 [jDat J, .sl 1 [I 2]] [] Q := by
 obtain ⟨A, hA⟩ : ∃ A, A = ar := ⟨_, rfl⟩;have hp := h.p;have h1 := h.d;have h2 := h.r;have h3 := h.y;simp only [InR] at hp h1 h2 h3;have hm1 : MidV J.p0 /\ MidV J.p1 /\ MidV J.d0 /\ MidV J.d1 := by simp only [MidV]; omega
 have hm2 : MidV J.r0 /\ MidV J.r1 /\ MidV J.y0 /\ MidV J.y1 := by simp only [MidV]; omega
 refine Z5 Z0 hA Tryz.func46 rfl rfl rfl rfl rfl fun S hS => ?_;cbv;refine Z1xz Z0 hA hS [5, 6] 1 fun L hL => ?_;cbv;refine bmT (by subst hA; rfl) ?_;cbv;refine ⟨by subst hA; exact ⟨by decide, by decide⟩, Need.mk ⟨I 2, by subst hA; rfl, ?_⟩⟩;cbv;refine Z4j Z0 hA hS [0] [1, 2] rfl ?_;cbv;refine Z2g hS rfl rfl rfl (Z1xk [.int .i64 J.p0, .int .i64 J.p1, .int .i64 J.t0, .int .i64 J.t1, .int .i64 J.r0, .int .i64 J.r1, .int .i64 J.u0, .int .i64 J.u1, .int .i64 J.d0, .int .i64 J.d1, .int .i64 J.x0, .int .i64 J.x1, .int .i64 J.y0, .int .i64 J.y1, .int .i64 J.least] rfl rfl ?_);refine Z3 Z0 hA hS ?_;cbv;refine Z4j Z0 hA hS [0, 1] [2, 3] rfl ?_;cbv;refine Z2g hS rfl rfl rfl (Z202 [.int .i64 J.p0, .int .i64 J.p1, .int .i64 J.t0, .int .i64 J.t1, .int .i64 J.r0, .int .i64 J.r1, .int .i64 J.u0, .int .i64 J.u1, .int .i64 J.d0, .int .i64 J.d1, .int .i64 J.x0, .int .i64 J.x1, .int .i64 J.y0, .int .i64 J.y1, .int .i64 J.least] (by intro v hv; simp at hv; rcases hv with rfl | rfl | rfl | rfl | rfl | rfl | rfl | rfl | rfl | rfl | rfl | rfl | rfl | rfl | rfl <;> rfl) (ix := []) (Hf := []) (as' := [.agg [I J.p0, I J.p1, I J.t0, I J.t1, I J.r0, I J.r1, I J.u0, I J.u1, I J.d0, I J.d1, I J.x0, I J.x1, I J.y0, I J.y1, I J.least], I 2]) rfl rfl rfl rfl rfl (by decide) trivial (Z232 J.p0 J.p1 J.t0 J.t1 J.r0 J.r1 J.u0 J.u1 J.d0 J.d1 J.x0 J.x1 J.y0 J.y1 J.least hm1 hm2 _ fun a b c e hab hce => ?_));have hqq := hq a b c e hab hce;refine Z3 Z0 hA hS ?_;cbv;refine ⟨by subst hA; exact Zbu (n := 1) (by omega), ?_⟩;refine Z1x7 Z0 hA hS [5, 6] hL fun L2 hL2 => ?_;cbv;refine bmF (by subst hA; rfl) ?_;cbv;exact Z2 (H' := []) (d' := .agg [I a, I b, I J.t0, I J.t1, I c, I e, I J.u0, I J.u1, I J.d0, I J.d1, I J.x0, I J.x1, I J.y0, I J.y1, I J.least]) [] (by simp) (fun i hi => absurd hi (by simp)) trivial rfl (Z1 hqq)
set_option maxRecDepth 40000 in
set_option maxHeartbeats 4000000 in
theorem Z1zj (J : JbP) (sh : List R2) (h : OkJ J sh) (Q) (hq : Q (RA.ret (I 0)) []) : CallA Tryz.prog 45 [jDat J, .sl 1 [I 2]] [] Q := by
 obtain ⟨A, hA⟩ : ∃ A, A = ar := ⟨_, rfl⟩;refine Z5 Z0 hA Tryz.func45 rfl rfl rfl rfl rfl fun S hS => ?_;cbv;refine Z4 hS [jDat J] [] [] rfl rfl rfl rfl rfl rfl rfl rfl (by decide) trivial (Z1xq J sh h _ (Z3 Z0 hA hS ?_));cbv;refine bmF (by subst hA; rfl) ?_;cbv;refine bmF (by subst hA; rfl) ?_;cbv;refine Z1xb Z0 hA hS 1 fun L hL => ?_;cbv;refine bmT (by subst hA; rfl) ?_;cbv;refine ⟨by subst hA; exact ⟨by decide, by decide⟩, Need.mk ⟨I 2, by subst hA; rfl, ?_⟩⟩;cbv;refine bmT (by subst hA; rfl) ?_;cbv;refine bmF (by subst hA; rfl) ?_;cbv;refine ⟨by subst hA; exact Zbu (n := 1) (by omega), ?_⟩;refine Z1y4 Z0 hA hS hL fun L2 hL2 => ?_;cbv;refine bmF (by subst hA; rfl) ?_;cbv;exact Z2 (H' := []) (d' := I 0) [] (by simp) (fun i hi => absurd hi (by simp)) trivial rfl (Z1 hq)
set_option maxRecDepth 40000 in
theorem Z263 (J : JbP) (sh : List R2) (h : OkJ J sh) (Q) (hq : ∀ a b c e, (a, b) = Z1vf (J.p0, J.p1) (J.d0, J.d1) -> (c, e) = Z1vf (J.r0, J.r1) (J.y0, J.y1) -> Q (RA.ret (.tup [.agg [I a, I b, I J.t0, I J.t1, I c, I e], I 0])) []) :
  CallA Tryz.prog 17 [jDat J, .sl 1 [I 2]] [] Q := by
 obtain ⟨A, hA⟩ : ∃ A, A = ar := ⟨_, rfl⟩;refine Z5 Z0 hA Tryz.func17 rfl rfl rfl rfl rfl fun S hS => ?_;cbv;refine Z4 hS [jDat J, .sl 1 [I 2]] [] [] rfl rfl rfl rfl rfl rfl rfl rfl (by decide) trivial (Z1zj J sh h _ (Z3 Z0 hA hS ?_));cbv;refine bmF (by subst hA; rfl) ?_;cbv;refine Z4 hS [jDat J, .sl 1 [I 2]] [] [] rfl rfl rfl rfl rfl rfl rfl rfl (by decide) trivial (Z24y J sh h _ fun a b c e hab hce => Z3 Z0 hA hS ?_);have hqq := hq a b c e hab hce;cbv;exact Z2 (H' := []) (d' := .tup [.agg [I a, I b, I J.t0, I J.t1, I c, I e], I 0]) [] (by simp) (fun i hi => absurd hi (by simp)) trivial rfl (Z1 hqq)
end Go.Proofs.YtggilmnhgjofiaaGreat

namespace Go.Proofs.YtggilmnhgjofiaaGreat
open Go Go.Abs Go.Proofs
set_option maxRecDepth 40000 in
set_option maxHeartbeats 4000000 in
theorem Z24z (J : JbP) (sh : List R2) (h : OkJ J sh) (hne : sh ≠ []) (a b : Int) (hh : hasR (Z1vz (sh.map (Z1uu J.wi))) (a, b) = true) (Q) (hq : Q (RA.ret (I 1)) []) : CallA Tryz.prog 57 [jDat J, .agg [I a, I b]] [] Q := by
 obtain ⟨A, hA⟩ : ∃ A, A = ar := ⟨_, rfl⟩;refine Z5 Z0 hA Tryz.func57 rfl rfl rfl rfl rfl fun S hS => ?_;cbv;refine Z4 hS [jDat J] [] [] rfl rfl rfl rfl rfl rfl rfl rfl (by decide) trivial (Z21n J sh h.sl hne (by have := h.len; omega) h.wm h.sm _ fun w0 w1 m0 m1 hw hm => Z3 Z0 hA hS ?_);rw [<- hw] at hh;cbv;refine Z26 hS (Z1a hA [4] ?_);cbv;refine ⟨by subst hA; rfl, Z7 ?_⟩;refine Z4 hS [.agg [I m0, I m1], .sl 2 [.agg [I a, I b]]] [] [] rfl rfl rfl rfl rfl rfl rfl rfl (by decide) trivial (Z21j m0 m1 [(a, b)] _ rfl (by simp) _ fun x y hxy => Z3 Z0 hA hS ?_);cbv;refine Z4 hS [.agg [I w0, I w1], .agg [I a, I b]] [] [] rfl rfl rfl rfl rfl rfl rfl rfl (by decide) trivial (lHas w0 w1 a b _ fun v hv => Z3 Z0 hA hS ?_);obtain rfl : v = true := hv.trans hh;cbv;exact Z2 (H' := []) (d' := I 1) [] (by simp) (fun i hi => absurd hi (by simp)) trivial rfl (Z1 hq)
theorem Z264 (J : JbP) (sh : List R2) (h : OkJ J sh) (hne : sh ≠ []) (hh : hasR (Z1vz (sh.map (Z1uu J.wi))) (J.p0, J.p1) = true) (Q) (hq : Q (RA.ret (.tup [I 1, I 0])) []) : CallA Tryz.prog 30 [jDat J] [] Q := by
 obtain ⟨A, hA⟩ : ∃ A, A = ar := ⟨_, rfl⟩;refine Z5 Z0 hA Tryz.func30 rfl rfl rfl rfl rfl fun S hS => ?_;cbv;refine Z4 hS [jDat J] [] [] rfl rfl rfl rfl rfl rfl rfl rfl (by decide) trivial (Z1xq J sh h _ (Z3 Z0 hA hS ?_));cbv;refine bmF (by subst hA; rfl) ?_;cbv;refine Z4 hS [jDat J, .agg [I J.p0, I J.p1]] [] [] rfl rfl rfl rfl rfl rfl rfl rfl (by decide) trivial (Z24z J sh h hne J.p0 J.p1 hh _ (Z3 Z0 hA hS ?_));cbv;exact Z2 (H' := []) (d' := .tup [I 1, I 0]) [] (by simp) (fun i hi => absurd hi (by simp)) trivial rfl (Z1 hq)
def exSh : List R2 := [(-2, 1), (0, 3)]
def exJ (a b : Int) : JbP := ⟨a, b, 30, 32, 40, 41, 3, 4, 2, 3, 1, 2, 1, 1, 20, exSh.map rD, 5, 1, 0, 0⟩
theorem exOk (a b : Int) (h : InR (-60) 60 (a, b)) : OkJ (exJ a b) exSh := by
 refine ⟨h, ?_, ?_, ?_, ?_, ?_, ?_, ?_, rfl, by decide, ?_, ?_, ?_⟩
 case refine_8 =>
  intro s hs;simp only [exSh, List.mem_cons, List.not_mem_nil, or_false] at hs;rcases hs with rfl | rfl <;> simp [InR]
 all_goals simp [InR, exJ]
set_option maxRecDepth 40000 in
theorem Z20s (a b : Int) (Q) (hq : Q (RA.ret (.agg [I a, I b, I 30, I 32, I 40, I 41, I 3, I 4, I 2, I 3, I 1, I 2, I 1, I 1, I 20, .o 0 2 2, I 5, I 1])) [.els 2 (exSh.map rD)]) : CallA Tryz.prog 29 [.agg [I a, I b]] [] Q := by
 obtain ⟨A, hA⟩ : ∃ A, A = ar := ⟨_, rfl⟩;refine Z5 Z0 hA Tryz.func29 rfl rfl rfl rfl rfl fun S hS => ?_;cbv;exact Z2 (H' := [.els 2 (exSh.map rD)]) (d' := .agg [I a, I b, I 30, I 32, I 40, I 41, I 3, I 4, I 2, I 3, I 1, I 2, I 1, I 1, I 20, .o 0 2 2, I 5, I 1]) [2] (by simp) (fun i hi => absurd hi (by simp)) ⟨rfl, trivial⟩ rfl (Z1 hq)
end Go.Proofs.YtggilmnhgjofiaaGreat

namespace Go.Proofs.YtggilmnhgjofiaaGreat
open Go Go.Abs Go.Proofs
theorem Z21q : Z1xh (winJ (exJ (-12) (-8)) (-3) 2) = some 3 := by decide +kernel
theorem Z250 : Z21p (winJ (exJ 4 6) (-3) 2) = some 2 := by decide +kernel
theorem Z251 : Z1vu (winJ (exJ 4 6) (-3) 2) 2 (4, 6) 0 0 = 2 := by decide +kernel
theorem Z1yx : ∀ a b c d : Int, (a, b) = Z1vz (exSh.map (Z1uu (exJ c d).wi)) -> a = -3 /\ b = 2 := fun a b c d h => by
 have e : Z1vz (exSh.map (Z1uu (exJ c d).wi)) = (-3, 2) := by
  show Z1vz (exSh.map (Z1uu 5)) = _;decide
 rw [e] at h
 cases h
 exact ⟨rfl, rfl⟩
def Z252 : Prop := ∀ Q : RA -> List Blk -> Prop, Q (RA.ret (.tup [I 10, I 0])) [] -> CallA Tryz.prog 31 [.agg [I 0, .sl 2 [.agg [I 44000, I 44010]], .v (.slice none 0 0)], I 0, I 9] [] Q
set_option maxRecDepth 40000 in
set_option maxHeartbeats 8000000 in
theorem Z1vq (hGate : Z252) (Q) (hq : Q (RA.ret (.v (.bool true))) []) : CallA Tryz.prog 7 [] [] Q := by
 obtain ⟨A, hA⟩ : ∃ A, A = ar := ⟨_, rfl⟩;refine Z5 Z0 hA Tryz.func7 rfl rfl rfl rfl rfl fun S hS => ?_;cbv;refine Z4 hS [.agg [I (-12), I (-8)]] [] [] rfl rfl rfl rfl rfl rfl rfl rfl (by decide) trivial (Z20s (-12) (-8) _ (Z3 Z0 hA hS ?_));cbv;refine Z26 hS (Z1a hA [0] ?_);cbv;refine ⟨by subst hA; rfl, Z7 ?_⟩;refine Z4 hS [jDat (exJ (-12) (-8))] [] [] rfl rfl rfl rfl rfl rfl rfl rfl (by decide) trivial (Z20r (exJ (-12) (-8)) exSh (exOk _ _ (by simp [InR])) (by simp [exSh]) _ fun a b hab => ⟨fun n nI hn hnI => ?_, fun hn => ?_⟩)
 ·obtain ⟨rfl, rfl⟩ := Z1yx a b _ _ hab;obtain rfl : n = 3 := Option.some.inj (hn.symm.trans Z21q);obtain rfl : nI = 3 := hnI.eq;refine Z3 Z0 hA hS ?_;cbv;refine Z4 hS [.agg [I 4, I 6]] [] [] rfl rfl rfl rfl rfl rfl rfl rfl (by decide) trivial (Z20s 4 6 _ (Z3 Z0 hA hS ?_));cbv;refine Z26 hS (Z1a hA [1] ?_);cbv;refine ⟨by subst hA; rfl, Z7 ?_⟩;refine Z4 hS [jDat (exJ 4 6)] [] [] rfl rfl rfl rfl rfl rfl rfl rfl (by decide) trivial (Z26u (exJ 4 6) exSh (exOk _ _ (by simp [InR])) (by simp [exSh]) _ fun a b hab => ⟨fun n nI v hn hn4 hnI hv => ?_, fun hn => ?_⟩)
  ·obtain ⟨rfl, rfl⟩ := Z1yx a b _ _ hab;obtain rfl : n = 2 := Option.some.inj (hn.symm.trans Z250);obtain rfl : nI = 2 := hnI.eq;obtain rfl : v = 2 := hv.trans Z251;refine Z3 Z0 hA hS ?_;cbv;refine Z4 hS [.agg [I (-3), I 2]] [] [] rfl rfl rfl rfl rfl rfl rfl rfl (by decide) trivial (Z20s (-3) 2 _ (Z3 Z0 hA hS ?_));cbv;refine Z26 hS (Z1a hA [2] ?_);cbv;refine ⟨by subst hA; rfl, Z7 ?_⟩;refine Z4 hS [jDat (exJ (-3) 2)] [] [] rfl rfl rfl rfl rfl rfl rfl rfl (by decide) trivial (Z264 (exJ (-3) 2) exSh (exOk _ _ (by simp [InR])) (by simp [exSh]) (by decide) _ (Z3 Z0 hA hS ?_));cbv;refine Z26 hS (Z1a hA [3] ?_);cbv;refine ⟨by subst hA; rfl, by subst hA; rfl, Z7 ?_⟩;refine Z4 hS [.agg [I 0, .sl 2 [.agg [I 44000, I 44010]], .v (.slice none 0 0)], I 0, I 9] [] [] rfl rfl rfl rfl rfl rfl rfl rfl (by decide) trivial (hGate _ (Z3 Z0 hA hS ?_));subst hA;cbv;exact Z2 (H' := []) (d' := .v (.bool true)) [] (by simp) (fun i hi => absurd hi (by simp)) trivial rfl (Z1 hq)
  ·obtain ⟨rfl, rfl⟩ := Z1yx a b _ _ hab;exact absurd (hn.symm.trans Z250) (by simp)
 ·obtain ⟨rfl, rfl⟩ := Z1yx a b _ _ hab;exact absurd (hn.symm.trans Z21q) (by simp)
end Go.Proofs.YtggilmnhgjofiaaGreat

namespace Go.Proofs.YtggilmnhgjofiaaGreat
open Go Go.Abs Go.Proofs
theorem lIn (n lo hi : Int) (Q) (hq : ∀ b, b = (decide (lo <= n) && decide (n <= hi)) -> Q (RA.ret (.v (.bool b))) []) : CallA Tryz.prog 88 [I n, I lo, I hi] [] Q := by
 obtain ⟨A, hA⟩ : ∃ A, A = ar := ⟨_, rfl⟩;refine Z5 Z0 hA Tryz.func88 rfl rfl rfl rfl rfl fun S hS => ?_;cbv;refine bm (fun c => ?_) (fun c => ?_)
 ·cbv;refine Z1 (hq _ ?_);have h1 := xle hA c;subst hA;rw [decide_eq_true h1]; rfl
 ·cbv;refine Z1 (hq _ ?_);have h1 := Zec hA c;rw [decide_eq_false (by omega)]; rfl
def earD : D := .agg [I 0, .sl 2 [.agg [I 44000, I 44010]], .v (.slice none 0 0)]
def tone (n : Int) : D := .agg [I n, I 0, I 0]
set_option maxRecDepth 40000 in
set_option maxHeartbeats 4000000 in
theorem Z237 (Q) (hq : Q (RA.ret (I 0)) []) : CallA Tryz.prog 89 [earD] [] Q := by
 refine Z5 (A := ar) Z0 rfl Tryz.func89 rfl rfl rfl rfl rfl fun S hS => ?_;cbv
 repeat (first
  | (refine ⟨Int.NonNeg.mk _, ?_⟩)
  | (refine Need.mk ⟨_, rfl, ?_⟩; cbv)
  | (refine ⟨by decide, ?_⟩)
  | (refine Z4 hS [I _, I _, I _] [] [] rfl rfl rfl rfl rfl rfl rfl rfl (by decide) trivial (lIn _ _ _ _ fun b hb => Z3 (A := ar) Z0 rfl hS ?_); first | (obtain rfl : b = true := hb.trans (by decide)); cbv)
  | (refine Z1uo Z0 hS 7 fun L hL => ?_; cbv)
  | (refine Z1ut Z0 hS hL fun L hL => ?_; cbv))
 exact Z2 (H' := []) (d' := I 0) [] (by simp) (fun i hi => absurd hi (by simp)) trivial rfl (Z1 hq)
theorem lOne (Q) (hq : Q (RA.ret (I 0)) []) : CallA Tryz.prog 58 [earD, I 0] [] Q := by
 refine Z5 (A := ar) Z0 rfl Tryz.func58 rfl rfl rfl rfl rfl fun S hS => ?_;cbv
 repeat (first
  | (refine ⟨Int.NonNeg.mk _, ?_⟩)
  | (refine Need.mk ⟨_, rfl, ?_⟩; cbv)
  | (refine ⟨by decide, ?_⟩)
  | (refine Z4 hS [I _, I _, I _] [] [] rfl rfl rfl rfl rfl rfl rfl rfl (by decide) trivial (lIn _ _ _ _ fun b hb => Z3 (A := ar) Z0 rfl hS ?_); obtain rfl : b = true := hb.trans (by decide); cbv))
 exact Z2 (H' := []) (d' := I 0) [] (by simp) (fun i hi => absurd hi (by simp)) trivial rfl (Z1 hq)
def lrD : D := .v (.slice none 0 0)
set_option maxRecDepth 40000 in
theorem Z265 (Q) (hq : Q (RA.ret (.fn 114 [.cb earD 0, .cb lrD 0])) []) : CallA Tryz.prog 108 [earD] [] Q := by
 refine Z5 (A := ar) Z0 rfl Tryz.func108 rfl rfl rfl rfl rfl fun S hS => ?_;cbv;refine Z1uo Z0 hS 7 fun L hL => ?_;cbv;refine Z1w [0, 1] ?_;cbv;exact Z2 [] (by decide) Z9 (H' := []) (d' := .fn 114 [.cb earD 0, .cb lrD 0]) trivial rfl (Z1 hq)
def Z1zk (rows : List D) (x : Value) (ents : List Ent) : Prop := (rows = [] /\ x = .slice none 0 0 /\ ents = []) ∨ (rows ≠ [] /\ ents = [(x, some rows)])
def apH (asg bdy : Code) (x : Value) (ents : List Ent) : List Blk :=
 [.ob (.lp .ready none [(2, .b 1 0), (6, .fn 114 [.cb earD 0, .cb lrD 0])] 13 [7] asg bdy), .box (.v x), .ob (.gr 3 ents)]
structure RoundT (asg bdy : Code) : Prop where
 out : ∀ n rows x ents, Z1zk rows x ents -> rows.length <= 100 -> ∀ Q, (∀ x' ents', Z1zk (rows ++ [tone n]) x' ents' -> Q (RA.ret (.v (.bool true))) (apH asg bdy x' ents')) -> RoundA Tryz.prog 0 [tone n] (apH asg bdy x ents) Q
def truH (asg bdy : Code) (x : Value) (ents : List Ent) : List Blk := apH asg bdy x ents ++ [.box (.yv 0), .box (.fn 115 [.cb earD 0, .cb lrD 0, .b 3 0, .b 4 0])]
set_option maxRecDepth 40000 in
set_option maxHeartbeats 4000000 in
theorem Z253 (asg bdy : Code) (hR : RoundT asg bdy) (n : Int) (rows x ents) (hr : Z1zk rows x ents) (hl : rows.length <= 100) (Q) (hq : ∀ x' ents', Z1zk (rows ++ [tone n]) x' ents' -> Q (RA.ret (.v (.bool true))) (truH asg bdy x' ents')) :
  CallA Tryz.prog 115 [tone n, I 1, .cb earD 0, .cb lrD 0, .b 3 0, .b 4 0] (truH asg bdy x ents) Q := by
 obtain ⟨A, hA⟩ : ∃ A, A = ar := ⟨_, rfl⟩;refine Z5 Z0 hA Tryz.func115 rfl rfl rfl rfl rfl fun S hS => ?_;cbv;refine bmT (by subst hA; rfl) ?_;cbv;refine Z1xb Z0 hA hS 1 fun L hL => ?_;cbv;refine bmF (by subst hA; rfl) ?_;cbv;refine Zpp hS 0 [tone n] [0, 1, 2] (apH asg bdy x ents) rfl rfl rfl rfl rfl rfl rfl rfl rfl (by decide) ⟨rfl, rfl, rfl, trivial⟩ (hR.out n rows x ents hr hl _ fun x' ents' hr' => Z3 Z0 hA hS ?_);have hqq := hq x' ents' hr';cbv;exact Z2 [0, 1, 2, 3, 4] (by decide) Z91 (H' := truH asg bdy x' ents') (d' := .v (.bool true)) ⟨rfl, rfl, rfl, rfl, rfl, trivial⟩ rfl (Z1 hqq)
def allT : List D := [tone 44000, tone 44001, tone 44002, tone 44003, tone 44004, tone 44005, tone 44006, tone 44007, tone 44008, tone 44009, tone 44010]
set_option maxRecDepth 40000 in
set_option maxHeartbeats 16000000 in
theorem Z254 (asg bdy : Code) (hR : RoundT asg bdy) (Q) (hq : ∀ x' ents', Z1zk allT x' ents' -> Q (RA.ret (.v (.bool true))) (truH asg bdy x' ents')) :
  CallA Tryz.prog 115 [tone 0, I 0, .cb earD 0, .cb lrD 0, .b 3 0, .b 4 0] (truH asg bdy (.slice none 0 0) []) Q := by
 have hrow : Z1zk [] (.slice none 0 0) [] := .inl ⟨rfl, rfl, rfl⟩;refine Z5 (A := ar) Z0 rfl Tryz.func115 rfl rfl rfl rfl rfl fun S hS => ?_;cbv
 repeat (first
  | (refine ⟨Int.NonNeg.mk _, ?_⟩)
  | (refine Need.mk ⟨_, rfl, ?_⟩; cbv)
  | (refine ⟨by decide, ?_⟩)
  | (refine Z26 hS (Zo7 51 (tone _) rfl (WkD.arrAgg rfl) (Z7 ?_)); refine Z4 hS [tone _, I 1, .cb earD 0, .cb lrD 0, .b 3 0, .b 4 0] [0, 1, 2, 3, 4] (truH asg bdy _ _) rfl rfl rfl rfl rfl rfl rfl rfl (by decide) ⟨rfl, rfl, rfl, rfl, rfl, trivial⟩ (Z253 asg bdy hR _ _ _ _ hrow (Nat.le_of_ble_eq_true rfl) _ fun x ents hrow => Z3 (A := ar) Z0 rfl hS ?_); cbv)
  | (refine Z1uo Z0 hS 12 fun L hL => ?_; cbv)
  | (refine Z1ut Z0 hS hL fun L hL => ?_; cbv))
 rename_i x ents hrow L hL
 have hqq := hq x ents hrow;exact Z2 [0, 1, 2, 3, 4] (by decide) Z91 (H' := truH asg bdy x ents) (d' := .v (.bool true)) ⟨rfl, rfl, rfl, rfl, rfl, trivial⟩ rfl (Z1 hqq)
end Go.Proofs.YtggilmnhgjofiaaGreat

namespace Go.Abs
open Go Go.Conc
section
variable {P : Program} {T : TT}
theorem Z1zx (hT : TOK P T) {A : Ar} (hA : A = ar) (sp : List Nat) {f : FuncId} {fn : Func} {c : Code} (hf : P.funcs[f]? = some fn) (hb : fn.body = some c) (hnm : (fn.name == "runtime.NumGoroutine") = false) {as1 : List D} {H : List Blk} {Q : RA -> List Blk -> Prop} (hnt : Nat.ble as1.length fn.ntmps = true) {rs : List ResultVar} (hrs : fn.results.toList = rs) {nt : Nat} (hnt2 : fn.ntmps = nt)
  (h : ∀ S, S = Zo P none H.length -> vcF A T S sp c (Zwd A T rs (ghQ H.length Q) H.length) { env := Zd6 0 as1, H := H ++ [.ob .mk], nt := nt, dfs := [.mk H.length] }) : CallA P f as1 H Q := by
 subst hA; subst hrs; subst hnt2;exact Zcb (Zkb hT hf hb hnm hnt (Z5r hT c _ _ (h _ rfl)))
end
end Go.Abs
namespace Go.Proofs.YtggilmnhgjofiaaGreat
open Go Go.Abs Go.Proofs
set_option maxRecDepth 40000 in
set_option maxHeartbeats 4000000 in
theorem Z255 (asg bdy : Code) (hR : RoundT asg bdy) (Q) (hq : ∀ d x' ents', Z1zk allT x' ents' -> Q (RA.ret d) (apH asg bdy x' ents')) :
  CallA Tryz.prog 114 [.yv 0, .cb earD 0, .cb lrD 0] (apH asg bdy (.slice none 0 0) []) Q := by
 obtain ⟨A, hA⟩ : ∃ A, A = ar := ⟨_, rfl⟩;refine Z5 Z0 hA Tryz.func114 rfl rfl rfl rfl rfl fun S hS => ?_;cbv;refine Z4 hS [tone 0, I 0, .cb earD 0, .cb lrD 0, .b 3 0, .b 4 0] [0, 1, 2, 3, 4] (truH asg bdy (.slice none 0 0) []) rfl rfl rfl rfl rfl rfl rfl rfl (by decide) ⟨rfl, rfl, rfl, rfl, rfl, trivial⟩ (Z254 asg bdy hR _ fun x ents hrow => Z3 Z0 hA hS ?_);have hqq := hq (.tup []) x ents hrow;cbv;exact Z2 [0, 1, 2] (by decide) Zeb (H' := apH asg bdy x ents) (d' := .tup []) ⟨rfl, rfl, rfl, trivial⟩ rfl (Z1 hqq)
set_option maxRecDepth 40000 in
set_option maxHeartbeats 4000000 in
theorem Z22f (Q) (hq : Q (RA.ret (.o 0 3 11)) [.els 3 allT]) : CallA Tryz.prog 113 [.v (.slice none 0 0), .fn 114 [.cb earD 0, .cb lrD 0]] [] Q := by
 obtain ⟨A, hA⟩ : ∃ A, A = ar := ⟨_, rfl⟩;refine Z1zx Z0 hA [4] Tryz.func113 rfl rfl rfl rfl rfl fun S hS => ?_;cbv;refine Z3h hS (Z212 3 ?_);cbv;refine Z60 (a := { env := [(2, .b 1 0), (6, .fn 114 [.cb earD 0, .cb lrD 0])], H := [.ob .mk, .box (.v (.slice none 0 0)), .ob (.gr 3 [])], nt := 13, dfs := [.mk 0] }) [0, 1, 2] ⟨by decide, Z9, ⟨rfl, rfl, rfl, trivial⟩, ⟨rfl, rfl, trivial⟩, rfl, rfl⟩ (Z7 ?_);refine Z9l hS (as' := [.yv 0, .cb earD 0, .cb lrD 0]) [3, 1, 2] (apH _ _ (.slice none 0 0) []) rfl rfl rfl rfl (by decide) ⟨rfl, rfl, rfl, trivial⟩ ?_;refine Z255 _ _ ⟨fun n rows x ents hr hl Q hq => ?_⟩ _ fun d x ents hr => ?_
 ·rcases hr with ⟨rfl, rfl, rfl⟩ | ⟨hne, rfl⟩
  ·refine Zh2 Z0 hA rfl rfl (by decide) fun b' S2 hS2 => ?_;cbv;refine Zb hS2 ?_;refine Z2w Z0 hA hS2 [3] ?_;cbv;refine Z4j Z0 hA hS2 [0, 1, 2, 3] [4] rfl ?_;cbv;refine ⟨by subst hA; rfl, by subst hA; exact ⟨by decide, by decide⟩, ?_⟩;refine Z26 hS2 (Z11p 2 5 0 11 rfl rfl rfl rfl (by simp) (by simp) (by simp) fun x' hx' => ?_);cbv;refine Z60 (a := { env := [(2, .b 1 0), (11, .v x')], H := [.ob (.lp .busy none [(2, .b 1 0), (6, .fn 114 [.cb earD 0, .cb lrD 0])] 13 [7] _ _), .box (.v (.slice none 0 0)), .ob (.gr 3 [(x', some [tone n])])], nt := 13, dfs := [] }) [0, 1, 2] ⟨by decide, Zeb, ⟨rfl, rfl, rfl, trivial⟩, ⟨rfl, rfl, trivial⟩, rfl, rfl⟩ (Z7 ?_);refine Zii hS2 (Z3 Z0 hA hS2 ?_);cbv;exact ⟨⟨_, _, rfl⟩, hq x' [(x', some [tone n])] (.inr ⟨by simp, rfl⟩)⟩
  ·obtain ⟨R, hRe⟩ : ∃ R, R = rows ++ [tone n] := ⟨_, rfl⟩;have hRn : R ≠ [] := by rw [hRe]; simp
   have hRp : 0 < R.length := by rw [hRe]; simp
   rw [<- hRe] at hq;refine Zh2 Z0 hA rfl rfl (by decide) fun b' S2 hS2 => ?_;cbv;refine Zb hS2 ?_;refine Z2w Z0 hA hS2 [3] ?_;cbv;refine Z4j Z0 hA hS2 [0, 1, 2] [3, 4] rfl ?_;cbv;obtain ⟨N, hN⟩ : ∃ N, N = rows.length := ⟨_, rfl⟩;have hN1 : N <= 1000000 := by omega
   refine Z26 hS2 (Z1wx 2 0 8 hN rfl rfl rfl (Z7 ?_));refine Zii hS2 (Zke Z0 hA hS2 [3] [4] ?_);cbv;refine ⟨Ze hA hN.symm, Ze hA rfl, Z27 hA hN1 (by decide), ?_⟩;have hR : A.app rows [.agg [I n, I 0, I 0]] = R := by rw [hRe]; subst hA; rfl
   refine Z26 hS2 (Zog 6 rfl (congrArg (Blk.els 3) hR) ?_);refine Z11p 2 6 0 11 (show A.addN N 1 = R.length by rw [hRe]; subst hA; rw [hN]; simp [ar]) rfl rfl rfl (by simp) (by simp) hRp fun x' hx' => ?_;refine Z60 (a := { env := [(2, .b 1 0), (11, .v x')], H := [.ob (.lp .busy none [(2, .b 1 0), (6, .fn 114 [.cb earD 0, .cb lrD 0])] 13 [7] _ _), .box (.v x), .ob (.gr 3 [(x', some R)])], nt := 13, dfs := [] }) [0, 1, 2] ⟨by decide, Zeb, ⟨rfl, rfl, rfl, trivial⟩, ⟨rfl, rfl, trivial⟩, rfl, rfl⟩ (Z7 ?_);refine Zii hS2 (Z3 Z0 hA hS2 ?_);cbv;exact ⟨⟨_, _, rfl⟩, hq x' [(x', some R)] (.inr ⟨hRn, rfl⟩)⟩
 ·refine ⟨⟨.ready, _, (by intro h; cases h), rfl⟩, ?_⟩;cbv;rcases hr with ⟨h0, -, -⟩ | ⟨-, rfl⟩
  ·exact absurd h0 (by simp [allT])
  refine Z4j Z0 hA hS [0] [1] rfl ?_;cbv;refine Z26 hS (Z1z5 2 0 12 rfl rfl rfl (Z7 ?_));refine Zii hS (Z3 Z0 hA hS ?_);cbv;exact Z2 [4] (by decide) Z9 (H' := [.els 3 allT]) (d' := .o 0 3 11) ⟨rfl, trivial⟩ rfl (Z1 hq)
end Go.Proofs.YtggilmnhgjofiaaGreat

namespace Go.Proofs.YtggilmnhgjofiaaGreat
open Go Go.Abs Go.Proofs
theorem Z256 (Q) (hq : Q (RA.ret (.o 0 3 11)) [.els 3 allT]) : CallA Tryz.prog 107 [.fn 114 [.cb earD 0, .cb lrD 0]] [] Q := by
 obtain ⟨A, hA⟩ : ∃ A, A = ar := ⟨_, rfl⟩;refine Z5 Z0 hA Tryz.func107 rfl rfl rfl rfl rfl fun S hS => ?_;cbv;refine Z4 hS [.v (.slice none 0 0), .fn 114 [.cb earD 0, .cb lrD 0]] [] [] rfl rfl rfl rfl rfl rfl rfl rfl (by decide) trivial (Z22f _ (Z3 Z0 hA hS ?_));cbv;exact Z2 [0] (by decide) Z9 (H' := [.els 3 allT]) (d' := .o 0 3 11) ⟨rfl, trivial⟩ rfl (Z1 hq)
theorem Z27e (Q) (hq : Q (RA.ret (.tup [.o 0 3 11, I 0])) [.els 3 allT]) : CallA Tryz.prog 90 [earD] [] Q := by
 obtain ⟨A, hA⟩ : ∃ A, A = ar := ⟨_, rfl⟩;refine Z5 Z0 hA Tryz.func90 rfl rfl rfl rfl rfl fun S hS => ?_;cbv;refine Z4 hS [earD] [] [] rfl rfl rfl rfl rfl rfl rfl rfl (by decide) trivial (Z237 _ (Z3 Z0 hA hS ?_));cbv;refine bmF (by subst hA; rfl) ?_;cbv;refine Z4 hS [earD] [] [] rfl rfl rfl rfl rfl rfl rfl rfl (by decide) trivial (Z265 _ (Z3 Z0 hA hS ?_));cbv;refine Z4 hS [.fn 114 [.cb earD 0, .cb lrD 0]] [] [] rfl rfl rfl rfl rfl rfl rfl rfl (by decide) trivial (Z256 _ (Z3 Z0 hA hS ?_));cbv;refine bmF (by subst hA; rfl) ?_;cbv;exact Z2 [1] (by decide) Z9 (H' := [.els 3 allT]) (d' := .tup [.o 0 3 11, I 0]) ⟨rfl, trivial⟩ rfl (Z1 hq)
theorem lAsk (Q) (hq : Q (RA.ret (.tup [.o 0 3 11, I 0])) [.els 3 allT]) : CallA Tryz.prog 59 [earD, I 0] [] Q := by
 obtain ⟨A, hA⟩ : ∃ A, A = ar := ⟨_, rfl⟩;refine Z5 Z0 hA Tryz.func59 rfl rfl rfl rfl rfl fun S hS => ?_;cbv;refine Z4 hS [earD] [] [] rfl rfl rfl rfl rfl rfl rfl rfl (by decide) trivial (Z237 _ (Z3 Z0 hA hS ?_));cbv;refine bmF (by subst hA; rfl) ?_;cbv;refine bmF (by subst hA; rfl) ?_;cbv;refine Z4 hS [earD] [] [] rfl rfl rfl rfl rfl rfl rfl rfl (by decide) trivial (Z27e _ (Z3 Z0 hA hS ?_));cbv;exact Z2 [1] (by decide) Z9 (H' := [.els 3 allT]) (d' := .tup [.o 0 3 11, I 0]) ⟨rfl, trivial⟩ rfl (Z1 hq)
theorem Z22g (s : Int) (Q) (hq : Q (RA.ret (.ifc 180 (.agg [I 1, I 0, I 0, I s, I 0, I 0, I 0]))) []) : CallA Tryz.prog 60 [.agg [I 1, I 0, I 0, I s, I 0, I 0], I 0] [] Q := by
 obtain ⟨A, hA⟩ : ∃ A, A = ar := ⟨_, rfl⟩;refine Z5 Z0 hA Tryz.func60 rfl rfl rfl rfl rfl fun S hS => ?_;cbv;refine bmT (by subst hA; rfl) ?_;cbv;exact Z2 [] (by decide) Z9 (H' := []) (d' := .ifc 180 (.agg [I 1, I 0, I 0, I s, I 0, I 0, I 0])) trivial rfl (Z1 hq)
theorem Z1zl {n a : Int} (hn : 0 <= n /\ n <= 100000) (ha : 0 <= a /\ a <= 100) : 0 <= n * a /\ n * a <= 10000000 := by
 have h1 := Int.mul_nonneg hn.1 ha.1;have h2 : n * a <= n * 100 := Int.mul_le_mul_of_nonneg_left ha.2 hn.1;omega
set_option maxRecDepth 40000 in
set_option maxHeartbeats 4000000 in
theorem lIs (n s c v : Int) (hv : v = n * s) (hn : 0 <= n /\ n <= 100000) (hs : 0 <= s /\ s <= 100) (hc : -10 <= c /\ c <= 1000000) (Q) (hq : ∀ b, b = (decide (100 * (c - 1) < v) && decide (v < 100 * (c + 1))) -> Q (RA.ret (.v (.bool b))) []) :
  CallA Tryz.prog 109 [.agg [I 1, I 0, I 0, I s, I c, I c, I 0], tone n] [] Q := by
 obtain ⟨A, hA⟩ : ∃ A, A = ar := ⟨_, rfl⟩;have hb := Z1zl hn hs;rw [<- hv] at hb;have hmul : A.mul n s = v := by subst hA; exact hv.symm
 have e1 : A.mul 100 (A.sub (A.sub c 1) 0) = 100 * (c - 1) := by subst hA; show 100 * (c - 1 - 0) = _; omega
 have e2 : A.mul 100 (A.add (A.add c 1) 0) = 100 * (c + 1) := by subst hA; show 100 * (c + 1 + 0) = _; omega
 have f0 : A.fits .i64 (A.mul n s) := by rw [hmul]; subst hA; exact Zbu (by omega)
 have f1 : A.fits .i64 (A.sub c 1) := by subst hA; exact Zbu (n := c - 1) (by omega)
 have f2 : A.fits .i64 (A.sub (A.sub c 1) 0) := by subst hA; exact Zbu (n := c - 1 - 0) (by omega)
 have f3 : A.fits .i64 (A.mul 100 (A.sub (A.sub c 1) 0)) := by rw [e1]; subst hA; exact Zbu (by omega)
 have f4 : A.fits .i64 (A.add c 1) := by subst hA; exact Zbu (n := c + 1) (by omega)
 have f5 : A.fits .i64 (A.add (A.add c 1) 0) := by subst hA; exact Zbu (n := c + 1 + 0) (by omega)
 have f6 : A.fits .i64 (A.mul 100 (A.add (A.add c 1) 0)) := by rw [e2]; subst hA; exact Zbu (by omega)
 have g1 : A.mul 100 (A.sub (A.sub c 1) 0) < A.mul n s -> 100 * (c - 1) < v := fun h => by rwa [e1, hmul] at h
 have g2 : A.cmp .lss (A.mul n s) (A.mul 100 (A.add (A.add c 1) 0)) = decide (v < 100 * (c + 1)) := by rw [e2, hmul]; subst hA; rfl
 have g3 : A.mul n s <= A.mul 100 (A.sub (A.sub c 1) 0) -> v <= 100 * (c - 1) := fun h => by rwa [e1, hmul] at h
 clear hv e1 e2 hmul;refine Z5 Z0 hA Tryz.func109 rfl rfl rfl rfl rfl fun S hS => ?_;cbv;refine Z16 Z0 hA hS [0, 1, 2, 3, 4, 5, 6, 7, 8, 9] rfl rfl fun Dk hDk => ?_;cbv;refine ⟨by subst hA; exact ⟨by decide, by decide⟩, Need.mk ⟨I n, by subst hA; rfl, ?_⟩⟩;cbv;refine ⟨f0, f1, f2, f3, ?_⟩;refine bm (fun cc => ?_) (fun cc => ?_)
 ·cbv;refine ⟨f4, f5, f6, ?_⟩;refine Z2 [] (by decide) Z9 (H' := []) (d' := .v (.bool (A.cmp .lss (A.mul n s) (A.mul 100 (A.add (A.add c 1) 0))))) trivial rfl (Z1 (hq _ ?_));have g1 := g1 (xgt hA cc);rw [g2, decide_eq_true g1]; rfl
 ·cbv;refine Z2 [] (by decide) Z9 (H' := []) (d' := .v (.bool false)) trivial rfl (Z1 (hq _ ?_));have g3 := g3 (Zax hA cc);rw [decide_eq_false (by omega)]; rfl
end Go.Proofs.YtggilmnhgjofiaaGreat
