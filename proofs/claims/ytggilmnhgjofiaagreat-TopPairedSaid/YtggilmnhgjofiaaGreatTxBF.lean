/- Part TxBF of the proofs about the benches of the accordion maker: see the last text of the claim for what is proved. -/
import Derived.Test.YtggilmnhgjofiaaGreatTxBE
set_option linter.unusedVariables false
set_option linter.unusedSimpArgs false
set_option linter.unnecessarySimpa false
set_option linter.constructorNameAsVariable false

namespace Go.Abs
theorem WkD.any {d : D} : WkD d .any := ⟨fun _ _ v _ => .cl _ _ (.any v)⟩
end Go.Abs
namespace Go.Proofs.YtggilmnhgjofiaaGreat
open Go Go.Abs Go.Proofs
def Z1v9 (t x : R2) : Nat -> R2
 | 0 => t
 | n + 1 => Z1vf (Z1v9 t x n) x
theorem Z209 {t x : R2} (ht : -1000 <= t.1 /\ t.1 <= 1000 /\ -1000 <= t.2 /\ t.2 <= 1000) (hx : -1000 <= x.1 /\ x.1 <= 1000 /\ -1000 <= x.2 /\ x.2 <= 1000) : ∀ n : Nat, -1000 - 1000 * (n : Int) <= (Z1v9 t x n).1 /\ (Z1v9 t x n).1 <= 1000 + 1000 * (n : Int) /\ -1000 - 1000 * (n : Int) <= (Z1v9 t x n).2 /\ (Z1v9 t x n).2 <= 1000 + 1000 * (n : Int)
 | 0 => by simpa [Z1v9] using ht
 | n + 1 => by
  have := Z209 ht hx n;simp only [Z1v9, Z1vf];omega
theorem Z233 {t x : R2} (ht : -1000 <= t.1 /\ t.1 <= 1000 /\ -1000 <= t.2 /\ t.2 <= 1000) (hx : -1000 <= x.1 /\ x.1 <= 1000 /\ -1000 <= x.2 /\ x.2 <= 1000) : ∀ n : Nat, n <= 11 -> ∀ c e, (c, e) = Z1v9 t x n -> MidV c /\ MidV e := fun n hn c e h => by
 have := Z209 ht hx n;rw [<- h] at this;simp only [MidV];omega
def Z1wp (t x r y : R2) (least : Int) (tp rt : Nat) : Bool := decide (Z1x1 (Z1v9 t x tp) (Z1v9 r y rt) least = 2)
set_option maxRecDepth 40000 in
set_option maxHeartbeats 8000000 in
theorem Z25y (p0 p1 t0 t1 r0 r1 u0 u1 d0 d1 x0 x1 y0 y1 least wi me : Int) (SL : List D) (w0 w1 a b : Int) (tp rt lf : Nat) (tpI rtI lfI : Int) (ht : IsI tpI tp) (hr : IsI rtI rt) (hlf : IsI lfI (lf + 1)) (htp : tp <= 10) (hrt : rt <= 10) (hl : lf <= 10) (hab : MidV a /\ MidV b)
  (hT : -1000 <= t0 /\ t0 <= 1000 /\ -1000 <= t1 /\ t1 <= 1000) (hR : -1000 <= r0 /\ r0 <= 1000 /\ -1000 <= r1 /\ r1 <= 1000) (hX : -1000 <= x0 /\ x0 <= 1000 /\ -1000 <= x1 /\ x1 <= 1000) (hY : -1000 <= y0 /\ y0 <= 1000 /\ -1000 <= y1 /\ y1 <= 1000) (hU : -1000 <= u0 /\ u0 <= 1000 /\ -1000 <= u1 /\ u1 <= 1000) (hD : -1000 <= d0 /\ d0 <= 1000 /\ -1000 <= d1 /\ d1 <= 1000) (Q)
  (hq : ∀ a' b' tpI' rtI' lfI' bb, (a', b') = Z1wn (a, b) (u0, u1) -> IsI tpI' (tp + 1) -> IsI rtI' (rt) -> IsI lfI' lf -> bb = Z1wp (t0, t1) (x0, x1) (r0, r1) (y0, y1) least (tp + 1) (rt) -> Q (RA.ret (.tup [.agg [I a', I b', I tpI', I rtI', I lfI'], .v (.bool bb)])) []) :
  CallA Tryz.prog 75 [.agg [I p0, I p1, I t0, I t1, I r0, I r1, I u0, I u1, I d0, I d1, I x0, I x1, I y0, I y1, I least, .sl 2 SL, I wi, I me, I w0, I w1, .any], .agg [I a, I b, I tpI, I rtI, I lfI], I 1] [] Q := by
 obtain ⟨A, hA⟩ : ∃ A, A = ar := ⟨_, rfl⟩;have hTm := Z233 (t := (t0, t1)) (x := (x0, x1)) hT hX;have hRm := Z233 (t := (r0, r1)) (x := (y0, y1)) hR hY;have sm : ∀ z : Int, -1000 <= z -> z <= 1000 -> MidV z := fun z h1 h2 => ⟨by omega, by omega⟩;have hm1 : MidV a /\ MidV b /\ MidV u0 /\ MidV u1 := ⟨hab.1, hab.2, sm _ hU.1 hU.2.1, sm _ hU.2.2.1 hU.2.2.2⟩;have hm2 : MidV t0 /\ MidV t1 /\ MidV x0 /\ MidV x1 := ⟨sm _ hT.1 hT.2.1, sm _ hT.2.2.1 hT.2.2.2, sm _ hX.1 hX.2.1, sm _ hX.2.2.1 hX.2.2.2⟩;have hxm : MidV x0 /\ MidV x1 := ⟨sm _ hX.1 hX.2.1, sm _ hX.2.2.1 hX.2.2.2⟩;have hym : MidV y0 /\ MidV y1 := ⟨sm _ hY.1 hY.2.1, sm _ hY.2.2.1 hY.2.2.2⟩;have hs1 : IsI (A.add tpI 1) (tp + 1) := Zz hA ht;have hs2 : IsI (A.sub lfI 1) lf := by subst hA; exact ⟨by have := hlf.eq; show lfI - 1 = _; omega⟩
 have hf1 : A.fits .i64 (A.add tpI 1) := Zy hA ht (by omega);have hf2 : A.fits .i64 (A.sub lfI 1) := by subst hA; exact Zbu (n := lfI - 1) (by have := hlf.eq; omega)
 obtain ⟨tq, htq⟩ : ∃ tq, tq = tp + 1 := ⟨_, rfl⟩;obtain ⟨rq, hrq⟩ : ∃ rq, rq = rt := ⟨_, rfl⟩;rw [<- htq, <- hrq] at hq;obtain ⟨tqI, htqI⟩ : ∃ tqI, tqI = A.add tpI 1 := ⟨_, rfl⟩;obtain ⟨rqI, hrqI⟩ : ∃ rqI, rqI = rtI := ⟨_, rfl⟩;have htI : IsI tqI tq := by rw [htqI, htq]; exact hs1
 have hrI : IsI rqI rq := by rw [hrqI, hrq]; exact hr
 have htq10 : tq <= 11 := by omega
 have hrq10 : rq <= 11 := by omega
 clear hs1;refine Z5 Z0 hA Tryz.func75 rfl rfl rfl rfl rfl fun S hS => ?_;cbv;refine Z4 hS [.agg [I a, I b, I t0, I t1, I r0, I r1, I u0, I u1, I d0, I d1, I x0, I x1, I y0, I y1, I least], I 1] [] [] rfl rfl rfl rfl rfl rfl rfl rfl (by decide) trivial (Z231 a b t0 t1 r0 r1 u0 u1 d0 d1 x0 x1 y0 y1 least hm1 hm2 _ fun a' b' c' e' hab' hcd => Z3 Z0 hA hS ?_);cbv;refine bmT (by subst hA; rfl) ?_;cbv;refine ⟨hf1, hf2, ?_⟩;refine Zb hS ?_;refine Za (α := Int × Nat × Int × Int) (fun q => { env := [(3, .b 0 0), (4, .b 1 0), (6, .b 2 0), (7, .v (.bool false)), (8, .b 3 0), (43, I tqI), (44, I q.1)], H := [.box (.agg [I p0, I p1, I t0, I t1, I r0, I r1, I u0, I u1, I d0, I d1, I x0, I x1, I y0, I y1, I least, .sl 2 SL, I wi, I me, I w0, I w1, .any]), .box (.agg [I a', I b', I tqI, I rqI, I (A.sub lfI 1)]), .box (.agg [I 0, I 0, I 0, I 0, I 0]), .box (.agg [I a, I b, I q.2.2.1, I q.2.2.2, I r0, I r1, I u0, I u1, I d0, I d1, I x0, I x1, I y0, I y1, I least])], nt := 74, dfs := [] })
  (fun q => tq - q.2.1) (fun q => IsI q.1 q.2.1 /\ q.2.1 <= tq /\ (q.2.2.1, q.2.2.2) = Z1v9 (t0, t1) (x0, x1) q.2.1) (0, 0, t0, t1) ⟨⟨rfl⟩, Nat.zero_le _, rfl⟩ ?_ ?_
 ·subst htqI hrqI;exact Zf [0, 1, 2, 3] ⟨by decide, Z9, ⟨rfl, rfl, rfl, rfl, trivial⟩, ⟨rfl, rfl, rfl, rfl, rfl, rfl, rfl, trivial⟩, rfl, rfl⟩
 rintro ⟨i, k, c, e⟩ ⟨v1, v2, v3⟩;dsimp only at v1 v2 v3;have hmc : MidV c /\ MidV e /\ MidV x0 /\ MidV x1 := have := hTm k (by omega) _ _ v3; ⟨this.1, this.2, hxm⟩;refine Zi Z0 hA hS ?_;cbv;refine bm (fun cc => ?_) (fun cc => ?_)
 ·have hk : k < tq := by
   have h1 := xlt hA cc;have h2 := v1.eq;have h3 := htI.eq;omega
  have hf3 := Zy hA v1 (by omega);have hu3 := Zz hA v1;have hms : tq - (k + 1) < tq - k := by omega
  cbv;refine Z4 hS [.agg [I c, I e], .agg [I x0, I x1]] [] [] rfl rfl rfl rfl rfl rfl rfl rfl (by decide) trivial (Z1zg c e x0 x1 hmc _ fun c2 e2 hc2 => Z3 Z0 hA hS ?_);cbv;refine ⟨hf3, ?_⟩;refine Z8 (A.add i 1, k + 1, c2, e2) [0, 1, 2, 3] ⟨hu3, hk, ?_⟩ hms ?_
  ·rw [hc2, v3]; rfl
  ·exact ⟨by decide, Z9, ⟨rfl, rfl, rfl, rfl, trivial⟩, ⟨rfl, rfl, rfl, rfl, rfl, rfl, rfl, trivial⟩, rfl, rfl⟩
 have hk : k = tq := by
  have h1 := Z7x hA cc;have h2 := v1.eq;have h3 := htI.eq;omega
 have hthin : (c, e) = Z1v9 (t0, t1) (x0, x1) tq := hk ▸ v3;cbv;refine Z7 ?_;cbv;refine Zb hS ?_;refine Za (α := Int × Nat × Int × Int) (fun q => { env := [(3, .b 0 0), (4, .b 1 0), (6, .b 2 0), (7, .v (.bool false)), (8, .b 3 0), (57, I rqI), (58, I q.1)], H := [.box (.agg [I p0, I p1, I t0, I t1, I r0, I r1, I u0, I u1, I d0, I d1, I x0, I x1, I y0, I y1, I least, .sl 2 SL, I wi, I me, I w0, I w1, .any]), .box (.agg [I a', I b', I tqI, I rqI, I (A.sub lfI 1)]), .box (.agg [I 0, I 0, I 0, I 0, I 0]), .box (.agg [I a, I b, I c, I e, I q.2.2.1, I q.2.2.2, I u0, I u1, I d0, I d1, I x0, I x1, I y0, I y1, I least])], nt := 74, dfs := [] })
  (fun q => rq - q.2.1) (fun q => IsI q.1 q.2.1 /\ q.2.1 <= rq /\ (q.2.2.1, q.2.2.2) = Z1v9 (r0, r1) (y0, y1) q.2.1) (0, 0, r0, r1) ⟨⟨rfl⟩, Nat.zero_le _, rfl⟩ ?_ ?_
 ·exact Zf [0, 1, 2, 3] ⟨by decide, Z9, ⟨rfl, rfl, rfl, rfl, trivial⟩, ⟨rfl, rfl, rfl, rfl, rfl, rfl, rfl, trivial⟩, rfl, rfl⟩
 clear v1 v2 v3 hk cc;rintro ⟨i, k, f, g⟩ ⟨v1, v2, v3⟩;dsimp only at v1 v2 v3;have hmc : MidV f /\ MidV g /\ MidV y0 /\ MidV y1 := have := hRm k (by omega) _ _ v3; ⟨this.1, this.2, hym⟩;refine Zi Z0 hA hS ?_;cbv;refine bm (fun cc => ?_) (fun cc => ?_)
 ·have hk : k < rq := by
   have h1 := xlt hA cc;have h2 := v1.eq;have h3 := hrI.eq;omega
  have hf3 := Zy hA v1 (by omega);have hu3 := Zz hA v1;have hms : rq - (k + 1) < rq - k := by omega
  cbv;refine Z4 hS [.agg [I f, I g], .agg [I y0, I y1]] [] [] rfl rfl rfl rfl rfl rfl rfl rfl (by decide) trivial (Z1zg f g y0 y1 hmc _ fun c2 e2 hc2 => Z3 Z0 hA hS ?_);cbv;refine ⟨hf3, ?_⟩;refine Z8 (A.add i 1, k + 1, c2, e2) [0, 1, 2, 3] ⟨hu3, hk, ?_⟩ hms ?_
  ·rw [hc2, v3]; rfl
  ·exact ⟨by decide, Z9, ⟨rfl, rfl, rfl, rfl, trivial⟩, ⟨rfl, rfl, rfl, rfl, rfl, rfl, rfl, trivial⟩, rfl, rfl⟩
 have hk : k = rq := by
  have h1 := Z7x hA cc;have h2 := v1.eq;have h3 := hrI.eq;omega
 have hthin2 : (f, g) = Z1v9 (r0, r1) (y0, y1) rq := hk ▸ v3;cbv;refine Z7 ?_;cbv;refine Z16 Z0 hA hS [0, 1, 2, 3, 4, 5] rfl rfl fun Dk hDk => ?_;cbv;refine Zq hA hDk [.agg [I a, I b, I c, I e, I f, I g, I u0, I u1, I d0, I d1, I x0, I x1, I y0, I y1, I least]] [] [] rfl rfl rfl rfl rfl rfl rfl rfl rfl rfl rfl (by decide) trivial (Z21k a b c e f g u0 u1 d0 d1 x0 x1 y0 y1 least _ fun v hv => ⟨by cbv, Zx Z0 hA hDk ?_⟩);cbv;refine Z2 (H' := []) (d' := .tup [.agg [I a', I b', I tqI, I rqI, I (A.sub lfI 1)], .v (.bool (A.cmp .eql v 2))]) [] (by simp) (fun i hi => absurd hi (by simp)) trivial rfl (Z1 (hq a' b' tqI rqI _ _ hab' htI hrI hs2 ?_));subst hA;show decide (v = 2) = _;rw [Z1wp, <- hthin, <- hthin2, hv]
set_option maxRecDepth 40000 in
set_option maxHeartbeats 8000000 in
theorem Z25z (p0 p1 t0 t1 r0 r1 u0 u1 d0 d1 x0 x1 y0 y1 least wi me : Int) (SL : List D) (w0 w1 a b : Int) (tp rt lf : Nat) (tpI rtI lfI : Int) (ht : IsI tpI tp) (hr : IsI rtI rt) (hlf : IsI lfI (lf + 1)) (htp : tp <= 10) (hrt : rt <= 10) (hl : lf <= 10) (hab : MidV a /\ MidV b)
  (hT : -1000 <= t0 /\ t0 <= 1000 /\ -1000 <= t1 /\ t1 <= 1000) (hR : -1000 <= r0 /\ r0 <= 1000 /\ -1000 <= r1 /\ r1 <= 1000) (hX : -1000 <= x0 /\ x0 <= 1000 /\ -1000 <= x1 /\ x1 <= 1000) (hY : -1000 <= y0 /\ y0 <= 1000 /\ -1000 <= y1 /\ y1 <= 1000) (hU : -1000 <= u0 /\ u0 <= 1000 /\ -1000 <= u1 /\ u1 <= 1000) (hD : -1000 <= d0 /\ d0 <= 1000 /\ -1000 <= d1 /\ d1 <= 1000) (Q)
  (hq : ∀ a' b' tpI' rtI' lfI' bb, (a', b') = Z1vf (a, b) (d0, d1) -> IsI tpI' (tp) -> IsI rtI' (rt + 1) -> IsI lfI' lf -> bb = Z1wp (t0, t1) (x0, x1) (r0, r1) (y0, y1) least (tp) (rt + 1) -> Q (RA.ret (.tup [.agg [I a', I b', I tpI', I rtI', I lfI'], .v (.bool bb)])) []) :
  CallA Tryz.prog 75 [.agg [I p0, I p1, I t0, I t1, I r0, I r1, I u0, I u1, I d0, I d1, I x0, I x1, I y0, I y1, I least, .sl 2 SL, I wi, I me, I w0, I w1, .any], .agg [I a, I b, I tpI, I rtI, I lfI], I 2] [] Q := by
 obtain ⟨A, hA⟩ : ∃ A, A = ar := ⟨_, rfl⟩;have hTm := Z233 (t := (t0, t1)) (x := (x0, x1)) hT hX;have hRm := Z233 (t := (r0, r1)) (x := (y0, y1)) hR hY;have sm : ∀ z : Int, -1000 <= z -> z <= 1000 -> MidV z := fun z h1 h2 => ⟨by omega, by omega⟩;have hm1 : MidV a /\ MidV b /\ MidV d0 /\ MidV d1 := ⟨hab.1, hab.2, sm _ hD.1 hD.2.1, sm _ hD.2.2.1 hD.2.2.2⟩;have hm2 : MidV r0 /\ MidV r1 /\ MidV y0 /\ MidV y1 := ⟨sm _ hR.1 hR.2.1, sm _ hR.2.2.1 hR.2.2.2, sm _ hY.1 hY.2.1, sm _ hY.2.2.1 hY.2.2.2⟩;have hxm : MidV x0 /\ MidV x1 := ⟨sm _ hX.1 hX.2.1, sm _ hX.2.2.1 hX.2.2.2⟩;have hym : MidV y0 /\ MidV y1 := ⟨sm _ hY.1 hY.2.1, sm _ hY.2.2.1 hY.2.2.2⟩;have hs1 : IsI (A.add rtI 1) (rt + 1) := Zz hA hr;have hs2 : IsI (A.sub lfI 1) lf := by subst hA; exact ⟨by have := hlf.eq; show lfI - 1 = _; omega⟩
 have hf1 : A.fits .i64 (A.add rtI 1) := Zy hA hr (by omega);have hf2 : A.fits .i64 (A.sub lfI 1) := by subst hA; exact Zbu (n := lfI - 1) (by have := hlf.eq; omega)
 obtain ⟨tq, htq⟩ : ∃ tq, tq = tp := ⟨_, rfl⟩;obtain ⟨rq, hrq⟩ : ∃ rq, rq = rt + 1 := ⟨_, rfl⟩;rw [<- htq, <- hrq] at hq;obtain ⟨tqI, htqI⟩ : ∃ tqI, tqI = tpI := ⟨_, rfl⟩;obtain ⟨rqI, hrqI⟩ : ∃ rqI, rqI = A.add rtI 1 := ⟨_, rfl⟩;have htI : IsI tqI tq := by rw [htqI, htq]; exact ht
 have hrI : IsI rqI rq := by rw [hrqI, hrq]; exact hs1
 have htq10 : tq <= 11 := by omega
 have hrq10 : rq <= 11 := by omega
 clear hs1;refine Z5 Z0 hA Tryz.func75 rfl rfl rfl rfl rfl fun S hS => ?_;cbv;refine Z4 hS [.agg [I a, I b, I t0, I t1, I r0, I r1, I u0, I u1, I d0, I d1, I x0, I x1, I y0, I y1, I least], I 2] [] [] rfl rfl rfl rfl rfl rfl rfl rfl (by decide) trivial (Z232 a b t0 t1 r0 r1 u0 u1 d0 d1 x0 x1 y0 y1 least hm1 hm2 _ fun a' b' c' e' hab' hcd => Z3 Z0 hA hS ?_);cbv;refine bmF (by subst hA; rfl) ?_;cbv;refine ⟨hf1, hf2, ?_⟩;refine Zb hS ?_;refine Za (α := Int × Nat × Int × Int) (fun q => { env := [(3, .b 0 0), (4, .b 1 0), (6, .b 2 0), (7, .v (.bool false)), (8, .b 3 0), (43, I tqI), (44, I q.1)], H := [.box (.agg [I p0, I p1, I t0, I t1, I r0, I r1, I u0, I u1, I d0, I d1, I x0, I x1, I y0, I y1, I least, .sl 2 SL, I wi, I me, I w0, I w1, .any]), .box (.agg [I a', I b', I tqI, I rqI, I (A.sub lfI 1)]), .box (.agg [I 0, I 0, I 0, I 0, I 0]), .box (.agg [I a, I b, I q.2.2.1, I q.2.2.2, I r0, I r1, I u0, I u1, I d0, I d1, I x0, I x1, I y0, I y1, I least])], nt := 74, dfs := [] })
  (fun q => tq - q.2.1) (fun q => IsI q.1 q.2.1 /\ q.2.1 <= tq /\ (q.2.2.1, q.2.2.2) = Z1v9 (t0, t1) (x0, x1) q.2.1) (0, 0, t0, t1) ⟨⟨rfl⟩, Nat.zero_le _, rfl⟩ ?_ ?_
 ·subst htqI hrqI;exact Zf [0, 1, 2, 3] ⟨by decide, Z9, ⟨rfl, rfl, rfl, rfl, trivial⟩, ⟨rfl, rfl, rfl, rfl, rfl, rfl, rfl, trivial⟩, rfl, rfl⟩
 rintro ⟨i, k, c, e⟩ ⟨v1, v2, v3⟩;dsimp only at v1 v2 v3;have hmc : MidV c /\ MidV e /\ MidV x0 /\ MidV x1 := have := hTm k (by omega) _ _ v3; ⟨this.1, this.2, hxm⟩;refine Zi Z0 hA hS ?_;cbv;refine bm (fun cc => ?_) (fun cc => ?_)
 ·have hk : k < tq := by
   have h1 := xlt hA cc;have h2 := v1.eq;have h3 := htI.eq;omega
  have hf3 := Zy hA v1 (by omega);have hu3 := Zz hA v1;have hms : tq - (k + 1) < tq - k := by omega
  cbv;refine Z4 hS [.agg [I c, I e], .agg [I x0, I x1]] [] [] rfl rfl rfl rfl rfl rfl rfl rfl (by decide) trivial (Z1zg c e x0 x1 hmc _ fun c2 e2 hc2 => Z3 Z0 hA hS ?_);cbv;refine ⟨hf3, ?_⟩;refine Z8 (A.add i 1, k + 1, c2, e2) [0, 1, 2, 3] ⟨hu3, hk, ?_⟩ hms ?_
  ·rw [hc2, v3]; rfl
  ·exact ⟨by decide, Z9, ⟨rfl, rfl, rfl, rfl, trivial⟩, ⟨rfl, rfl, rfl, rfl, rfl, rfl, rfl, trivial⟩, rfl, rfl⟩
 have hk : k = tq := by
  have h1 := Z7x hA cc;have h2 := v1.eq;have h3 := htI.eq;omega
 have hthin : (c, e) = Z1v9 (t0, t1) (x0, x1) tq := hk ▸ v3;cbv;refine Z7 ?_;cbv;refine Zb hS ?_;refine Za (α := Int × Nat × Int × Int) (fun q => { env := [(3, .b 0 0), (4, .b 1 0), (6, .b 2 0), (7, .v (.bool false)), (8, .b 3 0), (57, I rqI), (58, I q.1)], H := [.box (.agg [I p0, I p1, I t0, I t1, I r0, I r1, I u0, I u1, I d0, I d1, I x0, I x1, I y0, I y1, I least, .sl 2 SL, I wi, I me, I w0, I w1, .any]), .box (.agg [I a', I b', I tqI, I rqI, I (A.sub lfI 1)]), .box (.agg [I 0, I 0, I 0, I 0, I 0]), .box (.agg [I a, I b, I c, I e, I q.2.2.1, I q.2.2.2, I u0, I u1, I d0, I d1, I x0, I x1, I y0, I y1, I least])], nt := 74, dfs := [] })
  (fun q => rq - q.2.1) (fun q => IsI q.1 q.2.1 /\ q.2.1 <= rq /\ (q.2.2.1, q.2.2.2) = Z1v9 (r0, r1) (y0, y1) q.2.1) (0, 0, r0, r1) ⟨⟨rfl⟩, Nat.zero_le _, rfl⟩ ?_ ?_
 ·exact Zf [0, 1, 2, 3] ⟨by decide, Z9, ⟨rfl, rfl, rfl, rfl, trivial⟩, ⟨rfl, rfl, rfl, rfl, rfl, rfl, rfl, trivial⟩, rfl, rfl⟩
 clear v1 v2 v3 hk cc;rintro ⟨i, k, f, g⟩ ⟨v1, v2, v3⟩;dsimp only at v1 v2 v3;have hmc : MidV f /\ MidV g /\ MidV y0 /\ MidV y1 := have := hRm k (by omega) _ _ v3; ⟨this.1, this.2, hym⟩;refine Zi Z0 hA hS ?_;cbv;refine bm (fun cc => ?_) (fun cc => ?_)
 ·have hk : k < rq := by
   have h1 := xlt hA cc;have h2 := v1.eq;have h3 := hrI.eq;omega
  have hf3 := Zy hA v1 (by omega);have hu3 := Zz hA v1;have hms : rq - (k + 1) < rq - k := by omega
  cbv;refine Z4 hS [.agg [I f, I g], .agg [I y0, I y1]] [] [] rfl rfl rfl rfl rfl rfl rfl rfl (by decide) trivial (Z1zg f g y0 y1 hmc _ fun c2 e2 hc2 => Z3 Z0 hA hS ?_);cbv;refine ⟨hf3, ?_⟩;refine Z8 (A.add i 1, k + 1, c2, e2) [0, 1, 2, 3] ⟨hu3, hk, ?_⟩ hms ?_
  ·rw [hc2, v3]; rfl
  ·exact ⟨by decide, Z9, ⟨rfl, rfl, rfl, rfl, trivial⟩, ⟨rfl, rfl, rfl, rfl, rfl, rfl, rfl, trivial⟩, rfl, rfl⟩
 have hk : k = rq := by
  have h1 := Z7x hA cc;have h2 := v1.eq;have h3 := hrI.eq;omega
 have hthin2 : (f, g) = Z1v9 (r0, r1) (y0, y1) rq := hk ▸ v3;cbv;refine Z7 ?_;cbv;refine Z16 Z0 hA hS [0, 1, 2, 3, 4, 5] rfl rfl fun Dk hDk => ?_;cbv;refine Zq hA hDk [.agg [I a, I b, I c, I e, I f, I g, I u0, I u1, I d0, I d1, I x0, I x1, I y0, I y1, I least]] [] [] rfl rfl rfl rfl rfl rfl rfl rfl rfl rfl rfl (by decide) trivial (Z21k a b c e f g u0 u1 d0 d1 x0 x1 y0 y1 least _ fun v hv => ⟨by cbv, Zx Z0 hA hDk ?_⟩);cbv;refine Z2 (H' := []) (d' := .tup [.agg [I a', I b', I tqI, I rqI, I (A.sub lfI 1)], .v (.bool (A.cmp .eql v 2))]) [] (by simp) (fun i hi => absurd hi (by simp)) trivial rfl (Z1 (hq a' b' tqI rqI _ _ hab' htI hrI hs2 ?_));subst hA;show decide (v = 2) = _;rw [Z1wp, <- hthin, <- hthin2, hv]
end Go.Proofs.YtggilmnhgjofiaaGreat

namespace Go.Abs
open Go Go.Conc
section
variable {P : Program} {T : TT} {m : Nat} {Q : AX -> St -> Prop} {s : St}
theorem Z1yr {S : Stop} (hS : S = Zo P none m) {f : FuncId} {fo : Operand} {caps as' : List D} {params : Array Tmp} {assign body : Code} {k : Nat} {ds : List AD} (ix : List Nat) (Hf : List Blk) {pl : List Nat} (hpl : params.toList = pl)
  (hfo : evo s.env fo = some (.fn f caps)) (hd : s.dfs = .mk k :: ds) (hren : renL (rho ix (s.H.length + 1)) as' = .yv s.H.length :: caps)
  (hnd : ix.Nodup) (hl : Z62 (rho ix (s.H.length + 1)) (s.H ++ [.ob (.lp .ready none s.env s.nt pl assign body)]) ix Hf)
  (h : CallA P f as' Hf (fun x Hf' => match x with
   | .ret _ => ∃ st pend env x, st ≠ .busy /\ Z1m (Z10 (s.H ++ [.ob (.lp .ready none s.env s.nt pl assign body)]) ix Hf') s.H.length = some (.ob (.lp st pend env s.nt pl assign body)) /\ Z26k pend = some x /\
     Q x { s with H := (Z10 (s.H ++ [.ob (.lp .ready none s.env s.nt pl assign body)]) ix Hf').set s.H.length .dead }
   | .pan _ => False)) : S.code (.rangeFunc fo params assign body) Q s := by
 subst hS; subst hpl;exact Z1x6 ix Hf hfo hd hren hnd hl h
end
end Go.Abs
namespace Go.Proofs.YtggilmnhgjofiaaGreat
open Go Go.Abs Go.Proofs
structure JbP where
 p0 : Int
 p1 : Int
 t0 : Int
 t1 : Int
 r0 : Int
 r1 : Int
 u0 : Int
 u1 : Int
 d0 : Int
 d1 : Int
 x0 : Int
 x1 : Int
 y0 : Int
 y1 : Int
 least : Int
 SL : List D
 wi : Int
 me : Int
 w0 : Int
 w1 : Int
structure RdP where
 j : JbP
 a : Int
 b : Int
 tp : Int
 rt : Int
 lf : Int
 asg : Code
 bdy : Code
def gDat (J : JbP) (i k : Nat) : D := .agg [I J.p0, I J.p1, I J.t0, I J.t1, I J.r0, I J.r1, I J.u0, I J.u1, I J.d0, I J.d1, I J.x0, I J.x1, I J.y0, I J.y1, I J.least, .sl 2 J.SL, I J.wi, I J.me, I J.w0, I J.w1, .fn 72 [.b i 0, .b k 0]]
def rdE (P : RdP) : List (Nat × D) := [(2, .b 4 0), (3, .cb (.agg [I P.a, I P.b, I P.tp, I P.rt, I P.lf]) 0), (5, .b 5 0), (12, .fn 96 [.cb (.agg [I P.a, I P.b]) 0, .cb (I P.j.me) 0])]
def rdB (P : RdP) (st : LoopState) (pend : Option Code) (v : Bool) (ents : List (List Int × D)) : List Blk :=
 [.ob (.lp st pend (rdE P) 27 [13] P.asg P.bdy), .box (gDat P.j 1 2), .box (.mv 3), .ob (.mp 5 ents), .box (gDat P.j 1 2), .box (.v (.bool v))]
def gH (J : JbP) (ents : List (List Int × D)) : List Blk := [.box (gDat J 0 1), .box (.mv 2), .ob (.mp 5 ents)]
def PB (l : Nat) (p : R2) : Prop := -1000 + 100 * (l : Int) <= p.1 /\ p.1 <= 1000 - 100 * (l : Int) /\ -1000 + 100 * (l : Int) <= p.2 /\ p.2 <= 1000 - 100 * (l : Int)
def Z1vr (p : R2) (m : Int) (k : Nat) : R2 := Z1vg p (p.1 - m + k - m, p.1 - m + k + m)
def Z1vk (f : R2 -> Bool) (p : R2) (m : Int) : Bool := (List.range (p.2 - p.1 + 2 * m + 1).toNat).all fun k => f (Z1vr p m k)
structure RoundR (P : RdP) (l : Nat) (f : R2 -> Bool) (Met : List (List Int × D) -> Prop) : Prop where
 out : ∀ x y, PB l (x, y) -> ∀ ents, Met ents -> ∀ Q, (∀ ents', Met ents' -> (f (x, y) = true -> Q (RA.ret (.v (.bool true))) (rdB P .ready none true ents' ++ [.dead])) /\ (f (x, y) = false -> Q (RA.ret (.v (.bool false))) (rdB P .done (some (.exit 0)) false ents' ++ [.dead]))) -> RoundA Tryz.prog 0 [.agg [I x, I y]] (rdB P .ready none true ents) Q
theorem Z23o {l : Nat} {a b m : Int} (h : PB l (a, b)) (hm : 0 <= m) {k : Nat} (hk : a - m + k <= b + m) : PB l (Z1vr (a, b) m k) := by
 simp only [PB, Z1vr, Z1vg, mxI, mnI] at h ⊢
 split <;> split <;> omega
theorem Z1zh {f : Nat -> Bool} {k : Nat} : (List.range (k + 1)).all f = ((List.range k).all f && f k) := by
 rw [List.range_succ, List.all_append]; simp
theorem Z23p {f : Nat -> Bool} {n k : Nat} (hk : k < n) (h : f k = false) : (List.range n).all f = false := by
 rw [List.all_eq_false];exact ⟨k, by simpa using hk, by simp [h]⟩
set_option maxRecDepth 40000 in
set_option maxHeartbeats 4000000 in
theorem Z22d (P : RdP) (l : Nat) (f : R2 -> Bool) (Met) (hR : RoundR P l f Met) (a b m : Int) (hab : PB l (a, b)) (hm : 0 <= m /\ m <= 100) (ents) (he : Met ents) (Q)
  (hq : ∀ d ents', Met ents' -> (Z1vk f (a, b) m = true -> Q (RA.ret d) (rdB P .ready none true ents')) /\ (Z1vk f (a, b) m = false -> Q (RA.ret d) (rdB P .done (some (.exit 0)) false ents'))) :
  CallA Tryz.prog 96 [.yv 0, .cb (.agg [I a, I b]) 0, .cb (I m) 0] (rdB P .ready none true ents) Q := by
 obtain ⟨A, hA⟩ : ∃ A, A = ar := ⟨_, rfl⟩;have hyes := hR.out;have hbd : (-1000 <= a /\ a <= 1000) /\ (-1000 <= b /\ b <= 1000) := by simp only [PB] at hab; omega
 have hpb : ∀ (r : Int) (k : Nat), r = a - m + k -> r <= b + m -> PB l (Z1vr (a, b) m k) := fun r k e h => Z23o hab hm.1 (by omega);clear hR;obtain ⟨⟨a1, a2⟩, b1, b2⟩ := hbd;obtain ⟨m1, m2⟩ := hm;obtain ⟨N, hN⟩ : ∃ N : Nat, N = (b - a + 2 * m + 1).toNat := ⟨_, rfl⟩;have hNk : ∀ (r : Int) (k : Nat), r = a - m + k -> (r <= b + m ↔ k < N) := fun r k e => by omega
 have hro : Z1vk f (a, b) m = (List.range N).all fun k => f (Z1vr (a, b) m k) := by rw [hN]; rfl
 have hfb : ∀ (r : Int) (k : Nat), r = a - m + k -> k <= N -> -1000000 <= r /\ r <= 1000000 := fun r k e h => by omega
 obtain ⟨g, hg⟩ : ∃ g : Nat -> Bool, g = fun k => f (Z1vr (a, b) m k) := ⟨_, rfl⟩;have hgk : ∀ k, g k = f (Z1vr (a, b) m k) := fun k => by rw [hg]
 rw [<- hg] at hro;have hstep : ∀ (r : Int) (k : Nat), r = a - m + k -> r + 1 = a - m + (k + 1 : Nat) := fun r k e => by omega
 have hrd : ∀ (r : Int) (k : Nat) (x y : Int), r = a - m + k -> (x, y) = [(r - m, r + m)].foldl Z1vg (a, b) -> (x, y) = Z1vr (a, b) m k := fun r k x y e h => by
  rw [h]; subst e; rfl
 have h0 : a - m = a - m + (0 : Nat) := by simp
 clear hg hN;refine Z5 Z0 hA Tryz.func96 rfl rfl rfl rfl rfl fun S hS => ?_;cbv;refine ⟨by subst hA; exact Zbu (n := a - m) (by omega), ?_⟩;refine Zb hS ?_;refine Za (α := Int × Nat × List (List Int × D)) (fun q => { env := [(0, .yv 0), (1, .cb (.agg [I a, I b]) 0), (2, .cb (I m) 0), (4, I q.1)], H := rdB P .ready none true q.2.2, nt := 30, dfs := [] }) (fun q => N - q.2.1) (fun q => q.1 = a - m + q.2.1 /\ q.2.1 <= N /\ (List.range q.2.1).all g = true /\ Met q.2.2) (A.sub a m, 0, ents) ⟨by subst hA; exact h0, Nat.zero_le _, rfl, he⟩ ?_ ?_
 ·exact Zf [0, 1, 2, 3, 4, 5] ⟨by decide, pre6, ⟨rfl, rfl, rfl, rfl, rfl, rfl, trivial⟩, ⟨rfl, rfl, rfl, rfl, trivial⟩, rfl, rfl⟩
 rintro ⟨r, k, en⟩ ⟨v1, v2, v3, v4⟩;dsimp only at v1 v2 v3 v4;have hfr := hfb r k v1 v2;have hiff := hNk r k v1;have hpk := hpb r k v1;have hst := hstep r k v1;have hrdk := hrd r k;have hgk := hgk k;have hrdk : ∀ x y, (x, y) = [(r - m, r + m)].foldl Z1vg (a, b) -> (x, y) = Z1vr (a, b) m k := fun x y h => hrdk x y v1 h;obtain ⟨rn, hrn⟩ : ∃ rn : Nat -> Int, rn = fun k : Nat => a - m + (k : Int) := ⟨_, rfl⟩;have hst : r + 1 = rn (k + 1) := by rw [hrn]; exact hst
 obtain ⟨f1, f2⟩ := hfr;clear v1 hNk hfb hpb hstep hrd;refine Zi Z0 hA hS ?_;cbv;refine ⟨by subst hA; exact Zbu (n := b + m) (by omega), ?_⟩;refine bm (fun c => ?_) (fun c => ?_)
 ·have hle : r <= b + m := by have := xle hA c; subst hA; exact this
  have hk : k < N := hiff.1 hle;have hpk := hpk hle;cbv;refine ⟨by subst hA; exact Zbu (n := r - m) (by omega), by subst hA; exact Zbu (n := r + m) (by omega), ?_⟩;refine Z26 hS (Z1a hA [6] ?_);cbv;refine ⟨by subst hA; rfl, Z7 ?_⟩;refine Z4 hS [.agg [I a, I b], .sl 2 [.agg [I (A.sub r m), I (A.add r m)]]] [] [] rfl rfl rfl rfl rfl rfl rfl rfl (by decide) trivial (Z21j a b [(A.sub r m, A.add r m)] _ rfl (by simp) _ fun x y hxy => ?_);have hxk : (x, y) = Z1vr (a, b) m k := hrdk x y (by rw [hxy]; subst hA; rfl);rw [<- hxk] at hpk hgk;refine Z3 Z0 hA hS ?_;cbv;refine Zpp hS 0 [.agg [I x, I y]] [0, 1, 2, 3, 4, 5] (rdB P .ready none true en) rfl rfl rfl rfl rfl rfl rfl rfl rfl (by decide) ⟨rfl, rfl, rfl, rfl, rfl, rfl, trivial⟩ (hyes x y hpk en v4 _ fun en' he' => ⟨fun hf => ?_, fun hf => ?_⟩)
  ·refine Z3 Z0 hA hS ?_;cbv;refine bmF (by subst hA; rfl) ?_;cbv;refine ⟨by subst hA; exact Zbu (n := r + 1) (by omega), ?_⟩;refine Z8 (A.add r 1, k + 1, en') [0, 1, 2, 3, 4, 5] ⟨?_, hk, ?_, he'⟩ (by dsimp only; omega) ?_
   ·subst hA; exact hst.trans (by rw [hrn])
   ·rw [Z1zh, v3, hgk, hf]; rfl
   ·exact ⟨by decide, pre6, ⟨rfl, rfl, rfl, rfl, rfl, rfl, trivial⟩, ⟨rfl, rfl, rfl, rfl, trivial⟩, rfl, rfl⟩
  ·have hrf : Z1vk f (a, b) m = false := by rw [hro]; exact Z23p hk (hgk.trans hf)
   have hqq := (hq (.tup []) en' he').2 hrf;refine Z3 Z0 hA hS ?_;cbv;refine bmT (by subst hA; rfl) ?_;cbv;refine Z7 ?_;cbv;exact Z2 [0, 1, 2, 3, 4, 5] (by decide) pre6 (H' := rdB P .done (some (.exit 0)) false en') (d' := .tup []) ⟨rfl, rfl, rfl, rfl, rfl, rfl, trivial⟩ rfl (Z1 hqq)
 ·have hk : k = N := by
   have h1 : ¬ r <= b + m := by have := Zec hA c; subst hA; intro h; have h2 : b + m < r := this; omega
   have h2 : ¬ k < N := fun h => h1 (hiff.2 h);omega
  have hrt : Z1vk f (a, b) m = true := by rw [hro, <- hk]; exact v3
  have hqq := (hq (.tup []) en v4).1 hrt;cbv;refine Z7 ?_;cbv;exact Z2 [0, 1, 2, 3, 4, 5] (by decide) pre6 (H' := rdB P .ready none true en) (d' := .tup []) ⟨rfl, rfl, rfl, rfl, rfl, rfl, trivial⟩ rfl (Z1 hqq)
theorem Z23q (a b m : Int) (Q) (hq : Q (RA.ret (.fn 96 [.cb (.agg [I a, I b]) 0, .cb (I m) 0])) []) : CallA Tryz.prog 74 [.agg [I a, I b], I m] [] Q := by
 obtain ⟨A, hA⟩ : ∃ A, A = ar := ⟨_, rfl⟩;refine Z5 Z0 hA Tryz.func74 rfl rfl rfl rfl rfl fun S hS => ?_;cbv;refine Z1w [0, 1] ?_;cbv;exact Z2 [] (by decide) Z9 (H' := []) (d' := .fn 96 [.cb (.agg [I a, I b]) 0, .cb (I m) 0]) trivial rfl (Z1 hq)
end Go.Proofs.YtggilmnhgjofiaaGreat

namespace Go.Proofs.YtggilmnhgjofiaaGreat
open Go Go.Abs Go.Proofs
set_option maxRecDepth 40000 in
set_option maxHeartbeats 8000000 in
theorem Z22e (J : JbP) (l : Nat) (tpI rtI lfI : Int) (f : R2 -> Bool) (Met : List (List Int × D) -> Prop)
  (hst : ∀ x y, PB l (x, y) -> ∀ ents, Met ents -> ∀ Q, (∀ ents' v, v = f (x, y) -> Met ents' -> Q (RA.ret (.v (.bool v))) (gH J ents')) -> CallA Tryz.prog 72 [.agg [I x, I y, I tpI, I rtI, I lfI], .b 0 0, .b 1 0] (gH J ents) Q)
  (a b : Int) (hab : PB l (a, b)) (hme : 0 <= J.me /\ J.me <= 100) (ents) (he : Met ents) (Q) (hq : ∀ ents' v, v = Z1vk f (a, b) J.me -> Met ents' -> Q (RA.ret (.v (.bool v))) (gH J ents')) :
  CallA Tryz.prog 39 [gDat J 0 1, .agg [I a, I b, I tpI, I rtI, I lfI]] (gH J ents) Q := by
 obtain ⟨A, hA⟩ : ∃ A, A = ar := ⟨_, rfl⟩;refine Zip Z0 hA Tryz.func39 rfl rfl rfl rfl rfl fun S hS => ?_;cbv;refine Zs7 Z0 hA hS ?_;cbv;refine Z4 hS [.agg [I a, I b], I J.me] [] [] rfl rfl rfl rfl rfl rfl rfl rfl (by decide) trivial (Z23q a b J.me _ (Z3 Z0 hA hS ?_));cbv;refine Z3h hS (Z1a hA [5] ?_);cbv;refine Z60 (a := { env := [(2, .b 4 0), (3, .cb (.agg [I a, I b, I tpI, I rtI, I lfI]) 0), (5, .b 5 0), (12, .fn 96 [.cb (.agg [I a, I b]) 0, .cb (I J.me) 0])], H := [.box (gDat J 0 1), .box (.mv 2), .ob (.mp 5 ents), .ob .mk, .box (gDat J 0 1), .box (.v (.bool true))], nt := 27, dfs := [.mk 3] }) [0, 1, 2, 3, 4, 6] ⟨by decide, Zeb, ⟨rfl, rfl, rfl, rfl, rfl, rfl, trivial⟩, ⟨rfl, rfl, rfl, rfl, trivial⟩, rfl, rfl⟩ (Z7 ?_);refine Z1yr hS (as' := [.yv 0, .cb (.agg [I a, I b]) 0, .cb (I J.me) 0]) [6, 0, 1, 2, 4, 5] (rdB ⟨J, a, b, tpI, rtI, lfI, _, _⟩ .ready none true ents) rfl rfl rfl rfl (by decide) ⟨rfl, rfl, rfl, rfl, rfl, rfl, trivial⟩ ?_;refine Z22d _ l f Met ⟨fun x y hxy en hen Q hq => ?_⟩ a b J.me hab hme ents he _ fun d en' he' => ⟨fun hr => ?_, fun hr => ?_⟩
 ·obtain ⟨fv, hfv⟩ : ∃ fv, fv = f (x, y) := ⟨_, rfl⟩;have hst := hst x y hxy en hen;rw [<- hfv] at hq;refine Zh2 Z0 hA rfl rfl (fun t ht => by replace ht : t ∈ [13] := ht; simp at ht; subst ht; decide) fun b' S2 hS2 => ?_;cbv;refine Zb hS2 ?_;refine Z2w Z0 hA hS2 [4] ?_;cbv;refine Z3h hS2 (Z1a hA [6] ?_);cbv;refine Z7 ?_;refine Zb hS2 ?_;refine Zi Z0 hA hS2 ?_;cbv;refine Z4 hS2 [.agg [I x, I y, I tpI, I rtI, I lfI], .b 0 0, .b 1 0] [1, 2, 3] (gH J en) rfl rfl rfl rfl rfl rfl rfl rfl (by decide) ⟨rfl, rfl, rfl, trivial⟩ (hst _ fun en' v hv he' => Z3 Z0 hA hS2 ?_);have hqv := hq en' he';rw [<- hfv] at hv;rw [<- hv] at hqv;clear hq hst;cbv;refine bm (fun c => ?_) (fun c => ?_)
  ·have hvf : v = false := by subst hA; cases v with | false => rfl | true => exact absurd c (by decide)
   have hq2 := hqv.2 hvf;cbv;exact ⟨⟨_, _, rfl⟩, hq2⟩
  ·have hvf : v = true := by subst hA; cases v with | true => rfl | false => exact absurd c (by decide)
   have hq2 := hqv.1 hvf;cbv;exact ⟨⟨_, _, rfl⟩, hq2⟩
 ·have hqv := hq en' true hr.symm he';refine ⟨.ready, none, _, .normal, (by intro h; cases h), rfl, rfl, ?_⟩;cbv;exact Z2 [0, 1, 2] (by decide) Zeb (H' := gH J en') (d' := .v (.bool true)) ⟨rfl, rfl, rfl, trivial⟩ rfl (Z1 hqv)
 ·have hqv := hq en' false hr.symm he';refine ⟨.done, some (.exit 0), _, .exit 0, (by intro h; cases h), rfl, rfl, ?_⟩;cbv;exact Z2 [0, 1, 2] (by decide) Zeb (H' := gH J en') (d' := .v (.bool false)) ⟨rfl, rfl, rfl, trivial⟩ rfl (Z1 hqv)
end Go.Proofs.YtggilmnhgjofiaaGreat
