/- Part BatI of the proofs about the benches of the accordion maker: see the last text of the claim for what is proved. -/
import Derived.Test.YtecfpfhkicapeaaBatD
import Derived.Test.YtecfpfhkicapeaaBatH
import Derived.Test.YtecfpfhkicapeaaSaysB
set_option linter.unusedVariables false
set_option linter.unusedSimpArgs false
set_option linter.unnecessarySimpa false
set_option linter.constructorNameAsVariable false

namespace Go.Proofs.Ytecfpfhkicapeaa
open Go Go.Abs Go.Proofs Go.Batch
set_option maxRecDepth 20000 in
set_option maxHeartbeats 4000000 in
theorem Z106 (j : Jn) (hf : j.first.length <= 1152921504606846976) (hm : j.moves.length <= 1152921504606846976) (inst b : Int) (FL ML : List D) (hF : FL = j.first.map Zv) (hM : ML = j.moves.map mvD) (Q)
  (he : ∀ e, e = checkJ j -> e ≠ 0 -> Q (RA.ret (.tup [.agg [I 0, I 0], I e])) []) (hu : JOk j -> ¬ ((0 <= inst /\ inst <= j.ins - 1) /\ 0 <= b /\ b <= ((Z6 j.moves).length : Int) - 1) -> Q (RA.ret (.tup [.agg [I 0, I 0], I 3])) [])
  (hp : JOk j -> (0 <= inst /\ inst <= j.ins - 1) -> (0 <= b /\ b <= ((Z6 j.moves).length : Int) - 1) -> Zc j = false -> Q (RA.ret (.tup [.agg [I 0, I 0], I 9])) [])
  (hq : JOk j -> (0 <= inst /\ inst <= j.ins - 1) -> (0 <= b /\ b <= ((Z6 j.moves).length : Int) - 1) -> Zc j = true -> ∀ lo hi, lo = (Z4d j (Z2v inst b.toNat)).1 -> hi = (Z4d j (Z2v inst b.toNat)).2 -> Q (RA.ret (.tup [.agg [I lo, I hi], I 0])) []) :
  CallA Try.prog 38 [.agg [I j.ins, .sl 1 FL, .sl 5 ML], I inst, I b] [] Q := by
 obtain ⟨A, hA⟩ : ∃ A, A = ar := ⟨_, rfl⟩;obtain ⟨e1, he1⟩ : ∃ e1, e1 = checkJ j := ⟨_, rfl⟩;have bT : A.bnot true = false := by subst hA; rfl
 have bF : A.bnot false = true := by subst hA; rfl
 have c00 : A.cmp .neq 0 0 = false := by subst hA; rfl
 have c90 : A.cmp .neq 9 0 = true := by subst hA; rfl
 refine Z5 Z0 hA Try.func38 rfl rfl rfl rfl rfl fun S hS => ?_;cbv;refine Z4 hS [.agg [I j.ins, .sl 1 FL, .sl 5 ML]] [] [] rfl rfl rfl rfl rfl rfl rfl rfl (by decide) trivial (Zbv j hf hm FL ML hF hM e1 he1 _ ?_);refine Z3 Z0 hA hS ?_;cbv;refine bm (fun c => ?_) (fun c => ?_)
 ·have hz := he e1 he1 (xne hA c);cbv;exact Z2 [] (by decide) Z9 (H' := []) (d' := .tup [.agg [I 0, I 0], I e1]) trivial rfl (Z1 hz)
 have hc0 : checkJ j = 0 := he1.symm.trans (Z4t hA c);have hj : JOk j := Z2r hc0;have hi1 := hj.i1;have hi4 := hj.i4;have hj10 := hj.m10;have hb4 := hj.b4;obtain ⟨NB, hNB⟩ : ∃ NB, NB = (Z6 j.moves).length := ⟨_, rfl⟩;rw [<- hNB] at hu hp hq hb4;obtain ⟨b1, hb1⟩ : ∃ b1, b1 = decide (0 <= inst /\ inst <= A.sub j.ins 1) := ⟨_, rfl⟩;have hb1' : b1 = decide (0 <= inst /\ inst <= j.ins - 1) := by rw [hb1, Z24 hA]
 have hfi : A.fits .i64 (A.sub j.ins 1) := Z14 hA (Z24 hA _ 1) (by omega);have hu1 : b1 = false -> Q (RA.ret (.tup [.agg [I 0, I 0], I 3])) [] := fun h => hu hj (fun g => of_decide_eq_false (hb1'.symm.trans h) g.1);have ht1 : b1 = true -> 0 <= inst /\ inst <= j.ins - 1 := fun h => of_decide_eq_true (hb1'.symm.trans h);have hopn := fun Q => Zhe j (by omega) FL ML hM 81 [] (.inl rfl) Q;have hlB : ∀ BL : List D, BL = (Z6 j.moves).map I -> A.fits .i64 (A.sub (A.oi (A.len BL)) 1) /\ ∀ b2, b2 = decide (0 <= b /\ b <= A.sub (A.oi (A.len BL)) 1) -> b2 = decide (0 <= b /\ b <= (NB : Int) - 1) := fun BL hBL => by
  have hl : BL.length = NB := by rw [hBL, hNB, List.length_map]
  have e := Z5a hA hl;exact ⟨Z14 hA (Z24 hA _ 1) (by rw [e]; omega), fun b2 h => by rw [h, Z24 hA, e]⟩
 cbv;refine ⟨hfi, ?_⟩;refine Z4 hS [I inst, I 0, I (A.sub j.ins 1)] [] [] rfl rfl rfl rfl rfl rfl rfl rfl (by decide) trivial (Zb9 _ _ _ b1 hb1 _ ?_)
 cases b1 with
 | false =>
  have hz := hu1 rfl;refine Z3 Z0 hA hS ?_;cbv;refine bmT bF ?_;cbv;refine Zg hS (f := 86) (b := true) rfl rfl rfl rfl rfl rfl rfl rfl (fun h => Bool.noConfusion h) (fun _ => ?_);refine Z3 Z0 hA hS ?_;cbv;refine Zg hS (f := 98) (b := true) rfl rfl rfl rfl rfl rfl rfl rfl (fun h => Bool.noConfusion h) (fun _ => ?_);refine Z3 Z0 hA hS ?_;cbv;exact Z2 [] (by decide) Z9 (H' := []) (d' := .tup [.agg [I 0, I 0], I 3]) trivial rfl (Z1 hz)
 | true =>
  have hi := ht1 rfl;refine Z3 Z0 hA hS ?_;cbv;refine bmF bT ?_;cbv;refine Zg hS (b := false) rfl rfl rfl rfl rfl rfl rfl rfl (fun _ => ⟨[], _, [.agg [I j.ins, .sl 1 FL, .sl 5 ML], .fn 81 []], [], [], rfl, rfl, rfl, by decide, trivial, hopn _ fun BL hBL => ?_⟩) (fun h => absurd rfl h);obtain ⟨hfb, hb2F⟩ := hlB BL hBL;obtain ⟨b2, hb2⟩ : ∃ b2, b2 = decide (0 <= b /\ b <= A.sub (A.oi (A.len BL)) 1) := ⟨_, rfl⟩;have hb2' := hb2F b2 hb2;have hu2 : b2 = false -> Q (RA.ret (.tup [.agg [I 0, I 0], I 3])) [] := fun h => hu hj (fun g => of_decide_eq_false (hb2'.symm.trans h) g.2);have ht2 : b2 = true -> 0 <= b /\ b <= (NB : Int) - 1 := fun h => of_decide_eq_true (hb2'.symm.trans h);refine Z3 Z0 hA hS ?_;cbv;refine ⟨hfb, ?_⟩;refine Zg hS (b := false) rfl rfl rfl rfl rfl rfl rfl rfl (fun _ => ⟨[], _, [I b, I 0, I (A.sub (A.oi (A.len BL)) 1)], [], [], rfl, rfl, rfl, by decide, trivial, Zb9 _ _ _ b2 hb2 _ ?_⟩) (fun h => absurd rfl h);refine Z3 Z0 hA hS ?_;cbv;refine bm (fun c2 => ?_) (fun c2 => ?_)
  ·have hz := hu2 (Zge hA c2);cbv;exact Z2 [] (by decide) Z9 (H' := []) (d' := .tup [.agg [I 0, I 0], I 3]) trivial rfl (Z1 hz)
  have hbb := ht2 (Zb8 hA c2);have hbI : IsI b b.toNat := ⟨by omega⟩;have htk := Zvf inst b b.toNat hbI;have hzq := hq hj hi hbb;have hzp := hp hj hi hbb;obtain ⟨bn, hbn⟩ : ∃ bn, bn = b.toNat := ⟨_, rfl⟩;rw [<- hbn] at htk hzq;have hsok : ∀ s ∈ Zd j (Z2v inst bn) 0, StOk s := fun s hs => by rw [<- Z66] at hs; exact Z8s (Zok inst bn) hj _ s hs
  obtain ⟨lo, hlo⟩ : ∃ lo, lo = (Zs ((Zd j (Z2v inst bn) 0).map (·.2))).1 := ⟨_, rfl⟩;obtain ⟨hi', hhi⟩ : ∃ hi, hi = (Zs ((Zd j (Z2v inst bn) 0).map (·.2))).2 := ⟨_, rfl⟩;cbv;refine Z16 Z0 hA hS [0, 1, 2, 3, 4, 5, 6, 7, 8, 9] rfl rfl fun Dk hD => ?_;cbv;refine Zq hA hD [I inst, I b] [] [] rfl rfl rfl rfl rfl rfl rfl rfl rfl rfl rfl (by decide) trivial (Zvg inst b _ ⟨by cbv; repeat' (first | exact trivial | exact rfl | refine ⟨?_, ?_⟩), Zx Z0 hA hD ?_⟩);cbv;refine Zq hA hD [.agg [I j.ins, .sl 1 FL, .sl 5 ML], .fn 122 [.cb (I inst) 0, .cb (I b) 0]] [] [] rfl rfl rfl rfl rfl rfl rfl rfl rfl rfl rfl (by decide) trivial (Zdj j hf hm (Z2v inst bn) 122 _ htk FL ML hF hM _ (fun e2 he2 hne => absurd (he2.trans hc0) hne) (fun _ ents hme hne => ⟨by cbv; repeat' (first | exact trivial | exact rfl | refine ⟨?_, ?_⟩), Zx Z0 hA hD ?_⟩) (fun _ h0 => ⟨by cbv; repeat' (first | exact trivial | exact rfl | refine ⟨?_, ?_⟩), Zx Z0 hA hD ?_⟩))
  ·have hz := hzq ((Z28 j _).2 hne) lo hi' hlo hhi;cbv;refine bmF c00 ?_;cbv;refine Z4 hS [.mv 0, .fn 90 []] [2] [.ob (.mp 5 ents)] rfl rfl rfl rfl rfl rfl rfl rfl (by decide) ⟨rfl, trivial⟩ (Zcu ents _ hme hne hsok 90 _ _ Zoq lo hi' hlo hhi _ ?_);refine Z3 Z0 hA hS ?_;cbv;exact Z2 [] (by decide) Z9 (H' := []) (d' := .tup [.agg [I lo, I hi'], I 0]) trivial rfl (Z1 hz)
  ·have hz := hzp (Z3y h0);cbv;refine bmT c90 ?_;cbv;exact Z2 [] (by decide) Z9 (H' := []) (d' := .tup [.agg [I 0, I 0], I 9]) trivial rfl (Z1 hz)
end Go.Proofs.Ytecfpfhkicapeaa

namespace Go.Proofs.Ytecfpfhkicapeaa
open Go Go.Abs Go.Proofs Go.Batch
theorem Zoy : ∀ (g : Fin 16) (k : Fin 4), ar.cmp .eql (ar.bits .and .i64 (ar.shift .shr .i64 (g.val : Int) (k.val : Int)) 1) 1 = Z2s (g.val : Int) k.val := by decide +kernel
theorem Zyg (g n : Int) (k : Nat) (hg : 0 <= g /\ g <= 15) (hn : IsI n k) (hk : k < 4) (r : Bool) (hr : r = Z2s g k) (Q) (hq : Q (RA.ret (.v (.bool r))) []) : CallA Try.prog 111 [I g, I n] [] Q := by
 obtain ⟨A, hA⟩ : ∃ A, A = ar := ⟨_, rfl⟩;have hnn : A.nneg n := by subst hA; have := hn.eq; show 0 <= n; omega
 have hz : A.cmp .eql (A.bits .and .i64 (A.shift .shr .i64 g n) 1) 1 = r := by
  have := Zoy ⟨g.toNat, by omega⟩ ⟨k, hk⟩;have e1 : ((g.toNat : Nat) : Int) = g := by omega
  simp only [e1] at this;subst hA;rw [hn.eq, hr];exact this
 refine Z5 Z0 hA Try.func111 rfl rfl rfl rfl rfl fun S hS => ?_;cbv;refine ⟨hnn, ?_⟩;refine Z2 [] (by decide) Z9 (H' := []) (d' := .v (.bool (A.cmp .eql (A.bits .and .i64 (A.shift .shr .i64 g n) 1) 1))) trivial rfl (Z1 ?_);rw [hz]; exact hq
theorem Zvq (i0 g : Int) (hg : 0 <= g /\ g <= 15) : TookOk 110 [.cb (I i0) 0, .cb (I g) 0] (Z3a g i0) := by
 refine ⟨.inr (.inr ⟨_, _, rfl⟩), Ziw _ _, fun x i b bi n h1 h2 h3 h4 h5 h6 h7 h8 r hr Q hq => ?_⟩;obtain ⟨A, hA⟩ : ∃ A, A = ar := ⟨_, rfl⟩;obtain ⟨hb, hhb⟩ : ∃ hb, hb = Z2s g b := ⟨_, rfl⟩;have r1 : i = i0 -> hb = true -> r = 1 := fun h h' => by rw [hr]; unfold Z3a; rw [if_pos ⟨h, hhb.symm.trans h'⟩]
 have r2 : i = i0 -> hb = false -> r = x := fun h h' => by rw [hr]; unfold Z3a; rw [if_neg (fun k => by rw [<- hhb, h'] at k; cases k.2)]
 have r3 : i ≠ i0 -> r = x := fun h => by rw [hr]; unfold Z3a; rw [if_neg (fun k => h k.1)]
 have hw := fun Q => Zyg g bi b hg h1 h2 hb hhb Q;refine Z5 Z0 hA Try.func110 rfl rfl rfl rfl rfl fun S hS => ?_;cbv;refine bm (fun c1 => ?_) (fun c1 => ?_)
 ·have e1 := r1 (xeq hA c1);have e2 := r2 (xeq hA c1);cbv;refine Zg hS (b := true) rfl rfl rfl rfl rfl rfl rfl rfl (fun _ => ⟨[], _, [I g, I bi], [], [], rfl, rfl, rfl, by decide, trivial, hw _ ?_⟩) (fun h => absurd rfl h);refine Z3 Z0 hA hS ?_;cbv;refine bm (fun c2 => ?_) (fun c2 => ?_)
  ·rw [e1 c2] at hq;cbv;exact Z2 [] (by decide) Z9 (H' := []) (d' := I 1) trivial rfl (Z1 hq)
  ·rw [e2 c2] at hq;cbv;exact Z2 [] (by decide) Z9 (H' := []) (d' := I x) trivial rfl (Z1 hq)
 ·rw [r3 (Z2o hA c1)] at hq;cbv;refine Zg hS (f := 111) (b := false) rfl rfl rfl rfl rfl rfl rfl rfl (fun h => Bool.noConfusion h) (fun _ => ?_);refine Z3 Z0 hA hS ?_;cbv;exact Z2 [] (by decide) Z9 (H' := []) (d' := I x) trivial rfl (Z1 hq)
set_option maxRecDepth 20000 in
set_option maxHeartbeats 4000000 in
theorem Zzv (j : Jn) (hf : j.first.length <= 1152921504606846976) (hm : j.moves.length <= 1152921504606846976) (l : List Int) (hl : l.length <= 1152921504606846976) (FL ML XL : List D) (hF : FL = j.first.map Zv) (hM : ML = j.moves.map mvD) (hX : XL = l.map I) (Q)
  (he : ∀ e, e = checkJ j -> e ≠ 0 -> Q (RA.ret (.tup [.v (.slice none 0 0), I e])) []) (hx : JOk j -> ∀ e, e = Z44 ((Z6 j.moves).length : Int) l -> e ≠ 0 -> Q (RA.ret (.tup [.v (.slice none 0 0), I e])) [])
  (hp : JOk j -> Z44 ((Z6 j.moves).length : Int) l = 0 -> Zc j = false -> Q (RA.ret (.tup [.v (.slice none 0 0), I 9])) [])
  (hq : JOk j -> Z44 ((Z6 j.moves).length : Int) l = 0 -> Zc j = true -> ∀ L, L = (Zbn j (l.map Int.toNat)).map I -> Q (RA.ret (.tup [.sl 1 L, I 0])) []) :
  CallA Try.prog 55 [.agg [I j.ins, .sl 1 FL, .sl 5 ML], .sl 1 XL] [] Q := by
 obtain ⟨A, hA⟩ : ∃ A, A = ar := ⟨_, rfl⟩;obtain ⟨e1, he1⟩ : ∃ e1, e1 = checkJ j := ⟨_, rfl⟩;refine Z5 Z0 hA Try.func55 rfl rfl rfl rfl rfl fun S hS => ?_;cbv;refine Z4 hS [.agg [I j.ins, .sl 1 FL, .sl 5 ML]] [] [] rfl rfl rfl rfl rfl rfl rfl rfl (by decide) trivial (Zbv j hf hm FL ML hF hM e1 he1 _ ?_);refine Z3 Z0 hA hS ?_;cbv;refine bm (fun c => ?_) (fun c => ?_)
 ·have hz := he e1 he1 (xne hA c);cbv;exact Z2 [] (by decide) Z9 (H' := []) (d' := .tup [.v (.slice none 0 0), I e1]) trivial rfl (Z1 hz)
 have hc0 : checkJ j = 0 := he1.symm.trans (Z4t hA c);have hj : JOk j := Z2r hc0;have hi1 := hj.i1;have hi4 := hj.i4;have hj10 := hj.m10;have hb4 := hj.b4;obtain ⟨NB, hNB⟩ : ∃ NB, NB = (Z6 j.moves).length := ⟨_, rfl⟩;rw [<- hNB] at hx hp hq hb4;have hopn := fun Q => Zhe j (by omega) FL ML hM 81 [] (.inl rfl) Q;obtain ⟨gI, hgI⟩ : ∃ gI, gI = Z3z l := ⟨_, rfl⟩;have hcg : ∀ BL : List D, BL = (Z6 j.moves).map I -> ∀ Q, (∀ e g, e = Z44 (NB : Int) l -> (e = 0 -> g = gI /\ 0 <= g /\ g <= 15) -> (e ≠ 0 -> g = 0) -> Q (RA.ret (.tup [I g, I e])) []) -> CallA Try.prog 109 [.sl 1 XL, I (A.oi (A.len BL))] [] Q := fun BL hBL Q h => by
  have e := Z5a hA (show BL.length = NB by rw [hBL, hNB, List.length_map]);rw [e, hgI] at *;exact Za1 l hl (NB : Int) ⟨by omega, by omega⟩ XL hX Q h
 obtain ⟨N, hN⟩ : ∃ N : Nat, IsI j.ins N := ⟨j.ins.toNat, ⟨by omega⟩⟩;have hN4 : N <= 4 := by have := hN.eq; omega
 cbv;refine Z4 hS [.agg [I j.ins, .sl 1 FL, .sl 5 ML], .fn 81 []] [] [] rfl rfl rfl rfl rfl rfl rfl rfl (by decide) trivial (hopn _ fun BL hBL => ?_);refine Z3 Z0 hA hS ?_;cbv;refine Z4 hS [.sl 1 XL, I (A.oi (A.len BL))] [] [] rfl rfl rfl rfl rfl rfl rfl rfl (by decide) trivial (hcg BL hBL _ fun ex gx hex hg0 _ => ?_);refine Z3 Z0 hA hS ?_;cbv;refine bm (fun c => ?_) (fun c => ?_)
 ·have hz := hx hj ex hex (xne hA c);cbv;exact Z2 [] (by decide) Z9 (H' := []) (d' := .tup [.v (.slice none 0 0), I ex]) trivial rfl (Z1 hz)
 have hcx : Z44 (NB : Int) l = 0 := hex.symm.trans (Z4t hA c);obtain ⟨hg1, hg2⟩ := hg0 (Z4t hA c);obtain ⟨g, hg⟩ : ∃ g : Nat -> Int, g = fun i : Nat => Z2i (Z4d j (Z3a (Z3z l) i)) := ⟨_, rfl⟩;have hmx : Z75 g N = (Zbn j (l.map Int.toNat)).map I := by
  have : j.ins.toNat = N := by have := hN.eq; omega
  rw [Z75, hg, Zbn, this]; rfl
 have hz0 := fun (h : Zc j = true) L hL => hq hj hcx h L hL;have hp0 := fun (h : Zc j = false) => hp hj hcx h;have hcN : A.cmp .neq 9 0 = true := by subst hA; rfl
 have hc00 : A.cmp .neq 0 0 = false := by subst hA; rfl
 cbv;refine Zb hS ?_;refine Za (α := Int × Nat × List D) (fun q => { env := [(2, .cb (.agg [I j.ins, .sl 1 FL, .sl 5 ML]) 0), (7, .cb (I gx) 0), (9, .o 0 1 q.2.1), (31, I j.ins), (32, I q.1)], H := [.els 1 q.2.2], nt := 52, dfs := [] })
  (fun q => N - q.2.1) (fun q => q.2.1 <= N /\ IsI q.1 q.2.1 /\ q.2.2 = Z75 g q.2.1 /\ (q.2.1 ≠ 0 -> Zc j = true)) (0, 0, []) ⟨Nat.zero_le _, ⟨rfl⟩, rfl, fun h => absurd rfl h⟩ ?_ ?_
 ·refine Z1a hA [0, 1] ?_;cbv;refine Z2a 9 1 rfl ?_;exact Zf [2] ⟨by decide, Z9, ⟨rfl, trivial⟩, ⟨rfl, rfl, rfl, rfl, rfl, trivial⟩, rfl, rfl⟩
 rintro ⟨i, k, L⟩ ⟨u1, u2, u3, u4⟩;dsimp only at u1 u2 u3 u4;have hLl : L.length = k := by rw [u3]; simp [Z75]
 have hsu := Zap g k;obtain ⟨v, hv⟩ : ∃ v, v = g k := ⟨_, rfl⟩;rw [<- hv] at hsu;have hie := u2.eq;have hv' : v = Z2i (Z4d j (Z3a gx i)) := by rw [hv, hg, hie, hg1, hgI]
 have hk6 : k <= 1000000 := by omega
 have hyes : A.cmp .lss i j.ins = true -> k < N := fun c => by have := xlt hA c; have := hN.eq; omega
 have hno : A.cmp .lss i j.ins = false -> k = N := fun c => by have := Z7x hA c; have := hN.eq; omega
 refine Zi Z0 hA hS ?_;cbv;refine bm (fun c => ?_) (fun c => ?_)
 ·have hk := hyes c;have hf1 := Zy hA u2 (by omega);have hu2 := Zz hA u2;have hms : N - (k + 1) < N - k := by omega
  have hL2 : A.app L [I v] = Z75 g (k + 1) := by rw [Z33 hA, hsu, u3]
  have hn2 : A.addN k 1 = k + 1 := Z2e hA _ _;cbv;refine Z26 hS (Z1a hA [1] ?_);cbv;refine Z7 ?_;refine Z4 hS [.agg [I j.ins, .sl 1 FL, .sl 5 ML], .fn 110 [.cb (I i) 0, .cb (I gx) 0]] [] [] rfl rfl rfl rfl rfl rfl rfl rfl (by decide) trivial (Zdj j hf hm (Z3a gx i) 110 _ (Zvq i gx hg2) FL ML hF hM _ (fun e2 he2 hne => absurd (he2.trans hc0) hne) (fun _ ents hme hne => ?_) (fun _ h0 => ?_))
  ·have hsok : ∀ s ∈ Zd j (Z3a gx i) 0, StOk s := fun s hs => by rw [<- Z66] at hs; exact Z8s (Ziw gx i) hj _ s hs
   have hst : k + 1 ≠ 0 -> Zc j = true := fun _ => (Z28 j _).2 hne;obtain ⟨lo, hlo⟩ : ∃ lo, lo = (Zs ((Zd j (Z3a gx i) 0).map (·.2))).1 := ⟨_, rfl⟩;obtain ⟨hi, hhi⟩ : ∃ hi, hi = (Zs ((Zd j (Z3a gx i) 0).map (·.2))).2 := ⟨_, rfl⟩;have hvv : v = Z2i (lo, hi) := by rw [hv', hlo, hhi]; rfl
   refine Z3 Z0 hA hS ?_;cbv;refine bmF hc00 ?_;cbv;refine Z4 hS [.mv 0, .fn 90 []] [2] [.ob (.mp 5 ents)] rfl rfl rfl rfl rfl rfl rfl rfl (by decide) ⟨rfl, trivial⟩ (Zcu ents _ hme hne hsok 90 _ _ Zoq lo hi hlo hhi _ ?_);refine Z3 Z0 hA hS ?_;cbv;refine Z4 hS [.agg [I lo, I hi]] [] [] rfl rfl rfl rfl rfl rfl rfl rfl (by decide) trivial (Zg2 lo hi v hvv _ ?_);refine Z3 Z0 hA hS ?_;cbv;refine ⟨Ze hA hLl, Ze hA rfl, Z27 hA hk6 (by decide), hf1, ?_⟩;refine Z8 (A.add i 1, k + 1, A.app L [I v]) [4] ⟨hk, hu2, hL2, hst⟩ hms ?_;exact ⟨by decide, Z9, ⟨rfl, trivial⟩, ⟨rfl, rfl, by rw [<- hn2]; rfl, rfl, rfl, trivial⟩, rfl, rfl⟩
  ·have hz := hp0 (Z3y h0);refine Z3 Z0 hA hS ?_;cbv;refine bmT hcN ?_;cbv;refine Z7 ?_;cbv;exact Z2 [] (by decide) Z9 (H' := []) (d' := .tup [.v (.slice none 0 0), I 9]) trivial rfl (Z1 hz)
 ·have hk := hno c;have hs1 : Zc j = true := u4 (by have := hN.eq; omega);have hz2 := hz0 hs1 L (by rw [u3, hk, hmx]);cbv;refine Z7 ?_;cbv;refine Z1w [0] ?_;cbv;exact ⟨by cases L <;> exact hLl.symm, Z2 [] (by decide) Z9 (H' := []) (d' := .tup [.sl 1 L, I 0]) trivial rfl (Z1 hz2)⟩
end Go.Proofs.Ytecfpfhkicapeaa

namespace Go.Proofs.Ytecfpfhkicapeaa
open Go Go.Abs Go.Proofs Go.Batch
structure HoldT (j : Jn) (N NB : Nat) (L : List D) : Prop where
 len : L.length = N
 row : ∀ n, n < N -> ∃ R : List D, L[n]? = some (.sl 1 R) /\ R.length = NB /\ ∀ q, q < NB -> R[q]? = some (I (Z2i (Z4d j (Z2v (n : Int) q))))
theorem Z122 {j : Jn} {N NB : Nat} {L : List D} (hN : IsI j.ins N) (hB : NB = (Z6 j.moves).length) (hL : L = (Z5w j).map fun l => .sl 1 (l.map I)) : HoldT j N NB L := by
 have e : j.ins.toNat = N := by have := hN.eq; omega
 refine ⟨by rw [hL]; simp [Z5w, e], fun n hn => ⟨((List.range NB).map fun b => Z2i (Z4d j (Z2v (n : Int) b))).map I, ?_, by simp, fun q hq => ?_⟩⟩
 ·rw [hL, Z5w, e, hB, List.map_map, List.getElem?_map, List.getElem?_range hn]; rfl
 ·rw [List.map_map, List.getElem?_map, List.getElem?_range hq]; rfl
structure RestT (j : Jn) (NB : Nat) (L : List D) : Prop where
 len : L.length = NB
 row : ∀ b, b < NB -> ∃ r : Int × Int, (Z4c j)[b]? = some r /\ L[b]? = some (.agg [I r.1, I r.2])
theorem Z123 {j : Jn} {NB : Nat} {L : List D} (hB : NB = (Z6 j.moves).length) (hL : L = (Z4c j).map rgD) : RestT j NB L := by
 refine ⟨by rw [hL, hB]; simp [Z4c], fun b hb => ?_⟩;have h : b < (Z4c j).length := by simp [Z4c]; omega
 refine ⟨_, List.getElem?_eq_getElem h, ?_⟩;rw [hL, List.getElem?_map, List.getElem?_eq_getElem h]; rfl
set_option maxRecDepth 20000 in
set_option maxHeartbeats 2000000 in
theorem Zho (j : Jn) (hm : j.moves.length <= 1000) (FL ML : List D) (hM : ML = j.moves.map mvD) (Q) (hq : ∀ BL, BL = (Z6 j.moves).map I -> Q (RA.ret (.sl 1 BL)) []) :
  CallA Try.prog 42 [.agg [I j.ins, .sl 1 FL, .sl 5 ML]] [] Q := by
 obtain ⟨A, hA⟩ : ∃ A, A = ar := ⟨_, rfl⟩;have hMl : ML.length = j.moves.length := by rw [hM]; simp
 refine Z5 Z0 hA Try.func42 rfl rfl rfl rfl rfl fun S hS => ?_;cbv;refine Zb hS ?_;refine Za (α := Int × Nat × Nat × List D) (fun q => { env := [(1, .b 0 0), (3, .o 1 1 q.2.2.1), (4, I q.1)], H := [.box (.agg [I j.ins, .sl 1 FL, .sl 5 ML]), .els 1 q.2.2.2], nt := 29, dfs := [] })
  (fun q => j.moves.length - q.2.1) (fun q => q.2.1 <= j.moves.length /\ IsI q.1 q.2.1 /\ q.2.2.1 = (Z6 (j.moves.take q.2.1)).length /\ q.2.2.2 = (Z6 (j.moves.take q.2.1)).map I) (0, 0, 0, []) ⟨Nat.zero_le _, ⟨rfl⟩, rfl, rfl⟩ ?_ ?_
 ·refine Z2a 3 1 rfl ?_;exact Zf [0, 1] ⟨by decide, Z9, ⟨rfl, rfl, trivial⟩, ⟨rfl, rfl, rfl, trivial⟩, rfl, rfl⟩
 rintro ⟨i, k, n0, L⟩ ⟨u1, u2, u3, u4⟩;dsimp only at u1 u2 u3 u4;refine Zi Z0 hA hS ?_;cbv;refine bm (fun e => ?_) (fun e => ?_)
 ·have hk : k < j.moves.length := Z31 hA hMl u2 e;obtain ⟨m, hmk⟩ : ∃ m, j.moves[k]? = some m := ⟨_, List.getElem?_eq_getElem hk⟩;have hMk : ML[k]? = some (.agg [I m.kind, I m.bin, I m.inst, I m.lo, I m.hi]) := by rw [hM]; simp [hmk, mvD]
  have hbt := Z65 hmk;have hbl := Z6e j.moves k;have hin := Z1b hA hMl u2 hk;have hg := Z18 hA u2 hMk;have hf1 := Zy hA u2 (by omega);have hu2 := Zz hA u2;have hLl : L.length = n0 := by rw [u4, u3]; simp
  have hn0 : n0 <= 1000000 := by omega
  have hms : j.moves.length - (k + 1) < j.moves.length - k := by omega
  cbv;refine ⟨hin, ⟨_, hg, ?_⟩⟩;cbv;refine bm (fun c6 => ?_) (fun c6 => ?_)
  ·rw [if_pos (xeq hA c6)] at hbt;have hL2 : A.app L [I m.bin] = (Z6 (j.moves.take (k + 1))).map I := by rw [Z33 hA, hbt, u4]; simp
   have hn2 : A.addN n0 1 = (Z6 (j.moves.take (k + 1))).length := by rw [Z2e hA, hbt, u3]; simp
   cbv;refine ⟨hin, ⟨_, hg, ?_⟩⟩;cbv;refine ⟨Ze hA hLl, Ze hA rfl, Z27 hA hn0 (by decide), hf1, ?_⟩;refine Z8 (A.add i 1, k + 1, A.addN n0 1, A.app L [I m.bin]) [0, 3] ⟨hk, hu2, hn2, hL2⟩ hms ?_;exact ⟨by decide, Z9, ⟨rfl, rfl, trivial⟩, ⟨rfl, rfl, rfl, trivial⟩, rfl, rfl⟩
  ·rw [if_neg (Z2o hA c6)] at hbt;rw [<- hbt] at u3 u4;cbv;refine ⟨hf1, ?_⟩;refine Z8 (A.add i 1, k + 1, n0, L) [0, 1] ⟨hk, hu2, u3, u4⟩ hms ?_;exact ⟨by decide, Z9, ⟨rfl, rfl, trivial⟩, ⟨rfl, rfl, rfl, trivial⟩, rfl, rfl⟩
 ·have hk : k = j.moves.length := by have := Z21 hA hMl u2 e; omega
  have hBL : L = (Z6 j.moves).map I := by rw [u4, hk, List.take_length]
  have hLl : L.length = n0 := by rw [u4, u3]; simp
  have hq2 := hq L hBL;cbv;refine Z7 ?_;cbv;refine Z1w [1] ?_;cbv;refine ⟨by cases L <;> exact hLl.symm, ?_⟩;exact Z2 [] (by decide) Z9 (H' := []) (d' := .sl 1 L) trivial rfl (Z1 hq2)
end Go.Proofs.Ytecfpfhkicapeaa
