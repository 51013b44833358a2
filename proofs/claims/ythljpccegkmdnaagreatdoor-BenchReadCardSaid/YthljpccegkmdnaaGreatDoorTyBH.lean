/- Part TyBH of the proofs about the benches of the accordion maker: see the last text of the claim for what is proved. -/
import Derived.Test.YthljpccegkmdnaaGreatDoorTyBG
import Derived.Test.YthljpccegkmdnaaGreatDoorTyAP
import Derived.Test.YthljpccegkmdnaaGreatDoorTyAQ
import Derived.Test.YthljpccegkmdnaaGreatDoorTyBE
set_option linter.unusedVariables false
set_option linter.unusedSimpArgs false
set_option linter.unnecessarySimpa false
set_option linter.constructorNameAsVariable false

namespace Go.Proofs.YthljpccegkmdnaaGreatDoor.Bn
open Go Go.Abs Go.Proofs
def Z1al (s : Sh) (p : List Nat) : Int := (Z1ax (runS s (fun _ => 0) p)).2
theorem Z1c6 (s : Sh) (hv : Val s) (p : List Nat) (hp : PlanLe s p) (hpl : p.length <= 20) (TL PL : List D) (hT : TL = s.tasks.map Z14z) (hP : PL = Z15w p) (n : Int) (hn : n = Z1al s p) (Q) (hq : Q (RA.ret (I n)) []) :
  CallA Tryz.prog 128 [.sl 1 PL, .cb (.agg [I s.benches, .sl 3 TL]) 0] [] Q := by
 obtain ⟨A, hA⟩ : ∃ A, A = ar := ⟨_, rfl⟩;obtain ⟨RL, hRL⟩ : ∃ RL, RL = (runS s (fun _ => 0) p).map Z14v := ⟨_, rfl⟩;refine Z5 Z0 hA Tryz.func128 rfl rfl rfl rfl rfl fun S hS => ?_;cbv;refine Z4 hS [.agg [I s.benches, .sl 3 TL, .sl 1 PL], .v (.map none)] [] [] rfl rfl rfl rfl rfl rfl rfl rfl (by decide) trivial (bRun s hv p hp hpl TL PL hT hP _ ?_);rw [<- hRL];refine Z3 Z0 hA hS ?_;cbv;refine Z4 hS [.sl 7 RL] [] [] rfl rfl rfl rfl rfl rfl rfl rfl (by decide) trivial (Z1c5 _ RL hRL (by rw [Z16a]; omega) _ fun lo e hlh => ?_);have he : e = n := by rw [hn, Z1al, hlh]
 rw [he];refine Z3 Z0 hA hS ?_;cbv;exact Z1 hq
theorem Z1c7 (b : Int) (TL : List D) (Q) (hq : Q (RA.ret (.fn 159 [.cb (.agg [I b, .sl 3 TL]) 0, .cb (.fn 127 []) 0])) []) : CallA Tryz.prog 126 [.agg [I b, .sl 3 TL], .fn 127 []] [] Q := by
 obtain ⟨A, hA⟩ : ∃ A, A = ar := ⟨_, rfl⟩;refine Z5 Z0 hA Tryz.func126 rfl rfl rfl rfl rfl fun S hS => ?_;cbv;refine Z1w [0, 1] ?_;cbv;exact Z2 [] (by decide) Z9 (H' := []) (d' := .fn 159 [.cb (.agg [I b, .sl 3 TL]) 0, .cb (.fn 127 []) 0]) trivial rfl (Z1 hq)
def Z1ak (num : List Nat -> Int) : List (List Nat) -> Bool × List Nat × Int := List.foldl (fun a x => if a.1 = false ∨ num x < a.2.2 then (true, x, num x) else a) (false, [], 0)
theorem Z1av (num : List Nat -> Int) (l : List (List Nat)) (x : List Nat) : Z1ak num (l ++ [x]) = if (Z1ak num l).1 = false ∨ num x < (Z1ak num l).2.2 then (true, x, num x) else Z1ak num l := by
 unfold Z1ak; rw [List.foldl_append]; rfl
set_option maxRecDepth 20000 in
set_option maxHeartbeats 4000000 in
theorem Z1c8 (s : Sh) (hv : Val s) (TL : List D) (hT : TL = s.tasks.map Z14z) (hps : ∀ p ∈ Z1aj s, PlanLe s p /\ p.length <= 20) (Q)
  (hq : ∀ PL n, PL = Z15w (Z1ak (Z1al s) (Z1aj s)).2.1 -> n = (Z1ak (Z1al s) (Z1aj s)).2.2 -> Q (RA.ret (.tup [.sl 1 PL, I n])) []) :
  CallA Tryz.prog 125 [.fn 159 [.cb (.agg [I s.benches, .sl 3 TL]) 0, .cb (.fn 127 []) 0], .fn 128 [.cb (.agg [I s.benches, .sl 3 TL]) 0]] [] Q := by
 obtain ⟨A, hA⟩ : ∃ A, A = ar := ⟨_, rfl⟩;obtain ⟨bl, hbl⟩ : ∃ bl : List (List Nat) -> List D, bl = fun σ => Z15w (Z1ak (Z1al s) σ).2.1 := ⟨_, rfl⟩;obtain ⟨nn, hnn⟩ : ∃ nn : List (List Nat) -> Int, nn = fun σ => (Z1ak (Z1al s) σ).2.2 := ⟨_, rfl⟩;obtain ⟨mt, hmt⟩ : ∃ mt : List (List Nat) -> Bool, mt = fun σ => (Z1ak (Z1al s) σ).1 := ⟨_, rfl⟩;obtain ⟨ps, hpsE⟩ : ∃ ps, ps = Z1aj s := ⟨_, rfl⟩;obtain ⟨σ0, hσ0⟩ : ∃ σ0 : List (List Nat), σ0 = [] := ⟨_, rfl⟩;rw [<- hpsE] at hps hq;have hbl0 : bl σ0 = [] := by rw [hbl, hσ0]; rfl
 have hnn0 : nn σ0 = 0 := by rw [hnn, hσ0]; rfl
 have hmt0 : mt σ0 = false := by rw [hmt, hσ0]; rfl
 have hyes : ∀ σ σ' p, σ' = σ ++ [p] -> (mt σ = false ∨ Z1al s p < nn σ) -> bl σ' = Z15w p /\ nn σ' = Z1al s p /\ mt σ' = true := fun σ σ' p e h => by
  rw [hmt, hnn] at h;have := Z1av (Z1al s) σ p;rw [if_pos h] at this;rw [hbl, hnn, hmt, e]; simp only [this, and_self]
 have hno : ∀ σ σ' p, σ' = σ ++ [p] -> mt σ = true -> nn σ <= Z1al s p -> bl σ' = bl σ /\ nn σ' = nn σ /\ mt σ' = mt σ := fun σ σ' p e h1 h2 => by
  rw [hmt] at h1; rw [hnn] at h2;have := Z1av (Z1al s) σ p;rw [if_neg (by simp only [h1]; simp; exact h2)] at this;rw [hbl, hnn, hmt, e]; simp only [this, and_self]
 refine Zip Z0 hA Tryz.func125 rfl rfl rfl rfl rfl fun S hS => ?_;cbv;refine Z3h hS (Z7w 2 (.sl 1 []) rfl ⟨WkD.nil, trivial⟩ (Z60 (a := { env := [(9, .fn 159 [.cb (.agg [I s.benches, .sl 3 TL]) 0, .cb (.fn 127 []) 0]), (3, .b 1 0), (4, .b 2 0), (5, .b 3 0), (6, .b 4 0)], H := [.ob .mk, .box (.fn 128 [.cb (.agg [I s.benches, .sl 3 TL]) 0]), .box (.sl 1 (bl σ0)), .box (I (nn σ0)), .box (.v (.bool (mt σ0)))], nt := 25, dfs := [.mk 0] }) [0, 1, 2, 3, 4] ⟨by decide, Z9, ⟨rfl, rfl, by rw [hbl0]; rfl, by rw [hnn0]; rfl, by rw [hmt0]; rfl, trivial⟩, ⟨rfl, rfl, rfl, rfl, rfl, trivial⟩, rfl, rfl⟩ (Z7 ?_)));refine Z9l hS (as' := [.yv 0, .cb (.agg [I s.benches, .sl 3 TL]) 0, .cb (.fn 127 []) 0]) [5, 1, 2, 3, 4] (hsB 128 (.agg [I s.benches, .sl 3 TL]) _ _ bl nn mt σ0) rfl rfl rfl rfl (by decide) ⟨rfl, rfl, rfl, rfl, rfl, trivial⟩ ?_;rw [hσ0];refine Z1bp s hv TL hT _ _ bl nn mt ⟨fun σ p rest σ' hp hσ LL hLL Q hq => ?_⟩ _ fun d => ?_
 ·have hpM : p ∈ ps := by rw [hpsE, hp]; simp
  obtain ⟨hpL, hpl⟩ := hps p hpM;obtain ⟨n, hn⟩ : ∃ n, n = Z1al s p := ⟨_, rfl⟩;have hy := hyes σ σ' p hσ;have hz := hno σ σ' p hσ;rw [<- hn] at hy hz;refine Zh2 Z0 hA rfl rfl (by decide) fun b' S2 hS2 => ?_;cbv;refine Zb hS2 ?_;refine Zi Z0 hA hS2 ?_;cbv;refine Z4 hS2 [.sl 1 LL, .cb (.agg [I s.benches, .sl 3 TL]) 0] [] [] rfl rfl rfl rfl rfl rfl rfl rfl (by decide) trivial (Z1c6 s hv p hpL hpl TL LL hT hLL n hn _ ?_);refine Z3 Z0 hA hS2 ?_;cbv;refine bm (fun c => ?_) (fun c => ?_)
  ·obtain ⟨e1, e2, e3⟩ := hy (.inl (xnot hA c));rw [<- hLL] at e1;have hq2 := hq;unfold hsB at hq2;rw [e1, e2, e3] at hq2;cbv;exact ⟨⟨_, _, rfl⟩, hq2⟩
  ·have c0 := xnnot hA c;cbv;refine bm (fun c2 => ?_) (fun c2 => ?_)
   ·obtain ⟨e1, e2, e3⟩ := hy (.inr (xlt hA c2));rw [<- hLL] at e1;have hq2 := hq;unfold hsB at hq2;rw [e1, e2, e3] at hq2;cbv;exact ⟨⟨_, _, rfl⟩, hq2⟩
   ·obtain ⟨e1, e2, e3⟩ := hz c0 (Z7x hA c2);have hq2 := hq;unfold hsB at hq2;rw [e1, e2, e3] at hq2;cbv;exact ⟨⟨_, _, rfl⟩, hq2⟩
 ·have hq1 := hq (bl ps) (nn ps) (by rw [hbl]) (by rw [hnn]);rw [<- hpsE];refine ⟨⟨.ready, _, (by intro h; cases h), rfl⟩, ?_⟩;cbv;refine Z16 Z0 hA hS [0, 1, 2, 3] rfl rfl fun Dk hD => ?_;cbv;exact Z2 [] (by decide) Z9 (H' := []) (d' := .tup [.sl 1 (bl ps), I (nn ps)]) trivial rfl (Z1 hq1)
end Go.Proofs.YthljpccegkmdnaaGreatDoor.Bn

namespace Go.Proofs.YthljpccegkmdnaaGreatDoor.Bn
open Go Go.Abs Go.Proofs
theorem Z1b1 {N : Nat} : ∀ (r : Nat) (left p : List Nat), left.sum = r -> left.length = 4 -> N <= 4 -> (∀ i, N <= i -> left.getD i 0 = 0) -> p ∈ Z1ah N r left -> p.length = r /\ (∀ i ∈ p, i < N) /\ ∀ i, p.count i = left.getD i 0
 | 0, left, p, hs, hl, hN, hz, h => by
  simp only [Z1ah, List.mem_singleton] at h;subst h;exact ⟨rfl, fun i hi => by simp at hi, fun i => by rw [Z1an hs]; rfl⟩
 | r + 1, left, p, hs, hl, hN, hz, h => by
  simp only [Z1ah, List.mem_flatMap, List.mem_range] at h;obtain ⟨i, hi, hm⟩ := h
  by_cases h0 : left.getD i 0 = 0
  ·rw [if_pos h0] at hm; simp at hm
  ·rw [if_neg h0] at hm;obtain ⟨q, hq, rfl⟩ := List.mem_map.1 hm;have hss := Z1b5 h0;obtain ⟨h1, h2, h3⟩ := Z1b1 r (left.set i (left.getD i 0 - 1)) q (by omega) (by simpa using hl) hN (fun j hj => by
    rw [Z15f _ _ _ _ _ (by omega), if_neg (by omega)]; exact hz j hj) hq
   refine ⟨by simp [h1], fun j hj => ?_, fun j => ?_⟩
   ·rcases List.mem_cons.1 hj with rfl | hj
    ·exact hi
    ·exact h2 j hj
   ·rw [List.count_cons, h3 j, Z15f _ _ _ _ _ (by omega)]
    by_cases e : j = i
    ·subst e; rw [if_pos rfl, if_pos (by simp)]; omega
    ·rw [if_neg e, if_neg (by simpa using fun h => e h.symm)]; rfl
theorem Z1bl {s : Sh} (hv : Val s) {p : List Nat} (h : p ∈ Z1aj s) : PlanOk s p := by
 obtain ⟨h1, h2, h3⟩ := Z1b1 _ _ _ (Z1b2 s) (Z1ao hv.len) hv.len (fun i hi => Z1ar hi) h;refine ⟨h2, fun i hi => ?_, h1⟩;rw [h3, Z1b6 (List.getElem?_eq_getElem hi), List.getD_eq_getElem?_getD, List.getElem?_eq_getElem hi]; rfl
def Z1bg (s : Sh) : Bool × List Nat × Int := Z1ak (Z1al s) (Z1aj s)
theorem Z1pr (s : Sh) (hs : ShopOk s) (TL : List D) (hT : TL = s.tasks.map Z14z) (Q) (hq : ∀ PL n, PL = Z15w (Z1bg s).2.1 -> n = (Z1bg s).2.2 -> Q (RA.ret (.tup [.sl 1 PL, I n, I 0])) []) :
  CallA Tryz.prog 85 [.agg [I s.benches, .sl 3 TL]] [] Q := by
 obtain ⟨A, hA⟩ : ∃ A, A = ar := ⟨_, rfl⟩;have hv := chkS_val hs.chk;have hsum := hv.sum;have hpl : ∀ p ∈ Z1aj s, PlanLe s p /\ p.length <= 20 := fun p hp => by
  have := Z1bl hv hp;exact ⟨this.le, by rw [this.len]; omega⟩
 refine Z5 Z0 hA Tryz.func85 rfl rfl rfl rfl rfl fun S hS => ?_;cbv;refine Z4 hS [.agg [I s.benches, .sl 3 TL]] [] [] rfl rfl rfl rfl rfl rfl rfl rfl (by decide) trivial (bCheck s hs.fin TL hT 0 hs.chk.symm _ ?_);refine Z3 Z0 hA hS ?_;cbv;refine bm (fun c => absurd rfl (xne hA c)) (fun _ => ?_);cbv;refine Z4 hS [.agg [I s.benches, .sl 3 TL], .fn 127 []] [] [] rfl rfl rfl rfl rfl rfl rfl rfl (by decide) trivial (Z1c7 s.benches TL _ ?_);refine Z3 Z0 hA hS ?_;cbv;refine Z26 hS (Z1a hA [0] ?_);cbv;refine Z7 ?_;refine Z4 hS [.fn 159 [.cb (.agg [I s.benches, .sl 3 TL]) 0, .cb (.fn 127 []) 0], .fn 128 [.cb (.agg [I s.benches, .sl 3 TL]) 0]] [] [] rfl rfl rfl rfl rfl rfl rfl rfl (by decide) trivial (Z1c8 s hv TL hT hpl _ fun PL n hP hn => ?_);refine Z3 Z0 hA hS ?_;cbv;exact Z2 [] (by decide) Z9 (H' := []) (d' := .tup [.sl 1 PL, I n, I 0]) trivial rfl (Z1 (hq PL n hP hn))
end Go.Proofs.YthljpccegkmdnaaGreatDoor.Bn

namespace Go.Proofs.YthljpccegkmdnaaGreatDoor.Bn
open Go Go.Abs Go.Proofs
def exS : Sh := ⟨2, [⟨0, 8, [⟨0, 2, 3⟩, ⟨1, 4, 4⟩]⟩, ⟨1, 6, [⟨1, 2, 2⟩, ⟨0, 3, 5⟩]⟩, ⟨0, 20, [⟨1, 1, 3⟩]⟩]⟩
def exP : List Nat := [0, 1, 1, 2, 0]
theorem exOk : ShopOk exS := ⟨by decide, by decide, ⟨by decide, by decide⟩⟩
theorem Z1ok : PlanOk exS exP := ⟨by decide, by decide, by decide⟩
set_option maxRecDepth 20000 in
set_option maxHeartbeats 2000000 in
theorem Z1ol (Q) (hq : Q (RA.ret (.tup [I 9, I 0])) []) : CallA Tryz.prog 86 [Z1lp exS] [] Q := by
 refine Z5 (A := ar) Z0 rfl Tryz.func86 rfl rfl rfl rfl rfl fun S hS => ?_;cbv;refine Z4 hS [.agg [I 2, .sl 3 (exS.tasks.map Z14z)]] [] [] rfl rfl rfl rfl rfl rfl rfl rfl (by decide) trivial (bCheck exS exOk.fin _ rfl 0 exOk.chk.symm _ ?_);refine Z3 (A := ar) Z0 rfl hS ?_;cbv
 repeat (first
  | (refine Z1e9 hS 8 fun Rn hR => ?_)
  | (refine Z198 (A := ar) Z0 rfl hS (by assumption) ?_; cbv)
  | (refine ⟨Int.NonNeg.mk _, ?_⟩)
  | (refine Need.mk ⟨_, rfl, ?_⟩; cbv)
  | (refine Z16 (A := ar) Z0 rfl hS [0, 1, 2, 3, 4, 5, 6, 7, 8, 9, 10, 11, 12, 13, 14] rfl rfl fun Dk hD => ?_; cbv)
  | (refine KeyIs.mk ⟨[_, _], ⟨rfl, rfl⟩, ?_⟩; cbv))
 exact Z2 [] (by decide) Z9 (H' := []) (d' := .tup [I 9, I 0]) trivial rfl (Z1 hq)
end Go.Proofs.YthljpccegkmdnaaGreatDoor.Bn

namespace Go.Proofs.YthljpccegkmdnaaGreatDoor.Bn
open Go Go.Abs Go.Proofs
def Z1o0 : List D := [.sl 1 [I 0, I 2], .sl 1 [I 1, I 3], .sl 1 [I 7]]
set_option maxRecDepth 20000 in
set_option maxHeartbeats 4000000 in
theorem Z1om (Q) (hq : Q (RA.ret (I 0)) []) : CallA Tryz.prog 130 [Z1lp exS, .sl 1 Z1o0] [] Q := by
 refine Z5 (A := ar) Z0 rfl Tryz.func130 rfl rfl rfl rfl rfl fun S hS => ?_;cbv
 repeat (first
  | (refine Z1e9 hS 8 fun Rn hR => ?_)
  | (refine Z198 (A := ar) Z0 rfl hS (by assumption) ?_; cbv)
  | (refine ⟨Int.NonNeg.mk _, ?_⟩)
  | (refine Need.mk ⟨_, rfl, ?_⟩; cbv)
  | (refine Z16 (A := ar) Z0 rfl hS [0, 1, 2, 3, 4, 5, 6, 7, 8] rfl rfl fun Dk hD => ?_; cbv)
  | (refine Z4 hS [I _, I 0, I 200] [] [] rfl rfl rfl rfl rfl rfl rfl rfl (by decide) trivial (Zb9 _ _ _ true rfl _ ?_); refine Z3 (A := ar) Z0 rfl hS ?_; cbv)
  | (refine KeyIs.mk ⟨[_, _], ⟨rfl, rfl⟩, ?_⟩; cbv))
 exact Z2 [] (by decide) Z9 (H' := []) (d' := I 0) trivial rfl (Z1 hq)
set_option maxRecDepth 20000 in
set_option maxHeartbeats 8000000 in
theorem Z1on (Q) (hq : Q (RA.ret (.tup [I 0, I 1, I 0])) []) : CallA Tryz.prog 87 [Z1lp exS, .sl 1 Z1o0] [] Q := by
 refine Z5 (A := ar) Z0 rfl Tryz.func87 rfl rfl rfl rfl rfl fun S hS => ?_;cbv;refine Zs7 (A := ar) Z0 rfl hS ?_;cbv;refine Z4 hS [.agg [I 2, .sl 3 (exS.tasks.map Z14z)]] [] [] rfl rfl rfl rfl rfl rfl rfl rfl (by decide) trivial (bCheck exS exOk.fin _ rfl 0 exOk.chk.symm _ ?_);refine Z3 (A := ar) Z0 rfl hS ?_;cbv;refine Z4 hS [Z1lp exS, .sl 1 Z1o0] [] [] rfl rfl rfl rfl rfl rfl rfl rfl (by decide) trivial (Z1om _ ?_);refine Z3 (A := ar) Z0 rfl hS ?_;cbv
 repeat (first
  | (refine Z1e9 hS 8 fun Rn hR => ?_)
  | (refine Z198 (A := ar) Z0 rfl hS (by assumption) ?_; cbv)
  | (refine ⟨Int.NonNeg.mk _, ?_⟩)
  | (refine Need.mk ⟨_, rfl, ?_⟩; cbv)
  | (refine Z16 (A := ar) Z0 rfl hS [0, 1, 2, 3, 4, 5, 6, 7, 8, 9, 10, 11, 12, 13, 14, 15, 16, 17, 18, 19, 20, 21, 22, 23, 24, 25, 26] rfl rfl fun Dk hD => ?_; cbv)
  | (refine ⟨by (repeat' (first | exact trivial | exact Need.mk ⟨_, rfl, rfl⟩ | refine ⟨?_, ?_⟩)), ?_⟩))
 exact Z2 [] (by decide) Z9 (H' := []) (d' := .tup [I 0, I 1, I 0]) trivial rfl (Z1 hq)
end Go.Proofs.YthljpccegkmdnaaGreatDoor.Bn

namespace Go.Proofs.YthljpccegkmdnaaGreatDoor.Bn
open Go Go.Abs Go.Proofs
set_option maxRecDepth 20000 in
theorem Z1ne (Q) (hq : Q (RA.ret (Z1lp exS)) []) : CallA Tryz.prog 82 [] [] Q := by
 refine Z5 (A := ar) Z0 rfl Tryz.func82 rfl rfl rfl rfl rfl fun S hS => ?_;cbv;refine Z4 hS [I 0, I 2, I 3] [] [] rfl rfl rfl rfl rfl rfl rfl rfl (by decide) trivial (Z1nb _ _ _ _ ?_);refine Z3 (A := ar) Z0 rfl hS ?_;cbv;refine Z4 hS [I 1, I 4, I 4] [] [] rfl rfl rfl rfl rfl rfl rfl rfl (by decide) trivial (Z1nb _ _ _ _ ?_);refine Z3 (A := ar) Z0 rfl hS ?_;cbv;refine Z26 hS (Z1a rfl [1] ?_);cbv;refine Z7 ?_;refine Z4 hS [I 1, I 2, I 2] [] [] rfl rfl rfl rfl rfl rfl rfl rfl (by decide) trivial (Z1nb _ _ _ _ ?_);refine Z3 (A := ar) Z0 rfl hS ?_;cbv;refine Z4 hS [I 0, I 3, I 5] [] [] rfl rfl rfl rfl rfl rfl rfl rfl (by decide) trivial (Z1nb _ _ _ _ ?_);refine Z3 (A := ar) Z0 rfl hS ?_;cbv;refine Z26 hS (Z1a rfl [2] ?_);cbv;refine Z7 ?_;refine Z4 hS [I 1, I 1, I 3] [] [] rfl rfl rfl rfl rfl rfl rfl rfl (by decide) trivial (Z1nb _ _ _ _ ?_);refine Zke (A := ar) Z0 rfl hS [9, 10] [11, 12, 13] ?_;cbv;refine Z26 hS (Z1a rfl [3] ?_);cbv;refine Z7 (Zii hS (Zke (A := ar) Z0 rfl hS [11, 12] [13] ?_));cbv;refine Z26 hS (Z1a rfl [4] ?_);cbv;refine Z7 (Zii hS (Z3 (A := ar) Z0 rfl hS ?_));cbv;exact Z2 [] (by decide) Z9 (H' := []) (d' := Z1lp exS) trivial rfl (Z1 hq)
theorem Z1p5 (Q) (hq : Q (RA.ret (.sl 1 (Z15w exP))) []) : CallA Tryz.prog 83 [] [] Q := by
 refine Z5 (A := ar) Z0 rfl Tryz.func83 rfl rfl rfl rfl rfl fun S hS => ?_;cbv;refine Z1w [0] ?_;cbv;exact Z2 [] (by decide) Z9 (H' := []) (d' := .sl 1 (Z15w exP)) trivial rfl (Z1 hq)
theorem Z1pe : Zd exS exP = [(8, 10), (6, 8), (4, 6)] := by decide +kernel
theorem Z1ow : Z1lq exS exP = [2, 0, 2, 0, 0] := by decide +kernel
theorem Z1pf : Z1bg exS = (true, [0, 1, 0, 1, 2], 10) := by decide +kernel
end Go.Proofs.YthljpccegkmdnaaGreatDoor.Bn

namespace Go.Proofs.YthljpccegkmdnaaGreatDoor.Bn
open Go Go.Abs Go.Proofs
set_option maxRecDepth 20000 in
set_option maxHeartbeats 4000000 in
theorem filing (Q) (hq : Q (RA.ret (.v (.bool true))) []) : CallA Tryz.prog 34 [] [] Q := by
 refine Z5 (A := ar) Z0 rfl Tryz.func34 rfl rfl rfl rfl rfl fun S hS => ?_;cbv;refine Z4 hS [] [] [] rfl rfl rfl rfl rfl rfl rfl rfl (by decide) trivial (Z1ne _ ?_);refine Z3 (A := ar) Z0 rfl hS ?_;cbv;refine Z4 hS [] [] [] rfl rfl rfl rfl rfl rfl rfl rfl (by decide) trivial (Z1p5 _ ?_);refine Z3 (A := ar) Z0 rfl hS ?_;cbv;refine Z4 hS [Z1lp exS, .sl 1 (Z15w exP)] [] [] rfl rfl rfl rfl rfl rfl rfl rfl (by decide) trivial (Z1o7 exS exOk exP Z1ok _ _ rfl rfl _ fun L1 hL1 => ?_);rw [Z1pe] at hL1;subst hL1;refine Z3 (A := ar) Z0 rfl hS ?_;cbv;refine Z4 hS [] [] [] rfl rfl rfl rfl rfl rfl rfl rfl (by decide) trivial (Z1ne _ ?_);refine Z3 (A := ar) Z0 rfl hS ?_;cbv;refine Z4 hS [] [] [] rfl rfl rfl rfl rfl rfl rfl rfl (by decide) trivial (Z1p5 _ ?_);refine Z3 (A := ar) Z0 rfl hS ?_;cbv;refine Z4 hS [Z1lp exS, .sl 1 (Z15w exP)] [] [] rfl rfl rfl rfl rfl rfl rfl rfl (by decide) trivial (Z1nt exS exOk exP Z1ok _ _ rfl rfl _ fun L2 hL2 => ?_);rw [Z1ow] at hL2;subst hL2;refine Z3 (A := ar) Z0 rfl hS ?_;cbv;refine Z4 hS [] [] [] rfl rfl rfl rfl rfl rfl rfl rfl (by decide) trivial (Z1ne _ ?_);refine Z3 (A := ar) Z0 rfl hS ?_;cbv;refine Z4 hS [Z1lp exS] [] [] rfl rfl rfl rfl rfl rfl rfl rfl (by decide) trivial (Z1pr exS exOk _ rfl _ fun L3 n hL3 hn => ?_);rw [Z1pf] at hL3 hn;subst hL3; subst hn;refine Z3 (A := ar) Z0 rfl hS ?_;cbv;refine Z4 hS [] [] [] rfl rfl rfl rfl rfl rfl rfl rfl (by decide) trivial (Z1ne _ ?_);refine Z3 (A := ar) Z0 rfl hS ?_;cbv;refine Z4 hS [Z1lp exS] [] [] rfl rfl rfl rfl rfl rfl rfl rfl (by decide) trivial (Z1ol _ ?_);refine Z3 (A := ar) Z0 rfl hS ?_;cbv;refine Z4 hS [] [] [] rfl rfl rfl rfl rfl rfl rfl rfl (by decide) trivial (Z1ne _ ?_);refine Zke (A := ar) Z0 rfl hS [1, 2, 3] [4, 5, 6, 7, 8, 9, 10, 11, 12] ?_;cbv;refine Z26 hS (Z1a rfl [0, 1, 2] ?_);cbv;refine Z7 (Zii hS (Zke (A := ar) Z0 rfl hS [4] [5, 6, 7, 8, 9, 10, 11, 12] ?_));cbv;refine Z26 hS (Z1a rfl [3] ?_);cbv;refine Z7 (Zii hS (Z3 (A := ar) Z0 rfl hS ?_));cbv;refine Z4 hS [Z1lp exS, .sl 1 Z1o0] [] [] rfl rfl rfl rfl rfl rfl rfl rfl (by decide) trivial (Z1on _ ?_);refine Z3 (A := ar) Z0 rfl hS ?_;cbv;refine Zg hS (b := true) rfl rfl rfl rfl rfl rfl rfl rfl (fun _ => ⟨[], _, [I 8, I 10], [], [], rfl, rfl, rfl, by decide, trivial, toF _ _ _ ?_⟩) (fun h => absurd rfl h);refine Z3 (A := ar) Z0 rfl hS ?_;cbv;refine Zg hS (b := true) rfl rfl rfl rfl rfl rfl rfl rfl (fun _ => ⟨[], _, [I 6, I 8], [], [], rfl, rfl, rfl, by decide, trivial, toF _ _ _ ?_⟩) (fun h => absurd rfl h);refine Z3 (A := ar) Z0 rfl hS ?_;cbv;refine Zg hS (b := true) rfl rfl rfl rfl rfl rfl rfl rfl (fun _ => ⟨[], _, [I 4, I 6], [], [], rfl, rfl, rfl, by decide, trivial, toF _ _ _ ?_⟩) (fun h => absurd rfl h);refine Z3 (A := ar) Z0 rfl hS ?_;cbv;refine Z26 hS (Z1a rfl [4] ?_);cbv;refine Z7 ?_;refine Zg hS (b := true) rfl rfl rfl rfl rfl rfl rfl rfl (fun _ => ⟨[], _, [.sl 2 ([(8, 10), (6, 8), (4, 6)].map Zt3), .sl 2 ([(8, 10), (6, 8), (4, 6)].map Zt3)], [], [], rfl, rfl, rfl, by decide, trivial, Za2 [(8, 10), (6, 8), (4, 6)] [(8, 10), (6, 8), (4, 6)] _ _ rfl rfl (by decide) true rfl _ ?_⟩) (fun h => absurd rfl h);refine Z3 (A := ar) Z0 rfl hS ?_;cbv;refine Z26 hS (Z1a rfl [5] ?_);cbv;refine Z7 ?_;refine Zg hS (b := true) rfl rfl rfl rfl rfl rfl rfl rfl (fun _ => ⟨[], _, [.sl 1 ([2, 0, 2, 0, 0].map I), .sl 1 ([2, 0, 2, 0, 0].map I)], [], [], rfl, rfl, rfl, by decide, trivial, Zaq [2, 0, 2, 0, 0] [2, 0, 2, 0, 0] _ _ rfl rfl (by decide) true rfl _ ?_⟩) (fun h => absurd rfl h);refine Z3 (A := ar) Z0 rfl hS ?_;cbv;refine Z26 hS (Z1a rfl [6] ?_);cbv;refine Z7 ?_;refine Zg hS (b := true) rfl rfl rfl rfl rfl rfl rfl rfl (fun _ => ⟨[], _, [.sl 1 ([0, 1, 0, 1, 2].map I), .sl 1 ([0, 1, 0, 1, 2].map I)], [], [], rfl, rfl, rfl, by decide, trivial, Zaq [0, 1, 0, 1, 2] [0, 1, 0, 1, 2] _ _ rfl rfl (by decide) true rfl _ ?_⟩) (fun h => absurd rfl h);refine Z3 (A := ar) Z0 rfl hS ?_;cbv;exact Z2 [] (by decide) Z9 (H' := []) (d' := .v (.bool true)) trivial rfl (Z1 hq)
end Go.Proofs.YthljpccegkmdnaaGreatDoor.Bn

namespace Go.Proofs.YthljpccegkmdnaaGreatDoor
open Go Go.Abs Go.Proofs Go.Txt
open Bn (Sh Tk Wk Z14x Z14z Za5 Val)
theorem Z1ox {b : Int} {w : Wk} (h : Bn.OkW b w) : Bn.chkW b w = 0 := by
 have h1 := h.b0;have h2 := h.b1;have h3 := h.lo;have h4 := h.le;have h5 := h.hi;unfold Bn.chkW;rw [if_neg (by rw [Bn.amg_iff.2 ⟨h1, by omega⟩]; decide), if_neg (by rw [Bn.amg_iff.2 ⟨h3, by omega⟩]; decide), if_neg (by rw [Bn.amg_iff.2 ⟨by omega, h5⟩]; decide), if_neg (by omega)]
theorem Z1nf {b : Int} : ∀ {l : List Wk}, (∀ w ∈ l, Bn.OkW b w) -> Bn.chkWs b l = 0
 | [], _ => rfl
 | w :: l, h => by unfold Bn.chkWs; rw [if_pos (Z1ox (h w (by simp)))]; exact Z1nf fun x hx => h x (List.mem_cons_of_mem _ hx)
theorem Z1oy {b : Int} {t : Tk} (h : Bn.OkT b t) : Bn.chkT b t = 0 := by
 have h1 := h.r0;have h2 := h.r1;have h3 := h.d0;have h4 := h.d1;have h5 := h.w0;unfold Bn.chkT;rw [if_neg (by rw [Bn.amg_iff.2 ⟨h1, by omega⟩]; decide), if_neg (by rw [Bn.amg_iff.2 ⟨by omega, by omega⟩]; decide), if_neg (fun e => by rw [e] at h5; simp at h5), Z1nf h.wk]
theorem Z1ng {b : Int} : ∀ {l : List Tk}, (∀ t ∈ l, Bn.OkT b t) -> Bn.chkTs b l = 0
 | [], _ => rfl
 | t :: l, h => by unfold Bn.chkTs; rw [if_pos (Z1oy (h t (by simp)))]; exact Z1ng fun x hx => h x (List.mem_cons_of_mem _ hx)
theorem Z1oz {n m : Nat} {s : Sh} (h : Bn.OkS n m s) (hn : n <= 4 := by decide) (hm : m <= 8 := by decide) : Za5 s = 0 := by
 have h1 := h.len;have h2 := h.sum;unfold Za5;rw [if_neg (by rw [Bn.amg_iff.2 ⟨h.b0, h.b1⟩]; decide), if_neg (by omega), if_pos (Z1ng h.tk), if_neg (by omega)]
def wrS (s : Sh) : By × Int := if Za5 s = 0 then (Z1ll s, 0) else ([], Za5 s)
theorem Z1p0 (s : Sh) : (wrS s).1.length <= 1000 := by
 unfold wrS
 split
 ·rename_i h
  have hv := Bn.chkS_val h;have a := Z1m0 hv s.tasks.length;have d : Z1lf.length = 6 := rfl;have e : ([10] : By).length = 1 := rfl;rw [List.take_length] at a;show (Z1lb s ++ s.tasks.flatMap Z1le ++ Z1lf ++ [10]).length <= 1000;rw [List.length_append, List.length_append]; omega
 ·simp
theorem Z1ir (s : Sh) (hs : NotBig s) (TL : List D) (hT : TL = s.tasks.map Z14z) (W : By) (E : Int) (h : wrS s = (W, E)) (n : Int) (hn : s.benches = n) (Q) (hq : Q (RA.ret (.tup [tD W, I E])) []) :
  CallA Tryz.prog 37 [.agg [I n, .sl 3 TL]] [] Q := by
 subst hn;unfold wrS at h;refine Z1or s ⟨by have := hs.len; omega, fun t ht => by have := hs.wk t ht; omega⟩ TL hT Q (fun h0 x hx => ?_) (fun e he h0 => ?_)
 ·rw [if_pos h0] at h; cases h; rw [hx.eq]; exact hq
 ·rw [if_neg (he ▸ h0)] at h; cases h; rw [he]; exact hq
theorem Z1o1 (s : Sh) (hs : NotBig s) (TL : List D) (hT : TL = s.tasks.map Z14z) (W : By) (E : Int) (h : wrS s = (W, E)) (n : Int) (hn : s.benches = n) (Q) (hq : Q (RA.ret (.tup [tD W, I E])) []) :
  CallA Tryz.prog 38 [.agg [I n, .sl 3 TL]] [] Q := by
 subst hn;unfold wrS at h;refine Z1os s ⟨by have := hs.len; omega, fun t ht => by have := hs.wk t ht; omega⟩ TL hT Q (fun h0 x hx => ?_) (fun e he h0 => ?_)
 ·rw [if_pos h0] at h; cases h; rw [hx.eq]; exact hq
 ·rw [if_neg (he ▸ h0)] at h; cases h; rw [he]; exact hq
structure RvS (t : By) (n l e : Int) (TL : List D) : Prop where
 out : ∃ s, Z1lg t = (s, l, e) /\ s.benches = n /\ TL = s.tasks.map Z14z
theorem rvS (t : By) : ∃ n l e TL, RvS t n l e TL := ⟨_, _, _, _, ⟨(Z1lg t).1, rfl, rfl, rfl⟩⟩
theorem Z1k1 {t : By} {n l e : Int} {TL : List D} (h : RvS t n l e TL) (Q) (hq : Q (RA.ret (.tup [.agg [I n, .sl 3 TL], I l, I e])) []) : CallA Tryz.prog 40 [tD t] [] Q := by
 obtain ⟨s, h1, rfl, rfl⟩ := h.out;refine Z1pb t Q (fun l' e' h' h0 => ?_) (fun s' n' TL' h' h0 hn hT => ?_)
 ·rw [h1] at h'; cases h'; exact hq
 ·rw [h1] at h'; cases h'; subst hn hT; exact hq
theorem Z1pg {t : By} {n l e : Int} {TL : List D} (h : RvS t n l e TL) (Q) (hq : Q (RA.ret (.tup [.agg [I n, .sl 3 TL], I l, I e])) []) : CallA Tryz.prog 41 [tD t] [] Q := by
 obtain ⟨s, h1, rfl, rfl⟩ := h.out;refine Z1pc t Q (fun l' e' h' h0 => ?_) (fun s' n' TL' h' h0 hn hT => ?_)
 ·rw [h1] at h'; cases h'; exact hq
 ·rw [h1] at h'; cases h'; subst hn hT; exact hq
theorem Z1o8 {s : Sh} (h : Val s) : NotBig s := ⟨Nat.le_trans h.len (by decide), fun t ht => Nat.le_trans (Nat.le_trans (Z1lz ht) h.sum) (by decide)⟩
theorem Z1n4 (t : By) : NotBig (Z1lg t).1 := by
 have z : NotBig s0 := ⟨by decide, fun t ht => absurd ht List.not_mem_nil⟩;unfold Z1lg
 split
 ·exact z
 ·split
  ·exact z
  ·split
   ·exact z
   ·split
    ·exact z
    ·rename_i h; exact Z1o8 (Bn.chkS_val (Decidable.not_not.1 h))
theorem Z1o2 (x : Int) (Q) (hq : ∀ (s : Sh) n TL x', NotBig s -> s.benches = n -> TL = s.tasks.map Z14z -> Za5 s = 0 -> Q (RA.ret (.agg [I n, .sl 3 TL])) [pot x']) : CallA Tryz.prog 35 [.b 0 0, I 4, I 8] [pot x] Q :=
 Bn.shopOf x 4 8 (by decide) (by decide) Q fun s x' h => hq s _ _ x' ⟨Nat.le_trans h.len (by decide), fun t ht => Nat.le_trans (h.tk t ht).w1 (by decide)⟩ rfl rfl (Z1oz h)
theorem Z1kc {s : Sh} (hs : NotBig s) {n : Int} (hn : s.benches = n) {TL : List D} (hT : TL = s.tasks.map Z14z) (Q) (hq : Q (RA.ret (.v (.bool true))) []) : CallA Tryz.prog 42 [.agg [I n, .sl 3 TL], .agg [I n, .sl 3 TL]] [] Q := by
 subst hn;exact Z1nq s (Nat.le_trans hs.len (by decide)) (fun t ht => Nat.le_trans (hs.wk t ht) (by decide)) TL hT Q hq
theorem Z1p6 {t : By} {n l e : Int} {TL : List D} (h : RvS t n l e TL) (Q) (hq : Q (RA.ret (.v (.bool true))) []) : CallA Tryz.prog 42 [.agg [I n, .sl 3 TL], .agg [I n, .sl 3 TL]] [] Q := by
 obtain ⟨s, h1, h2, h3⟩ := h.out;have := Z1n4 t;rw [h1] at this;exact Z1kc this h2 h3 Q hq
end Go.Proofs.YthljpccegkmdnaaGreatDoor

namespace Go.Proofs.YthljpccegkmdnaaGreatDoor
open Go Go.Abs Go.Proofs Go.Txt
open Bn (Sh Tk Wk Z14x Z14z Za5 Val Z1lp)
set_option maxRecDepth 40000 in
set_option maxHeartbeats 16000000 in
theorem Z1nh (s : Sh) (TL : List D) (hT : TL = s.tasks.map Z14z) (hl9 : s.tasks.length <= 9223372036854775807) (t : By) (L : List D) (nums : List Int) (hL : L = nums.map I) (hl : L.length <= 9223372036854775807) (at' how z : Int) (b : UInt8) (hb : z = (b.toNat : Int)) (Q) (hq : Q (RA.ret (.v (.bool true))) []) :
  CallA Tryz.prog 4 [.agg [I s.benches, .sl 3 TL], tD t, .sl 1 L, I at', I how, .v (.int .u8 z)] [] Q := by
 obtain ⟨A, hA⟩ : ∃ A, A = ar := ⟨_, rfl⟩;have kB := fun Q h => kBig s TL hT hl9 Q h;obtain ⟨nb, hnb⟩ : ∃ nb, s.benches = nb := ⟨_, rfl⟩;rw [hnb] at kB;rw [hnb];have hTl : TL.length = s.tasks.length := by rw [hT, List.length_map]
 obtain ⟨W1, E1, hW1⟩ : ∃ W E, wrS s = (W, E) := ⟨_, _, rfl⟩;refine Z38 Z0 hA [3] Tryz.func4 rfl rfl rfl rfl rfl fun S hS => ?_;cbv;refine Z4 hS [.agg [I nb, .sl 3 TL]] [] [] rfl rfl rfl rfl rfl rfl rfl rfl (by decide) trivial (kB _ fun bb hbb => ?_)
 cases bb with
 | true =>
  refine Z3 Z0 hA hS ?_;cbv;refine Z4 hS [] [] [] rfl rfl rfl rfl rfl rfl rfl rfl (by decide) trivial (Bn.filing _ ?_);refine Z3 Z0 hA hS ?_;cbv;exact Z2 [] (by decide) Z9 (H' := []) (d' := .v (.bool true)) trivial rfl (Z1 hq)
 | false =>
 have hnb2 := hbb rfl;have wk1 := fun Q h => Z1ir s hnb2 TL hT W1 E1 hW1 nb hnb Q h;have wr1 := fun Q h => Z1o1 s hnb2 TL hT W1 E1 hW1 nb hnb Q h;clear hT kB hbb hnb2 hTl hl9;refine Z3 Z0 hA hS ?_;cbv;refine' bm2 (S := S) (α := Unit) (fun _ => { env := [(1, tD t), (2, .sl 1 L), (3, I at'), (4, I how), (5, .v (.int .u8 z)), (6, .b 0 0)], H := [.box (.agg [I nb, .sl 3 TL])], nt := 130, dfs := [] }) (fun _ => True) (fun rest c => ?g1) (fun rest c => ?g2) ?g3
 case g1 =>
  cbv;refine bm (fun c4 => ?_) (fun c4 => ?_)
  ·cbv;refine Z4 hS [] [] [] rfl rfl rfl rfl rfl rfl rfl rfl (by decide) trivial (Bn.filing _ ?_);refine Z3 Z0 hA hS ?_;cbv;exact Z2 [] (by decide) Z9 (H' := []) (d' := .v (.bool true)) trivial rfl (Z1 hq)
  ·cbv;exact Zof hS rest () trivial (Zf [0] ⟨by decide, Z9, ⟨rfl, trivial⟩, ⟨rfl, rfl, rfl, rfl, rfl, rfl, trivial⟩, rfl, rfl⟩)
 case g2 =>
  cbv;exact Zof hS rest () trivial (Zf [0] ⟨by decide, Z9, ⟨rfl, trivial⟩, ⟨rfl, rfl, rfl, rfl, rfl, rfl, trivial⟩, rfl, rfl⟩)
 case g3 =>
 rintro - -;refine Z16 Z0 hA hS [0, 1, 5, 6, 2, 3, 4, 7, 8] rfl rfl fun Dk hD => ?_;cbv;refine Zq hA hD [.sl 1 L] [] [] rfl rfl rfl rfl rfl rfl rfl rfl rfl rfl rfl (by decide) trivial (Zvp L nums hL hl _ fun x0 => ⟨by cbv; repeat' (first | exact trivial | exact rfl | refine ⟨?_, ?_⟩), Zx Z0 hA hD ?_⟩);cbv;refine Zq hA hD [.b 0 0, I 4, I 8] [2] [pot x0] rfl rfl rfl rfl rfl rfl rfl rfl rfl rfl rfl (by decide) ⟨rfl, trivial⟩ (Z1o2 x0 _ fun s2 n2 T2 x1 hs2 hn2 hT2 _ => ⟨by cbv; repeat' (first | exact trivial | exact rfl | refine ⟨?_, ?_⟩), Zx Z0 hA hD ?_⟩);obtain ⟨W2, E2, hW2⟩ : ∃ W E, wrS s2 = (W, E) := ⟨_, _, rfl⟩;have hW2l : W2.length <= 1000 := by have := Z1p0 s2; rw [hW2] at this; exact this
 have wk2 := fun Q h => Z1ir s2 hs2 T2 hT2 W2 E2 hW2 n2 hn2 Q h;have wr2 := fun Q h => Z1o1 s2 hs2 T2 hT2 W2 E2 hW2 n2 hn2 Q h;clear hs2 hT2 hn2 hW2 hW1;have nsq : ∀ W, A.bnot (A.seq (bs W) (bs W)) = false := fun W => by rw [yseq hA]; subst hA; simp [ar]
 have nne : ∀ x, A.cmp .neq x x = false := fun x => by subst hA; simp [ar, Z25]
 have bT : A.bnot true = false := by subst hA; rfl
 have t0 : IsI 0 0 := ⟨rfl⟩;have t1 := Zz hA t0;have t2 := Zz hA t1;have f0 := Zy hA t0 (by decide);have f1 := Zy hA t1 (by decide);have l0 : A.cmp .lss 0 (A.oi 2) = true := by subst hA; rfl
 have l1 : A.cmp .lss (A.add 0 1) (A.oi 2) = true := by subst hA; rfl
 have l2 : A.cmp .lss (A.add (A.add 0 1) 1) (A.oi 2) = false := by subst hA; rfl
 have i0 : A.inb 0 2 := Z4o hA t0 (by decide);have i1 : A.inb (A.add 0 1) 2 := Z4o hA t1 (by decide);have g0 : A.get [.agg [I nb, .sl 3 TL], .agg [I n2, .sl 3 T2]] (A.tn 0) = some (.agg [I nb, .sl 3 TL]) := Z18 hA t0 rfl;have g1 : A.get [.agg [I nb, .sl 3 TL], .agg [I n2, .sl 3 T2]] (A.tn (A.add 0 1)) = some (.agg [I n2, .sl 3 T2]) := Z18 hA t1 rfl;have a1 : A.app [tD t] [tD W1] = [tD t, tD W1] := by subst hA; rfl
 have a2 : A.app (A.app [tD t] [tD W1]) [tD W2] = [tD t, tD W1, tD W2] := by subst hA; rfl
 cbv;have r1 : A.room (A.addN 1 1) 16 := yroom1 hA (by decide) (by decide);have r2 : A.room (A.addN (A.addN 1 1) 1) 16 := yroom1 hA (by subst hA; decide) (by decide);have q1 : ∀ x, A.eqN 1 (A.len [x]) := fun x => by subst hA; rfl
 have q2 : A.eqN (A.addN 1 1) (A.len (A.app [tD t] [tD W1])) := by rw [a1]; subst hA; rfl
 have q3 : A.eqN (A.addN (A.addN 1 1) 1) (A.len (A.app (A.app [tD t] [tD W1]) [tD W2])) := by rw [a2]; subst hA; rfl
 have i2 : A.inb 2 (A.addN (A.addN 1 1) 1) := by subst hA; exact ⟨by decide, by decide⟩
 have g2 : A.get (A.app (A.app [tD t] [tD W1]) [tD W2]) (A.tn 2) = some (tD W2) := by rw [a2]; subst hA; rfl
 have r3 : A.room (A.addN (A.addN (A.addN 1 1) 1) 1) 16 := yroom1 hA (by subst hA; decide) (by decide);have n4 : A.addN (A.addN (A.addN 1 1) 1) 1 = 4 := by subst hA; rfl
 refine Z1e9 hS 3 fun Rn hR => ?_;refine Z198 Z0 hA hS hR ?_;cbv;refine bmT l0 ?_;cbv;refine ⟨i0, Need.mk ⟨_, g0, ?_⟩⟩;cbv;refine Z4 hS [.agg [I nb, .sl 3 TL]] [] [] rfl rfl rfl rfl rfl rfl rfl rfl (by decide) trivial (wk1 _ ?_);refine Z3 Z0 hA hS ?_;cbv;refine ⟨i0, Need.mk ⟨_, g0, ?_⟩⟩;cbv;refine Z4 hS [.agg [I nb, .sl 3 TL]] [] [] rfl rfl rfl rfl rfl rfl rfl rfl (by decide) trivial (wr1 _ ?_);refine Z3 Z0 hA hS ?_;cbv;refine bmF (nsq W1) ?_;cbv;refine bmF (nne E1) ?_;cbv;refine ⟨q1 (tD t), q1 (tD W1), r1, f0, ?_⟩;refine Z198 Z0 hA hS hR ?_;cbv;refine bmT l1 ?_;cbv;refine ⟨i1, Need.mk ⟨_, g1, ?_⟩⟩;cbv;refine Z4 hS [.agg [I n2, .sl 3 T2]] [] [] rfl rfl rfl rfl rfl rfl rfl rfl (by decide) trivial (wk2 _ ?_);refine Z3 Z0 hA hS ?_;cbv;refine ⟨i1, Need.mk ⟨_, g1, ?_⟩⟩;cbv;refine Z4 hS [.agg [I n2, .sl 3 T2]] [] [] rfl rfl rfl rfl rfl rfl rfl rfl (by decide) trivial (wr2 _ ?_);refine Z3 Z0 hA hS ?_;cbv;refine bmF (nsq W2) ?_;cbv;refine bmF (nne E2) ?_;cbv;refine ⟨q2, q1 (tD W2), r2, f1, ?_⟩;refine Z198 Z0 hA hS hR ?_;cbv;refine bmF l2 ?_;cbv;refine ⟨i2, Need.mk ⟨_, g2, ?_⟩⟩;cbv;refine Z4 hS [.v (.string (bs W2)), I at', I how, .v (.int .u8 z)] [] [] rfl rfl rfl rfl rfl rfl rfl rfl (by decide) trivial (Z1jm W2 hW2l at' how z b hb _ fun x => ?_);obtain ⟨TX, hTX⟩ : ∃ TX, TX = A.app (A.app (A.app [tD t] [tD W1]) [tD W2]) [.v (.string x)] := ⟨_, rfl⟩;obtain ⟨N4, hN4⟩ : ∃ N4, N4 = A.addN (A.addN (A.addN 1 1) 1) 1 := ⟨_, rfl⟩;have hg4 : ∀ k, k < 4 -> ∃ t', TX[k]? = some (tD t') := fun k hk => by
  have e : TX = [tD t, tD W1, tD W2, .v (.string x)] := by rw [hTX, a2]; subst hA; rfl
  rw [e]
  match k, hk with
  | 0, _ => exact ⟨t, rfl⟩
  | 1, _ => exact ⟨W1, rfl⟩
  | 2, _ => exact ⟨W2, rfl⟩
  | 3, _ => exact ⟨x.data.toList, by unfold tD; rw [bs_of]; rfl⟩
 have hN : N4 = 4 := hN4.trans n4;refine Z3 Z0 hA hS ?_;cbv;refine ⟨q3, q1 (.v (.string x)), r3, ?_⟩;clear wk1 wr1 wk2 wr2 a1 a2 g0 g1 g2 q1 q2 q3 r1 r2 r3 n4 i0 i1 i2 hR;refine Zb hS ?_;refine Za (α := Int × Nat) (fun q => { env := [(14, .o 0 1 N4), (20, I q.1)], H := [.els 1 TX], nt := 130, dfs := [] }) (fun q => 4 - q.2) (fun q => q.2 <= 4 /\ IsI q.1 q.2) (0, 0) ⟨by decide, ⟨rfl⟩⟩ ?_ ?_
 ·rw [hTX, hN4];exact Zf [9] ⟨by decide, Z9, ⟨rfl, trivial⟩, ⟨rfl, rfl, trivial⟩, rfl, rfl⟩
 rintro ⟨i, k⟩ ⟨u1, u2⟩;dsimp only at u1 u2;refine Z2w Z0 hA hS [] ?_
 by_cases hk : k < 4
 ·have d1 : A.cmp .lss i (A.oi N4) = true := by rw [u2.eq, hN]; subst hA; simp [ar, Z25]; omega
  have ii : A.inb i N4 := Z4o hA u2 (by omega);obtain ⟨t', ht'⟩ := hg4 k hk;have gg : A.get TX (A.tn i) = some (tD t') := Z18 hA u2 ht';obtain ⟨n, l, e, TR, hv⟩ := rvS t';have hf1 := Zy hA u2 (by omega);have hu2 := Zz hA u2;have hms : 4 - (k + 1) < 4 - k := by omega
  have vk := fun Q h => Z1k1 hv Q h;have vr := fun Q h => Z1pg hv Q h;have vs := fun Q h => Z1p6 hv Q h;clear hg4;cbv;refine bmT d1 ?_;cbv;refine ⟨ii, Need.mk ⟨_, gg, ?_⟩⟩;cbv;refine Z4 hS [.v (.string (bs t'))] [] [] rfl rfl rfl rfl rfl rfl rfl rfl (by decide) trivial (vk _ ?_);refine Z3 Z0 hA hS ?_;cbv;refine ⟨ii, Need.mk ⟨_, gg, ?_⟩⟩;cbv;refine Z4 hS [.v (.string (bs t'))] [] [] rfl rfl rfl rfl rfl rfl rfl rfl (by decide) trivial (vr _ ?_);refine Z3 Z0 hA hS ?_;cbv;refine bmF (nne l) ?_;cbv;refine bmF (nne e) ?_;cbv;refine Zg hS (b := false) rfl rfl rfl rfl rfl rfl rfl rfl (fun _ => ⟨[], _, [.agg [I n, .sl 3 TR], .agg [I n, .sl 3 TR]], [], [], rfl, rfl, rfl, by decide, trivial, vs _ ?_⟩) (fun e => absurd rfl e);refine Z3 Z0 hA hS ?_;cbv;refine bmF bT ?_;cbv;refine ⟨hf1, ?_⟩;refine Z8 (A.add i 1, k + 1) [0] ⟨hk, hu2⟩ hms ?_;exact ⟨by decide, Z9, ⟨rfl, trivial⟩, ⟨rfl, rfl, trivial⟩, rfl, rfl⟩
 ·have d1 : A.cmp .lss i (A.oi N4) = false := by rw [u2.eq, hN]; subst hA; simp [ar, Z25]; omega
  cbv;refine bmF d1 ?_;cbv;refine Z7 ?_;cbv;refine Z4 hS [] [] [] rfl rfl rfl rfl rfl rfl rfl rfl (by decide) trivial (Bn.filing _ ?_);refine Z3 Z0 hA hS ?_;cbv;exact Z2 [] (by decide) Z9 (H' := []) (d' := .v (.bool true)) trivial rfl (Z1 hq)
end Go.Proofs.YthljpccegkmdnaaGreatDoor
