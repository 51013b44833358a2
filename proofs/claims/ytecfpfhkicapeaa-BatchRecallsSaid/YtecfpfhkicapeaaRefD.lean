/- Part RefD of the proofs about the benches of the accordion maker: see the last text of the claim for what is proved. -/
import Derived.Test.YtecfpfhkicapeaaRefC
set_option linter.unusedVariables false
set_option linter.unusedSimpArgs false
set_option linter.unnecessarySimpa false
set_option linter.constructorNameAsVariable false

namespace Go.Proofs.Ytecfpfhkicapeaa
open Go Go.Abs Go.Proofs Go.Batch
theorem Zln (is no : Bool) (v : Int) (hv : v = Zgh is no) (Q) (hq : Q (RA.ret (I v)) []) : CallA Try.prog 101 [.v (.bool is), .v (.bool no)] [] Q := by
 obtain ⟨A, hA⟩ : ∃ A, A = ar := ⟨_, rfl⟩;have hnt : A.bnot true = false := by subst hA; rfl
 have hnf : A.bnot false = true := by subst hA; rfl
 refine Z5 Z0 hA Try.func101 rfl rfl rfl rfl rfl fun S hS => ?_
 cases no with
 | false =>
  have e : v = 1 := hv;rw [e] at hq;cbv;refine bmT hnf ?_;cbv;exact Z2 [] (by decide) Z9 (H' := []) (d' := I 1) trivial rfl (Z1 hq)
 | true =>
  cases is with
  | false =>
   have e : v = 2 := hv;rw [e] at hq;cbv;refine bmF hnt ?_;cbv;refine bmT hnf ?_;cbv;exact Z2 [] (by decide) Z9 (H' := []) (d' := I 2) trivial rfl (Z1 hq)
  | true =>
   have e : v = 3 := hv;rw [e] at hq;cbv;refine bmF hnt ?_;cbv;refine bmF hnt ?_;cbv;exact Z2 [] (by decide) Z9 (H' := []) (d' := I 3) trivial rfl (Z1 hq)
theorem Zu3 : ∀ (g : Fin 16) (k : Fin 4), ar.cmp .eql (ar.bits .and .i64 (ar.shift .shr .i64 (g.val : Int) (k.val : Int)) 1) 0 = !Z2s (g.val : Int) k.val := by decide +kernel
theorem Zyo {A : Ar} (hA : A = ar) {x y : Int} {n k : Nat} (hx : IsI x n) (hy : IsI y k) (hn : n < 16) (hk : k < 4) : A.cmp .eql (A.bits .and .i64 (A.shift .shr .i64 x y) 1) 1 = Z2s (n : Int) k := by
 subst hA; rw [hx.eq, hy.eq]; exact Zoy ⟨n, hn⟩ ⟨k, hk⟩
theorem Zyp {A : Ar} (hA : A = ar) {x y : Int} {n k : Nat} (hx : IsI x n) (hy : IsI y k) (hn : n < 16) (hk : k < 4) : A.cmp .eql (A.bits .and .i64 (A.shift .shr .i64 x y) 1) 0 = !Z2s (n : Int) k := by
 subst hA; rw [hx.eq, hy.eq]; exact Zu3 ⟨n, hn⟩ ⟨k, hk⟩
structure FlgI (T : Nat -> Prop) (P : Nat -> Bool) (n : Nat) (is no : Bool) : Prop where
 is : is = true ↔ Zg9 T (fun m => P m = true) n
 no : no = true ↔ Zg9 T (fun m => P m = false) n
theorem FlgI.start (T : Nat -> Prop) (P : Nat -> Bool) : FlgI T P 0 false false := ⟨⟨fun h => Bool.noConfusion h, fun h => absurd h (Zj9 _ _)⟩, ⟨fun h => Bool.noConfusion h, fun h => absurd h (Zj9 _ _)⟩⟩
theorem FlgI.next {T : Nat -> Prop} {P : Nat -> Bool} {n : Nat} {is no : Bool} (h : FlgI T P n is no) {b : Bool} (hb : b = true ↔ T n) {is' no' : Bool} (h1 : is' = (is || (b && P n))) (h2 : no' = (no || (b && !P n))) : FlgI T P (n + 1) is' no' := by
 refine ⟨?_, ?_⟩
 ·rw [h1, Zbw, <- h.is, <- hb, Bool.or_eq_true, Bool.and_eq_true]
 ·rw [h2, Zbw, <- h.no, <- hb, Bool.or_eq_true, Bool.and_eq_true, Bool.not_eq_true']
set_option maxRecDepth 40000 in
set_option maxHeartbeats 16000000 in
theorem Zi0 (j : Jn) (hj : JOk j) (FL ML : List D) (hF : FL = j.first.map Zv) (hM : ML = j.moves.map mvD) (bl : List Int) (hbl : bl.length <= 1000000) (XL : List D) (hX : XL = bl.map I) (v : Nat -> Int) (hv : ∀ k, k < 4 -> ∀ is no : Bool, (is = true ↔ ∃ s ∈ Zd j (Zm ⟨1, 0, 0, bl⟩) 0, Z2s s.2 k = true) -> (no = true ↔ ∃ s ∈ Zd j (Zm ⟨1, 0, 0, bl⟩) 0, Z2s s.2 k = false) -> v k = Zgh is no)
  (N : Nat) (hN : IsI j.ins N) (Q) (hq : ∀ L, L = (List.range N).map (fun k => I (v k)) -> Q (RA.ret (.sl 1 L)) []) :
  CallA Try.prog 97 [.agg [I j.ins, .sl 1 FL, .sl 5 ML], .sl 1 XL] [] Q := by
 obtain ⟨A, hA⟩ : ∃ A, A = ar := ⟨_, rfl⟩;have hi4 := hj.i4;have hNe := hN.eq;have hN4 : N <= 4 := by omega
 have hfnd := fun Q h => Zg6 j hj ⟨1, 0, 0, bl⟩ hbl FL ML XL hF hM hX Q h;have hb := Zbx hj ⟨1, 0, 0, bl⟩;obtain ⟨S0, hS0⟩ : ∃ S0 : List (Ste Int), S0 = Zd j (Zm ⟨1, 0, 0, bl⟩) 0 := ⟨_, rfl⟩;rw [<- hS0] at hfnd hb;have hv' : ∀ k, k < 4 -> ∀ is no : Bool, FlgI (fun m : Nat => ∃ s ∈ S0, s.2 = (m : Int)) (fun m : Nat => Z2s (m : Int) k) 16 is no -> v k = Zgh is no := fun k hk is no h => by
  have e : ∀ s ∈ S0, ((s.2.toNat : Nat) : Int) = s.2 := fun s hs => by have := hb s hs; omega
  refine hv k hk is no ?_ ?_
  ·rw [h.is, Za6 (fun s hs => (hb s hs).2), <- hS0];exact exists_congr fun s => and_congr_right fun hs => by rw [e s hs]
  ·rw [h.no, Za6 (fun s hs => (hb s hs).2), <- hS0];exact exists_congr fun s => and_congr_right fun hs => by rw [e s hs]
 clear hv;obtain ⟨T, hT⟩ : ∃ T : Nat -> Prop, T = fun m : Nat => ∃ s ∈ S0, s.2 = (m : Int) := ⟨_, rfl⟩;rw [<- hT] at hfnd hv';clear hb hS0 hT;unfold Zcy at hfnd;dsimp only at hfnd;obtain ⟨ii, hii⟩ : ∃ ii, ii = j.ins := ⟨_, rfl⟩;rw [<- hii] at hfnd hN hi4 hNe ⊢;refine Z5 Z0 hA Try.func97 rfl rfl rfl rfl rfl fun S hS => ?_;cbv;refine Z4 hS [.agg [I ii, .sl 1 FL, .sl 5 ML], .agg [I 1, I 0, I 0, .sl 1 XL]] [] [] rfl rfl rfl rfl rfl rfl rfl rfl (by decide) trivial (hfnd _ fun OL hOL => ?_);have hOl : OL.length = 16 := hOL.len;refine Z3 Z0 hA hS ?_;cbv;refine Zb hS ?_;refine Za (α := Int × Nat × List D) (fun z => { env := [(2, .b 0 0), (5, .sl 1 OL), (6, .o 1 1 z.2.1), (7, I z.1)], H := [.box (.agg [I ii, .sl 1 FL, .sl 5 ML]), .els 1 z.2.2], nt := 62, dfs := [] })
  (fun z => N - z.2.1) (fun z => z.2.1 <= N /\ IsI z.1 z.2.1 /\ z.2.2 = (List.range z.2.1).map (fun k => I (v k))) (0, 0, []) ⟨Nat.zero_le _, ⟨rfl⟩, rfl⟩ ?_ ?_
 ·refine Z2a 6 1 rfl ?_;exact Zf [0, 1] ⟨by decide, Z9, ⟨rfl, rfl, trivial⟩, ⟨rfl, rfl, rfl, rfl, trivial⟩, rfl, rfl⟩
 rintro ⟨kI, k, R⟩ ⟨u1, u2, u3⟩;dsimp only at u1 u2 u3;have hRl : R.length = k := by rw [u3]; simp
 have hk6 : k <= 1000000 := by omega
 have hyes : A.cmp .lss kI ii = true -> k < N := fun c => by have := xlt hA c; have := u2.eq; have := hN.eq; omega
 have hno : A.cmp .lss kI ii = false -> k = N := fun c => by have := Z7x hA c; have := u2.eq; have := hN.eq; omega
 refine Zi Z0 hA hS ?_;cbv;refine bm (fun c => ?_) (fun c => ?_)
 ·have hk := hyes c;have hk4 : k < 4 := by omega
  have hf1 := Zy hA u2 (by omega);have hu2 := Zz hA u2;have hms : N - (k + 1) < N - k := by omega
  have hvk := hv' k hk4;obtain ⟨vk, hvkI⟩ : ∃ vk, vk = v k := ⟨_, rfl⟩;have hR2 : A.app R [I vk] = (List.range (k + 1)).map (fun k => I (v k)) := by rw [Z33 hA, u3, hvkI, List.range_succ, List.map_append]; rfl
  have hnn : A.nneg kI := by subst hA; have := u2.eq; show 0 <= kI; omega
  rw [<- hvkI] at hvk;obtain ⟨P, hP⟩ : ∃ P : Nat -> Bool, P = fun m : Nat => Z2s (m : Int) k := ⟨_, rfl⟩;have hp1 : ∀ x n, IsI x n -> n < 16 -> A.cmp .eql (A.bits .and .i64 (A.shift .shr .i64 x kI) 1) 1 = P n := fun x n h1 h2 => by rw [hP]; exact Zyo hA h1 u2 h2 hk4
  have hp0 : ∀ x n, IsI x n -> n < 16 -> A.cmp .eql (A.bits .and .i64 (A.shift .shr .i64 x kI) 1) 0 = !P n := fun x n h1 h2 => by rw [hP]; exact Zyp hA h1 u2 h2 hk4
  rw [<- hP] at hvk;clear hP hv' hvkI;cbv;refine Zb hS ?_;refine Za (α := Int × Nat × Bool × Bool) (fun z => { env := [(2, .b 0 0), (5, .sl 1 OL), (6, .o 1 1 k), (7, I kI), (8, .v (.bool z.2.2.1)), (9, .v (.bool z.2.2.2)), (10, I z.1)], H := [.box (.agg [I ii, .sl 1 FL, .sl 5 ML]), .els 1 R], nt := 62, dfs := [] })
   (fun z => 16 - z.2.1) (fun z => z.2.1 <= 16 /\ IsI z.1 z.2.1 /\ FlgI T P z.2.1 z.2.2.1 z.2.2.2) (0, 0, false, false) ⟨Nat.zero_le _, ⟨rfl⟩, FlgI.start T P⟩ ?_ ?_
  ·exact Zf [0, 1] ⟨by decide, Z9, ⟨rfl, rfl, trivial⟩, ⟨rfl, rfl, rfl, rfl, rfl, rfl, rfl, trivial⟩, rfl, rfl⟩
  rintro ⟨nI, n, is, no⟩ ⟨w1, w2, w3⟩;dsimp only at w1 w2 w3;have hyes2 : A.cmp .lss nI (A.oi (A.len OL)) = true -> n < 16 := fun c => Z31 hA hOl w2 c;have hno2 : A.cmp .lss nI (A.oi (A.len OL)) = false -> n = 16 := fun c => by have := Z21 hA hOl w2 c; omega
  refine Zi Z0 hA hS ?_;cbv;refine bm (fun c2 => ?_) (fun c2 => ?_)
  ·have hn : n < 16 := hyes2 c2;obtain ⟨b, hb1, hb2⟩ := hOL.is hn;have gO := Z18 hA w2 hb1;have iO := Z1b hA hOl w2 hn;have hfn := Zy hA w2 (by omega);have hw2 := Zz hA w2;have hms2 : 16 - (n + 1) < 16 - n := by omega
   have hn1 : n + 1 <= 16 := hn;have hb1' := hp1 nI n w2 hn;have hb0' := hp0 nI n w2 hn;have hnx : ∀ is' no', is' = (is || (b && P n)) -> no' = (no || (b && !P n)) -> FlgI T P (n + 1) is' no' := fun is' no' h1 h2 => w3.next hb2 h1 h2;rw [<- hb0', <- hb1'] at hnx;clear hb1' hb0' w3 hb2 hp1 hp0
   cases is with
   | true =>
    cases no with
    | true =>
     have hz := hnx true true rfl rfl;cbv;refine Z16 Z0 hA hS [0, 1, 2, 3, 4, 5, 6, 7, 8, 9, 10, 11, 12, 13, 14, 15, 16, 17, 18, 19, 20, 21, 22, 23, 24, 25, 26, 27, 28, 29] rfl rfl fun Dk hD => ?_;cbv;refine ⟨hfn, ?_⟩;refine Z8 (A.add nI 1, n + 1, true, true) [0, 1] ⟨hn1, hw2, hz⟩ hms2 ?_;exact ⟨by decide, Z9, ⟨rfl, rfl, trivial⟩, ⟨rfl, rfl, rfl, rfl, rfl, rfl, rfl, trivial⟩, rfl, rfl⟩
    | false =>
     cases b with
     | true =>
      have hz := hnx true _ rfl rfl;cbv;refine Z16 Z0 hA hS [0, 1, 2, 3, 4, 5, 6, 7, 8, 9, 10, 11, 12, 13, 14, 15, 16, 17, 18, 19, 20, 21, 22, 23, 24, 25, 26, 27, 28, 29] rfl rfl fun Dk hD => ?_;cbv;refine ⟨iO, ⟨_, gO, ?_⟩⟩;cbv;refine ⟨hnn, ⟨Need.mk ⟨_, gO, rfl⟩, trivial⟩, hfn, ?_⟩;refine Z8 (A.add nI 1, n + 1, true, A.cmp .eql (A.bits .and .i64 (A.shift .shr .i64 nI kI) 1) 0) [0, 1] ⟨hn1, hw2, hz⟩ hms2 ?_;exact ⟨by decide, Z9, ⟨rfl, rfl, trivial⟩, ⟨rfl, rfl, rfl, rfl, rfl, rfl, rfl, trivial⟩, rfl, rfl⟩
     | false =>
      have hz := hnx true false rfl rfl;cbv;refine Z16 Z0 hA hS [0, 1, 2, 3, 4, 5, 6, 7, 8, 9, 10, 11, 12, 13, 14, 15, 16, 17, 18, 19, 20, 21, 22, 23, 24, 25, 26, 27, 28, 29] rfl rfl fun Dk hD => ?_;cbv;refine ⟨iO, ⟨_, gO, ?_⟩⟩;cbv;refine ⟨⟨Need.mk ⟨_, gO, rfl⟩, trivial⟩, hfn, ?_⟩;refine Z8 (A.add nI 1, n + 1, true, false) [0, 1] ⟨hn1, hw2, hz⟩ hms2 ?_;exact ⟨by decide, Z9, ⟨rfl, rfl, trivial⟩, ⟨rfl, rfl, rfl, rfl, rfl, rfl, rfl, trivial⟩, rfl, rfl⟩
   | false =>
    cases no with
    | true =>
     cases b with
     | true =>
      have hz := hnx _ true rfl rfl;cbv;refine Z16 Z0 hA hS [0, 1, 2, 3, 4, 5, 6, 7, 8, 9, 10, 11, 12, 13, 14, 15, 16, 17, 18, 19, 20, 21, 22, 23, 24, 25, 26, 27, 28, 29] rfl rfl fun Dk hD => ?_;cbv;refine ⟨iO, ⟨_, gO, ?_⟩⟩;cbv;refine ⟨hnn, hfn, ?_⟩;refine Z8 (A.add nI 1, n + 1, A.cmp .eql (A.bits .and .i64 (A.shift .shr .i64 nI kI) 1) 1, true) [0, 1] ⟨hn1, hw2, hz⟩ hms2 ?_;exact ⟨by decide, Z9, ⟨rfl, rfl, trivial⟩, ⟨rfl, rfl, rfl, rfl, rfl, rfl, rfl, trivial⟩, rfl, rfl⟩
     | false =>
      have hz := hnx false true rfl rfl;cbv;refine Z16 Z0 hA hS [0, 1, 2, 3, 4, 5, 6, 7, 8, 9, 10, 11, 12, 13, 14, 15, 16, 17, 18, 19, 20, 21, 22, 23, 24, 25, 26, 27, 28, 29] rfl rfl fun Dk hD => ?_;cbv;refine ⟨iO, ⟨_, gO, ?_⟩⟩;cbv;refine ⟨hfn, ?_⟩;refine Z8 (A.add nI 1, n + 1, false, true) [0, 1] ⟨hn1, hw2, hz⟩ hms2 ?_;exact ⟨by decide, Z9, ⟨rfl, rfl, trivial⟩, ⟨rfl, rfl, rfl, rfl, rfl, rfl, rfl, trivial⟩, rfl, rfl⟩
    | false =>
     cases b with
     | true =>
      have hz := hnx _ _ rfl rfl;cbv;refine Z16 Z0 hA hS [0, 1, 2, 3, 4, 5, 6, 7, 8, 9, 10, 11, 12, 13, 14, 15, 16, 17, 18, 19, 20, 21, 22, 23, 24, 25, 26, 27, 28, 29] rfl rfl fun Dk hD => ?_;cbv;refine ⟨iO, ⟨_, gO, ?_⟩⟩;cbv;refine ⟨hnn, iO, ⟨_, gO, ?_⟩⟩;cbv;refine ⟨hnn, ⟨Need.mk ⟨_, gO, rfl⟩, trivial⟩, hfn, ?_⟩;refine Z8 (A.add nI 1, n + 1, A.cmp .eql (A.bits .and .i64 (A.shift .shr .i64 nI kI) 1) 1, A.cmp .eql (A.bits .and .i64 (A.shift .shr .i64 nI kI) 1) 0) [0, 1] ⟨hn1, hw2, hz⟩ hms2 ?_;exact ⟨by decide, Z9, ⟨rfl, rfl, trivial⟩, ⟨rfl, rfl, rfl, rfl, rfl, rfl, rfl, trivial⟩, rfl, rfl⟩
     | false =>
      have hz := hnx false false rfl rfl;cbv;refine Z16 Z0 hA hS [0, 1, 2, 3, 4, 5, 6, 7, 8, 9, 10, 11, 12, 13, 14, 15, 16, 17, 18, 19, 20, 21, 22, 23, 24, 25, 26, 27, 28, 29] rfl rfl fun Dk hD => ?_;cbv;refine ⟨iO, ⟨_, gO, ?_⟩⟩;cbv;refine ⟨iO, ⟨_, gO, ?_⟩⟩;cbv;refine ⟨⟨Need.mk ⟨_, gO, rfl⟩, trivial⟩, hfn, ?_⟩;refine Z8 (A.add nI 1, n + 1, false, false) [0, 1] ⟨hn1, hw2, hz⟩ hms2 ?_;exact ⟨by decide, Z9, ⟨rfl, rfl, trivial⟩, ⟨rfl, rfl, rfl, rfl, rfl, rfl, rfl, trivial⟩, rfl, rfl⟩
  ·have hn := hno2 c2;rw [hn] at w3;have hz := hvk is no w3;have hn2 : A.addN k 1 = k + 1 := Z2e hA _ _;cbv;refine Z7 ?_;cbv;refine Z4 hS [.v (.bool is), .v (.bool no)] [] [] rfl rfl rfl rfl rfl rfl rfl rfl (by decide) trivial (Zln is no vk hz _ ?_);refine Z3 Z0 hA hS ?_;cbv;refine ⟨Ze hA hRl, Ze hA rfl, Z27 hA hk6 (by decide), hf1, ?_⟩;refine Z8 (A.add kI 1, k + 1, A.app R [I vk]) [0, 3] ⟨hk, hu2, hR2⟩ hms ?_;exact ⟨by decide, Z9, ⟨rfl, rfl, trivial⟩, ⟨rfl, rfl, by rw [<- hn2]; rfl, rfl, trivial⟩, rfl, rfl⟩
 ·have hk : k = N := hno c;have hz := hq R (by rw [u3, hk]);cbv;refine Z7 ?_;cbv;refine Z1w [1] ?_;cbv;exact ⟨by cases R <;> exact hRl.symm, Z2 [] (by decide) Z9 (H' := []) (d' := .sl 1 R) trivial rfl (Z1 hz)⟩
end Go.Proofs.Ytecfpfhkicapeaa
