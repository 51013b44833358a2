/- Part WrkB of the proofs about the benches of the accordion maker: see the last text of the claim for what is proved. -/
import Derived.Test.YtegjabljeepbdaaGreatDoorWrkA
import Derived.Test.YtegjabljeepbdaaGreatDoorRunQ
import Derived.Test.YtegjabljeepbdaaGreatDoorRunT
import Derived.Test.YtegjabljeepbdaaGreatDoorRunS
import Derived.Test.YtegjabljeepbdaaGreatDoorRunH
import Derived.Test.YtegjabljeepbdaaGreatDoorRunO
set_option linter.unusedVariables false
set_option linter.unusedSimpArgs false
set_option linter.unnecessarySimpa false
set_option linter.constructorNameAsVariable false

namespace Go.Proofs.YtegjabljeepbdaaGreatDoor
open Go Go.Abs Go.Proofs Go.Batch
open Bn (Sl Sh Tk Wk Z14v Z14z runS Z151 ShopOk PlanOk PlanLe Val mo0 Fin Z175 Z15w Z1d0 Z1cy atH)
set_option maxRecDepth 20000 in
set_option maxHeartbeats 2000000 in
theorem Z1dv (s : Sh) (hs : Fin s) (pl : List Int) (hpl : pl.length <= 1000000) (TL PL : List D) (hT : TL = s.tasks.map Z14z) (hP : PL = pl.map I) (e : Int) (he : e = Z175 s pl) (hne : e ≠ 0) (Q) (hq : Q (RA.ret (.tup [.v (.slice none 0 0), I e])) []) :
  CallA Tryz.prog 75 [.agg [I s.benches, .sl 3 TL], .sl 1 PL] [] Q := by
 obtain ⟨A, hA⟩ : ∃ A, A = ar := ⟨_, rfl⟩;refine Z5 Z0 hA Tryz.func75 rfl rfl rfl rfl rfl fun S hS => ?_;cbv;refine Z4 hS [.agg [I s.benches, .sl 3 TL], .sl 1 PL] [] [] rfl rfl rfl rfl rfl rfl rfl rfl (by decide) trivial (Bn.rCheckPlanAny s hs pl hpl TL PL hT hP e he _ ?_);refine Z3 Z0 hA hS ?_;cbv;refine bm (fun c => ?_) (fun c => ?_)
 ·cbv;exact Z2 [] (by decide) Z9 (H' := []) (d' := .tup [.v (.slice none 0 0), I e]) trivial rfl (Z1 hq)
 ·exact absurd (Z4t hA c) hne
set_option maxRecDepth 40000 in
set_option maxHeartbeats 16000000 in
theorem Z1dw (j : Jn) (hf : j.first.length <= 1152921504606846976) (hm : j.moves.length <= 1152921504606846976) (ins : Int) (hins : ins = j.ins) (FL ML : List D) (hF : FL = j.first.map Zv) (hM : ML = j.moves.map mvD) (s : Sh) (hs : Fin s) (bnc : Int) (hbnc : bnc = s.benches) (pl : List Int) (hpl : pl.length <= 1000000) (TL PL : List D) (hT : TL = s.tasks.map Z14z) (hP : PL = pl.map I) (Q)
  (he : ∀ e, e ≠ 0 -> e = Z1cx j s pl -> Q (RA.ret (.tup [.agg [I 0, .v (.slice none 0 0), .v (.slice none 0 0)], I e])) [])
  (hq : Z1cx j s pl = 0 -> ∀ ML', ML' = (Z1d1 j s pl).map mvD -> Q (RA.ret (.tup [.agg [I ins, .sl 1 FL, .sl 5 ML'], I 0])) []) : CallA Tryz.prog 30 [.agg [I ins, .sl 1 FL, .sl 5 ML], .agg [I bnc, .sl 3 TL], .sl 1 PL] [] Q := by
 obtain ⟨A, hA⟩ : ∃ A, A = ar := ⟨_, rfl⟩;have n00 : A.cmp .neq 0 0 = false := by subst hA; rfl
 obtain ⟨cj, hcj⟩ : ∃ cj, cj = Zr j := ⟨_, rfl⟩;have cCk := fun Q h => rCheck j hf hm FL ML hF hM cj hcj Q h;rw [<- hins] at cCk
 by_cases hj0 : cj ≠ 0
 ·have hend := he cj hj0 (by rw [Z1cx, <- hcj, if_pos hj0]);have n1 : A.cmp .neq cj 0 = true := by subst hA; simp [ar, Z25]; exact hj0
  refine Z38 Z0 hA [] Tryz.func30 rfl rfl rfl rfl rfl fun S hS => ?_;cbv;refine Z4 hS [.agg [I ins, .sl 1 FL, .sl 5 ML]] [] [] rfl rfl rfl rfl rfl rfl rfl rfl (by decide) trivial (cCk _ ?_);refine Z3 Z0 hA hS ?_;cbv;refine bmT n1 ?_;cbv;exact Z2 [] (by decide) Z9 (H' := []) (d' := .tup [.agg [I 0, .v (.slice none 0 0), .v (.slice none 0 0)], I cj]) trivial rfl (Z1 hend)
 have hj0 : cj = 0 := Classical.byContradiction hj0;rw [hj0] at cCk hcj;have hj : JOk j := Z2r hcj.symm;obtain ⟨cs, hcs⟩ : ∃ cs, cs = Z175 s pl := ⟨_, rfl⟩
 by_cases hs0 : cs ≠ 0
 ·have hend := he cs hs0 (by rw [Z1cx, <- hcj, if_neg (by decide), <- hcs, if_pos hs0]);have n1 : A.cmp .neq cs 0 = true := by subst hA; simp [ar, Z25]; exact hs0
  have cRe := fun Q h => Z1dv s hs pl hpl TL PL hT hP cs hcs hs0 Q h;rw [<- hbnc] at cRe;refine Z38 Z0 hA [] Tryz.func30 rfl rfl rfl rfl rfl fun S hS => ?_;cbv;refine Z4 hS [.agg [I ins, .sl 1 FL, .sl 5 ML]] [] [] rfl rfl rfl rfl rfl rfl rfl rfl (by decide) trivial (cCk _ ?_);refine Z3 Z0 hA hS ?_;cbv;refine bmF n00 ?_;cbv;refine Z4 hS [.agg [I bnc, .sl 3 TL], .sl 1 PL] [] [] rfl rfl rfl rfl rfl rfl rfl rfl (by decide) trivial (cRe _ ?_);refine Z3 Z0 hA hS ?_;cbv;refine bmT n1 ?_;cbv;exact Z2 [] (by decide) Z9 (H' := []) (d' := .tup [.agg [I 0, .v (.slice none 0 0), .v (.slice none 0 0)], I cs]) trivial rfl (Z1 hend)
 have hs0 : cs = 0 := Classical.byContradiction hs0;rw [hs0] at hcs;obtain ⟨hsh, p, hp, hpe⟩ := Bn.planX_of hs hcs.symm;have hPL : PL = Z15w p := by rw [hP, hpe, List.map_map]; rfl
 have hv2 := Bn.chkS_val hsh.chk;have hpl8 : p.length <= 8 := by rw [hp.len]; exact hv2.sum
 obtain ⟨R, hR⟩ : ∃ R, R = runS s mo0 p := ⟨_, rfl⟩;have hRp : runP s pl = R := by rw [Z1dr hpe, hR]
 have hRl : R.length = p.length := by rw [hR]; exact Bn.run_len s p
 have hbnd := Bn.run_bnd hv2 hp.le (by omega);rw [<- hR] at hbnd;have hple : pl.length = p.length := by rw [hpe, List.length_map]
 have hWE : Z1cx j s pl = if ¬ (∀ x ∈ R, inB j x) then 3 else if 10 < j.moves.length + p.length then 6 else 0 := by
  rw [Z1cx, <- hcj, if_neg (by decide), <- hcs, if_neg (by decide), hRp, hple]
 have hWM : Z1d1 j s pl = j.moves ++ (Z151 R).map outM := by rw [Z1d1, hRp]
 have hf2 := hj.f2;have hm10 := hj.m10;have hFl : FL.length = j.first.length := by rw [hF, List.length_map]
 obtain ⟨nm0, hnm0⟩ : ∃ nm0, nm0 = j.moves.length := ⟨_, rfl⟩;have hMl : ML.length = nm0 := by rw [hM, List.length_map, hnm0]
 have cRn := fun Q h => Bn.rRunPlan s hsh p hp pl hpe hcs.symm TL PL hT hPL Q h;rw [<- hbnc] at cRn;rw [show (fun _ => (0 : Int)) = mo0 from rfl, <- hR] at cRn;have h3 : (¬ ∀ x ∈ R, inB j x) -> Q (RA.ret (.tup [.agg [I 0, .v (.slice none 0 0), .v (.slice none 0 0)], I 3])) [] := fun h => he 3 (by decide) (by rw [hWE, if_pos h]);have h6 : (∀ x ∈ R, inB j x) -> 10 < nm0 + p.length -> Q (RA.ret (.tup [.agg [I 0, .v (.slice none 0 0), .v (.slice none 0 0)], I 6])) [] := fun h h10 => he 6 (by decide) (by rw [hWE, if_neg (fun g => g h), if_pos (by omega)]);have hqq : (∀ x ∈ R, inB j x) -> nm0 + p.length <= 10 -> ∀ ML', ML' = (j.moves ++ (Z151 R).map outM).map mvD -> Q (RA.ret (.tup [.agg [I ins, .sl 1 FL, .sl 5 ML'], I 0])) [] := fun h h10 ML' hML' => hq (by rw [hWE, if_neg (fun g => g h), if_neg (by omega)]) ML' (by rw [hWM]; exact hML');clear he hq hWE hWM;refine Z38 Z0 hA [] Tryz.func30 rfl rfl rfl rfl rfl fun S hS => ?_;cbv;refine Z4 hS [.agg [I ins, .sl 1 FL, .sl 5 ML]] [] [] rfl rfl rfl rfl rfl rfl rfl rfl (by decide) trivial (cCk _ ?_);refine Z3 Z0 hA hS ?_;cbv;refine bmF n00 ?_;cbv;refine Z4 hS [.agg [I bnc, .sl 3 TL], .sl 1 PL] [] [] rfl rfl rfl rfl rfl rfl rfl rfl (by decide) trivial (cRn _ fun RL hRL => ?_);have hRLl : RL.length = p.length := by rw [hRL, List.length_map, hRl]
 refine Z3 Z0 hA hS ?_;cbv;refine bmF n00 ?_;cbv;have hmlI : A.oi (A.len ML) = (nm0 : Int) := yoiL hA hMl;have hflI : A.oi (A.len FL) = (j.first.length : Int) := yoiL hA hFl;refine Zb hS ?_;refine Za (α := Int × Nat) (fun q => { env := [(3, .b 0 0), (6, .b 1 0), (7, I 0), (9, .sl 7 RL), (11, I q.1)], H := [.box (.agg [I ins, .sl 1 FL, .sl 5 ML]), .box (.agg [I 0, .v (.slice none 0 0), .v (.slice none 0 0)])], nt := 115, dfs := [] })
  (fun q => p.length - q.2) (fun q => q.2 <= p.length /\ IsI q.1 q.2 /\ ∀ (i : Nat) (x : Sl), i < q.2 -> R[i]? = some x -> inB j x) (0, 0) ⟨Nat.zero_le _, ⟨rfl⟩, fun i x h => absurd h (Nat.not_lt_zero _)⟩ ?_ ?_
 ·exact Zf [0, 2] ⟨by decide, Z9, ⟨rfl, rfl, trivial⟩, ⟨rfl, rfl, rfl, rfl, rfl, trivial⟩, rfl, rfl⟩
 rintro ⟨i, k⟩ ⟨u1, u2, u3⟩;dsimp only at u1 u2 u3
 by_cases hk : k < p.length
 ·have dlt : A.cmp .lss i (A.oi (A.len RL)) = true := by rw [yoiL hA hRLl, u2.eq]; subst hA; simp [ar, Z25]; omega
  obtain ⟨x, hx⟩ : ∃ x, R[k]? = some x := ⟨_, List.getElem?_eq_getElem (by omega)⟩;have hxm := List.mem_of_getElem? hx;obtain ⟨⟨g1, g2⟩, ⟨g3, g4⟩, -⟩ := hbnd x hxm;have iR := Z1b hA hRLl u2 hk;have gR0 : RL[k]? = some (Z14v x) := by rw [hRL, List.getElem?_map, hx]; rfl
  have hf1 := Zy hA u2 (by omega);have hu2 := Zz hA u2;have hms : p.length - (k + 1) < p.length - k := by omega
  have hno : ¬ inB j x -> Q (RA.ret (.tup [.agg [I 0, .v (.slice none 0 0), .v (.slice none 0 0)], I 3])) [] := fun h => h3 fun g => h (g x hxm);have hyes : inB j x -> ∀ (i : Nat) (y : Sl), i < k + 1 -> R[i]? = some y -> inB j y := fun h i y hi hy => by
   by_cases e : i = k
   ·subst e; rw [hx] at hy; cases hy; exact h
   ·exact u3 i y (by omega) hy
  by_cases hb : x.b < (j.first.length : Int)
  ·have c1 : A.cmp .geq x.b (A.oi (A.len FL)) = false := by rw [hflI]; subst hA; simp [ar, Z25]; exact hb
   by_cases ht : x.t < ins
   ·have c2 : A.cmp .geq x.t ins = false := by subst hA; simp [ar, Z25]; exact ht
    have hys := hyes ⟨⟨g1, by omega⟩, g3, by omega⟩;clear hyes;obtain ⟨xt, xk, xb, xbl, xbh, xel, xeh⟩ := x;have gR := Z18 hA u2 (show RL[k]? = some (.agg [I xt, I xk, I xb, I xbl, I xbh, I xel, I xeh]) from gR0);dsimp only at c1 c2;clear gR0 hno g1 g2 g3 g4 hb ht;refine Z2w Z0 hA hS [] ?_;cbv;refine bmT dlt ?_;cbv;refine Z16 Z0 hA hS [0, 1, 2, 3, 4, 5, 6, 7, 8, 9, 10, 11, 12, 13, 14, 15, 16, 17, 18] rfl rfl fun Dk hD => ?_;cbv;refine ⟨iR, ⟨_, gR, ?_⟩⟩;cbv;refine bmF c1 ?_;cbv;refine ⟨iR, ⟨_, gR, ?_⟩⟩;cbv;refine bmF c2 ?_;cbv;refine ⟨hf1, ?_⟩;refine Z8 (A.add i 1, k + 1) [0, 1] ⟨hk, hu2, hys⟩ hms ?_;exact ⟨by decide, Z9, ⟨rfl, rfl, trivial⟩, ⟨rfl, rfl, rfl, rfl, rfl, trivial⟩, rfl, rfl⟩
   ·have c2 : A.cmp .geq x.t ins = true := by subst hA; simp [ar, Z25]; omega
    have hend := hno fun g => ht (by have := g.2.2; omega);obtain ⟨xt, xk, xb, xbl, xbh, xel, xeh⟩ := x;have gR := Z18 hA u2 (show RL[k]? = some (.agg [I xt, I xk, I xb, I xbl, I xbh, I xel, I xeh]) from gR0);dsimp only at c1 c2;clear gR0 hno g1 g2 g3 g4 hb ht hyes;refine Z2w Z0 hA hS [] ?_;cbv;refine bmT dlt ?_;cbv;refine Z16 Z0 hA hS [0, 1, 2, 3, 4, 5, 6, 7, 8, 9, 10, 11, 12, 13, 14, 15, 16, 17, 18] rfl rfl fun Dk hD => ?_;cbv;refine ⟨iR, ⟨_, gR, ?_⟩⟩;cbv;refine bmF c1 ?_;cbv;refine ⟨iR, ⟨_, gR, ?_⟩⟩;cbv;refine bmT c2 ?_;cbv;refine Z7 ?_;cbv;exact Z2 [] (by decide) Z9 (H' := []) (d' := .tup [.agg [I 0, .v (.slice none 0 0), .v (.slice none 0 0)], I 3]) trivial rfl (Z1 hend)
  ·have c1 : A.cmp .geq x.b (A.oi (A.len FL)) = true := by rw [hflI]; subst hA; simp [ar, Z25]; omega
   have hend := hno fun g => hb (by have := g.1.2; omega);obtain ⟨xt, xk, xb, xbl, xbh, xel, xeh⟩ := x;have gR := Z18 hA u2 (show RL[k]? = some (.agg [I xt, I xk, I xb, I xbl, I xbh, I xel, I xeh]) from gR0);dsimp only at c1;clear gR0 hno g1 g2 g3 g4 hb hyes;refine Z2w Z0 hA hS [] ?_;cbv;refine bmT dlt ?_;cbv;refine Z16 Z0 hA hS [0, 1, 2, 3, 4, 5, 6, 7, 8, 9, 10, 11, 12, 13, 14, 15, 16, 17, 18] rfl rfl fun Dk hD => ?_;cbv;refine ⟨iR, ⟨_, gR, ?_⟩⟩;cbv;refine bmT c1 ?_;cbv;refine Z7 ?_;cbv;exact Z2 [] (by decide) Z9 (H' := []) (d' := .tup [.agg [I 0, .v (.slice none 0 0), .v (.slice none 0 0)], I 3]) trivial rfl (Z1 hend)
 have hkp : k = p.length := by omega
 have dlt : A.cmp .lss i (A.oi (A.len RL)) = false := by rw [yoiL hA hRLl, u2.eq]; subst hA; simp [ar, Z25]; omega
 have hall : ∀ x ∈ R, inB j x := fun x hx => by
  obtain ⟨i, hi⟩ := List.mem_iff_getElem?.1 hx;exact u3 i x (by have := (List.getElem?_eq_some_iff.1 hi).1; omega) hi
 have hmf : A.fits .i64 (A.add (A.oi (A.len ML)) (A.oi (A.len RL))) := Z14 hA (by rw [hmlI, yoiL hA hRLl, Z58 hA]) (by omega)
 by_cases h10 : 10 < nm0 + p.length
 ·have hend := h6 hall h10;have hm10' : A.cmp .gtr (A.add (A.oi (A.len ML)) (A.oi (A.len RL))) 10 = true := by rw [hmlI, yoiL hA hRLl, Z58 hA]; subst hA; simp [ar, Z25]; omega
  clear h3 h6 hqq hall u3;refine Z2w Z0 hA hS [] ?_;cbv;refine bmF dlt ?_;cbv;refine Z7 ?_;cbv;refine ⟨hmf, ?_⟩;refine bmT hm10' ?_;cbv;exact Z2 [] (by decide) Z9 (H' := []) (d' := .tup [.agg [I 0, .v (.slice none 0 0), .v (.slice none 0 0)], I 6]) trivial rfl (Z1 hend)
 have hm10' : A.cmp .gtr (A.add (A.oi (A.len ML)) (A.oi (A.len RL))) 10 = false := by rw [hmlI, yoiL hA hRLl, Z58 hA]; subst hA; simp [ar, Z25]; omega
 have hqf := hqq hall (by omega);have hN10 : Bn.NLeB (nm0 + p.length) 10 := ⟨by omega⟩;have hbh0 : ∀ x ∈ R, 0 <= x.bh := fun x hx => (hbnd x hx).2.2.1;have hbh1 : ∀ x ∈ R, x.bh <= 1000 := fun x hx => (hbnd x hx).2.2.2;have hR8 : Bn.NLeB R.length 8 := ⟨by omega⟩;clear h3 h6 hqq hall u3 h10;have e1 : A.addN 0 (A.len ML) = nm0 := by rw [Z2e hA, Z9m hA hMl, Nat.zero_add]
 have a1 : A.app [] ML = ML := by rw [Z33 hA, List.nil_append]
 have r1 : A.room (A.addN 0 (A.len ML)) 40 := by rw [e1]; exact Zj1 hA (by omega) (by decide)
 have hMX0 : ML = (j.moves ++ (Z1cy R 0).map outM).map mvD := by rw [show Z1cy R 0 = [] from rfl, List.map_nil, List.append_nil]; exact hM
 have hRL0 : RL = (Z1d0 R 0).map Z14v := by rw [Bn.leftH_zero hbh0]; exact hRL
 refine Z2w Z0 hA hS [] ?_;cbv;refine bmF dlt ?_;cbv;refine Z7 ?_;cbv;refine ⟨hmf, ?_⟩;refine bmF hm10' ?_;cbv;refine ⟨Ze hA rfl, r1, ?_⟩;refine Zb hS ?_;refine Za (α := Int × Nat × List D × List D × Nat) (fun q => { env := [(3, .b 0 0), (6, .b 1 0), (7, I 0), (9, .sl 7 q.2.2.1), (12, I q.1)], H := [.box (.agg [I ins, .sl 1 FL, .o 2 5 q.2.2.2.2]), .box (.agg [I 0, .v (.slice none 0 0), .v (.slice none 0 0)]), .els 5 q.2.2.2.1], nt := 115, dfs := [] })
  (fun q => 1001 - q.2.1) (fun q => IsI q.1 q.2.1 /\ q.2.1 <= 1001 /\ q.2.2.1 = (Z1d0 R q.2.1).map Z14v /\ q.2.2.2.1 = (j.moves ++ (Z1cy R q.2.1).map outM).map mvD /\ q.2.2.2.1.length = q.2.2.2.2) (0, 0, RL, ML, nm0) ⟨⟨rfl⟩, Nat.zero_le _, hRL0, hMX0, hMl⟩ ?_ ?_
 ·refine Zog 0 rfl (congrArg (fun n => Blk.box (.agg [I ins, .sl 1 FL, .o 3 5 n])) e1) ?_;refine Z39 3 rfl a1 ?_;exact Zf [0, 1, 3] ⟨by decide, Z9, ⟨rfl, rfl, rfl, trivial⟩, ⟨rfl, rfl, rfl, rfl, rfl, trivial⟩, rfl, rfl⟩
 clear u2 hmf hm10' r1 a1 e1 dlt;rintro ⟨h, n, RX, MX, m⟩ ⟨w1, w2, w3, w4, w5⟩;dsimp only at w1 w2 w3 w4 w5;have hlen := Bn.emitH_len hbh0 n;have hRXl : RX.length = (Z1d0 R n).length := by rw [w3, List.length_map]
 have hMXl : m = nm0 + (Z1cy R n).length := by rw [<- w5, w4, List.length_map, List.length_append, List.length_map, hnm0]
 have h10 := hN10.le;have h8 := hR8.le;have eM : A.eqN m (A.len MX) := Ze hA w5
 by_cases hl : Z1d0 R n = []
 ·have hend := hqf MX (by rw [w4, Bn.emitH_all hbh0 hl]);have dg : A.cmp .gtr (A.oi (A.len RX)) 0 = false := by rw [yoiL hA hRXl, hl]; subst hA; rfl
  clear w3 w4;refine Z2w Z0 hA hS [] ?_;cbv;refine bmF dg ?_;cbv;refine Z1a hA [2] ?_;cbv
  repeat (refine ⟨eM, ?_⟩)
  refine Z7 ?_;cbv;exact Z2 [] (by decide) Z9 (H' := []) (d' := .tup [.agg [I ins, .sl 1 FL, .sl 5 MX], I 0]) trivial rfl (Z1 hend)
 obtain ⟨x0, hx0⟩ : ∃ x0, x0 ∈ Z1d0 R n := List.exists_mem_of_ne_nil _ hl;have hn1000 : n <= 1000 := by
  obtain ⟨g1, g2⟩ := List.mem_filter.1 hx0;have g2 := of_decide_eq_true g2;have := hbh1 x0 g1;omega
 obtain ⟨LL, hLL⟩ : ∃ LL, LL = Z1d0 R n := ⟨_, rfl⟩;have hLn := Bn.leftH_next R n;have hLa := Bn.atH_left R n;rw [<- hLL] at w3 hRXl hlen hLn hLa;have hLpos : 0 < LL.length := by rw [hLL]; exact List.length_pos_of_mem hx0
 have dg : A.cmp .gtr (A.oi (A.len RX)) 0 = true := by rw [yoiL hA hRXl]; subst hA; simp [ar, Z25]; omega
 have fh := Zy hA w1 (by omega);have hw1 := Zz hA w1;have hmsH : 1001 - (n + 1) < 1001 - n := by omega
 have hn1 : n + 1 <= 1001 := by omega
 have hMi : MX = (j.moves ++ (Z1cy R n ++ (LL.take 0).filter fun x => decide (x.bh = (n : Int))).map outM).map mvD := by rw [List.take_zero, List.filter_nil, List.append_nil]; exact w4
 refine Z2w Z0 hA hS [] ?_;cbv;refine bmT dg ?_;cbv;refine Zb hS ?_;refine Za (α := Int × Nat × List D × Nat × List D × Nat) (fun q => { env := [(3, .b 0 0), (6, .b 1 0), (7, I 0), (9, .sl 7 RX), (12, I h), (13, .o 3 7 q.2.2.2.2.2), (14, I q.1)], H := [.box (.agg [I ins, .sl 1 FL, .o 2 5 q.2.2.2.1]), .box (.agg [I 0, .v (.slice none 0 0), .v (.slice none 0 0)]), .els 5 q.2.2.1, .els 7 q.2.2.2.2.1], nt := 115, dfs := [] })
  (fun q => LL.length - q.2.1) (fun q => q.2.1 <= LL.length /\ IsI q.1 q.2.1 /\ q.2.2.1 = (j.moves ++ (Z1cy R n ++ (LL.take q.2.1).filter fun x => decide (x.bh = (n : Int))).map outM).map mvD /\ q.2.2.1.length = q.2.2.2.1 /\ q.2.2.2.2.1 = ((LL.take q.2.1).filter fun x => decide ¬ x.bh = (n : Int)).map Z14v /\ q.2.2.2.2.1.length = q.2.2.2.2.2) (0, 0, MX, m, [], 0) ⟨Nat.zero_le _, ⟨rfl⟩, hMi, w5, rfl, rfl⟩ ?_ ?_
 ·refine Z2a 13 7 rfl ?_;exact Zf [0, 1, 2, 3] ⟨by decide, Z9, ⟨rfl, rfl, rfl, rfl, trivial⟩, ⟨rfl, rfl, rfl, rfl, rfl, rfl, rfl, trivial⟩, rfl, rfl⟩
 clear hMi w4 w5 dg eM hMXl hx0;rintro ⟨i3, k, MY, m', LX, nl⟩ ⟨v1, v2, v3, v4, v5, v6⟩;dsimp only at v1 v2 v3 v4 v5 v6;have hfl1 : ((LL.take k).filter fun x => decide (x.bh = (n : Int))).length <= LL.length := Nat.le_trans (List.length_filter_le _ _) (by rw [List.length_take]; omega);have hfl2 : ((LL.take k).filter fun x => decide ¬ x.bh = (n : Int)).length <= LL.length := Nat.le_trans (List.length_filter_le _ _) (by rw [List.length_take]; omega);have hm' : m' <= 100 := by
  rw [<- v4, v3, List.length_map, List.length_append, List.length_map, List.length_append]; omega
 have hnl : nl <= 100 := by rw [<- v6, v5, List.length_map]; omega
 have eY : A.eqN m' (A.len MY) := Ze hA v4;have eX : A.eqN nl (A.len LX) := Ze hA v6
 by_cases hk : k < LL.length
 ·have dlt : A.cmp .lss i3 (A.oi (A.len RX)) = true := by rw [yoiL hA hRXl, v2.eq]; subst hA; simp [ar, Z25]; omega
  obtain ⟨x, hx⟩ : ∃ x, LL[k]? = some x := ⟨_, List.getElem?_eq_getElem hk⟩;have htk : LL.take (k + 1) = LL.take k ++ [x] := by rw [List.take_add_one, hx]; rfl
  have iX := Z1b hA hRXl v2 hk;have gX0 : RX[k]? = some (Z14v x) := by rw [w3, List.getElem?_map, hx]; rfl
  have f3 := Zy hA v2 (by omega);have hv2 := Zz hA v2;have hms3 : LL.length - (k + 1) < LL.length - k := by omega
  by_cases hb : x.bh = (n : Int)
  ·have ce : A.cmp .eql x.bh h = true := by rw [hb, w1.eq]; subst hA; simp [ar, Z25]
   have hM2 : A.app MY [.agg [I 2, I x.b, I x.t, I 1, I 1]] = (j.moves ++ (Z1cy R n ++ (LL.take (k + 1)).filter fun x => decide (x.bh = (n : Int))).map outM).map mvD := by
    rw [Z33 hA, v3, htk, List.filter_append, List.filter_cons_of_pos (by simp [hb]), List.filter_nil];simp [outM, mvD]
   have hM2l : (A.app MY [.agg [I 2, I x.b, I x.t, I 1, I 1]]).length = A.addN m' 1 := by rw [Z2e hA, Z33 hA, List.length_append, v4]; rfl
   have hX2 : LX = ((LL.take (k + 1)).filter fun x => decide ¬ x.bh = (n : Int)).map Z14v := by
    rw [htk, List.filter_append, List.filter_cons_of_neg (by simp [hb]), List.filter_nil, List.append_nil]; exact v5
   have hr5 : A.room (A.addN m' 1) 40 := Z27 hA (by omega) (by decide);obtain ⟨xt, xk, xb, xbl, xbh, xel, xeh⟩ := x;have gX := Z18 hA v2 (show RX[k]? = some (.agg [I xt, I xk, I xb, I xbl, I xbh, I xel, I xeh]) from gX0);dsimp only at ce hM2 hM2l;clear gX0 hfl1 hfl2 htk hb;refine Z2w Z0 hA hS [] ?_;cbv;refine bmT dlt ?_;cbv;refine ⟨iX, ⟨_, gX, ?_⟩⟩;cbv;refine bmT ce ?_;cbv;refine Z16 Z0 hA hS [0, 1, 2, 3, 4, 5, 6, 7, 8, 9, 10, 11, 12, 13, 14, 15, 16, 17] rfl rfl fun Dk hD => ?_;cbv;refine ⟨iX, ⟨_, gX, ?_⟩⟩;cbv;refine ⟨iX, ⟨_, gX, ?_⟩⟩;cbv;refine ⟨eY, Ze hA rfl, hr5, ⟨Need.mk ⟨_, gX, rfl⟩, Need.mk ⟨_, gX, rfl⟩, trivial⟩, f3, ?_⟩;refine Z8 (A.add i3 1, k + 1, A.app MY [.agg [I 2, I xb, I xt, I 1, I 1]], A.addN m' 1, LX, nl) [0, 1, 5, 3] ⟨hk, hv2, hM2, hM2l, hX2, v6⟩ hms3 ?_;exact ⟨by decide, Z9, ⟨rfl, rfl, rfl, rfl, trivial⟩, ⟨rfl, rfl, rfl, rfl, rfl, rfl, rfl, trivial⟩, rfl, rfl⟩
  ·have ce : A.cmp .eql x.bh h = false := by rw [w1.eq]; subst hA; simp [ar, Z25]; exact hb
   have hM2 : MY = (j.moves ++ (Z1cy R n ++ (LL.take (k + 1)).filter fun x => decide (x.bh = (n : Int))).map outM).map mvD := by
    rw [htk, List.filter_append, List.filter_cons_of_neg (by simp [hb]), List.filter_nil, List.append_nil]; exact v3
   have hX2 : A.app LX [Z14v x] = ((LL.take (k + 1)).filter fun x => decide ¬ x.bh = (n : Int)).map Z14v := by
    rw [Z33 hA, v5, htk, List.filter_append, List.filter_cons_of_pos (by simp [hb]), List.filter_nil, List.map_append]; rfl
   have hX2l : (A.app LX [Z14v x]).length = A.addN nl 1 := by rw [Z2e hA, Z33 hA, List.length_append, v6]; rfl
   have hr7 : A.room (A.addN nl 1) 56 := Z27 hA (by omega) (by decide);obtain ⟨xt, xk, xb, xbl, xbh, xel, xeh⟩ := x;have gX := Z18 hA v2 (show RX[k]? = some (.agg [I xt, I xk, I xb, I xbl, I xbh, I xel, I xeh]) from gX0);have hX2 : A.app LX [.agg [I xt, I xk, I xb, I xbl, I xbh, I xel, I xeh]] = ((LL.take (k + 1)).filter fun x => decide ¬ x.bh = (n : Int)).map Z14v := hX2;have hX2l : (A.app LX [.agg [I xt, I xk, I xb, I xbl, I xbh, I xel, I xeh]]).length = A.addN nl 1 := hX2l;dsimp only at ce;clear gX0 hfl1 hfl2 htk hb;refine Z2w Z0 hA hS [] ?_;cbv;refine bmT dlt ?_;cbv;refine ⟨iX, ⟨_, gX, ?_⟩⟩;cbv;refine bmF ce ?_;cbv;refine ⟨iX, ⟨_, gX, ?_⟩⟩;cbv;refine ⟨eX, Ze hA rfl, hr7, f3, ?_⟩;refine Z8 (A.add i3 1, k + 1, MY, m', A.app LX [.agg [I xt, I xk, I xb, I xbl, I xbh, I xel, I xeh]], A.addN nl 1) [0, 1, 2, 5] ⟨hk, hv2, hM2, v4, hX2, hX2l⟩ hms3 ?_;exact ⟨by decide, Z9, ⟨rfl, rfl, rfl, rfl, trivial⟩, ⟨rfl, rfl, rfl, rfl, rfl, rfl, rfl, trivial⟩, rfl, rfl⟩
 have dlt : A.cmp .lss i3 (A.oi (A.len RX)) = false := by rw [yoiL hA hRXl, v2.eq]; subst hA; simp [ar, Z25]; omega
 have htk : LL.take k = LL := List.take_of_length_le (by omega);rw [htk, hLn] at v5;rw [htk, hLa, <- Bn.emitH_succ] at v3;clear hfl1 hfl2 htk w3;refine Z2w Z0 hA hS [] ?_;cbv;refine bmF dlt ?_;cbv;refine Z1a hA [3] ?_;cbv
 repeat (refine ⟨eX, ?_⟩)
 refine Z7 ?_;cbv;refine ⟨fh, ?_⟩;refine Z8 (A.add h 1, n + 1, LX, MY, m') [0, 1, 2] ⟨hw1, hn1, v5, v3, v4⟩ hmsH ?_;exact ⟨by decide, Z9, ⟨rfl, rfl, rfl, trivial⟩, ⟨rfl, rfl, rfl, rfl, rfl, trivial⟩, rfl, rfl⟩
end Go.Proofs.YtegjabljeepbdaaGreatDoor

namespace Go.Proofs.YtegjabljeepbdaaGreatDoor
open Go Go.Abs Go.Proofs Go.Batch
set_option maxRecDepth 20000 in
set_option maxHeartbeats 4000000 in
theorem Zj8 (ins : Int) (FL ML : List D) (n m : Nat) (hF : FL.length = n) (hM : ML.length = m) (hn : n <= 1000) (hm : m <= 1000) (Q) (hq : Q (RA.ret (.agg [I ins, .sl 1 FL, .sl 5 ML])) []) :
  CallA Tryz.prog 14 [.agg [I ins, .sl 1 FL, .sl 5 ML]] [] Q := by
 obtain ⟨A, hA⟩ : ∃ A, A = ar := ⟨_, rfl⟩;have e1 : A.addN 0 (A.len FL) = n := by rw [Z2e hA, Z9m hA hF, Nat.zero_add]
 have e2 : A.addN 0 (A.len ML) = m := by rw [Z2e hA, Z9m hA hM, Nat.zero_add]
 have a1 : A.app [] FL = FL := by rw [Z33 hA, List.nil_append]
 have a2 : A.app [] ML = ML := by rw [Z33 hA, List.nil_append]
 have r1 : A.room (A.addN 0 (A.len FL)) 1 := by
  rw [e1]; subst hA; exact ⟨by show n * 1 <= 140737488355328; omega, by show n <= 4611686018427387904; omega⟩
 have r2 : A.room (A.addN 0 (A.len ML)) 40 := by
  rw [e2]; subst hA; exact ⟨by show m * 40 <= 140737488355328; omega, by show m <= 4611686018427387904; omega⟩
 have wk : WkD (.agg [I ins, .o 4 1 (A.addN 0 (A.len FL)), .o 5 5 (A.addN 0 (A.len ML))]) (.agg [I ins, .o 4 1 n, .o 5 5 m]) := WkD.eq (by rw [e1, e2]);refine Z5 Z0 hA Tryz.func14 rfl rfl rfl rfl rfl fun S hS => ?_;cbv;refine Z5j Z0 hA hS [7] [0, 1, 2, 4, 5, 6, 3, 8, 7, 9, 10, 11] rfl rfl fun Dk hD => ?_;cbv;refine ⟨Ze hA rfl, r1, ?_⟩;refine Z9o Z0 hA hD rfl rfl rfl rfl rfl rfl rfl rfl rfl rfl rfl ?_ ?_
 ·cbv;refine ⟨Ze hA rfl, r2, ?_⟩;rw [hD];refine Zx Z0 hA hD ?_;cbv;refine Z37 wk ?_;exact Z2 [4, 5] (by decide) Z9 (H' := [.els 1 FL, .els 5 ML]) (d' := .agg [I ins, .o 0 1 n, .o 1 5 m]) ⟨congrArg (fun l => some (Blk.els 1 l)) a1, congrArg (fun l => some (Blk.els 5 l)) a2, trivial⟩ rfl (by
   refine Z1w [0, 1] ?_
   cbv
   exact ⟨by cases FL <;> exact hF.symm, by cases ML <;> exact hM.symm, Z2 [] (by decide) Z9 (H' := []) (d' := .agg [I ins, .sl 1 FL, .sl 5 ML]) trivial rfl (Z1 hq)⟩)
 ·cbv;rw [hD];refine Zx Z0 hA hD ?_;cbv;refine ⟨Ze hA rfl, r2, ?_⟩;refine Z37 wk ?_;exact Z2 [4, 5] (by decide) Z9 (H' := [.els 1 FL, .els 5 ML]) (d' := .agg [I ins, .o 0 1 n, .o 1 5 m]) ⟨congrArg (fun l => some (Blk.els 1 l)) a1, congrArg (fun l => some (Blk.els 5 l)) a2, trivial⟩ rfl (by
   refine Z1w [0, 1] ?_
   cbv
   exact ⟨by cases FL <;> exact hF.symm, by cases ML <;> exact hM.symm, Z2 [] (by decide) Z9 (H' := []) (d' := .agg [I ins, .sl 1 FL, .sl 5 ML]) trivial rfl (Z1 hq)⟩)
theorem Zyl {A : Ar} (hA : A = ar) (x : Int) : A.cmp .neq x x = false := by subst hA; simp [ar, Z25]
section
structure JLim (j : Jn) (FL ML : List D) : Prop where
 F : FL = j.first.map Zv
 M : ML = j.moves.map mvD
 f : j.first.length <= 100
 m : j.moves.length <= 100
variable {j : Jn} {FL ML : List D}
theorem JLim.fl (h : JLim j FL ML) : j.first.length <= 1152921504606846976 := by have := h.f; omega
theorem JLim.ml (h : JLim j FL ML) : j.moves.length <= 1152921504606846976 := by have := h.m; omega
theorem JLim.copy (h : JLim j FL ML) (ins : Int) (Q) (hq : Q (RA.ret (.agg [I ins, .sl 1 FL, .sl 5 ML])) []) : CallA Tryz.prog 14 [.agg [I ins, .sl 1 FL, .sl 5 ML]] [] Q :=
 Zj8 ins FL ML j.first.length j.moves.length (by rw [h.F, List.length_map]) (by rw [h.M, List.length_map]) (by have := h.f; omega) (by have := h.m; omega) Q hq
theorem JLim.same (h : JLim j FL ML) (Q) (hq : Q (RA.ret (.v (.bool true))) []) : CallA Tryz.prog 31 [.agg [I j.ins, .sl 1 FL, .sl 5 ML], .agg [I j.ins, .sl 1 FL, .sl 5 ML]] [] Q :=
 Zgg j FL ML h.F h.M (by have := h.f; omega) (by have := h.m; omega) Q hq
end
end Go.Proofs.YtegjabljeepbdaaGreatDoor

namespace Go.Proofs.YtegjabljeepbdaaGreatDoor.Bn
open Go Go.Abs Go.Proofs
def Z1d3 (s : Sh) : Prop := s.tasks.length <= 20 /\ ∀ t ∈ s.tasks, t.works.length <= 20
end Go.Proofs.YtegjabljeepbdaaGreatDoor.Bn

namespace Go.Proofs.YtegjabljeepbdaaGreatDoor.Bn
open Go Go.Abs Go.Proofs
theorem set_same {l : List D} {k : Nat} {d d' : D} (h : l[k]? = some d') : l = (l.set k d).set k d' := by
 rw [List.set_set];refine List.ext_getElem? fun j => ?_;rw [List.getElem?_set]
 split
 ·rename_i e; subst e
  split
  ·exact h
  ·rename_i hl; rw [List.getElem?_eq_none (by omega)] at h; cases h
 ·rfl
set_option maxRecDepth 20000 in
set_option maxHeartbeats 4000000 in
theorem kCopyShop (s : Sh) (hs : Z1d3 s) (TL : List D) (hT : TL = s.tasks.map Z14z) (Q) (hq : Q (RA.ret (.agg [I s.benches, .sl 3 TL])) []) : CallA Tryz.prog 28 [.agg [I s.benches, .sl 3 TL]] [] Q := by
 obtain ⟨A, hA⟩ : ∃ A, A = ar := ⟨_, rfl⟩;obtain ⟨N, hN⟩ : ∃ N, N = s.tasks.length := ⟨_, rfl⟩;have hTl : TL.length = N := by rw [hT, hN]; simp
 have hNb : N <= 20 := by rw [hN]; exact hs.1
 have hN2 : A.addN 0 (A.len TL) = N := by rw [Z2e hA, Z9m hA hTl]; simp
 have hr1 : A.room (A.addN 0 (A.len TL)) 40 := by rw [hN2]; exact Zj1 hA (by omega) (by decide)
 have hTe : A.app [] TL = TL := by rw [Z33 hA]; rfl
 have hfr : FrL TL := by rw [hT]; exact .map (fun t => rfl) _
 have hlm : A.addN 0 (A.len TL) = TL.length := by rw [hN2, hTl]
 refine Z5 Z0 hA Tryz.func28 rfl rfl rfl rfl rfl fun S hS => ?_;cbv;refine ⟨Ze hA rfl, hr1, ?_⟩;refine Zb hS ?_;refine Za (α := Int × Nat) (fun q => { env := [(1, .b 0 0), (2, .b 1 0), (3, I q.1)], H := [.box (.agg [I s.benches, .o 2 3 (A.addN 0 (A.len TL))]), .box (.agg [I 0, .v (.slice none 0 0)]), .els 3 TL], nt := 30, dfs := [] })
  (fun q => N - q.2) (fun q => q.2 <= N /\ IsI q.1 q.2) (0, 0) ⟨Nat.zero_le _, ⟨rfl⟩⟩ ?_ ?_
 ·exact Zf [0, 1, 3] ⟨by decide, Z9, ⟨rfl, rfl, Zra rfl hTe, trivial⟩, ⟨rfl, rfl, rfl, trivial⟩, rfl, rfl⟩
 rintro ⟨i, k⟩ ⟨u1, u2⟩;dsimp only at u1 u2;have hlt1 : A.cmp .lss i (A.oi (A.addN 0 (A.len TL))) = true -> k < N := fun h => by
  have := xlt hA h; rw [hN2, u2.eq] at this; subst hA; simp [ar] at this; omega
 have hlt2 : A.cmp .lss i (A.oi (A.addN 0 (A.len TL))) = false -> k = N := fun h => by
  have := Z7x hA h; rw [hN2, u2.eq] at this; subst hA; simp [ar] at this; omega
 refine Z2w Z0 hA hS [] ?_;cbv;refine bm (fun c => ?_) (fun c => ?_)
 ·have hk : k < N := hlt1 c;obtain ⟨t, ht⟩ : ∃ t, t = s.tasks[k] := ⟨_, rfl⟩;have htk : s.tasks[k]? = some t := by rw [ht]; exact List.getElem?_eq_getElem (by omega)
  obtain ⟨WL, hWL⟩ : ∃ WL, WL = t.works.map Z14x := ⟨_, rfl⟩;have hWl : WL.length = t.works.length := by rw [hWL]; simp
  have hWb := hs.2 t (List.mem_of_getElem? htk);have hTk : TL[k]? = some (.agg [I t.ready, I t.due, .sl 3 WL]) := by rw [hT]; simp [htk, hWL, Z14z]
  have hM2 : A.addN 0 (A.len WL) = t.works.length := by rw [Z2e hA, Z9m hA hWl]; simp
  have hr2 : A.room (A.addN 0 (A.len WL)) 24 := by rw [hM2]; exact Zj1 hA (by omega) (by decide)
  have hi1 : A.inb i (A.addN 0 (A.len TL)) := Z4o hA u2 (by rw [hN2]; exact hk);have hg1 := Z18 hA u2 hTk;have hf := Zy hA u2 (by omega);have hu2 := Zz hA u2;have hms : N - (k + 1) < N - k := by omega
  obtain ⟨row, hrow⟩ : ∃ row, row = A.app [] WL := ⟨_, rfl⟩;have hrow2 : row = WL := by rw [hrow, Z33 hA]; rfl
  have hrl : row.length = A.addN 0 (A.len WL) := by rw [hM2, hrow2, hWl]
  obtain ⟨es, hes⟩ : ∃ es, es = A.set TL (A.tn i) (.agg [I t.ready, I t.due, .o 4 3 (A.addN 0 (A.len WL))]) := ⟨_, rfl⟩;have hes2 : es = TL.set k (.agg [I t.ready, I t.due, .o 4 3 (A.addN 0 (A.len WL))]) := by rw [hes]; exact Z7n hA u2 rfl
  have hfz := Zuu (k2 := 4) (isz := 3) (row := row) (es := es) (es' := TL) (i := k) (d := .agg [I t.ready, I t.due, .o 4 3 (A.addN 0 (A.len WL))]) (d' := .agg [I t.ready, I t.due, .sl 3 row])
   ⟨rfl, fun r c' hc => by
    match r, hc with
    | 0, hc => exact .inl hc
    | 1, hc => exact .inl hc
    | 2, hc => simp [D.cells] at hc; subst hc; exact .inr ⟨by rw [hrl]; rfl, rfl⟩
    | r + 3, hc => simp [D.cells] at hc⟩ (by rw [hes2, hrow2]; exact set_same hTk) (fun hh => by rw [hes2, List.getElem?_set_self (by rw [hTl]; exact hk)])
  cbv;refine Z16 Z0 hA hS [0, 1, 2, 3, 4, 5, 6, 7, 8, 9, 10, 11, 12, 13] rfl rfl fun Dk hD => ?_;cbv;refine ⟨hi1, ⟨_, hg1, ?_⟩⟩;cbv;refine ⟨Ze hA rfl, hr2, hi1, ⟨_, hg1, ?_⟩⟩;cbv;refine ⟨hf, ?_⟩;refine Zs9 2 4 (es := es) (row := row) (by rw [hes]; rfl) (by rw [hrow]; rfl) hfz ?_;refine Zmp 2 rfl hfr ?_;refine Z8 (A.add i 1, k + 1) [0, 1, 2] ⟨hk, hu2⟩ hms ?_;exact ⟨by decide, Z9, ⟨rfl, rfl, rfl, trivial⟩, ⟨rfl, rfl, rfl, trivial⟩, rfl, rfl⟩
 ·cbv;refine Z7 ?_;cbv;refine Z1w [2] ?_;cbv;exact ⟨by cases TL <;> exact hlm, by cases TL <;> exact hlm, by cases TL <;> exact hlm, Z2 [] (by decide) Z9 (H' := []) (d' := .agg [I s.benches, .sl 3 TL]) trivial rfl (Z1 hq)⟩
end Go.Proofs.YtegjabljeepbdaaGreatDoor.Bn

namespace Go.Proofs.YtegjabljeepbdaaGreatDoor.Bn
open Go Go.Abs Go.Proofs
theorem yeqT {A : Ar} (hA : A = ar) (x : Int) : A.cmp .eql x x = true := by subst hA; simp [ar, Z25]
set_option maxRecDepth 20000 in
set_option maxHeartbeats 4000000 in
theorem Z1dp (t : Tk) (WL : List D) (hW : WL = t.works.map Z14x) (hl : t.works.length <= 1152921504606846976) (Q) (hq : Q (RA.ret (.v (.bool true))) []) : CallA Tryz.prog 76 [.agg [I t.ready, I t.due, .sl 3 WL], .agg [I t.ready, I t.due, .sl 3 WL]] [] Q := by
 obtain ⟨A, hA⟩ : ∃ A, A = ar := ⟨_, rfl⟩;obtain ⟨W, hWn⟩ : ∃ W, W = t.works.length := ⟨_, rfl⟩;have hWl : WL.length = W := by rw [hW, hWn]; simp
 have e1 := yeqT hA t.ready;have e2 := yeqT hA t.due;have e3 := yeqT hA (A.oi (A.len WL));refine Z38 Z0 hA [1] Tryz.func76 rfl rfl rfl rfl rfl fun S hS => ?_;cbv;refine Zch hS { env := [(2, .b 0 0), (3, .b 1 0), (5, .v (.bool true))], H := [.box (.agg [I t.ready, I t.due, .sl 3 WL]), .box (.agg [I t.ready, I t.due, .sl 3 WL])], nt := 50, dfs := [] } ?_ ?_
 ·refine Z4j Z0 hA hS [0, 1, 2, 3, 4] [5, 6, 7, 8, 9, 10, 11, 12, 13, 14, 15, 16, 17, 18, 19, 20, 21] rfl ?_;cbv;refine Zis Z0 hA hS 11 (.v (.bool true)) rfl (congrArg (fun b => D.v (.bool b)) e1) [5, 6, 7, 8, 9, 10] [11, 12, 13, 14, 15, 16, 17, 18, 19, 20, 21] ?_;cbv;refine Zis Z0 hA hS 17 (.v (.bool true)) rfl (congrArg (fun b => D.v (.bool b)) e2) [11, 12, 13, 14, 15, 16, 17, 18, 19] [20, 21] ?_;cbv;refine Zis Z0 hA hS 26 (.v (.bool true)) rfl (congrArg (fun b => D.v (.bool b)) e3) [20, 21] [] ?_;cbv;refine Zii hS (Z3 Z0 hA hS ?_);cbv;exact Zf [0, 1] ⟨by decide, Z9, ⟨rfl, rfl, trivial⟩, ⟨rfl, rfl, rfl, trivial⟩, rfl, rfl⟩
 cbv;refine Zb hS ?_;refine Za (α := Int × Nat) (fun q => { env := [(2, .b 0 0), (3, .b 1 0), (5, .v (.bool true)), (6, I q.1)], H := [.box (.agg [I t.ready, I t.due, .sl 3 WL]), .box (.agg [I t.ready, I t.due, .sl 3 WL])], nt := 50, dfs := [] })
  (fun q => W - q.2) (fun q => q.2 <= W /\ IsI q.1 q.2) (0, 0) ⟨Nat.zero_le _, ⟨rfl⟩⟩ ?_ ?_
 ·exact Zf [0, 1] ⟨by decide, Z9, ⟨rfl, rfl, trivial⟩, ⟨rfl, rfl, rfl, rfl, trivial⟩, rfl, rfl⟩
 rintro ⟨i, k⟩ ⟨u1, u2⟩;dsimp only at u1 u2;refine Z2w Z0 hA hS [] ?_;cbv;refine bm (fun c => ?_) (fun c => ?_)
 ·have hk : k < W := Z31 hA hWl u2 c;obtain ⟨w, hw⟩ : ∃ w, w = t.works[k] := ⟨_, rfl⟩;have hwk : t.works[k]? = some w := by rw [hw]; exact List.getElem?_eq_getElem (by omega)
  have hWk : WL[k]? = some (.agg [I w.b, I w.lo, I w.hi]) := by rw [hW]; simp [hwk, Z14x]
  have hin := Z1b hA hWl u2 hk;have hg := Z18 hA u2 hWk;have hf := Zy hA u2 (by omega);have hu2 := Zz hA u2;have hms : W - (k + 1) < W - k := by omega
  have hl1 : A.leq [w.b, w.lo, w.hi] [w.b, w.lo, w.hi] = true := by subst hA; simp [ar]
  cbv;refine Z5j Z0 hA hS [10] [0, 1, 2, 3, 4, 5, 6, 7, 8, 9, 10, 11] rfl rfl fun Dk hD => ?_;cbv;refine ⟨hin, ⟨_, hg, ?_⟩⟩;cbv;refine ⟨hin, ⟨_, hg, ?_⟩⟩;cbv;refine Z9n Z0 hA hD [] (.v (.bool true)) rfl rfl rfl rfl rfl rfl ⟨[w.b, w.lo, w.hi], [w.b, w.lo, w.hi], rfl, rfl, rfl, rfl, congrArg (fun b => D.v (.bool b)) hl1⟩ ?_;cbv;refine ⟨hf, ?_⟩;refine Z8 (A.add i 1, k + 1) [0, 1] ⟨hk, hu2⟩ hms ?_;exact ⟨by decide, Z9, ⟨rfl, rfl, trivial⟩, ⟨rfl, rfl, rfl, rfl, trivial⟩, rfl, rfl⟩
 ·cbv;refine Z7 ?_;cbv;exact Z2 [] (by decide) Z9 (H' := []) (d' := .v (.bool true)) trivial rfl (Z1 hq)
set_option maxRecDepth 20000 in
set_option maxHeartbeats 4000000 in
theorem kSameShops (s : Sh) (hs : Fin s) (TL : List D) (hT : TL = s.tasks.map Z14z) (Q) (hq : Q (RA.ret (.v (.bool true))) []) : CallA Tryz.prog 32 [.agg [I s.benches, .sl 3 TL], .agg [I s.benches, .sl 3 TL]] [] Q := by
 obtain ⟨A, hA⟩ : ∃ A, A = ar := ⟨_, rfl⟩;obtain ⟨N, hN⟩ : ∃ N, N = s.tasks.length := ⟨_, rfl⟩;have hTl : TL.length = N := by rw [hT, hN]; simp
 have hNb := hs.1;have e1 := yeqT hA s.benches;have e3 := yeqT hA (A.oi (A.len TL));refine Z38 Z0 hA [1] Tryz.func32 rfl rfl rfl rfl rfl fun S hS => ?_;cbv;refine Zch hS { env := [(2, .b 0 0), (3, .b 1 0), (5, .v (.bool true))], H := [.box (.agg [I s.benches, .sl 3 TL]), .box (.agg [I s.benches, .sl 3 TL])], nt := 43, dfs := [] } ?_ ?_
 ·refine Z4j Z0 hA hS [0, 1, 2, 3, 4] [5, 6, 7, 8, 9, 10, 11, 12, 13, 14] rfl ?_;cbv;refine Zis Z0 hA hS 11 (.v (.bool true)) rfl (congrArg (fun b => D.v (.bool b)) e1) [5, 6, 7, 8, 9, 10, 11, 12] [13, 14] ?_;cbv;refine Zis Z0 hA hS 19 (.v (.bool true)) rfl (congrArg (fun b => D.v (.bool b)) e3) [13, 14] [] ?_;cbv;refine Zii hS (Z3 Z0 hA hS ?_);cbv;exact Zf [0, 1] ⟨by decide, Z9, ⟨rfl, rfl, trivial⟩, ⟨rfl, rfl, rfl, trivial⟩, rfl, rfl⟩
 cbv;refine Zb hS ?_;refine Za (α := Int × Nat) (fun q => { env := [(2, .b 0 0), (3, .b 1 0), (5, .v (.bool true)), (6, I q.1)], H := [.box (.agg [I s.benches, .sl 3 TL]), .box (.agg [I s.benches, .sl 3 TL])], nt := 43, dfs := [] })
  (fun q => N - q.2) (fun q => q.2 <= N /\ IsI q.1 q.2) (0, 0) ⟨Nat.zero_le _, ⟨rfl⟩⟩ ?_ ?_
 ·exact Zf [0, 1] ⟨by decide, Z9, ⟨rfl, rfl, trivial⟩, ⟨rfl, rfl, rfl, rfl, trivial⟩, rfl, rfl⟩
 rintro ⟨i, k⟩ ⟨u1, u2⟩;dsimp only at u1 u2;refine Z2w Z0 hA hS [] ?_;cbv;refine bm (fun c => ?_) (fun c => ?_)
 ·have hk : k < N := Z31 hA hTl u2 c;obtain ⟨t, ht⟩ : ∃ t, t = s.tasks[k] := ⟨_, rfl⟩;have htk : s.tasks[k]? = some t := by rw [ht]; exact List.getElem?_eq_getElem (by omega)
  obtain ⟨WL, hWL⟩ : ∃ WL, WL = t.works.map Z14x := ⟨_, rfl⟩;have hTk : TL[k]? = some (.agg [I t.ready, I t.due, .sl 3 WL]) := by rw [hT]; simp [htk, hWL, Z14z]
  have hin := Z1b hA hTl u2 hk;have hg := Z18 hA u2 hTk;have hf := Zy hA u2 (by omega);have hu2 := Zz hA u2;have hms : N - (k + 1) < N - k := by omega
  have hWb := hs.2 t (List.mem_of_getElem? htk);cbv;refine Z16 Z0 hA hS [0, 1, 2, 3, 4, 5, 6, 7, 8, 9, 10, 11] rfl rfl fun Dk hD => ?_;cbv;refine ⟨hin, ⟨_, hg, ?_⟩⟩;cbv;refine ⟨hin, ⟨_, hg, ?_⟩⟩;cbv;refine Zq hA hD [.agg [I t.ready, I t.due, .sl 3 WL], .agg [I t.ready, I t.due, .sl 3 WL]] [] [] rfl rfl rfl rfl rfl rfl rfl rfl rfl rfl rfl (by decide) trivial (Z1dp t WL hWL hWb _ ⟨by cbv, Zx Z0 hA hD ?_⟩);cbv;refine ⟨hf, ?_⟩;refine Z8 (A.add i 1, k + 1) [0, 1] ⟨hk, hu2⟩ hms ?_;exact ⟨by decide, Z9, ⟨rfl, rfl, trivial⟩, ⟨rfl, rfl, rfl, rfl, trivial⟩, rfl, rfl⟩
 ·cbv;refine Z7 ?_;cbv;exact Z2 [] (by decide) Z9 (H' := []) (d' := .v (.bool true)) trivial rfl (Z1 hq)
end Go.Proofs.YtegjabljeepbdaaGreatDoor.Bn

namespace Go.Proofs.YtegjabljeepbdaaGreatDoor
open Go Go.Abs Go.Proofs Go.Batch
open Bn (Sl Sh Tk Wk Z14v Z14z Z14x runS Z151 ShopOk PlanOk PlanLe Val mo0 Fin Z175 Z15w Z1d3)
theorem Zqm {P : Program} {f : FuncId} {vs0 : List D} {H : List Blk} {Q Q' : RA -> List Blk -> Prop} (h : CallA P f vs0 H Q) (hq : ∀ d H', Q (.ret d) H' -> ∃ d', WkD d d' /\ Q' (.ret d') H') (hp : ∀ d H', Q (.pan d) H' -> Q' (.pan d) H') : CallA P f vs0 H Q' :=
 ⟨h.fn, fun F μ vs w h1 h2 h3 => CallsIn.mono (h.out F μ vs w h1 h2 h3) fun e w' he => by
  cases e with
  | returned v =>
   obtain ⟨F', μ', H', d, g1, g2, g3⟩ := he
   obtain ⟨d', hw, hk⟩ := hq _ _ g3
   exact ⟨F', μ', H', d', g1, hw.out _ _ _ g2, hk⟩
  | panicked ch => obtain ⟨F', μ', H', d, v, g1, g2, g3, g4⟩ := he; exact ⟨F', μ', H', d, v, g1, g2, g3, hp _ _ g4⟩
  | outgrown => exact he.elim⟩
theorem WkD.tup {cs ds : List D} (h : WkL cs ds) : WkD (.tup cs) (.tup ds) := ⟨fun F μ v hv => by
 obtain ⟨vs, rfl, hl, hr⟩ := hv.tup_inv
 exact .tup _ _ (by rw [<- h.length]; exact hl) (fun i c v hc hv => by
  obtain ⟨a, h1, h2⟩ := h.get hc
  exact h2.out _ _ _ (hr i a v h1 hv))⟩
section
variable {fn : FuncId} {args : List D} {d0 : D} {Q : RA -> List Blk -> Prop}
def Zyn (d0 : D) (x : RA) (H' : List Blk) : Prop := H' = [] /\ ∃ d, x = RA.ret d /\ WkD d d0
theorem Ztx (h : CallA Tryz.prog fn args [] (Zyn d0)) (hq : Q (RA.ret d0) []) : CallA Tryz.prog fn args [] Q :=
 Zqm (Q := Zyn d0) h (fun d H' h => by
  obtain ⟨rfl, d1, h1, h2⟩ := h
  cases h1
  exact ⟨_, h2, hq⟩) (fun d H' h => by
  obtain ⟨-, d1, h1, -⟩ := h
  cases h1)
end
structure WkIn (j : Jn) (FL ML : List D) (s : Sh) (TL : List D) (pl : List Int) (PL : List D) : Prop where
 jl : JLim j FL ML
 fin : Fin s
 big : Z1d3 s
 T : TL = s.tasks.map Z14z
 P : PL = pl.map I
 pl : pl.length <= 100
section
variable {j : Jn} {FL ML : List D} {s : Sh} {TL : List D} {pl : List Int} {PL : List D}
def Z1d2 (j : Jn) (s : Sh) (pl : List Int) : D := .agg [I (Z1cz j s pl).ins, .sl 1 ((Z1cz j s pl).first.map Zv), .sl 5 ((Z1cz j s pl).moves.map mvD)]
theorem Z1d9 {e : Int} (h : e ≠ 0) (he : e = Z1cx j s pl) : WkD (.tup [.agg [I 0, .v (.slice none 0 0), .v (.slice none 0 0)], I e]) (.tup [Z1d2 j s pl, I (Z1cx j s pl)]) := by
 have e1 : Z1cz j s pl = ⟨0, [], []⟩ := by unfold Z1cz; rw [if_neg (by rw [<- he]; exact h)]
 unfold Z1d2;rw [e1, <- he];exact WkD.tup ⟨WkD.agg ⟨.rfl, WkD.nil, WkD.nil, trivial⟩, .rfl, trivial⟩
theorem Z1df (h : JLim j FL ML) (h0 : Z1cx j s pl = 0) {MX : List D} (hM : MX = (Z1d1 j s pl).map mvD) : WkD (.tup [.agg [I j.ins, .sl 1 FL, .sl 5 MX], I 0]) (.tup [Z1d2 j s pl, I (Z1cx j s pl)]) := by
 have e1 : Z1cz j s pl = ⟨j.ins, j.first, Z1d1 j s pl⟩ := by unfold Z1cz; rw [if_pos h0]
 unfold Z1d2;rw [e1, h0, hM, h.F];exact .rfl
theorem WkIn.works (h : WkIn j FL ML s TL pl PL) (Q) (hq : Q (RA.ret (.tup [Z1d2 j s pl, I (Z1cx j s pl)])) []) : CallA Tryz.prog 12 [.agg [I j.ins, .sl 1 FL, .sl 5 ML], .agg [I s.benches, .sl 3 TL], .sl 1 PL] [] Q :=
 Ztx (Z1du j h.jl.fl h.jl.ml j.ins rfl FL ML h.jl.F h.jl.M s h.fin s.benches rfl pl (by have := h.pl; omega) TL PL h.T h.P _ (fun e h1 h2 => ⟨rfl, _, rfl, Z1d9 h1 h2⟩) fun h0 MX hMX => ⟨rfl, _, rfl, Z1df h.jl h0 hMX⟩) hq
theorem WkIn.rworks (h : WkIn j FL ML s TL pl PL) (Q) (hq : Q (RA.ret (.tup [Z1d2 j s pl, I (Z1cx j s pl)])) []) : CallA Tryz.prog 30 [.agg [I j.ins, .sl 1 FL, .sl 5 ML], .agg [I s.benches, .sl 3 TL], .sl 1 PL] [] Q :=
 Ztx (Z1dw j h.jl.fl h.jl.ml j.ins rfl FL ML h.jl.F h.jl.M s h.fin s.benches rfl pl (by have := h.pl; omega) TL PL h.T h.P _ (fun e h1 h2 => ⟨rfl, _, rfl, Z1d9 h1 h2⟩) fun h0 MX hMX => ⟨rfl, _, rfl, Z1df h.jl h0 hMX⟩) hq
theorem Z1dq (h : WkIn j FL ML s TL pl PL) : (Z1cz j s pl).first.length <= 100 /\ (Z1cz j s pl).moves.length <= 1000 := by
 have h1 := h.jl.f;have h2 := h.jl.m;have h3 := h.pl;unfold Z1cz
 split
 ·refine ⟨h1, ?_⟩;show (Z1d1 j s pl).length <= 1000;unfold Z1d1 runP;rw [List.length_append, List.length_map, Bn.sortB_len, Bn.run_len, List.length_map];omega
 ·exact ⟨Nat.zero_le _, Nat.zero_le _⟩
theorem WkIn.sameW (h : WkIn j FL ML s TL pl PL) (Q) (hq : Q (RA.ret (.v (.bool true))) []) : CallA Tryz.prog 31 [Z1d2 j s pl, Z1d2 j s pl] [] Q := by
 have hl := Z1dq h;exact Zgg (Z1cz j s pl) _ _ rfl rfl (by omega) (by omega) Q hq
theorem WkIn.sameJ (h : WkIn j FL ML s TL pl PL) (Q) (hq : Q (RA.ret (.v (.bool true))) []) : CallA Tryz.prog 31 [.agg [I j.ins, .sl 1 FL, .sl 5 ML], .agg [I j.ins, .sl 1 FL, .sl 5 ML]] [] Q := h.jl.same Q hq
theorem WkIn.copyJ (h : WkIn j FL ML s TL pl PL) (Q) (hq : Q (RA.ret (.agg [I j.ins, .sl 1 FL, .sl 5 ML])) []) : CallA Tryz.prog 14 [.agg [I j.ins, .sl 1 FL, .sl 5 ML]] [] Q := h.jl.copy j.ins Q hq
theorem WkIn.copyS (h : WkIn j FL ML s TL pl PL) (Q) (hq : Q (RA.ret (.agg [I s.benches, .sl 3 TL])) []) : CallA Tryz.prog 28 [.agg [I s.benches, .sl 3 TL]] [] Q := Bn.kCopyShop s h.big TL h.T Q hq
theorem WkIn.sameS (h : WkIn j FL ML s TL pl PL) (Q) (hq : Q (RA.ret (.v (.bool true))) []) : CallA Tryz.prog 32 [.agg [I s.benches, .sl 3 TL], .agg [I s.benches, .sl 3 TL]] [] Q := Bn.kSameShops s h.fin TL h.T Q hq
theorem WkIn.copyP (h : WkIn j FL ML s TL pl PL) (Q) (hq : Q (RA.ret (.sl 1 PL)) []) : CallA Tryz.prog 29 [.sl 1 PL] [] Q := by
 refine Zcb (Zzh PL (by rw [h.P, List.length_map]; have := h.pl; omega) _ fun n hn => ?_);refine Z1w [0] ?_;cbv;exact ⟨by cases PL <;> exact hn, Z2 [] (by decide) Z9 (H' := []) (d' := .sl 1 PL) trivial rfl (Z1 hq)⟩
theorem WkIn.sameP (h : WkIn j FL ML s TL pl PL) (Q) (hq : Q (RA.ret (.v (.bool true))) []) : CallA Tryz.prog 33 [.sl 1 PL, .sl 1 PL] [] Q := Zaq pl pl PL PL h.P h.P (by have := h.pl; omega) true (decide_eq_true rfl).symm Q hq
end
end Go.Proofs.YtegjabljeepbdaaGreatDoor
