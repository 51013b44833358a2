/- Part RefE of the proofs about the benches of the accordion maker: see the last text of the claim for what is proved. -/
import Derived.Test.YtecfpfhkicapeaaRefD
import Derived.Test.YtecfpfhkicapeaaWroA
set_option linter.unusedVariables false
set_option linter.unusedSimpArgs false
set_option linter.unnecessarySimpa false
set_option linter.constructorNameAsVariable false

namespace Go.Proofs.Ytecfpfhkicapeaa
open Go Go.Abs Go.Proofs Go.Batch
theorem Zav {below : Int} : ∀ {l : List Int} {p : Option Int}, Z76 below p l = 0 -> ∀ x ∈ l, 0 <= x /\ x <= below - 1
 | [], _, _, x, hx => by cases hx
 | n :: l, p, h, x, hx => by
  unfold Z76 at h
  split at h
  ·exact absurd h (by decide)
  ·rename_i h1
   split at h
   ·exact absurd h (by decide)
   ·rcases List.mem_cons.1 hx with e | hx
    ·rw [e]; exact Classical.byContradiction h1
    ·exact Zav h x hx
theorem Zdq {l : List Int} (h : ∀ x ∈ l, 0 <= x) : (l.map Int.toNat).map (fun i : Nat => (i : Int)) = l := by
 rw [List.map_map]
 conv => rhs; rw [<- List.map_id l]
 exact List.map_congr_left fun x hx => by have := h x hx; simp only [Function.comp_def, id]; omega
set_option maxRecDepth 20000 in
set_option maxHeartbeats 8000000 in
theorem Zdr (l : List Int) (hl : l.length <= 1152921504606846976) (below : Int) (hb : 0 <= below /\ below <= 4) (L : List D) (hL : L = l.map I) (e : Int) (he : e = Z44 below l) (Q) (hq : Q (RA.ret (I e)) []) :
  CallA Try.prog 112 [.sl 1 L, I below] [] Q := by
 obtain ⟨A, hA⟩ : ∃ A, A = ar := ⟨_, rfl⟩;have bT : A.bnot true = false := by subst hA; rfl
 have bF : A.bnot false = true := by subst hA; rfl
 have hLl : L.length = l.length := by rw [hL]; simp
 have fb : A.fits .i64 (A.sub below 1) := Z14 hA (Z24 hA below 1) (by omega);have hbe : A.sub below 1 = below - 1 := Z24 hA below 1;have h00 : e = Z76 below (Z45 l 0) (l.drop 0) := he;refine Z5 Z0 hA Try.func112 rfl rfl rfl rfl rfl fun S hS => ?_;cbv;refine Zb hS ?_;refine Za (α := Int × Nat) (fun q => { env := [(0, .sl 1 L), (1, I below), (5, I q.1)], H := [], nt := 34, dfs := [] })
  (fun q => l.length - q.2) (fun q => q.2 <= l.length /\ IsI q.1 q.2 /\ e = Z76 below (Z45 l q.2) (l.drop q.2)) (0, 0) ⟨Nat.zero_le _, ⟨rfl⟩, h00⟩ ?_ ?_
 ·exact Zf [] ⟨by decide, Z9, trivial, ⟨rfl, rfl, rfl, trivial⟩, rfl, rfl⟩
 rintro ⟨i, k⟩ ⟨u1, u2, u3⟩;dsimp only at u1 u2 u3;have hyes : A.cmp .lss i (A.oi (A.len L)) = true -> k < l.length := fun c => Z31 hA hLl u2 c;have hno : A.cmp .lss i (A.oi (A.len L)) = false -> e = 0 := fun c => by
  have := Z21 hA hLl u2 c;rw [u3, List.drop_eq_nil_of_le this]; rfl
 refine Zi Z0 hA hS ?_;cbv;refine bm (fun c => ?_) (fun c => ?_)
 ·have hk := hyes c;obtain ⟨x, hx⟩ : ∃ x, l[k]? = some x := ⟨_, List.getElem?_eq_getElem hk⟩;have gL := Z18 hA u2 (show L[k]? = some (I x) by rw [hL]; simp [hx]);have iL := Z1b hA hLl u2 hk;have hf := Zy hA u2 (by omega);have hu2 := Zz hA u2;have hms : l.length - (k + 1) < l.length - k := by omega
  rw [Zl2 hx] at u3;obtain ⟨b1, hb1⟩ : ∃ b1, b1 = decide (0 <= x /\ x <= A.sub below 1) := ⟨_, rfl⟩;have hb1' : b1 = decide (0 <= x /\ x <= below - 1) := by rw [hb1, hbe]
  cbv;refine ⟨iL, ⟨_, gL, ?_⟩⟩;cbv;refine ⟨fb, ?_⟩;refine Z4 hS [I x, I 0, I (A.sub below 1)] [] [] rfl rfl rfl rfl rfl rfl rfl rfl (by decide) trivial (Z6f _ _ _ b1 hb1 _ ?_);refine Z3 Z0 hA hS ?_
  cases b1 with
  | false =>
   have hz : e = 3 := by rw [u3, if_pos (of_decide_eq_false hb1'.symm)]
   rw [hz] at hq;cbv;refine bmT bF ?_;cbv;refine Z7 ?_;cbv;exact Z2 [] (by decide) Z9 (H' := []) (d' := I 3) trivial rfl (Z1 hq)
  | true =>
  rw [if_neg (fun g => g (of_decide_eq_true hb1'.symm))] at u3
  by_cases h0 : k = 0
  ·have hz : e = Z76 below (Z45 l (k + 1)) (l.drop (k + 1)) := by
    have : Z45 l k = none := by rw [Z45, if_pos h0]
    rw [this] at u3; exact u3
   have hg : A.cmp .gtr i 0 = false := by subst hA; have := u2.eq; simp [ar, Z25]; omega
   cbv;refine bmF bT ?_;cbv;refine Z5j Z0 hA hS [1] [0, 1, 2, 3, 4, 5, 6, 7, 8, 9, 10, 11, 12, 13] rfl rfl fun Dk hD => ?_;cbv;refine Z9n Z0 hA hD [] (.v (.bool false)) rfl rfl rfl rfl rfl rfl (congrArg (fun b => D.v (.bool b)) hg) ?_;cbv;refine ⟨hf, ?_⟩;refine Z8 (A.add i 1, k + 1) [] ⟨hk, hu2, hz⟩ hms ?_;exact ⟨by decide, Z9, trivial, ⟨rfl, rfl, rfl, trivial⟩, rfl, rfl⟩
  ·have hk0 : 0 < k := by omega
   obtain ⟨y, hy⟩ : ∃ y, l[k - 1]? = some y := ⟨_, List.getElem?_eq_getElem (by omega)⟩;have hp : Z45 l k = some y := by rw [Z45, if_neg h0]; exact hy
   rw [hp] at u3;have hi1 : IsI (A.sub i 1) (k - 1) := ⟨by rw [Z24 hA, u2.eq]; omega⟩;have gY := Z18 hA hi1 (show L[k - 1]? = some (I y) by rw [hL]; simp [hy]);have iY := Z1b hA hLl hi1 (by omega);have fi : A.fits .i64 (A.sub i 1) := Z14 hA (Z24 hA i 1) (by have := u2.eq; omega);have hg : A.cmp .gtr i 0 = true := by subst hA; have := u2.eq; simp [ar, Z25]; omega
   have hz1 : A.cmp .leq x y = true -> e = 5 := fun c => by
    rw [u3, if_pos];show decide (x <= y) = true;rw [decide_eq_true_eq]; exact xle hA c
   have hz0 : A.cmp .leq x y = false -> e = Z76 below (Z45 l (k + 1)) (l.drop (k + 1)) := fun c => by
    rw [u3, if_neg];show ¬ decide (x <= y) = true;rw [decide_eq_true_eq]; have := Zec hA c; omega
   clear u3;cbv;refine bmF bT ?_;cbv;refine Z5j Z0 hA hS [1] [0, 1, 2, 3, 4, 5, 6, 7, 8, 9, 10, 11, 12, 13] rfl rfl fun Dk hD => ?_;cbv;refine Z9n Z0 hA hD [] (.v (.bool true)) rfl rfl rfl rfl rfl rfl (congrArg (fun b => D.v (.bool b)) hg) ?_;cbv;refine ⟨iL, ⟨_, gL, ?_⟩⟩;cbv;refine ⟨fi, iY, ⟨_, gY, ?_⟩⟩;cbv;refine bm (fun c5 => ?_) (fun c5 => ?_)
   ·rw [hz1 c5] at hq;cbv;refine Z7 ?_;cbv;exact Z2 [] (by decide) Z9 (H' := []) (d' := I 5) trivial rfl (Z1 hq)
   ·have hz := hz0 c5;cbv;refine ⟨hf, ?_⟩;refine Z8 (A.add i 1, k + 1) [] ⟨hk, hu2, hz⟩ hms ?_;exact ⟨by decide, Z9, trivial, ⟨rfl, rfl, rfl, trivial⟩, rfl, rfl⟩
 ·rw [hno c] at hq;cbv;refine Z7 ?_;cbv;exact Z2 [] (by decide) Z9 (H' := []) (d' := I 0) trivial rfl (Z1 hq)
section
variable (j : Jn) (hf : j.first.length <= 1152921504606846976) (hm : j.moves.length <= 1152921504606846976) (FL ML : List D) (hF : FL = j.first.map Zv) (hM : ML = j.moves.map mvD)
include hf hm hF hM
set_option maxRecDepth 20000 in
set_option maxHeartbeats 8000000 in
theorem Zys (l : List Int) (hl : l.length <= 1000000) (XL : List D) (hX : XL = l.map I) (e : Int) (he : e = Zjc j l) (L0 : List D) (hL0 : L0 = okL e ((Zbn j (l.map Int.toNat)).map I)) (Q) (hq : Q (RA.ret (.tup [.sl 1 L0, I e])) []) : CallA Try.prog 56 [.agg [I j.ins, .sl 1 FL, .sl 5 ML], .sl 1 XL] [] Q := by
 obtain ⟨A, hA⟩ : ∃ A, A = ar := ⟨_, rfl⟩;have bT : A.bnot true = false := by subst hA; rfl
 have bF : A.bnot false = true := by subst hA; rfl
 obtain ⟨e1, he1⟩ : ∃ e1, e1 = Zr j := ⟨_, rfl⟩;have hwk : ∀ x : Int, WkD (.tup [.v (.slice none 0 0), I x]) (.tup [.sl 1 [], I x]) := fun x => WkD.tup ⟨WkD.nil, .rfl, trivial⟩;have hzE : ∀ x, Zjc j l = x -> x ≠ 0 -> Q (RA.ret (.tup [.sl 1 [], I x])) [] := fun x h1 h2 => by
  rw [hL0, he, h1, Ze9 h2] at hq; exact hq
 refine Z5 Z0 hA Try.func56 rfl rfl rfl rfl rfl fun S hS => ?_;cbv;refine Z4 hS [.agg [I j.ins, .sl 1 FL, .sl 5 ML]] [] [] rfl rfl rfl rfl rfl rfl rfl rfl (by decide) trivial (Zdo j hf hm FL ML hF hM e1 he1 _ ?_);refine Z3 Z0 hA hS ?_;cbv;refine bm (fun c => ?_) (fun c => ?_)
 ·have hz := hzE e1 (by unfold Zjc; rw [if_pos (by rw [<- he1]; exact xne hA c), he1]) (xne hA c);cbv;refine Z37 (hwk e1) ?_;exact Z2 [] (by decide) Z9 (H' := []) (d' := .tup [.sl 1 [], I e1]) trivial rfl (Z1 hz)
 have hc0 : Zr j = 0 := he1.symm.trans (Z4t hA c);have hj : JOk j := Z2r hc0;have hb4 := hj.b4;obtain ⟨NB, hNB⟩ : ∃ NB, NB = (Z6 j.moves).length := ⟨_, rfl⟩;rw [<- hNB] at hb4;have hNB4 : ∀ z : Int, z <= (NB : Int) - 1 -> z < 4 := fun z h => by omega
 have hbin := fun Q h => Zho j (by have := hj.m10; omega) FL ML hM Q h;obtain ⟨e2, he2⟩ : ∃ e2, e2 = Z44 (NB : Int) l := ⟨_, rfl⟩;cbv;refine Z4 hS [.agg [I j.ins, .sl 1 FL, .sl 5 ML]] [] [] rfl rfl rfl rfl rfl rfl rfl rfl (by decide) trivial (hbin _ fun BL hBL => ?_);have hBl : BL.length = NB := by rw [hBL, hNB, List.length_map]
 have hBe : A.oi (A.len BL) = NB := Z5a hA hBl;have hB4 : 0 <= A.oi (A.len BL) /\ A.oi (A.len BL) <= 4 := by rw [hBe]; exact ⟨Int.natCast_nonneg _, by omega⟩
 have hBc : Z44 (A.oi (A.len BL)) l = e2 := by rw [hBe, he2]
 refine Z3 Z0 hA hS ?_;cbv;refine Z4 hS [.sl 1 XL, I (A.oi (A.len BL))] [] [] rfl rfl rfl rfl rfl rfl rfl rfl (by decide) trivial (Zdr l (by omega) (A.oi (A.len BL)) hB4 XL hX e2 hBc.symm _ ?_);refine Z3 Z0 hA hS ?_;cbv;refine bm (fun c2 => ?_) (fun c2 => ?_)
 ·have hz := hzE e2 (by unfold Zjc; rw [if_neg (fun g => g hc0), <- hNB, if_pos (by rw [<- he2]; exact xne hA c2), he2]) (xne hA c2);cbv;refine Z37 (hwk e2) ?_;exact Z2 [] (by decide) Z9 (H' := []) (d' := .tup [.sl 1 [], I e2]) trivial rfl (Z1 hz)
 have hg0 : Z44 (NB : Int) l = 0 := he2.symm.trans (Z4t hA c2);have hmem := Zav hg0;obtain ⟨sb, hsb⟩ : ∃ sb, sb = Zc j := ⟨_, rfl⟩;cbv;refine Z4 hS [.agg [I j.ins, .sl 1 FL, .sl 5 ML]] [] [] rfl rfl rfl rfl rfl rfl rfl rfl (by decide) trivial (Za4 j hj FL ML hF hM sb hsb _ ?_);refine Z3 Z0 hA hS ?_
 cases sb with
 | false =>
  have hz := hzE 9 (by unfold Zjc; rw [if_neg (fun g => g hc0), <- hNB, if_neg (fun g => g hg0), <- hsb]; rfl) (by decide);cbv;refine bmT bF ?_;cbv;refine Z37 (hwk 9) ?_;exact Z2 [] (by decide) Z9 (H' := []) (d' := .tup [.sl 1 [], I 9]) trivial rfl (Z1 hz)
 | true =>
 have hst : Zc j = true := hsb.symm;have e0 : e = 0 := by rw [he]; unfold Zjc; rw [if_neg (fun g => g hc0), <- hNB, if_neg (fun g => g hg0), hst]; rfl
 have hi1 := hj.i1;have hi4 := hj.i4;obtain ⟨N, hN⟩ : ∃ N : Nat, IsI j.ins N := ⟨j.ins.toNat, ⟨by omega⟩⟩;have hbk := Zdq fun x hx => (hmem x hx).1;have hl4 : ∀ x ∈ l.map Int.toNat, x < 4 := fun x hx => by
  obtain ⟨y, hy, rfl⟩ := List.mem_map.1 hx;have h1 := hmem y hy; have h2 := hNB4 y h1.2; omega
 have hvd : ∀ Q, (∀ L, L = (List.range N).map (fun k => I (Z2i (Z4d j (Z3a (Z1p (l.map Int.toNat)) (k : Nat))))) -> Q (RA.ret (.sl 1 L)) []) -> CallA Try.prog 97 [.agg [I j.ins, .sl 1 FL, .sl 5 ML], .sl 1 XL] [] Q := fun Q h =>
  Zi0 j hj FL ML hF hM l hl XL hX _ (fun k hk is no h1 h2 => by
   rw [<- hbk] at h1 h2
   exact Zw5 hj hst hl4 0 0 hk h1 h2) N hN Q h
 rw [hL0, e0, Zd1] at hq;cbv;refine bmF bT ?_;cbv;refine Z4 hS [.agg [I j.ins, .sl 1 FL, .sl 5 ML], .sl 1 XL] [] [] rfl rfl rfl rfl rfl rfl rfl rfl (by decide) trivial (hvd _ fun L hL => ?_);have hLE : L = (Zbn j (l.map Int.toNat)).map I := by
  have : j.ins.toNat = N := by have := hN.eq; omega
  rw [hL, Zbn, this, List.map_map]; rfl
 rw [<- hLE] at hq;refine Z3 Z0 hA hS ?_;cbv;exact Z2 [] (by decide) Z9 (H' := []) (d' := .tup [.sl 1 L, I 0]) trivial rfl (Z1 hq)
set_option maxRecDepth 20000 in
set_option maxHeartbeats 8000000 in
theorem Zyt (l : List Int) (hl : l.length <= 1000000) (XL : List D) (hX : XL = l.map I) (e : Int) (he : e = Zjc j l) (L0 : List D) (hL0 : L0 = okL e ((Zit j (l.map Int.toNat)).map I)) (Q) (hq : Q (RA.ret (.tup [.sl 1 L0, I e])) []) : CallA Try.prog 58 [.agg [I j.ins, .sl 1 FL, .sl 5 ML], .sl 1 XL] [] Q := by
 obtain ⟨A, hA⟩ : ∃ A, A = ar := ⟨_, rfl⟩;obtain ⟨V, hV⟩ : ∃ V : List D, V = okL e ((Zbn j (l.map Int.toNat)).map I) := ⟨_, rfl⟩;have hhas := fun Q h => Zys j hf hm FL ML hF hM l hl XL hX e he V hV Q h;refine Z5 Z0 hA Try.func58 rfl rfl rfl rfl rfl fun S hS => ?_;cbv;refine Z4 hS [.agg [I j.ins, .sl 1 FL, .sl 5 ML], .sl 1 XL] [] [] rfl rfl rfl rfl rfl rfl rfl rfl (by decide) trivial (hhas _ ?_);refine Z3 Z0 hA hS ?_;cbv;refine bm (fun c => ?_) (fun c => ?_)
 ·rw [hL0, Ze9 (xne hA c)] at hq;cbv;refine Z37 (WkD.tup ⟨WkD.nil, .rfl, trivial⟩ : WkD (.tup [.v (.slice none 0 0), I e]) (.tup [.sl 1 [], I e])) ?_;exact Z2 [] (by decide) Z9 (H' := []) (d' := .tup [.sl 1 [], I e]) trivial rfl (Z1 hq)
 have e0 : e = 0 := by have := Z4t hA c; exact this
 have hj : JOk j := by
  refine Z2r (Classical.byContradiction fun h => ?_);have : Zjc j l = Zr j := by unfold Zjc; rw [if_pos h]
  rw [<- he, e0] at this; exact h this.symm
 rw [e0, Zd1] at hV;obtain ⟨h, hh⟩ : ∃ h, h = Zbn j (l.map Int.toNat) := ⟨_, rfl⟩;have hcr := Zj6 j (l.map Int.toNat);rw [<- hh] at hV hcr;have hVl : V.length = h.length := by rw [hV, List.length_map]
 have hl4 : h.length <= 4 := by rw [hh]; simp [Zbn]; have := hj.i4; omega
 rw [hL0, e0, Zd1, <- hcr] at hq;cbv;refine Zb hS ?_;refine Za (α := Int × Nat × Nat × List D) (fun q => { env := [(6, .sl 1 V), (8, .o 0 1 q.2.2.1), (9, I q.1)], H := [.els 1 q.2.2.2], nt := 35, dfs := [] })
  (fun q => h.length - q.2.1) (fun q => q.2.1 <= h.length /\ IsI q.1 q.2.1 /\ q.2.2.1 = (Z5z h q.2.1).length /\ q.2.2.2 = ((Z5z h q.2.1).map fun b : Nat => (b : Int)).map I) (0, 0, 0, []) ⟨Nat.zero_le _, ⟨rfl⟩, rfl, rfl⟩ ?_ ?_
 ·refine Z2a 8 1 rfl ?_;exact Zf [1] ⟨by decide, Z9, ⟨rfl, trivial⟩, ⟨rfl, rfl, rfl, trivial⟩, rfl, rfl⟩
 rintro ⟨i, k, c, L⟩ ⟨u1, u2, u3, u4⟩;dsimp only at u1 u2 u3 u4;have hLl : L.length = c := by rw [u4, u3]; simp
 have hc6 : c <= 1000000 := by rw [u3]; have := Zne h k; omega
 have hyes : A.cmp .lss i (A.oi (A.len V)) = true -> k < h.length := fun c => Z31 hA hVl u2 c;have hno : A.cmp .lss i (A.oi (A.len V)) = false -> k = h.length := fun c => by have := Z21 hA hVl u2 c; omega
 have hsc := Zl8 h k;refine Zi Z0 hA hS ?_;cbv;refine bm (fun c1 => ?_) (fun c1 => ?_)
 ·have hk := hyes c1;obtain ⟨x, hx⟩ : ∃ x, h[k]? = some x := ⟨_, List.getElem?_eq_getElem hk⟩;have hxd : h.getD k 0 = x := by rw [List.getD_eq_getElem?_getD, hx]; rfl
  rw [hxd] at hsc;have gV := Z18 hA u2 (show V[k]? = some (I x) by rw [hV]; simp [hx]);have iV := Z1b hA hVl u2 hk;have hf1 := Zy hA u2 (by omega);have hu2 := Zz hA u2;have hms : h.length - (k + 1) < h.length - k := by omega
  have hkI : I i = I ((k : Nat) : Int) := by rw [u2.eq]
  have a1 : x ≠ 2 -> A.addN c 1 = (Z5z h (k + 1)).length := fun g => by rw [hsc, if_pos g, Z2e hA, u3]; simp
  have a2 : x ≠ 2 -> A.app L [I i] = ((Z5z h (k + 1)).map fun b : Nat => (b : Int)).map I := fun g => by rw [hsc, if_pos g, Z33 hA, u4, hkI]; simp
  have b1 : x = 2 -> c = (Z5z h (k + 1)).length := fun g => by rw [hsc, if_neg (fun n => n g), u3]
  have b2 : x = 2 -> L = ((Z5z h (k + 1)).map fun b : Nat => (b : Int)).map I := fun g => by rw [hsc, if_neg (fun n => n g), u4]
  clear hsc;cbv;refine ⟨iV, ⟨_, gV, ?_⟩⟩;cbv;refine bm (fun c2 => ?_) (fun c2 => ?_)
  ·have h1 := a1 (xne hA c2);have h2 := a2 (xne hA c2);cbv;refine ⟨Ze hA hLl, Ze hA rfl, Z27 hA hc6 (by decide), hf1, ?_⟩;refine Z8 (A.add i 1, k + 1, A.addN c 1, A.app L [I i]) [2] ⟨hk, hu2, h1, h2⟩ hms ?_;exact ⟨by decide, Z9, ⟨rfl, trivial⟩, ⟨rfl, rfl, rfl, trivial⟩, rfl, rfl⟩
  ·have h1 := b1 (Z4t hA c2);have h2 := b2 (Z4t hA c2);cbv;refine ⟨hf1, ?_⟩;refine Z8 (A.add i 1, k + 1, c, L) [0] ⟨hk, hu2, h1, h2⟩ hms ?_;exact ⟨by decide, Z9, ⟨rfl, trivial⟩, ⟨rfl, rfl, rfl, trivial⟩, rfl, rfl⟩
 ·have hk := hno c1;rw [<- hk, <- u4] at hq;cbv;refine Z7 ?_;cbv;refine Z1w [0] ?_;cbv;exact ⟨by cases L <;> exact hLl.symm, Z2 [] (by decide) Z9 (H' := []) (d' := .tup [.sl 1 L, I 0]) trivial rfl (Z1 hq)⟩
end
end Go.Proofs.Ytecfpfhkicapeaa

namespace Go.Proofs.Ytecfpfhkicapeaa
open Go Go.Abs Go.Proofs Go.Batch
def Zyu (o : Bool) : Int := if o = true then 1 else 0
theorem Zwb : ∀ (g : Fin 16) (k : Fin 4) (o : Bool), ar.cmp .neq (ar.bits .and .i64 (ar.shift .shr .i64 (g.val : Int) (k.val : Int)) 1) (Zyu o) = !(Z2s (g.val : Int) k.val == o) := by decide +kernel
theorem Zqw {n : Nat} {o : Bool} {l : List Nat} {k x : Nat} (h : l[k]? = some x) : Z7q n (l.take (k + 1)) o = (Z7q n (l.take k) o && Z2s (n : Int) x == o) := by
 unfold Z7q;rw [List.take_add_one, h, Option.toList_some, List.all_append];simp
set_option maxRecDepth 20000 in
set_option maxHeartbeats 4000000 in
theorem Zxh (n : Nat) (nI : Int) (hn : IsI nI n) (hn16 : n < 16) (l : List Nat) (hl4 : ∀ x ∈ l, x < 4) (hl : l.length <= 1000000) (L : List D) (hL : L = Z1y l) (o : Bool) (oI : Int) (ho : oI = Zyu o) (b : Bool) (hb : b = Z7q n l o) (Q) (hq : Q (RA.ret (.v (.bool b))) []) :
  CallA Try.prog 115 [I nI, .sl 1 L, I oI] [] Q := by
 obtain ⟨A, hA⟩ : ∃ A, A = ar := ⟨_, rfl⟩;have hLl : L.length = l.length := by rw [hL]; simp [Z1y]
 have hd0 : Z7q n (l.take 0) o = true := by rw [List.take_zero]; rfl
 refine Z5 Z0 hA Try.func115 rfl rfl rfl rfl rfl fun S hS => ?_;cbv;refine Zb hS ?_;refine Za (α := Int × Nat) (fun q => { env := [(0, I nI), (1, .sl 1 L), (2, I oI), (7, I q.1)], H := [], nt := 23, dfs := [] })
  (fun q => l.length - q.2) (fun q => q.2 <= l.length /\ IsI q.1 q.2 /\ Z7q n (l.take q.2) o = true) (0, 0) ⟨Nat.zero_le _, ⟨rfl⟩, hd0⟩ ?_ ?_
 ·exact Zf [] ⟨by decide, Z9, trivial, ⟨rfl, rfl, rfl, rfl, trivial⟩, rfl, rfl⟩
 rintro ⟨i, k⟩ ⟨u1, u2, u3⟩;dsimp only at u1 u2 u3;have hyes : A.cmp .lss i (A.oi (A.len L)) = true -> k < l.length := fun c => Z31 hA hLl u2 c;have hno : A.cmp .lss i (A.oi (A.len L)) = false -> b = true := fun c => by
  have := Z21 hA hLl u2 c;rw [List.take_of_length_le this] at u3; rw [hb, u3]
 refine Zi Z0 hA hS ?_;cbv;refine bm (fun c => ?_) (fun c => ?_)
 ·have hk := hyes c;obtain ⟨x, hx⟩ : ∃ x, l[k]? = some x := ⟨_, List.getElem?_eq_getElem hk⟩;have hx4 : x < 4 := hl4 x (List.mem_of_getElem? hx);obtain ⟨xI, hxI⟩ : ∃ xI : Int, xI = (x : Nat) := ⟨_, rfl⟩;have gL := Z18 hA u2 (show L[k]? = some (I xI) by rw [hL, hxI]; simp [Z1y, hx]);have iL := Z1b hA hLl u2 hk;have hf := Zy hA u2 (by omega);have hu2 := Zz hA u2;have hms : l.length - (k + 1) < l.length - k := by omega
  have hnn : A.nneg xI := by subst hA; show 0 <= xI; omega
  have hbit : A.cmp .neq (A.bits .and .i64 (A.shift .shr .i64 nI xI) 1) oI = !(Z2s (n : Int) x == o) := by
   subst hA; rw [hn.eq, hxI, ho]; exact Zwb ⟨n, hn16⟩ ⟨x, hx4⟩ o
  have hnx := Zqw (n := n) (o := o) hx;rw [u3, Bool.true_and] at hnx;have hbad : A.cmp .neq (A.bits .and .i64 (A.shift .shr .i64 nI xI) 1) oI = true -> b = false := fun c => by
   rw [hbit] at c;have h1 : Z7q n (l.take (k + 1)) o = false := by rw [hnx]; simpa using c
   rw [hb]
   cases hd : Z7q n l o with
   | false => rfl
   | true =>
    have : Z7q n (l.take (k + 1)) o = true := by
     unfold Z7q at hd ⊢;rw [List.all_eq_true] at hd ⊢;exact fun y hy => hd y (List.mem_of_mem_take hy)
    rw [this] at h1; cases h1
  have hgood : A.cmp .neq (A.bits .and .i64 (A.shift .shr .i64 nI xI) 1) oI = false -> Z7q n (l.take (k + 1)) o = true := fun c => by
   rw [hbit] at c;rw [hnx]; simpa using c
  clear hbit hnx u3;cbv;refine ⟨iL, ⟨_, gL, ?_⟩⟩;cbv;refine ⟨hnn, ?_⟩;refine bm (fun c2 => ?_) (fun c2 => ?_)
  ·rw [hbad c2] at hq;cbv;refine Z7 ?_;cbv;exact Z2 [] (by decide) Z9 (H' := []) (d' := .v (.bool false)) trivial rfl (Z1 hq)
  ·have hz := hgood c2;cbv;refine ⟨hf, ?_⟩;refine Z8 (A.add i 1, k + 1) [] ⟨hk, hu2, hz⟩ hms ?_;exact ⟨by decide, Z9, trivial, ⟨rfl, rfl, rfl, rfl, trivial⟩, rfl, rfl⟩
 ·rw [hno c] at hq;cbv;refine Z7 ?_;cbv;exact Z2 [] (by decide) Z9 (H' := []) (d' := .v (.bool true)) trivial rfl (Z1 hq)
structure ExI (T : Nat -> Prop) (P1 P0 : Nat -> Bool) (n : Nat) (ex : Bool) : Prop where
 ex : ex = true ↔ Zg9 T (fun m => P1 m = true /\ P0 m = true) n
theorem ExI.start (T : Nat -> Prop) (P1 P0 : Nat -> Bool) : ExI T P1 P0 0 false := ⟨fun h => Bool.noConfusion h, fun h => absurd h (Zj9 _ _)⟩
theorem ExI.next {T : Nat -> Prop} {P1 P0 : Nat -> Bool} {n : Nat} {ex : Bool} (h : ExI T P1 P0 n ex) {b : Bool} (hb : b = true ↔ T n) {ex' : Bool} (h1 : ex' = (ex || (b && (P1 n && P0 n)))) : ExI T P1 P0 (n + 1) ex' :=
 ⟨by rw [h1, Zbw, <- h.ex, <- hb, Bool.or_eq_true, Bool.and_eq_true, Bool.and_eq_true]⟩
section
variable (j : Jn) (hf : j.first.length <= 1152921504606846976) (hm : j.moves.length <= 1152921504606846976) (FL ML : List D) (hF : FL = j.first.map Zv) (hM : ML = j.moves.map mvD)
include hf hm hF hM
set_option maxRecDepth 40000 in
set_option maxHeartbeats 16000000 in
theorem Zxi (x y : List Int) (hx : x.length <= 1000000) (hy : y.length <= 1000000) (XL YL : List D) (hX : XL = x.map I) (hY : YL = y.map I) (e : Int) (he : e = Zlm j x y) (L0 : List D) (hL0 : L0 = okL e ((Z9s j (Z3z x) (Z3z y)).map I)) (Q) (hq : Q (RA.ret (.tup [.sl 1 L0, I e])) []) : CallA Try.prog 60 [.agg [I j.ins, .sl 1 FL, .sl 5 ML], .sl 1 XL, .sl 1 YL] [] Q := by
 obtain ⟨A, hA⟩ : ∃ A, A = ar := ⟨_, rfl⟩;have bT : A.bnot true = false := by subst hA; rfl
 have bF : A.bnot false = true := by subst hA; rfl
 obtain ⟨e1, he1⟩ : ∃ e1, e1 = Zr j := ⟨_, rfl⟩;obtain ⟨e2, he2⟩ : ∃ e2, e2 = Z44 j.ins x := ⟨_, rfl⟩;obtain ⟨e3, he3⟩ : ∃ e3, e3 = Z44 j.ins y := ⟨_, rfl⟩;obtain ⟨sb, hsb⟩ : ∃ sb, sb = Zc j := ⟨_, rfl⟩;obtain ⟨ii, hii⟩ : ∃ ii, ii = j.ins := ⟨_, rfl⟩;have hchk := fun Q h => Zdo j hf hm FL ML hF hM e1 he1 Q h;have hwk : ∀ z : Int, WkD (.tup [.v (.slice none 0 0), I z]) (.tup [.sl 1 [], I z]) := fun z => WkD.tup ⟨WkD.nil, .rfl, trivial⟩;have hzE : ∀ z, Zlm j x y = z -> z ≠ 0 -> Q (RA.ret (.tup [.sl 1 [], I z])) [] := fun z h1 h2 => by
  rw [hL0, he, h1, Ze9 h2] at hq; exact hq
 have z1 : e1 ≠ 0 -> Q (RA.ret (.tup [.sl 1 [], I e1])) [] := fun h => hzE e1 (by unfold Zlm; rw [if_pos (by rw [<- he1]; exact h), he1]) h;have z2 : e1 = 0 -> e2 ≠ 0 -> Q (RA.ret (.tup [.sl 1 [], I e2])) [] := fun h1 h => hzE e2 (by unfold Zlm; rw [if_neg (fun g => g (he1.symm.trans h1)), if_pos (by rw [<- he2]; exact h), he2]) h;have z3 : e1 = 0 -> e2 = 0 -> e3 ≠ 0 -> Q (RA.ret (.tup [.sl 1 [], I e3])) [] := fun h1 h2 h => hzE e3 (by unfold Zlm; rw [if_neg (fun g => g (he1.symm.trans h1)), if_neg (fun g => g (he2.symm.trans h2)), if_pos (by rw [<- he3]; exact h), he3]) h;have z9 : e1 = 0 -> e2 = 0 -> e3 = 0 -> sb = false -> Q (RA.ret (.tup [.sl 1 [], I 9])) [] := fun h1 h2 h3 h => hzE 9 (by unfold Zlm; rw [if_neg (fun g => g (he1.symm.trans h1)), if_neg (fun g => g (he2.symm.trans h2)), if_neg (fun g => g (he3.symm.trans h3)), <- hsb, h]; rfl) (by decide);have z11 : e1 = 0 -> e2 = 0 -> e3 = 0 -> sb = true -> Z9s j (Z3z x) (Z3z y) = [] -> Q (RA.ret (.tup [.sl 1 [], I 11])) [] := fun h1 h2 h3 h h4 => hzE 11 (by unfold Zlm; rw [if_neg (fun g => g (he1.symm.trans h1)), if_neg (fun g => g (he2.symm.trans h2)), if_neg (fun g => g (he3.symm.trans h3)), <- hsb, if_pos h, if_pos h4]) (by decide);have z0 : e1 = 0 -> e2 = 0 -> e3 = 0 -> sb = true -> Z9s j (Z3z x) (Z3z y) ≠ [] -> ∀ L, L = (Z9s j (Z3z x) (Z3z y)).map I -> Q (RA.ret (.tup [.sl 1 L, I 0])) [] := fun h1 h2 h3 h h4 L hL => by
  have : e = 0 := by rw [he]; unfold Zlm; rw [if_neg (fun g => g (he1.symm.trans h1)), if_neg (fun g => g (he2.symm.trans h2)), if_neg (fun g => g (he3.symm.trans h3)), <- hsb, if_pos h, if_neg h4]
  rw [hL0, this, Zd1, <- hL] at hq; exact hq
 clear hzE hq hL0 he;have hset : e1 = 0 -> (∀ Q, Q (RA.ret (I e2)) [] -> CallA Try.prog 112 [.sl 1 XL, I ii] [] Q) /\ (∀ Q, Q (RA.ret (I e3)) [] -> CallA Try.prog 112 [.sl 1 YL, I ii] [] Q) /\ (∀ Q, Q (RA.ret (.v (.bool sb))) [] -> CallA Try.prog 84 [.agg [I ii, .sl 1 FL, .sl 5 ML]] [] Q) /\ (∀ Q, (∀ BL, BL = (Z6 j.moves).map I -> Q (RA.ret (.sl 1 BL)) []) -> CallA Try.prog 42 [.agg [I ii, .sl 1 FL, .sl 5 ML]] [] Q) := fun h => by
  have hj : JOk j := Z2r (he1.symm.trans h);have hi1 := hj.i1;have hi4 := hj.i4;exact ⟨fun Q g => Zdr x (by omega) ii (by omega) XL hX e2 (by rw [hii]; exact he2) Q g, fun Q g => Zdr y (by omega) ii (by omega) YL hY e3 (by rw [hii]; exact he3) Q g, fun Q g => by rw [hii]; exact Za4 j hj FL ML hF hM sb hsb Q g, fun Q g => by rw [hii]; exact Zho j (by have := hj.m10; omega) FL ML hM Q g⟩
 have hbat : e1 = 0 -> e2 = 0 -> e3 = 0 -> (Z6 j.moves).length <= 4 /\ ∃ xn yn : List Nat, (XL = Z1y xn /\ YL = Z1y yn /\ xn.length <= 1000000 /\ yn.length <= 1000000 /\ (∀ k ∈ xn, k < 4) /\ (∀ k ∈ yn, k < 4)) /\ ∀ (b : Nat) (bI : Int), IsI bI b -> ∃ T : Nat -> Prop, (∀ Q, (∀ OL, FndV OL T -> Q (RA.ret (.sl 1 OL)) []) -> CallA Try.prog 100 [.agg [I ii, .sl 1 FL, .sl 5 ML], .agg [I 1, I 0, I 0, .sl 1 [I bI]]] [] Q) /\ ∀ ex : Bool, ExI T (fun m => Z7q m xn true) (fun m => Z7q m yn false) 16 ex -> Z71 j (Z3z x) (Z3z y) b = ex := fun h1 h2 h3 => by
  have hj : JOk j := Z2r (he1.symm.trans h1);have hi4 := hj.i4;have mx := Zav (he2.symm.trans h2);have my := Zav (he3.symm.trans h3);have x4 : ∀ k ∈ x.map Int.toNat, k < 4 := fun k hk => by
   obtain ⟨z, hz, rfl⟩ := List.mem_map.1 hk;have := mx z hz; omega
  have y4 : ∀ k ∈ y.map Int.toNat, k < 4 := fun k hk => by
   obtain ⟨z, hz, rfl⟩ := List.mem_map.1 hk;have := my z hz; omega
  have xb : XL = Z1y (x.map Int.toNat) := by
   rw [hX, Z1y]
   conv => lhs; rw [<- Zdq fun z hz => (mx z hz).1]
   rw [List.map_map]; rfl
  have yb : YL = Z1y (y.map Int.toNat) := by
   rw [hY, Z1y]
   conv => lhs; rw [<- Zdq fun z hz => (my z hz).1]
   rw [List.map_map]; rfl
  refine ⟨hj.b4, x.map Int.toNat, y.map Int.toNat, ⟨xb, yb, by rw [List.length_map]; exact hx, by rw [List.length_map]; exact hy, x4, y4⟩, fun b bI hb => ?_⟩;have hbd := Zbx hj ⟨1, 0, 0, [(b : Int)]⟩;refine ⟨fun m : Nat => ∃ s ∈ Zd j (Zm ⟨1, 0, 0, [(b : Int)]⟩) 0, s.2 = (m : Int), fun Q h => ?_, fun ex h => ?_⟩
  ·have := Zg6 j hj ⟨1, 0, 0, [(b : Int)]⟩ (by show 1 <= 1000000; decide) FL ML [I bI] hF hM (by rw [hb.eq]; rfl) Q h;rw [hii]; exact this
  ·refine Zqu hj x4 y4 b ?_;rw [h.ex, Za6 (fun s hs => (hbd s hs).2)]
 clear hF hM he1 he2 he3 hsb hX hY;rw [<- hii] at hchk ⊢;clear hii hf hm hx hy;refine Z5 Z0 hA Try.func60 rfl rfl rfl rfl rfl fun S hS => ?_;cbv;refine Z4 hS [.agg [I ii, .sl 1 FL, .sl 5 ML]] [] [] rfl rfl rfl rfl rfl rfl rfl rfl (by decide) trivial (hchk _ ?_);refine Z3 Z0 hA hS ?_;cbv;refine bm (fun c => ?_) (fun c => ?_)
 ·have hz := z1 (xne hA c);cbv;refine Z37 (hwk e1) ?_;exact Z2 [] (by decide) Z9 (H' := []) (d' := .tup [.sl 1 [], I e1]) trivial rfl (Z1 hz)
 have a1 : e1 = 0 := by have := Z4t hA c; exact this
 obtain ⟨hs1, hs2, hst, hbn⟩ := hset a1;cbv;refine Z4 hS [.sl 1 XL, I ii] [] [] rfl rfl rfl rfl rfl rfl rfl rfl (by decide) trivial (hs1 _ ?_);refine Z3 Z0 hA hS ?_;cbv;refine bm (fun c => ?_) (fun c => ?_)
 ·have hz := z2 a1 (xne hA c);cbv;refine Z37 (hwk e2) ?_;exact Z2 [] (by decide) Z9 (H' := []) (d' := .tup [.sl 1 [], I e2]) trivial rfl (Z1 hz)
 have a2 : e2 = 0 := by have := Z4t hA c; exact this
 cbv;refine Z4 hS [.sl 1 YL, I ii] [] [] rfl rfl rfl rfl rfl rfl rfl rfl (by decide) trivial (hs2 _ ?_);refine Z3 Z0 hA hS ?_;cbv;refine bm (fun c => ?_) (fun c => ?_)
 ·have hz := z3 a1 a2 (xne hA c);cbv;refine Z37 (hwk e3) ?_;exact Z2 [] (by decide) Z9 (H' := []) (d' := .tup [.sl 1 [], I e3]) trivial rfl (Z1 hz)
 have a3 : e3 = 0 := by have := Z4t hA c; exact this
 cbv;refine Z4 hS [.agg [I ii, .sl 1 FL, .sl 5 ML]] [] [] rfl rfl rfl rfl rfl rfl rfl rfl (by decide) trivial (hst _ ?_);refine Z3 Z0 hA hS ?_
 cases sb with
 | false =>
  have hz := z9 a1 a2 a3 rfl;cbv;refine bmT bF ?_;cbv;refine Z37 (hwk 9) ?_;exact Z2 [] (by decide) Z9 (H' := []) (d' := .tup [.sl 1 [], I 9]) trivial rfl (Z1 hz)
 | true =>
 have y11 := z11 a1 a2 a3 rfl;have y0 := z0 a1 a2 a3 rfl;obtain ⟨hb4, xn, yn, ⟨hX, hY, hxl, hyl, hx4, hy4⟩, hT⟩ := hbat a1 a2 a3;obtain ⟨NB, hNB⟩ : ∃ NB, NB = (Z6 j.moves).length := ⟨_, rfl⟩;rw [<- hNB] at hb4;obtain ⟨sN, hsN⟩ : ∃ sN : Nat -> List Nat, sN = Z88 j (Z3z x) (Z3z y) := ⟨_, rfl⟩;obtain ⟨sB, hsB⟩ : ∃ sB : Nat -> Bool, sB = Z71 j (Z3z x) (Z3z y) := ⟨_, rfl⟩;have hs0 : sN 0 = [] := by rw [hsN]; rfl
 have hsS : ∀ k, sN (k + 1) = if sB k = true then sN k ++ [k] else sN k := fun k => by rw [hsN, hsB]; exact Zhj j _ _ k
 have hsL : ∀ k, (sN k).length <= k := fun k => by rw [hsN]; exact Zl3 j _ _ k
 have hsA : Z9s j (Z3z x) (Z3z y) = (sN NB).map fun b : Nat => (b : Int) := by rw [hsN, hNB]; rfl
 rw [hsA] at y11 y0;rw [<- hsB] at hT;have hra := fun n nI hn hn16 o oI ho L l hL hl hl4 b hb Q h => Zxh n nI hn hn16 l hl4 hl L hL o oI ho b hb Q h;clear z1 z2 z3 z9 z11 z0 hbat hset hs1 hs2 hst hchk hsN hsB hsA;cbv;refine bmF bT ?_;cbv;refine Zb hS ?_;refine Za (α := Int × Nat × Nat × List D) (fun q => { env := [(1, .sl 1 XL), (2, .sl 1 YL), (3, .b 0 0), (11, .o 1 1 q.2.2.1), (12, I q.1)], H := [.box (.agg [I ii, .sl 1 FL, .sl 5 ML]), .els 1 q.2.2.2], nt := 82, dfs := [] })
  (fun q => NB - q.2.1) (fun q => q.2.1 <= NB /\ IsI q.1 q.2.1 /\ q.2.2.1 = (sN q.2.1).length /\ q.2.2.2 = Z1y (sN q.2.1)) (0, 0, 0, []) ⟨Nat.zero_le _, ⟨rfl⟩, by rw [hs0]; rfl, by rw [hs0]; rfl⟩ ?_ ?_
 ·refine Z2a 11 1 rfl ?_;exact Zf [0, 1] ⟨by decide, Z9, ⟨rfl, rfl, trivial⟩, ⟨rfl, rfl, rfl, rfl, rfl, trivial⟩, rfl, rfl⟩
 rintro ⟨bI, b, m, R⟩ ⟨u1, u2, u3, u4⟩;dsimp only at u1 u2 u3 u4;have hRl : R.length = m := by rw [u4, u3]; simp [Z1y]
 have hm6 : m <= 1000000 := by have := hsL b; omega
 have hSb := hsS b;obtain ⟨T, hfnd, hex⟩ := hT b bI u2;obtain ⟨P1, hP1⟩ : ∃ P1 : Nat -> Bool, P1 = fun m => Z7q m xn true := ⟨_, rfl⟩;obtain ⟨P0, hP0⟩ : ∃ P0 : Nat -> Bool, P0 = fun m => Z7q m yn false := ⟨_, rfl⟩;have hr1 : ∀ n nI, IsI nI n -> n < 16 -> ∀ Q, Q (RA.ret (.v (.bool (P1 n)))) [] -> CallA Try.prog 115 [I nI, .sl 1 XL, I 1] [] Q := fun n nI h1 h2 Q h => Zxh n nI h1 h2 xn hx4 hxl XL hX true 1 rfl (P1 n) (by rw [hP1]) Q h;have hr0 : ∀ n nI, IsI nI n -> n < 16 -> ∀ Q, Q (RA.ret (.v (.bool (P0 n)))) [] -> CallA Try.prog 115 [I nI, .sl 1 YL, I 0] [] Q := fun n nI h1 h2 Q h => Zxh n nI h1 h2 yn hy4 hyl YL hY false 0 rfl (P0 n) (by rw [hP0]) Q h;rw [<- hP1, <- hP0] at hex;clear hP1 hP0 hra;refine Zi Z0 hA hS ?_;cbv;refine Z4 hS [.agg [I ii, .sl 1 FL, .sl 5 ML]] [] [] rfl rfl rfl rfl rfl rfl rfl rfl (by decide) trivial (hbn _ fun BL hBL => ?_);have hBl : BL.length = NB := by rw [hBL, hNB, List.length_map]
 refine Z3 Z0 hA hS ?_;cbv;refine bm (fun c => ?_) (fun c => ?_)
 ·have hb : b < NB := Z31 hA hBl u2 c;have hfb := Zy hA u2 (by omega);have hu2 := Zz hA u2;have hms : NB - (b + 1) < NB - b := by omega
  have hbI : I bI = I ((b : Nat) : Int) := by rw [u2.eq]
  cbv;refine Z26 hS (Z1a hA [2] ?_);cbv;refine ⟨by subst hA; rfl, by subst hA; rfl, Z7 ?_⟩;refine Z4 hS [.agg [I ii, .sl 1 FL, .sl 5 ML], .agg [I 1, I 0, I 0, .sl 1 [I bI]]] [] [] rfl rfl rfl rfl rfl rfl rfl rfl (by decide) trivial (hfnd _ fun OL hOL => ?_);have hOl : OL.length = 16 := hOL.len;refine Z3 Z0 hA hS ?_;cbv;refine Zb hS ?_;refine Za (α := Int × Nat × Bool) (fun q => { env := [(1, .sl 1 XL), (2, .sl 1 YL), (3, .b 0 0), (11, .o 1 1 m), (12, I bI), (13, .sl 1 OL), (14, .v (.bool q.2.2)), (15, I q.1)], H := [.box (.agg [I ii, .sl 1 FL, .sl 5 ML]), .els 1 R], nt := 82, dfs := [] })
   (fun q => 16 - q.2.1) (fun q => q.2.1 <= 16 /\ IsI q.1 q.2.1 /\ ExI T P1 P0 q.2.1 q.2.2) (0, 0, false) ⟨Nat.zero_le _, ⟨rfl⟩, ExI.start T P1 P0⟩ ?_ ?_
  ·exact Zf [0, 1] ⟨by decide, Z9, ⟨rfl, rfl, trivial⟩, ⟨rfl, rfl, rfl, rfl, rfl, rfl, rfl, rfl, trivial⟩, rfl, rfl⟩
  rintro ⟨nI, n, ex⟩ ⟨w1, w2, w3⟩;dsimp only at w1 w2 w3;have hyes : A.cmp .lss nI (A.oi (A.len OL)) = true -> n < 16 := fun c => Z31 hA hOl w2 c;have hno : A.cmp .lss nI (A.oi (A.len OL)) = false -> n = 16 := fun c => by have := Z21 hA hOl w2 c; omega
  refine Zi Z0 hA hS ?_;cbv;refine bm (fun c2 => ?_) (fun c2 => ?_)
  ·have hn := hyes c2;obtain ⟨q, hq1, hq2⟩ := hOL.is hn;have gO := Z18 hA w2 hq1;have iO := Z1b hA hOl w2 hn;have hfn := Zy hA w2 (by omega);have hw2 := Zz hA w2;have hms2 : 16 - (n + 1) < 16 - n := by omega
   have hn1 : n + 1 <= 16 := hn;have hnx : ∀ ex', ex' = (ex || (q && (P1 n && P0 n))) -> ExI T P1 P0 (n + 1) ex' := fun ex' h => w3.next hq2 h;have k1 := hr1 n nI w2 hn;have k0 := hr0 n nI w2 hn;obtain ⟨p1, hp1⟩ : ∃ p1, p1 = P1 n := ⟨_, rfl⟩;obtain ⟨p0, hp0⟩ : ∃ p0, p0 = P0 n := ⟨_, rfl⟩;rw [<- hp1] at k1;rw [<- hp0] at k0;rw [<- hp1, <- hp0] at hnx;clear hp1 hp0 w3 hq2
   cases ex with
   | true =>
    have hz := hnx true rfl;cbv;refine Zau hS rfl rfl rfl rfl rfl rfl ?_;refine Z3 Z0 hA hS ?_;cbv;refine Zau hS rfl rfl rfl rfl rfl rfl ?_;refine Z3 Z0 hA hS ?_;cbv;refine ⟨hfn, ?_⟩;refine Z8 (A.add nI 1, n + 1, true) [0, 1] ⟨hn1, hw2, hz⟩ hms2 ?_;exact ⟨by decide, Z9, ⟨rfl, rfl, trivial⟩, ⟨rfl, rfl, rfl, rfl, rfl, rfl, rfl, rfl, trivial⟩, rfl, rfl⟩
   | false =>
    cases q with
    | false =>
     have hz := hnx false rfl;cbv;refine ⟨iO, ⟨_, gO, ?_⟩⟩;cbv;refine Zg (f := 0) hS rfl rfl rfl rfl rfl rfl rfl rfl (fun e => Bool.noConfusion e) (fun _ => ?_);refine Z3 Z0 hA hS ?_;cbv;refine Zg (f := 0) hS rfl rfl rfl rfl rfl rfl rfl rfl (fun e => Bool.noConfusion e) (fun _ => ?_);refine Z3 Z0 hA hS ?_;cbv;refine ⟨hfn, ?_⟩;refine Z8 (A.add nI 1, n + 1, false) [0, 1] ⟨hn1, hw2, hz⟩ hms2 ?_;exact ⟨by decide, Z9, ⟨rfl, rfl, trivial⟩, ⟨rfl, rfl, rfl, rfl, rfl, rfl, rfl, rfl, trivial⟩, rfl, rfl⟩
    | true =>
     cases p1 with
     | false =>
      have hz := hnx false rfl;cbv;refine ⟨iO, ⟨_, gO, ?_⟩⟩;cbv;refine Zg hS (b := true) rfl rfl rfl rfl rfl rfl rfl rfl (fun _ => ⟨[], _, [I nI, .sl 1 XL, I 1], [], [], rfl, rfl, rfl, by decide, trivial, k1 _ ?_⟩) (fun e => absurd rfl e);refine Z3 Z0 hA hS ?_;cbv;refine Zg (f := 0) hS rfl rfl rfl rfl rfl rfl rfl rfl (fun e => Bool.noConfusion e) (fun _ => ?_);refine Z3 Z0 hA hS ?_;cbv;refine ⟨hfn, ?_⟩;refine Z8 (A.add nI 1, n + 1, false) [0, 1] ⟨hn1, hw2, hz⟩ hms2 ?_;exact ⟨by decide, Z9, ⟨rfl, rfl, trivial⟩, ⟨rfl, rfl, rfl, rfl, rfl, rfl, rfl, rfl, trivial⟩, rfl, rfl⟩
     | true =>
      have hz := hnx p0 rfl;cbv;refine ⟨iO, ⟨_, gO, ?_⟩⟩;cbv;refine Zg hS (b := true) rfl rfl rfl rfl rfl rfl rfl rfl (fun _ => ⟨[], _, [I nI, .sl 1 XL, I 1], [], [], rfl, rfl, rfl, by decide, trivial, k1 _ ?_⟩) (fun e => absurd rfl e);refine Z3 Z0 hA hS ?_;cbv;refine Zg hS (b := true) rfl rfl rfl rfl rfl rfl rfl rfl (fun _ => ⟨[], _, [I nI, .sl 1 YL, I 0], [], [], rfl, rfl, rfl, by decide, trivial, k0 _ ?_⟩) (fun e => absurd rfl e);refine Z3 Z0 hA hS ?_;cbv;refine ⟨hfn, ?_⟩;refine Z8 (A.add nI 1, n + 1, p0) [0, 1] ⟨hn1, hw2, hz⟩ hms2 ?_;exact ⟨by decide, Z9, ⟨rfl, rfl, trivial⟩, ⟨rfl, rfl, rfl, rfl, rfl, rfl, rfl, rfl, trivial⟩, rfl, rfl⟩
  ·have hn := hno c2;rw [hn] at w3;have hse := hex ex w3;rw [hse] at hSb;have hn2 : A.addN m 1 = m + 1 := Z2e hA _ _
   cases ex with
   | true =>
    rw [if_pos rfl] at hSb;have h1 : m + 1 = (sN (b + 1)).length := by rw [hSb, u3]; simp
    have h2 : A.app R [I bI] = Z1y (sN (b + 1)) := by rw [hSb, Z33 hA, u4, hbI]; simp [Z1y]
    cbv;refine Z7 ?_;cbv;refine ⟨Ze hA hRl, Ze hA rfl, Z27 hA hm6 (by decide), hfb, ?_⟩;refine Z8 (A.add bI 1, b + 1, m + 1, A.app R [I bI]) [0, 3] ⟨hb, hu2, h1, h2⟩ hms ?_;exact ⟨by decide, Z9, ⟨rfl, rfl, trivial⟩, ⟨rfl, rfl, rfl, by rw [<- hn2]; rfl, rfl, trivial⟩, rfl, rfl⟩
   | false =>
    rw [if_neg Bool.false_ne_true] at hSb;have h1 : m = (sN (b + 1)).length := by rw [hSb, u3]
    have h2 : R = Z1y (sN (b + 1)) := by rw [hSb, u4]
    cbv;refine Z7 ?_;cbv;refine ⟨hfb, ?_⟩;refine Z8 (A.add bI 1, b + 1, m, R) [0, 1] ⟨hb, hu2, h1, h2⟩ hms ?_;exact ⟨by decide, Z9, ⟨rfl, rfl, trivial⟩, ⟨rfl, rfl, rfl, rfl, rfl, trivial⟩, rfl, rfl⟩
 ·have hb : b = NB := by have := Z21 hA hBl u2 c; omega
  rw [hb] at u3 u4;have hRe : R = ((sN NB).map fun b : Nat => (b : Int)).map I := by rw [u4, Z1y, List.map_map]; rfl
  by_cases h0 : sN NB = []
  ·have hm0 : m = 0 := by rw [u3, h0]; rfl
   have hz := y11 (by rw [h0]; rfl);have hc : A.cmp .eql (A.oi m) 0 = true := by subst hA; rw [hm0]; rfl
   cbv;refine Z7 ?_;cbv;refine bmT hc ?_;cbv;refine Z37 (hwk 11) ?_;exact Z2 [] (by decide) Z9 (H' := []) (d' := .tup [.sl 1 [], I 11]) trivial rfl (Z1 hz)
  ·have hmn : m ≠ 0 := by rw [u3]; exact fun h => h0 (List.eq_nil_of_length_eq_zero h)
   have hz := y0 (fun h => h0 (List.map_eq_nil_iff.1 h)) R hRe;have hc : A.cmp .eql (A.oi m) 0 = false := by
    have e : A.oi m = (m : Int) := xoi hA m;rw [e]; subst hA; simp [ar, Z25]; omega
   cbv;refine Z7 ?_;cbv;refine bmF hc ?_;cbv;refine Z1w [1] ?_;cbv;exact ⟨by cases R <;> exact hRl.symm, Z2 [] (by decide) Z9 (H' := []) (d' := .tup [.sl 1 R, I 0]) trivial rfl (Z1 hz)⟩
end
end Go.Proofs.Ytecfpfhkicapeaa
