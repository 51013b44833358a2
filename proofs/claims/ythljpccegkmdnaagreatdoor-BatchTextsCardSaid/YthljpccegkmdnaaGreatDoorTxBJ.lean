/- Part TxBJ of the proofs about the benches of the accordion maker: see the last text of the claim for what is proved. -/
import Derived.Test.YthljpccegkmdnaaGreatDoorTxBI
import Derived.Test.YthljpccegkmdnaaGreatDoorTxBD
import Derived.Test.YthljpccegkmdnaaGreatDoorTxAW
import Derived.Test.YthljpccegkmdnaaGreatDoorTxBA
import Derived.Test.YthljpccegkmdnaaGreatDoorTxAL
set_option linter.unusedVariables false
set_option linter.unusedSimpArgs false
set_option linter.unnecessarySimpa false
set_option linter.constructorNameAsVariable false

namespace Go.Batch
structure Ask where
 kind : Int
 inst : Int
 batch : Int
 batches : List Int
structure FOk (come : Nat) (s : Ste Int) : Prop where
 l : LOk s.1
 n0 : 0 <= s.2
 n15 : s.2 <= 15
 z : ∀ k, come <= k -> s.1.getD k 0 = 0
def Z7h (l : List Int) : Nat := (l.getD 0 0 + 6 * (l.getD 1 0 + 6 * (l.getD 2 0 + 6 * l.getD 3 0))).toNat
def Z1i (s : Ste Int) : Nat := s.2.toNat * 1296 + Z7h s.1
def Z1z (n : Nat) : List Int := [((n % 6 : Nat) : Int), ((n / 6 % 6 : Nat) : Int), ((n / 36 % 6 : Nat) : Int), ((n / 216 % 6 : Nat) : Int)]
theorem Z9x {l : List Int} (h : LOk l) : Z7h l < 1296 := by
 have a0 := h.lo 0; have a1 := h.lo 1; have a2 := h.lo 2; have a3 := h.lo 3;have b0 := h.hi 0; have b1 := h.hi 1; have b2 := h.hi 2; have b3 := h.hi 3;unfold Z7h; omega
theorem Zkt {l : List Int} (h : LOk l) : Z1z (Z7h l) = l := by
 have a0 := h.lo 0; have a1 := h.lo 1; have a2 := h.lo 2; have a3 := h.lo 3;have b0 := h.hi 0; have b1 := h.hi 1; have b2 := h.hi 2; have b3 := h.hi 3;obtain ⟨a, b, c, d, e⟩ : ∃ a b c d, l = [a, b, c, d] := by
  have := h.len
  match l, this with
  | [a, b, c, d], _ => exact ⟨a, b, c, d, rfl⟩
 subst e;simp only [List.getD_cons_zero, List.getD_cons_succ] at a0 a1 a2 a3 b0 b1 b2 b3;unfold Z7h Z1z;simp only [List.getD_cons_zero, List.getD_cons_succ]
 congr 1
 ·omega
 congr 1
 ·omega
 congr 1
 ·omega
 congr 1
 omega
theorem Zku {n : Nat} (h : n < 1296) : Z7h (Z1z n) = n := by
 unfold Z7h Z1z;simp only [List.getD_cons_zero, List.getD_cons_succ];omega
def Z3o (n : Nat) : Ste Int := (Z1z (n % 1296), ((n / 1296 : Nat) : Int))
theorem Ze3 {n : Nat} : Z1i (Z3o n) = n := by
 unfold Z1i Z3o;simp only;rw [Zku (by omega)];omega
theorem Z57 {s : Ste Int} (h : LOk s.1) (h0 : 0 <= s.2) : Z3o (Z1i s) = s := by
 have := Z9x h;unfold Z3o Z1i;rw [show (s.2.toNat * 1296 + Z7h s.1) % 1296 = Z7h s.1 by omega, show (s.2.toNat * 1296 + Z7h s.1) / 1296 = s.2.toNat by omega, Zkt h];exact Prod.ext rfl (by simp only; omega)
theorem Z4x {s : Ste Int} (h : LOk s.1) (h0 : 0 <= s.2) (h15 : s.2 <= 15) : Z1i s < 20736 := by
 have := Z9x h;unfold Z1i; omega
structure Marks (L : List Bool) (S : Ste Int -> Prop) : Prop where
 len : L.length = 20736
 at_ : ∀ n, n < 20736 -> (L[n]? = some true ↔ S (Z3o n))
theorem Marks.set {L : List Bool} {S : Ste Int -> Prop} (h : Marks L S) {s : Ste Int} (hl : LOk s.1) (h0 : 0 <= s.2) (h15 : s.2 <= 15) : Marks (L.set (Z1i s) true) fun x => S x ∨ x = s := by
 have hp := Z4x hl h0 h15;refine ⟨by rw [List.length_set]; exact h.len, fun n hn => ?_⟩;rw [List.getElem?_set]
 by_cases e : Z1i s = n
 ·subst e;rw [if_pos rfl, if_pos (by rw [h.len]; exact hp), Z57 hl h0];simp
 ·rw [if_neg e, h.at_ n hn];constructor
  ·exact .inl
  ·rintro (g | g)
   ·exact g
   ·exact absurd (by rw [<- g, Ze3]) e
theorem Marks.congr {L : List Bool} {S T : Ste Int -> Prop} (h : Marks L S) (e : ∀ x, S x ↔ T x) : Marks L T := ⟨h.len, fun n hn => by rw [h.at_ n hn, e]⟩
def before (S : List (Ste Int)) (n : Nat) (s : Ste Int) : Prop := s ∈ S /\ Z1i s < n
end Go.Batch

namespace Go.Proofs.YthljpccegkmdnaaGreatDoor
open Go Go.Abs Go.Proofs Go.Batch
theorem rAmong (n lo hi : Int) (b : Bool) (hb : b = decide (lo <= n /\ n <= hi)) (Q) (hq : Q (RA.ret (.v (.bool b))) []) : CallA Tryz.prog 141 [I n, I lo, I hi] [] Q := by
 obtain ⟨A, hA⟩ : ∃ A, A = ar := ⟨_, rfl⟩;have h1 : A.cmp .geq n lo = true -> Q (RA.ret (.v (.bool (A.cmp .leq n hi)))) [] := fun h => by
  have h2 := xge hA h;have e : A.cmp .leq n hi = b := by
   rw [hb]; subst hA;show decide (n <= hi) = _;exact decide_eq_decide.2 ⟨fun h => ⟨h2, h⟩, fun h => h.2⟩
  rw [e]; exact hq
 have h0 : A.cmp .geq n lo = false -> Q (RA.ret (.v (.bool false))) [] := fun h => by
  have h2 := Zur hA h;rw [hb, decide_eq_false (fun g => by omega)] at hq; exact hq
 refine Z5 Z0 hA Tryz.func141 rfl rfl rfl rfl rfl fun S hS => ?_;cbv;refine bm (fun c => ?_) (fun c => ?_)
 ·have hz := h1 c;cbv;exact Z2 [] (by decide) Z9 (H' := []) (d' := .v (.bool (A.cmp .leq n hi))) trivial rfl (Z1 hz)
 ·have hz := h0 c;cbv;exact Z2 [] (by decide) Z9 (H' := []) (d' := .v (.bool false)) trivial rfl (Z1 hz)
end Go.Proofs.YthljpccegkmdnaaGreatDoor

namespace Go.Proofs.YthljpccegkmdnaaGreatDoor
open Go Go.Abs Go.Proofs Go.Batch
theorem Zd0 {A : Ar} (hA : A = ar) (x y : Int) : A.cmp .eql x y = decide (x = y) /\ A.cmp .neq x y = !decide (x = y) := by
 subst hA; refine ⟨?_, ?_⟩
 ·refine Bool.eq_iff_iff.2 ?_; simp [ar, Z25]
 ·refine Bool.eq_iff_iff.2 ?_; simp [ar, Z25]
set_option maxRecDepth 20000 in
set_option maxHeartbeats 4000000 in
theorem Znk (j : Jn) (hi : 1 <= j.ins /\ j.ins <= 4) (hf : j.first.length <= 1152921504606846976) (m : Mv) (FL ML : List D) (hF : FL = j.first.map Zv) (c : Int) (n : Int) (hn : n = if Z2q j m ≠ 0 then Z2q j m else if m.kind = 1 /\ c = 4 then 6 else 0) (Q) (hq : Q (RA.ret (I n)) []) :
  CallA Tryz.prog 142 [.agg [I j.ins, .sl 1 FL, .sl 5 ML], .agg [I m.kind, I m.bin, I m.inst, I m.lo, I m.hi], I c] [] Q := by
 obtain ⟨A, hA⟩ : ∃ A, A = ar := ⟨_, rfl⟩;have hnt : A.bnot true = false := by subst hA; rfl
 have hnf : A.bnot false = true := by subst hA; rfl
 have hFl : FL.length = j.first.length := by rw [hF]; simp
 obtain ⟨kd, bn, it, lo, hi'⟩ := m;obtain ⟨b1, hb1⟩ : ∃ x, x = decide (1 <= kd /\ kd <= 3) := ⟨_, rfl⟩;obtain ⟨b2, hb2⟩ : ∃ x, x = decide (0 <= bn /\ bn <= (j.first.length : Int) - 1) := ⟨_, rfl⟩;have hb2' : b2 = decide (0 <= bn /\ bn <= A.sub (A.oi (A.len FL)) 1) := by rw [Z24 hA, yoiL hA hFl]; exact hb2
 obtain ⟨b3, hb3⟩ : ∃ x, x = decide (-1 <= it /\ it <= j.ins - 1) := ⟨_, rfl⟩;have hb3' : b3 = decide (-1 <= it /\ it <= A.sub j.ins 1) := by rw [Z24 hA]; exact hb3
 obtain ⟨b4, hb4⟩ : ∃ x, x = decide (0 <= lo /\ lo <= 5) := ⟨_, rfl⟩;obtain ⟨b5, hb5⟩ : ∃ x, x = decide (0 <= hi' /\ hi' <= 5) := ⟨_, rfl⟩;have f1 : A.fits .i64 (A.sub (A.oi (A.len FL)) 1) := Z14 hA (by rw [Z24 hA, yoiL hA hFl]) (by omega);have f2 : A.fits .i64 (A.sub j.ins 1) := Z14 hA (Z24 hA j.ins 1) (by omega);obtain ⟨v, hv⟩ : ∃ v, v = Z2q j ⟨kd, bn, it, lo, hi'⟩ := ⟨_, rfl⟩;rw [<- hv] at hn;simp only [Z2q] at hv;dsimp only at hn;have v1 : b1 = false -> n = 8 := fun h => by
  rw [h] at hb1;have h1 := of_decide_eq_false hb1.symm;rw [if_pos h1] at hv; rw [hn, hv, if_pos (by decide)]
 have v2 : b1 = true -> b2 = false -> n = 3 := fun h h' => by
  rw [h] at hb1; rw [h'] at hb2;have h1 := of_decide_eq_true hb1.symm;have h2 := of_decide_eq_false hb2.symm;rw [if_neg (fun g => g h1), if_pos h2] at hv; rw [hn, hv, if_pos (by decide)]
 have v3 : b1 = true -> b2 = true -> kd = 2 -> b3 = false -> n = 3 := fun h h' k h'' => by
  rw [h] at hb1; rw [h'] at hb2; rw [h''] at hb3;have h1 := of_decide_eq_true hb1.symm;have h2 := of_decide_eq_true hb2.symm;have h3 := of_decide_eq_false hb3.symm;rw [if_neg (fun g => g h1), if_neg (fun g => g h2), if_pos ⟨k, h3⟩] at hv; rw [hn, hv, if_pos (by decide)]
 have v4 : b1 = true -> b2 = true -> kd ≠ 2 -> it ≠ 0 -> n = 1 := fun h h' k h'' => by
  rw [h] at hb1; rw [h'] at hb2;have h1 := of_decide_eq_true hb1.symm;have h2 := of_decide_eq_true hb2.symm;rw [if_neg (fun g => g h1), if_neg (fun g => g h2), if_neg (fun g => k g.1), if_pos ⟨k, h''⟩] at hv; rw [hn, hv, if_pos (by decide)]
 have v5 : b1 = true -> b2 = true -> (kd = 2 /\ b3 = true ∨ kd ≠ 2 /\ it = 0) -> n = if b4 = false ∨ b5 = false then 1 else if hi' < lo then 5 else if kd = 1 /\ c = 4 then 6 else 0 := fun h h' k => by
  rw [h] at hb1; rw [h'] at hb2;have h1 := of_decide_eq_true hb1.symm;have h2 := of_decide_eq_true hb2.symm;have e3 : ¬ (kd = 2 /\ ¬ (-1 <= it /\ it <= j.ins - 1)) := fun g => by
   rcases k with k | k
   ·rw [k.2] at hb3; exact g.2 (of_decide_eq_true hb3.symm)
   ·exact k.1 g.1
  have e4 : ¬ (kd ≠ 2 /\ it ≠ 0) := fun g => by
   rcases k with k | k
   ·exact g.1 k.1
   ·exact g.2 k.2
  have e5 : (¬ (0 <= lo /\ lo <= 5) ∨ ¬ (0 <= hi' /\ hi' <= 5)) ↔ (b4 = false ∨ b5 = false) := by rw [hb4, hb5, decide_eq_false_iff_not, decide_eq_false_iff_not]
  rw [if_neg (fun g => g h1), if_neg (fun g => g h2), if_neg e3, if_neg e4] at hv
  by_cases g : b4 = false ∨ b5 = false
  ·rw [if_pos (e5.2 g)] at hv; rw [hn, hv, if_pos g, if_pos (by decide)]
  ·rw [if_neg (fun x => g (e5.1 x))] at hv; rw [hn, if_neg g]
   by_cases g' : hi' < lo
   ·rw [if_pos g'] at hv; rw [hv, if_pos g', if_pos (by decide)]
   ·rw [if_neg g'] at hv; rw [hv, if_neg g', if_neg (fun x => x rfl)]
 clear hn hv;have kc2 := (Zd0 hA kd 2);have kc1 := (Zd0 hA kd 1);dsimp only;refine Z5 Z0 hA Tryz.func142 rfl rfl rfl rfl rfl fun S hS => ?_;cbv;refine Z4 hS [I kd, I 1, I 3] [] [] rfl rfl rfl rfl rfl rfl rfl rfl (by decide) trivial (rAmong _ _ _ b1 hb1 _ ?_);refine Z3 Z0 hA hS ?_
 cases b1 with
 | false =>
  rw [v1 rfl] at hq;cbv;refine bmT hnf ?_;cbv;exact Z2 [] (by decide) Z9 (H' := []) (d' := I 8) trivial rfl (Z1 hq)
 | true =>
 cbv;refine bmF hnt ?_;cbv;refine ⟨f1, ?_⟩;refine Z4 hS [I bn, I 0, I (A.sub (A.oi (A.len FL)) 1)] [] [] rfl rfl rfl rfl rfl rfl rfl rfl (by decide) trivial (rAmong _ _ _ b2 hb2' _ ?_);refine Z3 Z0 hA hS ?_
 cases b2 with
 | false =>
  rw [v2 rfl rfl] at hq;cbv;refine bmT hnf ?_;cbv;exact Z2 [] (by decide) Z9 (H' := []) (d' := I 3) trivial rfl (Z1 hq)
 | true =>
 by_cases k2 : kd = 2
 ·have e2 : A.cmp .eql kd 2 = true := by rw [kc2.1, decide_eq_true k2]
  have n2 : A.cmp .neq kd 2 = false := by rw [kc2.2, decide_eq_true k2]; rfl
  have e1 : A.cmp .eql kd 1 = false := by rw [kc1.1, decide_eq_false (by omega)]
  cbv;refine bmF hnt ?_;cbv;refine bmT e2 ?_;cbv;refine ⟨f2, ?_⟩;refine Zg hS rfl rfl rfl rfl rfl rfl rfl rfl (fun _ => ⟨_, _, [I it, I (-1), I (A.sub j.ins 1)], [], [], rfl, rfl, rfl, by decide, trivial, rAmong _ _ _ b3 hb3' _ ?_⟩) (fun e => absurd rfl e);refine Z3 Z0 hA hS ?_
  cases b3 with
  | false =>
   rw [v3 rfl rfl k2 rfl] at hq;cbv;refine bmT hnf ?_;cbv;exact Z2 [] (by decide) Z9 (H' := []) (d' := I 3) trivial rfl (Z1 hq)
  | true =>
  have hn := v5 rfl rfl (.inl ⟨k2, rfl⟩);cbv;refine bmF hnt ?_;cbv;refine bmF n2 ?_;cbv;refine Zg hS rfl rfl rfl rfl rfl rfl rfl rfl (fun _ => ⟨_, _, [I lo, I 0, I 5], [], [], rfl, rfl, rfl, by decide, trivial, rAmong _ _ _ b4 hb4 _ ?_⟩) (fun e => absurd rfl e);refine Z3 Z0 hA hS ?_
  cases b4 with
  | false =>
   rw [hn, if_pos (.inl rfl)] at hq;cbv;refine bmT hnf ?_;cbv;refine Zg (f := 0) hS rfl rfl rfl rfl rfl rfl rfl rfl (fun e => Bool.noConfusion e) (fun _ => ?_);refine Z3 Z0 hA hS ?_;cbv;exact Z2 [] (by decide) Z9 (H' := []) (d' := I 1) trivial rfl (Z1 hq)
  | true =>
  cbv;refine bmF hnt ?_;cbv;refine Zg hS rfl rfl rfl rfl rfl rfl rfl rfl (fun _ => ⟨_, _, [I hi', I 0, I 5], [], [], rfl, rfl, rfl, by decide, trivial, rAmong _ _ _ b5 hb5 _ ?_⟩) (fun e => absurd rfl e);refine Z3 Z0 hA hS ?_
  cases b5 with
  | false =>
   rw [hn, if_pos (.inr rfl)] at hq;cbv;refine bmT hnf ?_;cbv;exact Z2 [] (by decide) Z9 (H' := []) (d' := I 1) trivial rfl (Z1 hq)
  | true =>
  rw [if_neg (fun h => h.elim Bool.noConfusion Bool.noConfusion)] at hn;cbv;refine bmF hnt ?_;cbv;refine bm (fun c7 => ?_) (fun c7 => ?_)
  ·have g7 := xgt hA c7;rw [hn, if_pos g7] at hq;cbv;exact Z2 [] (by decide) Z9 (H' := []) (d' := I 5) trivial rfl (Z1 hq)
  have g7 := Zax hA c7;rw [if_neg (by omega)] at hn;rw [if_neg (by omega)] at hn;rw [hn] at hq;cbv;refine bmF e1 ?_;cbv;exact Z2 [] (by decide) Z9 (H' := []) (d' := I 0) trivial rfl (Z1 hq)
 ·have e2 : A.cmp .eql kd 2 = false := by rw [kc2.1, decide_eq_false k2]
  have n2 : A.cmp .neq kd 2 = true := by rw [kc2.2, decide_eq_false k2]; rfl
  cbv;refine bmF hnt ?_;cbv;refine bmF e2 ?_;cbv;refine Zg (f := 0) hS rfl rfl rfl rfl rfl rfl rfl rfl (fun e => Bool.noConfusion e) (fun _ => ?_);refine Z3 Z0 hA hS ?_;cbv;refine bmT n2 ?_;cbv
  by_cases k3 : it = 0
  ·have n3 : A.cmp .neq it 0 = false := by rw [(Zd0 hA it 0).2, decide_eq_true k3]; rfl
   have hn := v5 rfl rfl (.inr ⟨k2, k3⟩);refine bmF n3 ?_;cbv;refine Zg hS rfl rfl rfl rfl rfl rfl rfl rfl (fun _ => ⟨_, _, [I lo, I 0, I 5], [], [], rfl, rfl, rfl, by decide, trivial, rAmong _ _ _ b4 hb4 _ ?_⟩) (fun e => absurd rfl e);refine Z3 Z0 hA hS ?_
   cases b4 with
   | false =>
    rw [hn, if_pos (.inl rfl)] at hq;cbv;refine bmT hnf ?_;cbv;refine Zg (f := 0) hS rfl rfl rfl rfl rfl rfl rfl rfl (fun e => Bool.noConfusion e) (fun _ => ?_);refine Z3 Z0 hA hS ?_;cbv;exact Z2 [] (by decide) Z9 (H' := []) (d' := I 1) trivial rfl (Z1 hq)
   | true =>
   cbv;refine bmF hnt ?_;cbv;refine Zg hS rfl rfl rfl rfl rfl rfl rfl rfl (fun _ => ⟨_, _, [I hi', I 0, I 5], [], [], rfl, rfl, rfl, by decide, trivial, rAmong _ _ _ b5 hb5 _ ?_⟩) (fun e => absurd rfl e);refine Z3 Z0 hA hS ?_
   cases b5 with
   | false =>
    rw [hn, if_pos (.inr rfl)] at hq;cbv;refine bmT hnf ?_;cbv;exact Z2 [] (by decide) Z9 (H' := []) (d' := I 1) trivial rfl (Z1 hq)
   | true =>
   rw [if_neg (fun h => h.elim Bool.noConfusion Bool.noConfusion)] at hn;cbv;refine bmF hnt ?_;cbv;refine bm (fun c7 => ?_) (fun c7 => ?_)
   ·have g7 := xgt hA c7;rw [hn, if_pos g7] at hq;cbv;exact Z2 [] (by decide) Z9 (H' := []) (d' := I 5) trivial rfl (Z1 hq)
   have g7 := Zax hA c7;rw [if_neg (by omega)] at hn
   by_cases k1 : kd = 1
   ·have e1 : A.cmp .eql kd 1 = true := by rw [kc1.1, decide_eq_true k1]
    cbv;refine bmT e1 ?_;cbv;refine bm (fun c8 => ?_) (fun c8 => ?_)
    ·rw [hn, if_pos ⟨k1, xeq hA c8⟩] at hq;cbv;exact Z2 [] (by decide) Z9 (H' := []) (d' := I 6) trivial rfl (Z1 hq)
    ·rw [hn, if_neg (fun h => Z2o hA c8 h.2)] at hq;cbv;exact Z2 [] (by decide) Z9 (H' := []) (d' := I 0) trivial rfl (Z1 hq)
   ·have e1 : A.cmp .eql kd 1 = false := by rw [kc1.1, decide_eq_false k1]
    rw [hn, if_neg (fun h => k1 h.1)] at hq;cbv;refine bmF e1 ?_;cbv;exact Z2 [] (by decide) Z9 (H' := []) (d' := I 0) trivial rfl (Z1 hq)
  ·have n3 : A.cmp .neq it 0 = true := by rw [(Zd0 hA it 0).2, decide_eq_false k3]; rfl
   rw [v4 rfl rfl k2 k3] at hq;refine bmT n3 ?_;cbv;refine Zg (f := 0) hS rfl rfl rfl rfl rfl rfl rfl rfl (fun e => Bool.noConfusion e) (fun _ => ?_);refine Z3 Z0 hA hS ?_;cbv;refine Zg (f := 0) hS rfl rfl rfl rfl rfl rfl rfl rfl (fun e => Bool.noConfusion e) (fun _ => ?_);refine Z3 Z0 hA hS ?_;cbv;exact Z2 [] (by decide) Z9 (H' := []) (d' := I 1) trivial rfl (Z1 hq)
set_option maxRecDepth 20000 in
set_option maxHeartbeats 4000000 in
theorem Zdo (j : Jn) (hf : j.first.length <= 1152921504606846976) (hm : j.moves.length <= 1152921504606846976) (FL ML : List D) (hF : FL = j.first.map Zv) (hM : ML = j.moves.map mvD) (n : Int) (hn : n = Zr j) (Q) (hq : Q (RA.ret (I n)) []) :
  CallA Tryz.prog 106 [.agg [I j.ins, .sl 1 FL, .sl 5 ML]] [] Q := by
 obtain ⟨A, hA⟩ : ∃ A, A = ar := ⟨_, rfl⟩;have hnt : A.bnot true = false := by subst hA; rfl
 have hnf : A.bnot false = true := by subst hA; rfl
 have hFl : FL.length = j.first.length := by rw [hF]; simp
 have hMl : ML.length = j.moves.length := by rw [hM]; simp
 obtain ⟨b1, hb1⟩ : ∃ x, x = decide (1 <= j.ins /\ j.ins <= 4) := ⟨_, rfl⟩;unfold Zr at hn;refine Z5 Z0 hA Tryz.func106 rfl rfl rfl rfl rfl fun S hS => ?_;cbv;refine Z4 hS [I j.ins, I 1, I 4] [] [] rfl rfl rfl rfl rfl rfl rfl rfl (by decide) trivial (rAmong _ _ _ b1 hb1 _ ?_);refine Z3 Z0 hA hS ?_
 cases b1 with
 | false =>
  have h1 := of_decide_eq_false hb1.symm;rw [hn, if_pos h1] at hq;cbv;refine bmT hnf ?_;cbv;exact Z2 [] (by decide) Z9 (H' := []) (d' := I 1) trivial rfl (Z1 hq)
 | true =>
 have hi := of_decide_eq_true hb1.symm;rw [if_neg (fun h => h hi)] at hn;cbv;refine bmF hnt ?_;cbv;refine bm (fun c2 => ?_) (fun c2 => ?_)
 ·have hz : n = 7 := by rw [hn, if_pos]; have h : (j.first.length : Int) = 0 := yeqL hA hFl c2; omega
  rw [hz] at hq;cbv;exact Z2 [] (by decide) Z9 (H' := []) (d' := I 7) trivial rfl (Z1 hq)
 rw [if_neg (by have h : (j.first.length : Int) ≠ 0 := yneqL hA hFl c2; omega)] at hn;cbv;refine bm (fun c3 => ?_) (fun c3 => ?_)
 ·have hz : n = 6 := by rw [hn, if_pos]; have h : (2 : Int) < (j.first.length : Int) := ygtL hA hFl c3; omega
  rw [hz] at hq;cbv;exact Z2 [] (by decide) Z9 (H' := []) (d' := I 6) trivial rfl (Z1 hq)
 have g3 : (j.first.length : Int) <= 2 := yngtL hA hFl c3;cbv;refine bm (fun c4 => ?_) (fun c4 => ?_)
 ·have hz : n = 6 := by rw [hn, if_pos]; have h : (10 : Int) < (j.moves.length : Int) := ygtL hA hMl c4; omega
  rw [hz] at hq;cbv;exact Z2 [] (by decide) Z9 (H' := []) (d' := I 6) trivial rfl (Z1 hq)
 have g4 : (j.moves.length : Int) <= 10 := yngtL hA hMl c4;have g3' : (j.first.length : Int) <= 2 := g3;have hn0 : n = Z3b j (j.moves.drop 0) 0 := by rw [hn, if_neg (by omega)]; rfl
 cbv;refine Zb hS ?_;refine Za (α := Int × Nat × Int × Nat) (fun q => { env := [(1, .b 0 0), (3, I q.2.2.1), (4, I q.1)], H := [.box (.agg [I j.ins, .sl 1 FL, .sl 5 ML])], nt := 51, dfs := [] })
  (fun q => j.moves.length - q.2.1) (fun q => q.2.1 <= j.moves.length /\ IsI q.1 q.2.1 /\ IsI q.2.2.1 q.2.2.2 /\ q.2.2.2 <= 4 /\ n = Z3b j (j.moves.drop q.2.1) q.2.2.2) (0, 0, 0, 0) ⟨Nat.zero_le _, ⟨rfl⟩, ⟨rfl⟩, Nat.zero_le _, hn0⟩ ?_ ?_
 ·exact Zf [0] ⟨by decide, Z9, ⟨rfl, trivial⟩, ⟨rfl, rfl, rfl, trivial⟩, rfl, rfl⟩
 rintro ⟨i, k, bi, c⟩ ⟨u1, u2, u3, u4, u5⟩;dsimp only at u1 u2 u3 u4 u5;refine Zi Z0 hA hS ?_;cbv;refine bm (fun e => ?_) (fun e => ?_)
 ·have hk : k < j.moves.length := Z31 hA hMl u2 e;obtain ⟨m, hmk⟩ : ∃ m, j.moves[k]? = some m := ⟨_, List.getElem?_eq_getElem hk⟩;have hMk : ML[k]? = some (.agg [I m.kind, I m.bin, I m.inst, I m.lo, I m.hi]) := by rw [hM]; simp [hmk, mvD]
  rw [Zcs hmk] at u5;have hin := Z1b hA hMl u2 hk;have hg := Z18 hA u2 hMk;have hf1 := Zy hA u2 (by omega);have hu2 := Zz hA u2;have hb1f := Zy hA u3 (by omega);have hu3 := Zz hA u3;have hms : j.moves.length - (k + 1) < j.moves.length - k := by omega
  obtain ⟨e1, he1⟩ : ∃ e1, e1 = if Z2q j m ≠ 0 then Z2q j m else if m.kind = 1 /\ bi = 4 then 6 else 0 := ⟨_, rfl⟩
  have w1 : e1 ≠ 0 -> n = e1 := fun h => by
   rw [u5, he1]
   by_cases g : Z2q j m ≠ 0
   ·rw [if_pos g, if_pos g]
   ·rw [if_neg g, if_neg g];rw [he1, if_neg g] at h
    by_cases g2 : m.kind = 1 /\ bi = 4
    ·rw [if_pos g2, if_pos (by rw [if_pos g2.1]; have := u3.eq; omega)]
    ·rw [if_neg g2] at h; exact absurd rfl h
  have w0 : e1 = 0 -> n = Z3b j (j.moves.drop (k + 1)) (if m.kind = 1 then c + 1 else c) /\ (m.kind = 1 -> c + 1 <= 4) := fun h => by
   rw [he1] at h;have g : ¬ Z2q j m ≠ 0 := fun g => by rw [if_pos g] at h; exact g h
   rw [if_neg g] at h;have g2 : ¬ (m.kind = 1 /\ bi = 4) := fun g2 => by rw [if_pos g2] at h; exact absurd h (by decide)
   have e := u3.eq;have h5 : m.kind = 1 -> c + 1 <= 4 := fun hk => by
    by_cases g3 : bi = 4
    ·exact absurd ⟨hk, g3⟩ g2
    ·omega
   refine ⟨?_, h5⟩;rw [u5, if_neg g, if_neg]
   split
   ·rename_i hk1; have := h5 hk1; omega
   ·omega
  clear u5;have hw1 : A.cmp .neq e1 0 = true -> n = e1 := fun c => w1 (xne hA c);have hw0 : A.cmp .neq e1 0 = false -> e1 = 0 := fun c => by have := Z4t hA c; exact this
  have hk1 : k + 1 <= j.moves.length := hk;obtain ⟨kd, bn, it, lo, hi'⟩ := m;dsimp only at hg w0 he1;have hcm := fun Q h => Znk j hi hf ⟨kd, bn, it, lo, hi'⟩ FL ML hF bi e1 he1 Q h;dsimp only at hcm;have hx1 : kd = 1 -> n = Z3b j (j.moves.drop (k + 1)) (if kd = 1 then c + 1 else c) -> n = Z3b j (j.moves.drop (k + 1)) (c + 1) := fun h g => by rw [if_pos h] at g; exact g
  have hx0 : kd ≠ 1 -> n = Z3b j (j.moves.drop (k + 1)) (if kd = 1 then c + 1 else c) -> n = Z3b j (j.moves.drop (k + 1)) c := fun h g => by rw [if_neg h] at g; exact g
  cbv;refine Z16 Z0 hA hS [0, 1, 2, 3, 4, 5, 6, 7, 8] rfl rfl fun Dk hD => ?_;cbv;refine ⟨hin, ⟨_, hg, ?_⟩⟩;cbv;refine Zq hA hD [.agg [I j.ins, .sl 1 FL, .sl 5 ML], .agg [I kd, I bn, I it, I lo, I hi'], I bi] [] [] rfl rfl rfl rfl rfl rfl rfl rfl rfl rfl rfl (by decide) trivial (hcm _ ⟨by cbv; repeat' (first | exact trivial | exact ⟨_, hg, rfl⟩ | exact Need.mk ⟨_, hg, rfl⟩ | exact rfl | refine ⟨?_, ?_⟩), Zx Z0 hA hD ?_⟩);cbv;refine bm (fun c5 => ?_) (fun c5 => ?_)
  ·have hz := hw1 c5;rw [hz] at hq;cbv;refine Z7 ?_;cbv;exact Z2 [] (by decide) Z9 (H' := []) (d' := I e1) trivial rfl (Z1 hq)
  obtain ⟨hz, h5⟩ := w0 (hw0 c5);cbv;refine ⟨hin, ⟨_, hg, ?_⟩⟩;cbv;refine bm (fun c6 => ?_) (fun c6 => ?_)
  ·have e6 := xeq hA c6;have hz2 := hx1 e6 hz;have h55 := h5 e6;cbv;refine ⟨hb1f, hf1, ?_⟩;refine Z8 (A.add i 1, k + 1, A.add bi 1, c + 1) [0] ⟨hk1, hu2, hu3, h55, hz2⟩ hms ?_;exact ⟨by decide, Z9, ⟨rfl, trivial⟩, ⟨rfl, rfl, rfl, trivial⟩, rfl, rfl⟩
  ·have hz2 := hx0 (Z2o hA c6) hz;cbv;refine ⟨hf1, ?_⟩;refine Z8 (A.add i 1, k + 1, bi, c) [0] ⟨hk1, hu2, u3, u4, hz2⟩ hms ?_;exact ⟨by decide, Z9, ⟨rfl, trivial⟩, ⟨rfl, rfl, rfl, trivial⟩, rfl, rfl⟩
 ·have hk : j.moves.length <= k := Z21 hA hMl u2 e;have hz : n = 0 := by rw [u5, List.drop_eq_nil_of_le hk]; rfl
  rw [hz] at hq;cbv;refine Z7 ?_;cbv;exact Z2 [] (by decide) Z9 (H' := []) (d' := I 0) trivial rfl (Z1 hq)
end Go.Proofs.YthljpccegkmdnaaGreatDoor

namespace Go.Txt
open Go Go.Batch
theorem Z1h6 {n : Int} (h0 : 0 <= n) (h1 : n <= 9) : (Lib.itoa n).length <= 3 := (Z1j3 h0 (by omega)).2
theorem Z1iy {n : Int} (h1 : n <= 9) : (Z1hg n).length <= 3 := by
 unfold Z1hg; split
 ·simp
 ·exact Z1h6 (by omega) h1
structure Small (m : Mv) : Prop where
 b0 : 0 <= m.bin
 b1 : m.bin <= 9
 i1 : m.inst <= 9
 l0 : 0 <= m.lo
 l1 : m.lo <= 9
 h0 : 0 <= m.hi
 h1 : m.hi <= 9
theorem Z1iz {m : Mv} (h : Small m) : (Z1gz m).length <= 11 := by
 have a := Z1h6 h.b0 h.b1;have b := Z1iy h.i1;unfold Z1gz
 split
 ·simp [inW]; omega
 ·split
  ·simp [Z1h0]; omega
  ·simp [outW]; omega
theorem Z1j0 {m : Mv} (h : Small m) : (Z1gu m).length <= 20 := by
 have a := Z1h6 h.l0 h.l1;have b := Z1h6 h.h0 h.h1;have c := Z1iz h;unfold Z1gu;simp; omega
theorem Z1hk {l : List Mv} (h : ∀ m ∈ l, Small m) : (l.flatMap Z1gu).length <= 20 * l.length := by
 induction l with
 | nil => simp
 | cons m l ih =>
  have a := Z1j0 (h m (by simp));have b := ih fun x hx => h x (List.mem_cons_of_mem _ hx);simp only [List.flatMap_cons, List.length_append, List.length_cons]; omega
theorem Z1hc (fs : List Bool) : (Z1h5 fs).length = fs.length := by simp [Z1h5]
theorem Z1h8 {j : Jn} (h : JOk j) {m : Mv} (hm : m ∈ j.moves) : Small m := by
 have a := h.mv m hm;have b := h.f2;have c := h.i4;have i1 : m.inst <= 9 := by
  by_cases e : m.kind = 2
  ·have := a.i1 e; omega
  ·have := a.i2 e; omega
 have d := a.b1;have e := a.lh;have f := a.h5;have g := a.l0;exact ⟨a.b0, by omega, i1, a.l0, by omega, by omega, by omega⟩
end Go.Txt

namespace Go.Proofs.YthljpccegkmdnaaGreatDoor
open Go Go.Abs Go.Proofs Go.Batch Go.Txt
structure SzB (x : ByteArray) (n : Nat) : Prop where
 le : x.size <= n
structure IsT (x : ByteArray) (l : By) : Prop where
 eq : x = bs l
theorem SzB.lit (l : By) {n : Nat} (h : l.length <= n) : SzB (bs l) n := ⟨h⟩
theorem SzB.cat {A : Ar} (hA : A = ar) {x y : ByteArray} {n m : Nat} (h : SzB x n) (h' : SzB y m) : SzB (A.scat x y) (n + m) := ⟨by
 subst hA
 have a := h.le
 have b := h'.le
 show (x ++ y).size <= _
 rw [ByteArray.size_append]; omega⟩
theorem scO {A : Ar} (hA : A = ar) {x y : ByteArray} {n m : Nat} (h : SzB x n) (h' : SzB y m) (hn : n + m <= 1000000) : A.scatOK x y := by
 have a := h.le;have b := h'.le;exact Z1jt hA (by omega)
theorem IsT.cat {A : Ar} (hA : A = ar) {x y : ByteArray} {a b : By} (h : IsT x a) (h' : IsT y b) : IsT (A.scat x y) (a ++ b) := ⟨by
 subst hA; rw [h.eq, h'.eq]; exact Z1jp a b⟩
theorem IsT.lit (l : By) : IsT (bs l) l := ⟨rfl⟩
theorem IsT.sz {x : ByteArray} {l : By} (h : IsT x l) {n : Nat} (hl : l.length <= n) : SzB x n := ⟨by rw [h.eq]; exact hl⟩
theorem IsT.of {x : ByteArray} {l m : By} (h : IsT x l) (e : l = m) : IsT x m := e ▸ h
theorem Z1hl {j : Jn} (h : JOk j) : (Z1gt j).length <= 20 := by
 have a := Z1h6 (n := j.ins) (by have := h.i1; omega) (by have := h.i4; omega);have b := h.f2;have c := Z1hc j.first;unfold Z1gt;simp [Z1h1]; omega
set_option maxRecDepth 20000 in
set_option maxHeartbeats 8000000 in
theorem Z1jw (j : Jn) (hf : j.first.length <= 1152921504606846976) (hm : j.moves.length <= 1152921504606846976) (FL ML : List D) (hF : FL = j.first.map Zv) (hM : ML = j.moves.map mvD) (Q)
  (h1 : Zr j = 0 -> ∀ x, IsT x (Z1hr j) -> Q (RA.ret (.tup [.v (.string x), I 0])) []) (h2 : ∀ e, e = Zr j -> e ≠ 0 -> Q (RA.ret (.tup [tD [], I e])) []) :
  CallA Tryz.prog 29 [.agg [I j.ins, .sl 1 FL, .sl 5 ML]] [] Q := by
 obtain ⟨A, hA⟩ : ∃ A, A = ar := ⟨_, rfl⟩;obtain ⟨e0, he0⟩ : ∃ e, e = Zr j := ⟨_, rfl⟩;have qC := fun Q h => bCheck j hf hm FL ML hF hM e0 he0 Q h;have hh2 := h2 e0 he0;obtain ⟨ins, hins⟩ : ∃ ins, ins = j.ins := ⟨_, rfl⟩;rw [<- hins] at qC;rw [<- hins];refine Z38 Z0 hA [26] Tryz.func29 rfl rfl rfl rfl rfl fun S hS => ?_;cbv;refine Z4 hS [.agg [I ins, .sl 1 FL, .sl 5 ML]] [] [] rfl rfl rfl rfl rfl rfl rfl rfl (by decide) trivial (qC _ ?_);refine Z3 Z0 hA hS ?_
 by_cases g0 : e0 = 0
 ·have c0 : A.cmp .neq e0 0 = false := by subst hA; simp [ar, Z25, g0]
  have hok : JOk j := Z2r (by rw [<- he0, g0]);have h1' := h1 (by rw [<- he0, g0]);clear h1 h2 hh2 qC he0 hf hm;obtain ⟨ti, hti⟩ : ∃ t, t = Lib.itoa ins := ⟨_, rfl⟩;have hi1 := hok.i1;have hi4 := hok.i4;have hf2 := hok.f2;have hm10 := hok.m10;have kI := fun Q h => Z1h3 ins ti hti (by omega) (by omega) Q h;have zi : SzB (bs ti) 3 := .lit _ (by rw [hti]; exact Z1h6 (by omega) (by omega));have zj : SzB (bs [106, 111, 117, 114, 110, 97, 108, 124]) 8 := .lit _ (Nat.le_refl _);have z1 : ∀ c, SzB (bs [c]) 1 := fun c => .lit _ (Nat.le_refl _);have oj := scO hA zj zi (by decide);have oj2 := scO hA (zj.cat hA zi) (z1 124) (by decide);have hx0 : IsT (A.scat (A.scat (bs [106, 111, 117, 114, 110, 97, 108, 124]) (bs ti)) (bs [124])) (Z1h1 ++ [124] ++ ti ++ [124]) := ((IsT.lit [106, 111, 117, 114, 110, 97, 108, 124]).cat hA (.lit ti)).cat hA (.lit [124]);have hFl : FL.length = j.first.length := by rw [hF, List.length_map]
  have hMl : ML.length = j.moves.length := by rw [hM, List.length_map]
  have hti3 : ti.length <= 3 := zi.le;cbv;refine bmF c0 ?_;cbv;refine Z4 hS [I ins] [] [] rfl rfl rfl rfl rfl rfl rfl rfl (by decide) trivial (kI _ ?_);refine Z3 Z0 hA hS ?_;cbv;refine ⟨oj, oj2, ?_⟩;refine Zb hS ?_;refine Za (α := Int × Nat × ByteArray) (fun q => { env := [(1, .b 0 0), (5, .fn 79 []), (6, .v (.string q.2.2)), (23, .sl 1 FL), (24, I (A.oi (A.len FL))), (25, I q.1)], H := [.box (.agg [I ins, .sl 1 FL, .sl 5 ML])], nt := 102, dfs := [] })
   (fun q => j.first.length - q.2.1) (fun q => q.2.1 <= j.first.length /\ IsI q.1 q.2.1 /\ IsT q.2.2 (Z1h1 ++ [124] ++ ti ++ [124] ++ Z1h5 (j.first.take q.2.1))) (0, 0, A.scat (A.scat (bs [106, 111, 117, 114, 110, 97, 108, 124]) (bs ti)) (bs [124])) ⟨Nat.zero_le _, ⟨rfl⟩, hx0.of (by simp [Z1h5])⟩ ?_ ?_
  ·exact Zf [0] ⟨by decide, Z9, ⟨rfl, trivial⟩, ⟨rfl, rfl, rfl, rfl, rfl, rfl, trivial⟩, rfl, rfl⟩
  rintro ⟨i, k, x⟩ ⟨u1, u2, u3⟩;dsimp only at u1 u2 u3;refine Z2w Z0 hA hS [] ?_;have zx : SzB x 50 := u3.sz (by rw [List.length_append, Z1hc, List.length_take]; simp [Z1h1]; omega)
  by_cases hk : k < j.first.length
  ·have d1 : A.cmp .lss i (A.oi (A.len FL)) = true := by rw [yoiL hA hFl, u2.eq]; subst hA; simp [ar, Z25]; omega
   obtain ⟨b, hb⟩ : ∃ b, j.first[k]? = some b := ⟨_, List.getElem?_eq_getElem hk⟩;have ii := Z1b hA hFl u2 hk;have gg : A.get FL (A.tn i) = some (.v (.bool b)) := Z18 hA u2 (by rw [hF, List.getElem?_map, hb]; rfl);have hf1 := Zy hA u2 (by omega);have hu2 := Zz hA u2;have hms : j.first.length - (k + 1) < j.first.length - k := by omega
   have ox := fun c => scO hA zx (z1 c) (by decide);have nx : IsT (A.scat x (bs [if b then 102 else 97])) (Z1h1 ++ [124] ++ ti ++ [124] ++ Z1h5 (j.first.take (k + 1))) := (u3.cat hA (.lit _)).of (by rw [List.take_add_one, hb]; simp [Z1h5])
   cases b with
   | true =>
    have nx : IsT (A.scat x (bs [102])) _ := nx;cbv;refine bmT d1 ?_;cbv;refine ⟨ii, Need.mk ⟨_, gg, ?_⟩⟩;cbv;refine ⟨ox 102, hf1, ?_⟩;refine Z8 (A.add i 1, k + 1, A.scat x (bs [102])) [0] ⟨hk, hu2, nx⟩ hms ?_;exact ⟨by decide, Z9, ⟨rfl, trivial⟩, ⟨rfl, rfl, rfl, rfl, rfl, rfl, trivial⟩, rfl, rfl⟩
   | false =>
    have nx : IsT (A.scat x (bs [97])) _ := nx;cbv;refine bmT d1 ?_;cbv;refine ⟨ii, Need.mk ⟨_, gg, ?_⟩⟩;cbv;refine ⟨ox 97, hf1, ?_⟩;refine Z8 (A.add i 1, k + 1, A.scat x (bs [97])) [0] ⟨hk, hu2, nx⟩ hms ?_;exact ⟨by decide, Z9, ⟨rfl, trivial⟩, ⟨rfl, rfl, rfl, rfl, rfl, rfl, trivial⟩, rfl, rfl⟩
  have d1 : A.cmp .lss i (A.oi (A.len FL)) = false := by rw [yoiL hA hFl, u2.eq]; subst hA; simp [ar, Z25]; omega
  rw [List.take_of_length_le (by omega)] at u3;have ox := scO hA zx (z1 10) (by decide);have hx1 : IsT (A.scat x (bs [10])) (Z1gt j) := (u3.cat hA (.lit [10])).of (by unfold Z1gt; rw [hti, hins]);have hhl := Z1hl hok;cbv;refine bmF d1 ?_;cbv;refine Z7 ?_;cbv;refine ⟨ox, ?_⟩;refine Zb hS ?_;clear u1 u2 u3 d1;refine Za (α := Int × Nat × ByteArray) (fun q => { env := [(1, .b 0 0), (5, .fn 79 []), (6, .v (.string q.2.2)), (38, .sl 5 ML), (39, I (A.oi (A.len ML))), (40, I q.1)], H := [.box (.agg [I ins, .sl 1 FL, .sl 5 ML])], nt := 102, dfs := [] })
   (fun q => j.moves.length - q.2.1) (fun q => q.2.1 <= j.moves.length /\ IsI q.1 q.2.1 /\ IsT q.2.2 (Z1gt j ++ (j.moves.take q.2.1).flatMap Z1gu)) (0, 0, A.scat x (bs [10])) ⟨Nat.zero_le _, ⟨rfl⟩, hx1.of (by simp)⟩ ?_ ?_
  ·exact Zf [0] ⟨by decide, Z9, ⟨rfl, trivial⟩, ⟨rfl, rfl, rfl, rfl, rfl, rfl, trivial⟩, rfl, rfl⟩
  rintro ⟨i, k, x⟩ ⟨u1, u2, u3⟩;dsimp only at u1 u2 u3;refine Z2w Z0 hA hS [26] ?_;have zx : SzB x 300 := u3.sz (by
   have := Z1hk (l := j.moves.take k) (fun m hm => Z1h8 hok (List.mem_of_mem_take hm))
   rw [List.length_append]; rw [List.length_take] at this; omega)
  by_cases hk : k < j.moves.length
  ·have d1 : A.cmp .lss i (A.oi (A.len ML)) = true := by rw [yoiL hA hMl, u2.eq]; subst hA; simp [ar, Z25]; omega
   obtain ⟨mv, hmv⟩ : ∃ b, j.moves[k]? = some b := ⟨_, List.getElem?_eq_getElem hk⟩;have hsm := Z1h8 hok (List.mem_of_getElem? hmv);have ii := Z1b hA hMl u2 hk;obtain ⟨kd, bi, it, lo, hi⟩ := mv;have gg : A.get ML (A.tn i) = some (.agg [I kd, I bi, I it, I lo, I hi]) := Z18 hA u2 (by rw [hM, List.getElem?_map, hmv]; rfl);have hf1 := Zy hA u2 (by omega);have hu2 := Zz hA u2;have hms : j.moves.length - (k + 1) < j.moves.length - k := by omega
   obtain ⟨s1, s2, s3, s4, s5, s6, s7⟩ := hsm;dsimp only at s1 s2 s3 s4 s5 s6 s7;obtain ⟨tb, htb⟩ : ∃ t, t = Lib.itoa bi := ⟨_, rfl⟩;have ktb := fun Q h => Z1h3 bi tb htb (by omega) (by omega) Q h;have ztb : SzB (bs tb) 3 := .lit _ (by rw [htb]; exact Z1h6 (by omega) (by omega));obtain ⟨tl, htl⟩ : ∃ t, t = Lib.itoa lo := ⟨_, rfl⟩;have ktl := fun Q h => Z1h3 lo tl htl (by omega) (by omega) Q h;have ztl : SzB (bs tl) 3 := .lit _ (by rw [htl]; exact Z1h6 (by omega) (by omega));obtain ⟨th, hth⟩ : ∃ t, t = Lib.itoa hi := ⟨_, rfl⟩;have kth := fun Q h => Z1h3 hi th hth (by omega) (by omega) Q h;have zth : SzB (bs th) 3 := .lit _ (by rw [hth]; exact Z1h6 (by omega) (by omega));have hnx : ∀ y, IsT y (Z1gt j ++ (j.moves.take k).flatMap Z1gu ++ (Z1gz ⟨kd, bi, it, lo, hi⟩ ++ ([124] ++ tl ++ [124] ++ th ++ [10]))) -> IsT y (Z1gt j ++ (j.moves.take (k + 1)).flatMap Z1gu) := fun y hy => hy.of (by rw [List.take_add_one, hmv]; simp [Z1gu, htl, hth]);clear hmv hM hF;cbv;refine bmT d1 ?_;cbv;refine ⟨ii, Need.mk ⟨_, gg, ?_⟩⟩;cbv;refine' bm2 (S := S) (α := ByteArray) (fun q => { env := [(1, .b 0 0), (5, .fn 79 []), (6, .v (.string q)), (10, .b 1 0), (38, .sl 5 ML), (39, I (A.oi (A.len ML))), (40, I i)], H := [.box (.agg [I ins, .sl 1 FL, .sl 5 ML]), .box (.agg [I kd, I bi, I it, I lo, I hi])], nt := 102, dfs := [] })
    (fun q => IsT q (Z1gt j ++ (j.moves.take k).flatMap Z1gu ++ Z1gz ⟨kd, bi, it, lo, hi⟩) /\ SzB q 400) (fun rest c => ?g1) (fun rest c => ?g2) ?g3
   case g1 =>
    have e1 : kd = 1 := by subst hA; simpa [ar, Z25] using c
    have w1 : SzB (bs [105, 110, 124]) 3 := .lit _ (Nat.le_refl _);have o1 := scO hA w1 ztb (by decide);have o2 := scO hA zx (w1.cat hA ztb) (by decide);have nx : IsT (A.scat x (A.scat (bs [105, 110, 124]) (bs tb))) (Z1gt j ++ (j.moves.take k).flatMap Z1gu ++ Z1gz ⟨kd, bi, it, lo, hi⟩) := (u3.cat hA ((IsT.lit [105, 110, 124]).cat hA (.lit tb))).of (by rw [e1, htb]; rfl);have nz : SzB (A.scat x (A.scat (bs [105, 110, 124]) (bs tb))) 400 := ⟨Nat.le_trans (zx.cat hA (w1.cat hA ztb)).le (by decide)⟩;cbv;refine Z4 hS [I bi] [] [] rfl rfl rfl rfl rfl rfl rfl rfl (by decide) trivial (ktb _ ?_);refine Z3 Z0 hA hS ?_;cbv;refine ⟨o1, o2, ?_⟩;exact Zof hS rest (A.scat x (A.scat (bs [105, 110, 124]) (bs tb))) ⟨nx, nz⟩ (Zf [0, 1] ⟨by decide, Z9, ⟨rfl, rfl, trivial⟩, ⟨rfl, rfl, rfl, rfl, rfl, rfl, rfl, trivial⟩, rfl, rfl⟩)
   case g2 =>
    have e1 : kd ≠ 1 := by subst hA; simpa [ar, Z25] using c
    cbv;refine bm (fun c2 => ?_) (fun c2 => ?_)
    ·have e3 : kd = 3 := by subst hA; simpa [ar, Z25] using c2
     have w1 : SzB (bs [99, 111, 117, 110, 116, 124]) 6 := .lit _ (Nat.le_refl _);have o1 := scO hA w1 ztb (by decide);have o2 := scO hA zx (w1.cat hA ztb) (by decide);have nx : IsT (A.scat x (A.scat (bs [99, 111, 117, 110, 116, 124]) (bs tb))) (Z1gt j ++ (j.moves.take k).flatMap Z1gu ++ Z1gz ⟨kd, bi, it, lo, hi⟩) := (u3.cat hA ((IsT.lit [99, 111, 117, 110, 116, 124]).cat hA (.lit tb))).of (by rw [e3, htb]; rfl);have nz : SzB (A.scat x (A.scat (bs [99, 111, 117, 110, 116, 124]) (bs tb))) 400 := ⟨Nat.le_trans (zx.cat hA (w1.cat hA ztb)).le (by decide)⟩;cbv;refine Z4 hS [I bi] [] [] rfl rfl rfl rfl rfl rfl rfl rfl (by decide) trivial (ktb _ ?_);refine Z3 Z0 hA hS ?_;cbv;refine ⟨o1, o2, ?_⟩;exact Zof hS rest (A.scat x (A.scat (bs [99, 111, 117, 110, 116, 124]) (bs tb))) ⟨nx, nz⟩ (Zf [0, 1] ⟨by decide, Z9, ⟨rfl, rfl, trivial⟩, ⟨rfl, rfl, rfl, rfl, rfl, rfl, rfl, trivial⟩, rfl, rfl⟩)
    ·have e3 : kd ≠ 3 := by subst hA; simpa [ar, Z25] using c2
     have w1 : SzB (bs [111, 117, 116, 124]) 4 := .lit _ (Nat.le_refl _);have w2 := w1.cat hA ztb;have w3 := w2.cat hA (z1 124);have w4 := zx.cat hA w3;have o1 := scO hA w1 ztb (by decide);have o2 := scO hA w2 (z1 124) (by decide);have o3 := scO hA zx w3 (by decide);have n0 : IsT (A.scat x (A.scat (A.scat (bs [111, 117, 116, 124]) (bs tb)) (bs [124]))) (Z1gt j ++ (j.moves.take k).flatMap Z1gu ++ (outW ++ [124] ++ tb ++ [124])) := u3.cat hA (((IsT.lit [111, 117, 116, 124]).cat hA (.lit tb)).cat hA (.lit [124]));have kw : Z1gz ⟨kd, bi, it, lo, hi⟩ = outW ++ [124] ++ tb ++ [124] ++ Z1hg it := by unfold Z1gz; rw [if_neg e1, if_neg e3, htb]
     cbv;refine Z4 hS [I bi] [] [] rfl rfl rfl rfl rfl rfl rfl rfl (by decide) trivial (ktb _ ?_);refine Z3 Z0 hA hS ?_;cbv;refine ⟨o1, o2, o3, ?_⟩;refine bm (fun c4 => ?_) (fun c4 => ?_)
     ·have e4 : it < 0 := by subst hA; simpa [ar, Z25] using c4
      have o5 := scO hA w4 (z1 63) (by decide);have nx : IsT (A.scat (A.scat x (A.scat (A.scat (bs [111, 117, 116, 124]) (bs tb)) (bs [124]))) (bs [63])) (Z1gt j ++ (j.moves.take k).flatMap Z1gu ++ Z1gz ⟨kd, bi, it, lo, hi⟩) := (n0.cat hA (.lit [63])).of (by rw [kw]; unfold Z1hg; rw [if_pos e4]; simp);have nz : SzB (A.scat (A.scat x (A.scat (A.scat (bs [111, 117, 116, 124]) (bs tb)) (bs [124]))) (bs [63])) 400 := ⟨Nat.le_trans (w4.cat hA (z1 63)).le (by decide)⟩;cbv;refine ⟨o5, ?_⟩;exact Zof hS rest (A.scat (A.scat x (A.scat (A.scat (bs [111, 117, 116, 124]) (bs tb)) (bs [124]))) (bs [63])) ⟨nx, nz⟩ (Zf [0, 1] ⟨by decide, Z9, ⟨rfl, rfl, trivial⟩, ⟨rfl, rfl, rfl, rfl, rfl, rfl, rfl, trivial⟩, rfl, rfl⟩)
     ·have e4 : ¬ it < 0 := by subst hA; simpa [ar, Z25] using c4
      obtain ⟨tt, htt⟩ : ∃ t, t = Lib.itoa it := ⟨_, rfl⟩;have ktt := fun Q h => Z1h3 it tt htt (by omega) (by omega) Q h;have ztt : SzB (bs tt) 3 := .lit _ (by rw [htt]; exact Z1h6 (by omega) (by omega));have o5 := scO hA w4 ztt (by decide);have nx : IsT (A.scat (A.scat x (A.scat (A.scat (bs [111, 117, 116, 124]) (bs tb)) (bs [124]))) (bs tt)) (Z1gt j ++ (j.moves.take k).flatMap Z1gu ++ Z1gz ⟨kd, bi, it, lo, hi⟩) := (n0.cat hA (.lit tt)).of (by rw [kw]; unfold Z1hg; rw [if_neg e4, htt]; simp);have nz : SzB (A.scat (A.scat x (A.scat (A.scat (bs [111, 117, 116, 124]) (bs tb)) (bs [124]))) (bs tt)) 400 := ⟨Nat.le_trans (w4.cat hA ztt).le (by decide)⟩;cbv;refine Z4 hS [I it] [] [] rfl rfl rfl rfl rfl rfl rfl rfl (by decide) trivial (ktt _ ?_);refine Z3 Z0 hA hS ?_;cbv;refine ⟨o5, ?_⟩;exact Zof hS rest (A.scat (A.scat x (A.scat (A.scat (bs [111, 117, 116, 124]) (bs tb)) (bs [124]))) (bs tt)) ⟨nx, nz⟩ (Zf [0, 1] ⟨by decide, Z9, ⟨rfl, rfl, trivial⟩, ⟨rfl, rfl, rfl, rfl, rfl, rfl, rfl, trivial⟩, rfl, rfl⟩)
   case g3 =>
   rintro q ⟨hq1, hq2⟩;have y1 := (z1 124).cat hA ztl;have y2 := y1.cat hA (z1 124);have y3 := y2.cat hA zth;have y4 := y3.cat hA (z1 10);have p1 := scO hA (z1 124) ztl (by decide);have p2 := scO hA y1 (z1 124) (by decide);have p3 := scO hA y2 zth (by decide);have p4 := scO hA y3 (z1 10) (by decide);have p5 := scO hA hq2 y4 (by decide);have hnx := hnx (A.scat q (A.scat (A.scat (A.scat (A.scat (bs [124]) (bs tl)) (bs [124])) (bs th)) (bs [10]))) ((hq1.cat hA (((((IsT.lit [124]).cat hA (.lit tl)).cat hA (.lit [124])).cat hA (.lit th)).cat hA (.lit [10]))).of (by simp));refine Z16 Z0 hA hS [0, 1, 2, 3, 4, 8, 9, 10, 11, 5, 6, 7, 12, 13, 14, 15, 16] rfl rfl fun Dk hD => ?_;cbv;refine Zq hA hD [I lo] [] [] rfl rfl rfl rfl rfl rfl rfl rfl rfl rfl rfl (by decide) trivial (ktl _ ⟨by cbv; repeat' (first | exact trivial | refine ⟨?_, ?_⟩), Zx Z0 hA hD ?_⟩);cbv;refine ⟨p1, p2, ?_⟩;refine Zq hA hD [I hi] [] [] rfl rfl rfl rfl rfl rfl rfl rfl rfl rfl rfl (by decide) trivial (kth _ ⟨by cbv; repeat' (first | exact trivial | exact p1 | exact p2 | exact rfl | refine ⟨?_, ?_⟩), Zx Z0 hA hD ?_⟩);cbv;refine ⟨p3, p4, p5, hf1, ?_⟩;refine Z8 (A.add i 1, k + 1, A.scat q (A.scat (A.scat (A.scat (A.scat (bs [124]) (bs tl)) (bs [124])) (bs th)) (bs [10]))) [0] ⟨hk, hu2, hnx⟩ hms ?_;exact ⟨by decide, Z9, ⟨rfl, trivial⟩, ⟨rfl, rfl, rfl, rfl, rfl, rfl, trivial⟩, rfl, rfl⟩
  ·have d1 : A.cmp .lss i (A.oi (A.len ML)) = false := by rw [yoiL hA hMl, u2.eq]; subst hA; simp [ar, Z25]; omega
   rw [List.take_of_length_le (by omega)] at u3;have w1 : SzB (bs [101, 110, 100, 10]) 4 := .lit _ (Nat.le_refl _);have ox := scO hA zx w1 (by decide);have hz := h1' (A.scat x (bs [101, 110, 100, 10])) ((u3.cat hA (.lit [101, 110, 100, 10])).of (by unfold Z1hr; simp [endW]));cbv;refine bmF d1 ?_;cbv;refine Z7 ?_;cbv;refine ⟨ox, ?_⟩;exact Z2 [] (by decide) Z9 (H' := []) (d' := .tup [.v (.string (A.scat x (bs [101, 110, 100, 10]))), I 0]) trivial rfl (Z1 hz)
 ·have c0 : A.cmp .neq e0 0 = true := by subst hA; simp [ar, Z25, g0]
  have hz := hh2 g0;cbv;refine bmT c0 ?_;cbv;exact Z2 [] (by decide) Z9 (H' := []) (d' := .tup [tD [], I e0]) trivial rfl (Z1 hz)
end Go.Proofs.YthljpccegkmdnaaGreatDoor
