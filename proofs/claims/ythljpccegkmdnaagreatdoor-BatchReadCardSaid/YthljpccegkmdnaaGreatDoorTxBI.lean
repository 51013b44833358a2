/- Part TxBI of the proofs about the benches of the accordion maker: see the last text of the claim for what is proved. -/
import Derived.Test.YthljpccegkmdnaaGreatDoorTxBH
import Derived.Test.YthljpccegkmdnaaGreatDoorTxBF
set_option linter.unusedVariables false
set_option linter.unusedSimpArgs false
set_option linter.unnecessarySimpa false
set_option linter.constructorNameAsVariable false

namespace Go.Proofs.YthljpccegkmdnaaGreatDoor
open Go Go.Abs Go.Proofs Go.Batch Go.Txt
set_option maxRecDepth 20000 in
theorem Z1in (n : Int) (t : By) (ht : (n = 1 /\ t = inW) ∨ (n = 2 /\ t = outW) ∨ (n ≠ 1 /\ n ≠ 2 /\ t = Z1h0)) (Q) (hq : Q (RA.ret (tD t)) []) : CallA Tryz.prog 107 [I n] [] Q := by
 obtain ⟨A, hA⟩ : ∃ A, A = ar := ⟨_, rfl⟩;have c1 : A.cmp .eql n 1 = decide (n = 1) := by subst hA; simp only [ar, Z25]; by_cases e : n = 1 <;> simp [e]
 have c2 : A.cmp .eql n 2 = decide (n = 2) := by subst hA; simp only [ar, Z25]; by_cases e : n = 2 <;> simp [e]
 refine Z5 Z0 hA Tryz.func107 rfl rfl rfl rfl rfl fun S hS => ?_;rcases ht with ⟨rfl, rfl⟩ | ⟨rfl, rfl⟩ | ⟨h1, h2, rfl⟩
 ·have c1 : A.cmp .eql 1 1 = true := c1;cbv;refine bmT c1 ?_;cbv;exact Z2 [] (by decide) Z9 (H' := []) (d' := tD inW) trivial rfl (Z1 hq)
 ·have c1 : A.cmp .eql 2 1 = false := c1;have c2 : A.cmp .eql 2 2 = true := c2;cbv;refine bmF c1 ?_;cbv;refine bmT c2 ?_;cbv;exact Z2 [] (by decide) Z9 (H' := []) (d' := tD outW) trivial rfl (Z1 hq)
 ·rw [decide_eq_false h1] at c1;rw [decide_eq_false h2] at c2;cbv;refine bmF c1 ?_;cbv;refine bmF c2 ?_;cbv;exact Z2 [] (by decide) Z9 (H' := []) (d' := tD Z1h0) trivial rfl (Z1 hq)
theorem Z1hb (n : Int) (h : n = 1) (Q) (hq : Q (RA.ret (tD inW)) []) : CallA Tryz.prog 107 [I n] [] Q := Z1in n _ (.inl ⟨h, rfl⟩) Q hq
theorem Z1hs (n : Int) (h : n = 2) (Q) (hq : Q (RA.ret (tD outW)) []) : CallA Tryz.prog 107 [I n] [] Q := Z1in n _ (.inr (.inl ⟨h, rfl⟩)) Q hq
theorem Z1ij (n : Int) (h : n = 3) (Q) (hq : Q (RA.ret (tD Z1h0)) []) : CallA Tryz.prog 107 [I n] [] Q := Z1in n _ (.inr (.inr ⟨by omega, by omega, rfl⟩)) Q hq
set_option maxRecDepth 20000 in
set_option maxHeartbeats 8000000 in
theorem Z1ka (w : List By) (hne : w ≠ []) (hw : ∀ x ∈ w, x.length <= 1000) (hwl : w.length <= 1000) (WL : List D) (hWL : WL = w.map tD) (Q)
  (h1 : ∀ m, Z1gq w = some m -> Q (RA.ret (.tup [mvD m, .v (.bool true)])) [])
  (h2 : Z1gq w = none -> ∀ a b c d e, Q (RA.ret (.tup [.agg [I a, I b, I c, I d, I e], .v (.bool false)])) []) :
  CallA Tryz.prog 112 [.sl 1 WL] [] Q := by
 obtain ⟨A, hA⟩ : ∃ A, A = ar := ⟨_, rfl⟩;have hWl : WL.length = w.length := by rw [hWL, List.length_map]
 have hpos : 1 <= w.length := by cases w with | nil => exact absurd rfl hne | cons a l => simp
 obtain ⟨w0, hw0⟩ : ∃ w0, w.head? = some w0 := by
  cases w with
  | nil => exact absurd rfl hne
  | cons a l => exact ⟨a, rfl⟩
 have i0 : A.inb 0 (A.len WL) := Z1b hA hWl (k := 0) ⟨rfl⟩ (by omega);have n0 : A.get WL (A.tn 0) = some (tD w0) := Z18 hA (k := 0) ⟨rfl⟩ (by rw [hWL]; cases w with | nil => cases hw0 | cons a l => cases hw0; rfl);have k1 : (1 : Int) = 1 := rfl;have k2 : A.add 1 1 = 2 := by subst hA; rfl
 have k3 : A.add (A.add 1 1) 1 = 3 := by subst hA; rfl
 have k4 : A.add (A.add (A.add 1 1) 1) 1 = 4 := by subst hA; rfl
 have l1 : A.cmp .leq 1 3 = true := by subst hA; rfl
 have l2 : A.cmp .leq (A.add 1 1) 3 = true := by subst hA; rfl
 have l3 : A.cmp .leq (A.add (A.add 1 1) 1) 3 = true := by subst hA; rfl
 have l4 : A.cmp .leq (A.add (A.add (A.add 1 1) 1) 1) 3 = false := by subst hA; rfl
 have f1 : A.fits .i64 (A.add 1 1) := Z14 hA k2 (by decide);have f2 : A.fits .i64 (A.add (A.add 1 1) 1) := Z14 hA k3 (by decide);have f3 : A.fits .i64 (A.add (A.add (A.add 1 1) 1) 1) := Z14 hA k4 (by decide);have q1 : A.cmp .eql 1 2 = false := by subst hA; rfl
 have q2 : A.cmp .eql (A.add 1 1) 2 = true := by subst hA; rfl
 have q3 : A.cmp .eql (A.add (A.add 1 1) 1) 2 = false := by subst hA; rfl
 have sT : ∀ {x : By}, w0 = x -> A.bnot (A.seq (bs w0) (bs x)) = false := fun e => by rw [yseq hA, e]; subst hA; simp [ar]
 have sF : ∀ {x : By}, ¬ w0 = x -> A.bnot (A.seq (bs w0) (bs x)) = true := fun e => by rw [yseq hA, decide_eq_false e]; subst hA; rfl
 have rs : A.sub2 WL 1 (A.oi (A.len WL)) = w.tail.map tD := by
  subst hA;show (WL.take ((WL.length : Int)).toNat).drop (1 : Int).toNat = _;rw [Int.toNat_natCast, List.take_length, hWL]; cases w <;> rfl
 have rOK : A.sub2OK WL 1 (A.oi (A.len WL)) := by
  subst hA;refine ⟨by decide, ?_, ?_⟩
  ·show (1 : Int) <= (WL.length : Int); omega
  ·show (WL.length : Int) <= (WL.length : Int); omega
 obtain ⟨N, hN⟩ : ∃ N, N = w.tail.length := ⟨_, rfl⟩;have hRl : (A.sub2 WL 1 (A.oi (A.len WL))).length = N := by rw [rs, List.length_map, hN]
 have hRo : A.oi (A.len (A.sub2 WL 1 (A.oi (A.len WL)))) = (N : Int) := yoiL hA hRl;refine Z5 Z0 hA Tryz.func112 rfl rfl rfl rfl rfl fun S hS => ?_;cbv;refine Z1e9 hS 4 fun Rn hR => ?_
 by_cases e1 : w0 = inW
 ·have s1' := sT e1
  by_cases hl : N = 3
  ·obtain ⟨w1, w2, w3, rfl⟩ : ∃ a b c, w = [w0, a, b, c] := by
    match w, hw0, hN.symm.trans hl with
    | [x, a, b, c], h, _ => exact ⟨a, b, c, by cases h; rfl⟩
   have hw1 : w1.length <= 1000 := hw w1 (by simp);have hw2 : w2.length <= 1000 := hw w2 (by simp);have hw3 : w3.length <= 1000 := hw w3 (by simp);have hR3 : (A.sub2 WL 1 (A.oi (A.len WL))).length = 3 := hRl.trans hl;have ir0 : A.inb 0 (A.len (A.sub2 WL 1 (A.oi (A.len WL)))) := Z1b hA hR3 (k := 0) ⟨rfl⟩ (by omega);have nr0 : A.get (A.sub2 WL 1 (A.oi (A.len WL))) (A.tn 0) = some (tD w1) := Z18 hA (k := 0) ⟨rfl⟩ (by rw [rs]; rfl);have ir1 : A.inb 1 (A.len (A.sub2 WL 1 (A.oi (A.len WL)))) := Z1b hA hR3 (k := 1) ⟨rfl⟩ (by omega);have nr1 : A.get (A.sub2 WL 1 (A.oi (A.len WL))) (A.tn 1) = some (tD w2) := Z18 hA (k := 1) ⟨rfl⟩ (by rw [rs]; rfl);have ir2 : A.inb 2 (A.len (A.sub2 WL 1 (A.oi (A.len WL)))) := Z1b hA hR3 (k := 2) ⟨rfl⟩ (by omega);have nr2 : A.get (A.sub2 WL 1 (A.oi (A.len WL))) (A.tn 2) = some (tD w3) := Z18 hA (k := 2) ⟨rfl⟩ (by rw [rs]; rfl);have c3 : A.cmp .neq (A.oi (A.len (A.sub2 WL 1 (A.oi (A.len WL))))) 3 = false := by rw [hRo, hl]; subst hA; rfl
   have hmj : Z1gq [w0, w1, w2, w3] = mk3 1 0 (numB w1) (numB w2) (numB w3) := by simp only [Z1gq]; rw [if_pos e1]
   clear hw hwl hne hpos hw0 hRl hRo hN hWL hWl rs;refine Z198 Z0 hA hS hR ?_;cbv;refine bmT l1 ?_;cbv;refine Z16 Z0 hA hS [0, 1, 2, 3, 4, 5] rfl rfl fun Dk hD => ?_;cbv;refine ⟨i0, Need.mk ⟨_, n0, ?_⟩⟩;cbv;refine Zq hA hD [I 1] [] [] rfl rfl rfl rfl rfl rfl rfl rfl rfl rfl rfl (by decide) trivial (Z1hb 1 k1 _ ⟨by cbv; exact ⟨Need.mk ⟨_, n0, rfl⟩, trivial⟩, Zx Z0 hA hD ?_⟩);cbv;refine bmF s1' ?_;cbv;refine ⟨rOK, ?_⟩;refine bmF q1 ?_;cbv;refine bmF q1 ?_;cbv;refine bmF c3 ?_;cbv;refine ⟨ir0, Need.mk ⟨_, nr0, ?_⟩⟩;cbv;refine Z4 hS [.v (.string (bs w1))] [] [] rfl rfl rfl rfl rfl rfl rfl rfl (by decide) trivial (Z1gr w1 hw1 _ fun v1 b1 tb1 fb1 => ?_);refine Z3 Z0 hA hS ?_;cbv;refine ⟨ir1, Need.mk ⟨_, nr1, ?_⟩⟩;cbv;refine Z4 hS [.v (.string (bs w2))] [] [] rfl rfl rfl rfl rfl rfl rfl rfl (by decide) trivial (Z1gr w2 hw2 _ fun v2 b2 tb2 fb2 => ?_);refine Z3 Z0 hA hS ?_;cbv;refine ⟨ir2, Need.mk ⟨_, nr2, ?_⟩⟩;cbv;refine Z4 hS [.v (.string (bs w3))] [] [] rfl rfl rfl rfl rfl rfl rfl rfl (by decide) trivial (Z1gr w3 hw3 _ fun v3 b3 tb3 fb3 => ?_);refine Z3 Z0 hA hS ?_;cbv;have hz : ∀ b, b = (b1 && b2 && b3) -> Q (RA.ret (.tup [.agg [I 1, I v1, I 0, I v2, I v3], .v (.bool b)])) [] := fun b hb => by
    cases b with
    | true =>
     have hb := hb.symm;simp only [Bool.and_eq_true] at hb;obtain ⟨⟨b1e, b2e⟩, b3e⟩ := hb;have := h1 ⟨1, v1, 0, v2, v3⟩ (by rw [hmj, tb1 b1e, tb2 b2e, tb3 b3e]; rfl);rw [k1]; exact this
    | false =>
     refine h2 ?_ _ _ _ _ _;rw [hmj]
     cases hb1 : b1 with
     | false => rw [fb1 hb1]; rfl
     | true =>
     cases hb2 : b2 with
     | false => rw [fb2 hb2]; cases numB w1 <;> rfl
     | true =>
     cases hb3 : b3 with
     | false => rw [fb3 hb3]; cases numB w1 <;> cases numB w2 <;> rfl
     | true =>
     subst hb1 hb2 hb3;exact Bool.noConfusion hb
   clear h1 h2 tb1 fb1 tb2 fb2 tb3 fb3;have y1 := fun h => hz false h;have y2 := hz;refine bm (fun p1 => ?_) (fun p1 => ?_)
   ·cbv;refine bm (fun p2 => ?_) (fun p2 => ?_)
    ·have hz := hz b3 (by rw [p1, p2]; rfl);cbv;exact Z2 [] (by decide) Z9 (H' := []) (d' := .tup [.agg [I 1, I v1, I 0, I v2, I v3], .v (.bool b3)]) trivial rfl (Z1 hz)
    ·have hz := hz false (by rw [p1, p2]; rfl);cbv;exact Z2 [] (by decide) Z9 (H' := []) (d' := .tup [.agg [I 1, I v1, I 0, I v2, I v3], .v (.bool false)]) trivial rfl (Z1 hz)
   ·have hz := hz false (by rw [p1]; rfl);cbv;exact Z2 [] (by decide) Z9 (H' := []) (d' := .tup [.agg [I 1, I v1, I 0, I v2, I v3], .v (.bool false)]) trivial rfl (Z1 hz)
  ·have c3 : A.cmp .neq (A.oi (A.len (A.sub2 WL 1 (A.oi (A.len WL))))) 3 = true := by rw [hRo]; have e : (N : Int) ≠ 3 := (fun h => hl (by omega)); subst hA; exact bne_iff_ne.2 e
   have hz := h2 (by
    match w, hw0, hN with
    | [_], h, _ => rfl
    | [_, _], h, _ => rfl
    | [_, _, _], h, _ => rfl
    | [_, _, _, _], h, hN => exact absurd hN hl
    | [_, _, _, _, _], h, _ => cases h; simp only [Z1gq]; rw [if_neg (by rw [e1]; decide)]
    | _ :: _ :: _ :: _ :: _ :: _ :: _, _, _ => rfl) 0 0 0 0 0
   refine Z198 Z0 hA hS hR ?_;cbv;refine bmT l1 ?_;cbv;refine Z16 Z0 hA hS [0, 1, 2, 3, 4, 5] rfl rfl fun Dk hD => ?_;cbv;refine ⟨i0, Need.mk ⟨_, n0, ?_⟩⟩;cbv;refine Zq hA hD [I 1] [] [] rfl rfl rfl rfl rfl rfl rfl rfl rfl rfl rfl (by decide) trivial (Z1hb 1 k1 _ ⟨by cbv; exact ⟨Need.mk ⟨_, n0, rfl⟩, trivial⟩, Zx Z0 hA hD ?_⟩);cbv;refine bmF s1' ?_;cbv;refine ⟨rOK, ?_⟩;refine bmF q1 ?_;cbv;refine bmF q1 ?_;cbv;refine bmT c3 ?_;cbv;exact Z2 [] (by decide) Z9 (H' := []) (d' := .tup [.agg [I 0, I 0, I 0, I 0, I 0], .v (.bool false)]) trivial rfl (Z1 hz)
 have s1 := sF e1
 by_cases e2 : w0 = outW
 ·have s2' := sT e2
  by_cases hl : N = 4
  ·obtain ⟨w1, w2, w3, w4, rfl⟩ : ∃ a b c d, w = [w0, a, b, c, d] := by
    match w, hw0, hN.symm.trans hl with
    | [x, a, b, c, d], h, _ => exact ⟨a, b, c, d, by cases h; rfl⟩
   have hw1 : w1.length <= 1000 := hw w1 (by simp);have hw2 : w2.length <= 1000 := hw w2 (by simp);have hw3 : w3.length <= 1000 := hw w3 (by simp);have hw4 : w4.length <= 1000 := hw w4 (by simp);have hR3 : (A.sub2 WL 1 (A.oi (A.len WL))).length = 4 := hRl.trans hl;have ir0 : A.inb 0 (A.len (A.sub2 WL 1 (A.oi (A.len WL)))) := Z1b hA hR3 (k := 0) ⟨rfl⟩ (by omega);have nr0 : A.get (A.sub2 WL 1 (A.oi (A.len WL))) (A.tn 0) = some (tD w1) := Z18 hA (k := 0) ⟨rfl⟩ (by rw [rs]; rfl);have ir1 : A.inb 1 (A.len (A.sub2 WL 1 (A.oi (A.len WL)))) := Z1b hA hR3 (k := 1) ⟨rfl⟩ (by omega);have nr1 : A.get (A.sub2 WL 1 (A.oi (A.len WL))) (A.tn 1) = some (tD w2) := Z18 hA (k := 1) ⟨rfl⟩ (by rw [rs]; rfl);have ir2 : A.inb 2 (A.len (A.sub2 WL 1 (A.oi (A.len WL)))) := Z1b hA hR3 (k := 2) ⟨rfl⟩ (by omega);have nr2 : A.get (A.sub2 WL 1 (A.oi (A.len WL))) (A.tn 2) = some (tD w3) := Z18 hA (k := 2) ⟨rfl⟩ (by rw [rs]; rfl);have ir3 : A.inb 3 (A.len (A.sub2 WL 1 (A.oi (A.len WL)))) := Z1b hA hR3 (k := 3) ⟨rfl⟩ (by omega);have nr3 : A.get (A.sub2 WL 1 (A.oi (A.len WL))) (A.tn 3) = some (tD w4) := Z18 hA (k := 3) ⟨rfl⟩ (by rw [rs]; rfl);have c4 : A.cmp .eql (A.oi (A.len (A.sub2 WL 1 (A.oi (A.len WL))))) 4 = true := by rw [hRo, hl]; subst hA; rfl
   have hmj0 : Z1gq [w0, w1, w2, w3, w4] = (match Z1h4 w2 with | some i => mk3 2 i (numB w1) (numB w3) (numB w4) | none => none) := by simp only [Z1gq]; rw [if_pos e2]; cases Z1h4 w2 <;> rfl
   rw [hmj0] at h1 h2;clear hw hwl hne hpos hw0 hRl hRo hN hWL hWl rs hmj0;have o3 : A.cmp .neq (A.oi 3) 3 = false := by subst hA; rfl
   have rr : A.room 3 16 := by subst hA; exact ⟨by decide, by decide⟩
   have jr0 : A.inb 0 3 := by subst hA; exact ⟨by decide, by decide⟩
   have mr0 : A.get [.v (.string (bs w1)), .v (.string (bs w3)), .v (.string (bs w4))] (A.tn 0) = some (tD w1) := by subst hA; rfl
   have jr1 : A.inb 1 3 := by subst hA; exact ⟨by decide, by decide⟩
   have mr1 : A.get [.v (.string (bs w1)), .v (.string (bs w3)), .v (.string (bs w4))] (A.tn 1) = some (tD w3) := by subst hA; rfl
   have jr2 : A.inb 2 3 := by subst hA; exact ⟨by decide, by decide⟩
   have mr2 : A.get [.v (.string (bs w1)), .v (.string (bs w3)), .v (.string (bs w4))] (A.tn 2) = some (tD w4) := by subst hA; rfl
   refine Z198 Z0 hA hS hR ?_;cbv;refine bmT l1 ?_;cbv;refine Z16 Z0 hA hS [0, 1, 2, 3, 4, 5] rfl rfl fun Dk hD => ?_;cbv;refine ⟨i0, Need.mk ⟨_, n0, ?_⟩⟩;cbv;refine Zq hA hD [I 1] [] [] rfl rfl rfl rfl rfl rfl rfl rfl rfl rfl rfl (by decide) trivial (Z1hb 1 k1 _ ⟨by cbv; exact ⟨Need.mk ⟨_, n0, rfl⟩, trivial⟩, Zx Z0 hA hD ?_⟩);cbv;refine bmT s1 ?_;cbv;refine ⟨f1, ?_⟩;refine Z198 Z0 hA hS hR ?_;cbv;refine bmT l2 ?_;cbv;refine Z16 Z0 hA hS [0, 1, 2, 3, 4, 5] rfl rfl fun Dk hD => ?_;cbv;refine ⟨i0, Need.mk ⟨_, n0, ?_⟩⟩;cbv;refine Zq hA hD [I (A.add 1 1)] [] [] rfl rfl rfl rfl rfl rfl rfl rfl rfl rfl rfl (by decide) trivial (Z1hs (A.add 1 1) k2 _ ⟨by cbv; exact ⟨Need.mk ⟨_, n0, rfl⟩, trivial⟩, Zx Z0 hA hD ?_⟩);cbv;refine bmF s2' ?_;cbv;refine ⟨rOK, ?_⟩;refine bmT q2 ?_;cbv;refine bmT c4 ?_;cbv;refine ⟨ir1, Need.mk ⟨_, nr1, ?_⟩⟩;cbv;refine Z4 hS [.v (.string (bs w2))] [] [] rfl rfl rfl rfl rfl rfl rfl rfl (by decide) trivial (Z1gr w2 hw2 _ fun vn bn tn fn => ?_);refine Z3 Z0 hA hS ?_;cbv;refine ⟨ir1, Need.mk ⟨_, nr1, ?_⟩⟩;cbv;refine bm (fun g => ?_) (fun g => ?_)
   ·have ew : w2 = [63] := Z1i8 hA g;have hi : Z1h4 w2 = some (-1) := by unfold Z1h4; rw [if_pos ew]
    rw [hi] at h1 h2;dsimp only at h1 h2;clear tn fn;have bt : A.bnot true = false := by subst hA; rfl
    cbv;refine bmF bt ?_;cbv;refine Z16 Z0 hA hS [0, 1, 2, 3, 4, 5, 6, 7, 8, 9, 10] rfl rfl fun Dk hD => ?_;cbv;refine ⟨ir0, Need.mk ⟨_, nr0, ?_⟩⟩;cbv;refine ⟨ir2, Need.mk ⟨_, nr2, ?_⟩⟩;cbv;refine ⟨ir3, Need.mk ⟨_, nr3, ?_⟩⟩;cbv;refine bmF o3 ?_;cbv;have hmj : mk3 2 (-1) (numB w1) (numB w3) (numB w4) = mk3 2 (-1) (numB w1) (numB w3) (numB w4) := rfl;refine ⟨jr0, Need.mk ⟨_, mr0, ?_⟩⟩;cbv;refine Z4 hS [.v (.string (bs w1))] [] [] rfl rfl rfl rfl rfl rfl rfl rfl (by decide) trivial (Z1gr w1 hw1 _ fun v1 b1 tb1 fb1 => ?_);refine Z3 Z0 hA hS ?_;cbv;refine ⟨jr1, Need.mk ⟨_, mr1, ?_⟩⟩;cbv;refine Z4 hS [.v (.string (bs w3))] [] [] rfl rfl rfl rfl rfl rfl rfl rfl (by decide) trivial (Z1gr w3 hw3 _ fun v2 b2 tb2 fb2 => ?_);refine Z3 Z0 hA hS ?_;cbv;refine ⟨jr2, Need.mk ⟨_, mr2, ?_⟩⟩;cbv;refine Z4 hS [.v (.string (bs w4))] [] [] rfl rfl rfl rfl rfl rfl rfl rfl (by decide) trivial (Z1gr w4 hw4 _ fun v3 b3 tb3 fb3 => ?_);refine Z3 Z0 hA hS ?_;cbv;have hz : ∀ b, b = (b1 && b2 && b3) -> Q (RA.ret (.tup [.agg [I (A.add 1 1), I v1, I (-1), I v2, I v3], .v (.bool b)])) [] := fun b hb => by
     cases b with
     | true =>
      have hb := hb.symm;simp only [Bool.and_eq_true] at hb;obtain ⟨⟨b1e, b2e⟩, b3e⟩ := hb;have := h1 ⟨2, v1, (-1), v2, v3⟩ (by rw [hmj, tb1 b1e, tb2 b2e, tb3 b3e]; rfl);rw [k2]; exact this
     | false =>
      refine h2 ?_ _ _ _ _ _;rw [hmj]
      cases hb1 : b1 with
      | false => rw [fb1 hb1]; rfl
      | true =>
      cases hb2 : b2 with
      | false => rw [fb2 hb2]; cases numB w1 <;> rfl
      | true =>
      cases hb3 : b3 with
      | false => rw [fb3 hb3]; cases numB w1 <;> cases numB w3 <;> rfl
      | true =>
      subst hb1 hb2 hb3;exact Bool.noConfusion hb
    clear h1 h2 tb1 fb1 tb2 fb2 tb3 fb3;have y1 := fun h => hz false h;have y2 := hz;refine bm (fun p1 => ?_) (fun p1 => ?_)
    ·cbv;refine bm (fun p2 => ?_) (fun p2 => ?_)
     ·have hz := hz b3 (by rw [p1, p2]; rfl);cbv;exact Z2 [] (by decide) Z9 (H' := []) (d' := .tup [.agg [I (A.add 1 1), I v1, I (-1), I v2, I v3], .v (.bool b3)]) trivial rfl (Z1 hz)
     ·have hz := hz false (by rw [p1, p2]; rfl);cbv;exact Z2 [] (by decide) Z9 (H' := []) (d' := .tup [.agg [I (A.add 1 1), I v1, I (-1), I v2, I v3], .v (.bool false)]) trivial rfl (Z1 hz)
    ·have hz := hz false (by rw [p1]; rfl);cbv;exact Z2 [] (by decide) Z9 (H' := []) (d' := .tup [.agg [I (A.add 1 1), I v1, I (-1), I v2, I v3], .v (.bool false)]) trivial rfl (Z1 hz)
   ·have ew : ¬ w2 = [63] := Z1i9 hA g;have hi : Z1h4 w2 = numB w2 := by unfold Z1h4; rw [if_neg ew]
    rw [hi] at h1 h2
    cases bn with
    | false =>
     have bt : A.bnot false = true := by subst hA; rfl
     have hz := h2 (by rw [fn rfl]) 0 0 0 0 0;cbv;refine bmT bt ?_;cbv;exact Z2 [] (by decide) Z9 (H' := []) (d' := .tup [.agg [I 0, I 0, I 0, I 0, I 0], .v (.bool false)]) trivial rfl (Z1 hz)
    | true =>
     have bt : A.bnot true = false := by subst hA; rfl
     rw [tn rfl] at h1 h2;dsimp only at h1 h2;cbv;refine bmF bt ?_;cbv;refine Z16 Z0 hA hS [0, 1, 2, 3, 4, 5, 6, 7, 8, 9, 10] rfl rfl fun Dk hD => ?_;cbv;refine ⟨ir0, Need.mk ⟨_, nr0, ?_⟩⟩;cbv;refine ⟨ir2, Need.mk ⟨_, nr2, ?_⟩⟩;cbv;refine ⟨ir3, Need.mk ⟨_, nr3, ?_⟩⟩;cbv;refine bmF o3 ?_;cbv;have hmj : mk3 2 vn (numB w1) (numB w3) (numB w4) = mk3 2 vn (numB w1) (numB w3) (numB w4) := rfl;refine ⟨jr0, Need.mk ⟨_, mr0, ?_⟩⟩;cbv;refine Z4 hS [.v (.string (bs w1))] [] [] rfl rfl rfl rfl rfl rfl rfl rfl (by decide) trivial (Z1gr w1 hw1 _ fun v1 b1 tb1 fb1 => ?_);refine Z3 Z0 hA hS ?_;cbv;refine ⟨jr1, Need.mk ⟨_, mr1, ?_⟩⟩;cbv;refine Z4 hS [.v (.string (bs w3))] [] [] rfl rfl rfl rfl rfl rfl rfl rfl (by decide) trivial (Z1gr w3 hw3 _ fun v2 b2 tb2 fb2 => ?_);refine Z3 Z0 hA hS ?_;cbv;refine ⟨jr2, Need.mk ⟨_, mr2, ?_⟩⟩;cbv;refine Z4 hS [.v (.string (bs w4))] [] [] rfl rfl rfl rfl rfl rfl rfl rfl (by decide) trivial (Z1gr w4 hw4 _ fun v3 b3 tb3 fb3 => ?_);refine Z3 Z0 hA hS ?_;cbv;have hz : ∀ b, b = (b1 && b2 && b3) -> Q (RA.ret (.tup [.agg [I (A.add 1 1), I v1, I vn, I v2, I v3], .v (.bool b)])) [] := fun b hb => by
      cases b with
      | true =>
       have hb := hb.symm;simp only [Bool.and_eq_true] at hb;obtain ⟨⟨b1e, b2e⟩, b3e⟩ := hb;have := h1 ⟨2, v1, vn, v2, v3⟩ (by rw [hmj, tb1 b1e, tb2 b2e, tb3 b3e]; rfl);rw [k2]; exact this
      | false =>
       refine h2 ?_ _ _ _ _ _;rw [hmj]
       cases hb1 : b1 with
       | false => rw [fb1 hb1]; rfl
       | true =>
       cases hb2 : b2 with
       | false => rw [fb2 hb2]; cases numB w1 <;> rfl
       | true =>
       cases hb3 : b3 with
       | false => rw [fb3 hb3]; cases numB w1 <;> cases numB w3 <;> rfl
       | true =>
       subst hb1 hb2 hb3;exact Bool.noConfusion hb
     clear h1 h2 tb1 fb1 tb2 fb2 tb3 fb3;have y1 := fun h => hz false h;have y2 := hz;refine bm (fun p1 => ?_) (fun p1 => ?_)
     ·cbv;refine bm (fun p2 => ?_) (fun p2 => ?_)
      ·have hz := hz b3 (by rw [p1, p2]; rfl);cbv;exact Z2 [] (by decide) Z9 (H' := []) (d' := .tup [.agg [I (A.add 1 1), I v1, I vn, I v2, I v3], .v (.bool b3)]) trivial rfl (Z1 hz)
      ·have hz := hz false (by rw [p1, p2]; rfl);cbv;exact Z2 [] (by decide) Z9 (H' := []) (d' := .tup [.agg [I (A.add 1 1), I v1, I vn, I v2, I v3], .v (.bool false)]) trivial rfl (Z1 hz)
     ·have hz := hz false (by rw [p1]; rfl);cbv;exact Z2 [] (by decide) Z9 (H' := []) (d' := .tup [.agg [I (A.add 1 1), I v1, I vn, I v2, I v3], .v (.bool false)]) trivial rfl (Z1 hz)
  ·have c4 : A.cmp .eql (A.oi (A.len (A.sub2 WL 1 (A.oi (A.len WL))))) 4 = false := by rw [hRo]; have e : (N : Int) ≠ 4 := (fun h => hl (by omega)); subst hA; exact beq_eq_false_iff_ne.2 e
   have hz := h2 (by
    match w, hw0, hN with
    | [_], h, _ => rfl
    | [_, _], h, _ => rfl
    | [_, _, _], h, _ => rfl
    | [_, _, _, _], h, _ => cases h; simp only [Z1gq]; rw [if_neg (by rw [e2]; decide), if_neg (by rw [e2]; decide)]
    | [_, _, _, _, _], h, hN => exact absurd hN hl
    | _ :: _ :: _ :: _ :: _ :: _ :: _, _, _ => rfl) 0 0 0 0 0
   refine Z198 Z0 hA hS hR ?_;cbv;refine bmT l1 ?_;cbv;refine Z16 Z0 hA hS [0, 1, 2, 3, 4, 5] rfl rfl fun Dk hD => ?_;cbv;refine ⟨i0, Need.mk ⟨_, n0, ?_⟩⟩;cbv;refine Zq hA hD [I 1] [] [] rfl rfl rfl rfl rfl rfl rfl rfl rfl rfl rfl (by decide) trivial (Z1hb 1 k1 _ ⟨by cbv; exact ⟨Need.mk ⟨_, n0, rfl⟩, trivial⟩, Zx Z0 hA hD ?_⟩);cbv;refine bmT s1 ?_;cbv;refine ⟨f1, ?_⟩;refine Z198 Z0 hA hS hR ?_;cbv;refine bmT l2 ?_;cbv;refine Z16 Z0 hA hS [0, 1, 2, 3, 4, 5] rfl rfl fun Dk hD => ?_;cbv;refine ⟨i0, Need.mk ⟨_, n0, ?_⟩⟩;cbv;refine Zq hA hD [I (A.add 1 1)] [] [] rfl rfl rfl rfl rfl rfl rfl rfl rfl rfl rfl (by decide) trivial (Z1hs (A.add 1 1) k2 _ ⟨by cbv; exact ⟨Need.mk ⟨_, n0, rfl⟩, trivial⟩, Zx Z0 hA hD ?_⟩);cbv;refine bmF s2' ?_;cbv;refine ⟨rOK, ?_⟩;refine bmT q2 ?_;cbv;refine bmF c4 ?_;cbv;refine bmT q2 ?_;cbv;exact Z2 [] (by decide) Z9 (H' := []) (d' := .tup [.agg [I 0, I 0, I 0, I 0, I 0], .v (.bool false)]) trivial rfl (Z1 hz)
 have s2 := sF e2
 by_cases e3 : w0 = Z1h0
 ·have s3' := sT e3
  by_cases hl : N = 3
  ·obtain ⟨w1, w2, w3, rfl⟩ : ∃ a b c, w = [w0, a, b, c] := by
    match w, hw0, hN.symm.trans hl with
    | [x, a, b, c], h, _ => exact ⟨a, b, c, by cases h; rfl⟩
   have hw1 : w1.length <= 1000 := hw w1 (by simp);have hw2 : w2.length <= 1000 := hw w2 (by simp);have hw3 : w3.length <= 1000 := hw w3 (by simp);have hR3 : (A.sub2 WL 1 (A.oi (A.len WL))).length = 3 := hRl.trans hl;have ir0 : A.inb 0 (A.len (A.sub2 WL 1 (A.oi (A.len WL)))) := Z1b hA hR3 (k := 0) ⟨rfl⟩ (by omega);have nr0 : A.get (A.sub2 WL 1 (A.oi (A.len WL))) (A.tn 0) = some (tD w1) := Z18 hA (k := 0) ⟨rfl⟩ (by rw [rs]; rfl);have ir1 : A.inb 1 (A.len (A.sub2 WL 1 (A.oi (A.len WL)))) := Z1b hA hR3 (k := 1) ⟨rfl⟩ (by omega);have nr1 : A.get (A.sub2 WL 1 (A.oi (A.len WL))) (A.tn 1) = some (tD w2) := Z18 hA (k := 1) ⟨rfl⟩ (by rw [rs]; rfl);have ir2 : A.inb 2 (A.len (A.sub2 WL 1 (A.oi (A.len WL)))) := Z1b hA hR3 (k := 2) ⟨rfl⟩ (by omega);have nr2 : A.get (A.sub2 WL 1 (A.oi (A.len WL))) (A.tn 2) = some (tD w3) := Z18 hA (k := 2) ⟨rfl⟩ (by rw [rs]; rfl);have c3 : A.cmp .neq (A.oi (A.len (A.sub2 WL 1 (A.oi (A.len WL))))) 3 = false := by rw [hRo, hl]; subst hA; rfl
   have hmj : Z1gq [w0, w1, w2, w3] = mk3 3 0 (numB w1) (numB w2) (numB w3) := by simp only [Z1gq]; rw [if_neg e1, if_pos e3]
   clear hw hwl hne hpos hw0 hRl hRo hN hWL hWl rs;refine Z198 Z0 hA hS hR ?_;cbv;refine bmT l1 ?_;cbv;refine Z16 Z0 hA hS [0, 1, 2, 3, 4, 5] rfl rfl fun Dk hD => ?_;cbv;refine ⟨i0, Need.mk ⟨_, n0, ?_⟩⟩;cbv;refine Zq hA hD [I 1] [] [] rfl rfl rfl rfl rfl rfl rfl rfl rfl rfl rfl (by decide) trivial (Z1hb 1 k1 _ ⟨by cbv; exact ⟨Need.mk ⟨_, n0, rfl⟩, trivial⟩, Zx Z0 hA hD ?_⟩);cbv;refine bmT s1 ?_;cbv;refine ⟨f1, ?_⟩;refine Z198 Z0 hA hS hR ?_;cbv;refine bmT l2 ?_;cbv;refine Z16 Z0 hA hS [0, 1, 2, 3, 4, 5] rfl rfl fun Dk hD => ?_;cbv;refine ⟨i0, Need.mk ⟨_, n0, ?_⟩⟩;cbv;refine Zq hA hD [I (A.add 1 1)] [] [] rfl rfl rfl rfl rfl rfl rfl rfl rfl rfl rfl (by decide) trivial (Z1hs (A.add 1 1) k2 _ ⟨by cbv; exact ⟨Need.mk ⟨_, n0, rfl⟩, trivial⟩, Zx Z0 hA hD ?_⟩);cbv;refine bmT s2 ?_;cbv;refine ⟨f2, ?_⟩;refine Z198 Z0 hA hS hR ?_;cbv;refine bmT l3 ?_;cbv;refine Z16 Z0 hA hS [0, 1, 2, 3, 4, 5] rfl rfl fun Dk hD => ?_;cbv;refine ⟨i0, Need.mk ⟨_, n0, ?_⟩⟩;cbv;refine Zq hA hD [I (A.add (A.add 1 1) 1)] [] [] rfl rfl rfl rfl rfl rfl rfl rfl rfl rfl rfl (by decide) trivial (Z1ij (A.add (A.add 1 1) 1) k3 _ ⟨by cbv; exact ⟨Need.mk ⟨_, n0, rfl⟩, trivial⟩, Zx Z0 hA hD ?_⟩);cbv;refine bmF s3' ?_;cbv;refine ⟨rOK, ?_⟩;refine bmF q3 ?_;cbv;refine bmF q3 ?_;cbv;refine bmF c3 ?_;cbv;refine ⟨ir0, Need.mk ⟨_, nr0, ?_⟩⟩;cbv;refine Z4 hS [.v (.string (bs w1))] [] [] rfl rfl rfl rfl rfl rfl rfl rfl (by decide) trivial (Z1gr w1 hw1 _ fun v1 b1 tb1 fb1 => ?_);refine Z3 Z0 hA hS ?_;cbv;refine ⟨ir1, Need.mk ⟨_, nr1, ?_⟩⟩;cbv;refine Z4 hS [.v (.string (bs w2))] [] [] rfl rfl rfl rfl rfl rfl rfl rfl (by decide) trivial (Z1gr w2 hw2 _ fun v2 b2 tb2 fb2 => ?_);refine Z3 Z0 hA hS ?_;cbv;refine ⟨ir2, Need.mk ⟨_, nr2, ?_⟩⟩;cbv;refine Z4 hS [.v (.string (bs w3))] [] [] rfl rfl rfl rfl rfl rfl rfl rfl (by decide) trivial (Z1gr w3 hw3 _ fun v3 b3 tb3 fb3 => ?_);refine Z3 Z0 hA hS ?_;cbv;have hz : ∀ b, b = (b1 && b2 && b3) -> Q (RA.ret (.tup [.agg [I (A.add (A.add 1 1) 1), I v1, I 0, I v2, I v3], .v (.bool b)])) [] := fun b hb => by
    cases b with
    | true =>
     have hb := hb.symm;simp only [Bool.and_eq_true] at hb;obtain ⟨⟨b1e, b2e⟩, b3e⟩ := hb;have := h1 ⟨3, v1, 0, v2, v3⟩ (by rw [hmj, tb1 b1e, tb2 b2e, tb3 b3e]; rfl);rw [k3]; exact this
    | false =>
     refine h2 ?_ _ _ _ _ _;rw [hmj]
     cases hb1 : b1 with
     | false => rw [fb1 hb1]; rfl
     | true =>
     cases hb2 : b2 with
     | false => rw [fb2 hb2]; cases numB w1 <;> rfl
     | true =>
     cases hb3 : b3 with
     | false => rw [fb3 hb3]; cases numB w1 <;> cases numB w2 <;> rfl
     | true =>
     subst hb1 hb2 hb3;exact Bool.noConfusion hb
   clear h1 h2 tb1 fb1 tb2 fb2 tb3 fb3;have y1 := fun h => hz false h;have y2 := hz;refine bm (fun p1 => ?_) (fun p1 => ?_)
   ·cbv;refine bm (fun p2 => ?_) (fun p2 => ?_)
    ·have hz := hz b3 (by rw [p1, p2]; rfl);cbv;exact Z2 [] (by decide) Z9 (H' := []) (d' := .tup [.agg [I (A.add (A.add 1 1) 1), I v1, I 0, I v2, I v3], .v (.bool b3)]) trivial rfl (Z1 hz)
    ·have hz := hz false (by rw [p1, p2]; rfl);cbv;exact Z2 [] (by decide) Z9 (H' := []) (d' := .tup [.agg [I (A.add (A.add 1 1) 1), I v1, I 0, I v2, I v3], .v (.bool false)]) trivial rfl (Z1 hz)
   ·have hz := hz false (by rw [p1]; rfl);cbv;exact Z2 [] (by decide) Z9 (H' := []) (d' := .tup [.agg [I (A.add (A.add 1 1) 1), I v1, I 0, I v2, I v3], .v (.bool false)]) trivial rfl (Z1 hz)
  ·have c3 : A.cmp .neq (A.oi (A.len (A.sub2 WL 1 (A.oi (A.len WL))))) 3 = true := by rw [hRo]; have e : (N : Int) ≠ 3 := (fun h => hl (by omega)); subst hA; exact bne_iff_ne.2 e
   have hz := h2 (by
    match w, hw0, hN with
    | [_], h, _ => rfl
    | [_, _], h, _ => rfl
    | [_, _, _], h, _ => rfl
    | [_, _, _, _], h, hN => exact absurd hN hl
    | [_, _, _, _, _], h, _ => cases h; simp only [Z1gq]; rw [if_neg (by rw [e3]; decide)]
    | _ :: _ :: _ :: _ :: _ :: _ :: _, _, _ => rfl) 0 0 0 0 0
   refine Z198 Z0 hA hS hR ?_;cbv;refine bmT l1 ?_;cbv;refine Z16 Z0 hA hS [0, 1, 2, 3, 4, 5] rfl rfl fun Dk hD => ?_;cbv;refine ⟨i0, Need.mk ⟨_, n0, ?_⟩⟩;cbv;refine Zq hA hD [I 1] [] [] rfl rfl rfl rfl rfl rfl rfl rfl rfl rfl rfl (by decide) trivial (Z1hb 1 k1 _ ⟨by cbv; exact ⟨Need.mk ⟨_, n0, rfl⟩, trivial⟩, Zx Z0 hA hD ?_⟩);cbv;refine bmT s1 ?_;cbv;refine ⟨f1, ?_⟩;refine Z198 Z0 hA hS hR ?_;cbv;refine bmT l2 ?_;cbv;refine Z16 Z0 hA hS [0, 1, 2, 3, 4, 5] rfl rfl fun Dk hD => ?_;cbv;refine ⟨i0, Need.mk ⟨_, n0, ?_⟩⟩;cbv;refine Zq hA hD [I (A.add 1 1)] [] [] rfl rfl rfl rfl rfl rfl rfl rfl rfl rfl rfl (by decide) trivial (Z1hs (A.add 1 1) k2 _ ⟨by cbv; exact ⟨Need.mk ⟨_, n0, rfl⟩, trivial⟩, Zx Z0 hA hD ?_⟩);cbv;refine bmT s2 ?_;cbv;refine ⟨f2, ?_⟩;refine Z198 Z0 hA hS hR ?_;cbv;refine bmT l3 ?_;cbv;refine Z16 Z0 hA hS [0, 1, 2, 3, 4, 5] rfl rfl fun Dk hD => ?_;cbv;refine ⟨i0, Need.mk ⟨_, n0, ?_⟩⟩;cbv;refine Zq hA hD [I (A.add (A.add 1 1) 1)] [] [] rfl rfl rfl rfl rfl rfl rfl rfl rfl rfl rfl (by decide) trivial (Z1ij (A.add (A.add 1 1) 1) k3 _ ⟨by cbv; exact ⟨Need.mk ⟨_, n0, rfl⟩, trivial⟩, Zx Z0 hA hD ?_⟩);cbv;refine bmF s3' ?_;cbv;refine ⟨rOK, ?_⟩;refine bmF q3 ?_;cbv;refine bmF q3 ?_;cbv;refine bmT c3 ?_;cbv;exact Z2 [] (by decide) Z9 (H' := []) (d' := .tup [.agg [I 0, I 0, I 0, I 0, I 0], .v (.bool false)]) trivial rfl (Z1 hz)
 have s3 := sF e3;have hz := h2 (by
  match w, hw0 with
  | [_], h => rfl
  | [_, _], h => rfl
  | [_, _, _], h => rfl
  | [_, _, _, _], h => cases h; simp only [Z1gq]; rw [if_neg e1, if_neg e3]
  | [_, _, _, _, _], h => cases h; simp only [Z1gq]; rw [if_neg e2]
  | _ :: _ :: _ :: _ :: _ :: _ :: _, _ => rfl) 0 0 0 0 0
 refine Z198 Z0 hA hS hR ?_;cbv;refine bmT l1 ?_;cbv;refine Z16 Z0 hA hS [0, 1, 2, 3, 4, 5] rfl rfl fun Dk hD => ?_;cbv;refine ⟨i0, Need.mk ⟨_, n0, ?_⟩⟩;cbv;refine Zq hA hD [I 1] [] [] rfl rfl rfl rfl rfl rfl rfl rfl rfl rfl rfl (by decide) trivial (Z1hb 1 k1 _ ⟨by cbv; exact ⟨Need.mk ⟨_, n0, rfl⟩, trivial⟩, Zx Z0 hA hD ?_⟩);cbv;refine bmT s1 ?_;cbv;refine ⟨f1, ?_⟩;refine Z198 Z0 hA hS hR ?_;cbv;refine bmT l2 ?_;cbv;refine Z16 Z0 hA hS [0, 1, 2, 3, 4, 5] rfl rfl fun Dk hD => ?_;cbv;refine ⟨i0, Need.mk ⟨_, n0, ?_⟩⟩;cbv;refine Zq hA hD [I (A.add 1 1)] [] [] rfl rfl rfl rfl rfl rfl rfl rfl rfl rfl rfl (by decide) trivial (Z1hs (A.add 1 1) k2 _ ⟨by cbv; exact ⟨Need.mk ⟨_, n0, rfl⟩, trivial⟩, Zx Z0 hA hD ?_⟩);cbv;refine bmT s2 ?_;cbv;refine ⟨f2, ?_⟩;refine Z198 Z0 hA hS hR ?_;cbv;refine bmT l3 ?_;cbv;refine Z16 Z0 hA hS [0, 1, 2, 3, 4, 5] rfl rfl fun Dk hD => ?_;cbv;refine ⟨i0, Need.mk ⟨_, n0, ?_⟩⟩;cbv;refine Zq hA hD [I (A.add (A.add 1 1) 1)] [] [] rfl rfl rfl rfl rfl rfl rfl rfl rfl rfl rfl (by decide) trivial (Z1ij (A.add (A.add 1 1) 1) k3 _ ⟨by cbv; exact ⟨Need.mk ⟨_, n0, rfl⟩, trivial⟩, Zx Z0 hA hD ?_⟩);cbv;refine bmT s3 ?_;cbv;refine ⟨f3, ?_⟩;refine Z198 Z0 hA hS hR ?_;cbv;refine bmF l4 ?_;cbv;exact Z2 [] (by decide) Z9 (H' := []) (d' := .tup [.agg [I 0, I 0, I 0, I 0, I 0], .v (.bool false)]) trivial rfl (Z1 hz)
end Go.Proofs.YthljpccegkmdnaaGreatDoor

namespace Go.Batch
structure WayO (fifo : Bool) (bin : Int) (bs : List Int) (i : Nat) (l : List Int) (a : Int) (of : List Int) : Prop where
 tk : Took fifo bin bs i l of
 sum : Z32 of bs i = a
 len : of.length = 4
 out : ∀ k, k < i ∨ i + bs.length <= k -> of.getD k 0 = 0
end Go.Batch

namespace Go.Batch
structure FirR (bin : Int) (bs : List Int) (i : Nat) (l out : List Int) (a : Int) (p : List Int × Int) : Prop where
 len : p.1.length = 4
 nn : 0 <= p.2
 le : p.2 <= a
 lt : ∀ k, k < i -> p.1.getD k 0 = out.getD k 0
 way : p.2 = 0 -> ∀ of, of.length = 4 -> (∀ k, k < i -> of.getD k 0 = 0) -> (∀ k, i <= k -> of.getD k 0 = p.1.getD k 0) -> WayO true bin bs i l a of
 one : ∀ of, WayO true bin bs i l a of -> p.2 = 0 /\ ∀ k, i <= k -> of.getD k 0 = p.1.getD k 0
end Go.Batch
