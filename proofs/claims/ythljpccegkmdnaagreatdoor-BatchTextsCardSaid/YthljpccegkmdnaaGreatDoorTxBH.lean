/- Part TxBH of the proofs about the benches of the accordion maker: see the last text of the claim for what is proved. -/
import Derived.Test.YthljpccegkmdnaaGreatDoorTxBG
set_option linter.unusedVariables false
set_option linter.unusedSimpArgs false
set_option linter.unnecessarySimpa false
set_option linter.constructorNameAsVariable false

namespace Go.Proofs.YthljpccegkmdnaaGreatDoor
open Go Go.Abs Go.Proofs Go.Batch Go.Txt
theorem Z1i8 {A : Ar} (hA : A = ar) {a b : By} (h : A.seq (bs a) (bs b) = true) : a = b := by rw [yseq hA] at h; exact of_decide_eq_true h
theorem Z1i9 {A : Ar} (hA : A = ar) {a b : By} (h : A.seq (bs a) (bs b) = false) : ¬ a = b := by rw [yseq hA] at h; exact of_decide_eq_false h
set_option maxRecDepth 20000 in
set_option maxHeartbeats 8000000 in
theorem Z1k9 (w : List By) (hne : w ≠ []) (hw : ∀ x ∈ w, x.length <= 1000) (WL : List D) (hWL : WL = w.map tD) (n : Int) (FL ML : List D) (nm : Nat) (hMl : ML.length = nm) (hm8 : nm <= 1000) (Q)
  (h1 : ∀ m, Z1gq w = some m -> Q (RA.ret (.v (.bool true))) [.box (.agg [I n, .sl 1 FL, .o 2 5 (nm + 1)]), .dead, .els 5 (ML ++ [mvD m])])
  (h2 : Z1gq w = none -> ∀ ML' nm', ML'.length = nm' -> Q (RA.ret (.v (.bool false))) [.box (.agg [I n, .sl 1 FL, .o 2 5 nm']), .dead, .els 5 ML'])
  (h3 : Z1gq w = none -> Q (RA.ret (.v (.bool false))) [.box (.agg [I n, .sl 1 FL, .o 1 5 nm]), .els 5 ML]) :
  CallA Tryz.prog 109 [.b 0 0, .sl 1 WL] [.box (.agg [I n, .sl 1 FL, .o 1 5 nm]), .els 5 ML] Q := by
 obtain ⟨A, hA⟩ : ∃ A, A = ar := ⟨_, rfl⟩;have hWl : WL.length = w.length := by rw [hWL, List.length_map]
 have hm8 : nm <= 1000000 := by omega
 obtain ⟨w0, hw0⟩ : ∃ w0, w.head? = some w0 := by
  cases w with
  | nil => exact absurd rfl hne
  | cons a l => exact ⟨a, rfl⟩
 have hpos : 1 <= w.length := by cases w with | nil => exact absurd rfl hne | cons a l => simp
 have i0 : A.inb 0 (A.len WL) := Z1b hA hWl (k := 0) ⟨rfl⟩ (by omega);have n0 : A.get WL (A.tn 0) = some (tD w0) := Z18 hA (k := 0) ⟨rfl⟩ (by rw [hWL]; cases w with | nil => cases hw0 | cons a l => cases hw0; rfl);refine Z38 Z0 hA [11, 20, 22, 23] Tryz.func109 rfl rfl rfl rfl rfl fun S hS => ?_;cbv;refine ⟨i0, Need.mk ⟨_, n0, ?_⟩⟩;cbv;refine' bm2 (S := S) (α := Int × Int) (fun q => { env := [(0, .b 0 0), (1, .sl 1 WL), (5, .b 2 0), (6, I q.2)], H := [.box (.agg [I n, .sl 1 FL, .o 1 5 nm]), .els 5 ML, .box (.agg [I q.1, I 0, I 0, I 0, I 0])], nt := 93, dfs := [] })
  (fun q => (w0 = inW /\ q = (1, 4)) ∨ (w0 = Z1h0 /\ q = (3, 4)) ∨ (w0 = outW /\ q = (2, 5))) (fun rest c => ?k1) (fun rest c => ?k2) ?k3
 case k1 =>
  have e : w0 = inW := by exact Z1i8 hA c
  cbv;exact Zof hS rest (1, 4) (.inl ⟨e, rfl⟩) (Zf [0, 1, 2] ⟨by decide, Z69, ⟨rfl, rfl, rfl, trivial⟩, ⟨rfl, rfl, rfl, rfl, trivial⟩, rfl, rfl⟩)
 case k2 =>
  have e : ¬ w0 = inW := by exact Z1i9 hA c
  cbv;refine bm (fun c2 => ?_) (fun c2 => ?_)
  ·have e2 : w0 = Z1h0 := by exact Z1i8 hA c2
   cbv;exact Zof hS rest (3, 4) (.inr (.inl ⟨e2, rfl⟩)) (Zf [0, 1, 2] ⟨by decide, Z69, ⟨rfl, rfl, rfl, trivial⟩, ⟨rfl, rfl, rfl, rfl, trivial⟩, rfl, rfl⟩)
  ·have e2 : ¬ w0 = Z1h0 := by exact Z1i9 hA c2
   cbv;refine bm (fun c3 => ?_) (fun c3 => ?_)
   ·have e3 : w0 = outW := by exact Z1i8 hA c3
    cbv;exact Zof hS rest (2, 5) (.inr (.inr ⟨e3, rfl⟩)) (Zf [0, 1, 2] ⟨by decide, Z69, ⟨rfl, rfl, rfl, trivial⟩, ⟨rfl, rfl, rfl, rfl, trivial⟩, rfl, rfl⟩)
   ·have e3 : ¬ w0 = outW := by exact Z1i9 hA c3
    have hz := h3 (by
     cases w with
     | nil => cases hw0
     | cons a l =>
      cases hw0
      match l with
      | [] => rfl
      | [_] => rfl
      | [_, _] => rfl
      | [_, _, _] => simp only [Z1gq]; rw [if_neg e, if_neg e2]
      | [_, _, _, _] => simp only [Z1gq]; rw [if_neg e3]
      | _ :: _ :: _ :: _ :: _ :: _ => rfl)
    cbv;exact Z2 [0, 1] (by decide) Z69 (H' := [.box (.agg [I n, .sl 1 FL, .o 1 5 nm]), .els 5 ML]) (d' := .v (.bool false)) ⟨rfl, rfl, trivial⟩ rfl (Z1 hz)
 case k3 =>
 rintro ⟨kd, pt⟩ hp;have key : (w.length : Int) ≠ pt -> Z1gq w = none := fun hl => by
  cases w with
  | nil => cases hw0
  | cons a l =>
   cases hw0
   have ab : inW ≠ Z1h0 /\ inW ≠ outW /\ Z1h0 ≠ outW := by decide
   rcases hp with ⟨e, hq⟩ | ⟨e, hq⟩ | ⟨e, hq⟩ <;> cases hq <;> subst e
   all_goals
    match l, hl with
    | [], _ => rfl
    | [_], _ => rfl
    | [_, _], _ => rfl
    | [_, _, _], hl => first | exact absurd rfl hl | (simp only [Z1gq]; rw [if_neg (by decide), if_neg (by decide)])
    | [_, _, _, _], hl => first | exact absurd rfl hl | (simp only [Z1gq]; rw [if_neg (by decide)])
    | _ :: _ :: _ :: _ :: _ :: _, _ => rfl
 refine Zb hS (Z2w Z0 hA hS [] ?_)
 by_cases hl : (w.length : Int) = pt
 ·rcases hp with ⟨hk, hq⟩ | ⟨hk, hq⟩ | ⟨hk, hq⟩ <;> cases hq
  ·have hl : w.length = 4 := by omega
   obtain ⟨w1, w2, w3, rfl⟩ : ∃ a b c, w = [w0, a, b, c] := by
    match w, hw0, hl with
    | [x, a, b, c], h, _ => exact ⟨a, b, c, by cases h; rfl⟩
   have hw1 : w1.length <= 1000 := hw w1 (by simp);have hw2 : w2.length <= 1000 := hw w2 (by simp);have hw3 : w3.length <= 1000 := hw w3 (by simp);have hWp : WL.length = 4 := hWl;have i1 : A.inb 1 (A.len WL) := Z1b hA hWp (k := 1) ⟨rfl⟩ (by omega);have n1 : A.get WL (A.tn 1) = some (tD w1) := Z18 hA (k := 1) ⟨rfl⟩ (by rw [hWL]; rfl);have i2 : A.inb 2 (A.len WL) := Z1b hA hWp (k := 2) ⟨rfl⟩ (by omega);have n2 : A.get WL (A.tn 2) = some (tD w2) := Z18 hA (k := 2) ⟨rfl⟩ (by rw [hWL]; rfl);have i3 : A.inb 3 (A.len WL) := Z1b hA hWp (k := 3) ⟨rfl⟩ (by omega);have n3 : A.get WL (A.tn 3) = some (tD w3) := Z18 hA (k := 3) ⟨rfl⟩ (by rw [hWL]; rfl);have es2 : IsI (A.sub 4 2) 2 := ⟨by rw [Z24 hA]; rfl⟩;have es1 : IsI (A.sub 4 1) 3 := ⟨by rw [Z24 hA]; rfl⟩;have fs2 : A.fits .i64 (A.sub 4 2) := Z14 hA es2.eq (by decide);have fs1 : A.fits .i64 (A.sub 4 1) := Z14 hA es1.eq (by decide);have il : A.inb (A.sub 4 2) (A.len WL) := Z1b hA hWp es2 (by omega);have ih : A.inb (A.sub 4 1) (A.len WL) := Z1b hA hWp es1 (by omega);have nl : A.get WL (A.tn (A.sub 4 2)) = some (tD w2) := Z18 hA es2 (by rw [hWL]; rfl);have nh : A.get WL (A.tn (A.sub 4 1)) = some (tD w3) := Z18 hA es1 (by rw [hWL]; rfl);have c1 : A.cmp .neq (A.oi (A.len WL)) 4 = false := by rw [yoiL hA hWp]; subst hA; rfl
   have ck : A.cmp .eql 1 2 = false := by subst hA; rfl
   have e1 := Ze hA hMl;have e3 : A.room (A.addN nm 1) 40 := Z27 hA hm8 (by omega);clear hw hWL hWl;cbv;refine bmF c1 ?_;cbv;refine ⟨i1, Need.mk ⟨_, n1, ?_⟩⟩;cbv;refine Z4 hS [.v (.string (bs w1))] [] [] rfl rfl rfl rfl rfl rfl rfl rfl (by decide) trivial (Z1gw w1 hw1 _ fun v1 b1 t1 f1 => ?_);refine Z3 Z0 hA hS ?_;cbv;refine bmF ck ?_;cbv;refine Zb hS (Z2w Z0 hA hS [] ?_);cbv;refine ⟨fs2, il, Need.mk ⟨_, nl, ?_⟩⟩;cbv;refine Z4 hS [.v (.string (bs w2))] [] [] rfl rfl rfl rfl rfl rfl rfl rfl (by decide) trivial (Z1gw w2 hw2 _ fun v3 b3 t3 f3 => ?_);refine Z3 Z0 hA hS ?_;cbv;refine ⟨fs1, ih, Need.mk ⟨_, nh, ?_⟩⟩;cbv;refine Z4 hS [.v (.string (bs w3))] [] [] rfl rfl rfl rfl rfl rfl rfl rfl (by decide) trivial (Z1gw w3 hw3 _ fun v4 b4 t4 f4 => ?_);have hz : ∀ b, b = (b1 && b3 && b4) -> Q (RA.ret (.v (.bool b))) [.box (.agg [I n, .sl 1 FL, .o 2 5 (A.addN nm 1)]), .dead, .els 5 (A.app ML [.agg [I 1, I v1, I 0, I v3, I v4]])] := fun b hb => by
    have hmj : Z1gq [w0, w1, w2, w3] = mk3 1 0 (numB w1) (numB w2) (numB w3) := by
     simp only [Z1gq]; rw [if_pos hk]
    have hap : A.app ML [.agg [I 1, I v1, I 0, I v3, I v4]] = ML ++ [mvD ⟨1, v1, 0, v3, v4⟩] := by subst hA; rfl
    have han : A.addN nm 1 = nm + 1 := by subst hA; rfl
    rw [hap, han]
    cases b with
    | true =>
     have hb := hb.symm;simp only [Bool.and_eq_true] at hb;obtain ⟨⟨b1e, b3e⟩, b4e⟩ := hb;exact h1 _ (by rw [hmj, t1 b1e, t3 b3e, t4 b4e]; rfl)
    | false =>
     refine h2 ?_ _ _ (by simp [hMl]);rw [hmj]
     cases hb1 : b1 with
     | false => rw [f1 hb1]; rfl
     | true =>
     cases hb3 : b3 with
     | false => rw [f3 hb3]; cases numB w1 <;> rfl
     | true =>
     cases hb4 : b4 with
     | false => rw [f4 hb4]; cases numB w1 <;> cases numB w2 <;> rfl
     | true =>
     subst hb1 hb3 hb4;exact Bool.noConfusion hb
   have e2 : A.eqN 1 (A.len [.agg [I 1, I v1, I 0, I v3, I v4]]) := by subst hA; rfl
   clear h1 h2 h3 t1 f1 t3 f3 t4 f4;refine Z3 Z0 hA hS ?_;cbv;refine Z16 Z0 hA hS [0, 1, 2, 3, 4, 5, 6, 7, 8, 9, 10] rfl rfl fun Dk hD => ?_;cbv;refine ⟨e1, e2, e3, ?_⟩;refine Z3h hS (Z60 (a := { env := [(7, .v (.bool b1)), (8, .v (.bool true)), (9, .v (.bool b3)), (10, .v (.bool b4))], H := [.box (.agg [I n, .sl 1 FL, .o 2 5 (A.addN nm 1)]), .dead, .els 5 (A.app ML [.agg [I 1, I v1, I 0, I v3, I v4]])], nt := 93, dfs := [] }) [0, 1, 4] ⟨by decide, Z69, ⟨rfl, rfl, rfl, trivial⟩, ⟨rfl, rfl, rfl, rfl, trivial⟩, rfl, rfl⟩ ?_);refine Z7 (Zb hS (Z2w Z0 hA hS [] ?_));cbv;refine bm (fun qb1 => ?_) (fun qb1 => ?_)
   ·cbv;refine bm (fun qb3 => ?_) (fun qb3 => ?_)
    ·cbv;have hf := hz b4 (by rw [qb1, qb3]; cases b4 <;> rfl);exact Z2 [0, 1, 2] (by decide) Z69 (H' := [.box (.agg [I n, .sl 1 FL, .o 2 5 (A.addN nm 1)]), .dead, .els 5 (A.app ML [.agg [I 1, I v1, I 0, I v3, I v4]])]) (d' := .v (.bool b4)) ⟨rfl, rfl, rfl, trivial⟩ rfl (Z1 hf)
    ·have hf := hz false (by rw [qb1, qb3]; cases b4 <;> rfl);cbv;exact Z2 [0, 1, 2] (by decide) Z69 (H' := [.box (.agg [I n, .sl 1 FL, .o 2 5 (A.addN nm 1)]), .dead, .els 5 (A.app ML [.agg [I 1, I v1, I 0, I v3, I v4]])]) (d' := .v (.bool false)) ⟨rfl, rfl, rfl, trivial⟩ rfl (Z1 hf)
   ·have hf := hz false (by rw [qb1]; cases b3 <;> cases b4 <;> rfl);cbv;exact Z2 [0, 1, 2] (by decide) Z69 (H' := [.box (.agg [I n, .sl 1 FL, .o 2 5 (A.addN nm 1)]), .dead, .els 5 (A.app ML [.agg [I 1, I v1, I 0, I v3, I v4]])]) (d' := .v (.bool false)) ⟨rfl, rfl, rfl, trivial⟩ rfl (Z1 hf)
  ·have hl : w.length = 4 := by omega
   obtain ⟨w1, w2, w3, rfl⟩ : ∃ a b c, w = [w0, a, b, c] := by
    match w, hw0, hl with
    | [x, a, b, c], h, _ => exact ⟨a, b, c, by cases h; rfl⟩
   have hw1 : w1.length <= 1000 := hw w1 (by simp);have hw2 : w2.length <= 1000 := hw w2 (by simp);have hw3 : w3.length <= 1000 := hw w3 (by simp);have hWp : WL.length = 4 := hWl;have i1 : A.inb 1 (A.len WL) := Z1b hA hWp (k := 1) ⟨rfl⟩ (by omega);have n1 : A.get WL (A.tn 1) = some (tD w1) := Z18 hA (k := 1) ⟨rfl⟩ (by rw [hWL]; rfl);have i2 : A.inb 2 (A.len WL) := Z1b hA hWp (k := 2) ⟨rfl⟩ (by omega);have n2 : A.get WL (A.tn 2) = some (tD w2) := Z18 hA (k := 2) ⟨rfl⟩ (by rw [hWL]; rfl);have i3 : A.inb 3 (A.len WL) := Z1b hA hWp (k := 3) ⟨rfl⟩ (by omega);have n3 : A.get WL (A.tn 3) = some (tD w3) := Z18 hA (k := 3) ⟨rfl⟩ (by rw [hWL]; rfl);have es2 : IsI (A.sub 4 2) 2 := ⟨by rw [Z24 hA]; rfl⟩;have es1 : IsI (A.sub 4 1) 3 := ⟨by rw [Z24 hA]; rfl⟩;have fs2 : A.fits .i64 (A.sub 4 2) := Z14 hA es2.eq (by decide);have fs1 : A.fits .i64 (A.sub 4 1) := Z14 hA es1.eq (by decide);have il : A.inb (A.sub 4 2) (A.len WL) := Z1b hA hWp es2 (by omega);have ih : A.inb (A.sub 4 1) (A.len WL) := Z1b hA hWp es1 (by omega);have nl : A.get WL (A.tn (A.sub 4 2)) = some (tD w2) := Z18 hA es2 (by rw [hWL]; rfl);have nh : A.get WL (A.tn (A.sub 4 1)) = some (tD w3) := Z18 hA es1 (by rw [hWL]; rfl);have c1 : A.cmp .neq (A.oi (A.len WL)) 4 = false := by rw [yoiL hA hWp]; subst hA; rfl
   have ck : A.cmp .eql 3 2 = false := by subst hA; rfl
   have e1 := Ze hA hMl;have e3 : A.room (A.addN nm 1) 40 := Z27 hA hm8 (by omega);clear hw hWL hWl;cbv;refine bmF c1 ?_;cbv;refine ⟨i1, Need.mk ⟨_, n1, ?_⟩⟩;cbv;refine Z4 hS [.v (.string (bs w1))] [] [] rfl rfl rfl rfl rfl rfl rfl rfl (by decide) trivial (Z1gw w1 hw1 _ fun v1 b1 t1 f1 => ?_);refine Z3 Z0 hA hS ?_;cbv;refine bmF ck ?_;cbv;refine Zb hS (Z2w Z0 hA hS [] ?_);cbv;refine ⟨fs2, il, Need.mk ⟨_, nl, ?_⟩⟩;cbv;refine Z4 hS [.v (.string (bs w2))] [] [] rfl rfl rfl rfl rfl rfl rfl rfl (by decide) trivial (Z1gw w2 hw2 _ fun v3 b3 t3 f3 => ?_);refine Z3 Z0 hA hS ?_;cbv;refine ⟨fs1, ih, Need.mk ⟨_, nh, ?_⟩⟩;cbv;refine Z4 hS [.v (.string (bs w3))] [] [] rfl rfl rfl rfl rfl rfl rfl rfl (by decide) trivial (Z1gw w3 hw3 _ fun v4 b4 t4 f4 => ?_);have hz : ∀ b, b = (b1 && b3 && b4) -> Q (RA.ret (.v (.bool b))) [.box (.agg [I n, .sl 1 FL, .o 2 5 (A.addN nm 1)]), .dead, .els 5 (A.app ML [.agg [I 3, I v1, I 0, I v3, I v4]])] := fun b hb => by
    have hmj : Z1gq [w0, w1, w2, w3] = mk3 3 0 (numB w1) (numB w2) (numB w3) := by
     simp only [Z1gq]; rw [if_neg (by rw [hk]; decide), if_pos hk]
    have hap : A.app ML [.agg [I 3, I v1, I 0, I v3, I v4]] = ML ++ [mvD ⟨3, v1, 0, v3, v4⟩] := by subst hA; rfl
    have han : A.addN nm 1 = nm + 1 := by subst hA; rfl
    rw [hap, han]
    cases b with
    | true =>
     have hb := hb.symm;simp only [Bool.and_eq_true] at hb;obtain ⟨⟨b1e, b3e⟩, b4e⟩ := hb;exact h1 _ (by rw [hmj, t1 b1e, t3 b3e, t4 b4e]; rfl)
    | false =>
     refine h2 ?_ _ _ (by simp [hMl]);rw [hmj]
     cases hb1 : b1 with
     | false => rw [f1 hb1]; rfl
     | true =>
     cases hb3 : b3 with
     | false => rw [f3 hb3]; cases numB w1 <;> rfl
     | true =>
     cases hb4 : b4 with
     | false => rw [f4 hb4]; cases numB w1 <;> cases numB w2 <;> rfl
     | true =>
     subst hb1 hb3 hb4;exact Bool.noConfusion hb
   have e2 : A.eqN 1 (A.len [.agg [I 3, I v1, I 0, I v3, I v4]]) := by subst hA; rfl
   clear h1 h2 h3 t1 f1 t3 f3 t4 f4;refine Z3 Z0 hA hS ?_;cbv;refine Z16 Z0 hA hS [0, 1, 2, 3, 4, 5, 6, 7, 8, 9, 10] rfl rfl fun Dk hD => ?_;cbv;refine ⟨e1, e2, e3, ?_⟩;refine Z3h hS (Z60 (a := { env := [(7, .v (.bool b1)), (8, .v (.bool true)), (9, .v (.bool b3)), (10, .v (.bool b4))], H := [.box (.agg [I n, .sl 1 FL, .o 2 5 (A.addN nm 1)]), .dead, .els 5 (A.app ML [.agg [I 3, I v1, I 0, I v3, I v4]])], nt := 93, dfs := [] }) [0, 1, 4] ⟨by decide, Z69, ⟨rfl, rfl, rfl, trivial⟩, ⟨rfl, rfl, rfl, rfl, trivial⟩, rfl, rfl⟩ ?_);refine Z7 (Zb hS (Z2w Z0 hA hS [] ?_));cbv;refine bm (fun qb1 => ?_) (fun qb1 => ?_)
   ·cbv;refine bm (fun qb3 => ?_) (fun qb3 => ?_)
    ·cbv;have hf := hz b4 (by rw [qb1, qb3]; cases b4 <;> rfl);exact Z2 [0, 1, 2] (by decide) Z69 (H' := [.box (.agg [I n, .sl 1 FL, .o 2 5 (A.addN nm 1)]), .dead, .els 5 (A.app ML [.agg [I 3, I v1, I 0, I v3, I v4]])]) (d' := .v (.bool b4)) ⟨rfl, rfl, rfl, trivial⟩ rfl (Z1 hf)
    ·have hf := hz false (by rw [qb1, qb3]; cases b4 <;> rfl);cbv;exact Z2 [0, 1, 2] (by decide) Z69 (H' := [.box (.agg [I n, .sl 1 FL, .o 2 5 (A.addN nm 1)]), .dead, .els 5 (A.app ML [.agg [I 3, I v1, I 0, I v3, I v4]])]) (d' := .v (.bool false)) ⟨rfl, rfl, rfl, trivial⟩ rfl (Z1 hf)
   ·have hf := hz false (by rw [qb1]; cases b3 <;> cases b4 <;> rfl);cbv;exact Z2 [0, 1, 2] (by decide) Z69 (H' := [.box (.agg [I n, .sl 1 FL, .o 2 5 (A.addN nm 1)]), .dead, .els 5 (A.app ML [.agg [I 3, I v1, I 0, I v3, I v4]])]) (d' := .v (.bool false)) ⟨rfl, rfl, rfl, trivial⟩ rfl (Z1 hf)
  ·have hl : w.length = 5 := by omega
   obtain ⟨w1, w2, w3, w4, rfl⟩ : ∃ a b c d, w = [w0, a, b, c, d] := by
    match w, hw0, hl with
    | [x, a, b, c, d], h, _ => exact ⟨a, b, c, d, by cases h; rfl⟩
   have hw1 : w1.length <= 1000 := hw w1 (by simp);have hw2 : w2.length <= 1000 := hw w2 (by simp);have hw3 : w3.length <= 1000 := hw w3 (by simp);have hw4 : w4.length <= 1000 := hw w4 (by simp);have hWp : WL.length = 5 := hWl;have i1 : A.inb 1 (A.len WL) := Z1b hA hWp (k := 1) ⟨rfl⟩ (by omega);have n1 : A.get WL (A.tn 1) = some (tD w1) := Z18 hA (k := 1) ⟨rfl⟩ (by rw [hWL]; rfl);have i2 : A.inb 2 (A.len WL) := Z1b hA hWp (k := 2) ⟨rfl⟩ (by omega);have n2 : A.get WL (A.tn 2) = some (tD w2) := Z18 hA (k := 2) ⟨rfl⟩ (by rw [hWL]; rfl);have i3 : A.inb 3 (A.len WL) := Z1b hA hWp (k := 3) ⟨rfl⟩ (by omega);have n3 : A.get WL (A.tn 3) = some (tD w3) := Z18 hA (k := 3) ⟨rfl⟩ (by rw [hWL]; rfl);have i4 : A.inb 4 (A.len WL) := Z1b hA hWp (k := 4) ⟨rfl⟩ (by omega);have n4 : A.get WL (A.tn 4) = some (tD w4) := Z18 hA (k := 4) ⟨rfl⟩ (by rw [hWL]; rfl);have es2 : IsI (A.sub 5 2) 3 := ⟨by rw [Z24 hA]; rfl⟩;have es1 : IsI (A.sub 5 1) 4 := ⟨by rw [Z24 hA]; rfl⟩;have fs2 : A.fits .i64 (A.sub 5 2) := Z14 hA es2.eq (by decide);have fs1 : A.fits .i64 (A.sub 5 1) := Z14 hA es1.eq (by decide);have il : A.inb (A.sub 5 2) (A.len WL) := Z1b hA hWp es2 (by omega);have ih : A.inb (A.sub 5 1) (A.len WL) := Z1b hA hWp es1 (by omega);have nl : A.get WL (A.tn (A.sub 5 2)) = some (tD w3) := Z18 hA es2 (by rw [hWL]; rfl);have nh : A.get WL (A.tn (A.sub 5 1)) = some (tD w4) := Z18 hA es1 (by rw [hWL]; rfl);have c1 : A.cmp .neq (A.oi (A.len WL)) 5 = false := by rw [yoiL hA hWp]; subst hA; rfl
   have ck : A.cmp .eql 2 2 = true := by subst hA; rfl
   have e1 := Ze hA hMl;have e3 : A.room (A.addN nm 1) 40 := Z27 hA hm8 (by omega);clear hw hWL hWl;cbv;refine bmF c1 ?_;cbv;refine ⟨i1, Need.mk ⟨_, n1, ?_⟩⟩;cbv;refine Z4 hS [.v (.string (bs w1))] [] [] rfl rfl rfl rfl rfl rfl rfl rfl (by decide) trivial (Z1gw w1 hw1 _ fun v1 b1 t1 f1 => ?_);refine Z3 Z0 hA hS ?_;cbv;refine bmT ck ?_;cbv;refine ⟨i2, Need.mk ⟨_, n2, ?_⟩⟩;cbv;refine Z4 hS [.v (.string (bs w2))] [] [] rfl rfl rfl rfl rfl rfl rfl rfl (by decide) trivial (Z1gw w2 hw2 _ fun v2 b2 t2 f2 => ?_);refine Z3 Z0 hA hS ?_;cbv;refine ⟨i2, Need.mk ⟨_, n2, ?_⟩⟩;cbv;refine' bm2 (S := S) (α := Int × Bool) (fun q => { env := [(0, .b 0 0), (1, .sl 1 WL), (5, .b 2 0), (6, I 5), (7, .v (.bool b1)), (8, .v (.bool q.2))], H := [.box (.agg [I n, .sl 1 FL, .o 1 5 nm]), .els 5 ML, .box (.agg [I 2, I v1, I q.1, I 0, I 0])], nt := 93, dfs := [] }) (fun q => (q.2 = true -> Z1h4 w2 = some q.1) /\ (q.2 = false -> Z1h4 w2 = none)) (fun rest c => ?g1) (fun rest c => ?g2) ?g3
   case g1 =>
    have e : w2 = [63] := by exact Z1i8 hA c
    have hj : Z1h4 w2 = some (-1) := by unfold Z1h4; rw [if_pos e]
    cbv;exact Zof hS rest (-1, true) ⟨fun _ => hj, fun h => Bool.noConfusion h⟩ (Zf [0, 1, 2] ⟨by decide, Z69, ⟨rfl, rfl, rfl, trivial⟩, ⟨rfl, rfl, rfl, rfl, rfl, rfl, trivial⟩, rfl, rfl⟩)
   case g2 =>
    have e : ¬ w2 = [63] := by exact Z1i9 hA c
    have hj : Z1h4 w2 = numB w2 := by unfold Z1h4; rw [if_neg e]
    cbv;exact Zof hS rest (v2, b2) ⟨fun h => hj.trans (t2 h), fun h => hj.trans (f2 h)⟩ (Zf [0, 1, 2] ⟨by decide, Z69, ⟨rfl, rfl, rfl, trivial⟩, ⟨rfl, rfl, rfl, rfl, rfl, rfl, trivial⟩, rfl, rfl⟩)
   case g3 =>
   rintro ⟨vi, bi⟩ ⟨ti, fi⟩;dsimp only at ti fi;refine Zb hS (Z2w Z0 hA hS [] ?_);cbv;refine ⟨fs2, il, Need.mk ⟨_, nl, ?_⟩⟩;cbv;refine Z4 hS [.v (.string (bs w3))] [] [] rfl rfl rfl rfl rfl rfl rfl rfl (by decide) trivial (Z1gw w3 hw3 _ fun v3 b3 t3 f3 => ?_);refine Z3 Z0 hA hS ?_;cbv;refine ⟨fs1, ih, Need.mk ⟨_, nh, ?_⟩⟩;cbv;refine Z4 hS [.v (.string (bs w4))] [] [] rfl rfl rfl rfl rfl rfl rfl rfl (by decide) trivial (Z1gw w4 hw4 _ fun v4 b4 t4 f4 => ?_);have hz : ∀ b, b = (b1 && bi && b3 && b4) -> Q (RA.ret (.v (.bool b))) [.box (.agg [I n, .sl 1 FL, .o 2 5 (A.addN nm 1)]), .dead, .els 5 (A.app ML [.agg [I 2, I v1, I vi, I v3, I v4]])] := fun b hb => by
    have hmj : Z1gq [w0, w1, w2, w3, w4] = (match Z1h4 w2 with | some i => mk3 2 i (numB w1) (numB w3) (numB w4) | none => none) := by
     simp only [Z1gq]; rw [if_pos hk]; cases Z1h4 w2 <;> rfl
    have hap : A.app ML [.agg [I 2, I v1, I vi, I v3, I v4]] = ML ++ [mvD ⟨2, v1, vi, v3, v4⟩] := by subst hA; rfl
    have han : A.addN nm 1 = nm + 1 := by subst hA; rfl
    rw [hap, han]
    cases b with
    | true =>
     have hb := hb.symm;simp only [Bool.and_eq_true] at hb;obtain ⟨⟨⟨b1e, bie⟩, b3e⟩, b4e⟩ := hb;exact h1 _ (by rw [hmj, ti bie, t1 b1e, t3 b3e, t4 b4e]; rfl)
    | false =>
     refine h2 ?_ _ _ (by simp [hMl]);rw [hmj]
     cases hbi : bi with
     | false => rw [fi hbi]
     | true =>
     rw [ti hbi];subst hbi;dsimp only
     cases hb1 : b1 with
     | false => rw [f1 hb1]; rfl
     | true =>
     cases hb3 : b3 with
     | false => rw [f3 hb3]; cases numB w1 <;> rfl
     | true =>
     cases hb4 : b4 with
     | false => rw [f4 hb4]; cases numB w1 <;> cases numB w3 <;> rfl
     | true =>
     subst hb1 hb3 hb4;exact Bool.noConfusion hb
   have e2 : A.eqN 1 (A.len [.agg [I 2, I v1, I vi, I v3, I v4]]) := by subst hA; rfl
   clear h1 h2 h3 t1 f1 t3 f3 t4 f4 ti fi t2 f2;refine Z3 Z0 hA hS ?_;cbv;refine Z16 Z0 hA hS [0, 1, 2, 3, 4, 5, 6, 7, 8, 9, 10] rfl rfl fun Dk hD => ?_;cbv;refine ⟨e1, e2, e3, ?_⟩;refine Z3h hS (Z60 (a := { env := [(7, .v (.bool b1)), (8, .v (.bool bi)), (9, .v (.bool b3)), (10, .v (.bool b4))], H := [.box (.agg [I n, .sl 1 FL, .o 2 5 (A.addN nm 1)]), .dead, .els 5 (A.app ML [.agg [I 2, I v1, I vi, I v3, I v4]])], nt := 93, dfs := [] }) [0, 1, 4] ⟨by decide, Z69, ⟨rfl, rfl, rfl, trivial⟩, ⟨rfl, rfl, rfl, rfl, trivial⟩, rfl, rfl⟩ ?_);refine Z7 (Zb hS (Z2w Z0 hA hS [] ?_));cbv;refine bm (fun qb1 => ?_) (fun qb1 => ?_)
   ·cbv;refine bm (fun qbi => ?_) (fun qbi => ?_)
    ·cbv;refine bm (fun qb3 => ?_) (fun qb3 => ?_)
     ·cbv;have hf := hz b4 (by rw [qb1, qbi, qb3]; cases b4 <;> rfl);exact Z2 [0, 1, 2] (by decide) Z69 (H' := [.box (.agg [I n, .sl 1 FL, .o 2 5 (A.addN nm 1)]), .dead, .els 5 (A.app ML [.agg [I 2, I v1, I vi, I v3, I v4]])]) (d' := .v (.bool b4)) ⟨rfl, rfl, rfl, trivial⟩ rfl (Z1 hf)
     ·have hf := hz false (by rw [qb1, qbi, qb3]; cases b4 <;> rfl);cbv;exact Z2 [0, 1, 2] (by decide) Z69 (H' := [.box (.agg [I n, .sl 1 FL, .o 2 5 (A.addN nm 1)]), .dead, .els 5 (A.app ML [.agg [I 2, I v1, I vi, I v3, I v4]])]) (d' := .v (.bool false)) ⟨rfl, rfl, rfl, trivial⟩ rfl (Z1 hf)
    ·have hf := hz false (by rw [qb1, qbi]; cases b3 <;> cases b4 <;> rfl);cbv;exact Z2 [0, 1, 2] (by decide) Z69 (H' := [.box (.agg [I n, .sl 1 FL, .o 2 5 (A.addN nm 1)]), .dead, .els 5 (A.app ML [.agg [I 2, I v1, I vi, I v3, I v4]])]) (d' := .v (.bool false)) ⟨rfl, rfl, rfl, trivial⟩ rfl (Z1 hf)
   ·have hf := hz false (by rw [qb1]; cases bi <;> cases b3 <;> cases b4 <;> rfl);cbv;exact Z2 [0, 1, 2] (by decide) Z69 (H' := [.box (.agg [I n, .sl 1 FL, .o 2 5 (A.addN nm 1)]), .dead, .els 5 (A.app ML [.agg [I 2, I v1, I vi, I v3, I v4]])]) (d' := .v (.bool false)) ⟨rfl, rfl, rfl, trivial⟩ rfl (Z1 hf)
 ·have hz := h3 (key hl);have c1 : A.cmp .neq (A.oi (A.len WL)) pt = true := by rw [yoiL hA hWl]; subst hA; simp only [ar, Z25, bne_iff_ne]; exact hl
  cbv;refine bmT c1 ?_;cbv;exact Z2 [0, 1] (by decide) Z69 (H' := [.box (.agg [I n, .sl 1 FL, .o 1 5 nm]), .els 5 ML]) (d' := .v (.bool false)) ⟨rfl, rfl, trivial⟩ rfl (Z1 hz)
end Go.Proofs.YthljpccegkmdnaaGreatDoor

namespace Go.Proofs.YthljpccegkmdnaaGreatDoor
open Go Go.Abs Go.Proofs Go.Batch Go.Txt
theorem Z1gr (s : By) (hs : s.length <= 1000) (Q) (hq : ∀ n b, (b = true -> numB s = some n) -> (b = false -> numB s = none) -> Q (RA.ret (.tup [I n, .v (.bool b)])) []) : CallA Tryz.prog 145 [tD s] [] Q :=
 Z1jk s hs Q (fun n h => hq n true (fun _ => h) (fun h => Bool.noConfusion h)) (fun h n => hq n false (fun h => Bool.noConfusion h) (fun _ => h))
set_option maxRecDepth 20000 in
set_option maxHeartbeats 8000000 in
theorem Z1jl (w : List By) (hne : w ≠ []) (hw : ∀ x ∈ w, x.length <= 1000) (hwl : w.length <= 1000) (WL : List D) (hWL : WL = w.map tD) (Q)
  (h1 : ∀ n fs FL, Z1gx w = some (n, fs) -> FL = fs.map Zv -> Q (RA.ret (.tup [.agg [I n, .sl 1 FL, .v (.slice none 0 0)], .v (.bool true)])) [])
  (h2 : Z1gx w = none -> ∀ n FL, Q (RA.ret (.tup [.agg [I n, .sl 1 FL, .v (.slice none 0 0)], .v (.bool false)])) [])
  (h3 : Z1gx w = none -> Q (RA.ret (.tup [.agg [I 0, .v (.slice none 0 0), .v (.slice none 0 0)], .v (.bool false)])) []) :
  CallA Tryz.prog 111 [.sl 1 WL] [] Q := by
 obtain ⟨A, hA⟩ : ∃ A, A = ar := ⟨_, rfl⟩;have hWl : WL.length = w.length := by rw [hWL, List.length_map]
 have hpos : 1 <= w.length := by cases w with | nil => exact absurd rfl hne | cons a l => simp
 obtain ⟨w0, hw0⟩ : ∃ w0, w.head? = some w0 := by
  cases w with
  | nil => exact absurd rfl hne
  | cons a l => exact ⟨a, rfl⟩
 have i0 : A.inb 0 (A.len WL) := Z1b hA hWl (k := 0) ⟨rfl⟩ (by omega);have n0 : A.get WL (A.tn 0) = some (tD w0) := Z18 hA (k := 0) ⟨rfl⟩ (by rw [hWL]; cases w with | nil => cases hw0 | cons a l => cases hw0; rfl);refine Z38 Z0 hA [3] Tryz.func111 rfl rfl rfl rfl rfl fun S hS => ?_
 by_cases g0 : w0 = Z1h1
 ·have c2 : A.bnot (A.seq (bs w0) (bs Z1h1)) = false := by rw [yseq hA, g0]; subst hA; simp [ar]
  by_cases g1 : w.length = 3
  ·obtain ⟨w1, w2, rfl⟩ : ∃ b c, w = [w0, b, c] := by
    match w, g1, hw0 with
    | [a, b, c], _, h => cases h; exact ⟨b, c, rfl⟩
   have hw1 : w1.length <= 1000 := hw w1 (by simp);have hw2 : w2.length <= 1000 := hw w2 (by simp);have hW3 : WL.length = 3 := hWl;have c1 : A.cmp .neq (A.oi (A.len WL)) 3 = false := by rw [yoiL hA hW3]; subst hA; rfl
   have i1 : A.inb 1 (A.len WL) := Z1b hA hW3 (k := 1) ⟨rfl⟩ (by omega);have i2 : A.inb 2 (A.len WL) := Z1b hA hW3 (k := 2) ⟨rfl⟩ (by omega);have n1 : A.get WL (A.tn 1) = some (tD w1) := Z18 hA (k := 1) ⟨rfl⟩ (by rw [hWL]; rfl);have n2 : A.get WL (A.tn 2) = some (tD w2) := Z18 hA (k := 2) ⟨rfl⟩ (by rw [hWL]; rfl);have hh : Z1gx [w0, w1, w2] = if (∀ x ∈ w2, x = 102 ∨ x = 97) then (numB w1).map fun n => (n, w2.map fun x => decide (x = 102)) else none := by
    simp only [Z1gx]; by_cases h : ∀ x ∈ w2, x = 102 ∨ x = 97
    ·rw [if_pos ⟨g0, h⟩, if_pos h]
    ·rw [if_neg (fun h' => h h'.2), if_neg h]
   rw [hh] at h1 h2;clear hw hwl g1 hh h3 hw0 hne hpos hWl hWL;cbv;refine ⟨i0, Need.mk ⟨_, n0, ?_⟩⟩;cbv;refine bmF c2 ?_;cbv;refine bmF c1 ?_;cbv;refine Z3h hS (Z60 (a := { env := [(0, .sl 1 WL), (2, .b 0 0)], H := [.box (.agg [I 0, .v (.slice none 0 0), .v (.slice none 0 0)])], nt := 65, dfs := [] }) [0] ⟨by decide, Z9, ⟨rfl, trivial⟩, ⟨rfl, rfl, trivial⟩, rfl, rfl⟩ ?_);refine Z7 (Zb hS (Z2w Z0 hA hS [] ?_));cbv;refine ⟨i1, Need.mk ⟨_, n1, ?_⟩⟩;cbv;refine Z4 hS [.v (.string (bs w1))] [] [] rfl rfl rfl rfl rfl rfl rfl rfl (by decide) trivial (Z1gr w1 hw1 _ fun n b0 b1 b0f => ?_);refine Z3 Z0 hA hS ?_;cbv;refine Zb hS ?_;refine Za (α := Int × Nat × Bool × List D × Nat) (fun q => { env := [(0, .sl 1 WL), (2, .b 0 0), (5, .v (.bool q.2.2.1)), (6, .b 1 0), (7, I q.1)], H := [.box (.agg [I 0, .v (.slice none 0 0), .v (.slice none 0 0)]), .box (.agg [I n, .o 2 1 q.2.2.2.2, .v (.slice none 0 0)]), .els 1 q.2.2.2.1], nt := 65, dfs := [] })
    (fun q => w2.length - q.2.1) (fun q => q.2.1 <= w2.length /\ IsI q.1 q.2.1 /\ q.2.2.1 = (b0 && (w2.take q.2.1).all (fun x => decide (x = 102 ∨ x = 97))) /\ q.2.2.2.1 = (w2.take q.2.1).map (fun x => Zv (decide (x = 102))) /\ q.2.2.2.2 = q.2.1) (0, 0, b0, [], 0) ⟨Nat.zero_le _, ⟨rfl⟩, by simp, by simp, rfl⟩ ?_ ?_
   ·refine Zfk 1 1 1 (.agg [I n, .o 2 1 0, .v (.slice none 0 0)]) rfl rfl rfl ?_;exact Zf [0, 1, 2] ⟨by decide, Z9, ⟨rfl, rfl, rfl, trivial⟩, ⟨rfl, rfl, rfl, rfl, rfl, trivial⟩, rfl, rfl⟩
   rintro ⟨i, k, b, L, m⟩ ⟨u0, u1, u2, u3, u4⟩;dsimp only at u0 u1 u2 u3 u4;have hLl : L.length = m := by rw [u3, u4]; simp; omega
   refine Z2w Z0 hA hS [] ?_
   by_cases hk : k < w2.length
   ·obtain ⟨c, hc⟩ : ∃ c, w2[k]? = some c := ⟨_, List.getElem?_eq_getElem hk⟩;have d1 : A.cmp .lss i (A.oi (A.slen (bs w2))) = true := by rw [ycr hA, u1.eq]; simp [Z25]; omega
    have ii := Z1im hA u1 hk;have hcm : A.cmp .eql (A.sget (bs w2) (A.tn i)) 102 = decide (c = 102) := by
     rw [yc8 hA .eql u1 hc]; simp only [Z25]
     by_cases e : c = 102
     ·subst e; rfl
     ·have : c.toNat ≠ (102 : UInt8).toNat := Z1hm.1 e;rw [decide_eq_false e, beq_eq_false_iff_ne]; exact fun h => this (Int.ofNat.inj h)
    have hcm2 : A.cmp .eql (A.sget (bs w2) (A.tn i)) 97 = decide (c = 97) := by
     rw [yc8 hA .eql u1 hc]; simp only [Z25]
     by_cases e : c = 97
     ·subst e; rfl
     ·have : c.toNat ≠ (97 : UInt8).toNat := Z1hm.1 e;rw [decide_eq_false e, beq_eq_false_iff_ne]; exact fun h => this (Int.ofNat.inj h)
    have hall : (w2.take (k + 1)).all (fun x => decide (x = 102 ∨ x = 97)) = ((w2.take k).all (fun x => decide (x = 102 ∨ x = 97)) && decide (c = 102 ∨ c = 97)) := by
     rw [List.take_add_one, hc]; simp
    have hL2 : A.app L [.v (.bool (A.cmp .eql (A.sget (bs w2) (A.tn i)) 102))] = (w2.take (k + 1)).map (fun x => Zv (decide (x = 102))) := by
     rw [hcm, List.take_add_one, hc]; subst hA; rw [u3]; simp [ar, Zv]
    have hL3 : A.addN m 1 = k + 1 := by subst hA; show m + 1 = _; omega
    have e1 := Ze hA hLl;have e2 : A.eqN 1 (A.len [.v (.bool (A.cmp .eql (A.sget (bs w2) (A.tn i)) 102))]) := by subst hA; rfl
    have e3 : A.room (A.addN m 1) 1 := Z27 hA (by omega) (by omega);have hf1 := Zy hA u1 (by omega);have hu1 := Zz hA u1;have hms : w2.length - (k + 1) < w2.length - k := by omega
    cases b with
    | false =>
     have hb' : (false) = (b0 && (w2.take (k + 1)).all (fun x => decide (x = 102 ∨ x = 97))) := by
      rw [hall, <- Bool.and_assoc, <- u2]; rfl
     clear hall;cbv;refine ⟨i2, Need.mk ⟨_, n2, ?_⟩⟩;cbv;refine bmT d1 ?_;cbv;refine Z16 Z0 hA hS [0, 1, 2, 3, 4, 5, 6, 7, 8, 9, 10, 11] rfl rfl fun Dk hD => ?_;cbv;refine ⟨i2, Need.mk ⟨_, n2, ?_⟩⟩;cbv;refine ⟨ii, e1, e2, e3, ⟨Need.mk ⟨_, n2, rfl⟩, trivial⟩, hf1, ?_⟩;refine Z8 (A.add i 1, k + 1, false, A.app L [.v (.bool (A.cmp .eql (A.sget (bs w2) (A.tn i)) 102))], A.addN m 1) [0, 1, 4] ⟨hk, hu1, hb', hL2, hL3⟩ hms ?_;exact ⟨by decide, Z9, ⟨rfl, rfl, rfl, trivial⟩, ⟨rfl, rfl, rfl, rfl, rfl, trivial⟩, rfl, rfl⟩
    | true =>
     by_cases e : c = 102
     ·have q1 : A.cmp .eql (A.sget (bs w2) (A.tn i)) 102 = true := by rw [hcm]; exact decide_eq_true e
      have hb' : (true) = (b0 && (w2.take (k + 1)).all (fun x => decide (x = 102 ∨ x = 97))) := by
       rw [hall, <- Bool.and_assoc, <- u2, e]; rfl
      clear hall;cbv;refine ⟨i2, Need.mk ⟨_, n2, ?_⟩⟩;cbv;refine bmT d1 ?_;cbv;refine ⟨i2, Need.mk ⟨_, n2, ?_⟩⟩;cbv;refine ⟨ii, ?_⟩;refine bmT q1 ?_;cbv;refine Z16 Z0 hA hS [0, 1, 2, 3, 4, 5, 6, 7, 8, 9, 10, 11] rfl rfl fun Dk hD => ?_;cbv;refine ⟨i2, Need.mk ⟨_, n2, ?_⟩⟩;cbv;refine ⟨ii, e1, e2, e3, ⟨Need.mk ⟨_, n2, rfl⟩, trivial⟩, hf1, ?_⟩;refine Z8 (A.add i 1, k + 1, true, A.app L [.v (.bool (A.cmp .eql (A.sget (bs w2) (A.tn i)) 102))], A.addN m 1) [0, 1, 4] ⟨hk, hu1, hb', hL2, hL3⟩ hms ?_;exact ⟨by decide, Z9, ⟨rfl, rfl, rfl, trivial⟩, ⟨rfl, rfl, rfl, rfl, rfl, trivial⟩, rfl, rfl⟩
     ·have q1 : A.cmp .eql (A.sget (bs w2) (A.tn i)) 102 = false := by rw [hcm]; exact decide_eq_false e
      have hb' : (A.cmp .eql (A.sget (bs w2) (A.tn i)) 97) = (b0 && (w2.take (k + 1)).all (fun x => decide (x = 102 ∨ x = 97))) := by
       rw [hcm2, hall, <- Bool.and_assoc, <- u2]; simp [e]
      clear hall;cbv;refine ⟨i2, Need.mk ⟨_, n2, ?_⟩⟩;cbv;refine bmT d1 ?_;cbv;refine ⟨i2, Need.mk ⟨_, n2, ?_⟩⟩;cbv;refine ⟨ii, ?_⟩;refine bmF q1 ?_;cbv;refine ⟨i2, Need.mk ⟨_, n2, ?_⟩⟩;cbv;refine ⟨ii, ?_⟩;refine Z16 Z0 hA hS [0, 1, 2, 3, 4, 5, 6, 7, 8, 9, 10, 11] rfl rfl fun Dk hD => ?_;cbv;refine ⟨i2, Need.mk ⟨_, n2, ?_⟩⟩;cbv;refine ⟨ii, e1, e2, e3, ⟨Need.mk ⟨_, n2, rfl⟩, trivial⟩, hf1, ?_⟩;refine Z8 (A.add i 1, k + 1, A.cmp .eql (A.sget (bs w2) (A.tn i)) 97, A.app L [.v (.bool (A.cmp .eql (A.sget (bs w2) (A.tn i)) 102))], A.addN m 1) [0, 1, 4] ⟨hk, hu1, hb', hL2, hL3⟩ hms ?_;exact ⟨by decide, Z9, ⟨rfl, rfl, rfl, trivial⟩, ⟨rfl, rfl, rfl, rfl, rfl, trivial⟩, rfl, rfl⟩
   ·have d1 : A.cmp .lss i (A.oi (A.slen (bs w2))) = false := by rw [ycr hA, u1.eq]; simp [Z25]; omega
    have hz : Q (RA.ret (.tup [.agg [I n, .sl 1 L, .v (.slice none 0 0)], .v (.bool b)])) [] := by
     rw [List.take_of_length_le (by omega)] at u2 u3
     cases b with
     | true =>
      have hb := u2.symm;simp only [Bool.and_eq_true] at hb;obtain ⟨x1, x2⟩ := hb;exact h1 n _ L (by rw [if_pos (fun x hx => by simpa using List.all_eq_true.1 x2 x hx), b1 x1]; rfl) (by rw [u3, List.map_map]; rfl)
     | false =>
      refine h2 ?_ n L
      cases hb0 : b0 with
      | false =>
       rw [b0f hb0]; split <;> rfl
      | true =>
       rw [if_neg];intro hx;rw [hb0, List.all_eq_true.2 (fun x h => by simpa using hx x h)] at u2
       cases u2
    clear u2 h1 h2;cbv;refine ⟨i2, Need.mk ⟨_, n2, ?_⟩⟩;cbv;refine bmF d1 ?_;cbv;refine Z7 ?_;cbv;refine Z1w [2] ?_;cbv;exact ⟨by cases L <;> exact hLl.symm, by cases L <;> exact hLl.symm, by cases L <;> exact hLl.symm, Z2 [] (by decide) Z9 (H' := []) (d' := .tup [.agg [I n, .sl 1 L, .v (.slice none 0 0)], .v (.bool b)]) trivial rfl (Z1 hz)⟩
  ·have hz := h3 (by
    match w, g1 with
    | [], _ => rfl
    | [_], _ => rfl
    | [_, _], _ => rfl
    | _ :: _ :: _ :: _ :: _, _ => rfl)
   have c1 : A.cmp .neq (A.oi (A.len WL)) 3 = true := by rw [yoiL hA hWl]; subst hA; simp [ar, Z25]; omega
   cbv;refine ⟨i0, Need.mk ⟨_, n0, ?_⟩⟩;cbv;refine bmF c2 ?_;cbv;refine bmT c1 ?_;cbv;exact Z2 [] (by decide) Z9 (H' := []) (d' := .tup [.agg [I 0, .v (.slice none 0 0), .v (.slice none 0 0)], .v (.bool false)]) trivial rfl (Z1 hz)
 ·have c2 : A.bnot (A.seq (bs w0) (bs Z1h1)) = true := by rw [yseq hA]; subst hA; simp [ar, g0]
  have hz := h3 (by
   cases w with
   | nil => cases hw0
   | cons a l =>
    cases hw0
    match l with
    | [] => rfl
    | [_] => rfl
    | [_, _] => simp only [Z1gx]; rw [if_neg (fun h => g0 h.1)]
    | _ :: _ :: _ :: _ => rfl)
  cbv;refine ⟨i0, Need.mk ⟨_, n0, ?_⟩⟩;cbv;refine bmT c2 ?_;cbv;exact Z2 [] (by decide) Z9 (H' := []) (d' := .tup [.agg [I 0, .v (.slice none 0 0), .v (.slice none 0 0)], .v (.bool false)]) trivial rfl (Z1 hz)
end Go.Proofs.YthljpccegkmdnaaGreatDoor
