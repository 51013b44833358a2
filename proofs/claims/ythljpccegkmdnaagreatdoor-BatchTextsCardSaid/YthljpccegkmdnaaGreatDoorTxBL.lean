/- Part TxBL of the proofs about the benches of the accordion maker: see the last text of the claim for what is proved. -/
import Derived.Test.YthljpccegkmdnaaGreatDoorTxBJ
import Derived.Test.YthljpccegkmdnaaGreatDoorTxAL
import Derived.Test.YthljpccegkmdnaaGreatDoorTxBK
import Derived.Test.YthljpccegkmdnaaGreatDoorTxBF
import Derived.Test.YthljpccegkmdnaaGreatDoorTxBB
import Derived.Test.YthljpccegkmdnaaGreatDoorTxBD
set_option linter.unusedVariables false
set_option linter.unusedSimpArgs false
set_option linter.unnecessarySimpa false
set_option linter.constructorNameAsVariable false

namespace Go.Proofs.YthljpccegkmdnaaGreatDoor
open Go Go.Abs Go.Proofs Go.Batch Go.Txt
set_option maxRecDepth 20000 in
theorem Z1g8 (x : Int) (n : Nat) (hn : n <= 1000000) (Q) (hq : ∀ y k, IsI y k -> (1 <= n -> k < n) -> Q (RA.ret (I y)) []) (z : Int) (hz : IsI z n) : CallA Tryz.prog 95 [I x, I z] [] Q := by
 obtain ⟨A, hA⟩ : ∃ A, A = ar := ⟨_, rfl⟩;refine Z5 Z0 hA Tryz.func95 rfl rfl rfl rfl rfl fun S hS => ?_
 by_cases h : n < 2
 ·have c : A.cmp .lss z 2 = true := by rw [hz.eq]; subst hA; simp [ar, Z25]; omega
  have hq := hq 0 0 ⟨rfl⟩ (fun h => h);cbv;refine bmT c ?_;cbv;exact Z2 [] (by decide) Z9 (H' := []) (d' := I 0) trivial rfl (Z1 hq)
 ·have c : A.cmp .lss z 2 = false := by rw [hz.eq]; subst hA; simp [ar, Z25]; omega
  have nz : A.nz z := by rw [hz.eq]; subst hA; show (n : Int) ≠ 0; omega
  have r1 : -(n : Int) < Int.tmod x n /\ Int.tmod x n < n := ⟨by have := Int.lt_tmod_of_pos x (show (0 : Int) < n by omega); omega, Int.tmod_lt_of_pos x (by omega)⟩;have ff : A.fits .i64 (A.add (A.rem x z) z) := Z14 hA (m := Int.tmod x n + n) (by rw [Z58 hA, hz.eq]; subst hA; rfl) (by omega);have r2 : 0 <= Int.tmod (Int.tmod x n + n) n /\ Int.tmod (Int.tmod x n + n) n < n := ⟨Int.tmod_nonneg _ (by omega), Int.tmod_lt_of_pos _ (by omega)⟩;have e : A.rem (A.add (A.rem x z) z) z = Int.tmod (Int.tmod x n + n) n := by rw [hz.eq]; subst hA; rfl
  have hq := hq (A.rem (A.add (A.rem x z) z) z) (Int.tmod (Int.tmod x n + n) n).toNat ⟨by rw [e]; omega⟩ (fun _ => by omega);cbv;refine bmF c ?_;cbv;refine ⟨nz, ff, nz, ?_⟩;exact Z2 [] (by decide) Z9 (H' := []) (d' := I (A.rem (A.add (A.rem x z) z) z)) trivial rfl (Z1 hq)
theorem ssz {A : Ar} (hA : A = ar) (s : By) (x y : Int) {n : Nat} (h : s.length <= n) : SzB (A.ssub (bs s) x y) n := ⟨by
 subst hA
 show ((bs s).extract x.toNat y.toNat).size <= n
 rw [ByteArray.size_extract, Z1h9]; omega⟩
set_option maxRecDepth 20000 in
set_option maxHeartbeats 4000000 in
theorem Z1jm (s : By) (hs : s.length <= 1000) (at' how z : Int) (b : UInt8) (hb : z = (b.toNat : Int)) (Q) (hq : ∀ x, Q (RA.ret (.v (.string x))) []) : CallA Tryz.prog 39 [tD s, I at', I how, .v (.int .u8 z)] [] Q := by
 obtain ⟨A, hA⟩ : ∃ A, A = ar := ⟨_, rfl⟩;refine Z5 Z0 hA Tryz.func39 rfl rfl rfl rfl rfl fun S hS => ?_
 by_cases h0 : s = []
 ·have c : A.seq (bs s) (bs []) = true := by rw [yseq hA, h0]; simp
  have hq := hq (bs s);cbv;refine bmT c ?_;cbv;exact Z2 [] (by decide) Z9 (H' := []) (d' := tD s) trivial rfl (Z1 hq)
 have c : A.seq (bs s) (bs []) = false := by rw [yseq hA]; simp [h0]
 have hpos : 1 <= s.length := by cases s with | nil => exact absurd rfl h0 | cons a l => simp
 have hln : IsI (A.oi (A.slen (bs s))) s.length := ⟨Z1j9 hA s⟩;cbv;refine bmF c ?_;cbv;refine Z4 hS [I at', I (A.oi (A.slen (bs s)))] [] [] rfl rfl rfl rfl rfl rfl rfl rfl (by decide) trivial (Z1g8 at' s.length (by omega) _ (fun y k hy hk => ?_) _ hln);have hk := hk hpos;have s0 : IsI 0 0 := ⟨rfl⟩;have o1 := (Z1i7 (s := s) hA s0 hy (Nat.zero_le _) (by omega)).1;have o2 := (Z1i7 (s := s) hA (Zz hA hy) hln (by omega) (Nat.le_refl _)).1;have o3 := (Z1i7 (s := s) hA hy hln (by omega) (Nat.le_refl _)).1;have f1 := Zy hA hy (by omega);have z1 : SzB (bs [b]) 1 := .lit _ (Nat.le_refl _);have w := fun x y => ssz hA s x y hs;have p1 := scO hA (w 0 y) z1 (by decide);have p2 := scO hA ((w 0 y).cat hA z1) (w (A.add y 1) (A.oi (A.slen (bs s)))) (by decide);have p3 := scO hA ((w 0 y).cat hA z1) (w y (A.oi (A.slen (bs s)))) (by decide);have p4 := scO hA (w 0 y) (w (A.add y 1) (A.oi (A.slen (bs s)))) (by decide);clear w;refine Z3 Z0 hA hS ?_;cbv;refine bm (fun c0 => ?_) (fun c0 => ?_)
 ·cbv;refine Z5j Z0 hA hS [5] [0, 1, 2, 3, 4, 7, 8, 9, 10, 5, 6, 11, 12] rfl rfl fun Dk hD => ?_;cbv;refine ⟨o1, f1, o2, ?_⟩;refine Z1ho Z0 hA hD b hb rfl rfl rfl rfl rfl rfl rfl rfl rfl rfl rfl rfl rfl rfl rfl (by cbv) ?_;cbv;refine ⟨p1, p2, ?_⟩;exact Z2 [] (by decide) Z9 (H' := []) (d' := .v (.string (A.scat (A.scat (A.ssub (bs s) 0 y) (bs [b])) (A.ssub (bs s) (A.add y 1) (A.oi (A.slen (bs s))))))) trivial rfl (Z1 (hq _))
 ·cbv;refine bm (fun c1 => ?_) (fun c1 => ?_)
  ·cbv;refine Z16 Z0 hA hS [0, 1, 2, 3, 4, 5, 6, 7, 8] rfl rfl fun Dk hD => ?_;cbv;refine ⟨o1, f1, o2, p4, ?_⟩;exact Z2 [] (by decide) Z9 (H' := []) (d' := .v (.string (A.scat (A.ssub (bs s) 0 y) (A.ssub (bs s) (A.add y 1) (A.oi (A.slen (bs s))))))) trivial rfl (Z1 (hq _))
  ·cbv;refine Z5j Z0 hA hS [5] [0, 1, 2, 3, 4, 7, 8, 9, 5, 6, 10, 11] rfl rfl fun Dk hD => ?_;cbv;refine ⟨o1, o3, ?_⟩;refine Z1ho Z0 hA hD b hb rfl rfl rfl rfl rfl rfl rfl rfl rfl rfl rfl rfl rfl rfl rfl (by cbv) ?_;cbv;refine ⟨p1, p3, ?_⟩;exact Z2 [] (by decide) Z9 (H' := []) (d' := .v (.string (A.scat (A.scat (A.ssub (bs s) 0 y) (bs [b])) (A.ssub (bs s) y (A.oi (A.slen (bs s))))))) trivial rfl (Z1 (hq _))
end Go.Proofs.YthljpccegkmdnaaGreatDoor

namespace Go.Proofs.YthljpccegkmdnaaGreatDoor
open Go Go.Abs Go.Proofs Go.Batch Go.Txt
def wrJ (j : Jn) : By × Int := if Zr j = 0 then (Z1hr j, 0) else ([], Zr j)
theorem Z1jn (j : Jn) : (wrJ j).1.length <= 1000 := by
 unfold wrJ
 split
 ·rename_i h
  have hok := Z2r h;have a := Z1hl hok;have b := Z1hk (l := j.moves) (fun m hm => Z1h8 hok hm);have c := hok.m10;have d : endW.length = 3 := rfl;have e : ([10] : By).length = 1 := rfl;show (Z1gt j ++ j.moves.flatMap Z1gu ++ endW ++ [10]).length <= 1000;rw [List.length_append, List.length_append, List.length_append]; omega
 ·simp
theorem Z1ir (j : Jn) (hf : j.first.length <= 1000000) (hm : j.moves.length <= 1000000) (FL ML : List D) (hF : FL = j.first.map Zv) (hM : ML = j.moves.map mvD) (W : By) (E : Int) (h : wrJ j = (W, E)) (n : Int) (hn : j.ins = n) (Q) (hq : Q (RA.ret (.tup [tD W, I E])) []) :
  CallA Tryz.prog 29 [.agg [I n, .sl 1 FL, .sl 5 ML]] [] Q := by
 subst hn;unfold wrJ at h;refine Z1jw j (by omega) (by omega) FL ML hF hM Q (fun h0 x hx => ?_) (fun e he h0 => ?_)
 ·rw [if_pos h0] at h; cases h; rw [hx.eq]; exact hq
 ·rw [if_neg (he ▸ h0)] at h; cases h; rw [he]; exact hq
theorem Z1is (j : Jn) (hf : j.first.length <= 1000000) (hm : j.moves.length <= 1000000) (FL ML : List D) (hF : FL = j.first.map Zv) (hM : ML = j.moves.map mvD) (W : By) (E : Int) (h : wrJ j = (W, E)) (n : Int) (hn : j.ins = n) (Q) (hq : Q (RA.ret (.tup [tD W, I E])) []) :
  CallA Tryz.prog 44 [.agg [I n, .sl 1 FL, .sl 5 ML]] [] Q := by
 subst hn;unfold wrJ at h;refine Z1jx j (by omega) (by omega) FL ML hF hM Q (fun h0 x hx => ?_) (fun e he h0 => ?_)
 ·rw [if_pos h0] at h; cases h; rw [hx.eq]; exact hq
 ·rw [if_neg (he ▸ h0)] at h; cases h; rw [he]; exact hq
structure RdV (t : By) (n l e : Int) (FL ML : List D) : Prop where
 out : ∃ j, Z1gv t = (j, l, e) /\ j.ins = n /\ FL = j.first.map Zv /\ ML = j.moves.map mvD
theorem rdV (t : By) : ∃ n l e FL ML, RdV t n l e FL ML := ⟨_, _, _, _, _, ⟨(Z1gv t).1, rfl, rfl, rfl, rfl⟩⟩
theorem Z1k1 {t : By} {n l e : Int} {FL ML : List D} (h : RdV t n l e FL ML) (Q) (hq : Q (RA.ret (.tup [.agg [I n, .sl 1 FL, .sl 5 ML], I l, I e])) []) : CallA Tryz.prog 45 [tD t] [] Q := by
 obtain ⟨j, h1, rfl, rfl, rfl⟩ := h.out;refine Z1jz t Q (fun l' e' h' h0 => ?_) (fun j' n' FL' ML' h' h0 hn hF hM => ?_)
 ·rw [h1] at h'; cases h'; exact hq
 ·rw [h1] at h'; cases h'; subst hn hF hM; exact hq
theorem Z1k2 {t : By} {n l e : Int} {FL ML : List D} (h : RdV t n l e FL ML) (Q) (hq : Q (RA.ret (.tup [.agg [I n, .sl 1 FL, .sl 5 ML], I l, I e])) []) : CallA Tryz.prog 46 [tD t] [] Q := by
 obtain ⟨j, h1, rfl, rfl, rfl⟩ := h.out;refine Z1k0 t Q (fun l' e' h' h0 => ?_) (fun j' n' FL' ML' h' h0 hn hF hM => ?_)
 ·rw [h1] at h'; cases h'; exact hq
 ·rw [h1] at h'; cases h'; subst hn hF hM; exact hq
theorem Z1je (t : By) : (Z1gv t).1.first.length <= 2 /\ (Z1gv t).1.moves.length <= 10 := by
 have z : j0.first.length <= 2 /\ j0.moves.length <= 10 := by decide
 unfold Z1gv
 split
 ·exact z
 ·split
  ·exact z
  ·split
   ·exact z
   ·split
    ·exact z
    ·rename_i h; exact ⟨(Z2r (Decidable.not_not.1 h)).f2, (Z2r (Decidable.not_not.1 h)).m10⟩
theorem Z1kc {t : By} {n l e : Int} {FL ML : List D} (h : RdV t n l e FL ML) (Q) (hq : Q (RA.ret (.v (.bool true))) []) : CallA Tryz.prog 32 [.agg [I n, .sl 1 FL, .sl 5 ML], .agg [I n, .sl 1 FL, .sl 5 ML]] [] Q := by
 obtain ⟨j, h1, rfl, h2, h3⟩ := h.out;have := Z1je t;rw [h1] at this;exact Zgg j FL ML h2 h3 (Nat.le_trans this.1 (by decide)) (Nat.le_trans this.2 (by decide)) Q hq
end Go.Proofs.YthljpccegkmdnaaGreatDoor

namespace Go.Proofs.YthljpccegkmdnaaGreatDoor
open Go Go.Abs Go.Proofs Go.Batch Go.Txt
structure LeN (a b : Nat) : Prop where
 le : a <= b
set_option maxRecDepth 40000 in
set_option maxHeartbeats 16000000 in
theorem Z1if (j : Jn) (FL ML : List D) (hF : FL = j.first.map Zv) (hM : ML = j.moves.map mvD) (hf9 : j.first.length <= 9223372036854775807) (hm9 : j.moves.length <= 9223372036854775807) (t : By) (L : List D) (nums : List Int) (hL : L = nums.map I) (hl : L.length <= 9223372036854775807) (at' how z : Int) (b : UInt8) (hb : z = (b.toNat : Int)) (Q) (hq : Q (RA.ret (.v (.bool true))) []) :
  CallA Tryz.prog 6 [.agg [I j.ins, .sl 1 FL, .sl 5 ML], tD t, .sl 1 L, I at', I how, .v (.int .u8 z)] [] Q := by
 obtain ⟨A, hA⟩ : ∃ A, A = ar := ⟨_, rfl⟩;obtain ⟨ji, hji⟩ : ∃ ji, j.ins = ji := ⟨_, rfl⟩;have hFl : FL.length = j.first.length := by rw [hF, List.length_map]
 have hMl : ML.length = j.moves.length := by rw [hM, List.length_map]
 obtain ⟨W1, E1, hW1⟩ : ∃ W E, wrJ j = (W, E) := ⟨_, _, rfl⟩;rw [hji];refine Z38 Z0 hA [3] Tryz.func6 rfl rfl rfl rfl rfl fun S hS => ?_;cbv;refine bm (fun c1 => ?_) (fun c1 => ?_)
 ·cbv;refine Z4 hS [] [] [] rfl rfl rfl rfl rfl rfl rfl rfl (by decide) trivial (Zov _ ?_);refine Z3 Z0 hA hS ?_;cbv;exact Z2 [] (by decide) Z9 (H' := []) (d' := .v (.bool true)) trivial rfl (Z1 hq)
 have f20 : LeN j.first.length 20 := ⟨by have := yngtL (x := 20) hA hFl c1; omega⟩;cbv;refine bm (fun c2 => ?_) (fun c2 => ?_)
 ·cbv;refine Z4 hS [] [] [] rfl rfl rfl rfl rfl rfl rfl rfl (by decide) trivial (Zov _ ?_);refine Z3 Z0 hA hS ?_;cbv;exact Z2 [] (by decide) Z9 (H' := []) (d' := .v (.bool true)) trivial rfl (Z1 hq)
 have m20 : LeN j.moves.length 20 := ⟨by have := yngtL (x := 20) hA hMl c2; omega⟩;have wk1 := fun Q h => Z1ir j (Nat.le_trans f20.le (by decide)) (Nat.le_trans m20.le (by decide)) FL ML hF hM W1 E1 hW1 ji hji Q h;have wr1 := fun Q h => Z1is j (Nat.le_trans f20.le (by decide)) (Nat.le_trans m20.le (by decide)) FL ML hF hM W1 E1 hW1 ji hji Q h;clear hF hM f20 m20 c1 c2 hFl hMl hf9 hm9;cbv;refine' bm2 (S := S) (α := Unit) (fun _ => { env := [(1, tD t), (2, .sl 1 L), (3, I at'), (4, I how), (5, .v (.int .u8 z)), (6, .b 0 0)], H := [.box (.agg [I ji, .sl 1 FL, .sl 5 ML])], nt := 146, dfs := [] }) (fun _ => True) (fun rest c => ?g1) (fun rest c => ?g2) ?g3
 case g1 =>
  cbv;refine bm (fun c4 => ?_) (fun c4 => ?_)
  ·cbv;refine Z4 hS [] [] [] rfl rfl rfl rfl rfl rfl rfl rfl (by decide) trivial (Zov _ ?_);refine Z3 Z0 hA hS ?_;cbv;exact Z2 [] (by decide) Z9 (H' := []) (d' := .v (.bool true)) trivial rfl (Z1 hq)
  ·cbv;exact Zof hS rest () trivial (Zf [0] ⟨by decide, Z9, ⟨rfl, trivial⟩, ⟨rfl, rfl, rfl, rfl, rfl, rfl, trivial⟩, rfl, rfl⟩)
 case g2 =>
  cbv;exact Zof hS rest () trivial (Zf [0] ⟨by decide, Z9, ⟨rfl, trivial⟩, ⟨rfl, rfl, rfl, rfl, rfl, rfl, trivial⟩, rfl, rfl⟩)
 case g3 =>
 rintro - -;refine Zb hS (Z2w Z0 hA hS [] ?_);cbv;refine Z4 hS [.sl 1 L] [] [] rfl rfl rfl rfl rfl rfl rfl rfl (by decide) trivial (Zvp L nums hL hl _ fun x0 => ?_);refine Z3 Z0 hA hS ?_;cbv;refine Z4 hS [.b 0 0, I 10, I 3] [1] [pot x0] rfl rfl rfl rfl rfl rfl rfl rfl (by decide) ⟨rfl, trivial⟩ (Znd x0 10 3 (by decide) ⟨by decide, by decide⟩ _ fun ins first mm lies truth x1 F1 M1 TL RL hi1 hi4 hfl hm10 hmm hg _ hF1 hM1 hT hR => ?_);obtain ⟨j2, hj2⟩ : ∃ j2 : Jn, j2 = ⟨ins, first, mm⟩ := ⟨_, rfl⟩;obtain ⟨W2, E2, hW2⟩ : ∃ W E, wrJ j2 = (W, E) := ⟨_, _, rfl⟩;have hW2l : W2.length <= 1000 := by have := Z1jn j2; rw [hW2] at this; exact this
 have e2i : j2.ins = ins := by rw [hj2]
 have wk2 := fun Q h => Z1ir j2 (by rw [hj2]; show first.length <= _; omega) (by rw [hj2]; show mm.length <= _; omega) F1 M1 (by rw [hj2]; exact hF1) (by rw [hj2]; exact hM1) W2 E2 hW2 ins e2i Q h;have wr2 := fun Q h => Z1is j2 (by rw [hj2]; show first.length <= _; omega) (by rw [hj2]; show mm.length <= _; omega) F1 M1 (by rw [hj2]; exact hF1) (by rw [hj2]; exact hM1) W2 E2 hW2 ins e2i Q h;clear hg hi1 hi4 hfl hm10 hmm hF1 hM1 hT hR hj2 hW2 hW1 e2i;have nsq : ∀ W, A.bnot (A.seq (bs W) (bs W)) = false := fun W => by rw [yseq hA]; subst hA; simp [ar]
 have nne : ∀ x, A.cmp .neq x x = false := fun x => by subst hA; simp [ar, Z25]
 have bT : A.bnot true = false := by subst hA; rfl
 have t0 : IsI 0 0 := ⟨rfl⟩;have t1 := Zz hA t0;have t2 := Zz hA t1;have t3 := Zz hA t2;have t4 := Zz hA t3;have f0 := Zy hA t0 (by decide);have f1 := Zy hA t1 (by decide);have l0 : A.cmp .lss 0 (A.oi 2) = true := by subst hA; rfl
 have l1 : A.cmp .lss (A.add 0 1) (A.oi 2) = true := by subst hA; rfl
 have l2 : A.cmp .lss (A.add (A.add 0 1) 1) (A.oi 2) = false := by subst hA; rfl
 have i0 : A.inb 0 2 := Z4o hA t0 (by decide);have i1 : A.inb (A.add 0 1) 2 := Z4o hA t1 (by decide);have g0 : A.get [.agg [I ji, .sl 1 FL, .sl 5 ML], .agg [I ins, .sl 1 F1, .sl 5 M1]] (A.tn 0) = some (.agg [I ji, .sl 1 FL, .sl 5 ML]) := Z18 hA t0 rfl;have g1 : A.get [.agg [I ji, .sl 1 FL, .sl 5 ML], .agg [I ins, .sl 1 F1, .sl 5 M1]] (A.tn (A.add 0 1)) = some (.agg [I ins, .sl 1 F1, .sl 5 M1]) := Z18 hA t1 rfl;have a1 : A.app [tD t] [tD W1] = [tD t, tD W1] := by subst hA; rfl
 have a2 : A.app (A.app [tD t] [tD W1]) [tD W2] = [tD t, tD W1, tD W2] := by subst hA; rfl
 refine Z3 Z0 hA hS ?_;cbv;have r1 : A.room (A.addN 1 1) 16 := Z27 hA (by decide) (by decide);have r2 : A.room (A.addN (A.addN 1 1) 1) 16 := Z27 hA (by subst hA; decide) (by decide);have q1 : ∀ x, A.eqN 1 (A.len [x]) := fun x => by subst hA; rfl
 have q2 : A.eqN (A.addN 1 1) (A.len (A.app [tD t] [tD W1])) := by rw [a1]; subst hA; rfl
 have q3 : A.eqN (A.addN (A.addN 1 1) 1) (A.len (A.app (A.app [tD t] [tD W1]) [tD W2])) := by rw [a2]; subst hA; rfl
 have i2 : A.inb 2 (A.addN (A.addN 1 1) 1) := by subst hA; exact ⟨by decide, by decide⟩
 have g2 : A.get (A.app (A.app [tD t] [tD W1]) [tD W2]) (A.tn 2) = some (tD W2) := by rw [a2]; subst hA; rfl
 have r3 : A.room (A.addN (A.addN (A.addN 1 1) 1) 1) 16 := Z27 hA (by subst hA; decide) (by decide);have n4 : A.addN (A.addN (A.addN 1 1) 1) 1 = 4 := by subst hA; rfl
 refine Z1e9 hS 3 fun Rn hR => ?_;refine Z198 Z0 hA hS hR ?_;cbv;refine bmT l0 ?_;cbv;refine ⟨i0, Need.mk ⟨_, g0, ?_⟩⟩;cbv;refine Z4 hS [.agg [I ji, .sl 1 FL, .sl 5 ML]] [] [] rfl rfl rfl rfl rfl rfl rfl rfl (by decide) trivial (wk1 _ ?_);refine Z3 Z0 hA hS ?_;cbv;refine ⟨i0, Need.mk ⟨_, g0, ?_⟩⟩;cbv;refine Z4 hS [.agg [I ji, .sl 1 FL, .sl 5 ML]] [] [] rfl rfl rfl rfl rfl rfl rfl rfl (by decide) trivial (wr1 _ ?_);refine Z3 Z0 hA hS ?_;cbv;refine bmF (nsq W1) ?_;cbv;refine bmF (nne E1) ?_;cbv;refine ⟨q1 (tD t), q1 (tD W1), r1, f0, ?_⟩;refine Z198 Z0 hA hS hR ?_;cbv;refine bmT l1 ?_;cbv;refine ⟨i1, Need.mk ⟨_, g1, ?_⟩⟩;cbv;refine Z4 hS [.agg [I ins, .sl 1 F1, .sl 5 M1]] [] [] rfl rfl rfl rfl rfl rfl rfl rfl (by decide) trivial (wk2 _ ?_);refine Z3 Z0 hA hS ?_;cbv;refine ⟨i1, Need.mk ⟨_, g1, ?_⟩⟩;cbv;refine Z4 hS [.agg [I ins, .sl 1 F1, .sl 5 M1]] [] [] rfl rfl rfl rfl rfl rfl rfl rfl (by decide) trivial (wr2 _ ?_);refine Z3 Z0 hA hS ?_;cbv;refine bmF (nsq W2) ?_;cbv;refine bmF (nne E2) ?_;cbv;refine ⟨q2, q1 (tD W2), r2, f1, ?_⟩;refine Z198 Z0 hA hS hR ?_;cbv;refine bmF l2 ?_;cbv;refine ⟨i2, Need.mk ⟨_, g2, ?_⟩⟩;cbv;refine Z4 hS [.v (.string (bs W2)), I at', I how, .v (.int .u8 z)] [] [] rfl rfl rfl rfl rfl rfl rfl rfl (by decide) trivial (Z1jm W2 hW2l at' how z b hb _ fun x => ?_);obtain ⟨TX, hTX⟩ : ∃ TX, TX = A.app (A.app (A.app [tD t] [tD W1]) [tD W2]) [.v (.string x)] := ⟨_, rfl⟩;obtain ⟨N4, hN4⟩ : ∃ N4, N4 = A.addN (A.addN (A.addN 1 1) 1) 1 := ⟨_, rfl⟩;have hg4 : ∀ k, k < 4 -> ∃ t', TX[k]? = some (tD t') := fun k hk => by
  have e : TX = [tD t, tD W1, tD W2, .v (.string x)] := by rw [hTX, a2]; subst hA; rfl
  rw [e]
  match k, hk with
  | 0, _ => exact ⟨t, rfl⟩
  | 1, _ => exact ⟨W1, rfl⟩
  | 2, _ => exact ⟨W2, rfl⟩
  | 3, _ => exact ⟨x.data.toList, by unfold tD; rw [bs_of]; rfl⟩
 have hN : N4 = 4 := hN4.trans n4;refine Z3 Z0 hA hS ?_;cbv;refine ⟨q3, q1 (.v (.string x)), r3, ?_⟩;clear wk1 wr1 wk2 wr2 a1 a2 g0 g1 g2 q1 q2 q3 r1 r2 r3 n4 i0 i1 i2 hR;refine Zb hS ?_;refine Za (α := Int × Nat) (fun q => { env := [(17, .o 0 1 N4), (23, I q.1)], H := [.els 1 TX], nt := 146, dfs := [] }) (fun q => 4 - q.2) (fun q => q.2 <= 4 /\ IsI q.1 q.2) (0, 0) ⟨by decide, ⟨rfl⟩⟩ ?_ ?_
 ·rw [hTX, hN4];exact Zf [10] ⟨by decide, Z9, ⟨rfl, trivial⟩, ⟨rfl, rfl, trivial⟩, rfl, rfl⟩
 rintro ⟨i, k⟩ ⟨u1, u2⟩;dsimp only at u1 u2;refine Z2w Z0 hA hS [] ?_
 by_cases hk : k < 4
 ·have d1 : A.cmp .lss i (A.oi N4) = true := by rw [u2.eq, hN]; subst hA; simp [ar, Z25]; omega
  have ii : A.inb i N4 := Z4o hA u2 (by omega);obtain ⟨t', ht'⟩ := hg4 k hk;have gg : A.get TX (A.tn i) = some (tD t') := Z18 hA u2 ht';obtain ⟨n, l, e, FR, MR, hv⟩ := rdV t';have hf1 := Zy hA u2 (by omega);have hu2 := Zz hA u2;have hms : 4 - (k + 1) < 4 - k := by omega
  have vk := fun Q h => Z1k1 hv Q h;have vr := fun Q h => Z1k2 hv Q h;have vs := fun Q h => Z1kc hv Q h;clear hg4;cbv;refine bmT d1 ?_;cbv;refine ⟨ii, Need.mk ⟨_, gg, ?_⟩⟩;cbv;refine Z4 hS [.v (.string (bs t'))] [] [] rfl rfl rfl rfl rfl rfl rfl rfl (by decide) trivial (vk _ ?_);refine Z3 Z0 hA hS ?_;cbv;refine ⟨ii, Need.mk ⟨_, gg, ?_⟩⟩;cbv;refine Z4 hS [.v (.string (bs t'))] [] [] rfl rfl rfl rfl rfl rfl rfl rfl (by decide) trivial (vr _ ?_);refine Z3 Z0 hA hS ?_;cbv;refine bmF (nne l) ?_;cbv;refine bmF (nne e) ?_;cbv;refine Zg hS (b := false) rfl rfl rfl rfl rfl rfl rfl rfl (fun _ => ⟨[], _, [.agg [I n, .sl 1 FR, .sl 5 MR], .agg [I n, .sl 1 FR, .sl 5 MR]], [], [], rfl, rfl, rfl, by decide, trivial, vs _ ?_⟩) (fun e => absurd rfl e);refine Z3 Z0 hA hS ?_;cbv;refine bmF bT ?_;cbv;refine ⟨hf1, ?_⟩;refine Z8 (A.add i 1, k + 1) [0] ⟨hk, hu2⟩ hms ?_;exact ⟨by decide, Z9, ⟨rfl, trivial⟩, ⟨rfl, rfl, trivial⟩, rfl, rfl⟩
 ·have d1 : A.cmp .lss i (A.oi N4) = false := by rw [u2.eq, hN]; subst hA; simp [ar, Z25]; omega
  cbv;refine bmF d1 ?_;cbv;refine Z7 ?_;cbv;refine Z4 hS [] [] [] rfl rfl rfl rfl rfl rfl rfl rfl (by decide) trivial (Zov _ ?_);refine Z3 Z0 hA hS ?_;cbv;exact Z2 [] (by decide) Z9 (H' := []) (d' := .v (.bool true)) trivial rfl (Z1 hq)
end Go.Proofs.YthljpccegkmdnaaGreatDoor
