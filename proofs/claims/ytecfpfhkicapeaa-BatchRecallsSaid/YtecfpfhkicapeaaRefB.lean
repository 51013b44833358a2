/- Part RefB of the proofs about the benches of the accordion maker: see the last text of the claim for what is proved. -/
import Derived.Test.YtecfpfhkicapeaaRefA
import Derived.Test.YtecfpfhkicapeaaBatA
import Derived.Test.YtecfpfhkicapeaaBatD
set_option linter.unusedVariables false
set_option linter.unusedSimpArgs false
set_option linter.unnecessarySimpa false
set_option linter.constructorNameAsVariable false

namespace Go.Proofs.Ytecfpfhkicapeaa
open Go Go.Abs Go.Proofs Go.Batch
theorem Zyk (j : Jn) (hj : JOk j) (q : Go.Batch.Ask) (hqb : q.batches.length <= 1000000) (FL ML QB : List D) (hF : FL = j.first.map Zv) (hQB : QB = q.batches.map I) (k : Nat) (m : Mv) (hmk : j.moves[k]? = some m) (BL : List D) (hB : BL = (Z6 (j.moves.take k)).map I) (nb : Nat) (hnb : nb = Z4e j k)
  (s : Ste Int) (hs : s ∈ Zay j (Zm q) 0 k) (LL : List D) (hL : LL = s.1.map I) (NX : List D) (T : Ste Int -> Prop) (hV : MarkV NX T) (Q) (hq : ∀ d NX', MarkV NX' (fun s' => T s' ∨ s' ∈ Z22 j (Zm q) (Z6 j.moves) m (Z4e j k) s) -> Q (RA.ret d) [.els 1 BL, .els 1 NX']) :
  CallA Try.prog 132 [.agg [I j.ins, .sl 1 FL, .sl 5 ML], Zcy q QB, .o 0 1 nb, mvA m, I s.2, .sl 1 LL, .o 1 1 20736] [.els 1 BL, .els 1 NX] Q := by
 have hmo := hj.mv m (List.mem_of_getElem? hmk);have hok := Zfz hj q k s hs;have hok2 : ∀ s' ∈ Z22 j (Zm q) (Z6 j.moves) m (Z4e j k) s, LOk s'.1 /\ 0 <= s'.2 /\ s'.2 <= 15 := fun s' h' => by
  have := Zfz hj q (k + 1) s' (by rw [Zhb hmk]; exact List.mem_flatMap.2 ⟨s, hs, h'⟩);exact ⟨this.l, this.n0, this.n15⟩
 obtain ⟨ext, hext⟩ := Zhc j k;obtain ⟨bs, hbs⟩ : ∃ bs, bs = Z6 (j.moves.take k) := ⟨_, rfl⟩;have hnb2 : nb = bs.length := by rw [hnb, hbs]; rfl
 have hcl := Zcq j k;have hb4 := hj.b4;have hbs4 : bs.length <= 4 := by omega
 rw [<- hbs] at hB hext;have hst : Z22 j (Zm q) (Z6 j.moves) m (Z4e j k) s = Z22 j (Zm q) bs m nb (s.1, s.2) := by
  rw [hext, <- hnb];exact Zqp bs ext hbs4 hok.l.len fun n hn => hok.z n (by rw [<- hnb, hnb2]; exact hn)
 rw [hst] at hq hok2;have hml := hmo.l0;have hmh := hmo.lh;have hm5 := hmo.h5;have hqD : ∃ a b c L, Zcy q QB = .agg [I a, I b, I c, .sl 1 L] := ⟨_, _, _, _, rfl⟩;have hi4 := hj.i4;have hi1 := hj.i1;have h13 := hmo.k1;have h33 := hmo.k3
 by_cases h1 : m.kind = 1
 ·refine Zx9 j.ins FL ML _ hqD bs (by have := Zv9 hmk h1; omega) BL nb hnb2 m h1 ⟨hml, hmh, hm5⟩ s.2 ⟨hok.n0, hok.n15⟩ s.1 hok.l LL hL NX T hV Q fun d NX' h => hq d NX' (h.congr fun s' => ?_);unfold Z22;rw [if_pos h1]
 by_cases h2 : m.kind = 2
 ·have hb0 := hmo.b0;have hb1 := hmo.b1;have hlt : m.bin.toNat < j.first.length := by omega
  have hso := fun s' => Ztf hi4 (q := q) hbs4 hmo h2 hok.l (x := s.2) (b := nb) s';refine Zxa j.ins j.ins.toNat ⟨by omega⟩ (by omega) FL ML q hqb QB hQB bs hbs4 BL hB nb hnb2 m h2 ⟨hml, hmh, hm5⟩ (j.first.getD m.bin.toNat false) m.bin.toNat j.first.length ⟨by omega⟩ hlt (by rw [hF, List.length_map]) (by
   rw [hF, List.getElem?_map, List.getD_eq_getElem?_getD, List.getElem?_eq_getElem hlt]; rfl) s.2 ⟨hok.n0, hok.n15⟩ s.1 hok.l LL hL (fun a of k' ha hof hk' => ?_) NX T hV Q fun d NX' h => hq d NX' (h.congr fun s' => by rw [hso s'])
  have := hok2 (Z5l q s.1 of s.2 k') ((hso _).2 ⟨a, ha, of, hof, k', hk', rfl⟩);exact this
 ·have h3 : m.kind = 3 := by omega
  refine Zx8 j.ins FL ML _ hqD bs hbs4 BL hB nb hnb2 m h3 s.2 ⟨hok.n0, hok.n15⟩ s.1 hok.l LL hL NX T hV Q fun d NX' h => hq d NX' (h.congr fun s' => ?_);unfold Z22;rw [if_neg h1, if_neg h2]
end Go.Proofs.Ytecfpfhkicapeaa

namespace Go.Proofs.Ytecfpfhkicapeaa
open Go Go.Abs Go.Proofs Go.Batch
theorem Ztj : MarkV (Zcz (List.replicate 20736 false)) fun _ => False := ⟨_, rfl, Zqa⟩
theorem Ztk {A : Ar} (hA : A = ar) {NX : List D} (h : NX = Zcz (List.replicate 20736 false)) : A.rep (A.tn 20736) (.v (.bool false)) = NX := by
 subst hA;rw [h];unfold Zcz;rw [List.map_replicate]; rfl
theorem MarkV.is {NX : List D} {T : Ste Int -> Prop} (h : MarkV NX T) {n : Nat} (hn : n < 20736) : ∃ b, NX[n]? = some (.v (.bool b)) /\ (b = true ↔ T (Z3o n)) := by
 obtain ⟨L, rfl, h2⟩ := h.ex;have hl : n < L.length := by rw [Go.Batch.Marks.len h2]; exact hn
 refine ⟨L[n], ?_, ?_⟩
 ·unfold Zcz;rw [List.getElem?_map, List.getElem?_eq_getElem hl]; rfl
 ·rw [<- Go.Batch.Marks.at_ h2 n hn, List.getElem?_eq_getElem hl];exact ⟨fun h => by rw [h], fun h => Option.some.inj h⟩
theorem Zla {S : List (Ste Int)} (hs : ∀ s ∈ S, LOk s.1 /\ 0 <= s.2 /\ s.2 <= 15) (n : Nat) (s : Ste Int) : Z7o S (n + 1) s ↔ Z7o S n s ∨ Z3o n ∈ S /\ s = Z3o n := by
 unfold Z7o;constructor
 ·rintro ⟨h1, h2⟩
  by_cases e : Z1i s = n
  ·have h3 : Z3o n = s := by rw [<- e]; exact Z57 (hs s h1).1 (hs s h1).2.1
   exact .inr ⟨by rw [h3]; exact h1, h3.symm⟩
  ·exact .inl ⟨h1, by omega⟩
 ·rintro (⟨h1, h2⟩ | ⟨h1, rfl⟩)
  ·exact ⟨h1, by omega⟩
  ·exact ⟨h1, by rw [Ze3]; omega⟩
set_option maxRecDepth 40000 in
set_option maxHeartbeats 16000000 in
theorem Zp0 (j : Jn) (hj : JOk j) (q : Go.Batch.Ask) (hqb : q.batches.length <= 1000000) (FL ML QB : List D) (hF : FL = j.first.map Zv) (hM : ML = j.moves.map mvD) (hQB : QB = q.batches.map I) (Q) (hq : ∀ NX, MarkV NX (fun s => s ∈ Zd j (Zm q) 0) -> Q (RA.ret (.sl 1 NX)) []) :
  CallA Try.prog 124 [.agg [I j.ins, .sl 1 FL, .sl 5 ML], Zcy q QB] [] Q := by
 obtain ⟨A, hA⟩ : ∃ A, A = ar := ⟨_, rfl⟩;have hMl : ML.length = j.moves.length := by rw [hM]; simp
 have hm10 := hj.m10;have hb4 := hj.b4;have htn : A.tn 20736 = 20736 := by subst hA; rfl
 have hnn : A.nneg 20736 := by subst hA; show (0 : Int) <= 20736; decide
 have hrm : A.room (A.tn 20736) 1 := by rw [htn]; subst hA; exact ⟨by show 20736 * 1 <= 140737488355328; omega, by show 20736 <= 4611686018427387904; omega⟩
 obtain ⟨N0, hN0⟩ : ∃ N0, N0 = Zcz (List.replicate 20736 false) := ⟨_, rfl⟩;have hV0 : MarkV N0 fun _ => False := by rw [hN0]; exact Ztj
 have hrep := Ztk hA hN0;obtain ⟨S0, hS0⟩ : ∃ S0 : Nat -> List (Ste Int), S0 = fun k => Zay j (Zm q) 0 k := ⟨_, rfl⟩;have hSok : ∀ k, ∀ s ∈ S0 k, LOk s.1 /\ 0 <= s.2 /\ s.2 <= 15 := fun k s h => by
  rw [hS0] at h;have := Zfz hj q k s h;exact ⟨this.l, this.n0, this.n15⟩
 have hmove := fun k m hmk BL hB nb hnb s hs LL hL NX T hV Q h => Zyk j hj q hqb FL ML QB hF hQB k m hmk BL hB nb hnb s hs LL hL NX T hV Q h;have hi0 : IsI (0 : Int) 0 := ⟨rfl⟩;obtain ⟨z0, hz0, -⟩ := hV0.is (n := 0) (by decide);have iZ : A.inb 0 (A.tn 20736) := by rw [htn]; exact Z4o hA hi0 (by decide)
 have gZ : A.get (A.rep (A.tn 20736) (.v (.bool false))) (A.tn 0) = some (.v (.bool z0)) := by rw [hrep]; exact Z18 hA hi0 hz0
 obtain ⟨N1, hN1⟩ : ∃ N1, N1 = A.set (A.rep (A.tn 20736) (.v (.bool false))) (A.tn 0) (.v (.bool true)) := ⟨_, rfl⟩;have hp0 : Z1i (([0, 0, 0, 0], 0) : Ste Int) = 0 := rfl;have hV1 : MarkV N1 fun s => s ∈ S0 0 := by
  have h := hV0.set (s := ([0, 0, 0, 0], 0)) Zq3 (Int.le_refl _) (by decide);rw [hp0] at h;rw [hN1, hrep, Z7n hA hi0 rfl];refine h.congr fun s => ?_;rw [hS0];simp only [Zwq, List.mem_singleton, false_or]
 obtain ⟨kd0, qi, qb, qbs⟩ := q;unfold Zcy at hmove ⊢;unfold mvA at hmove;dsimp only at hqb hQB hmove ⊢;refine Z5 Z0 hA Try.func124 rfl rfl rfl rfl rfl fun S hS => ?_;cbv;refine ⟨hnn, hrm, iZ, ⟨_, gZ, ?_⟩⟩;cbv;refine Zb hS ?_;refine Za (α := Int × Nat × List D × Nat × List D) (fun z => { env := [(2, .b 0 0), (3, .b 1 0), (5, .o 2 1 20736), (6, .o 3 1 z.2.2.2.1), (7, I z.1)], H := [.box (.agg [I j.ins, .sl 1 FL, .sl 5 ML]), .box (.agg [I kd0, I qi, I qb, .sl 1 QB]), .els 1 z.2.2.1, .els 1 z.2.2.2.2], nt := 58, dfs := [] })
  (fun z => j.moves.length - z.2.1) (fun z => z.2.1 <= j.moves.length /\ IsI z.1 z.2.1 /\ MarkV z.2.2.1 (fun s => s ∈ S0 z.2.1) /\ z.2.2.2.1 = Z4e j z.2.1 /\ z.2.2.2.2 = (Z6 (j.moves.take z.2.1)).map I) (0, 0, N1, 0, []) ⟨Nat.zero_le _, ⟨rfl⟩, hV1, (Zv7 j).symm, rfl⟩ ?_ ?_
 ·refine Z39 2 rfl hN1.symm ?_;refine Z2a 6 1 rfl ?_;exact Zf [0, 1, 2, 3] ⟨by decide, Z9, ⟨rfl, rfl, rfl, rfl, trivial⟩, ⟨rfl, rfl, congrArg (fun k => some (D.o 2 1 k)) htn, rfl, rfl, trivial⟩, rfl, rfl⟩
 rintro ⟨i, k, NOW, nb, BL⟩ ⟨u1, u2, u3, u4, u5⟩;dsimp only at u1 u2 u3 u4 u5;have hNl : NOW.length = 20736 := u3.len;have hBl : BL.length = nb := by rw [u5, u4, List.length_map]; rfl
 have hcl := Zcq j k;have hnb6 : nb <= 1000000 := by omega
 have hyes : A.cmp .lss i (A.oi (A.len ML)) = true -> k < j.moves.length := fun c => Z31 hA hMl u2 c;have hno : A.cmp .lss i (A.oi (A.len ML)) = false -> k = j.moves.length := fun c => by have := Z21 hA hMl u2 c; omega
 refine Zi Z0 hA hS ?_;cbv;refine bm (fun c => ?_) (fun c => ?_)
 ·have hk : k < j.moves.length := hyes c;obtain ⟨m, hmk⟩ : ∃ m, j.moves[k]? = some m := ⟨_, List.getElem?_eq_getElem hk⟩;have hmv := hmove k m hmk BL u5 nb u4;have hcs := Zn1 hmk;have hbt := Z65 hmk;obtain ⟨St, hSt⟩ : ∃ St : Ste Int -> List (Ste Int), St = Z22 j (Zm ⟨kd0, qi, qb, qbs⟩) (Z6 j.moves) m (Z4e j k) := ⟨_, rfl⟩;have hS1 : ∀ s', s' ∈ S0 (k + 1) ↔ ∃ s, s ∈ S0 k /\ s' ∈ St s := fun s' => by rw [hS0, hSt]; simp only; rw [Zhb hmk, List.mem_flatMap]
  rw [<- hSt] at hmv;obtain ⟨kd, bn, it, lo, hi⟩ := m;dsimp only at hmv hcs hbt;have gM := Z18 hA u2 (show ML[k]? = some (.agg [I kd, I bn, I it, I lo, I hi]) by rw [hM, List.getElem?_map, hmk]; rfl);have iM := Z1b hA hMl u2 hk;have hf1 := Zy hA u2 (by omega);have hu2 := Zz hA u2;have hms : j.moves.length - (k + 1) < j.moves.length - k := by omega
  have hSk := hSok k;cbv;refine ⟨iM, ⟨_, gM, ?_⟩⟩;cbv;refine ⟨hnn, hrm, ?_⟩;refine Zb hS ?_;refine Za (α := Int × Nat × List D) (fun z => { env := [(2, .b 0 0), (3, .b 1 0), (5, .o 2 1 20736), (6, .o 3 1 nb), (7, I i), (8, .b 4 0), (9, .o 5 1 20736), (10, I z.1)], H := [.box (.agg [I j.ins, .sl 1 FL, .sl 5 ML]), .box (.agg [I kd0, I qi, I qb, .sl 1 QB]), .els 1 NOW, .els 1 BL, .box (.agg [I kd, I bn, I it, I lo, I hi]), .els 1 z.2.2], nt := 58, dfs := [] })
   (fun z => 20736 - z.2.1) (fun z => z.2.1 <= 20736 /\ IsI z.1 z.2.1 /\ MarkV z.2.2 (fun s' => ∃ s, Z7o (S0 k) z.2.1 s /\ s' ∈ St s)) (0, 0, N0) ⟨Nat.zero_le _, ⟨rfl⟩, hV0.congr fun s => ⟨fun h => h.elim, fun ⟨s, h, _⟩ => absurd h.2 (Nat.not_lt_zero _)⟩⟩ ?_ ?_
  ·refine Z39 5 rfl hrep ?_;exact Zf [0, 1, 2, 3, 4, 5] ⟨by decide, Z9, ⟨rfl, rfl, rfl, rfl, rfl, rfl, trivial⟩, ⟨rfl, rfl, rfl, rfl, rfl, rfl, congrArg (fun k => some (D.o 5 1 k)) htn, rfl, trivial⟩, rfl, rfl⟩
  rintro ⟨nI, n, NX⟩ ⟨v1, v2, v3⟩;dsimp only at v1 v2 v3;have hyes2 : A.cmp .lss nI (A.oi 20736) = true -> n < 20736 := fun c => by have := xlt hA c; rw [xoi hA] at this; have := v2.eq; omega
  have hno2 : A.cmp .lss nI (A.oi 20736) = false -> n = 20736 := fun c => by have := Z7x hA c; rw [xoi hA] at this; have := v2.eq; omega
  refine Zi Z0 hA hS ?_;cbv;refine bm (fun c2 => ?_) (fun c2 => ?_)
  ·have hn : n < 20736 := hyes2 c2;obtain ⟨b, hb1, hb2⟩ := u3.is hn;have gN := Z18 hA v2 hb1;have iN : A.inb nI 20736 := Z4o hA v2 hn;have hfn := Zy hA v2 (by omega);have hv2 := Zz hA v2;have hms2 : 20736 - (n + 1) < 20736 - n := by omega
   have hn1 : n + 1 <= 20736 := hn;have hbn := Zla hSk n;have hqu : IsI (A.quo nI 1296) (n / 1296) := Zx6 hA v2 (show 0 < 1296 by decide);have hre : IsI (A.rem nI 1296) (n % 1296) := Zyi hA v2 (show 0 < 1296 by decide);have hnz : A.nz 1296 := by subst hA; show (1296 : Int) ≠ 0; decide
   have hfq : A.fits .i64 (A.quo nI 1296) := Z14 hA hqu.eq (by omega);cbv;refine ⟨iN, ⟨_, gN, ?_⟩⟩;cbv
   cases b with
   | true =>
    have hin : Z3o n ∈ S0 k := hb2.1 rfl;have hin2 : Z3o n ∈ Zay j (Zm ⟨kd0, qi, qb, qbs⟩) 0 k := by rw [hS0] at hin; exact hin
    have hs2 : (Z3o n).2 = A.quo nI 1296 := hqu.eq.symm;have hmv2 : ∀ LL, LL = (Z1z (n % 1296)).map I -> ∀ Q, (∀ d NX', MarkV NX' (fun s' => ∃ s, Z7o (S0 k) (n + 1) s /\ s' ∈ St s) -> Q (RA.ret d) [.els 1 BL, .els 1 NX']) -> CallA Try.prog 132 [.agg [I j.ins, .sl 1 FL, .sl 5 ML], .agg [I kd0, I qi, I qb, .sl 1 QB], .o 0 1 nb, .agg [I kd, I bn, I it, I lo, I hi], I (A.quo nI 1296), .sl 1 LL, .o 1 1 20736] [.els 1 BL, .els 1 NX] Q := fun LL hLL Q h => by
     rw [<- hs2];refine hmv (Z3o n) hin2 LL hLL NX _ v3 Q fun d NX' hd => h d NX' (hd.congr fun s' => ?_);constructor
     ·rintro (⟨s, h1, h2⟩ | h1)
      ·exact ⟨s, (hbn s).2 (.inl h1), h2⟩
      ·exact ⟨_, (hbn _).2 (.inr ⟨hin, rfl⟩), h1⟩
     ·rintro ⟨s, h1, h2⟩;rcases (hbn s).1 h1 with h1 | ⟨h1, rfl⟩
      ·exact .inl ⟨s, h1, h2⟩
      ·exact .inr h2
    cbv;refine Z16 Z0 hA hS [0, 1, 2, 3, 4, 5, 6, 7, 9, 8, 10] rfl rfl fun Dk hD => ?_;cbv;refine ⟨hnz, hfq, hnz, ?_⟩;refine Zq hA hD [I (A.rem nI 1296)] [] [] rfl rfl rfl rfl rfl rfl rfl rfl rfl rfl rfl (by decide) trivial (Zhs (A.rem nI 1296) (n % 1296) hre (Nat.mod_lt _ (by decide)) _ fun LL hLL => ⟨by cbv; repeat' (first | exact trivial | exact rfl | refine ⟨?_, ?_⟩), Zx Z0 hA hD ?_⟩);cbv;refine Zq hA hD [.agg [I j.ins, .sl 1 FL, .sl 5 ML], .agg [I kd0, I qi, I qb, .sl 1 QB], .o 0 1 nb, .agg [I kd, I bn, I it, I lo, I hi], I (A.quo nI 1296), .sl 1 LL, .o 1 1 20736] [3, 5] [.els 1 BL, .els 1 NX] rfl rfl rfl rfl rfl rfl rfl rfl rfl rfl rfl (by decide) ⟨rfl, rfl, trivial⟩ (hmv2 LL hLL _ fun d NX' hd => ⟨by cbv; repeat' (first | exact trivial | exact rfl | refine ⟨?_, ?_⟩), Zx Z0 hA hD ?_⟩);cbv;refine ⟨hfn, ?_⟩;refine Z8 (A.add nI 1, n + 1, NX') [0, 1, 2, 3, 4, 5] ⟨hn1, hv2, hd⟩ hms2 ?_;exact ⟨by decide, Z9, ⟨rfl, rfl, rfl, rfl, rfl, rfl, trivial⟩, ⟨rfl, rfl, rfl, rfl, rfl, rfl, rfl, rfl, trivial⟩, rfl, rfl⟩
   | false =>
    have hz : MarkV NX (fun s' => ∃ s, Z7o (S0 k) (n + 1) s /\ s' ∈ St s) := v3.congr fun s' => by
     refine exists_congr fun s => and_congr_left fun _ => ?_;rw [hbn s];exact ⟨.inl, fun h => h.elim id fun g => Bool.noConfusion (hb2.2 g.1)⟩
    cbv;refine ⟨hfn, ?_⟩;refine Z8 (A.add nI 1, n + 1, NX) [0, 1, 2, 3, 4, 5] ⟨hn1, hv2, hz⟩ hms2 ?_;exact ⟨by decide, Z9, ⟨rfl, rfl, rfl, rfl, rfl, rfl, trivial⟩, ⟨rfl, rfl, rfl, rfl, rfl, rfl, rfl, rfl, trivial⟩, rfl, rfl⟩
  ·have hn := hno2 c2;have hz : MarkV NX (fun s' => s' ∈ S0 (k + 1)) := v3.congr fun s' => by
    rw [hS1 s', hn];exact exists_congr fun s => and_congr_left fun _ => Zn2 hSk s
   have hk1 : k + 1 <= j.moves.length := hk;cbv;refine Z7 ?_;cbv;refine bm (fun c3 => ?_) (fun c3 => ?_)
   ·have e := xeq hA c3;rw [if_pos e] at hcs hbt;have hn2 : A.addN nb 1 = Z4e j (k + 1) := by rw [Z2e hA, hcs, u4]
    have hB2 : A.app BL [I bn] = (Z6 (j.moves.take (k + 1))).map I := by rw [Z33 hA, hbt, u5, List.map_append]; rfl
    cbv;refine ⟨Ze hA hBl, Ze hA rfl, Z27 hA hnb6 (by decide), hf1, ?_⟩;refine Z8 (A.add i 1, k + 1, NX, A.addN nb 1, A.app BL [I bn]) [0, 1, 5, 7] ⟨hk1, hu2, hz, hn2, hB2⟩ hms ?_;exact ⟨by decide, Z9, ⟨rfl, rfl, rfl, rfl, trivial⟩, ⟨rfl, rfl, rfl, rfl, rfl, trivial⟩, rfl, rfl⟩
   ·have e := Z2o hA c3;rw [if_neg e] at hcs hbt;have hn2 : nb = Z4e j (k + 1) := by rw [hcs, u4, Nat.add_zero]
    have hB2 : BL = (Z6 (j.moves.take (k + 1))).map I := by rw [hbt, u5]
    cbv;refine ⟨hf1, ?_⟩;refine Z8 (A.add i 1, k + 1, NX, nb, BL) [0, 1, 5, 3] ⟨hk1, hu2, hz, hn2, hB2⟩ hms ?_;exact ⟨by decide, Z9, ⟨rfl, rfl, rfl, rfl, trivial⟩, ⟨rfl, rfl, rfl, rfl, rfl, trivial⟩, rfl, rfl⟩
 ·have hk := hno c;have hz := hq NOW (u3.congr fun s => by rw [hS0]; simp only; rw [Zfx (by omega)]);cbv;refine Z7 ?_;cbv;refine Z1w [2] ?_;cbv;exact ⟨by cases NOW <;> exact hNl.symm, Z2 [] (by decide) Z9 (H' := []) (d' := .sl 1 NOW) trivial rfl (Z1 hz)⟩
end Go.Proofs.Ytecfpfhkicapeaa

namespace Go.Proofs.Ytecfpfhkicapeaa
open Go Go.Abs Go.Proofs Go.Batch
structure FndV (OL : List D) (T : Nat -> Prop) : Prop where
 ex : ∃ L : List Bool, OL = L.map Zv /\ L.length = 16 /\ ∀ m, m < 16 -> (L[m]? = some true ↔ T m)
theorem FndV.len {OL T} (h : FndV OL T) : OL.length = 16 := by
 obtain ⟨L, rfl, h2, -⟩ := h.ex;rw [List.length_map, h2]
theorem FndV.is {OL T} (h : FndV OL T) {m : Nat} (hm : m < 16) : ∃ b, OL[m]? = some (.v (.bool b)) /\ (b = true ↔ T m) := by
 obtain ⟨L, rfl, h2, h3⟩ := h.ex;refine ⟨L[m], ?_, ?_⟩
 ·rw [List.getElem?_map, List.getElem?_eq_getElem (by omega)]; rfl
 ·rw [<- h3 m hm, List.getElem?_eq_getElem (by omega)];exact ⟨fun h => by rw [h], fun h => Option.some.inj h⟩
theorem FndV.congr {OL} {T U : Nat -> Prop} (h : FndV OL T) (e : ∀ x, x < 16 -> (T x ↔ U x)) : FndV OL U := by
 obtain ⟨L, hL, h2, h3⟩ := h.ex;exact ⟨L, hL, h2, fun m hm => (h3 m hm).trans (e m hm)⟩
theorem FndV.set {OL T} (h : FndV OL T) {m : Nat} (b : Bool) : FndV (OL.set m (.v (.bool b))) fun x => if x = m then b = true else T x := by
 obtain ⟨L, rfl, h2, h3⟩ := h.ex;refine ⟨L.set m b, by rw [List.map_set]; rfl, by rw [List.length_set]; exact h2, fun x hx => ?_⟩;rw [List.getElem?_set]
 by_cases e : m = x
 ·subst e;rw [if_pos rfl, if_pos rfl, if_pos (by omega)];exact ⟨fun h => Option.some.inj h, fun h => by rw [h]⟩
 ·rw [if_neg e, if_neg fun g => e g.symm];exact h3 x hx
theorem Zvy : FndV ((List.replicate 16 false).map Zv) fun _ => False := ⟨_, rfl, List.length_replicate, fun m hm => by
 rw [List.getElem?_replicate, if_pos hm]; simp⟩
theorem Zvz {A : Ar} (hA : A = ar) {OL : List D} (h : OL = (List.replicate 16 false).map Zv) : A.rep (A.tn 16) (.v (.bool false)) = OL := by
 subst hA;rw [h, List.map_replicate]; rfl
def Zhw (S : List (Ste Int)) (n m : Nat) : Prop := ∃ i, i < n /\ i / 1296 = m /\ Z3o i ∈ S
theorem Zw0 (S : List (Ste Int)) (m : Nat) : ¬ Zhw S 0 m := fun ⟨_, h, _⟩ => absurd h (Nat.not_lt_zero _)
theorem Znj (S : List (Ste Int)) (n m : Nat) : Zhw S (n + 1) m ↔ Zhw S n m ∨ n / 1296 = m /\ Z3o n ∈ S := by
 constructor
 ·rintro ⟨i, h1, h2, h3⟩
  by_cases e : i = n
  ·subst e; exact .inr ⟨h2, h3⟩
  ·exact .inl ⟨i, by omega, h2, h3⟩
 ·rintro (⟨i, h1, h2, h3⟩ | ⟨h2, h3⟩)
  ·exact ⟨i, by omega, h2, h3⟩
  ·exact ⟨n, by omega, h2, h3⟩
theorem Zqq {S : List (Ste Int)} (hs : ∀ s ∈ S, LOk s.1 /\ 0 <= s.2 /\ s.2 <= 15) (m : Nat) : Zhw S 20736 m ↔ ∃ s ∈ S, s.2 = (m : Int) := by
 constructor
 ·rintro ⟨i, -, h2, h3⟩;exact ⟨_, h3, by unfold Z3o; simp only; rw [h2]⟩
 ·rintro ⟨s, h1, h2⟩;obtain ⟨h3, h4, h5⟩ := hs s h1;refine ⟨Z1i s, Z4x h3 h4 h5, ?_, by rw [Z57 h3 h4]; exact h1⟩;have hlt := Z9x h3;unfold Z1i;rw [h2];omega
set_option maxRecDepth 40000 in
set_option maxHeartbeats 16000000 in
theorem Zg6 (j : Jn) (hj : JOk j) (q : Go.Batch.Ask) (hqb : q.batches.length <= 1000000) (FL ML QB : List D) (hF : FL = j.first.map Zv) (hM : ML = j.moves.map mvD) (hQB : QB = q.batches.map I) (Q) (hq : ∀ OL, FndV OL (fun m => ∃ s ∈ Zd j (Zm q) 0, s.2 = (m : Int)) -> Q (RA.ret (.sl 1 OL)) []) :
  CallA Try.prog 100 [.agg [I j.ins, .sl 1 FL, .sl 5 ML], Zcy q QB] [] Q := by
 obtain ⟨A, hA⟩ : ∃ A, A = ar := ⟨_, rfl⟩;have htn : A.tn 16 = 16 := by subst hA; rfl
 have hnn : A.nneg 16 := by subst hA; show (0 : Int) <= 16; decide
 have hrm : A.room (A.tn 16) 1 := by rw [htn]; subst hA; exact ⟨by show 16 * 1 <= 140737488355328; omega, by show 16 <= 4611686018427387904; omega⟩
 obtain ⟨O0, hO0⟩ : ∃ O0, O0 = (List.replicate 16 false).map Zv := ⟨_, rfl⟩;have hV0 : FndV O0 fun _ => False := by rw [hO0]; exact Zvy
 have hrep := Zvz hA hO0;obtain ⟨S0, hS0⟩ : ∃ S0 : List (Ste Int), S0 = Zd j (Zm q) 0 := ⟨_, rfl⟩;have hSok : ∀ s ∈ S0, LOk s.1 /\ 0 <= s.2 /\ s.2 <= 15 := fun s h => by
  rw [hS0, <- Zfx (k := j.moves.length) (Nat.le_refl _)] at h;have := Zfz hj q _ s h;exact ⟨this.l, this.n0, this.n15⟩
 have hfol := fun Q h => Zp0 j hj q hqb FL ML QB hF hM hQB Q h;rw [<- hS0] at hq hfol;obtain ⟨kd0, qi, qb, qbs⟩ := q;unfold Zcy at hfol ⊢;dsimp only at hqb hQB hfol ⊢;refine Z5 Z0 hA Try.func100 rfl rfl rfl rfl rfl fun S hS => ?_;cbv;refine ⟨hnn, hrm, ?_⟩;refine Z4 hS [.agg [I j.ins, .sl 1 FL, .sl 5 ML], .agg [I kd0, I qi, I qb, .sl 1 QB]] [] [] rfl rfl rfl rfl rfl rfl rfl rfl (by decide) trivial (hfol _ fun NX hNX => ?_);have hNl : NX.length = 20736 := hNX.len;refine Z3 Z0 hA hS ?_;cbv;refine Zb hS ?_;refine Za (α := Int × Nat × List D) (fun z => { env := [(5, .o 2 1 16), (6, .sl 1 NX), (7, I z.1)], H := [.box (.agg [I j.ins, .sl 1 FL, .sl 5 ML]), .box (.agg [I kd0, I qi, I qb, .sl 1 QB]), .els 1 z.2.2], nt := 34, dfs := [] })
  (fun z => 20736 - z.2.1) (fun z => z.2.1 <= 20736 /\ IsI z.1 z.2.1 /\ FndV z.2.2 (Zhw S0 z.2.1)) (0, 0, O0) ⟨Nat.zero_le _, ⟨rfl⟩, hV0.congr fun m _ => ⟨fun h => h.elim, fun h => absurd h (Zw0 S0 m)⟩⟩ ?_ ?_
 ·refine Z39 2 rfl hrep ?_;exact Zf [0, 1, 2] ⟨by decide, Z9, ⟨rfl, rfl, rfl, trivial⟩, ⟨congrArg (fun k => some (D.o 2 1 k)) htn, rfl, rfl, trivial⟩, rfl, rfl⟩
 rintro ⟨i, n, OL⟩ ⟨u1, u2, u3⟩;dsimp only at u1 u2 u3;have hyes : A.cmp .lss i (A.oi (A.len NX)) = true -> n < 20736 := fun c => Z31 hA hNl u2 c;have hno : A.cmp .lss i (A.oi (A.len NX)) = false -> n = 20736 := fun c => by have := Z21 hA hNl u2 c; omega
 refine Zi Z0 hA hS ?_;cbv;refine bm (fun c => ?_) (fun c => ?_)
 ·have hn : n < 20736 := hyes c;obtain ⟨b, hb1, hb2⟩ := hNX.is hn;have hm : n / 1296 < 16 := by omega
  obtain ⟨o, ho1, ho2⟩ := u3.is hm;have hqu : IsI (A.quo i 1296) (n / 1296) := Zx6 hA u2 (show 0 < 1296 by decide);have hnz : A.nz 1296 := by subst hA; show (1296 : Int) ≠ 0; decide
  have hfq : A.fits .i64 (A.quo i 1296) := Z14 hA hqu.eq (by omega);have gO := Z18 hA hqu ho1;have iO : A.inb (A.quo i 1296) 16 := Z4o hA hqu hm;have gN := Z18 hA u2 hb1;have iN := Z1b hA hNl u2 hn;have hf1 := Zy hA u2 (by omega);have hu2 := Zz hA u2;have hms : 20736 - (n + 1) < 20736 - n := by omega
  have hn1 : n + 1 <= 20736 := hn;have hset : ∀ x : Bool, A.set OL (A.tn (A.quo i 1296)) (.v (.bool x)) = OL.set (n / 1296) (.v (.bool x)) := fun x => Z7n hA hqu rfl;have hz : ∀ x : Bool, x = (o || b) -> FndV (A.set OL (A.tn (A.quo i 1296)) (.v (.bool x))) (Zhw S0 (n + 1)) := fun x e => by
   rw [hset];refine (u3.set x).congr fun m hm => ?_;rw [Znj]
   by_cases em : m = n / 1296
   ·rw [if_pos em, e, Bool.or_eq_true, ho2, hb2, em];exact ⟨fun h => h.elim .inl fun h => .inr ⟨rfl, h⟩, fun h => h.elim .inl fun h => .inr h.2⟩
   ·rw [if_neg em];exact ⟨.inl, fun h => h.elim id fun g => absurd g.1.symm em⟩
  cases o with
  | true =>
   have hz1 := hz true rfl;cbv;refine ⟨hnz, hfq, hnz, hfq, iO, ⟨_, gO, ?_⟩⟩;cbv;refine ⟨iO, ⟨_, gO, ?_⟩⟩;cbv;refine ⟨hf1, ?_⟩;refine Z8 (A.add i 1, n + 1, A.set OL (A.tn (A.quo i 1296)) (.v (.bool true))) [0, 1, 2] ⟨hn1, hu2, hz1⟩ hms ?_;exact ⟨by decide, Z9, ⟨rfl, rfl, rfl, trivial⟩, ⟨rfl, rfl, rfl, trivial⟩, rfl, rfl⟩
  | false =>
   have hz1 := hz b rfl;cbv;refine ⟨hnz, hfq, hnz, hfq, iO, ⟨_, gO, ?_⟩⟩;cbv;refine ⟨iN, ⟨_, gN, ?_⟩⟩;cbv;refine ⟨iO, ⟨_, gO, ?_⟩⟩;cbv;refine ⟨hf1, ?_⟩;refine Z8 (A.add i 1, n + 1, A.set OL (A.tn (A.quo i 1296)) (.v (.bool b))) [0, 1, 2] ⟨hn1, hu2, hz1⟩ hms ?_;exact ⟨by decide, Z9, ⟨rfl, rfl, rfl, trivial⟩, ⟨rfl, rfl, rfl, trivial⟩, rfl, rfl⟩
 ·have hn := hno c;have hOl : OL.length = 16 := u3.len;have hz := hq OL (u3.congr fun m _ => by rw [hn]; exact Zqq hSok m);cbv;refine Z7 ?_;cbv;refine Z1w [2] ?_;cbv;exact ⟨by cases OL <;> exact hOl.symm, Z2 [] (by decide) Z9 (H' := []) (d' := .sl 1 OL) trivial rfl (Z1 hz)⟩
theorem Ztl {q : Go.Batch.Ask} (hq : q.kind = 4) : Zm q = fun x _ _ _ => x := by
 funext x i b n
 unfold Zm;rw [if_neg (by omega), if_neg (by omega), if_neg (by omega)]
theorem Zqr (l : List (Int × Nat × Int)) (x : Int) : Zt (fun x _ _ _ => x) x l = x := by
 induction l with
 | nil => rfl
 | cons p l ih => exact ih
theorem Zlb {j : Jn} {q : Go.Batch.Ask} (hq : q.kind = 4) : Zd j (Zm q) 0 = Zd j Zn 0 := by
 rw [Z1n (Zm q), Z1n Zn];refine List.map_congr_left fun s _ => ?_
 congr 1
 rw [Ztl hq, Zqr];have : ∀ (l : List (Int × Nat × Int)) , Zt Zn 0 l = 0 := fun l => by
  induction l with
  | nil => rfl
  | cons p l ih => exact ih
 exact (this _).symm
theorem Zg7 {j : Jn} : ∀ s ∈ Zd j Zn 0, s.2 = 0 := fun s h => by
 rw [Z1n Zn] at h;obtain ⟨x, -, rfl⟩ := List.mem_map.1 h;have : ∀ (l : List (Int × Nat × Int)) , Zt Zn 0 l = 0 := fun l => by
  induction l with
  | nil => rfl
  | cons p l ih => exact ih
 exact this _
set_option maxRecDepth 20000 in
set_option maxHeartbeats 4000000 in
theorem Za4 (j : Jn) (hj : JOk j) (FL ML : List D) (hF : FL = j.first.map Zv) (hM : ML = j.moves.map mvD) (b : Bool) (hb : b = Zc j) (Q) (hq : Q (RA.ret (.v (.bool b))) []) :
  CallA Try.prog 84 [.agg [I j.ins, .sl 1 FL, .sl 5 ML]] [] Q := by
 obtain ⟨A, hA⟩ : ∃ A, A = ar := ⟨_, rfl⟩;refine Z5 Z0 hA Try.func84 rfl rfl rfl rfl rfl fun S hS => ?_;cbv;refine Z4 hS [.agg [I j.ins, .sl 1 FL, .sl 5 ML], .agg [I 4, I 0, I 0, .v (.slice none 0 0)]] [] [] rfl rfl rfl rfl rfl rfl rfl rfl (by decide) trivial (Z4z (as' := [.agg [I j.ins, .sl 1 FL, .sl 5 ML], Zcy ⟨4, 0, 0, []⟩ []]) ⟨.rfl, WkD.agg ⟨.rfl, .rfl, .rfl, WkD.nil, trivial⟩, trivial⟩ (Zg6 j hj ⟨4, 0, 0, []⟩ (by decide) FL ML [] hF hM rfl _ fun OL hOL => ?_));obtain ⟨o, ho1, ho2⟩ := hOL.is (m := 0) (by decide);have hob : o = b := by
  rw [hb];refine Bool.eq_iff_iff.2 (ho2.trans ?_);rw [Zlb rfl, Z28 j Zn];constructor
  ·rintro ⟨s, h, -⟩ e;rw [e] at h;exact absurd h List.not_mem_nil
  ·intro h;obtain ⟨s, l, e⟩ := List.exists_cons_of_ne_nil h;have hs : s ∈ Zd j Zn 0 := by rw [e]; exact List.mem_cons_self
   exact ⟨s, hs, Zg7 s hs⟩
 rw [hob] at ho1;have hOl : OL.length = 16 := hOL.len;have hi0 : IsI (0 : Int) 0 := ⟨rfl⟩;have gO := Z18 hA hi0 ho1;have iO := Z1b hA hOl hi0 (by decide);refine Z3 Z0 hA hS ?_;cbv;refine ⟨iO, ⟨_, gO, ?_⟩⟩;cbv;exact Z2 [] (by decide) Z9 (H' := []) (d' := .v (.bool b)) trivial rfl (Z1 hq)
end Go.Proofs.Ytecfpfhkicapeaa

namespace Go.Proofs.Ytecfpfhkicapeaa
open Go Go.Abs Go.Proofs Go.Batch
theorem Zd0 {A : Ar} (hA : A = ar) (x y : Int) : A.cmp .eql x y = decide (x = y) /\ A.cmp .neq x y = !decide (x = y) := by
 subst hA; refine ⟨?_, ?_⟩
 ·refine Bool.eq_iff_iff.2 ?_; simp [ar, Z25]
 ·refine Bool.eq_iff_iff.2 ?_; simp [ar, Z25]
set_option maxRecDepth 20000 in
set_option maxHeartbeats 4000000 in
theorem Znk (j : Jn) (hi : 1 <= j.ins /\ j.ins <= 4) (hf : j.first.length <= 1152921504606846976) (m : Mv) (FL ML : List D) (hF : FL = j.first.map Zv) (c : Int) (n : Int) (hn : n = if Z2q j m ≠ 0 then Z2q j m else if m.kind = 1 /\ c = 4 then 6 else 0) (Q) (hq : Q (RA.ret (I n)) []) :
  CallA Try.prog 106 [.agg [I j.ins, .sl 1 FL, .sl 5 ML], .agg [I m.kind, I m.bin, I m.inst, I m.lo, I m.hi], I c] [] Q := by
 obtain ⟨A, hA⟩ : ∃ A, A = ar := ⟨_, rfl⟩;have hnt : A.bnot true = false := by subst hA; rfl
 have hnf : A.bnot false = true := by subst hA; rfl
 have hFl : FL.length = j.first.length := by rw [hF]; simp
 obtain ⟨kd, bn, it, lo, hi'⟩ := m;obtain ⟨b1, hb1⟩ : ∃ x, x = decide (1 <= kd /\ kd <= 3) := ⟨_, rfl⟩;obtain ⟨b2, hb2⟩ : ∃ x, x = decide (0 <= bn /\ bn <= (j.first.length : Int) - 1) := ⟨_, rfl⟩;have hb2' : b2 = decide (0 <= bn /\ bn <= A.sub (A.oi (A.len FL)) 1) := by rw [Z24 hA, Z5a hA hFl]; exact hb2
 obtain ⟨b3, hb3⟩ : ∃ x, x = decide (-1 <= it /\ it <= j.ins - 1) := ⟨_, rfl⟩;have hb3' : b3 = decide (-1 <= it /\ it <= A.sub j.ins 1) := by rw [Z24 hA]; exact hb3
 obtain ⟨b4, hb4⟩ : ∃ x, x = decide (0 <= lo /\ lo <= 5) := ⟨_, rfl⟩;obtain ⟨b5, hb5⟩ : ∃ x, x = decide (0 <= hi' /\ hi' <= 5) := ⟨_, rfl⟩;have f1 : A.fits .i64 (A.sub (A.oi (A.len FL)) 1) := Z14 hA (by rw [Z24 hA, Z5a hA hFl]) (by omega);have f2 : A.fits .i64 (A.sub j.ins 1) := Z14 hA (Z24 hA j.ins 1) (by omega);obtain ⟨v, hv⟩ : ∃ v, v = Z2q j ⟨kd, bn, it, lo, hi'⟩ := ⟨_, rfl⟩;rw [<- hv] at hn;simp only [Z2q] at hv;dsimp only at hn;have v1 : b1 = false -> n = 8 := fun h => by
  rw [h] at hb1;have h1 := of_decide_eq_false hb1.symm;rw [if_pos h1] at hv; rw [hn, hv, if_pos (by decide)]
 have v2 : b1 = true -> b2 = false -> n = 3 := fun h h' => by
  rw [h] at hb1; rw [h'] at hb2;have h1 := of_decide_eq_true hb1.symm;have h2 := of_decide_eq_false hb2.symm;rw [if_neg (fun g => g h1), if_pos h2] at hv; rw [hn, hv, if_pos (by decide)]
 have v3 : b1 = true -> b2 = true -> kd = 2 -> b3 = false -> n = 3 := fun h h' k h'' => by
  rw [h] at hb1; rw [h'] at hb2; rw [h''] at hb3;have h1 := of_decide_eq_true hb1.symm;have h2 := of_decide_eq_true hb2.symm;have h3 := of_decide_eq_false hb3.symm;rw [if_neg (fun g => g h1), if_neg (fun g => g h2), if_pos ⟨k, h3⟩] at hv; rw [hn, hv, if_pos (by decide)]
 have v4 : b1 = true -> b2 = true -> kd ≠ 2 -> it ≠ 0 -> n = 1 := fun h h' k h'' => by
  rw [h] at hb1; rw [h'] at hb2;have h1 := of_decide_eq_true hb1.symm;have h2 := of_decide_eq_true hb2.symm;rw [if_neg (fun g => g h1), if_neg (fun g => g h2), if_neg (fun g => k g.1), if_pos ⟨k, h''⟩] at hv; rw [hn, hv, if_pos (by decide)]
 have v5 : b1 = true -> b2 = true -> (kd = 2 /\ b3 = true ∨ kd ≠ 2 /\ it = 0) -> n = if b4 = false ∨ b5 = false then 1 else if hi' < lo then 5 else if kd = 1 /\ c = 4 then 6 else 0 := fun h h' k => by
  rw [h] at hb1; rw [h'] at hb2;have h1 := of_decide_eq_true hb1.symm;have h2 := of_decide_eq_true hb2.symm;have e3 : ¬ (kd = 2 /\ ¬ (-1 <= it /\ it <= j.ins - 1)) := fun g => by
   rcases k with k | k
   ·rw [k.2] at hb3; exact g.2 (of_decide_eq_true hb3.symm)
   ·exact k.1 g.1
  have e4 : ¬ (kd ≠ 2 /\ it ≠ 0) := fun g => by
   rcases k with k | k
   ·exact g.1 k.1
   ·exact g.2 k.2
  have e5 : (¬ (0 <= lo /\ lo <= 5) ∨ ¬ (0 <= hi' /\ hi' <= 5)) ↔ (b4 = false ∨ b5 = false) := by rw [hb4, hb5, decide_eq_false_iff_not, decide_eq_false_iff_not]
  rw [if_neg (fun g => g h1), if_neg (fun g => g h2), if_neg e3, if_neg e4] at hv
  by_cases g : b4 = false ∨ b5 = false
  ·rw [if_pos (e5.2 g)] at hv; rw [hn, hv, if_pos g, if_pos (by decide)]
  ·rw [if_neg (fun x => g (e5.1 x))] at hv; rw [hn, if_neg g]
   by_cases g' : hi' < lo
   ·rw [if_pos g'] at hv; rw [hv, if_pos g', if_pos (by decide)]
   ·rw [if_neg g'] at hv; rw [hv, if_neg g', if_neg (fun x => x rfl)]
 clear hn hv;have kc2 := (Zd0 hA kd 2);have kc1 := (Zd0 hA kd 1);dsimp only;refine Z5 Z0 hA Try.func106 rfl rfl rfl rfl rfl fun S hS => ?_;cbv;refine Z4 hS [I kd, I 1, I 3] [] [] rfl rfl rfl rfl rfl rfl rfl rfl (by decide) trivial (Z6f _ _ _ b1 hb1 _ ?_);refine Z3 Z0 hA hS ?_
 cases b1 with
 | false =>
  rw [v1 rfl] at hq;cbv;refine bmT hnf ?_;cbv;exact Z2 [] (by decide) Z9 (H' := []) (d' := I 8) trivial rfl (Z1 hq)
 | true =>
 cbv;refine bmF hnt ?_;cbv;refine ⟨f1, ?_⟩;refine Z4 hS [I bn, I 0, I (A.sub (A.oi (A.len FL)) 1)] [] [] rfl rfl rfl rfl rfl rfl rfl rfl (by decide) trivial (Z6f _ _ _ b2 hb2' _ ?_);refine Z3 Z0 hA hS ?_
 cases b2 with
 | false =>
  rw [v2 rfl rfl] at hq;cbv;refine bmT hnf ?_;cbv;exact Z2 [] (by decide) Z9 (H' := []) (d' := I 3) trivial rfl (Z1 hq)
 | true =>
 by_cases k2 : kd = 2
 ·have e2 : A.cmp .eql kd 2 = true := by rw [kc2.1, decide_eq_true k2]
  have n2 : A.cmp .neq kd 2 = false := by rw [kc2.2, decide_eq_true k2]; rfl
  have e1 : A.cmp .eql kd 1 = false := by rw [kc1.1, decide_eq_false (by omega)]
  cbv;refine bmF hnt ?_;cbv;refine bmT e2 ?_;cbv;refine ⟨f2, ?_⟩;refine Zg hS rfl rfl rfl rfl rfl rfl rfl rfl (fun _ => ⟨_, _, [I it, I (-1), I (A.sub j.ins 1)], [], [], rfl, rfl, rfl, by decide, trivial, Z6f _ _ _ b3 hb3' _ ?_⟩) (fun e => absurd rfl e);refine Z3 Z0 hA hS ?_
  cases b3 with
  | false =>
   rw [v3 rfl rfl k2 rfl] at hq;cbv;refine bmT hnf ?_;cbv;exact Z2 [] (by decide) Z9 (H' := []) (d' := I 3) trivial rfl (Z1 hq)
  | true =>
  have hn := v5 rfl rfl (.inl ⟨k2, rfl⟩);cbv;refine bmF hnt ?_;cbv;refine bmF n2 ?_;cbv;refine Zg hS rfl rfl rfl rfl rfl rfl rfl rfl (fun _ => ⟨_, _, [I lo, I 0, I 5], [], [], rfl, rfl, rfl, by decide, trivial, Z6f _ _ _ b4 hb4 _ ?_⟩) (fun e => absurd rfl e);refine Z3 Z0 hA hS ?_
  cases b4 with
  | false =>
   rw [hn, if_pos (.inl rfl)] at hq;cbv;refine bmT hnf ?_;cbv;refine Zg (f := 0) hS rfl rfl rfl rfl rfl rfl rfl rfl (fun e => Bool.noConfusion e) (fun _ => ?_);refine Z3 Z0 hA hS ?_;cbv;exact Z2 [] (by decide) Z9 (H' := []) (d' := I 1) trivial rfl (Z1 hq)
  | true =>
  cbv;refine bmF hnt ?_;cbv;refine Zg hS rfl rfl rfl rfl rfl rfl rfl rfl (fun _ => ⟨_, _, [I hi', I 0, I 5], [], [], rfl, rfl, rfl, by decide, trivial, Z6f _ _ _ b5 hb5 _ ?_⟩) (fun e => absurd rfl e);refine Z3 Z0 hA hS ?_
  cases b5 with
  | false =>
   rw [hn, if_pos (.inr rfl)] at hq;cbv;refine bmT hnf ?_;cbv;exact Z2 [] (by decide) Z9 (H' := []) (d' := I 1) trivial rfl (Z1 hq)
  | true =>
  rw [if_neg (fun h => h.elim Bool.noConfusion Bool.noConfusion)] at hn;cbv;refine bmF hnt ?_;cbv;refine bm (fun c7 => ?_) (fun c7 => ?_)
  ·have g7 := xgt hA c7;rw [hn, if_pos g7] at hq;cbv;exact Z2 [] (by decide) Z9 (H' := []) (d' := I 5) trivial rfl (Z1 hq)
  have g7 := Zax hA c7;rw [if_neg (by omega)] at hn;rw [if_neg (by omega)] at hn;rw [hn] at hq;cbv;refine bmF e1 ?_;cbv;exact Z2 [] (by decide) Z9 (H' := []) (d' := I 0) trivial rfl (Z1 hq)
 ·have e2 : A.cmp .eql kd 2 = false := by rw [kc2.1, decide_eq_false k2]
  have n2 : A.cmp .neq kd 2 = true := by rw [kc2.2, decide_eq_false k2]; rfl
  cbv;refine bmF hnt ?_;cbv;refine bmF e2 ?_;cbv;refine Zg (f := 0) hS rfl rfl rfl rfl rfl rfl rfl rfl (fun e => Bool.noConfusion e) (fun _ => ?_);refine Z3 Z0 hA hS ?_;cbv;refine bmT n2 ?_;cbv
  by_cases k3 : it = 0
  ·have n3 : A.cmp .neq it 0 = false := by rw [(Zd0 hA it 0).2, decide_eq_true k3]; rfl
   have hn := v5 rfl rfl (.inr ⟨k2, k3⟩);refine bmF n3 ?_;cbv;refine Zg hS rfl rfl rfl rfl rfl rfl rfl rfl (fun _ => ⟨_, _, [I lo, I 0, I 5], [], [], rfl, rfl, rfl, by decide, trivial, Z6f _ _ _ b4 hb4 _ ?_⟩) (fun e => absurd rfl e);refine Z3 Z0 hA hS ?_
   cases b4 with
   | false =>
    rw [hn, if_pos (.inl rfl)] at hq;cbv;refine bmT hnf ?_;cbv;refine Zg (f := 0) hS rfl rfl rfl rfl rfl rfl rfl rfl (fun e => Bool.noConfusion e) (fun _ => ?_);refine Z3 Z0 hA hS ?_;cbv;exact Z2 [] (by decide) Z9 (H' := []) (d' := I 1) trivial rfl (Z1 hq)
   | true =>
   cbv;refine bmF hnt ?_;cbv;refine Zg hS rfl rfl rfl rfl rfl rfl rfl rfl (fun _ => ⟨_, _, [I hi', I 0, I 5], [], [], rfl, rfl, rfl, by decide, trivial, Z6f _ _ _ b5 hb5 _ ?_⟩) (fun e => absurd rfl e);refine Z3 Z0 hA hS ?_
   cases b5 with
   | false =>
    rw [hn, if_pos (.inr rfl)] at hq;cbv;refine bmT hnf ?_;cbv;exact Z2 [] (by decide) Z9 (H' := []) (d' := I 1) trivial rfl (Z1 hq)
   | true =>
   rw [if_neg (fun h => h.elim Bool.noConfusion Bool.noConfusion)] at hn;cbv;refine bmF hnt ?_;cbv;refine bm (fun c7 => ?_) (fun c7 => ?_)
   ·have g7 := xgt hA c7;rw [hn, if_pos g7] at hq;cbv;exact Z2 [] (by decide) Z9 (H' := []) (d' := I 5) trivial rfl (Z1 hq)
   have g7 := Zax hA c7;rw [if_neg (by omega)] at hn
   by_cases k1 : kd = 1
   ·have e1 : A.cmp .eql kd 1 = true := by rw [kc1.1, decide_eq_true k1]
    cbv;refine bmT e1 ?_;cbv;refine bm (fun c8 => ?_) (fun c8 => ?_)
    ·rw [hn, if_pos ⟨k1, xeq hA c8⟩] at hq;cbv;exact Z2 [] (by decide) Z9 (H' := []) (d' := I 6) trivial rfl (Z1 hq)
    ·rw [hn, if_neg (fun h => Z2o hA c8 h.2)] at hq;cbv;exact Z2 [] (by decide) Z9 (H' := []) (d' := I 0) trivial rfl (Z1 hq)
   ·have e1 : A.cmp .eql kd 1 = false := by rw [kc1.1, decide_eq_false k1]
    rw [hn, if_neg (fun h => k1 h.1)] at hq;cbv;refine bmF e1 ?_;cbv;exact Z2 [] (by decide) Z9 (H' := []) (d' := I 0) trivial rfl (Z1 hq)
  ·have n3 : A.cmp .neq it 0 = true := by rw [(Zd0 hA it 0).2, decide_eq_false k3]; rfl
   rw [v4 rfl rfl k2 k3] at hq;refine bmT n3 ?_;cbv;refine Zg (f := 0) hS rfl rfl rfl rfl rfl rfl rfl rfl (fun e => Bool.noConfusion e) (fun _ => ?_);refine Z3 Z0 hA hS ?_;cbv;refine Zg (f := 0) hS rfl rfl rfl rfl rfl rfl rfl rfl (fun e => Bool.noConfusion e) (fun _ => ?_);refine Z3 Z0 hA hS ?_;cbv;exact Z2 [] (by decide) Z9 (H' := []) (d' := I 1) trivial rfl (Z1 hq)
set_option maxRecDepth 20000 in
set_option maxHeartbeats 4000000 in
theorem Zdo (j : Jn) (hf : j.first.length <= 1152921504606846976) (hm : j.moves.length <= 1152921504606846976) (FL ML : List D) (hF : FL = j.first.map Zv) (hM : ML = j.moves.map mvD) (n : Int) (hn : n = Zr j) (Q) (hq : Q (RA.ret (I n)) []) :
  CallA Try.prog 50 [.agg [I j.ins, .sl 1 FL, .sl 5 ML]] [] Q := by
 obtain ⟨A, hA⟩ : ∃ A, A = ar := ⟨_, rfl⟩;have hnt : A.bnot true = false := by subst hA; rfl
 have hnf : A.bnot false = true := by subst hA; rfl
 have hFl : FL.length = j.first.length := by rw [hF]; simp
 have hMl : ML.length = j.moves.length := by rw [hM]; simp
 obtain ⟨b1, hb1⟩ : ∃ x, x = decide (1 <= j.ins /\ j.ins <= 4) := ⟨_, rfl⟩;unfold Zr at hn;refine Z5 Z0 hA Try.func50 rfl rfl rfl rfl rfl fun S hS => ?_;cbv;refine Z4 hS [I j.ins, I 1, I 4] [] [] rfl rfl rfl rfl rfl rfl rfl rfl (by decide) trivial (Z6f _ _ _ b1 hb1 _ ?_);refine Z3 Z0 hA hS ?_
 cases b1 with
 | false =>
  have h1 := of_decide_eq_false hb1.symm;rw [hn, if_pos h1] at hq;cbv;refine bmT hnf ?_;cbv;exact Z2 [] (by decide) Z9 (H' := []) (d' := I 1) trivial rfl (Z1 hq)
 | true =>
 have hi := of_decide_eq_true hb1.symm;rw [if_neg (fun h => h hi)] at hn;cbv;refine bmF hnt ?_;cbv;refine bm (fun c2 => ?_) (fun c2 => ?_)
 ·have hz : n = 7 := by rw [hn, if_pos]; have h : (j.first.length : Int) = 0 := Zy6 hA hFl c2; omega
  rw [hz] at hq;cbv;exact Z2 [] (by decide) Z9 (H' := []) (d' := I 7) trivial rfl (Z1 hq)
 rw [if_neg (by have h : (j.first.length : Int) ≠ 0 := Zwe hA hFl c2; omega)] at hn;cbv;refine bm (fun c3 => ?_) (fun c3 => ?_)
 ·have hz : n = 6 := by rw [hn, if_pos]; have h : (2 : Int) < (j.first.length : Int) := Zvd hA hFl c3; omega
  rw [hz] at hq;cbv;exact Z2 [] (by decide) Z9 (H' := []) (d' := I 6) trivial rfl (Z1 hq)
 have g3 : (j.first.length : Int) <= 2 := Zhd hA hFl c3;cbv;refine bm (fun c4 => ?_) (fun c4 => ?_)
 ·have hz : n = 6 := by rw [hn, if_pos]; have h : (10 : Int) < (j.moves.length : Int) := Zvd hA hMl c4; omega
  rw [hz] at hq;cbv;exact Z2 [] (by decide) Z9 (H' := []) (d' := I 6) trivial rfl (Z1 hq)
 have g4 : (j.moves.length : Int) <= 10 := Zhd hA hMl c4;have g3' : (j.first.length : Int) <= 2 := g3;have hn0 : n = Z3b j (j.moves.drop 0) 0 := by rw [hn, if_neg (by omega)]; rfl
 cbv;refine Zb hS ?_;refine Za (α := Int × Nat × Int × Nat) (fun q => { env := [(1, .b 0 0), (3, I q.2.2.1), (4, I q.1)], H := [.box (.agg [I j.ins, .sl 1 FL, .sl 5 ML])], nt := 51, dfs := [] })
  (fun q => j.moves.length - q.2.1) (fun q => q.2.1 <= j.moves.length /\ IsI q.1 q.2.1 /\ IsI q.2.2.1 q.2.2.2 /\ q.2.2.2 <= 4 /\ n = Z3b j (j.moves.drop q.2.1) q.2.2.2) (0, 0, 0, 0) ⟨Nat.zero_le _, ⟨rfl⟩, ⟨rfl⟩, Nat.zero_le _, hn0⟩ ?_ ?_
 ·exact Zf [0] ⟨by decide, Z9, ⟨rfl, trivial⟩, ⟨rfl, rfl, rfl, trivial⟩, rfl, rfl⟩
 rintro ⟨i, k, bi, c⟩ ⟨u1, u2, u3, u4, u5⟩;dsimp only at u1 u2 u3 u4 u5;refine Zi Z0 hA hS ?_;cbv;refine bm (fun e => ?_) (fun e => ?_)
 ·have hk : k < j.moves.length := Z31 hA hMl u2 e;obtain ⟨m, hmk⟩ : ∃ m, j.moves[k]? = some m := ⟨_, List.getElem?_eq_getElem hk⟩;have hMk : ML[k]? = some (.agg [I m.kind, I m.bin, I m.inst, I m.lo, I m.hi]) := by rw [hM]; simp [hmk, mvD]
  rw [Zcs hmk] at u5;have hin := Z1b hA hMl u2 hk;have hg := Z18 hA u2 hMk;have hf1 := Zy hA u2 (by omega);have hu2 := Zz hA u2;have hb1f := Zy hA u3 (by omega);have hu3 := Zz hA u3;have hms : j.moves.length - (k + 1) < j.moves.length - k := by omega
  obtain ⟨e1, he1⟩ : ∃ e1, e1 = if Z2q j m ≠ 0 then Z2q j m else if m.kind = 1 /\ bi = 4 then 6 else 0 := ⟨_, rfl⟩
  have w1 : e1 ≠ 0 -> n = e1 := fun h => by
   rw [u5, he1]
   by_cases g : Z2q j m ≠ 0
   ·rw [if_pos g, if_pos g]
   ·rw [if_neg g, if_neg g];rw [he1, if_neg g] at h
    by_cases g2 : m.kind = 1 /\ bi = 4
    ·rw [if_pos g2, if_pos (by rw [if_pos g2.1]; have := u3.eq; omega)]
    ·rw [if_neg g2] at h; exact absurd rfl h
  have w0 : e1 = 0 -> n = Z3b j (j.moves.drop (k + 1)) (if m.kind = 1 then c + 1 else c) /\ (m.kind = 1 -> c + 1 <= 4) := fun h => by
   rw [he1] at h;have g : ¬ Z2q j m ≠ 0 := fun g => by rw [if_pos g] at h; exact g h
   rw [if_neg g] at h;have g2 : ¬ (m.kind = 1 /\ bi = 4) := fun g2 => by rw [if_pos g2] at h; exact absurd h (by decide)
   have e := u3.eq;have h5 : m.kind = 1 -> c + 1 <= 4 := fun hk => by
    by_cases g3 : bi = 4
    ·exact absurd ⟨hk, g3⟩ g2
    ·omega
   refine ⟨?_, h5⟩;rw [u5, if_neg g, if_neg]
   split
   ·rename_i hk1; have := h5 hk1; omega
   ·omega
  clear u5;have hw1 : A.cmp .neq e1 0 = true -> n = e1 := fun c => w1 (xne hA c);have hw0 : A.cmp .neq e1 0 = false -> e1 = 0 := fun c => by have := Z4t hA c; exact this
  have hk1 : k + 1 <= j.moves.length := hk;obtain ⟨kd, bn, it, lo, hi'⟩ := m;dsimp only at hg w0 he1;have hcm := fun Q h => Znk j hi hf ⟨kd, bn, it, lo, hi'⟩ FL ML hF bi e1 he1 Q h;dsimp only at hcm;have hx1 : kd = 1 -> n = Z3b j (j.moves.drop (k + 1)) (if kd = 1 then c + 1 else c) -> n = Z3b j (j.moves.drop (k + 1)) (c + 1) := fun h g => by rw [if_pos h] at g; exact g
  have hx0 : kd ≠ 1 -> n = Z3b j (j.moves.drop (k + 1)) (if kd = 1 then c + 1 else c) -> n = Z3b j (j.moves.drop (k + 1)) c := fun h g => by rw [if_neg h] at g; exact g
  cbv;refine Z16 Z0 hA hS [0, 1, 2, 3, 4, 5, 6, 7, 8] rfl rfl fun Dk hD => ?_;cbv;refine ⟨hin, ⟨_, hg, ?_⟩⟩;cbv;refine Zq hA hD [.agg [I j.ins, .sl 1 FL, .sl 5 ML], .agg [I kd, I bn, I it, I lo, I hi'], I bi] [] [] rfl rfl rfl rfl rfl rfl rfl rfl rfl rfl rfl (by decide) trivial (hcm _ ⟨by cbv; repeat' (first | exact trivial | exact ⟨_, hg, rfl⟩ | exact Need.mk ⟨_, hg, rfl⟩ | exact rfl | refine ⟨?_, ?_⟩), Zx Z0 hA hD ?_⟩);cbv;refine bm (fun c5 => ?_) (fun c5 => ?_)
  ·have hz := hw1 c5;rw [hz] at hq;cbv;refine Z7 ?_;cbv;exact Z2 [] (by decide) Z9 (H' := []) (d' := I e1) trivial rfl (Z1 hq)
  obtain ⟨hz, h5⟩ := w0 (hw0 c5);cbv;refine ⟨hin, ⟨_, hg, ?_⟩⟩;cbv;refine bm (fun c6 => ?_) (fun c6 => ?_)
  ·have e6 := xeq hA c6;have hz2 := hx1 e6 hz;have h55 := h5 e6;cbv;refine ⟨hb1f, hf1, ?_⟩;refine Z8 (A.add i 1, k + 1, A.add bi 1, c + 1) [0] ⟨hk1, hu2, hu3, h55, hz2⟩ hms ?_;exact ⟨by decide, Z9, ⟨rfl, trivial⟩, ⟨rfl, rfl, rfl, trivial⟩, rfl, rfl⟩
  ·have hz2 := hx0 (Z2o hA c6) hz;cbv;refine ⟨hf1, ?_⟩;refine Z8 (A.add i 1, k + 1, bi, c) [0] ⟨hk1, hu2, u3, u4, hz2⟩ hms ?_;exact ⟨by decide, Z9, ⟨rfl, trivial⟩, ⟨rfl, rfl, rfl, trivial⟩, rfl, rfl⟩
 ·have hk : j.moves.length <= k := Z21 hA hMl u2 e;have hz : n = 0 := by rw [u5, List.drop_eq_nil_of_le hk]; rfl
  rw [hz] at hq;cbv;refine Z7 ?_;cbv;exact Z2 [] (by decide) Z9 (H' := []) (d' := I 0) trivial rfl (Z1 hq)
def Za5 (j : Jn) : Int := if Zr j ≠ 0 then Zr j else if Zc j = true then 0 else 9
set_option maxRecDepth 20000 in
set_option maxHeartbeats 4000000 in
theorem Zw1 (j : Jn) (hf : j.first.length <= 1152921504606846976) (hm : j.moves.length <= 1152921504606846976) (FL ML : List D) (hF : FL = j.first.map Zv) (hM : ML = j.moves.map mvD) (n : Int) (hn : n = Za5 j) (Q) (hq : Q (RA.ret (I n)) []) :
  CallA Try.prog 96 [.agg [I j.ins, .sl 1 FL, .sl 5 ML]] [] Q := by
 obtain ⟨A, hA⟩ : ∃ A, A = ar := ⟨_, rfl⟩;have hnt : A.bnot true = false := by subst hA; rfl
 have hnf : A.bnot false = true := by subst hA; rfl
 obtain ⟨e, he⟩ : ∃ e, e = Zr j := ⟨_, rfl⟩;unfold Za5 at hn;rw [<- he] at hn;refine Z5 Z0 hA Try.func96 rfl rfl rfl rfl rfl fun S hS => ?_;cbv;refine Z4 hS [.agg [I j.ins, .sl 1 FL, .sl 5 ML]] [] [] rfl rfl rfl rfl rfl rfl rfl rfl (by decide) trivial (Zdo j hf hm FL ML hF hM e he _ ?_);refine Z3 Z0 hA hS ?_;cbv;refine bm (fun c => ?_) (fun c => ?_)
 ·rw [hn, if_pos (xne hA c)] at hq;cbv;exact Z2 [] (by decide) Z9 (H' := []) (d' := I e) trivial rfl (Z1 hq)
 have e0 : e = 0 := by have := Z4t hA c; exact this
 have hj : JOk j := Z2r (he.symm.trans e0);rw [if_neg (fun h => h e0)] at hn;obtain ⟨b, hb⟩ : ∃ b, b = Zc j := ⟨_, rfl⟩;rw [<- hb] at hn;cbv;refine Z4 hS [.agg [I j.ins, .sl 1 FL, .sl 5 ML]] [] [] rfl rfl rfl rfl rfl rfl rfl rfl (by decide) trivial (Za4 j hj FL ML hF hM b hb _ ?_);refine Z3 Z0 hA hS ?_
 cases b with
 | true =>
  rw [hn, if_pos rfl] at hq;cbv;refine bmF hnt ?_;cbv;exact Z2 [] (by decide) Z9 (H' := []) (d' := I 0) trivial rfl (Z1 hq)
 | false =>
  rw [hn, if_neg Bool.false_ne_true] at hq;cbv;refine bmT hnf ?_;cbv;exact Z2 [] (by decide) Z9 (H' := []) (d' := I 9) trivial rfl (Z1 hq)
end Go.Proofs.Ytecfpfhkicapeaa
