/- Part TxBK of the proofs about the benches of the accordion maker: see the last text of the claim for what is proved. -/
import Derived.Test.YthljpccegkmdnaaGreatDoorTxBJ
import Derived.Test.YthljpccegkmdnaaGreatDoorTxBG
set_option linter.unusedVariables false
set_option linter.unusedSimpArgs false
set_option linter.unnecessarySimpa false
set_option linter.constructorNameAsVariable false

namespace Go.Proofs.YthljpccegkmdnaaGreatDoor
open Go Go.Abs Go.Proofs Go.Batch Go.Txt
def Z1ht (kd : Int) : By := if kd = 1 then inW else if kd = 2 then outW else Z1h0
theorem Z1ia (kd : Int) : (kd = 1 /\ Z1ht kd = inW) ∨ (kd = 2 /\ Z1ht kd = outW) ∨ (kd ≠ 1 /\ kd ≠ 2 /\ Z1ht kd = Z1h0) := by
 unfold Z1ht
 by_cases a : kd = 1
 ·exact .inl ⟨a, if_pos a⟩
 by_cases b : kd = 2
 ·exact .inr (.inl ⟨b, by rw [if_neg a, if_pos b]⟩)
 ·exact .inr (.inr ⟨a, b, by rw [if_neg a, if_neg b]⟩)
theorem Z1j1 (kd : Int) : (Z1ht kd).length <= 5 := by
 rcases Z1ia kd with ⟨-, e⟩ | ⟨-, e⟩ | ⟨-, -, e⟩ <;> rw [e] <;> decide
set_option maxRecDepth 20000 in
set_option maxHeartbeats 8000000 in
theorem Z1jx (j : Jn) (hf : j.first.length <= 1152921504606846976) (hm : j.moves.length <= 1152921504606846976) (FL ML : List D) (hF : FL = j.first.map Zv) (hM : ML = j.moves.map mvD) (Q)
  (h1 : Zr j = 0 -> ∀ x, IsT x (Z1hr j) -> Q (RA.ret (.tup [.v (.string x), I 0])) []) (h2 : ∀ e, e = Zr j -> e ≠ 0 -> Q (RA.ret (.tup [tD [], I e])) []) :
  CallA Tryz.prog 44 [.agg [I j.ins, .sl 1 FL, .sl 5 ML]] [] Q := by
 obtain ⟨A, hA⟩ : ∃ A, A = ar := ⟨_, rfl⟩;obtain ⟨e0, he0⟩ : ∃ e, e = Zr j := ⟨_, rfl⟩;have qC := fun Q h => Zdo j hf hm FL ML hF hM e0 he0 Q h;have hh2 := h2 e0 he0;obtain ⟨ins, hins⟩ : ∃ ins, ins = j.ins := ⟨_, rfl⟩;rw [<- hins] at qC;rw [<- hins];refine Z38 Z0 hA [] Tryz.func44 rfl rfl rfl rfl rfl fun S hS => ?_;cbv;refine Z4 hS [.agg [I ins, .sl 1 FL, .sl 5 ML]] [] [] rfl rfl rfl rfl rfl rfl rfl rfl (by decide) trivial (qC _ ?_);refine Z3 Z0 hA hS ?_
 by_cases g0 : e0 = 0
 ·have c0 : A.cmp .neq e0 0 = false := by subst hA; simp [ar, Z25, g0]
  have hok : JOk j := Z2r (by rw [<- he0, g0]);have h1' := h1 (by rw [<- he0, g0]);clear h1 h2 hh2 qC he0 hf hm;obtain ⟨ti, hti⟩ : ∃ t, t = Lib.itoa ins := ⟨_, rfl⟩;have hi1 := hok.i1;have hi4 := hok.i4;have hf2 := hok.f2;have hm10 := hok.m10;have kI := fun Q h => Z1h3 ins ti hti (by omega) (by omega) Q h;have zi : SzB (bs ti) 3 := .lit _ (by rw [hti]; exact Z1h6 (by omega) (by omega));have zj : SzB (bs [106, 111, 117, 114, 110, 97, 108, 124]) 8 := .lit _ (Nat.le_refl _);have z1 : ∀ c, SzB (bs [c]) 1 := fun c => .lit _ (Nat.le_refl _);have oj := scO hA zj zi (by decide);have oj2 := scO hA (zj.cat hA zi) (z1 124) (by decide);have hx0 : IsT (A.scat (A.scat (bs [106, 111, 117, 114, 110, 97, 108, 124]) (bs ti)) (bs [124])) (Z1h1 ++ [124] ++ ti ++ [124]) := ((IsT.lit [106, 111, 117, 114, 110, 97, 108, 124]).cat hA (.lit ti)).cat hA (.lit [124]);have hFl : FL.length = j.first.length := by rw [hF, List.length_map]
  have hMl : ML.length = j.moves.length := by rw [hM, List.length_map]
  have hti3 : ti.length <= 3 := zi.le;cbv;refine bmF c0 ?_;cbv;refine Z4 hS [I ins] [] [] rfl rfl rfl rfl rfl rfl rfl rfl (by decide) trivial (kI _ ?_);refine Z3 Z0 hA hS ?_;cbv;refine ⟨oj, oj2, ?_⟩;refine Zb hS ?_;refine Za (α := Int × Nat × ByteArray) (fun q => { env := [(1, .b 0 0), (5, .v (.string q.2.2)), (6, I q.1)], H := [.box (.agg [I ins, .sl 1 FL, .sl 5 ML])], nt := 94, dfs := [] })
   (fun q => j.first.length - q.2.1) (fun q => q.2.1 <= j.first.length /\ IsI q.1 q.2.1 /\ IsT q.2.2 (Z1h1 ++ [124] ++ ti ++ [124] ++ Z1h5 (j.first.take q.2.1))) (0, 0, A.scat (A.scat (bs [106, 111, 117, 114, 110, 97, 108, 124]) (bs ti)) (bs [124])) ⟨Nat.zero_le _, ⟨rfl⟩, hx0.of (by simp [Z1h5])⟩ ?_ ?_
  ·exact Zf [0] ⟨by decide, Z9, ⟨rfl, trivial⟩, ⟨rfl, rfl, rfl, trivial⟩, rfl, rfl⟩
  rintro ⟨i, k, x⟩ ⟨u1, u2, u3⟩;dsimp only at u1 u2 u3;refine Z2w Z0 hA hS [] ?_;have zx : SzB x 50 := u3.sz (by rw [List.length_append, Z1hc, List.length_take]; simp [Z1h1]; omega)
  by_cases hk : k < j.first.length
  ·have d1 : A.cmp .lss i (A.oi (A.len FL)) = true := by rw [yoiL hA hFl, u2.eq]; subst hA; simp [ar, Z25]; omega
   obtain ⟨b, hb⟩ : ∃ b, j.first[k]? = some b := ⟨_, List.getElem?_eq_getElem hk⟩;have ii := Z1b hA hFl u2 hk;have gg : A.get FL (A.tn i) = some (.v (.bool b)) := Z18 hA u2 (by rw [hF, List.getElem?_map, hb]; rfl);have hf1 := Zy hA u2 (by omega);have hu2 := Zz hA u2;have hms : j.first.length - (k + 1) < j.first.length - k := by omega
   have ox := fun c => scO hA zx (z1 c) (by decide);have nx : IsT (A.scat x (bs [if b then 102 else 97])) (Z1h1 ++ [124] ++ ti ++ [124] ++ Z1h5 (j.first.take (k + 1))) := (u3.cat hA (.lit _)).of (by rw [List.take_add_one, hb]; simp [Z1h5])
   cases b with
   | true =>
    have nx : IsT (A.scat x (bs [102])) _ := nx;cbv;refine bmT d1 ?_;cbv;refine ⟨ii, Need.mk ⟨_, gg, ?_⟩⟩;cbv;refine ⟨ox 102, hf1, ?_⟩;refine Z8 (A.add i 1, k + 1, A.scat x (bs [102])) [0] ⟨hk, hu2, nx⟩ hms ?_;exact ⟨by decide, Z9, ⟨rfl, trivial⟩, ⟨rfl, rfl, rfl, trivial⟩, rfl, rfl⟩
   | false =>
    have nx : IsT (A.scat x (bs [97])) _ := nx;cbv;refine bmT d1 ?_;cbv;refine ⟨ii, Need.mk ⟨_, gg, ?_⟩⟩;cbv;refine ⟨ox 97, hf1, ?_⟩;refine Z8 (A.add i 1, k + 1, A.scat x (bs [97])) [0] ⟨hk, hu2, nx⟩ hms ?_;exact ⟨by decide, Z9, ⟨rfl, trivial⟩, ⟨rfl, rfl, rfl, trivial⟩, rfl, rfl⟩
  have d1 : A.cmp .lss i (A.oi (A.len FL)) = false := by rw [yoiL hA hFl, u2.eq]; subst hA; simp [ar, Z25]; omega
  rw [List.take_of_length_le (by omega)] at u3;have ox := scO hA zx (z1 10) (by decide);have hx1 : IsT (A.scat x (bs [10])) (Z1gt j) := (u3.cat hA (.lit [10])).of (by unfold Z1gt; rw [hti, hins]);have hhl := Z1hl hok;cbv;refine bmF d1 ?_;cbv;refine Z7 ?_;cbv;refine ⟨ox, ?_⟩;refine Zb hS ?_;clear u1 u2 u3 d1;refine Za (α := Int × Nat × ByteArray) (fun q => { env := [(1, .b 0 0), (5, .v (.string q.2.2)), (7, I q.1)], H := [.box (.agg [I ins, .sl 1 FL, .sl 5 ML])], nt := 94, dfs := [] })
   (fun q => j.moves.length - q.2.1) (fun q => q.2.1 <= j.moves.length /\ IsI q.1 q.2.1 /\ IsT q.2.2 (Z1gt j ++ (j.moves.take q.2.1).flatMap Z1gu)) (0, 0, A.scat x (bs [10])) ⟨Nat.zero_le _, ⟨rfl⟩, hx1.of (by simp)⟩ ?_ ?_
  ·exact Zf [0] ⟨by decide, Z9, ⟨rfl, trivial⟩, ⟨rfl, rfl, rfl, trivial⟩, rfl, rfl⟩
  rintro ⟨i, k, x⟩ ⟨u1, u2, u3⟩;dsimp only at u1 u2 u3;refine Z2w Z0 hA hS [21] ?_;have zx : SzB x 300 := u3.sz (by
   have := Z1hk (l := j.moves.take k) (fun m hm => Z1h8 hok (List.mem_of_mem_take hm))
   rw [List.length_append]; rw [List.length_take] at this; omega)
  by_cases hk : k < j.moves.length
  ·have d1 : A.cmp .lss i (A.oi (A.len ML)) = true := by rw [yoiL hA hMl, u2.eq]; subst hA; simp [ar, Z25]; omega
   obtain ⟨mv, hmv⟩ : ∃ b, j.moves[k]? = some b := ⟨_, List.getElem?_eq_getElem hk⟩;have hsm := Z1h8 hok (List.mem_of_getElem? hmv);have hmo := hok.mv mv (List.mem_of_getElem? hmv);have ii := Z1b hA hMl u2 hk;obtain ⟨kd, bi, it, lo, hi⟩ := mv;have gg : A.get ML (A.tn i) = some (.agg [I kd, I bi, I it, I lo, I hi]) := Z18 hA u2 (by rw [hM, List.getElem?_map, hmv]; rfl);have hf1 := Zy hA u2 (by omega);have hu2 := Zz hA u2;have hms : j.moves.length - (k + 1) < j.moves.length - k := by omega
   obtain ⟨s1, s2, s3, s4, s5, s6, s7⟩ := hsm;have m1 := hmo.k1;have m3 := hmo.k3;clear hmo;dsimp only at s1 s2 s3 s4 s5 s6 s7 m1 m3;obtain ⟨tb, htb⟩ : ∃ t, t = Lib.itoa bi := ⟨_, rfl⟩;have ktb := fun Q h => Z1h3 bi tb htb (by omega) (by omega) Q h;have ztb : SzB (bs tb) 3 := .lit _ (by rw [htb]; exact Z1h6 (by omega) (by omega));obtain ⟨tl, htl⟩ : ∃ t, t = Lib.itoa lo := ⟨_, rfl⟩;have ktl := fun Q h => Z1h3 lo tl htl (by omega) (by omega) Q h;have ztl : SzB (bs tl) 3 := .lit _ (by rw [htl]; exact Z1h6 (by omega) (by omega));obtain ⟨th, hth⟩ : ∃ t, t = Lib.itoa hi := ⟨_, rfl⟩;have kth := fun Q h => Z1h3 hi th hth (by omega) (by omega) Q h;have zth : SzB (bs th) 3 := .lit _ (by rw [hth]; exact Z1h6 (by omega) (by omega));have hnx : ∀ y, IsT y (Z1gt j ++ (j.moves.take k).flatMap Z1gu ++ (Z1gz ⟨kd, bi, it, lo, hi⟩ ++ ([124] ++ tl ++ [124] ++ th ++ [10]))) -> IsT y (Z1gt j ++ (j.moves.take (k + 1)).flatMap Z1gu) := fun y hy => hy.of (by rw [List.take_add_one, hmv]; simp [Z1gu, htl, hth]);obtain ⟨wd, hwd⟩ : ∃ wd, wd = Z1ht kd := ⟨_, rfl⟩;have kwd := fun Q h => Z1in kd wd (by rw [hwd]; exact Z1ia kd) Q h;have zwd : SzB (bs wd) 5 := .lit _ (by rw [hwd]; exact Z1j1 kd);have w1 := zx.cat hA zwd;have w2 := w1.cat hA (z1 124);have w3 := w2.cat hA ztb;have w4 := w3.cat hA (z1 124);have o1 := scO hA zx zwd (by decide);have o2 := scO hA w1 (z1 124) (by decide);have o3 := scO hA w2 ztb (by decide);have o4 := scO hA w3 (z1 124) (by decide);have n0 : IsT (A.scat (A.scat (A.scat (A.scat x (bs wd)) (bs [124])) (bs tb)) (bs [124])) (Z1gt j ++ (j.moves.take k).flatMap Z1gu ++ (wd ++ [124] ++ tb ++ [124])) := ((((u3.cat hA (.lit wd)).cat hA (.lit [124])).cat hA (.lit tb)).cat hA (.lit [124])).of (by simp);have q12 : [63, 124] = ([63, 124] : By) := rfl;clear hmv hM hF;cbv;refine bmT d1 ?_;cbv;refine ⟨ii, Need.mk ⟨_, gg, ?_⟩⟩;cbv;refine Z16 Z0 hA hS [0, 1, 2, 6, 7, 3, 4, 5, 8, 9, 10, 11] rfl rfl fun Dk hD => ?_;cbv;refine Zq hA hD [I kd] [] [] rfl rfl rfl rfl rfl rfl rfl rfl rfl rfl rfl (by decide) trivial (kwd _ ⟨by cbv; repeat' (first | exact trivial | exact rfl | refine ⟨?_, ?_⟩), Zx Z0 hA hD ?_⟩);cbv;refine ⟨o1, o2, ?_⟩;refine Zq hA hD [I bi] [] [] rfl rfl rfl rfl rfl rfl rfl rfl rfl rfl rfl (by decide) trivial (ktb _ ⟨by cbv; repeat' (first | exact trivial | exact o1 | exact o2 | exact rfl | refine ⟨?_, ?_⟩), Zx Z0 hA hD ?_⟩);cbv;refine ⟨o3, o4, ?_⟩;refine' bm2 (S := S) (α := ByteArray) (fun q => { env := [(1, .b 0 0), (5, .v (.string q)), (7, I i), (8, .b 1 0)], H := [.box (.agg [I ins, .sl 1 FL, .sl 5 ML]), .box (.agg [I kd, I bi, I it, I lo, I hi])], nt := 94, dfs := [] })
    (fun q => IsT q (Z1gt j ++ (j.moves.take k).flatMap Z1gu ++ (Z1gz ⟨kd, bi, it, lo, hi⟩ ++ [124])) /\ SzB q 400) (fun rest c => ?g1) (fun rest c => ?g2) ?g3
   case g1 =>
    have e2 : kd = 2 := by subst hA; simpa [ar, Z25] using c
    have kw : Z1gz ⟨kd, bi, it, lo, hi⟩ = outW ++ [124] ++ tb ++ [124] ++ Z1hg it := by unfold Z1gz; rw [if_neg (show ¬ kd = 1 by omega), if_neg (show ¬ kd = 3 by omega), htb]
    have hwo : wd = outW := by rw [hwd, e2]; rfl
    cbv;refine bm (fun c4 => ?_) (fun c4 => ?_)
    ·have e4 : it < 0 := by subst hA; simpa [ar, Z25] using c4
     have z2 : SzB (bs [63, 124]) 2 := .lit _ (Nat.le_refl _);have o5 := scO hA w4 z2 (by decide);have nx : IsT (A.scat (A.scat (A.scat (A.scat (A.scat x (bs wd)) (bs [124])) (bs tb)) (bs [124])) (bs [63, 124])) (Z1gt j ++ (j.moves.take k).flatMap Z1gu ++ (Z1gz ⟨kd, bi, it, lo, hi⟩ ++ [124])) := (n0.cat hA (.lit [63, 124])).of (by rw [kw, hwo]; unfold Z1hg; rw [if_pos e4]; simp);have nz : SzB (A.scat (A.scat (A.scat (A.scat (A.scat x (bs wd)) (bs [124])) (bs tb)) (bs [124])) (bs [63, 124])) 400 := ⟨Nat.le_trans (w4.cat hA z2).le (by decide)⟩;cbv;refine ⟨o5, ?_⟩;exact Zof hS rest (A.scat (A.scat (A.scat (A.scat (A.scat x (bs wd)) (bs [124])) (bs tb)) (bs [124])) (bs [63, 124])) ⟨nx, nz⟩ (Zf [0, 1] ⟨by decide, Z9, ⟨rfl, rfl, trivial⟩, ⟨rfl, rfl, rfl, rfl, trivial⟩, rfl, rfl⟩)
    ·have e4 : ¬ it < 0 := by subst hA; simpa [ar, Z25] using c4
     obtain ⟨tt, htt⟩ : ∃ t, t = Lib.itoa it := ⟨_, rfl⟩;have ktt := fun Q h => Z1h3 it tt htt (by omega) (by omega) Q h;have ztt : SzB (bs tt) 3 := .lit _ (by rw [htt]; exact Z1h6 (by omega) (by omega));have w5 := w4.cat hA ztt;have o5 := scO hA w4 ztt (by decide);have o6 := scO hA w5 (z1 124) (by decide);have nx : IsT (A.scat (A.scat (A.scat (A.scat (A.scat (A.scat x (bs wd)) (bs [124])) (bs tb)) (bs [124])) (bs tt)) (bs [124])) (Z1gt j ++ (j.moves.take k).flatMap Z1gu ++ (Z1gz ⟨kd, bi, it, lo, hi⟩ ++ [124])) := ((n0.cat hA (.lit tt)).cat hA (.lit [124])).of (by rw [kw, hwo]; unfold Z1hg; rw [if_neg e4, htt]; simp);have nz : SzB (A.scat (A.scat (A.scat (A.scat (A.scat (A.scat x (bs wd)) (bs [124])) (bs tb)) (bs [124])) (bs tt)) (bs [124])) 400 := ⟨Nat.le_trans (w5.cat hA (z1 124)).le (by decide)⟩;cbv;refine bmT c ?_;cbv;refine Z4 hS [I it] [] [] rfl rfl rfl rfl rfl rfl rfl rfl (by decide) trivial (ktt _ ?_);refine Z3 Z0 hA hS ?_;cbv;refine ⟨o5, o6, ?_⟩;exact Zof hS rest (A.scat (A.scat (A.scat (A.scat (A.scat (A.scat x (bs wd)) (bs [124])) (bs tb)) (bs [124])) (bs tt)) (bs [124])) ⟨nx, nz⟩ (Zf [0, 1] ⟨by decide, Z9, ⟨rfl, rfl, trivial⟩, ⟨rfl, rfl, rfl, rfl, trivial⟩, rfl, rfl⟩)
   case g2 =>
    have e2 : kd ≠ 2 := by subst hA; simpa [ar, Z25] using c
    have kw : Z1gz ⟨kd, bi, it, lo, hi⟩ = wd ++ [124] ++ tb := by
     unfold Z1gz; rw [hwd, htb]; unfold Z1ht
     by_cases a : kd = 1
     ·rw [if_pos a, if_pos a]
     ·have b : kd = 3 := by omega
      rw [if_neg a, if_pos b, if_neg a, if_neg e2]
    have nx : IsT (A.scat (A.scat (A.scat (A.scat x (bs wd)) (bs [124])) (bs tb)) (bs [124])) (Z1gt j ++ (j.moves.take k).flatMap Z1gu ++ (Z1gz ⟨kd, bi, it, lo, hi⟩ ++ [124])) := n0.of (by rw [kw]);have nz : SzB (A.scat (A.scat (A.scat (A.scat x (bs wd)) (bs [124])) (bs tb)) (bs [124])) 400 := ⟨Nat.le_trans w4.le (by decide)⟩;cbv;refine bmF c ?_;cbv;exact Zof hS rest (A.scat (A.scat (A.scat (A.scat x (bs wd)) (bs [124])) (bs tb)) (bs [124])) ⟨nx, nz⟩ (Zf [0, 1] ⟨by decide, Z9, ⟨rfl, rfl, trivial⟩, ⟨rfl, rfl, rfl, rfl, trivial⟩, rfl, rfl⟩)
   case g3 =>
   rintro q ⟨hq1, hq2⟩;have y1 := hq2.cat hA ztl;have y2 := y1.cat hA (z1 124);have y3 := y2.cat hA zth;have p1 := scO hA hq2 ztl (by decide);have p2 := scO hA y1 (z1 124) (by decide);have p3 := scO hA y2 zth (by decide);have p4 := scO hA y3 (z1 10) (by decide);have hnx := hnx (A.scat (A.scat (A.scat (A.scat q (bs tl)) (bs [124])) (bs th)) (bs [10])) (((((hq1.cat hA (.lit tl)).cat hA (.lit [124])).cat hA (.lit th)).cat hA (.lit [10])).of (by simp));refine Z16 Z0 hA hS [0, 1, 2, 3, 7, 8, 9, 4, 5, 6, 10, 11, 12, 13] rfl rfl fun Dk hD => ?_;cbv;refine Zq hA hD [I lo] [] [] rfl rfl rfl rfl rfl rfl rfl rfl rfl rfl rfl (by decide) trivial (ktl _ ⟨by cbv; repeat' (first | exact trivial | exact rfl | refine ⟨?_, ?_⟩), Zx Z0 hA hD ?_⟩);cbv;refine ⟨p1, p2, ?_⟩;refine Zq hA hD [I hi] [] [] rfl rfl rfl rfl rfl rfl rfl rfl rfl rfl rfl (by decide) trivial (kth _ ⟨by cbv; repeat' (first | exact trivial | exact p1 | exact p2 | exact rfl | refine ⟨?_, ?_⟩), Zx Z0 hA hD ?_⟩);cbv;refine ⟨p3, p4, hf1, ?_⟩;refine Z8 (A.add i 1, k + 1, A.scat (A.scat (A.scat (A.scat q (bs tl)) (bs [124])) (bs th)) (bs [10])) [0] ⟨hk, hu2, hnx⟩ hms ?_;exact ⟨by decide, Z9, ⟨rfl, trivial⟩, ⟨rfl, rfl, rfl, trivial⟩, rfl, rfl⟩
  ·have d1 : A.cmp .lss i (A.oi (A.len ML)) = false := by rw [yoiL hA hMl, u2.eq]; subst hA; simp [ar, Z25]; omega
   rw [List.take_of_length_le (by omega)] at u3;have w1 : SzB (bs [101, 110, 100, 10]) 4 := .lit _ (Nat.le_refl _);have ox := scO hA zx w1 (by decide);have hz := h1' (A.scat x (bs [101, 110, 100, 10])) ((u3.cat hA (.lit [101, 110, 100, 10])).of (by unfold Z1hr; simp [endW]));cbv;refine bmF d1 ?_;cbv;refine Z7 ?_;cbv;refine ⟨ox, ?_⟩;exact Z2 [] (by decide) Z9 (H' := []) (d' := .tup [.v (.string (A.scat x (bs [101, 110, 100, 10]))), I 0]) trivial rfl (Z1 hz)
 ·have c0 : A.cmp .neq e0 0 = true := by subst hA; simp [ar, Z25, g0]
  have hz := hh2 g0;cbv;refine bmT c0 ?_;cbv;exact Z2 [] (by decide) Z9 (H' := []) (d' := .tup [tD [], I e0]) trivial rfl (Z1 hz)
end Go.Proofs.YthljpccegkmdnaaGreatDoor

namespace Go.Txt
open Go Go.Batch
theorem Z1gs (c : UInt8) : ∀ l : By, (Z1gn c l).length <= l.length + 1 /\ ∀ x ∈ Z1gn c l, x.length <= l.length
 | [] => by simp [Z1gn]
 | b :: r => by
  obtain ⟨h1, h2⟩ := Z1gs c r;simp only [Z1gn]
  split
  ·refine ⟨by simp; omega, fun x hx => ?_⟩;rcases List.mem_cons.1 hx with rfl | hx
   ·simp
   ·have := h2 x hx; simp; omega
  ·split
   ·simp
   ·rename_i l ls he
    rw [he] at h1 h2;refine ⟨by simp at h1 ⊢; omega, fun x hx => ?_⟩;rcases List.mem_cons.1 hx with rfl | hx
    ·have := h2 l (by simp); simp; omega
    ·have := h2 x (by simp [hx]); simp; omega
theorem Z1jc (k : Nat) (j : Jn) (l : By) (ls : List By) : rdL k true j (l :: ls) = .inr (k + 1) := by simp [rdL]
theorem Z1io {j : Jn} {l : By} {ls : List By} {n : Int} {fs : List Bool} (h : Z1gx (Z1gn 124 l) = some (n, fs)) : rdL 0 false j (l :: ls) = rdL 1 false ⟨n, fs, []⟩ ls := by simp [rdL, h]
theorem Z1ib {j : Jn} {l : By} {ls : List By} (h : Z1gx (Z1gn 124 l) = none) : rdL 0 false j (l :: ls) = .inr 1 := by simp [rdL, h]
theorem Z1jd {k : Nat} {j : Jn} {l : By} {ls : List By} (hk : 1 <= k) (h : l = endW) : rdL k false j (l :: ls) = rdL (k + 1) true j ls := by
 have : k ≠ 0 := by omega
 simp [rdL, h, this]
theorem Z1ip {k : Nat} {j : Jn} {l : By} {ls : List By} {m : Mv} (hk : 1 <= k) (h : l ≠ endW) (hm : Z1gq (Z1gn 124 l) = some m) : rdL k false j (l :: ls) = rdL (k + 1) false ⟨j.ins, j.first, j.moves ++ [m]⟩ ls := by
 have : k ≠ 0 := by omega
 simp [rdL, h, this, hm]
theorem Z1ic {k : Nat} {j : Jn} {l : By} {ls : List By} (hk : 1 <= k) (h : l ≠ endW) (hm : Z1gq (Z1gn 124 l) = none) : rdL k false j (l :: ls) = .inr (k + 1) := by
 have : k ≠ 0 := by omega
 simp [rdL, h, this, hm]
theorem Z1i0 {t : By} (h : 300 < t.length) : Z1gv t = (j0, 0, 10) := by unfold Z1gv; rw [if_pos h]
theorem Z1hh {t : By} {i : Nat} (h : ¬ 300 < t.length) (h1 : rdL 0 false j0 (Z1gn 10 t).dropLast = .inr i) : Z1gv t = (j0, (i : Int), 2) := by unfold Z1gv; rw [if_neg h, h1]
theorem Z1ha {t : By} {j : Jn} (h : ¬ 300 < t.length) (h1 : rdL 0 false j0 (Z1gn 10 t).dropLast = .inl (false, j)) : Z1gv t = (j0, ((Z1gn 10 t).length : Int), 2) := by unfold Z1gv; rw [if_neg h, h1]; simp
theorem Z1i1 {t : By} {e : Bool} {j : Jn} (h : ¬ 300 < t.length) (h1 : rdL 0 false j0 (Z1gn 10 t).dropLast = .inl (e, j)) (h2 : (Z1gn 10 t).getLast? ≠ some []) : Z1gv t = (j0, ((Z1gn 10 t).length : Int), 2) := by
 unfold Z1gv; rw [if_neg h, h1]; dsimp only; rw [if_pos (.inr h2)]
theorem Z1id {t : By} {j : Jn} (h : ¬ 300 < t.length) (h1 : rdL 0 false j0 (Z1gn 10 t).dropLast = .inl (true, j)) (h2 : (Z1gn 10 t).getLast? = some []) (h3 : Zr j ≠ 0) : Z1gv t = (j0, 0, Zr j) := by
 unfold Z1gv; rw [if_neg h, h1]; dsimp only; rw [if_neg (by simp [h2]), if_pos h3]
theorem Z1iq {t : By} {j : Jn} (h : ¬ 300 < t.length) (h1 : rdL 0 false j0 (Z1gn 10 t).dropLast = .inl (true, j)) (h2 : (Z1gn 10 t).getLast? = some []) (h3 : Zr j = 0) : Z1gv t = (j, 0, 0) := by
 unfold Z1gv; rw [if_neg h, h1]; dsimp only; rw [if_neg (by simp [h2]), if_neg (by simp [h3])]
end Go.Txt

namespace Go.Proofs.YthljpccegkmdnaaGreatDoor
open Go Go.Abs Go.Proofs Go.Batch Go.Txt
structure RdAt (B : List By) (k : Nat) (e : Bool) (n : Int) (FL ML : List D) (nm : Nat) : Prop where
 out : ∃ j : Jn, j.ins = n /\ FL = j.first.map Zv /\ ML = j.moves.map mvD /\ rdL 0 false j0 B = rdL k e j (B.drop k) /\ j.first.length <= 1000 /\ j.moves.length <= k
 len : ML.length = nm
 k1 : 1 <= k
 kB : k <= B.length
theorem Z1kb {cs ds : List D} (h : WkL cs ds) : WkD (.tup cs) (.tup ds) := ⟨fun F μ v hv => by
 obtain ⟨vs, rfl, hl, hr⟩ := hv.tup_inv
 exact .tup _ _ (by rw [<- h.length]; exact hl) (fun i c v hc hv => by
  obtain ⟨a, h1, h2⟩ := h.get hc
  exact h2.out _ _ _ (hr i a v h1 hv))⟩
theorem Z1go (l e : Int) : WkD (.tup [.agg [I 0, .v (.slice none 0 0), .v (.slice none 0 0)], I l, I e]) (.tup [.agg [I 0, .sl 1 [], .sl 5 []], I l, I e]) :=
 Z1kb ⟨WkD.agg ⟨.rfl, .nil, .nil, trivial⟩, .rfl, .rfl, trivial⟩
theorem Z1jy {A : Ar} (hA : A = ar) {L : List D} {x : Int} {n : Nat} (hx : IsI x n) (hn : n <= L.length) : A.sub2OK L 0 x /\ A.sub2 L 0 x = L.take n := by
 subst hA;have := hx.eq;subst this;refine ⟨⟨by decide, by omega, by omega⟩, ?_⟩;show (L.take ((n : Int)).toNat).drop (0 : Int).toNat = _;rw [Int.toNat_natCast]; rfl
theorem Z1ie {w : List By} {n : Int} {fs : List Bool} (h : Z1gx w = some (n, fs)) (hw : ∀ x ∈ w, x.length <= 1000) : fs.length <= 1000 := by
 match w, h with
 | [w0, w1, w2], h =>
  simp only [Z1gx] at h
  split at h
  ·cases hn : numB w1 with
   | none => rw [hn] at h; cases h
   | some v => rw [hn] at h; cases h; rw [List.length_map]; exact hw w2 (by simp)
  ·cases h
set_option maxRecDepth 20000 in
set_option maxHeartbeats 8000000 in
theorem Z1jz (t : By) (Q) (hq0 : ∀ l e, Z1gv t = (j0, l, e) -> e ≠ 0 -> Q (RA.ret (.tup [.agg [I 0, .sl 1 [], .sl 5 []], I l, I e])) [])
  (hq1 : ∀ j n FL ML, Z1gv t = (j, 0, 0) -> Zr j = 0 -> j.ins = n -> FL = j.first.map Zv -> ML = j.moves.map mvD -> Q (RA.ret (.tup [.agg [I n, .sl 1 FL, .sl 5 ML], I 0, I 0])) []) :
  CallA Tryz.prog 45 [tD t] [] Q := by
 obtain ⟨A, hA⟩ : ∃ A, A = ar := ⟨_, rfl⟩;refine Z38 Z0 hA [] Tryz.func45 rfl rfl rfl rfl rfl fun S hS => ?_
 by_cases g300 : 300 < t.length
 ·have c1 : A.cmp .gtr (A.oi (A.slen (bs t))) 300 = true := by rw [ycl hA]; simp [Z25]; omega
  have hz := hq0 0 10 (Z1i0 g300) (by decide);cbv;refine bmT c1 ?_;cbv;exact Z37 (Z1go _ _) (Z2 [] (by decide) Z9 (H' := []) (d' := .tup [.agg [I 0, .sl 1 [], .sl 5 []], I 0, I 10]) trivial rfl (Z1 hz))
 have c1 : A.cmp .gtr (A.oi (A.slen (bs t))) 300 = false := by rw [ycl hA]; simp [Z25]; omega
 have t1000 : t.length <= 1000 := by omega
 cbv;refine bmF c1 ?_;cbv;refine Z4 hS [.v (.string (bs t)), .v (.string (bs [10]))] [] [] rfl rfl rfl rfl rfl rfl rfl rfl (by decide) trivial (Z1hf t t1000 10 _ fun LL hLL => ?_);obtain ⟨ls, hls⟩ : ∃ ls, ls = Z1gn 10 t := ⟨_, rfl⟩;rw [<- hls] at hLL;have hlsL := Z1gs 10 t;rw [<- hls] at hlsL;obtain ⟨hl1, hl2⟩ := hlsL;obtain ⟨N, hN⟩ : ∃ N, ls.length = N + 1 := by
  have := Z1h7 10 t;rw [<- hls] at this
  cases ls with
  | nil => exact absurd rfl this
  | cons a l => exact ⟨l.length, rfl⟩
 obtain ⟨B, hB⟩ : ∃ B, B = ls.dropLast := ⟨_, rfl⟩;have hBN : B.length = N := by rw [hB, List.length_dropLast, hN]; rfl
 have hBm : ∀ x ∈ B, x.length <= 300 := fun x hx => by have := hl2 x (List.dropLast_subset _ (hB ▸ hx)); omega
 have hLl : LL.length = N + 1 := by rw [hLL, List.length_map, hN]
 have hla : IsI (A.sub (A.oi (A.len LL)) 1) N := ⟨by rw [Z24 hA, yoiL hA hLl]; omega⟩;have fla : A.fits .i64 (A.sub (A.oi (A.len LL)) 1) := Z14 hA hla.eq (by omega);obtain ⟨sOK, sEq⟩ := Z1jy hA hla (by omega : N <= LL.length);have hBL : A.sub2 LL 0 (A.sub (A.oi (A.len LL)) 1) = B.map tD := by rw [sEq, hLL, hB, <- List.map_take, List.dropLast_eq_take, hN]; rfl
 have hBl : (A.sub2 LL 0 (A.sub (A.oi (A.len LL)) 1)).length = N := by rw [hBL, List.length_map, hBN]
 have hread : ∀ {x : (Bool × Jn) ⊕ Nat}, rdL 0 false j0 B = x -> rdL 0 false j0 (Z1gn 10 t).dropLast = x := fun h => by rw [<- hls, <- hB]; exact h
 have hlen : ((Z1gn 10 t).length : Int) = A.add (A.sub (A.oi (A.len LL)) 1) 1 := by rw [<- hls, hN, Z58 hA, hla.eq]; omega
 have fl2 : A.fits .i64 (A.add (A.sub (A.oi (A.len LL)) 1) 1) := Z14 hA (m := (N : Int) + 1) (by rw [Z58 hA, hla.eq]) (by omega);obtain ⟨lst, hlst⟩ : ∃ x, ls[N]? = some x := ⟨_, List.getElem?_eq_getElem (by omega)⟩;have hgl : (Z1gn 10 t).getLast? = some lst := by rw [<- hls, List.getLast?_eq_getElem?, hN]; exact hlst
 have il : A.inb (A.sub (A.oi (A.len LL)) 1) (A.len LL) := Z1b hA hLl hla (by omega);have nl : A.get LL (A.tn (A.sub (A.oi (A.len LL)) 1)) = some (tD lst) := Z18 hA hla (by rw [hLL, List.getElem?_map, hlst]; rfl);refine Z3 Z0 hA hS ?_;cbv;refine ⟨fla, sOK, ?_⟩;refine Zb hS ?_;refine Za (α := Option ((Int × Nat) × Bool × Int × List D × List D × Nat))
  (fun q => match q with
   | none => { env := [(2, .b 0 0), (5, .sl 1 LL), (6, I (A.sub (A.oi (A.len LL)) 1)), (7, .v (.bool false)), (24, .sl 1 (A.sub2 LL 0 (A.sub (A.oi (A.len LL)) 1))), (25, I (A.oi (A.len (A.sub2 LL 0 (A.sub (A.oi (A.len LL)) 1))))), (26, I 0)], H := [.box (.agg [I 0, .v (.slice none 0 0), .v (.slice none 0 0)])], nt := 70, dfs := [] }
   | some q => { env := [(2, .b 0 0), (5, .sl 1 LL), (6, I (A.sub (A.oi (A.len LL)) 1)), (7, .v (.bool q.2.1)), (24, .sl 1 (A.sub2 LL 0 (A.sub (A.oi (A.len LL)) 1))), (25, I (A.oi (A.len (A.sub2 LL 0 (A.sub (A.oi (A.len LL)) 1))))), (26, I q.1.1)], H := [.box (.agg [I q.2.2.1, .sl 1 q.2.2.2.1, .o 1 5 q.2.2.2.2.2]), .els 5 q.2.2.2.2.1], nt := 70, dfs := [] })
  (fun q => match q with | none => N + 1 | some q => N - q.1.2)
  (fun q => match q with | none => True | some q => IsI q.1.1 q.1.2 /\ RdAt B q.1.2 q.2.1 q.2.2.1 q.2.2.2.1 q.2.2.2.2.1 q.2.2.2.2.2) none trivial ?_ ?_
 ·exact Zf [0] ⟨by decide, Z9, ⟨rfl, trivial⟩, ⟨rfl, rfl, rfl, rfl, rfl, rfl, rfl, trivial⟩, rfl, rfl⟩
 have bT : A.bnot true = false := by subst hA; rfl
 have bF : A.bnot false = true := by subst hA; rfl
 have e00 : A.cmp .eql 0 0 = true := by subst hA; rfl
 have s0 : IsI 0 0 := ⟨rfl⟩;rintro q hq
 cases q with
 | none =>
  dsimp only;refine Z2w Z0 hA hS [] ?_
  by_cases hN0 : N = 0
  ·have d1 : A.cmp .lss 0 (A.oi (A.len (A.sub2 LL 0 (A.sub (A.oi (A.len LL)) 1)))) = false := by rw [yoiL hA hBl]; subst hA; simp [ar, Z25]; omega
   have hB0 : B = [] := List.eq_nil_of_length_eq_zero (by omega);have hz := hq0 (A.add (A.sub (A.oi (A.len LL)) 1) 1) 2 (by rw [<- hlen]; exact Z1ha g300 (hread (x := .inl (false, j0)) (by rw [hB0]; rfl))) (by decide);clear hq0 hq1 hread;cbv;refine bmF d1 ?_;cbv;refine Z7 ?_;cbv;refine bmT bF ?_;cbv;refine ⟨fl2, ?_⟩;exact Z37 (Z1go _ _) (Z2 [] (by decide) Z9 (H' := []) (d' := .tup [.agg [I 0, .sl 1 [], .sl 5 []], I (A.add (A.sub (A.oi (A.len LL)) 1) 1), I 2]) trivial rfl (Z1 hz))
  ·have d1 : A.cmp .lss 0 (A.oi (A.len (A.sub2 LL 0 (A.sub (A.oi (A.len LL)) 1)))) = true := by rw [yoiL hA hBl]; subst hA; simp [ar, Z25]; omega
   obtain ⟨l, B', hB'⟩ : ∃ l B', B = l :: B' := by cases B with | nil => exact absurd hBN.symm hN0 | cons l B' => exact ⟨l, B', rfl⟩
   have hll : l.length <= 1000 := by have := hBm l (by rw [hB']; simp); omega
   have hw := fun x hx => Nat.le_trans ((Z1gs 124 l).2 x hx) hll;have hwl : (Z1gn 124 l).length <= 1000 := by have := (Z1gs 124 l).1; have := hBm l (by rw [hB']; simp); omega
   have ii : A.inb 0 (A.len (A.sub2 LL 0 (A.sub (A.oi (A.len LL)) 1))) := Z1b hA hBl s0 (by omega);have gg : A.get (A.sub2 LL 0 (A.sub (A.oi (A.len LL)) 1)) (A.tn 0) = some (tD l) := Z18 hA s0 (by rw [hBL, hB']; rfl);have hf1 := Zy hA s0 (by decide);have hu1 := Zz hA s0;have hms : N - 1 < N + 1 := by omega
   have hkB : 1 <= B.length := by rw [hB']; simp
   have g1 : Z1gx (Z1gn 124 l) = none -> Z1gv t = (j0, A.add 0 1, 2) := fun h => by rw [hu1.eq]; exact Z1hh g300 (hread (x := .inr 1) (by rw [hB']; exact Z1ib h))
   have g2 : ∀ n fs, Z1gx (Z1gn 124 l) = some (n, fs) -> rdL 0 false j0 B = rdL 1 false ⟨n, fs, []⟩ (B.drop 1) := fun n fs h => by rw [hB']; exact Z1io h
   have g3 := fun h => hq0 (A.add 0 1) 2 (g1 h) (by decide);cbv;refine bmT d1 ?_;cbv;refine ⟨ii, Need.mk ⟨_, gg, ?_⟩⟩;cbv;refine Z4 hS [.v (.string (bs l)), .v (.string (bs [124]))] [] [] rfl rfl rfl rfl rfl rfl rfl rfl (by decide) trivial (Z1hf l hll 124 _ fun WL hWL => ?_);refine Z3 Z0 hA hS ?_;cbv;refine bmT e00 ?_;cbv;refine Z4 hS [.b 0 0, .sl 1 WL] [0] [.box (.agg [I 0, .v (.slice none 0 0), .v (.slice none 0 0)])] rfl rfl rfl rfl rfl rfl rfl rfl (by decide) ⟨rfl, trivial⟩ (Z1k8 (Z1gn 124 l) hw hwl WL hWL _ (fun n fs FL hh hFL => ?_) (fun hh n FL => ?_))
   ·have hra : RdAt B 1 false n FL [] 0 := ⟨⟨⟨n, fs, []⟩, rfl, hFL, rfl, g2 n fs hh, Z1ie hh hw, Nat.zero_le _⟩, rfl, Nat.le_refl _, hkB⟩;clear g1 g2 g3 hq0 hq1 hread;refine Z3 Z0 hA hS ?_;cbv;refine bmF bT ?_;cbv;refine ⟨hf1, ?_⟩;refine Zfk 0 2 5 (.agg [I n, .sl 1 FL, .o 1 5 0]) rfl rfl rfl ?_;refine Z8 (some ((A.add 0 1, 1), false, n, FL, [], 0)) [0, 1] ⟨hu1, hra⟩ hms ?_;exact ⟨by decide, Z9, ⟨rfl, rfl, trivial⟩, ⟨rfl, rfl, rfl, rfl, rfl, rfl, rfl, trivial⟩, rfl, rfl⟩
   ·have hz := g3 hh;clear g1 g2 g3 hq0 hq1 hread;refine Z3 Z0 hA hS ?_;cbv;refine bmT bF ?_;cbv;refine ⟨hf1, ?_⟩;refine Z7 ?_;cbv;exact Z37 (Z1go _ _) (Z2 [] (by decide) Z9 (H' := []) (d' := .tup [.agg [I 0, .sl 1 [], .sl 5 []], I (A.add 0 1), I 2]) trivial rfl (Z1 hz))
 | some q =>
  obtain ⟨⟨i, k⟩, e, n, FL, ML, nm⟩ := q;obtain ⟨u1, u2⟩ := hq;dsimp only at u1 u2;obtain ⟨⟨j, v1, v2, v3, v4, v5, v6⟩, v7, v8, v9⟩ := u2;refine Z2w Z0 hA hS [] ?_;have hk1000 : k <= 1000 := by omega
  by_cases hk : k < N
  ·have d1 : A.cmp .lss i (A.oi (A.len (A.sub2 LL 0 (A.sub (A.oi (A.len LL)) 1)))) = true := by rw [yoiL hA hBl, u1.eq]; subst hA; simp [ar, Z25]; omega
   have di : A.cmp .eql i 0 = false := by rw [u1.eq]; subst hA; simp [ar, Z25]; omega
   obtain ⟨l, hl⟩ : ∃ l, B[k]? = some l := ⟨_, List.getElem?_eq_getElem (by omega)⟩;have hlm := hBm l (List.mem_of_getElem? hl);have hll : l.length <= 1000 := by omega
   have hw := fun x hx => Nat.le_trans ((Z1gs 124 l).2 x hx) hll;have hwl : (Z1gn 124 l).length <= 1000 := by have := (Z1gs 124 l).1; omega
   have hdr : B.drop k = l :: B.drop (k + 1) := by
    rw [List.drop_eq_getElem_cons (by omega)]; rw [List.getElem?_eq_getElem (by omega)] at hl; rw [Option.some.inj hl]
   rw [hdr] at v4;have ii : A.inb i (A.len (A.sub2 LL 0 (A.sub (A.oi (A.len LL)) 1))) := Z1b hA hBl u1 hk;have gg : A.get (A.sub2 LL 0 (A.sub (A.oi (A.len LL)) 1)) (A.tn i) = some (tD l) := Z18 hA u1 (by rw [hBL, List.getElem?_map, hl]; rfl);have hf1 := Zy hA u1 (by omega);have hu1 := Zz hA u1;have hms : N - (k + 1) < N - k := by omega
   have hb8 : rdL 0 false j0 B = .inr (k + 1) -> Q (RA.ret (.tup [.agg [I 0, .sl 1 [], .sl 5 []], I (A.add i 1), I 2])) [] := fun h => hq0 _ 2 (by rw [hu1.eq]; exact Z1hh g300 (hread h)) (by decide);have hkB : k + 1 <= B.length := by omega
   have k2 : 1 <= k + 1 := by omega
   cases e with
   | true =>
    have hz := hb8 (v4.trans (Z1jc k j l _));clear hb8 hq0 hq1 hread v4 hdr;cbv;refine bmT d1 ?_;cbv;refine ⟨ii, Need.mk ⟨_, gg, ?_⟩⟩;cbv;refine Z4 hS [.v (.string (bs l)), .v (.string (bs [124]))] [] [] rfl rfl rfl rfl rfl rfl rfl rfl (by decide) trivial (Z1hf l hll 124 _ fun WL hWL => ?_);refine Z3 Z0 hA hS ?_;cbv;refine bmT bF ?_;cbv;refine ⟨hf1, ?_⟩;refine Z7 ?_;cbv;exact Z37 (Z1go _ _) (Z2 [] (by decide) Z9 (H' := []) (d' := .tup [.agg [I 0, .sl 1 [], .sl 5 []], I (A.add i 1), I 2]) trivial rfl (Z1 hz))
   | false =>
    by_cases he : l = endW
    ·have ce : A.seq (bs l) (bs endW) = true := by rw [yseq hA, he]; simp
     have hra : RdAt B (k + 1) true n FL ML nm := ⟨⟨j, v1, v2, v3, v4.trans (Z1jd v8 he), v5, by omega⟩, v7, k2, hkB⟩;clear hb8 hq0 hq1 hread v4 hdr;cbv;refine bmT d1 ?_;cbv;refine ⟨ii, Need.mk ⟨_, gg, ?_⟩⟩;cbv;refine Z4 hS [.v (.string (bs l)), .v (.string (bs [124]))] [] [] rfl rfl rfl rfl rfl rfl rfl rfl (by decide) trivial (Z1hf l hll 124 _ fun WL hWL => ?_);refine Z3 Z0 hA hS ?_;cbv;refine bmF di ?_;cbv;refine bmT ce ?_;cbv;refine bmF bT ?_;cbv;refine ⟨hf1, ?_⟩;refine Z8 (some ((A.add i 1, k + 1), true, n, FL, ML, nm)) [0, 1] ⟨hu1, hra⟩ hms ?_;exact ⟨by decide, Z9, ⟨rfl, rfl, trivial⟩, ⟨rfl, rfl, rfl, rfl, rfl, rfl, rfl, trivial⟩, rfl, rfl⟩
    ·have ce : A.seq (bs l) (bs endW) = false := by rw [yseq hA]; simp [he]
     have hmo : ∀ m, Z1gq (Z1gn 124 l) = some m -> RdAt B (k + 1) false n FL (ML ++ [mvD m]) (nm + 1) := fun m hm => ⟨⟨⟨j.ins, j.first, j.moves ++ [m]⟩, v1, v2, by rw [v3]; simp, v4.trans (Z1ip v8 he hm), v5, by simp; omega⟩, by simp [v7], k2, hkB⟩;have hmn := fun h => hb8 (v4.trans (Z1ic v8 he h));have nm8 : nm <= 1000 := by rw [<- v7, v3, List.length_map]; omega
     clear hb8 hq0 hq1 hread v4 hdr;cbv;refine bmT d1 ?_;cbv;refine ⟨ii, Need.mk ⟨_, gg, ?_⟩⟩;cbv;refine Z4 hS [.v (.string (bs l)), .v (.string (bs [124]))] [] [] rfl rfl rfl rfl rfl rfl rfl rfl (by decide) trivial (Z1hf l hll 124 _ fun WL hWL => ?_);refine Z3 Z0 hA hS ?_;cbv;refine bmF di ?_;cbv;refine bmF ce ?_;cbv;refine Z4 hS [.b 0 0, .sl 1 WL] [0, 1] [.box (.agg [I n, .sl 1 FL, .o 1 5 nm]), .els 5 ML] rfl rfl rfl rfl rfl rfl rfl rfl (by decide) ⟨rfl, rfl, trivial⟩ (Z1k9 (Z1gn 124 l) (Z1h7 124 l) hw WL hWL n FL ML nm v7 nm8 _ (fun m hm => ?_) (fun hm ML' nm' hl' => ?_) (fun hm => ?_))
     ·have hra := hmo m hm;clear hmo hmn;obtain ⟨M2, hM2⟩ : ∃ M2, M2 = ML ++ [mvD m] := ⟨_, rfl⟩;rw [<- hM2] at hra ⊢;refine Z3 Z0 hA hS ?_;cbv;refine bmF bT ?_;cbv;refine ⟨hf1, ?_⟩;refine Z8 (some ((A.add i 1, k + 1), false, n, FL, M2, nm + 1)) [0, 2] ⟨hu1, hra⟩ hms ?_;exact ⟨by decide, Z9, ⟨rfl, rfl, trivial⟩, ⟨rfl, rfl, rfl, rfl, rfl, rfl, rfl, trivial⟩, rfl, rfl⟩
     ·have hz := hmn hm;clear hmo hmn;refine Z3 Z0 hA hS ?_;cbv;refine bmT bF ?_;cbv;refine ⟨hf1, ?_⟩;refine Z7 ?_;cbv;exact Z37 (Z1go _ _) (Z2 [] (by decide) Z9 (H' := []) (d' := .tup [.agg [I 0, .sl 1 [], .sl 5 []], I (A.add i 1), I 2]) trivial rfl (Z1 hz))
     ·have hz := hmn hm;clear hmo hmn;refine Z3 Z0 hA hS ?_;cbv;refine bmT bF ?_;cbv;refine ⟨hf1, ?_⟩;refine Z7 ?_;cbv;exact Z37 (Z1go _ _) (Z2 [] (by decide) Z9 (H' := []) (d' := .tup [.agg [I 0, .sl 1 [], .sl 5 []], I (A.add i 1), I 2]) trivial rfl (Z1 hz))
  ·have d1 : A.cmp .lss i (A.oi (A.len (A.sub2 LL 0 (A.sub (A.oi (A.len LL)) 1)))) = false := by rw [yoiL hA hBl, u1.eq]; subst hA; simp [ar, Z25]; omega
   have hrd : rdL 0 false j0 B = .inl (e, j) := by rw [v4, List.drop_of_length_le (by omega)]; rfl
   clear v4
   cases e with
   | false =>
    have hz := hq0 (A.add (A.sub (A.oi (A.len LL)) 1) 1) 2 (by rw [<- hlen]; exact Z1ha g300 (hread hrd)) (by decide);clear hq0 hq1 hread hrd;cbv;refine bmF d1 ?_;cbv;refine Z7 ?_;cbv;refine bmT bF ?_;cbv;refine ⟨fl2, ?_⟩;exact Z37 (Z1go _ _) (Z2 [] (by decide) Z9 (H' := []) (d' := .tup [.agg [I 0, .sl 1 [], .sl 5 []], I (A.add (A.sub (A.oi (A.len LL)) 1) 1), I 2]) trivial rfl (Z1 hz))
   | true =>
    by_cases hls0 : lst = []
    ·have ce : A.bnot (A.seq (bs lst) (bs [])) = false := by rw [yseq hA, hls0]; subst hA; simp [ar]
     have hg2 : (Z1gn 10 t).getLast? = some [] := by rw [hgl, hls0]
     obtain ⟨e0, he0⟩ : ∃ e, e = Zr j := ⟨_, rfl⟩;have hb1 := fun h : e0 ≠ 0 => hq0 0 e0 (by rw [he0]; exact Z1id g300 (hread hrd) hg2 (by rw [<- he0]; exact h)) h;have hb0 := fun h : e0 = 0 => hq1 j n FL ML (Z1iq g300 (hread hrd) hg2 (by rw [<- he0]; exact h)) (by rw [<- he0]; exact h) v1 v2 v3;have qC := fun Q h => bCheck j (by omega) (by omega) FL ML v2 v3 e0 he0 Q h;rw [v1] at qC;clear hq0 hq1 hread hrd he0 hg2;cbv;refine bmF d1 ?_;cbv;refine Z7 ?_;cbv;refine bmF bT ?_;cbv;refine ⟨il, Need.mk ⟨_, nl, ?_⟩⟩;cbv;refine bmF ce ?_;cbv;refine Z26 hS (Z1a hA [1] ?_);cbv;refine ⟨Ze hA v7, Ze hA v7, Z7 ?_⟩;refine Z4 hS [.agg [I n, .sl 1 FL, .sl 5 ML]] [] [] rfl rfl rfl rfl rfl rfl rfl rfl (by decide) trivial (qC _ ?_);refine Z3 Z0 hA hS ?_
     by_cases h0 : e0 = 0
     ·have cc : A.cmp .neq e0 0 = false := by subst hA; simp [ar, Z25, h0]
      have hz := hb0 h0;cbv;refine bmF cc ?_;cbv;exact Z2 [] (by decide) Z9 (H' := []) (d' := .tup [.agg [I n, .sl 1 FL, .sl 5 ML], I 0, I 0]) trivial rfl (Z1 hz)
     ·have cc : A.cmp .neq e0 0 = true := by subst hA; simp [ar, Z25, h0]
      have hz := hb1 h0;cbv;refine bmT cc ?_;cbv;exact Z37 (Z1go _ _) (Z2 [] (by decide) Z9 (H' := []) (d' := .tup [.agg [I 0, .sl 1 [], .sl 5 []], I 0, I e0]) trivial rfl (Z1 hz))
    ·have ce : A.bnot (A.seq (bs lst) (bs [])) = true := by rw [yseq hA]; subst hA; simp [ar, hls0]
     have hz := hq0 (A.add (A.sub (A.oi (A.len LL)) 1) 1) 2 (by rw [<- hlen]; exact Z1i1 g300 (hread hrd) (by rw [hgl]; simp [hls0])) (by decide);clear hq0 hq1 hread hrd;cbv;refine bmF d1 ?_;cbv;refine Z7 ?_;cbv;refine bmF bT ?_;cbv;refine ⟨il, Need.mk ⟨_, nl, ?_⟩⟩;cbv;refine bmT ce ?_;cbv;refine ⟨fl2, ?_⟩;exact Z37 (Z1go _ _) (Z2 [] (by decide) Z9 (H' := []) (d' := .tup [.agg [I 0, .sl 1 [], .sl 5 []], I (A.add (A.sub (A.oi (A.len LL)) 1) 1), I 2]) trivial rfl (Z1 hz))
end Go.Proofs.YthljpccegkmdnaaGreatDoor

namespace Go.Proofs.YthljpccegkmdnaaGreatDoor
open Go Go.Abs Go.Proofs Go.Batch Go.Txt
set_option maxRecDepth 20000 in
set_option maxHeartbeats 8000000 in
theorem Z1k0 (t : By) (Q) (hq0 : ∀ l e, Z1gv t = (j0, l, e) -> e ≠ 0 -> Q (RA.ret (.tup [.agg [I 0, .sl 1 [], .sl 5 []], I l, I e])) [])
  (hq1 : ∀ j n FL ML, Z1gv t = (j, 0, 0) -> Zr j = 0 -> j.ins = n -> FL = j.first.map Zv -> ML = j.moves.map mvD -> Q (RA.ret (.tup [.agg [I n, .sl 1 FL, .sl 5 ML], I 0, I 0])) []) :
  CallA Tryz.prog 46 [tD t] [] Q := by
 obtain ⟨A, hA⟩ : ∃ A, A = ar := ⟨_, rfl⟩;refine Z38 Z0 hA [] Tryz.func46 rfl rfl rfl rfl rfl fun S hS => ?_
 by_cases g300 : 300 < t.length
 ·have c1 : A.cmp .gtr (A.oi (A.slen (bs t))) 300 = true := by rw [ycl hA]; simp [Z25]; omega
  have hz := hq0 0 10 (Z1i0 g300) (by decide);cbv;refine bmT c1 ?_;cbv;exact Z37 (Z1go _ _) (Z2 [] (by decide) Z9 (H' := []) (d' := .tup [.agg [I 0, .sl 1 [], .sl 5 []], I 0, I 10]) trivial rfl (Z1 hz))
 have c1 : A.cmp .gtr (A.oi (A.slen (bs t))) 300 = false := by rw [ycl hA]; simp [Z25]; omega
 have t1000 : t.length <= 1000 := by omega
 cbv;refine bmF c1 ?_;cbv;refine Z4 hS [.v (.string (bs t)), .v (.int .u8 10)] [] [] rfl rfl rfl rfl rfl rfl rfl rfl (by decide) trivial (Z1hq t t1000 10 10 rfl _ fun LL hLL => ?_);obtain ⟨ls, hls⟩ : ∃ ls, ls = Z1gn 10 t := ⟨_, rfl⟩;rw [<- hls] at hLL;have hlsL := Z1gs 10 t;rw [<- hls] at hlsL;obtain ⟨hl1, hl2⟩ := hlsL;obtain ⟨N, hN⟩ : ∃ N, ls.length = N + 1 := by
  have := Z1h7 10 t;rw [<- hls] at this
  cases ls with
  | nil => exact absurd rfl this
  | cons a l => exact ⟨l.length, rfl⟩
 obtain ⟨B, hB⟩ : ∃ B, B = ls.dropLast := ⟨_, rfl⟩;have hBN : B.length = N := by rw [hB, List.length_dropLast, hN]; rfl
 have hBm : ∀ x ∈ B, x.length <= 300 := fun x hx => by have := hl2 x (List.dropLast_subset _ (hB ▸ hx)); omega
 have hLl : LL.length = N + 1 := by rw [hLL, List.length_map, hN]
 have hla : IsI (A.sub (A.oi (A.len LL)) 1) N := ⟨by rw [Z24 hA, yoiL hA hLl]; omega⟩;have fla : A.fits .i64 (A.sub (A.oi (A.len LL)) 1) := Z14 hA hla.eq (by omega);have hBg : ∀ k x, B[k]? = some x -> ls[k]? = some x := fun k x h => by
  rw [hB, List.dropLast_eq_take, List.getElem?_take] at h
  split at h
  ·exact h
  ·cases h
 have hread : ∀ {x : (Bool × Jn) ⊕ Nat}, rdL 0 false j0 B = x -> rdL 0 false j0 (Z1gn 10 t).dropLast = x := fun h => by rw [<- hls, <- hB]; exact h
 have hlen : ((Z1gn 10 t).length : Int) = A.oi (A.len LL) := by rw [<- hls, hN, yoiL hA hLl]
 obtain ⟨lst, hlst⟩ : ∃ x, ls[N]? = some x := ⟨_, List.getElem?_eq_getElem (by omega)⟩;have hgl : (Z1gn 10 t).getLast? = some lst := by rw [<- hls, List.getLast?_eq_getElem?, hN]; exact hlst
 have il : A.inb (A.sub (A.oi (A.len LL)) 1) (A.len LL) := Z1b hA hLl hla (by omega);have nl : A.get LL (A.tn (A.sub (A.oi (A.len LL)) 1)) = some (tD lst) := Z18 hA hla (by rw [hLL, List.getElem?_map, hlst]; rfl);refine Z3 Z0 hA hS ?_;cbv;refine Zb hS ?_;refine Za (α := Option ((Int × Nat) × Bool × Int × List D × List D × Nat))
  (fun q => match q with
   | none => { env := [(2, .b 0 0), (5, .sl 1 LL), (6, .b 1 0), (7, .v (.bool false)), (8, I 0)], H := [.box (.agg [I 0, .v (.slice none 0 0), .v (.slice none 0 0)]), .box (.agg [I 0, .v (.slice none 0 0), .v (.slice none 0 0)])], nt := 84, dfs := [] }
   | some q => { env := [(2, .b 0 0), (5, .sl 1 LL), (6, .b 1 0), (7, .v (.bool q.2.1)), (8, I q.1.1)], H := [.box (.agg [I 0, .v (.slice none 0 0), .v (.slice none 0 0)]), .box (.agg [I q.2.2.1, .sl 1 q.2.2.2.1, .o 2 5 q.2.2.2.2.2]), .els 5 q.2.2.2.2.1], nt := 84, dfs := [] })
  (fun q => match q with | none => N + 1 | some q => N - q.1.2)
  (fun q => match q with | none => True | some q => IsI q.1.1 q.1.2 /\ RdAt B q.1.2 q.2.1 q.2.2.1 q.2.2.2.1 q.2.2.2.2.1 q.2.2.2.2.2) none trivial ?_ ?_
 ·exact Zf [0, 1] ⟨by decide, Z9, ⟨rfl, rfl, trivial⟩, ⟨rfl, rfl, rfl, rfl, rfl, trivial⟩, rfl, rfl⟩
 have bT : A.bnot true = false := by subst hA; rfl
 have bF : A.bnot false = true := by subst hA; rfl
 have e00 : A.cmp .eql 0 0 = true := by subst hA; rfl
 have s0 : IsI 0 0 := ⟨rfl⟩;rintro q hq
 cases q with
 | none =>
  dsimp only;refine Z2w Z0 hA hS [] ?_
  by_cases hN0 : N = 0
  ·have d1 : A.cmp .lss 0 (A.sub (A.oi (A.len LL)) 1) = false := by rw [hla.eq]; subst hA; simp [ar, Z25]; omega
   have hB0 : B = [] := List.eq_nil_of_length_eq_zero (by omega);have hz := hq0 (A.oi (A.len LL)) 2 (by rw [<- hlen]; exact Z1ha g300 (hread (x := .inl (false, j0)) (by rw [hB0]; rfl))) (by decide);clear hq0 hq1 hread;cbv;refine ⟨fla, ?_⟩;refine bmF d1 ?_;cbv;refine Z7 ?_;cbv;refine bmT bF ?_;cbv;exact Z37 (Z1go _ _) (Z2 [] (by decide) Z9 (H' := []) (d' := .tup [.agg [I 0, .sl 1 [], .sl 5 []], I (A.oi (A.len LL)), I 2]) trivial rfl (Z1 hz))
  ·have d1 : A.cmp .lss 0 (A.sub (A.oi (A.len LL)) 1) = true := by rw [hla.eq]; subst hA; simp [ar, Z25]; omega
   obtain ⟨l, B', hB'⟩ : ∃ l B', B = l :: B' := by cases B with | nil => exact absurd hBN.symm hN0 | cons l B' => exact ⟨l, B', rfl⟩
   have hll : l.length <= 1000 := by have := hBm l (by rw [hB']; simp); omega
   have hw := fun x hx => Nat.le_trans ((Z1gs 124 l).2 x hx) hll;have hwl : (Z1gn 124 l).length <= 1000 := by have := (Z1gs 124 l).1; have := hBm l (by rw [hB']; simp); omega
   have ii : A.inb 0 (A.len LL) := Z1b hA hLl s0 (by omega);have gg : A.get LL (A.tn 0) = some (tD l) := Z18 hA s0 (by rw [hLL, List.getElem?_map, hBg 0 l (by rw [hB']; rfl)]; rfl);have hf1 := Zy hA s0 (by decide);have hu1 := Zz hA s0;have hms : N - 1 < N + 1 := by omega
   have hkB : 1 <= B.length := by rw [hB']; simp
   have g1 : Z1gx (Z1gn 124 l) = none -> Z1gv t = (j0, A.add 0 1, 2) := fun h => by rw [hu1.eq]; exact Z1hh g300 (hread (x := .inr 1) (by rw [hB']; exact Z1ib h))
   have g2 : ∀ n fs, Z1gx (Z1gn 124 l) = some (n, fs) -> rdL 0 false j0 B = rdL 1 false ⟨n, fs, []⟩ (B.drop 1) := fun n fs h => by rw [hB']; exact Z1io h
   have g3 := fun h => hq0 (A.add 0 1) 2 (g1 h) (by decide);cbv;refine ⟨fla, ?_⟩;refine bmT d1 ?_;cbv;refine ⟨ii, Need.mk ⟨_, gg, ?_⟩⟩;cbv;refine Z4 hS [.v (.string (bs l)), .v (.int .u8 124)] [] [] rfl rfl rfl rfl rfl rfl rfl rfl (by decide) trivial (Z1hq l hll 124 124 rfl _ fun WL hWL => ?_);refine Z3 Z0 hA hS ?_;cbv;refine bmT e00 ?_;cbv;refine Z4 hS [.sl 1 WL] [] [] rfl rfl rfl rfl rfl rfl rfl rfl (by decide) trivial (Z1jl (Z1gn 124 l) (Z1h7 124 l) hw hwl WL hWL _ (fun n fs FL hh hFL => ?_) (fun hh n FL => ?_) (fun hh => ?_))
   ·have hra : RdAt B 1 false n FL [] 0 := ⟨⟨⟨n, fs, []⟩, rfl, hFL, rfl, g2 n fs hh, Z1ie hh hw, Nat.zero_le _⟩, rfl, Nat.le_refl _, hkB⟩;clear g1 g2 g3 hq0 hq1 hread;refine Z3 Z0 hA hS ?_;cbv;refine bmF bT ?_;cbv;refine ⟨hf1, ?_⟩;refine Zfk 1 2 5 (.agg [I n, .sl 1 FL, .o 2 5 0]) rfl rfl rfl ?_;refine Z8 (some ((A.add 0 1, 1), false, n, FL, [], 0)) [0, 1, 2] ⟨hu1, hra⟩ hms ?_;exact ⟨by decide, Z9, ⟨rfl, rfl, rfl, trivial⟩, ⟨rfl, rfl, rfl, rfl, rfl, trivial⟩, rfl, rfl⟩
   ·have hz := g3 hh;clear g1 g2 g3 hq0 hq1 hread;refine Z3 Z0 hA hS ?_;cbv;refine bmT bF ?_;cbv;refine ⟨hf1, ?_⟩;refine Z7 ?_;cbv;exact Z37 (Z1go _ _) (Z2 [] (by decide) Z9 (H' := []) (d' := .tup [.agg [I 0, .sl 1 [], .sl 5 []], I (A.add 0 1), I 2]) trivial rfl (Z1 hz))
   ·have hz := g3 hh;clear g1 g2 g3 hq0 hq1 hread;refine Z3 Z0 hA hS ?_;cbv;refine bmT bF ?_;cbv;refine ⟨hf1, ?_⟩;refine Z7 ?_;cbv;exact Z37 (Z1go _ _) (Z2 [] (by decide) Z9 (H' := []) (d' := .tup [.agg [I 0, .sl 1 [], .sl 5 []], I (A.add 0 1), I 2]) trivial rfl (Z1 hz))
 | some q =>
  obtain ⟨⟨i, k⟩, e, n, FL, ML, nm⟩ := q;obtain ⟨u1, u2⟩ := hq;dsimp only at u1 u2;obtain ⟨⟨j, v1, v2, v3, v4, v5, v6⟩, v7, v8, v9⟩ := u2;refine Z2w Z0 hA hS [] ?_;have hk1000 : k <= 1000 := by omega
  by_cases hk : k < N
  ·have d1 : A.cmp .lss i (A.sub (A.oi (A.len LL)) 1) = true := by rw [hla.eq, u1.eq]; subst hA; simp [ar, Z25]; omega
   have di : A.cmp .eql i 0 = false := by rw [u1.eq]; subst hA; simp [ar, Z25]; omega
   obtain ⟨l, hl⟩ : ∃ l, B[k]? = some l := ⟨_, List.getElem?_eq_getElem (by omega)⟩;have hlm := hBm l (List.mem_of_getElem? hl);have hll : l.length <= 1000 := by omega
   have hw := fun x hx => Nat.le_trans ((Z1gs 124 l).2 x hx) hll;have hwl : (Z1gn 124 l).length <= 1000 := by have := (Z1gs 124 l).1; omega
   have hdr : B.drop k = l :: B.drop (k + 1) := by
    rw [List.drop_eq_getElem_cons (by omega)]; rw [List.getElem?_eq_getElem (by omega)] at hl; rw [Option.some.inj hl]
   rw [hdr] at v4;have ii : A.inb i (A.len LL) := Z1b hA hLl u1 (by omega);have gg : A.get LL (A.tn i) = some (tD l) := Z18 hA u1 (by rw [hLL, List.getElem?_map, hBg k l hl]; rfl);have hf1 := Zy hA u1 (by omega);have hu1 := Zz hA u1;have hms : N - (k + 1) < N - k := by omega
   have hb8 : rdL 0 false j0 B = .inr (k + 1) -> Q (RA.ret (.tup [.agg [I 0, .sl 1 [], .sl 5 []], I (A.add i 1), I 2])) [] := fun h => hq0 _ 2 (by rw [hu1.eq]; exact Z1hh g300 (hread h)) (by decide);have hkB : k + 1 <= B.length := by omega
   have k2 : 1 <= k + 1 := by omega
   cases e with
   | true =>
    have hz := hb8 (v4.trans (Z1jc k j l _));clear hb8 hq0 hq1 hread v4 hdr;cbv;refine ⟨fla, ?_⟩;refine bmT d1 ?_;cbv;refine ⟨ii, Need.mk ⟨_, gg, ?_⟩⟩;cbv;refine Z4 hS [.v (.string (bs l)), .v (.int .u8 124)] [] [] rfl rfl rfl rfl rfl rfl rfl rfl (by decide) trivial (Z1hq l hll 124 124 rfl _ fun WL hWL => ?_);refine Z3 Z0 hA hS ?_;cbv;refine bmT bF ?_;cbv;refine ⟨hf1, ?_⟩;refine Z7 ?_;cbv;exact Z37 (Z1go _ _) (Z2 [] (by decide) Z9 (H' := []) (d' := .tup [.agg [I 0, .sl 1 [], .sl 5 []], I (A.add i 1), I 2]) trivial rfl (Z1 hz))
   | false =>
    by_cases he : l = endW
    ·have ce : A.seq (bs l) (bs endW) = true := by rw [yseq hA, he]; simp
     have hra : RdAt B (k + 1) true n FL ML nm := ⟨⟨j, v1, v2, v3, v4.trans (Z1jd v8 he), v5, by omega⟩, v7, k2, hkB⟩;clear hb8 hq0 hq1 hread v4 hdr;cbv;refine ⟨fla, ?_⟩;refine bmT d1 ?_;cbv;refine ⟨ii, Need.mk ⟨_, gg, ?_⟩⟩;cbv;refine Z4 hS [.v (.string (bs l)), .v (.int .u8 124)] [] [] rfl rfl rfl rfl rfl rfl rfl rfl (by decide) trivial (Z1hq l hll 124 124 rfl _ fun WL hWL => ?_);refine Z3 Z0 hA hS ?_;cbv;refine bmF di ?_;cbv;refine ⟨ii, Need.mk ⟨_, gg, ?_⟩⟩;cbv;refine bmT ce ?_;cbv;refine bmF bT ?_;cbv;refine ⟨hf1, ?_⟩;refine Z8 (some ((A.add i 1, k + 1), true, n, FL, ML, nm)) [0, 1, 2] ⟨hu1, hra⟩ hms ?_;exact ⟨by decide, Z9, ⟨rfl, rfl, rfl, trivial⟩, ⟨rfl, rfl, rfl, rfl, rfl, trivial⟩, rfl, rfl⟩
    ·have ce : A.seq (bs l) (bs endW) = false := by rw [yseq hA]; simp [he]
     have hmo : ∀ m, Z1gq (Z1gn 124 l) = some m -> RdAt B (k + 1) false n FL (ML ++ [mvD m]) (nm + 1) := fun m hm => ⟨⟨⟨j.ins, j.first, j.moves ++ [m]⟩, v1, v2, by rw [v3]; simp, v4.trans (Z1ip v8 he hm), v5, by simp; omega⟩, by simp [v7], k2, hkB⟩;have hmn := fun h => hb8 (v4.trans (Z1ic v8 he h));have nm8 : nm <= 1000 := by rw [<- v7, v3, List.length_map]; omega
     clear hb8 hq0 hq1 hread v4 hdr;cbv;refine ⟨fla, ?_⟩;refine bmT d1 ?_;cbv;refine ⟨ii, Need.mk ⟨_, gg, ?_⟩⟩;cbv;refine Z4 hS [.v (.string (bs l)), .v (.int .u8 124)] [] [] rfl rfl rfl rfl rfl rfl rfl rfl (by decide) trivial (Z1hq l hll 124 124 rfl _ fun WL hWL => ?_);refine Z3 Z0 hA hS ?_;cbv;refine bmF di ?_;cbv;refine ⟨ii, Need.mk ⟨_, gg, ?_⟩⟩;cbv;refine bmF ce ?_;cbv;refine Z4 hS [.sl 1 WL] [] [] rfl rfl rfl rfl rfl rfl rfl rfl (by decide) trivial (Z1ka (Z1gn 124 l) (Z1h7 124 l) hw hwl WL hWL _ (fun m hm => ?_) (fun hm a1 a2 a3 a4 a5 => ?_))
     ·have hra := hmo m hm;clear hmo hmn;obtain ⟨m1, m2, m3, m4, m5⟩ := m;have hM2 : A.app ML [.agg [I m1, I m2, I m3, I m4, I m5]] = ML ++ [mvD ⟨m1, m2, m3, m4, m5⟩] := by subst hA; rfl
      have hN2 : A.addN nm 1 = nm + 1 := by subst hA; rfl
      rw [<- hM2, <- hN2] at hra;have e1 := Ze hA v7;have e2 : A.eqN 1 (A.len [.agg [I m1, I m2, I m3, I m4, I m5]]) := by subst hA; rfl
      have e3 : A.room (A.addN nm 1) 40 := Z27 hA (by omega) (by omega);refine Z3 Z0 hA hS ?_;cbv;refine ⟨e1, e2, e3, ?_⟩;refine bmF bT ?_;cbv;refine ⟨hf1, ?_⟩;refine Z8 (some ((A.add i 1, k + 1), false, n, FL, A.app ML [.agg [I m1, I m2, I m3, I m4, I m5]], A.addN nm 1)) [0, 1, 5] ⟨hu1, hra⟩ hms ?_;exact ⟨by decide, Z9, ⟨rfl, rfl, rfl, trivial⟩, ⟨rfl, rfl, rfl, rfl, rfl, trivial⟩, rfl, rfl⟩
     ·have hz := hmn hm;clear hmo hmn;have e1 := Ze hA v7;have e2 : A.eqN 1 (A.len [.agg [I a1, I a2, I a3, I a4, I a5]]) := by subst hA; rfl
      have e3 : A.room (A.addN nm 1) 40 := Z27 hA (by omega) (by omega);refine Z3 Z0 hA hS ?_;cbv;refine ⟨e1, e2, e3, ?_⟩;refine bmT bF ?_;cbv;refine ⟨hf1, ?_⟩;refine Z7 ?_;cbv;exact Z37 (Z1go _ _) (Z2 [] (by decide) Z9 (H' := []) (d' := .tup [.agg [I 0, .sl 1 [], .sl 5 []], I (A.add i 1), I 2]) trivial rfl (Z1 hz))
  ·have d1 : A.cmp .lss i (A.sub (A.oi (A.len LL)) 1) = false := by rw [hla.eq, u1.eq]; subst hA; simp [ar, Z25]; omega
   have hrd : rdL 0 false j0 B = .inl (e, j) := by rw [v4, List.drop_of_length_le (by omega)]; rfl
   clear v4
   cases e with
   | false =>
    have hz := hq0 (A.oi (A.len LL)) 2 (by rw [<- hlen]; exact Z1ha g300 (hread hrd)) (by decide);clear hq0 hq1 hread hrd;cbv;refine ⟨fla, ?_⟩;refine bmF d1 ?_;cbv;refine Z7 ?_;cbv;refine bmT bF ?_;cbv;exact Z37 (Z1go _ _) (Z2 [] (by decide) Z9 (H' := []) (d' := .tup [.agg [I 0, .sl 1 [], .sl 5 []], I (A.oi (A.len LL)), I 2]) trivial rfl (Z1 hz))
   | true =>
    by_cases hls0 : lst = []
    ·have ce : A.bnot (A.seq (bs lst) (bs [])) = false := by rw [yseq hA, hls0]; subst hA; simp [ar]
     have hg2 : (Z1gn 10 t).getLast? = some [] := by rw [hgl, hls0]
     obtain ⟨e0, he0⟩ : ∃ e, e = Zr j := ⟨_, rfl⟩;have hb1 := fun h : e0 ≠ 0 => hq0 0 e0 (by rw [he0]; exact Z1id g300 (hread hrd) hg2 (by rw [<- he0]; exact h)) h;have hb0 := fun h : e0 = 0 => hq1 j n FL ML (Z1iq g300 (hread hrd) hg2 (by rw [<- he0]; exact h)) (by rw [<- he0]; exact h) v1 v2 v3;have qC := fun Q h => Zdo j (by omega) (by omega) FL ML v2 v3 e0 he0 Q h;rw [v1] at qC;clear hq0 hq1 hread hrd he0 hg2;cbv;refine ⟨fla, ?_⟩;refine bmF d1 ?_;cbv;refine Z7 ?_;cbv;refine bmF bT ?_;cbv;refine ⟨fla, il, Need.mk ⟨_, nl, ?_⟩⟩;cbv;refine bmF ce ?_;cbv;refine Z26 hS (Z1a hA [2] ?_);cbv;refine ⟨Ze hA v7, Ze hA v7, Z7 ?_⟩;refine Z4 hS [.agg [I n, .sl 1 FL, .sl 5 ML]] [] [] rfl rfl rfl rfl rfl rfl rfl rfl (by decide) trivial (qC _ ?_);refine Z3 Z0 hA hS ?_
     by_cases h0 : e0 = 0
     ·have cc : A.cmp .neq e0 0 = false := by subst hA; simp [ar, Z25, h0]
      have hz := hb0 h0;cbv;refine bmF cc ?_;cbv;exact Z2 [] (by decide) Z9 (H' := []) (d' := .tup [.agg [I n, .sl 1 FL, .sl 5 ML], I 0, I 0]) trivial rfl (Z1 hz)
     ·have cc : A.cmp .neq e0 0 = true := by subst hA; simp [ar, Z25, h0]
      have hz := hb1 h0;cbv;refine bmT cc ?_;cbv;exact Z37 (Z1go _ _) (Z2 [] (by decide) Z9 (H' := []) (d' := .tup [.agg [I 0, .sl 1 [], .sl 5 []], I 0, I e0]) trivial rfl (Z1 hz))
    ·have ce : A.bnot (A.seq (bs lst) (bs [])) = true := by rw [yseq hA]; subst hA; simp [ar, hls0]
     have hz := hq0 (A.oi (A.len LL)) 2 (by rw [<- hlen]; exact Z1i1 g300 (hread hrd) (by rw [hgl]; simp [hls0])) (by decide);clear hq0 hq1 hread hrd;cbv;refine ⟨fla, ?_⟩;refine bmF d1 ?_;cbv;refine Z7 ?_;cbv;refine bmF bT ?_;cbv;refine ⟨fla, il, Need.mk ⟨_, nl, ?_⟩⟩;cbv;refine bmT ce ?_;cbv;exact Z37 (Z1go _ _) (Z2 [] (by decide) Z9 (H' := []) (d' := .tup [.agg [I 0, .sl 1 [], .sl 5 []], I (A.oi (A.len LL)), I 2]) trivial rfl (Z1 hz))
end Go.Proofs.YthljpccegkmdnaaGreatDoor
