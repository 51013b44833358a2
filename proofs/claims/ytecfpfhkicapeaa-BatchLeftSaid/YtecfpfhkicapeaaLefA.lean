/- Part LefA of the proofs about the benches of the accordion maker: see the last text of the claim for what is proved. -/
import Derived.Test.YtecfpfhkicapeaaRefC
import Derived.Test.YtecfpfhkicapeaaWroB
set_option linter.unusedVariables false
set_option linter.unusedSimpArgs false
set_option linter.unnecessarySimpa false
set_option linter.constructorNameAsVariable false

namespace Go.Proofs.Ytecfpfhkicapeaa
open Go Go.Abs Go.Proofs Go.Batch
theorem Zp4 {α : Type} (e : Int) (l : List α) : (okL e l).length <= l.length := by unfold okL; split <;> simp
theorem Zzw {A : Ar} (hA : A = ar) (b : Bool) : A.bnot (A.beq b b) = false := by subst hA; cases b <;> rfl
section
variable {j : Jn} {FL ML : List D}
theorem JLim.bl (h : JLim j FL ML) : (Z6 j.moves).length <= 100 := by
 have h1 : (Z6 j.moves).length <= j.moves.length := by
  unfold Z6; rw [List.length_map]; exact List.length_filter_le _ _
 have := h.m; omega
theorem JLim.sameL (h : JLim j FL ML) (e : Int) (L0 : List D) (hL : L0 = okL e ((Z6g j).map rgD)) (Q) (hq : Q (RA.ret (.v (.bool true))) []) : CallA Try.prog 31 [.sl 2 L0, .sl 2 L0] [] Q := by
 have h1 := Zp4 e (Z6g j);have h2 : (Z6g j).length = j.first.length := by simp [Z6g]
 have h3 := h.f;exact Za2 (okL e (Z6g j)) (okL e (Z6g j)) L0 L0 (by rw [hL]; exact (Zel _ _ _).symm) (by rw [hL]; exact (Zel _ _ _).symm) (by omega) true (decide_eq_true rfl).symm Q hq
theorem JLim.sameR (h : JLim j FL ML) (e : Int) (L0 : List D) (hL : L0 = okL e ((Z4c j).map rgD)) (Q) (hq : Q (RA.ret (.v (.bool true))) []) : CallA Try.prog 31 [.sl 2 L0, .sl 2 L0] [] Q := by
 have h1 := Zp4 e (Z4c j);have h2 : (Z4c j).length = (Z6 j.moves).length := by simp [Z4c]
 have h3 := h.bl;exact Za2 (okL e (Z4c j)) (okL e (Z4c j)) L0 L0 (by rw [hL]; exact (Zel _ _ _).symm) (by rw [hL]; exact (Zel _ _ _).symm) (by omega) true (decide_eq_true rfl).symm Q hq
end
set_option maxRecDepth 40000 in
set_option maxHeartbeats 16000000 in
theorem Zno (j : Jn) (hj : JFin j) (FL ML : List D) (hF : FL = j.first.map Zv) (hM : ML = j.moves.map mvD) (mv : Mv) (L : List D) (nums : List Int) (hL : L = nums.map I) (hl : L.length <= 9223372036854775807) (Q) (hq : Q (RA.ret (.v (.bool true))) []) :
  CallA Try.prog 10 [.agg [I j.ins, .sl 1 FL, .sl 5 ML], mvD mv, .sl 1 L] [] Q := by
 obtain ⟨A, hA⟩ : ∃ A, A = ar := ⟨_, rfl⟩;have hbn : A.bnot true = false := by subst hA; rfl
 obtain ⟨kd, bn, it, lo, hi'⟩ := mv;unfold mvD;dsimp only;have hlarge := fun Q h => Zxc j FL ML hF hM Q h;have hJ := fun (h : j.first.length <= 20 /\ j.moves.length <= 20) => (⟨hF, hM, by omega, by omega⟩ : JLim j FL ML);refine Z38 Z0 hA [] Try.func10 rfl rfl rfl rfl rfl fun S hS => ?_;cbv;refine Z4 hS [.agg [I j.ins, .sl 1 FL, .sl 5 ML]] [] [] rfl rfl rfl rfl rfl rfl rfl rfl (by decide) trivial (hlarge _ fun b hb => ?_);refine Z3 Z0 hA hS ?_
 cases b with
 | true =>
  cbv;refine Z4 hS [] [] [] rfl rfl rfl rfl rfl rfl rfl rfl (by decide) trivial (Zov _ ?_);refine Z3 Z0 hA hS ?_;cbv;exact Z2 [] (by decide) Z9 (H' := []) (d' := .v (.bool true)) trivial rfl (Z1 hq)
 | false =>
 have hj1 := hJ (hb rfl);cbv;refine Z4 hS [.sl 1 L] [] [] rfl rfl rfl rfl rfl rfl rfl rfl (by decide) trivial (Zvp L nums hL hl _ fun x0 => ?_);refine Z3 Z0 hA hS ?_;cbv;refine Z4 hS [.b 0 0, I 8, I 2] [2] [pot x0] rfl rfl rfl rfl rfl rfl rfl rfl (by decide) ⟨rfl, trivial⟩ (Znd x0 8 2 (by decide) ⟨by decide, by decide⟩ _ fun ins first mm lies truth x1 F1 MM TL RL hi1 hi4 hfl hm10 hmm hg _ hF1 u4 hT hR => ?_);have hF1l : F1.length = first.length := by rw [hF1, List.length_map]
 have hMl : MM.length = mm.length := by rw [u4, List.length_map]
 have hm1000 : mm.length <= 1000 := by omega
 obtain ⟨J1, hJ1⟩ : ∃ J1 : Jn, J1 = ⟨ins, first, mm⟩ := ⟨_, rfl⟩;obtain ⟨J2, hJ2⟩ : ∃ J2 : Jn, J2 = ⟨ins, first, mm ++ [⟨kd, bn, it, lo, hi'⟩]⟩ := ⟨_, rfl⟩;have hl1 : JLim J1 F1 MM := by rw [hJ1]; exact ⟨hF1, u4, by show first.length <= 100; omega, by show mm.length <= 100; omega⟩
 have hi1' : J1.ins = ins := by rw [hJ1]
 have hi2' : J2.ins = ins := by rw [hJ2]
 have hml2 : mm.length + 1 <= 100 := by omega
 refine Z3 Z0 hA hS ?_;cbv;refine Z16 Z0 hA hS [0, 1, 2, 3, 4, 5, 6] rfl rfl fun Dk hD => ?_;cbv;refine Zq hA hD [.agg [I ins, .sl 1 F1, .sl 5 MM], .agg [I kd, I bn, I it, I lo, I hi']] [] [] rfl rfl rfl rfl rfl rfl rfl rfl rfl rfl rfl (by decide) trivial (Zql ins F1 MM ⟨kd, bn, it, lo, hi'⟩ mm.length hMl hm1000 _ fun M2 hM2 => ⟨by cbv; repeat' (first | exact trivial | exact rfl | refine ⟨?_, ?_⟩), Zx Z0 hA hD ?_⟩);have hl2 : JLim J2 F1 M2 := by rw [hJ2]; exact ⟨hF1, by rw [hM2, u4, List.map_append]; rfl, by show first.length <= 100; omega, by show (mm ++ [_]).length <= 100; rw [List.length_append]; exact hml2⟩
 cbv;obtain ⟨SS, hSS⟩ : ∃ SS : List D, SS = [.agg [I j.ins, .sl 1 FL, .sl 5 ML], .agg [I ins, .sl 1 F1, .sl 5 MM], .agg [I ins, .sl 1 F1, .sl 5 M2]] := ⟨_, rfl⟩;have hSl : SS.length = 3 := by rw [hSS]; rfl
 refine Zb hS ?_;refine Za (α := Int × Nat) (fun q => { env := [(10, .sl 3 SS), (11, I q.1)], H := [], nt := 141, dfs := [] })
  (fun q => 3 - q.2) (fun q => q.2 <= 3 /\ IsI q.1 q.2) (0, 0) ⟨by decide, ⟨rfl⟩⟩ ?_ ?_
 ·refine Z1a hA [4] ?_;cbv;exact ⟨Ze hA rfl, Ze hA rfl, Zf [] ⟨by decide, Z9, trivial, ⟨by rw [hSS]; rfl, rfl, trivial⟩, rfl, rfl⟩⟩
 rintro ⟨t, s⟩ ⟨v1, v2⟩;dsimp only at v1 v2;refine Z2w Z0 hA hS [] ?_;cbv;refine bm (fun c2 => ?_) (fun c2 => ?_)
 ·have hs : s < 3 := Z31 hA hSl v2 c2;obtain ⟨z, FZ, MZ, hz, hSk⟩ : ∃ (z : Jn) (FZ MZ : List D), JLim z FZ MZ /\ SS[s]? = some (.agg [I z.ins, .sl 1 FZ, .sl 5 MZ]) := by
   match s, hs with
   | 0, _ => exact ⟨j, FL, ML, hj1, by rw [hSS]; rfl⟩
   | 1, _ => exact ⟨J1, F1, MM, hl1, by rw [hSS, hi1']; rfl⟩
   | 2, _ => exact ⟨J2, F1, M2, hl2, by rw [hSS, hi2']; rfl⟩
  have iS := Z1b hA hSl v2 hs;have gS := Z18 hA v2 hSk;have hf := Zy hA v2 (by omega);have hv2 := Zz hA v2;have hms : 3 - (s + 1) < 3 - s := by omega
  obtain ⟨sv, hsv⟩ : ∃ sv, sv = stV z := ⟨_, rfl⟩;obtain ⟨e0, he0⟩ : ∃ e0, e0 = Zr z := ⟨_, rfl⟩;obtain ⟨e, he⟩ : ∃ e, e = Za5 z := ⟨_, rfl⟩;obtain ⟨L1, hL1⟩ : ∃ L1, L1 = okL e ((Z6g z).map rgD) := ⟨_, rfl⟩;obtain ⟨L2, hL2⟩ : ∃ L2, L2 = okL e ((Z4c z).map rgD) := ⟨_, rfl⟩;have hcp := fun Q h => hz.copy z.ins Q h;have hsm := fun Q h => hz.same Q h;have p1 := fun Q h => Zty z hz.fl hz.ml FZ MZ hz.F hz.M sv hsv e0 he0 Q h;have p2 := fun Q h => Ztz z hz.fl hz.ml FZ MZ hz.F hz.M sv hsv e0 he0 Q h;have p3 := fun Q h => Zxd z hz.fl hz.ml FZ MZ hz.F hz.M e he L1 hL1 Q h;have p4 := fun Q h => Zxg z hz.fl hz.ml FZ MZ hz.F hz.M e he L1 hL1 Q h;have p5 := fun Q h => Zxe z hz.fl hz.ml FZ MZ hz.F hz.M e he L2 hL2 Q h;have p6 := fun Q h => Zxf z hz.fl hz.ml FZ MZ hz.F hz.M e he L2 hL2 Q h;have p7 := fun Q h => Zbv z hz.fl hz.ml FZ MZ hz.F hz.M e0 he0 Q h;have p8 := fun Q h => Zdo z hz.fl hz.ml FZ MZ hz.F hz.M e0 he0 Q h;have q1 := fun Q h => hz.sameL e L1 hL1 Q h;have q2 := fun Q h => hz.sameR e L2 hL2 Q h;have b0 := Zyl hA e0;have bb := Zzw hA sv;have b1 := Zyl hA e;obtain ⟨zi, hzi⟩ : ∃ zi, zi = z.ins := ⟨_, rfl⟩;rw [<- hzi] at gS hcp hsm p1 p2 p3 p4 p5 p6 p7 p8;clear hL1 hL2 hsv he0 he hSS hJ1 hJ2 hl1 hl2 hj1;cbv;refine ⟨iS, ⟨_, gS, ?_⟩⟩;cbv;refine Z4 hS [.agg [I zi, .sl 1 FZ, .sl 5 MZ]] [] [] rfl rfl rfl rfl rfl rfl rfl rfl (by decide) trivial (hcp _ ?_);refine Z3 Z0 hA hS ?_;cbv;refine Z4 hS [.agg [I zi, .sl 1 FZ, .sl 5 MZ]] [] [] rfl rfl rfl rfl rfl rfl rfl rfl (by decide) trivial (p1 _ ?_);refine Z3 Z0 hA hS ?_;cbv;refine ⟨iS, ⟨_, gS, ?_⟩⟩;cbv;refine Z4 hS [.agg [I zi, .sl 1 FZ, .sl 5 MZ]] [] [] rfl rfl rfl rfl rfl rfl rfl rfl (by decide) trivial (p2 _ ?_);refine Z3 Z0 hA hS ?_;cbv;refine Z4 hS [.agg [I zi, .sl 1 FZ, .sl 5 MZ]] [] [] rfl rfl rfl rfl rfl rfl rfl rfl (by decide) trivial (p3 _ ?_);refine Z3 Z0 hA hS ?_;cbv;refine ⟨iS, ⟨_, gS, ?_⟩⟩;cbv;refine Z4 hS [.agg [I zi, .sl 1 FZ, .sl 5 MZ]] [] [] rfl rfl rfl rfl rfl rfl rfl rfl (by decide) trivial (p4 _ ?_);refine Z3 Z0 hA hS ?_;cbv;refine Z4 hS [.agg [I zi, .sl 1 FZ, .sl 5 MZ]] [] [] rfl rfl rfl rfl rfl rfl rfl rfl (by decide) trivial (p5 _ ?_);refine Z3 Z0 hA hS ?_;cbv;refine ⟨iS, ⟨_, gS, ?_⟩⟩;cbv;refine Z4 hS [.agg [I zi, .sl 1 FZ, .sl 5 MZ]] [] [] rfl rfl rfl rfl rfl rfl rfl rfl (by decide) trivial (p6 _ ?_);refine Z3 Z0 hA hS ?_;cbv;refine Z16 Z0 hA hS [0, 2, 3, 4, 5, 1, 6, 7, 8, 9, 10, 11, 12, 13, 14, 15, 16, 17, 18, 19, 20, 21, 22, 23, 24, 25, 26, 27, 28, 29, 30, 31, 32, 33, 34, 35, 36, 37, 38, 39, 40, 41, 42, 43, 44, 45, 46, 47, 48] rfl rfl fun Dk hD => ?_;cbv;refine ⟨iS, ⟨_, gS, ?_⟩⟩;cbv;refine Zq hA hD [.agg [I zi, .sl 1 FZ, .sl 5 MZ]] [] [] rfl rfl rfl rfl rfl rfl rfl rfl rfl rfl rfl (by decide) trivial (p7 _ ⟨by cbv; repeat' (first | exact trivial | exact Need.mk ⟨_, gS, rfl⟩ | exact iS | refine ⟨?_, ?_⟩), Zx Z0 hA hD ?_⟩);cbv;refine Zq hA hD [.agg [I zi, .sl 1 FZ, .sl 5 MZ]] [] [] rfl rfl rfl rfl rfl rfl rfl rfl rfl rfl rfl (by decide) trivial (p8 _ ⟨by cbv; repeat' (first | exact trivial | exact Need.mk ⟨_, gS, rfl⟩ | exact iS | refine ⟨?_, ?_⟩), Z63 Z0 hA hD [7] ?_⟩);cbv;refine Z9n Z0 hA hD [11] (.v (.bool false)) rfl rfl rfl rfl rfl rfl (congrArg (fun b => D.v (.bool b)) b0) ?_;cbv;refine Z5s Z0 hA hD [16] (.v (.bool false)) rfl rfl rfl rfl rfl rfl rfl rfl rfl (congrArg (fun b => D.v (.bool b)) bb) ?_;cbv;refine Z5s Z0 hA hD [21] (.v (.bool false)) rfl rfl rfl rfl rfl rfl rfl rfl rfl (congrArg (fun b => D.v (.bool b)) b0) ?_;cbv;refine Z5s Z0 hA hD [26] (.v (.bool false)) rfl rfl rfl rfl rfl rfl rfl rfl rfl (congrArg (fun b => D.v (.bool b)) b1) ?_;cbv;refine Z5s Z0 hA hD [] (.v (.bool false)) rfl rfl rfl rfl rfl rfl rfl rfl rfl (congrArg (fun b => D.v (.bool b)) b1) ?_;cbv;refine Zbm hA hD (b := false) rfl rfl rfl rfl rfl rfl rfl rfl rfl rfl rfl (fun _ => ⟨[], _, [.sl 2 L1, .sl 2 L1], [], [], rfl, rfl, rfl, by decide, trivial, q1 _ ⟨by cbv; repeat' (first | exact trivial | exact Need.mk ⟨_, gS, rfl⟩ | refine ⟨?_, ?_⟩), Z63 Z0 hA hD [32] ?_⟩⟩) (fun h => absurd rfl h);cbv;refine Z5s Z0 hA hD [] (.v (.bool false)) rfl rfl rfl rfl rfl rfl rfl rfl rfl (congrArg (fun b => D.v (.bool b)) hbn) ?_;cbv;refine Zbm hA hD (b := false) rfl rfl rfl rfl rfl rfl rfl rfl rfl rfl rfl (fun _ => ⟨[], _, [.sl 2 L2, .sl 2 L2], [], [], rfl, rfl, rfl, by decide, trivial, q2 _ ⟨by cbv; repeat' (first | exact trivial | exact Need.mk ⟨_, gS, rfl⟩ | refine ⟨?_, ?_⟩), Z63 Z0 hA hD [38] ?_⟩⟩) (fun h => absurd rfl h);cbv;refine Z5s Z0 hA hD [] (.v (.bool false)) rfl rfl rfl rfl rfl rfl rfl rfl rfl (congrArg (fun b => D.v (.bool b)) hbn) ?_;cbv;refine ⟨iS, ⟨_, gS, ?_⟩⟩;cbv;refine Zbm hA hD (b := false) rfl rfl rfl rfl rfl rfl rfl rfl rfl rfl rfl (fun _ => ⟨[], _, [.agg [I zi, .sl 1 FZ, .sl 5 MZ], .agg [I zi, .sl 1 FZ, .sl 5 MZ]], [], [], rfl, rfl, rfl, by decide, trivial, hsm _ ⟨by cbv; repeat' (first | exact trivial | exact Need.mk ⟨_, gS, rfl⟩ | refine ⟨?_, ?_⟩), Z63 Z0 hA hD [47] ?_⟩⟩) (fun h => absurd rfl h);cbv;refine Z5s Z0 hA hD [] (.v (.bool false)) rfl rfl rfl rfl rfl rfl rfl rfl rfl (congrArg (fun b => D.v (.bool b)) hbn) ?_;cbv;refine ⟨hf, ?_⟩;refine Z8 (A.add t 1, s + 1) [] ⟨hs, hv2⟩ hms ?_;exact ⟨by decide, Z9, trivial, ⟨rfl, rfl, trivial⟩, rfl, rfl⟩
 ·cbv;refine Z7 ?_;cbv;refine Z4 hS [] [] [] rfl rfl rfl rfl rfl rfl rfl rfl (by decide) trivial (Zov _ ?_);refine Z3 Z0 hA hS ?_;cbv;exact Z2 [] (by decide) Z9 (H' := []) (d' := .v (.bool true)) trivial rfl (Z1 hq)
end Go.Proofs.Ytecfpfhkicapeaa
