/- Part TyBE of the proofs about the benches of the accordion maker: see the last text of the claim for what is proved. -/
import Derived.Test.YthljpccegkmdnaaGreatDoorTyBC
import Derived.Test.YthljpccegkmdnaaGreatDoorTyBD
import Derived.Test.YthljpccegkmdnaaGreatDoorTyAZ
import Derived.Test.YthljpccegkmdnaaGreatDoorTyAP
import Derived.Test.YthljpccegkmdnaaGreatDoorTyAQ
import Derived.Test.YthljpccegkmdnaaGreatDoorTyAW
import Derived.Test.YthljpccegkmdnaaGreatDoorTyAV
set_option linter.unusedVariables false
set_option linter.unusedSimpArgs false
set_option linter.unnecessarySimpa false
set_option linter.constructorNameAsVariable false

namespace Go.Txt
open Go
open Go.Proofs.YthljpccegkmdnaaGreatDoor.Bn (Sh Tk Wk Val Za5 Z1cw)
theorem Z16t : ∀ (l : List Tk) (m : Nat), Z1cw (l.take m) <= Z1cw l
 | [], m => by simp
 | t :: l, 0 => by simp [Z1cw]
 | t :: l, m + 1 => by have := Z16t l m; simp only [Z1cw, List.take_succ_cons, List.map_cons, List.sum_cons] at this ⊢; omega
theorem Z1lz : ∀ {l : List Tk} {t : Tk}, t ∈ l -> t.works.length <= Z1cw l
 | x :: l, t, h => by
  simp only [Z1cw, List.map_cons, List.sum_cons];rcases List.mem_cons.1 h with rfl | h
  ·omega
  ·have := Z1lz h; simp only [Z1cw] at this; omega
def Z1lo (t : Tk) (l : Nat) : By := ordW ++ [32] ++ Lib.itoa t.ready ++ [32] ++ Lib.itoa t.due ++ (t.works.take l).flatMap Z1m3
theorem Z1mr (t : Tk) : Z1le t = Z1lo t t.works.length ++ [10] := by unfold Z1le Z1lo; rw [List.take_length]
theorem Z1np {s : Sh} (h : Val s) : (Z1lb s).length <= 12 := by
 have a := (Z1j3 (n := s.benches) (by have := h.b0; omega) (by have := h.b1; omega)).2;have b : benW.length = 7 := rfl;unfold Z1lb;simp only [List.length_append, List.length_cons, List.length_nil]; omega
theorem Z1m0 {s : Sh} (h : Val s) (k : Nat) : (Z1lb s ++ (s.tasks.take k).flatMap Z1le).length <= 200 := by
 have n := Z1n9 h;have a := Z1mz (l := s.tasks.take k) fun t ht => Z1o5 (n.rd t (List.mem_of_mem_take ht)) (n.du t (List.mem_of_mem_take ht)) (n.wk t (List.mem_of_mem_take ht));have b := Z16t s.tasks k;have c := Z1np h;have d := h.len;have e := h.sum;rw [List.length_append];rw [List.length_take] at a;omega
theorem Z1nc {s : Sh} (h : Val s) {t : Tk} (ht : t ∈ s.tasks) (k l : Nat) : (Z1lb s ++ (s.tasks.take k).flatMap Z1le ++ Z1lo t l).length <= 400 := by
 have n := Z1n9 h;have a := Z1m0 h k;have b := (Z1j3 (n.rd t ht).1 (n.rd t ht).2).2;have c := (Z1j3 (n.du t ht).1 (n.du t ht).2).2;have d := Z1mb (l := t.works.take l) fun w hw => n.wk t ht w (List.mem_of_mem_take hw);have e := Z1lz ht;have f := h.sum;have g : ordW.length = 5 := rfl;rw [List.length_append];unfold Z1lo;simp only [List.length_append, List.length_cons, List.length_nil];rw [List.length_append] at a;rw [List.length_take] at d;omega
end Go.Txt
namespace Go.Proofs.YthljpccegkmdnaaGreatDoor
open Go Go.Abs Go.Proofs Go.Txt
open Bn (Sh Tk Wk Z14x Z14z Za5 Val)
set_option maxRecDepth 20000 in
set_option maxHeartbeats 8000000 in
theorem Z1or (s : Sh) (hs : Bn.Fin s) (TL : List D) (hT : TL = s.tasks.map Z14z) (Q)
  (h1 : Za5 s = 0 -> ∀ x, IsT x (Z1ll s) -> Q (RA.ret (.tup [.v (.string x), I 0])) []) (h2 : ∀ e, e = Za5 s -> e ≠ 0 -> Q (RA.ret (.tup [tD [], I e])) []) :
  CallA Tryz.prog 37 [.agg [I s.benches, .sl 3 TL]] [] Q := by
 obtain ⟨A, hA⟩ : ∃ A, A = ar := ⟨_, rfl⟩;obtain ⟨e0, he0⟩ : ∃ e, e = Za5 s := ⟨_, rfl⟩;have qC := fun Q h => Bn.bCheck s hs TL hT e0 he0 Q h;have hh2 := h2 e0 he0;obtain ⟨nb, hnb⟩ : ∃ nb, nb = s.benches := ⟨_, rfl⟩;rw [<- hnb] at qC;rw [<- hnb];refine Z38 Z0 hA [] Tryz.func37 rfl rfl rfl rfl rfl fun S hS => ?_;cbv;refine Z4 hS [.agg [I nb, .sl 3 TL]] [] [] rfl rfl rfl rfl rfl rfl rfl rfl (by decide) trivial (qC _ ?_);refine Z3 Z0 hA hS ?_
 by_cases g0 : e0 = 0
 ·have c0 : A.cmp .neq e0 0 = false := by subst hA; simp [ar, Z25, g0]
  have hv : Val s := Bn.chkS_val (by rw [<- he0, g0]);have h1' := h1 (by rw [<- he0, g0]);clear h1 h2 hh2 qC he0;obtain ⟨ti, hti⟩ : ∃ t, t = Lib.itoa nb := ⟨_, rfl⟩;have hb0 := hv.b0;have hb1 := hv.b1;have hl4 := hv.len;have kI := fun Q h => Z1h3 nb ti hti (by omega) (by omega) Q h;have zi : SzB (bs ti) 3 := .lit _ (by rw [hti]; exact (Z1j3 (by omega) (by omega)).2);have zj : SzB (bs [98, 101, 110, 99, 104, 101, 115, 32]) 8 := .lit _ (Nat.le_refl _);have zo : SzB (bs [111, 114, 100, 101, 114, 32]) 6 := .lit _ (Nat.le_refl _);have z1 : ∀ c, SzB (bs [c]) 1 := fun c => .lit _ (Nat.le_refl _);have oj := scO hA zj zi (by decide);have oj2 := scO hA (zj.cat hA zi) (z1 10) (by decide);have hx0 : IsT (A.scat (A.scat (bs [98, 101, 110, 99, 104, 101, 115, 32]) (bs ti)) (bs [10])) (Z1lb s) := (((IsT.lit [98, 101, 110, 99, 104, 101, 115, 32]).cat hA (.lit ti)).cat hA (.lit [10])).of (by rw [hti, hnb]; simp [Z1lb, benW]);have hTl : TL.length = s.tasks.length := by rw [hT, List.length_map]
  cbv;refine bmF c0 ?_;cbv;refine Z4 hS [I nb] [] [] rfl rfl rfl rfl rfl rfl rfl rfl (by decide) trivial (kI _ ?_);refine Z3 Z0 hA hS ?_;cbv;refine ⟨oj, oj2, ?_⟩;refine Zb hS ?_;refine Za (α := Int × Nat × ByteArray) (fun q => { env := [(1, .b 0 0), (5, .v (.string q.2.2)), (21, .sl 3 TL), (22, I (A.oi (A.len TL))), (23, I q.1)], H := [.box (.agg [I nb, .sl 3 TL])], nt := 69, dfs := [] })
   (fun q => s.tasks.length - q.2.1) (fun q => q.2.1 <= s.tasks.length /\ IsI q.1 q.2.1 /\ IsT q.2.2 (Z1lb s ++ (s.tasks.take q.2.1).flatMap Z1le)) (0, 0, A.scat (A.scat (bs [98, 101, 110, 99, 104, 101, 115, 32]) (bs ti)) (bs [10])) ⟨Nat.zero_le _, ⟨rfl⟩, hx0.of (by simp)⟩ ?_ ?_
  ·exact Zf [0] ⟨by decide, Z9, ⟨rfl, trivial⟩, ⟨rfl, rfl, rfl, rfl, rfl, trivial⟩, rfl, rfl⟩
  rintro ⟨i, k, x⟩ ⟨u1, u2, u3⟩;dsimp only at u1 u2 u3;have zx : SzB x 200 := u3.sz (Z1m0 hv k);refine Z2w Z0 hA hS [] ?_
  by_cases hk : k < s.tasks.length
  ·have d1 : A.cmp .lss i (A.oi (A.len TL)) = true := by rw [yoiL hA hTl, u2.eq]; subst hA; simp [ar, Z25]; omega
   obtain ⟨t, htk⟩ : ∃ t, s.tasks[k]? = some t := ⟨_, List.getElem?_eq_getElem hk⟩;have htm := List.mem_of_getElem? htk;have hrd := hv.rd t htm;have hdu := hv.du t htm;have hwk := hv.wk t htm;have hw8 := Nat.le_trans (Z1lz htm) hv.sum;have hmid := fun l => Z1nc hv htm k l;obtain ⟨r, d, ws⟩ := t;dsimp only at hrd hdu hwk hw8;obtain ⟨WL, hWL⟩ : ∃ WL, WL = ws.map Z14x := ⟨_, rfl⟩;have hWl : WL.length = ws.length := by rw [hWL, List.length_map]
   have ii := Z1b hA hTl u2 hk;have gg : A.get TL (A.tn i) = some (.agg [I r, I d, .sl 3 WL]) := Z18 hA u2 (by rw [hT, List.getElem?_map, htk, hWL]; rfl);have hf1 := Zy hA u2 (by omega);have hu2 := Zz hA u2;have hms : s.tasks.length - (k + 1) < s.tasks.length - k := by omega
   obtain ⟨tr, htr⟩ : ∃ t, t = Lib.itoa r := ⟨_, rfl⟩;have ktr := fun Q h => Z1h3 r tr htr (by omega) (by omega) Q h;have ztr : SzB (bs tr) 3 := .lit _ (by rw [htr]; exact (Z1j3 (by omega) (by omega)).2);obtain ⟨td, htd⟩ : ∃ t, t = Lib.itoa d := ⟨_, rfl⟩;have ktd := fun Q h => Z1h3 d td htd (by omega) (by omega) Q h;have ztd : SzB (bs td) 3 := .lit _ (by rw [htd]; exact (Z1j3 (by omega) (by omega)).2);have w1 := zo.cat hA ztr;have w2 := w1.cat hA (z1 32);have w3 := w2.cat hA ztd;have p1 := scO hA zo ztr (by decide);have p2 := scO hA w1 (z1 32) (by decide);have p3 := scO hA w2 ztd (by decide);have p4 := scO hA zx w3 (by decide);have hy0 : IsT (A.scat x (A.scat (A.scat (A.scat (bs [111, 114, 100, 101, 114, 32]) (bs tr)) (bs [32])) (bs td))) (Z1lb s ++ (s.tasks.take k).flatMap Z1le ++ Z1lo ⟨r, d, ws⟩ 0) := (u3.cat hA ((((IsT.lit [111, 114, 100, 101, 114, 32]).cat hA (.lit tr)).cat hA (.lit [32])).cat hA (.lit td))).of (by rw [htr, htd]; simp [Z1lo, ordW]);have hlast : Z1lb s ++ (s.tasks.take k).flatMap Z1le ++ Z1lo ⟨r, d, ws⟩ ws.length ++ [10] = Z1lb s ++ (s.tasks.take (k + 1)).flatMap Z1le := by
    have e := Z1mr ⟨r, d, ws⟩;dsimp only at e;rw [List.take_add_one, htk]; simp [e]
   clear htk hT htm;cbv;refine bmT d1 ?_;cbv;refine ⟨ii, Need.mk ⟨_, gg, ?_⟩⟩;cbv;refine Z16 Z0 hA hS [0, 1, 2, 6, 7, 3, 4, 5, 8, 9, 10, 11] rfl rfl fun Dk hD => ?_;cbv;refine Zq hA hD [I r] [] [] rfl rfl rfl rfl rfl rfl rfl rfl rfl rfl rfl (by decide) trivial (ktr _ ⟨by cbv; repeat' (first | exact trivial | exact rfl | refine ⟨?_, ?_⟩), Zx Z0 hA hD ?_⟩);cbv;refine ⟨p1, p2, ?_⟩;refine Zq hA hD [I d] [] [] rfl rfl rfl rfl rfl rfl rfl rfl rfl rfl rfl (by decide) trivial (ktd _ ⟨by cbv; repeat' (first | exact trivial | exact p1 | exact p2 | exact rfl | refine ⟨?_, ?_⟩), Zx Z0 hA hD ?_⟩);cbv;refine ⟨p3, p4, ?_⟩;refine Zb hS ?_;refine Za (α := Int × Nat × ByteArray) (fun q => { env := [(1, .b 0 0), (5, .v (.string q.2.2)), (21, .sl 3 TL), (22, I (A.oi (A.len TL))), (23, I i), (39, .sl 3 WL), (40, I (A.oi (A.len WL))), (41, I q.1)], H := [.box (.agg [I nb, .sl 3 TL])], nt := 69, dfs := [] })
    (fun q => ws.length - q.2.1) (fun q => q.2.1 <= ws.length /\ IsI q.1 q.2.1 /\ IsT q.2.2 (Z1lb s ++ (s.tasks.take k).flatMap Z1le ++ Z1lo ⟨r, d, ws⟩ q.2.1)) (0, 0, A.scat x (A.scat (A.scat (A.scat (bs [111, 114, 100, 101, 114, 32]) (bs tr)) (bs [32])) (bs td))) ⟨Nat.zero_le _, ⟨rfl⟩, hy0⟩ ?_ ?_
   ·exact Zf [0] ⟨by decide, Z9, ⟨rfl, trivial⟩, ⟨rfl, rfl, rfl, rfl, rfl, rfl, rfl, rfl, trivial⟩, rfl, rfl⟩
   rintro ⟨j, l, y⟩ ⟨v1, v2, v3⟩;dsimp only at v1 v2 v3;have zy : SzB y 400 := v3.sz (hmid l);refine Z2w Z0 hA hS [] ?_
   by_cases hl : l < ws.length
   ·have d8 : A.cmp .lss j (A.oi (A.len WL)) = true := by rw [yoiL hA hWl, v2.eq]; subst hA; simp [ar, Z25]; omega
    obtain ⟨w, hwl⟩ : ∃ w, ws[l]? = some w := ⟨_, List.getElem?_eq_getElem hl⟩;have hnum := hwk w (List.mem_of_getElem? hwl);obtain ⟨b, lo, hi⟩ := w;dsimp only at hnum;obtain ⟨m1, m2, m3, m4, m5⟩ := hnum;have jj := Z1b hA hWl v2 hl;have gj : A.get WL (A.tn j) = some (.agg [I b, I lo, I hi]) := Z18 hA v2 (by rw [hWL, List.getElem?_map, hwl]; rfl);have hf2 := Zy hA v2 (by omega);have hv2 := Zz hA v2;have hms2 : ws.length - (l + 1) < ws.length - l := by omega
    obtain ⟨tb, htb⟩ : ∃ t, t = Lib.itoa b := ⟨_, rfl⟩;have ktb := fun Q h => Z1h3 b tb htb (by omega) (by omega) Q h;have ztb : SzB (bs tb) 3 := .lit _ (by rw [htb]; exact (Z1j3 (by omega) (by omega)).2);obtain ⟨tl, htl⟩ : ∃ t, t = Lib.itoa lo := ⟨_, rfl⟩;have ktl := fun Q h => Z1h3 lo tl htl (by omega) (by omega) Q h;have ztl : SzB (bs tl) 3 := .lit _ (by rw [htl]; exact (Z1j3 (by omega) (by omega)).2);obtain ⟨th, hth⟩ : ∃ t, t = Lib.itoa hi := ⟨_, rfl⟩;have kth := fun Q h => Z1h3 hi th hth (by omega) (by omega) Q h;have zth : SzB (bs th) 3 := .lit _ (by rw [hth]; exact (Z1j3 (by omega) (by omega)).2);have o1 := scO hA (z1 32) ztb (by decide);have s1 := SzB.cat hA (z1 32) ztb;have o2 := scO hA s1 (z1 58) (by decide);have s2 := SzB.cat hA s1 (z1 58);have o3 := scO hA s2 ztl (by decide);have s3 := SzB.cat hA s2 ztl;have o4 := scO hA s3 (z1 45) (by decide);have s4 := SzB.cat hA s3 (z1 45);have o5 := scO hA s4 zth (by decide);have s5 := SzB.cat hA s4 zth;have o6 := scO hA zy s5 (by decide);have hy1 : IsT (A.scat y (A.scat (A.scat (A.scat (A.scat (A.scat (bs [32]) (bs tb)) (bs [58])) (bs tl)) (bs [45])) (bs th))) (Z1lb s ++ (s.tasks.take k).flatMap Z1le ++ Z1lo ⟨r, d, ws⟩ (l + 1)) := (v3.cat hA ((((((IsT.lit [32]).cat hA (.lit tb)).cat hA (.lit [58])).cat hA (.lit tl)).cat hA (.lit [45])).cat hA (.lit th))).of (by unfold Z1lo; dsimp only; rw [List.take_add_one, hwl, htb, htl, hth]; simp [Z1m3]);clear hwl hWL;cbv;refine bmT d8 ?_;cbv;refine ⟨jj, Need.mk ⟨_, gj, ?_⟩⟩;cbv;refine Z16 Z0 hA hS [0, 1, 2, 6, 7, 8, 12, 13, 14, 3, 4, 5, 9, 10, 11, 15, 16, 17, 18] rfl rfl fun Dk hD => ?_;cbv;refine Zq hA hD [I b] [] [] rfl rfl rfl rfl rfl rfl rfl rfl rfl rfl rfl (by decide) trivial (ktb _ ⟨by cbv; repeat' (first | exact trivial | exact rfl | refine ⟨?_, ?_⟩), Zx Z0 hA hD ?_⟩);cbv;refine ⟨o1, o2, ?_⟩;refine Zq hA hD [I lo] [] [] rfl rfl rfl rfl rfl rfl rfl rfl rfl rfl rfl (by decide) trivial (ktl _ ⟨by cbv; repeat' (first | exact trivial | exact o1 | exact o2 | exact rfl | refine ⟨?_, ?_⟩), Zx Z0 hA hD ?_⟩);cbv;refine ⟨o3, o4, ?_⟩;refine Zq hA hD [I hi] [] [] rfl rfl rfl rfl rfl rfl rfl rfl rfl rfl rfl (by decide) trivial (kth _ ⟨by cbv; repeat' (first | exact trivial | exact o1 | exact o2 | exact o3 | exact o4 | exact rfl | refine ⟨?_, ?_⟩), Zx Z0 hA hD ?_⟩);cbv;refine ⟨o5, o6, hf2, ?_⟩;refine Z8 (A.add j 1, l + 1, A.scat y (A.scat (A.scat (A.scat (A.scat (A.scat (bs [32]) (bs tb)) (bs [58])) (bs tl)) (bs [45])) (bs th))) [0] ⟨hl, hv2, hy1⟩ hms2 ?_;exact ⟨by decide, Z9, ⟨rfl, trivial⟩, ⟨rfl, rfl, rfl, rfl, rfl, rfl, rfl, rfl, trivial⟩, rfl, rfl⟩
   ·have d8 : A.cmp .lss j (A.oi (A.len WL)) = false := by rw [yoiL hA hWl, v2.eq]; subst hA; simp [ar, Z25]; omega
    have el : l = ws.length := by omega
    subst el;have ox := scO hA zy (z1 10) (by decide);have hx1 : IsT (A.scat y (bs [10])) (Z1lb s ++ (s.tasks.take (k + 1)).flatMap Z1le) := (v3.cat hA (.lit [10])).of hlast;clear hlast v3;cbv;refine bmF d8 ?_;cbv;refine Z7 ?_;cbv;refine ⟨ox, hf1, ?_⟩;refine Z8 (A.add i 1, k + 1, A.scat y (bs [10])) [0] ⟨hk, hu2, hx1⟩ hms ?_;exact ⟨by decide, Z9, ⟨rfl, trivial⟩, ⟨rfl, rfl, rfl, rfl, rfl, trivial⟩, rfl, rfl⟩
  ·have d1 : A.cmp .lss i (A.oi (A.len TL)) = false := by rw [yoiL hA hTl, u2.eq]; subst hA; simp [ar, Z25]; omega
   rw [List.take_of_length_le (by omega)] at u3;have w1 : SzB (bs [99, 108, 111, 115, 101, 100, 10]) 7 := .lit _ (Nat.le_refl _);have ox := scO hA zx w1 (by decide);have hz := h1' (A.scat x (bs [99, 108, 111, 115, 101, 100, 10])) ((u3.cat hA (.lit [99, 108, 111, 115, 101, 100, 10])).of (by unfold Z1ll; simp [Z1lf]));cbv;refine bmF d1 ?_;cbv;refine Z7 ?_;cbv;refine ⟨ox, ?_⟩;exact Z2 [] (by decide) Z9 (H' := []) (d' := .tup [.v (.string (A.scat x (bs [99, 108, 111, 115, 101, 100, 10]))), I 0]) trivial rfl (Z1 hz)
 ·have c0 : A.cmp .neq e0 0 = true := by subst hA; simp [ar, Z25, g0]
  have hz := hh2 g0;cbv;refine bmT c0 ?_;cbv;exact Z2 [] (by decide) Z9 (H' := []) (d' := .tup [tD [], I e0]) trivial rfl (Z1 hz)
end Go.Proofs.YthljpccegkmdnaaGreatDoor

namespace Go.Proofs.YthljpccegkmdnaaGreatDoor
open Go Go.Abs Go.Proofs Go.Txt
open Bn (Sh Tk Wk Z14x Z14z Za5 Val)
set_option maxRecDepth 20000 in
set_option maxHeartbeats 8000000 in
theorem Z1os (s : Sh) (hs : Bn.Fin s) (TL : List D) (hT : TL = s.tasks.map Z14z) (Q)
  (h1 : Za5 s = 0 -> ∀ x, IsT x (Z1ll s) -> Q (RA.ret (.tup [.v (.string x), I 0])) []) (h2 : ∀ e, e = Za5 s -> e ≠ 0 -> Q (RA.ret (.tup [tD [], I e])) []) :
  CallA Tryz.prog 38 [.agg [I s.benches, .sl 3 TL]] [] Q := by
 obtain ⟨A, hA⟩ : ∃ A, A = ar := ⟨_, rfl⟩;obtain ⟨e0, he0⟩ : ∃ e, e = Za5 s := ⟨_, rfl⟩;have qC := fun Q h => Bn.cCheck s hs TL hT e0 he0 Q h;have hh2 := h2 e0 he0;obtain ⟨nb, hnb⟩ : ∃ nb, nb = s.benches := ⟨_, rfl⟩;rw [<- hnb] at qC;rw [<- hnb];refine Z38 Z0 hA [] Tryz.func38 rfl rfl rfl rfl rfl fun S hS => ?_;cbv;refine Z4 hS [.agg [I nb, .sl 3 TL]] [] [] rfl rfl rfl rfl rfl rfl rfl rfl (by decide) trivial (qC _ ?_);refine Z3 Z0 hA hS ?_
 by_cases g0 : e0 = 0
 ·have c0 : A.cmp .neq e0 0 = false := by subst hA; simp [ar, Z25, g0]
  have hv : Val s := Bn.chkS_val (by rw [<- he0, g0]);have h1' := h1 (by rw [<- he0, g0]);clear h1 h2 hh2 qC he0;obtain ⟨ti, hti⟩ : ∃ t, t = Lib.itoa nb := ⟨_, rfl⟩;have hb0 := hv.b0;have hb1 := hv.b1;have hl4 := hv.len;have kI := fun Q h => Z1h3 nb ti hti (by omega) (by omega) Q h;have zi : SzB (bs ti) 3 := .lit _ (by rw [hti]; exact (Z1j3 (by omega) (by omega)).2);have zj : SzB (bs [98, 101, 110, 99, 104, 101, 115, 32]) 8 := .lit _ (Nat.le_refl _);have zo : SzB (bs [111, 114, 100, 101, 114, 32]) 6 := .lit _ (Nat.le_refl _);have z1 : ∀ c, SzB (bs [c]) 1 := fun c => .lit _ (Nat.le_refl _);have oj := scO hA zj zi (by decide);have oj2 := scO hA (zj.cat hA zi) (z1 10) (by decide);have hx0 : IsT (A.scat (A.scat (bs [98, 101, 110, 99, 104, 101, 115, 32]) (bs ti)) (bs [10])) (Z1lb s) := (((IsT.lit [98, 101, 110, 99, 104, 101, 115, 32]).cat hA (.lit ti)).cat hA (.lit [10])).of (by rw [hti, hnb]; simp [Z1lb, benW]);have hTl : TL.length = s.tasks.length := by rw [hT, List.length_map]
  cbv;refine bmF c0 ?_;cbv;refine Z4 hS [I nb] [] [] rfl rfl rfl rfl rfl rfl rfl rfl (by decide) trivial (kI _ ?_);refine Z3 Z0 hA hS ?_;cbv;refine ⟨oj, oj2, ?_⟩;refine Zb hS ?_;refine Za (α := Int × Nat × ByteArray) (fun q => { env := [(1, .b 0 0), (5, .v (.string q.2.2)), (6, I q.1)], H := [.box (.agg [I nb, .sl 3 TL])], nt := 77, dfs := [] })
   (fun q => s.tasks.length - q.2.1) (fun q => q.2.1 <= s.tasks.length /\ IsI q.1 q.2.1 /\ IsT q.2.2 (Z1lb s ++ (s.tasks.take q.2.1).flatMap Z1le)) (0, 0, A.scat (A.scat (bs [98, 101, 110, 99, 104, 101, 115, 32]) (bs ti)) (bs [10])) ⟨Nat.zero_le _, ⟨rfl⟩, hx0.of (by simp)⟩ ?_ ?_
  ·exact Zf [0] ⟨by decide, Z9, ⟨rfl, trivial⟩, ⟨rfl, rfl, rfl, trivial⟩, rfl, rfl⟩
  rintro ⟨i, k, x⟩ ⟨u1, u2, u3⟩;dsimp only at u1 u2 u3;have zx : SzB x 200 := u3.sz (Z1m0 hv k);refine Z2w Z0 hA hS [] ?_
  by_cases hk : k < s.tasks.length
  ·have d1 : A.cmp .lss i (A.oi (A.len TL)) = true := by rw [yoiL hA hTl, u2.eq]; subst hA; simp [ar, Z25]; omega
   obtain ⟨t, htk⟩ : ∃ t, s.tasks[k]? = some t := ⟨_, List.getElem?_eq_getElem hk⟩;have htm := List.mem_of_getElem? htk;have hrd := hv.rd t htm;have hdu := hv.du t htm;have hwk := hv.wk t htm;have hw8 := Nat.le_trans (Z1lz htm) hv.sum;have hmid := fun l => Z1nc hv htm k l;obtain ⟨r, d, ws⟩ := t;dsimp only at hrd hdu hwk hw8;obtain ⟨WL, hWL⟩ : ∃ WL, WL = ws.map Z14x := ⟨_, rfl⟩;have hWl : WL.length = ws.length := by rw [hWL, List.length_map]
   have ii := Z1b hA hTl u2 hk;have gg : A.get TL (A.tn i) = some (.agg [I r, I d, .sl 3 WL]) := Z18 hA u2 (by rw [hT, List.getElem?_map, htk, hWL]; rfl);have hf1 := Zy hA u2 (by omega);have hu2 := Zz hA u2;have hms : s.tasks.length - (k + 1) < s.tasks.length - k := by omega
   obtain ⟨tr, htr⟩ : ∃ t, t = Lib.itoa r := ⟨_, rfl⟩;have ktr := fun Q h => Z1h3 r tr htr (by omega) (by omega) Q h;have ztr : SzB (bs tr) 3 := .lit _ (by rw [htr]; exact (Z1j3 (by omega) (by omega)).2);obtain ⟨td, htd⟩ : ∃ t, t = Lib.itoa d := ⟨_, rfl⟩;have ktd := fun Q h => Z1h3 d td htd (by omega) (by omega) Q h;have ztd : SzB (bs td) 3 := .lit _ (by rw [htd]; exact (Z1j3 (by omega) (by omega)).2);have w1 := zx.cat hA zo;have w2 := w1.cat hA ztr;have w3 := w2.cat hA (z1 32);have p1 := scO hA zx zo (by decide);have p2 := scO hA w1 ztr (by decide);have p3 := scO hA w2 (z1 32) (by decide);have p4 := scO hA w3 ztd (by decide);have hy0 : IsT (A.scat (A.scat (A.scat (A.scat x (bs [111, 114, 100, 101, 114, 32])) (bs tr)) (bs [32])) (bs td)) (Z1lb s ++ (s.tasks.take k).flatMap Z1le ++ Z1lo ⟨r, d, ws⟩ 0) := ((((u3.cat hA (.lit [111, 114, 100, 101, 114, 32])).cat hA (.lit tr)).cat hA (.lit [32])).cat hA (.lit td)).of (by rw [htr, htd]; simp [Z1lo, ordW]);have hlast : Z1lb s ++ (s.tasks.take k).flatMap Z1le ++ Z1lo ⟨r, d, ws⟩ ws.length ++ [10] = Z1lb s ++ (s.tasks.take (k + 1)).flatMap Z1le := by
    have e := Z1mr ⟨r, d, ws⟩;dsimp only at e;rw [List.take_add_one, htk]; simp [e]
   clear htk hT htm;cbv;refine bmT d1 ?_;cbv;refine ⟨ii, Need.mk ⟨_, gg, ?_⟩⟩;cbv;refine Z16 Z0 hA hS [0, 1, 2, 3, 7, 8, 4, 5, 6, 9, 10, 11] rfl rfl fun Dk hD => ?_;cbv;refine ⟨p1, ?_⟩;refine Zq hA hD [I r] [] [] rfl rfl rfl rfl rfl rfl rfl rfl rfl rfl rfl (by decide) trivial (ktr _ ⟨by cbv; repeat' (first | exact trivial | exact p1 | exact rfl | refine ⟨?_, ?_⟩), Zx Z0 hA hD ?_⟩);cbv;refine ⟨p2, p3, ?_⟩;refine Zq hA hD [I d] [] [] rfl rfl rfl rfl rfl rfl rfl rfl rfl rfl rfl (by decide) trivial (ktd _ ⟨by cbv; repeat' (first | exact trivial | exact p1 | exact p2 | exact p3 | exact rfl | refine ⟨?_, ?_⟩), Zx Z0 hA hD ?_⟩);cbv;refine ⟨p4, ?_⟩;refine Zb hS ?_;refine Za (α := Int × Nat × ByteArray) (fun q => { env := [(1, .b 0 0), (5, .v (.string q.2.2)), (6, I i), (7, .b 1 0), (8, I q.1)], H := [.box (.agg [I nb, .sl 3 TL]), .box (.agg [I r, I d, .sl 3 WL])], nt := 77, dfs := [] })
    (fun q => ws.length - q.2.1) (fun q => q.2.1 <= ws.length /\ IsI q.1 q.2.1 /\ IsT q.2.2 (Z1lb s ++ (s.tasks.take k).flatMap Z1le ++ Z1lo ⟨r, d, ws⟩ q.2.1)) (0, 0, A.scat (A.scat (A.scat (A.scat x (bs [111, 114, 100, 101, 114, 32])) (bs tr)) (bs [32])) (bs td)) ⟨Nat.zero_le _, ⟨rfl⟩, hy0⟩ ?_ ?_
   ·exact Zf [0, 1] ⟨by decide, Z9, ⟨rfl, rfl, trivial⟩, ⟨rfl, rfl, rfl, rfl, rfl, trivial⟩, rfl, rfl⟩
   rintro ⟨j, l, y⟩ ⟨v1, v2, v3⟩;dsimp only at v1 v2 v3;have zy : SzB y 400 := v3.sz (hmid l);refine Z2w Z0 hA hS [] ?_
   by_cases hl : l < ws.length
   ·have d8 : A.cmp .lss j (A.oi (A.len WL)) = true := by rw [yoiL hA hWl, v2.eq]; subst hA; simp [ar, Z25]; omega
    obtain ⟨w, hwl⟩ : ∃ w, ws[l]? = some w := ⟨_, List.getElem?_eq_getElem hl⟩;have hnum := hwk w (List.mem_of_getElem? hwl);obtain ⟨b, lo, hi⟩ := w;dsimp only at hnum;obtain ⟨m1, m2, m3, m4, m5⟩ := hnum;have jj := Z1b hA hWl v2 hl;have gj : A.get WL (A.tn j) = some (.agg [I b, I lo, I hi]) := Z18 hA v2 (by rw [hWL, List.getElem?_map, hwl]; rfl);have hf2 := Zy hA v2 (by omega);have hv2 := Zz hA v2;have hms2 : ws.length - (l + 1) < ws.length - l := by omega
    obtain ⟨tb, htb⟩ : ∃ t, t = Lib.itoa b := ⟨_, rfl⟩;have ktb := fun Q h => Z1h3 b tb htb (by omega) (by omega) Q h;have ztb : SzB (bs tb) 3 := .lit _ (by rw [htb]; exact (Z1j3 (by omega) (by omega)).2);obtain ⟨tl, htl⟩ : ∃ t, t = Lib.itoa lo := ⟨_, rfl⟩;have ktl := fun Q h => Z1h3 lo tl htl (by omega) (by omega) Q h;have ztl : SzB (bs tl) 3 := .lit _ (by rw [htl]; exact (Z1j3 (by omega) (by omega)).2);obtain ⟨th, hth⟩ : ∃ t, t = Lib.itoa hi := ⟨_, rfl⟩;have kth := fun Q h => Z1h3 hi th hth (by omega) (by omega) Q h;have zth : SzB (bs th) 3 := .lit _ (by rw [hth]; exact (Z1j3 (by omega) (by omega)).2);have o1 := scO hA zy (z1 32) (by decide);have s1 := SzB.cat hA zy (z1 32);have o2 := scO hA s1 ztb (by decide);have s2 := SzB.cat hA s1 ztb;have o3 := scO hA s2 (z1 58) (by decide);have s3 := SzB.cat hA s2 (z1 58);have o4 := scO hA s3 ztl (by decide);have s4 := SzB.cat hA s3 ztl;have o5 := scO hA s4 (z1 45) (by decide);have s5 := SzB.cat hA s4 (z1 45);have o6 := scO hA s5 zth (by decide);have s6 := SzB.cat hA s5 zth;have hy1 : IsT (A.scat (A.scat (A.scat (A.scat (A.scat (A.scat y (bs [32])) (bs tb)) (bs [58])) (bs tl)) (bs [45])) (bs th)) (Z1lb s ++ (s.tasks.take k).flatMap Z1le ++ Z1lo ⟨r, d, ws⟩ (l + 1)) := ((((((v3.cat hA (.lit [32])).cat hA (.lit tb)).cat hA (.lit [58])).cat hA (.lit tl)).cat hA (.lit [45])).cat hA (.lit th)).of (by unfold Z1lo; dsimp only; rw [List.take_add_one, hwl, htb, htl, hth]; simp [Z1m3]);clear hwl hWL;cbv;refine bmT d8 ?_;cbv;refine ⟨jj, Need.mk ⟨_, gj, ?_⟩⟩;cbv;refine Z16 Z0 hA hS [0, 1, 2, 3, 7, 8, 9, 13, 14, 15, 4, 5, 6, 10, 11, 12, 16, 17, 18] rfl rfl fun Dk hD => ?_;cbv;refine ⟨o1, ?_⟩;refine Zq hA hD [I b] [] [] rfl rfl rfl rfl rfl rfl rfl rfl rfl rfl rfl (by decide) trivial (ktb _ ⟨by cbv; repeat' (first | exact trivial | exact o1 | exact rfl | refine ⟨?_, ?_⟩), Zx Z0 hA hD ?_⟩);cbv;refine ⟨o2, o3, ?_⟩;refine Zq hA hD [I lo] [] [] rfl rfl rfl rfl rfl rfl rfl rfl rfl rfl rfl (by decide) trivial (ktl _ ⟨by cbv; repeat' (first | exact trivial | exact o1 | exact o2 | exact o3 | exact rfl | refine ⟨?_, ?_⟩), Zx Z0 hA hD ?_⟩);cbv;refine ⟨o4, o5, ?_⟩;refine Zq hA hD [I hi] [] [] rfl rfl rfl rfl rfl rfl rfl rfl rfl rfl rfl (by decide) trivial (kth _ ⟨by cbv; repeat' (first | exact trivial | exact o1 | exact o2 | exact o3 | exact o4 | exact o5 | exact rfl | refine ⟨?_, ?_⟩), Zx Z0 hA hD ?_⟩);cbv;refine ⟨o6, hf2, ?_⟩;refine Z8 (A.add j 1, l + 1, A.scat (A.scat (A.scat (A.scat (A.scat (A.scat y (bs [32])) (bs tb)) (bs [58])) (bs tl)) (bs [45])) (bs th)) [0, 1] ⟨hl, hv2, hy1⟩ hms2 ?_;exact ⟨by decide, Z9, ⟨rfl, rfl, trivial⟩, ⟨rfl, rfl, rfl, rfl, rfl, trivial⟩, rfl, rfl⟩
   ·have d8 : A.cmp .lss j (A.oi (A.len WL)) = false := by rw [yoiL hA hWl, v2.eq]; subst hA; simp [ar, Z25]; omega
    have el : l = ws.length := by omega
    subst el;have ox := scO hA zy (z1 10) (by decide);have hx1 : IsT (A.scat y (bs [10])) (Z1lb s ++ (s.tasks.take (k + 1)).flatMap Z1le) := (v3.cat hA (.lit [10])).of hlast;clear hlast v3;cbv;refine bmF d8 ?_;cbv;refine Z7 ?_;cbv;refine ⟨ox, hf1, ?_⟩;refine Z8 (A.add i 1, k + 1, A.scat y (bs [10])) [0] ⟨hk, hu2, hx1⟩ hms ?_;exact ⟨by decide, Z9, ⟨rfl, trivial⟩, ⟨rfl, rfl, rfl, trivial⟩, rfl, rfl⟩
  ·have d1 : A.cmp .lss i (A.oi (A.len TL)) = false := by rw [yoiL hA hTl, u2.eq]; subst hA; simp [ar, Z25]; omega
   rw [List.take_of_length_le (by omega)] at u3;have w1 : SzB (bs [99, 108, 111, 115, 101, 100, 10]) 7 := .lit _ (Nat.le_refl _);have ox := scO hA zx w1 (by decide);have hz := h1' (A.scat x (bs [99, 108, 111, 115, 101, 100, 10])) ((u3.cat hA (.lit [99, 108, 111, 115, 101, 100, 10])).of (by unfold Z1ll; simp [Z1lf]));cbv;refine bmF d1 ?_;cbv;refine Z7 ?_;cbv;refine ⟨ox, ?_⟩;exact Z2 [] (by decide) Z9 (H' := []) (d' := .tup [.v (.string (A.scat x (bs [99, 108, 111, 115, 101, 100, 10]))), I 0]) trivial rfl (Z1 hz)
 ·have c0 : A.cmp .neq e0 0 = true := by subst hA; simp [ar, Z25, g0]
  have hz := hh2 g0;cbv;refine bmT c0 ?_;cbv;exact Z2 [] (by decide) Z9 (H' := []) (d' := .tup [tD [], I e0]) trivial rfl (Z1 hz)
end Go.Proofs.YthljpccegkmdnaaGreatDoor

namespace Go.Proofs.YthljpccegkmdnaaGreatDoor
open Go Go.Abs Go.Proofs Go.Txt
open Bn (Sh Tk Wk Z14x Z14z)
set_option maxRecDepth 20000 in
theorem Z1g8 (x : Int) (n : Nat) (hn : n <= 1000000) (Q) (hq : ∀ y k, IsI y k -> (1 <= n -> k < n) -> Q (RA.ret (I y)) []) (z : Int) (hz : IsI z n) : CallA Tryz.prog 95 [I x, I z] [] Q := by
 obtain ⟨A, hA⟩ : ∃ A, A = ar := ⟨_, rfl⟩;refine Z5 Z0 hA Tryz.func95 rfl rfl rfl rfl rfl fun S hS => ?_
 by_cases h : n < 2
 ·have c : A.cmp .lss z 2 = true := by rw [hz.eq]; subst hA; simp [ar, Z25]; omega
  have hq := hq 0 0 ⟨rfl⟩ (fun h => h);cbv;refine bmT c ?_;cbv;exact Z2 [] (by decide) Z9 (H' := []) (d' := I 0) trivial rfl (Z1 hq)
 ·have c : A.cmp .lss z 2 = false := by rw [hz.eq]; subst hA; simp [ar, Z25]; omega
  have nz : A.nz z := by rw [hz.eq]; subst hA; show (n : Int) ≠ 0; omega
  have r1 : -(n : Int) < Int.tmod x n /\ Int.tmod x n < n := ⟨by have := Int.lt_tmod_of_pos x (show (0 : Int) < n by omega); omega, Int.tmod_lt_of_pos x (by omega)⟩;have ff : A.fits .i64 (A.add (A.rem x z) z) := Z14 hA (m := Int.tmod x n + n) (by rw [Z58 hA, hz.eq]; subst hA; rfl) (by omega);have r2 : 0 <= Int.tmod (Int.tmod x n + n) n /\ Int.tmod (Int.tmod x n + n) n < n := ⟨Int.tmod_nonneg _ (by omega), Int.tmod_lt_of_pos _ (by omega)⟩;have e : A.rem (A.add (A.rem x z) z) z = Int.tmod (Int.tmod x n + n) n := by rw [hz.eq]; subst hA; rfl
  have hq := hq (A.rem (A.add (A.rem x z) z) z) (Int.tmod (Int.tmod x n + n) n).toNat ⟨by rw [e]; omega⟩ (fun _ => by omega);cbv;refine bmF c ?_;cbv;refine ⟨nz, ff, nz, ?_⟩;exact Z2 [] (by decide) Z9 (H' := []) (d' := I (A.rem (A.add (A.rem x z) z) z)) trivial rfl (Z1 hq)
theorem ssz {A : Ar} (hA : A = ar) (s : By) (x y : Int) {n : Nat} (h : s.length <= n) : SzB (A.ssub (bs s) x y) n := ⟨by
 subst hA
 show ((bs s).extract x.toNat y.toNat).size <= n
 rw [ByteArray.size_extract, Z1h9]; omega⟩
set_option maxRecDepth 20000 in
set_option maxHeartbeats 4000000 in
theorem Z1jm (s : By) (hs : s.length <= 1000) (at' how z : Int) (b : UInt8) (hb : z = (b.toNat : Int)) (Q) (hq : ∀ x, Q (RA.ret (.v (.string x))) []) : CallA Tryz.prog 39 [tD s, I at', I how, .v (.int .u8 z)] [] Q := by
 obtain ⟨A, hA⟩ : ∃ A, A = ar := ⟨_, rfl⟩;refine Z5 Z0 hA Tryz.func39 rfl rfl rfl rfl rfl fun S hS => ?_
 by_cases h0 : s = []
 ·have c : A.seq (bs s) (bs []) = true := by rw [yseq hA, h0]; simp
  have hq := hq (bs s);cbv;refine bmT c ?_;cbv;exact Z2 [] (by decide) Z9 (H' := []) (d' := tD s) trivial rfl (Z1 hq)
 have c : A.seq (bs s) (bs []) = false := by rw [yseq hA]; simp [h0]
 have hpos : 1 <= s.length := by cases s with | nil => exact absurd rfl h0 | cons a l => simp
 have hln : IsI (A.oi (A.slen (bs s))) s.length := ⟨Z1j9 hA s⟩;cbv;refine bmF c ?_;cbv;refine Z4 hS [I at', I (A.oi (A.slen (bs s)))] [] [] rfl rfl rfl rfl rfl rfl rfl rfl (by decide) trivial (Z1g8 at' s.length (by omega) _ (fun y k hy hk => ?_) _ hln);have hk := hk hpos;have s0 : IsI 0 0 := ⟨rfl⟩;have o1 := (Z1i7 (s := s) hA s0 hy (Nat.zero_le _) (by omega)).1;have o2 := (Z1i7 (s := s) hA (Zz hA hy) hln (by omega) (Nat.le_refl _)).1;have o3 := (Z1i7 (s := s) hA hy hln (by omega) (Nat.le_refl _)).1;have f1 := Zy hA hy (by omega);have z1 : SzB (bs [b]) 1 := .lit _ (Nat.le_refl _);have w := fun x y => ssz hA s x y hs;have p1 := scO hA (w 0 y) z1 (by decide);have p2 := scO hA ((w 0 y).cat hA z1) (w (A.add y 1) (A.oi (A.slen (bs s)))) (by decide);have p3 := scO hA ((w 0 y).cat hA z1) (w y (A.oi (A.slen (bs s)))) (by decide);have p4 := scO hA (w 0 y) (w (A.add y 1) (A.oi (A.slen (bs s)))) (by decide);clear w;refine Z3 Z0 hA hS ?_;cbv;refine bm (fun c0 => ?_) (fun c0 => ?_)
 ·cbv;refine Z5j Z0 hA hS [5] [0, 1, 2, 3, 4, 7, 8, 9, 10, 5, 6, 11, 12] rfl rfl fun Dk hD => ?_;cbv;refine ⟨o1, f1, o2, ?_⟩;refine Z1ho Z0 hA hD b hb rfl rfl rfl rfl rfl rfl rfl rfl rfl rfl rfl rfl rfl rfl rfl (by cbv) ?_;cbv;refine ⟨p1, p2, ?_⟩;exact Z2 [] (by decide) Z9 (H' := []) (d' := .v (.string (A.scat (A.scat (A.ssub (bs s) 0 y) (bs [b])) (A.ssub (bs s) (A.add y 1) (A.oi (A.slen (bs s))))))) trivial rfl (Z1 (hq _))
 ·cbv;refine bm (fun c1 => ?_) (fun c1 => ?_)
  ·cbv;refine Z16 Z0 hA hS [0, 1, 2, 3, 4, 5, 6, 7, 8] rfl rfl fun Dk hD => ?_;cbv;refine ⟨o1, f1, o2, p4, ?_⟩;exact Z2 [] (by decide) Z9 (H' := []) (d' := .v (.string (A.scat (A.ssub (bs s) 0 y) (A.ssub (bs s) (A.add y 1) (A.oi (A.slen (bs s))))))) trivial rfl (Z1 (hq _))
  ·cbv;refine Z5j Z0 hA hS [5] [0, 1, 2, 3, 4, 7, 8, 9, 5, 6, 10, 11] rfl rfl fun Dk hD => ?_;cbv;refine ⟨o1, o3, ?_⟩;refine Z1ho Z0 hA hD b hb rfl rfl rfl rfl rfl rfl rfl rfl rfl rfl rfl rfl rfl rfl rfl (by cbv) ?_;cbv;refine ⟨p1, p3, ?_⟩;exact Z2 [] (by decide) Z9 (H' := []) (d' := .v (.string (A.scat (A.scat (A.ssub (bs s) 0 y) (bs [b])) (A.ssub (bs s) y (A.oi (A.slen (bs s))))))) trivial rfl (Z1 (hq _))
theorem Zvp (L : List D) (nums : List Int) (hL : L = nums.map I) (hl : L.length <= 9223372036854775807) (Q) (hq : ∀ x, Q (RA.ret (.b 0 0)) [.box (.agg [U x])]) :
  CallA Tryz.prog 36 [.sl 1 L] [] Q := by
 obtain ⟨A, hA⟩ : ∃ A, A = ar := ⟨_, rfl⟩;refine Z5 Z0 hA Tryz.func36 rfl rfl rfl rfl rfl fun S hS => ?_;cbv;refine Zb hS ?_;refine Zgw (α := Int × Nat × Int) (fun x => { env := [(0, .sl 1 L), (3, .b 0 0), (4, .v (.int .i64 x.1))], H := [.box (.agg [U x.2.2])], nt := 41, dfs := [] }) (fun x => L.length - x.2.1) (fun x => x.2.1 <= L.length /\ x.1 = x.2.1) (0, 0, 2611923443488327891) ⟨Nat.zero_le _, rfl⟩ [0] ?_ ?_
 ·exact ⟨by decide, fun i hi => absurd hi (by simp), ⟨rfl, trivial⟩, ⟨rfl, rfl, rfl, trivial⟩, rfl, rfl⟩
 rintro ⟨i, k, x⟩ ⟨hk, hi⟩
 replace hk : k <= L.length := hk
 replace hi : i = (k : Int) := hi
 refine Zi Z0 hA hS ?_;cbv
 split
 ·rename_i hc
  cbv
  replace hi : i = (k : Int) := hi
  have hlt : k < L.length := by subst hA; simp [ar, Z25] at hc; omega
  refine Z16 Z0 hA hS [0, 1, 2, 3, 4, 5, 6, 7, 8, 9, 10, 11, 12, 13, 14] rfl rfl fun Dk hD => ?_;cbv
  replace hi : i = (k : Int) := hi
  obtain ⟨y, hy⟩ : ∃ y, y = nums[k]'(by rw [hL] at hlt; simpa using hlt) := ⟨_, rfl⟩;refine ⟨by subst hA; simp [ar]; omega, ⟨.v (.int .i64 y), by subst hA; simp [ar, hL, hi, hy, I], ?_⟩⟩;cbv;refine Z16 Z0 hA hS [0, 1, 2, 3, 4, 5, 6, 7, 8, 9, 10, 11, 12, 13] rfl rfl fun Dk hD2 => ?_;cbv
  replace hi : i = (k : Int) := hi
  subst hA;refine ⟨by simp [ar], Zdh (by simp [ar]; omega), (i + 1, k + 1, _), [0], ⟨by simp; omega, by simp; omega⟩, by simp; omega, by decide, fun i hi => absurd hi (by simp), ⟨rfl, trivial⟩, ⟨rfl, rfl, rfl, trivial⟩, rfl, rfl⟩
 ·rename_i hc
  cbv;refine Z1 (hq x)
theorem yeqX {A : Ar} (hA : A = ar) (x : Int) : A.cmp .eql x x = true := by subst hA; simp [ar, Z25]
structure Tru (b : Bool) : Prop where
 eq : b = true
set_option maxRecDepth 20000 in
set_option maxHeartbeats 4000000 in
theorem Z1dp (t : Tk) (hl9 : t.works.length <= 1000000) (WL : List D) (hW : WL = t.works.map Z14x) (Q) (hq : Q (RA.ret (.v (.bool true))) []) :
  CallA Tryz.prog 102 [.agg [I t.ready, I t.due, .sl 3 WL], .agg [I t.ready, I t.due, .sl 3 WL]] [] Q := by
 obtain ⟨A, hA⟩ : ∃ A, A = ar := ⟨_, rfl⟩;obtain ⟨N, hN⟩ : ∃ N, N = t.works.length := ⟨_, rfl⟩;have hWl : WL.length = N := by rw [hW, hN]; simp
 obtain ⟨r, d, ws⟩ := t;dsimp only at hW hN hl9 ⊢;have e1 := yeqX hA r;have e2 := yeqX hA d;have e3 := yeqX hA (A.oi (A.len WL));refine Z38 Z0 hA [] Tryz.func102 rfl rfl rfl rfl rfl fun S hS => ?_;cbv;refine bmT e1 ?_;cbv;refine bmT e2 ?_;cbv;refine Zb hS ?_;refine Za (α := Int × Nat × Bool) (fun q => { env := [(2, .b 0 0), (3, .b 1 0), (5, .v (.bool q.2.2)), (6, I q.1)], H := [.box (.agg [I r, I d, .sl 3 WL]), .box (.agg [I r, I d, .sl 3 WL])], nt := 50, dfs := [] })
  (fun q => N - q.2.1) (fun q => q.2.1 <= N /\ IsI q.1 q.2.1 /\ Tru q.2.2) (0, 0, A.cmp .eql (A.oi (A.len WL)) (A.oi (A.len WL))) ⟨Nat.zero_le _, ⟨rfl⟩, ⟨e3⟩⟩ ?_ ?_
 ·exact Zf [0, 1] ⟨by decide, Z9, ⟨rfl, rfl, trivial⟩, ⟨rfl, rfl, rfl, rfl, trivial⟩, rfl, rfl⟩
 rintro ⟨i, k, b⟩ ⟨u1, u2, u3⟩;dsimp only at u1 u2 u3;obtain ⟨rfl⟩ := u3;refine Z2w Z0 hA hS [] ?_
 by_cases hk : k < N
 ·have d1 : A.cmp .lss i (A.oi (A.len WL)) = true := by rw [yoiL hA hWl, u2.eq]; subst hA; simp [ar, Z25]; omega
  obtain ⟨w, hw⟩ : ∃ w, ws[k]? = some w := ⟨_, List.getElem?_eq_getElem (by omega)⟩;have ii := Z1b hA hWl u2 hk;have gg : A.get WL (A.tn i) = some (.agg [I w.b, I w.lo, I w.hi]) := Z18 hA u2 (by rw [hW, List.getElem?_map, hw]; rfl);have hf := Zy hA u2 (by omega);have hu2 := Zz hA u2;have hms : N - (k + 1) < N - k := by omega
  have hl1 : A.leq [w.b, w.lo, w.hi] [w.b, w.lo, w.hi] = true := by subst hA; simp [ar]
  cbv;refine bmT d1 ?_;cbv;refine Z5j Z0 hA hS [10] [0, 1, 2, 3, 4, 5, 6, 7, 8, 9, 10, 11] rfl rfl fun Dk hD => ?_;cbv;refine ⟨ii, Need.mk ⟨_, gg, ?_⟩⟩;cbv;refine ⟨ii, Need.mk ⟨_, gg, ?_⟩⟩;cbv;refine Z9n Z0 hA hD [] (.v (.bool true)) rfl rfl rfl rfl rfl rfl ⟨[w.b, w.lo, w.hi], [w.b, w.lo, w.hi], rfl, rfl, rfl, rfl, congrArg (fun b => D.v (.bool b)) hl1⟩ ?_;cbv;refine ⟨hf, ?_⟩;refine Z8 (A.add i 1, k + 1, true) [0, 1] ⟨hk, hu2, ⟨rfl⟩⟩ hms ?_;exact ⟨by decide, Z9, ⟨rfl, rfl, trivial⟩, ⟨rfl, rfl, rfl, rfl, trivial⟩, rfl, rfl⟩
 ·have d1 : A.cmp .lss i (A.oi (A.len WL)) = false := by rw [yoiL hA hWl, u2.eq]; subst hA; simp [ar, Z25]; omega
  cbv;refine bmF d1 ?_;cbv;refine Z7 ?_;cbv;exact Z2 [] (by decide) Z9 (H' := []) (d' := .v (.bool true)) trivial rfl (Z1 hq)
set_option maxRecDepth 20000 in
set_option maxHeartbeats 4000000 in
theorem Z1nq (s : Sh) (hl9 : s.tasks.length <= 1000000) (hw9 : ∀ t ∈ s.tasks, t.works.length <= 1000000) (TL : List D) (hT : TL = s.tasks.map Z14z) (Q) (hq : Q (RA.ret (.v (.bool true))) []) :
  CallA Tryz.prog 42 [.agg [I s.benches, .sl 3 TL], .agg [I s.benches, .sl 3 TL]] [] Q := by
 obtain ⟨A, hA⟩ : ∃ A, A = ar := ⟨_, rfl⟩;obtain ⟨N, hN⟩ : ∃ N, N = s.tasks.length := ⟨_, rfl⟩;have hTl : TL.length = N := by rw [hT, hN]; simp
 obtain ⟨nb, ts⟩ := s;dsimp only at hT hN hl9 hw9 ⊢;have e1 := yeqX hA nb;have e3 := yeqX hA (A.oi (A.len TL));refine Z38 Z0 hA [] Tryz.func42 rfl rfl rfl rfl rfl fun S hS => ?_;cbv;refine bmT e1 ?_;cbv;refine Zb hS ?_;refine Za (α := Int × Nat × Bool) (fun q => { env := [(2, .b 0 0), (3, .b 1 0), (5, .v (.bool q.2.2)), (6, I q.1)], H := [.box (.agg [I nb, .sl 3 TL]), .box (.agg [I nb, .sl 3 TL])], nt := 43, dfs := [] })
  (fun q => N - q.2.1) (fun q => q.2.1 <= N /\ IsI q.1 q.2.1 /\ Tru q.2.2) (0, 0, A.cmp .eql (A.oi (A.len TL)) (A.oi (A.len TL))) ⟨Nat.zero_le _, ⟨rfl⟩, ⟨e3⟩⟩ ?_ ?_
 ·exact Zf [0, 1] ⟨by decide, Z9, ⟨rfl, rfl, trivial⟩, ⟨rfl, rfl, rfl, rfl, trivial⟩, rfl, rfl⟩
 rintro ⟨i, k, b⟩ ⟨u1, u2, u3⟩;dsimp only at u1 u2 u3;obtain ⟨rfl⟩ := u3;refine Z2w Z0 hA hS [] ?_
 by_cases hk : k < N
 ·have d1 : A.cmp .lss i (A.oi (A.len TL)) = true := by rw [yoiL hA hTl, u2.eq]; subst hA; simp [ar, Z25]; omega
  obtain ⟨t, ht⟩ : ∃ t, ts[k]? = some t := ⟨_, List.getElem?_eq_getElem (by omega)⟩;have ht9 := hw9 t (List.mem_of_getElem? ht);obtain ⟨WL, hWL⟩ : ∃ WL, WL = t.works.map Z14x := ⟨_, rfl⟩;have ii := Z1b hA hTl u2 hk;have gg : A.get TL (A.tn i) = some (.agg [I t.ready, I t.due, .sl 3 WL]) := Z18 hA u2 (by rw [hT, List.getElem?_map, ht, hWL]; rfl);have hf := Zy hA u2 (by omega);have hu2 := Zz hA u2;have hms : N - (k + 1) < N - k := by omega
  have kT := fun Q h => Z1dp t ht9 WL hWL Q h;clear ht hT hWL;cbv;refine bmT d1 ?_;cbv;refine Z16 Z0 hA hS [0, 1, 2, 3, 4, 5, 6, 7, 8, 9, 10, 11] rfl rfl fun Dk hD => ?_;cbv;refine ⟨ii, Need.mk ⟨_, gg, ?_⟩⟩;cbv;refine ⟨ii, Need.mk ⟨_, gg, ?_⟩⟩;cbv;refine Zq hA hD [.agg [I t.ready, I t.due, .sl 3 WL], .agg [I t.ready, I t.due, .sl 3 WL]] [] [] rfl rfl rfl rfl rfl rfl rfl rfl rfl rfl rfl (by decide) trivial (kT _ ⟨by cbv; repeat' (first | exact trivial | exact rfl | exact ii | exact gg | exact Need.mk ⟨_, gg, rfl⟩ | refine ⟨?_, ?_⟩), Zx Z0 hA hD ?_⟩);cbv;refine ⟨hf, ?_⟩;refine Z8 (A.add i 1, k + 1, true) [0, 1] ⟨hk, hu2, ⟨rfl⟩⟩ hms ?_;exact ⟨by decide, Z9, ⟨rfl, rfl, trivial⟩, ⟨rfl, rfl, rfl, rfl, trivial⟩, rfl, rfl⟩
 ·have d1 : A.cmp .lss i (A.oi (A.len TL)) = false := by rw [yoiL hA hTl, u2.eq]; subst hA; simp [ar, Z25]; omega
  cbv;refine bmF d1 ?_;cbv;refine Z7 ?_;cbv;exact Z2 [] (by decide) Z9 (H' := []) (d' := .v (.bool true)) trivial rfl (Z1 hq)
set_option maxRecDepth 20000 in
theorem Z1po (t : Tk) (WL : List D) (hW : WL = t.works.map Z14x) (Q) (hq : ∀ b, b = decide (20 < t.works.length) -> Q (RA.ret (.v (.bool b))) []) :
  CallA Tryz.prog 80 [.agg [I t.ready, I t.due, .sl 3 WL]] [] Q := by
 obtain ⟨A, hA⟩ : ∃ A, A = ar := ⟨_, rfl⟩;have hWl : WL.length = t.works.length := by rw [hW]; simp
 have hz := hq (A.cmp .gtr (A.oi (A.len WL)) 20) (by rw [yoiL hA hWl]; subst hA; simp [ar, Z25]; omega);refine Z5 Z0 hA Tryz.func80 rfl rfl rfl rfl rfl fun S hS => ?_;cbv;exact Z2 [] (by decide) Z9 (H' := []) (d' := .v (.bool (A.cmp .gtr (A.oi (A.len WL)) 20))) trivial rfl (Z1 hz)
structure NotBig (s : Sh) : Prop where
 len : s.tasks.length <= 20
 wk : ∀ t ∈ s.tasks, t.works.length <= 20
set_option maxRecDepth 20000 in
set_option maxHeartbeats 4000000 in
theorem kBig (s : Sh) (TL : List D) (hT : TL = s.tasks.map Z14z) (hl9 : s.tasks.length <= 9223372036854775807) (Q) (hq : ∀ b, (b = false -> NotBig s) -> Q (RA.ret (.v (.bool b))) []) :
  CallA Tryz.prog 33 [.agg [I s.benches, .sl 3 TL]] [] Q := by
 obtain ⟨A, hA⟩ : ∃ A, A = ar := ⟨_, rfl⟩;obtain ⟨N, hN⟩ : ∃ N, N = s.tasks.length := ⟨_, rfl⟩;have hTl : TL.length = N := by rw [hT, hN]; simp
 obtain ⟨nb, ts⟩ := s;dsimp only at hT hN hl9 ⊢;refine Z38 Z0 hA [] Tryz.func33 rfl rfl rfl rfl rfl fun S hS => ?_;cbv;refine Zb hS ?_;refine Za (α := Int × Nat) (fun q => { env := [(1, .b 0 0), (3, I q.1)], H := [.box (.agg [I nb, .sl 3 TL])], nt := 25, dfs := [] })
  (fun q => N - q.2) (fun q => q.2 <= N /\ IsI q.1 q.2 /\ q.2 <= 20 /\ ∀ t ∈ ts.take q.2, t.works.length <= 20) (0, 0) ⟨Nat.zero_le _, ⟨rfl⟩, Nat.zero_le _, fun t ht => absurd ht List.not_mem_nil⟩ ?_ ?_
 ·exact Zf [0] ⟨by decide, Z9, ⟨rfl, trivial⟩, ⟨rfl, rfl, trivial⟩, rfl, rfl⟩
 rintro ⟨i, k⟩ ⟨u1, u2, u3, u4⟩;dsimp only at u1 u2 u3 u4;have hend : (k = N ∨ k = 20) -> Q (RA.ret (.v (.bool (A.cmp .gtr (A.oi (A.len TL)) 20)))) [] := fun h => hq _ fun hb => by
  have h20 := yngtL (x := 20) hA hTl hb;have hkN : k = N := by omega
  rw [hkN, hN, List.take_length] at u4;exact ⟨by show ts.length <= 20; omega, u4⟩
 refine Z2w Z0 hA hS [] ?_
 by_cases hk : k < N
 ·have d1 : A.cmp .lss i (A.oi (A.len TL)) = true := by rw [yoiL hA hTl, u2.eq]; subst hA; simp [ar, Z25]; omega
  by_cases hk20 : k < 20
  ·have d2 : A.cmp .lss i 20 = true := by rw [u2.eq]; subst hA; simp [ar, Z25]; omega
   obtain ⟨t, ht⟩ : ∃ t, ts[k]? = some t := ⟨_, List.getElem?_eq_getElem (by omega)⟩;obtain ⟨WL, hWL⟩ : ∃ WL, WL = t.works.map Z14x := ⟨_, rfl⟩;have ii := Z1b hA hTl u2 hk;have gg : A.get TL (A.tn i) = some (.agg [I t.ready, I t.due, .sl 3 WL]) := Z18 hA u2 (by rw [hT, List.getElem?_map, ht, hWL]; rfl);have hf := Zy hA u2 (by omega);have hu2 := Zz hA u2;have hms : N - (k + 1) < N - k := by omega
   have kH := fun Q h => Z1po t WL hWL Q h;have hyes := hq true (fun h => Bool.noConfusion h);have hno : t.works.length <= 20 -> ∀ x ∈ ts.take (k + 1), x.works.length <= 20 := fun h x hx => by
    rw [List.take_add_one, ht] at hx;rcases List.mem_append.1 hx with hx | hx
    ·exact u4 x hx
    ·simp at hx; subst hx; exact h
   clear hend hq hT hWL ht u4;cbv;refine bmT d1 ?_;cbv;refine bmT d2 ?_;cbv;refine ⟨ii, Need.mk ⟨_, gg, ?_⟩⟩;cbv;refine Z4 hS [.agg [I t.ready, I t.due, .sl 3 WL]] [] [] rfl rfl rfl rfl rfl rfl rfl rfl (by decide) trivial (kH _ fun b hb => ?_)
   cases b with
   | true =>
    refine Z3 Z0 hA hS ?_;cbv;refine Z7 ?_;cbv;exact Z2 [] (by decide) Z9 (H' := []) (d' := .v (.bool true)) trivial rfl (Z1 hyes)
   | false =>
    have h20 : t.works.length <= 20 := by have := of_decide_eq_false hb.symm; omega
    have hno := hno h20;have hk21 : k + 1 <= 20 := hk20;refine Z3 Z0 hA hS ?_;cbv;refine ⟨hf, ?_⟩;refine Z8 (A.add i 1, k + 1) [0] ⟨hk, hu2, hk21, hno⟩ hms ?_;exact ⟨by decide, Z9, ⟨rfl, trivial⟩, ⟨rfl, rfl, trivial⟩, rfl, rfl⟩
  ·have d2 : A.cmp .lss i 20 = false := by rw [u2.eq]; subst hA; simp [ar, Z25]; omega
   have hz := hend (.inr (by omega));clear hend hq u4;cbv;refine bmT d1 ?_;cbv;refine bmF d2 ?_;cbv;refine Z7 ?_;cbv;exact Z2 [] (by decide) Z9 (H' := []) (d' := .v (.bool (A.cmp .gtr (A.oi (A.len TL)) 20))) trivial rfl (Z1 hz)
 ·have d1 : A.cmp .lss i (A.oi (A.len TL)) = false := by rw [yoiL hA hTl, u2.eq]; subst hA; simp [ar, Z25]; omega
  have hz := hend (.inl (by omega));clear hend hq u4;cbv;refine bmF d1 ?_;cbv;refine Z7 ?_;cbv;exact Z2 [] (by decide) Z9 (H' := []) (d' := .v (.bool (A.cmp .gtr (A.oi (A.len TL)) 20))) trivial rfl (Z1 hz)
end Go.Proofs.YthljpccegkmdnaaGreatDoor

namespace Go.Proofs.YthljpccegkmdnaaGreatDoor.Bn
open Go Go.Abs Go.Proofs
theorem Z16a (s : Sh) (mo : Nat -> Int) (p : List Nat) : (runS s mo p).length = p.length := by simp [runS]
end Go.Proofs.YthljpccegkmdnaaGreatDoor.Bn
