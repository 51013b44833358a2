/- Part TyBC of the proofs about the benches of the accordion maker: see the last text of the claim for what is proved. -/
import Derived.Test.YthljpccegkmdnaaGreatDoorTyBB
import Derived.Test.YthljpccegkmdnaaGreatDoorTyAW
set_option linter.unusedVariables false
set_option linter.unusedSimpArgs false
set_option linter.unnecessarySimpa false
set_option linter.constructorNameAsVariable false

namespace Go.Txt
open Go
open Go.Proofs.YthljpccegkmdnaaGreatDoor.Bn (Sh Tk Wk)
theorem Z1m7 : ∀ {ps : List By} {ws : List Wk}, Z1l9 ps = some ws -> ws.length = ps.length
 | [], ws, h => by simp only [Z1l9] at h; cases h; rfl
 | p :: ps, ws, h => by
  simp only [Z1l9] at h
  cases hx : Z1ld p with
  | none => rw [hx] at h; cases h
  | some y =>
   cases hs : Z1l9 ps with
   | none => rw [hx, hs] at h; cases h
   | some ys => rw [hx, hs] at h; cases h; simp [Z1m7 hs]
theorem Z1ly {a b : Option Int} {c : Option (List Wk)} (h : a = none ∨ b = none ∨ c = none) : mkT a b c = none := by
 unfold mkT;rcases h with rfl | rfl | rfl
 ·rfl
 ·cases a <;> rfl
 ·cases a <;> cases b <;> rfl
theorem Z1mo {w : List By} (h : w.length < 3) : Z1li w = none := by
 match w, h with
 | [], _ => rfl
 | [_], _ => rfl
 | [_, _], _ => rfl
theorem Z1mp {w0 w1 w2 : By} {ps : List By} (h : w0 ≠ ordW) : Z1li (w0 :: w1 :: w2 :: ps) = none := by simp only [Z1li]; rw [if_neg h]
theorem Z1na {w0 w1 w2 : By} {ps : List By} (h : w0 = ordW) : Z1li (w0 :: w1 :: w2 :: ps) = mkT (numB w1) (numB w2) (Z1l9 ps) := by simp only [Z1li]; rw [if_pos h]
end Go.Txt
namespace Go.Proofs.YthljpccegkmdnaaGreatDoor
open Go Go.Abs Go.Proofs Go.Txt
open Bn (Sh Tk Wk Z14x Z14z)
theorem Z1lu (r d : Int) (b : Bool) : WkD (.tup [.agg [I r, I d, .v (.slice none 0 0)], .v (.bool b)]) (.tup [.agg [I r, I d, .sl 3 []], .v (.bool b)]) :=
 Z1kb ⟨WkD.agg ⟨.rfl, .rfl, .nil, trivial⟩, .rfl, trivial⟩
set_option maxRecDepth 20000 in
set_option maxHeartbeats 8000000 in
theorem Z1p9 (w : List By) (hw : ∀ x ∈ w, x.length <= 1000) (hwl : w.length <= 1000) (WL : List D) (hWL : WL = w.map tD) (Q)
  (h1 : ∀ (r d : Int) (ws : List Wk) (L : List D), Z1li w = some ⟨r, d, ws⟩ -> L = ws.map Z14x -> Q (RA.ret (.tup [.agg [I r, I d, .sl 3 L], .v (.bool true)])) [])
  (h2 : Z1li w = none -> ∀ r d L, Q (RA.ret (.tup [.agg [I r, I d, .sl 3 L], .v (.bool false)])) []) :
  CallA Tryz.prog 98 [.sl 1 WL] [] Q := by
 obtain ⟨A, hA⟩ : ∃ A, A = ar := ⟨_, rfl⟩;have hWl : WL.length = w.length := by rw [hWL, List.length_map]
 refine Z38 Z0 hA [] Tryz.func98 rfl rfl rfl rfl rfl fun S hS => ?_
 by_cases g3 : w.length < 3
 ·have c1 : A.cmp .lss (A.oi (A.len WL)) 3 = true := by rw [yoiL hA hWl]; subst hA; simp [ar, Z25]; omega
  have hz := h2 (Z1mo g3) 0 0 [];cbv;refine bmT c1 ?_;cbv;exact Z37 (Z1lu 0 0 false) (Z2 [] (by decide) Z9 (H' := []) (d' := .tup [.agg [I 0, I 0, .sl 3 []], .v (.bool false)]) trivial rfl (Z1 hz))
 have c1 : A.cmp .lss (A.oi (A.len WL)) 3 = false := by rw [yoiL hA hWl]; subst hA; simp [ar, Z25]; omega
 obtain ⟨w0, w1, w2, ps, rfl⟩ : ∃ a b c r, w = a :: b :: c :: r := by
  match w, g3 with
  | a :: b :: c :: r, _ => exact ⟨a, b, c, r, rfl⟩
  | [], h => exact absurd (by simp) h
  | [_], h => exact absurd (by simp) h
  | [_, _], h => exact absurd (by simp) h
 have hw1 : w1.length <= 1000 := hw w1 (by simp);have hw2 : w2.length <= 1000 := hw w2 (by simp);have hps : ∀ x ∈ ps, x.length <= 1000 := fun x hx => hw x (by simp [hx]);have hpl : ps.length <= 1000 := by simp at hwl; omega
 obtain ⟨N, hN⟩ : ∃ N, N = ps.length := ⟨_, rfl⟩;have hW3 : WL.length = N + 3 := by rw [hWl, hN]; rfl
 have i0 : A.inb 0 (A.len WL) := Z1b hA hW3 (k := 0) ⟨rfl⟩ (by omega);have i1 : A.inb 1 (A.len WL) := Z1b hA hW3 (k := 1) ⟨rfl⟩ (by omega);have i2 : A.inb 2 (A.len WL) := Z1b hA hW3 (k := 2) ⟨rfl⟩ (by omega);have n0 : A.get WL (A.tn 0) = some (tD w0) := Z18 hA (k := 0) ⟨rfl⟩ (by rw [hWL]; rfl);have n1 : A.get WL (A.tn 1) = some (tD w1) := Z18 hA (k := 1) ⟨rfl⟩ (by rw [hWL]; rfl);have n2 : A.get WL (A.tn 2) = some (tD w2) := Z18 hA (k := 2) ⟨rfl⟩ (by rw [hWL]; rfl)
 by_cases g0 : w0 = ordW
 ·have c2 : A.bnot (A.seq (bs w0) (bs ordW)) = false := by rw [yseq hA, g0]; subst hA; simp [ar]
  have htk := Z1na (w1 := w1) (w2 := w2) (ps := ps) g0;rw [htk] at h1 h2;have bT : A.bnot true = false := by subst hA; rfl
  have bF : A.bnot false = true := by subst hA; rfl
  have rs : A.sub2 WL 3 (A.oi (A.len WL)) = ps.map tD := by
   subst hA;show (WL.take ((WL.length : Int)).toNat).drop (3 : Int).toNat = _;rw [Int.toNat_natCast, List.take_length, hWL]; rfl
  have rOK : A.sub2OK WL 3 (A.oi (A.len WL)) := by
   subst hA;refine ⟨by decide, ?_, ?_⟩
   ·show (3 : Int) <= (WL.length : Int); omega
   ·show (WL.length : Int) <= (WL.length : Int); omega
  have hRl : (A.sub2 WL 3 (A.oi (A.len WL))).length = N := by rw [rs, List.length_map, hN]
  clear hw hwl hWL hWl;cbv;refine bmF c1 ?_;cbv;refine ⟨i0, Need.mk ⟨_, n0, ?_⟩⟩;cbv;refine bmF c2 ?_;cbv;refine ⟨i1, Need.mk ⟨_, n1, ?_⟩⟩;cbv;refine Z4 hS [.v (.string (bs w1))] [] [] rfl rfl rfl rfl rfl rfl rfl rfl (by decide) trivial (Z1lh w1 hw1 _ fun r b1 t1 f1 => ?_);refine Z3 Z0 hA hS ?_;cbv;refine ⟨i2, Need.mk ⟨_, n2, ?_⟩⟩;cbv;refine Z4 hS [.v (.string (bs w2))] [] [] rfl rfl rfl rfl rfl rfl rfl rfl (by decide) trivial (Z1lh w2 hw2 _ fun d b2 t2 f2 => ?_)
  cases b1 with
  | false =>
   have hz := h2 (Z1ly (.inl (f1 rfl))) r d [];refine Z3 Z0 hA hS ?_;cbv;refine bmT bF ?_;cbv;exact Z37 (Z1lu r d false) (Z2 [] (by decide) Z9 (H' := []) (d' := .tup [.agg [I r, I d, .sl 3 []], .v (.bool false)]) trivial rfl (Z1 hz))
  | true =>
  cases b2 with
  | false =>
   have hz := h2 (Z1ly (.inr (.inl (f2 rfl)))) r d [];refine Z3 Z0 hA hS ?_;cbv;refine bmF bT ?_;cbv;refine bmT bF ?_;cbv;exact Z37 (Z1lu r d false) (Z2 [] (by decide) Z9 (H' := []) (d' := .tup [.agg [I r, I d, .sl 3 []], .v (.bool false)]) trivial rfl (Z1 hz))
  | true =>
  rw [t1 rfl, t2 rfl] at h1 h2;refine Z3 Z0 hA hS ?_;cbv;refine bmF bT ?_;cbv;refine bmF bT ?_;cbv;refine ⟨rOK, ?_⟩;refine Zb hS ?_;refine Za (α := (Int × Nat) × List D × Nat) (fun q => { env := [(2, .b 0 0), (8, .b 1 0), (48, .sl 1 (A.sub2 WL 3 (A.oi (A.len WL)))), (49, I (A.oi (A.len (A.sub2 WL 3 (A.oi (A.len WL)))))), (50, I q.1.1)], H := [.box (.agg [I 0, I 0, .v (.slice none 0 0)]), .box (.agg [I r, I d, .o 2 3 q.2.2]), .els 3 q.2.1], nt := 70, dfs := [] })
   (fun q => N - q.1.2) (fun q => q.1.2 <= N /\ IsI q.1.1 q.1.2 /\ q.2.2 = q.1.2 /\ ∃ ws, Z1l9 (ps.take q.1.2) = some ws /\ q.2.1 = ws.map Z14x) ((0, 0), [], 0) ⟨Nat.zero_le _, ⟨rfl⟩, rfl, [], rfl, rfl⟩ ?_ ?_
  ·refine Zfk 1 2 3 (.agg [I r, I d, .o 2 3 0]) rfl rfl rfl ?_;exact Zf [0, 1, 2] ⟨by decide, Z9, ⟨rfl, rfl, rfl, trivial⟩, ⟨rfl, rfl, rfl, rfl, rfl, trivial⟩, rfl, rfl⟩
  rintro ⟨⟨i, k⟩, L, n⟩ ⟨u0, u1, u2, ws, u3, u4⟩;dsimp only at u0 u1 u2 u3 u4;have hLl : L.length = n := by rw [u4, List.length_map, Z1m7 u3, List.length_take]; omega
  refine Z2w Z0 hA hS [] ?_
  by_cases hk : k < N
  ·have d1 : A.cmp .lss i (A.oi (A.len (A.sub2 WL 3 (A.oi (A.len WL))))) = true := by rw [yoiL hA hRl, u1.eq]; subst hA; simp [ar, Z25]; omega
   obtain ⟨p, hp⟩ : ∃ p, ps[k]? = some p := ⟨_, List.getElem?_eq_getElem (by omega)⟩;have hpm := List.mem_of_getElem? hp;have hlp := hps p hpm;have ii : A.inb i (A.len (A.sub2 WL 3 (A.oi (A.len WL)))) := Z1b hA hRl u1 hk;have gg : A.get (A.sub2 WL 3 (A.oi (A.len WL))) (A.tn i) = some (tD p) := Z18 hA u1 (by rw [rs, List.getElem?_map, hp]; rfl);have hf1 := Zy hA u1 (by omega);have hu1 := Zz hA u1;have hms : N - (k + 1) < N - k := by omega
   have e1 := yeqLen hA hLl;have e3 : A.room (A.addN n 1) 24 := yroom1 hA (by omega) (by omega);have hbad := fun h => h2 (Z1ly (.inr (.inr (Z1me hpm h)))) r d L;have hgood : ∀ w, Z1ld p = some w -> ∃ ws', Z1l9 (ps.take (k + 1)) = some ws' /\ L ++ [Z14x w] = ws'.map Z14x := fun w hw => ⟨ws ++ [w], by rw [List.take_add_one, hp]; exact Z1lx u3 hw, by rw [u4]; simp⟩;clear h1 h2 hps rs u3 u4;cbv;refine bmT d1 ?_;cbv;refine ⟨ii, Need.mk ⟨_, gg, ?_⟩⟩;cbv;refine Z4 hS [.v (.string (bs p))] [] [] rfl rfl rfl rfl rfl rfl rfl rfl (by decide) trivial (Z1pl p hlp _ (fun w hwk => ?_) (fun hwk x y z => ?_))
   ·have hg := hgood w hwk;obtain ⟨wb, wl, wh⟩ := w;have hL2 : A.app L [.agg [I wb, I wl, I wh]] = L ++ [Z14x ⟨wb, wl, wh⟩] := by subst hA; rfl
    have hN2 : A.addN n 1 = k + 1 := by subst hA; show n + 1 = _; omega
    rw [<- hL2] at hg;have e2 : A.eqN 1 (A.len [.agg [I wb, I wl, I wh]]) := by subst hA; rfl
    clear hbad hgood;refine Z3 Z0 hA hS ?_;cbv;refine bmF bT ?_;cbv;refine ⟨e1, e2, e3, hf1, ?_⟩;refine Z8 ((A.add i 1, k + 1), A.app L [.agg [I wb, I wl, I wh]], A.addN n 1) [0, 1, 5] ⟨hk, hu1, hN2, hg⟩ hms ?_;exact ⟨by decide, Z9, ⟨rfl, rfl, rfl, trivial⟩, ⟨rfl, rfl, rfl, rfl, rfl, trivial⟩, rfl, rfl⟩
   ·have hz := hbad hwk;clear hbad hgood;refine Z3 Z0 hA hS ?_;cbv;refine bmT bF ?_;cbv;refine Z7 ?_;cbv;refine Z1w [2] ?_;cbv;exact ⟨by cases L <;> exact hLl.symm, by cases L <;> exact hLl.symm, by cases L <;> exact hLl.symm, Z2 [] (by decide) Z9 (H' := []) (d' := .tup [.agg [I r, I d, .sl 3 L], .v (.bool false)]) trivial rfl (Z1 hz)⟩
  ·have d1 : A.cmp .lss i (A.oi (A.len (A.sub2 WL 3 (A.oi (A.len WL))))) = false := by rw [yoiL hA hRl, u1.eq]; subst hA; simp [ar, Z25]; omega
   rw [List.take_of_length_le (by omega)] at u3;have hz := h1 r d ws L (by rw [u3]; rfl) u4;clear h1 h2 hps rs u3 u4;cbv;refine bmF d1 ?_;cbv;refine Z7 ?_;cbv;refine Z1w [2] ?_;cbv;exact ⟨by cases L <;> exact hLl.symm, by cases L <;> exact hLl.symm, by cases L <;> exact hLl.symm, Z2 [] (by decide) Z9 (H' := []) (d' := .tup [.agg [I r, I d, .sl 3 L], .v (.bool true)]) trivial rfl (Z1 hz)⟩
 ·have c2 : A.bnot (A.seq (bs w0) (bs ordW)) = true := by rw [yseq hA]; subst hA; simp [ar, g0]
  have hz := h2 (Z1mp g0) 0 0 [];cbv;refine bmF c1 ?_;cbv;refine ⟨i0, Need.mk ⟨_, n0, ?_⟩⟩;cbv;refine bmT c2 ?_;cbv;exact Z37 (Z1lu 0 0 false) (Z2 [] (by decide) Z9 (H' := []) (d' := .tup [.agg [I 0, I 0, .sl 3 []], .v (.bool false)]) trivial rfl (Z1 hz))
theorem Z1pa (s : By) (hs : s.length <= 1000) (Q) (hq : ∀ x y z c, (c = true -> Z1ld s = some ⟨x, y, z⟩) -> (c = false -> Z1ld s = none) -> Q (RA.ret (.tup [.agg [I x, I y, I z], .v (.bool c)])) []) : CallA Tryz.prog 140 [tD s] [] Q :=
 Z1pm s hs Q (fun w h => hq w.b w.lo w.hi true (fun _ => h) (fun h => Bool.noConfusion h)) (fun h x y z => hq x y z false (fun h => Bool.noConfusion h) (fun _ => h))
set_option maxRecDepth 20000 in
set_option maxHeartbeats 8000000 in
theorem Z1pn (w : List By) (hw : ∀ x ∈ w, x.length <= 1000) (hwl : w.length <= 1000) (WL : List D) (hWL : WL = w.map tD) (Q)
  (h1 : ∀ (r d : Int) (ws : List Wk) (L : List D), Z1li w = some ⟨r, d, ws⟩ -> L = ws.map Z14x -> Q (RA.ret (.tup [.agg [I r, I d, .sl 3 L], .v (.bool true)])) [])
  (h2 : Z1li w = none -> ∀ r d L, Q (RA.ret (.tup [.agg [I r, I d, .sl 3 L], .v (.bool false)])) []) :
  CallA Tryz.prog 101 [.sl 1 WL] [] Q := by
 obtain ⟨A, hA⟩ : ∃ A, A = ar := ⟨_, rfl⟩;have hWl : WL.length = w.length := by rw [hWL, List.length_map]
 refine Z38 Z0 hA [7] Tryz.func101 rfl rfl rfl rfl rfl fun S hS => ?_
 by_cases g3 : w.length < 3
 ·have c1 : A.cmp .lss (A.oi (A.len WL)) 3 = true := by rw [yoiL hA hWl]; subst hA; simp [ar, Z25]; omega
  have hz := h2 (Z1mo g3) 0 0 [];cbv;refine bmT c1 ?_;cbv;exact Z37 (Z1lu 0 0 false) (Z2 [] (by decide) Z9 (H' := []) (d' := .tup [.agg [I 0, I 0, .sl 3 []], .v (.bool false)]) trivial rfl (Z1 hz))
 have c1 : A.cmp .lss (A.oi (A.len WL)) 3 = false := by rw [yoiL hA hWl]; subst hA; simp [ar, Z25]; omega
 obtain ⟨w0, w1, w2, ps, rfl⟩ : ∃ a b c r, w = a :: b :: c :: r := by
  match w, g3 with
  | a :: b :: c :: r, _ => exact ⟨a, b, c, r, rfl⟩
  | [], h => exact absurd (by simp) h
  | [_], h => exact absurd (by simp) h
  | [_, _], h => exact absurd (by simp) h
 have hw1 : w1.length <= 1000 := hw w1 (by simp);have hw2 : w2.length <= 1000 := hw w2 (by simp);have hps : ∀ x ∈ ps, x.length <= 1000 := fun x hx => hw x (by simp [hx]);have hpl : ps.length <= 1000 := by simp at hwl; omega
 obtain ⟨N, hN⟩ : ∃ N, N = ps.length := ⟨_, rfl⟩;have hW3 : WL.length = N + 3 := by rw [hWl, hN]; rfl
 have i0 : A.inb 0 (A.len WL) := Z1b hA hW3 (k := 0) ⟨rfl⟩ (by omega);have i1 : A.inb 1 (A.len WL) := Z1b hA hW3 (k := 1) ⟨rfl⟩ (by omega);have i2 : A.inb 2 (A.len WL) := Z1b hA hW3 (k := 2) ⟨rfl⟩ (by omega);have n0 : A.get WL (A.tn 0) = some (tD w0) := Z18 hA (k := 0) ⟨rfl⟩ (by rw [hWL]; rfl);have n1 : A.get WL (A.tn 1) = some (tD w1) := Z18 hA (k := 1) ⟨rfl⟩ (by rw [hWL]; rfl);have n2 : A.get WL (A.tn 2) = some (tD w2) := Z18 hA (k := 2) ⟨rfl⟩ (by rw [hWL]; rfl)
 by_cases g0 : w0 = ordW
 ·have c2 : A.bnot (A.seq (bs w0) (bs ordW)) = false := by rw [yseq hA, g0]; subst hA; simp [ar]
  have htk := Z1na (w1 := w1) (w2 := w2) (ps := ps) g0;rw [htk] at h1 h2;have bT : A.bnot true = false := by subst hA; rfl
  have bF : A.bnot false = true := by subst hA; rfl
  clear hw hwl hWl;cbv;refine bmF c1 ?_;cbv;refine ⟨i0, Need.mk ⟨_, n0, ?_⟩⟩;cbv;refine bmF c2 ?_;cbv;refine ⟨i1, Need.mk ⟨_, n1, ?_⟩⟩;cbv;refine Z4 hS [.v (.string (bs w1))] [] [] rfl rfl rfl rfl rfl rfl rfl rfl (by decide) trivial (Z1lt w1 hw1 _ fun r b1 t1 f1 => ?_);refine Z3 Z0 hA hS ?_;cbv;refine ⟨i2, Need.mk ⟨_, n2, ?_⟩⟩;cbv;refine Z4 hS [.v (.string (bs w2))] [] [] rfl rfl rfl rfl rfl rfl rfl rfl (by decide) trivial (Z1lt w2 hw2 _ fun d b2 t2 f2 => ?_);have hb0 : ∃ b0, b0 = (b1 && b2) := ⟨_, rfl⟩;obtain ⟨b0, hb0⟩ := hb0;have h12 : b0 = true -> numB w1 = some r /\ numB w2 = some d := fun h => by
   rw [hb0] at h;simp only [Bool.and_eq_true] at h;exact ⟨t1 h.1, t2 h.2⟩
  have h12' : b0 = false -> numB w1 = none ∨ numB w2 = none := fun h => by
   rw [hb0] at h
   cases hb1 : b1 with
   | false => exact .inl (f1 hb1)
   | true =>
   cases hb2 : b2 with
   | false => exact .inr (f2 hb2)
   | true => rw [hb1, hb2] at h; cases h
  refine Z3 Z0 hA hS ?_;cbv;refine' bm2 (S := S) (α := Unit) (fun _ => { env := [(0, .sl 1 WL), (2, .b 0 0), (5, .v (.bool b0)), (8, .b 1 0)], H := [.box (.agg [I 0, I 0, .v (.slice none 0 0)]), .box (.agg [I r, I d, .v (.slice none 0 0)])], nt := 69, dfs := [] }) (fun _ => True) (fun rest c => ?k1) (fun rest c => ?k2) ?k3
  case k1 =>
   have e : b2 = b0 := by rw [hb0, c]; rfl
   subst e;cbv;exact Zof hS rest () trivial (Zf [0, 1] ⟨by decide, Z9, ⟨rfl, rfl, trivial⟩, ⟨rfl, rfl, rfl, rfl, trivial⟩, rfl, rfl⟩)
  case k2 =>
   have e : false = b0 := by rw [hb0, c]; rfl
   subst e;cbv;exact Zof hS rest () trivial (Zf [0, 1] ⟨by decide, Z9, ⟨rfl, rfl, trivial⟩, ⟨rfl, rfl, rfl, rfl, trivial⟩, rfl, rfl⟩)
  case k3 =>
  rintro - -;refine Zb hS (Z2w Z0 hA hS [] ?_);cbv;refine Zb hS ?_;refine Za (α := (Int × Nat) × Bool × List D × Nat) (fun q => { env := [(0, .sl 1 WL), (2, .b 0 0), (5, .v (.bool q.2.1)), (8, .b 1 0), (9, I q.1.1)], H := [.box (.agg [I 0, I 0, .v (.slice none 0 0)]), .box (.agg [I r, I d, .o 2 3 q.2.2.2]), .els 3 q.2.2.1], nt := 69, dfs := [] })
   (fun q => N + 3 - q.1.2) (fun q => 3 <= q.1.2 /\ q.1.2 <= N + 3 /\ IsI q.1.1 q.1.2 /\ q.2.2.1.length = q.2.2.2 /\ q.2.2.2 + 3 <= q.1.2 /\ (q.2.1 = true -> ∃ ws, numB w1 = some r /\ numB w2 = some d /\ Z1l9 (ps.take (q.1.2 - 3)) = some ws /\ q.2.2.1 = ws.map Z14x) /\ (q.2.1 = false -> mkT (numB w1) (numB w2) (Z1l9 ps) = none)) ((3, 3), b0, [], 0) ⟨Nat.le_refl _, Nat.le_add_left 3 N, ⟨rfl⟩, rfl, Nat.le_refl 3, fun h => ⟨[], (h12 h).1, (h12 h).2, rfl, rfl⟩, fun h => Z1ly ((h12' h).elim .inl fun g => .inr (.inl g))⟩ ?_ ?_
  ·refine Zfk 1 2 3 (.agg [I r, I d, .o 2 3 0]) rfl rfl rfl ?_;exact Zf [0, 1, 2] ⟨by decide, Z9, ⟨rfl, rfl, rfl, trivial⟩, ⟨rfl, rfl, rfl, rfl, rfl, trivial⟩, rfl, rfl⟩
  rintro ⟨⟨i, k⟩, b, L, n⟩ ⟨u0, u9, u1, u2, u5, u3, u4⟩;dsimp only at u0 u9 u1 u2 u5 u3 u4;refine Z2w Z0 hA hS [] ?_
  by_cases hk : k < N + 3
  ·have d1 : A.cmp .lss i (A.oi (A.len WL)) = true := by rw [yoiL hA hW3, u1.eq]; subst hA; simp [ar, Z25]; omega
   obtain ⟨p, hp⟩ : ∃ p, ps[k - 3]? = some p := ⟨_, List.getElem?_eq_getElem (by omega)⟩;have hpm := List.mem_of_getElem? hp;have hlp := hps p hpm;have ii : A.inb i (A.len WL) := Z1b hA hW3 u1 hk;have gg : A.get WL (A.tn i) = some (tD p) := Z18 hA u1 (by
    rw [hWL, List.getElem?_map]
    obtain ⟨k', rfl⟩ : ∃ k', k = k' + 3 := ⟨k - 3, by omega⟩
    show Option.map tD (ps[k']?) = _
    rw [show k' = k' + 3 - 3 by omega, hp]; rfl)
   have hf1 := Zy hA u1 (by omega);have hu1 := Zz hA u1;have hms : N + 3 - (k + 1) < N + 3 - k := by omega
   have e1 := yeqLen hA u2;have e3 : A.room (A.addN n 1) 24 := yroom1 hA (by omega) (by omega);have hk3 : 3 <= k + 1 := by omega
   have hn1 : A.addN n 1 + 3 <= k + 1 := by subst hA; show n + 1 + 3 <= _; omega
   have hall : Z1ld p = none -> mkT (numB w1) (numB w2) (Z1l9 ps) = none := fun h => Z1ly (.inr (.inr (Z1me hpm h)));have htk1 : ps.take (k + 1 - 3) = ps.take (k - 3) ++ [p] := by rw [show k + 1 - 3 = (k - 3) + 1 by omega, List.take_add_one, hp]; rfl
   have key : ∀ (w : Wk) (c : Bool), (c = true -> Z1ld p = some w) -> (c = false -> Z1ld p = none) -> ((b && c) = true -> ∃ ws, numB w1 = some r /\ numB w2 = some d /\ Z1l9 (ps.take (k + 1 - 3)) = some ws /\ L ++ [Z14x w] = ws.map Z14x) /\ ((b && c) = false -> mkT (numB w1) (numB w2) (Z1l9 ps) = none) := fun w c c1 c0 => ⟨fun h => by
     simp only [Bool.and_eq_true] at h
     obtain ⟨ws, q1, q2, q3, q4⟩ := u3 h.1
     exact ⟨ws ++ [w], q1, q2, by rw [htk1]; exact Z1lx q3 (c1 h.2), by rw [q4]; simp⟩,
    fun h => by
     cases hb : b with
     | false => exact u4 hb
     | true => rw [hb] at h; exact hall (c0 h)⟩
   clear h1 h2 hps u3 u4 hall htk1 h12 h12' t1 f1 t2 f2;cbv;refine bmT d1 ?_;cbv;refine ⟨ii, Need.mk ⟨_, gg, ?_⟩⟩;cbv;refine Z4 hS [.v (.string (bs p))] [] [] rfl rfl rfl rfl rfl rfl rfl rfl (by decide) trivial (Z1pa p hlp _ (fun x y z c q1 q0 => ?_));obtain ⟨kt, kf⟩ := key ⟨x, y, z⟩ c q1 q0;have hL2 : A.app L [.agg [I x, I y, I z]] = L ++ [Z14x ⟨x, y, z⟩] := by subst hA; rfl
   have hN2 : (A.app L [.agg [I x, I y, I z]]).length = A.addN n 1 := by rw [hL2]; subst hA; simp [ar, u2]
   rw [<- hL2] at kt;have e2 : A.eqN 1 (A.len [.agg [I x, I y, I z]]) := by subst hA; rfl
   clear key q1 q0;refine Z3 Z0 hA hS ?_
   cases b with
   | true =>
    cbv;refine ⟨e1, e2, e3, hf1, ?_⟩;refine Z8 ((A.add i 1, k + 1), c, A.app L [.agg [I x, I y, I z]], A.addN n 1) [0, 1, 5] ⟨hk3, hk, hu1, hN2, hn1, fun h => kt h, fun h => kf h⟩ hms ?_;exact ⟨by decide, Z9, ⟨rfl, rfl, rfl, trivial⟩, ⟨rfl, rfl, rfl, rfl, rfl, trivial⟩, rfl, rfl⟩
   | false =>
    cbv;refine ⟨e1, e2, e3, hf1, ?_⟩;refine Z8 ((A.add i 1, k + 1), false, A.app L [.agg [I x, I y, I z]], A.addN n 1) [0, 1, 5] ⟨hk3, hk, hu1, hN2, hn1, fun h => Bool.noConfusion h, fun _ => kf rfl⟩ hms ?_;exact ⟨by decide, Z9, ⟨rfl, rfl, rfl, trivial⟩, ⟨rfl, rfl, rfl, rfl, rfl, trivial⟩, rfl, rfl⟩
  ·have d1 : A.cmp .lss i (A.oi (A.len WL)) = false := by rw [yoiL hA hW3, u1.eq]; subst hA; simp [ar, Z25]; omega
   have hz : Q (RA.ret (.tup [.agg [I r, I d, .sl 3 L], .v (.bool b)])) [] := by
    cases b with
    | true =>
     obtain ⟨ws, q1, q2, q3, q4⟩ := u3 rfl;rw [List.take_of_length_le (by omega)] at q3;exact h1 r d ws L (by rw [q1, q2, q3]; rfl) q4
    | false => exact h2 (u4 rfl) r d L
   clear h1 h2 hps u3 u4 h12 h12' t1 f1 t2 f2;cbv;refine bmF d1 ?_;cbv;refine Z7 ?_;cbv;refine Z1w [2] ?_;cbv;exact ⟨by cases L <;> exact u2.symm, by cases L <;> exact u2.symm, by cases L <;> exact u2.symm, Z2 [] (by decide) Z9 (H' := []) (d' := .tup [.agg [I r, I d, .sl 3 L], .v (.bool b)]) trivial rfl (Z1 hz)⟩
 ·have c2 : A.bnot (A.seq (bs w0) (bs ordW)) = true := by rw [yseq hA]; subst hA; simp [ar, g0]
  have hz := h2 (Z1mp g0) 0 0 [];cbv;refine bmF c1 ?_;cbv;refine ⟨i0, Need.mk ⟨_, n0, ?_⟩⟩;cbv;refine bmT c2 ?_;cbv;exact Z37 (Z1lu 0 0 false) (Z2 [] (by decide) Z9 (H' := []) (d' := .tup [.agg [I 0, I 0, .sl 3 []], .v (.bool false)]) trivial rfl (Z1 hz))
end Go.Proofs.YthljpccegkmdnaaGreatDoor

namespace Go.Txt
open Go
open Go.Proofs.YthljpccegkmdnaaGreatDoor.Bn (Sh Tk Wk Za5)
theorem Z1mc {w : List By} (h : w.length ≠ 2) : Z1ln w = none := by
 match w, h with
 | [], _ => rfl
 | [_], _ => rfl
 | _ :: _ :: _ :: _, _ => rfl
theorem Z1mf {w0 w1 : By} (h : w0 ≠ benW) : Z1ln [w0, w1] = none := by simp only [Z1ln]; rw [if_neg h]
theorem Z1mq {w0 w1 : By} (h : w0 = benW) : Z1ln [w0, w1] = numB w1 := by simp only [Z1ln]; rw [if_pos h]
theorem Z1n1 {w : List By} {t : Tk} (h : Z1li w = some t) : t.works.length <= w.length := by
 match w, h with
 | w0 :: w1 :: w2 :: ps, h =>
  simp only [Z1li] at h
  split at h
  ·cases h1 : numB w1 with
   | none => rw [h1] at h; cases h
   | some a =>
    cases h2 : numB w2 with
    | none => rw [h1, h2] at h; cases h
    | some b =>
     cases h3 : Z1l9 ps with
     | none => rw [h1, h2, h3] at h; cases h
     | some ws => rw [h1, h2, h3] at h; cases h; have := Z1m7 h3; simp; omega
  ·cases h
end Go.Txt
namespace Go.Proofs.YthljpccegkmdnaaGreatDoor
open Go Go.Abs Go.Proofs Go.Txt
open Bn (Sh Tk Wk Z14x Z14z Za5)
structure RdS (B : List By) (k : Nat) (e : Bool) (n : Int) (TL : List D) (nt : Nat) : Prop where
 out : ∃ s : Sh, s.benches = n /\ TL = s.tasks.map Z14z /\ rdS 0 false s0 B = rdS k e s (B.drop k) /\ s.tasks.length <= k /\ ∀ t ∈ s.tasks, t.works.length <= 1000
 len : TL.length = nt
 k1 : 1 <= k
 kB : k <= B.length
theorem Z1la (l e : Int) : WkD (.tup [.agg [I 0, .v (.slice none 0 0)], I l, I e]) (.tup [.agg [I 0, .sl 3 []], I l, I e]) :=
 Z1kb ⟨WkD.agg ⟨.rfl, .nil, trivial⟩, .rfl, .rfl, trivial⟩
set_option maxRecDepth 20000 in
set_option maxHeartbeats 8000000 in
theorem Z1pb (t : By) (Q) (hq0 : ∀ l e, Z1lg t = (s0, l, e) -> e ≠ 0 -> Q (RA.ret (.tup [.agg [I 0, .sl 3 []], I l, I e])) [])
  (hq1 : ∀ s n TL, Z1lg t = (s, 0, 0) -> Za5 s = 0 -> s.benches = n -> TL = s.tasks.map Z14z -> Q (RA.ret (.tup [.agg [I n, .sl 3 TL], I 0, I 0])) []) :
  CallA Tryz.prog 40 [tD t] [] Q := by
 obtain ⟨A, hA⟩ : ∃ A, A = ar := ⟨_, rfl⟩;refine Z38 Z0 hA [] Tryz.func40 rfl rfl rfl rfl rfl fun S hS => ?_
 by_cases g300 : 300 < t.length
 ·have c1 : A.cmp .gtr (A.oi (A.slen (bs t))) 300 = true := by rw [ycl hA]; simp [Z25]; omega
  have hz := hq0 0 10 (Z1ml g300) (by decide);cbv;refine bmT c1 ?_;cbv;exact Z37 (Z1la _ _) (Z2 [] (by decide) Z9 (H' := []) (d' := .tup [.agg [I 0, .sl 3 []], I 0, I 10]) trivial rfl (Z1 hz))
 have c1 : A.cmp .gtr (A.oi (A.slen (bs t))) 300 = false := by rw [ycl hA]; simp [Z25]; omega
 have t1000 : t.length <= 1000 := by omega
 cbv;refine bmF c1 ?_;cbv;refine Z4 hS [.v (.string (bs t)), .v (.string (bs [10]))] [] [] rfl rfl rfl rfl rfl rfl rfl rfl (by decide) trivial (Z1hf t t1000 10 _ fun LL hLL => ?_);obtain ⟨ls, hls⟩ : ∃ ls, ls = Z1gn 10 t := ⟨_, rfl⟩;rw [<- hls] at hLL;have hlsL := Z1gs 10 t;rw [<- hls] at hlsL;obtain ⟨hl1, hl2⟩ := hlsL;obtain ⟨N, hN⟩ : ∃ N, ls.length = N + 1 := by
  have := Z1h7 10 t;rw [<- hls] at this
  cases ls with
  | nil => exact absurd rfl this
  | cons a l => exact ⟨l.length, rfl⟩
 obtain ⟨B, hB⟩ : ∃ B, B = ls.dropLast := ⟨_, rfl⟩;have hBN : B.length = N := by rw [hB, List.length_dropLast, hN]; rfl
 have hBm : ∀ x ∈ B, x.length <= 300 := fun x hx => by have := hl2 x (List.dropLast_subset _ (hB ▸ hx)); omega
 have hLl : LL.length = N + 1 := by rw [hLL, List.length_map, hN]
 have hla : IsI (A.sub (A.oi (A.len LL)) 1) N := ⟨by rw [Z24 hA, yoiL hA hLl]; omega⟩;have fla : A.fits .i64 (A.sub (A.oi (A.len LL)) 1) := Z14 hA hla.eq (by omega);obtain ⟨sOK, sEq⟩ := Z1jy hA hla (by omega : N <= LL.length);have hBL : A.sub2 LL 0 (A.sub (A.oi (A.len LL)) 1) = B.map tD := by rw [sEq, hLL, hB, <- List.map_take, List.dropLast_eq_take, hN]; rfl
 have hBl : (A.sub2 LL 0 (A.sub (A.oi (A.len LL)) 1)).length = N := by rw [hBL, List.length_map, hBN]
 have hread : ∀ {x : (Bool × Sh) ⊕ Nat}, rdS 0 false s0 B = x -> rdS 0 false s0 (Z1gn 10 t).dropLast = x := fun h => by rw [<- hls, <- hB]; exact h
 have hlen : ((Z1gn 10 t).length : Int) = A.add (A.sub (A.oi (A.len LL)) 1) 1 := by rw [<- hls, hN, Z58 hA, hla.eq]; omega
 have fl2 : A.fits .i64 (A.add (A.sub (A.oi (A.len LL)) 1) 1) := Z14 hA (m := (N : Int) + 1) (by rw [Z58 hA, hla.eq]) (by omega);obtain ⟨lst, hlst⟩ : ∃ x, ls[N]? = some x := ⟨_, List.getElem?_eq_getElem (by omega)⟩;have hgl : (Z1gn 10 t).getLast? = some lst := by rw [<- hls, List.getLast?_eq_getElem?, hN]; exact hlst
 have il : A.inb (A.sub (A.oi (A.len LL)) 1) (A.len LL) := Z1b hA hLl hla (by omega);have nl : A.get LL (A.tn (A.sub (A.oi (A.len LL)) 1)) = some (tD lst) := Z18 hA hla (by rw [hLL, List.getElem?_map, hlst]; rfl);refine Z3 Z0 hA hS ?_;cbv;refine ⟨fla, sOK, ?_⟩;refine Zb hS ?_;refine Za (α := Option ((Int × Nat) × Bool × Int × List D × Nat))
  (fun q => match q with
   | none => { env := [(2, .b 0 0), (5, .sl 1 LL), (6, I (A.sub (A.oi (A.len LL)) 1)), (7, .v (.bool false)), (25, .sl 1 (A.sub2 LL 0 (A.sub (A.oi (A.len LL)) 1))), (26, I (A.oi (A.len (A.sub2 LL 0 (A.sub (A.oi (A.len LL)) 1))))), (27, I 0)], H := [.box (.agg [I 0, .v (.slice none 0 0)])], nt := 96, dfs := [] }
   | some q => { env := [(2, .b 0 0), (5, .sl 1 LL), (6, I (A.sub (A.oi (A.len LL)) 1)), (7, .v (.bool q.2.1)), (25, .sl 1 (A.sub2 LL 0 (A.sub (A.oi (A.len LL)) 1))), (26, I (A.oi (A.len (A.sub2 LL 0 (A.sub (A.oi (A.len LL)) 1))))), (27, I q.1.1)], H := [.box (.agg [I q.2.2.1, .o 1 3 q.2.2.2.2]), .els 3 q.2.2.2.1], nt := 96, dfs := [] })
  (fun q => match q with | none => N + 1 | some q => N - q.1.2)
  (fun q => match q with | none => True | some q => IsI q.1.1 q.1.2 /\ RdS B q.1.2 q.2.1 q.2.2.1 q.2.2.2.1 q.2.2.2.2) none trivial ?_ ?_
 ·exact Zf [0] ⟨by decide, Z9, ⟨rfl, trivial⟩, ⟨rfl, rfl, rfl, rfl, rfl, rfl, rfl, trivial⟩, rfl, rfl⟩
 have bT : A.bnot true = false := by subst hA; rfl
 have bF : A.bnot false = true := by subst hA; rfl
 have e00 : A.cmp .eql 0 0 = true := by subst hA; rfl
 have z0 : IsI 0 0 := ⟨rfl⟩;rintro q hq
 cases q with
 | none =>
  dsimp only;refine Z2w Z0 hA hS [] ?_
  by_cases hN0 : N = 0
  ·have d1 : A.cmp .lss 0 (A.oi (A.len (A.sub2 LL 0 (A.sub (A.oi (A.len LL)) 1)))) = false := by rw [yoiL hA hBl]; subst hA; simp [ar, Z25]; omega
   have hB0 : B = [] := List.eq_nil_of_length_eq_zero (by omega);have hz := hq0 (A.add (A.sub (A.oi (A.len LL)) 1) 1) 2 (by rw [<- hlen]; exact Z1lw g300 (hread (x := .inl (false, s0)) (by rw [hB0]; rfl))) (by decide);clear hq0 hq1 hread;cbv;refine bmF d1 ?_;cbv;refine Z7 ?_;cbv;refine bmT bF ?_;cbv;refine ⟨fl2, ?_⟩;exact Z37 (Z1la _ _) (Z2 [] (by decide) Z9 (H' := []) (d' := .tup [.agg [I 0, .sl 3 []], I (A.add (A.sub (A.oi (A.len LL)) 1) 1), I 2]) trivial rfl (Z1 hz))
  ·have d1 : A.cmp .lss 0 (A.oi (A.len (A.sub2 LL 0 (A.sub (A.oi (A.len LL)) 1)))) = true := by rw [yoiL hA hBl]; subst hA; simp [ar, Z25]; omega
   obtain ⟨l, B', hB'⟩ : ∃ l B', B = l :: B' := by cases B with | nil => exact absurd hBN.symm hN0 | cons l B' => exact ⟨l, B', rfl⟩
   have hll : l.length <= 1000 := by have := hBm l (by rw [hB']; simp); omega
   have hw := fun x hx => Nat.le_trans ((Z1gs 32 l).2 x hx) hll;have ii : A.inb 0 (A.len (A.sub2 LL 0 (A.sub (A.oi (A.len LL)) 1))) := Z1b hA hBl z0 (by omega);have gg : A.get (A.sub2 LL 0 (A.sub (A.oi (A.len LL)) 1)) (A.tn 0) = some (tD l) := Z18 hA z0 (by rw [hBL, hB']; rfl);have hf1 := Zy hA z0 (by decide);have hu1 := Zz hA z0;have hms : N - 1 < N + 1 := by omega
   have hkB : 1 <= B.length := by rw [hB']; simp
   have g1 : Z1ln (Z1gn 32 l) = none -> Z1lg t = (s0, A.add 0 1, 2) := fun h => by rw [hu1.eq]; exact Z1m2 g300 (hread (x := .inr 1) (by rw [hB']; exact Z1mj h))
   have g2 : ∀ n, Z1ln (Z1gn 32 l) = some n -> rdS 0 false s0 B = rdS 1 false ⟨n, []⟩ (B.drop 1) := fun n h => by rw [hB']; exact Z1mh h
   have g3 := fun h => hq0 (A.add 0 1) 2 (g1 h) (by decide);clear hq0 hq1 hread g1;cbv;refine bmT d1 ?_;cbv;refine ⟨ii, Need.mk ⟨_, gg, ?_⟩⟩;cbv;refine Z4 hS [.v (.string (bs l)), .v (.string (bs [32]))] [] [] rfl rfl rfl rfl rfl rfl rfl rfl (by decide) trivial (Z1hf l hll 32 _ fun WL hWL => ?_);have hWl : WL.length = (Z1gn 32 l).length := by rw [hWL, List.length_map]
   refine Z3 Z0 hA hS ?_
   by_cases hl2 : (Z1gn 32 l).length = 2
   ·obtain ⟨w0, w1, hww⟩ : ∃ a b, Z1gn 32 l = [a, b] := by
     match hp : Z1gn 32 l, hl2 with
     | [a, b], _ => exact ⟨a, b, rfl⟩
    have hw1 : w1.length <= 1000 := hw w1 (by rw [hww]; simp);have hW2 : WL.length = 2 := hWl.trans hl2;rw [hww] at hWL g2 g3;have c3 : A.cmp .eql (A.oi (A.len WL)) 2 = true := by rw [yoiL hA hW2]; subst hA; rfl
    have i0 : A.inb 0 (A.len WL) := Z1b hA hW2 (k := 0) ⟨rfl⟩ (by omega);have i1 : A.inb 1 (A.len WL) := Z1b hA hW2 (k := 1) ⟨rfl⟩ (by omega);have n0 : A.get WL (A.tn 0) = some (tD w0) := Z18 hA (k := 0) ⟨rfl⟩ (by rw [hWL]; rfl);have n1 : A.get WL (A.tn 1) = some (tD w1) := Z18 hA (k := 1) ⟨rfl⟩ (by rw [hWL]; rfl)
    by_cases hb : w0 = benW
    ·have c4 : A.seq (bs w0) (bs benW) = true := by rw [yseq hA, hb]; simp
     rw [Z1mq hb] at g2 g3;cbv;refine bmT e00 ?_;cbv;refine bmT c3 ?_;cbv;refine ⟨i0, Need.mk ⟨_, n0, ?_⟩⟩;cbv;refine bmT c4 ?_;cbv;refine ⟨i1, Need.mk ⟨_, n1, ?_⟩⟩;cbv;refine Z4 hS [.v (.string (bs w1))] [] [] rfl rfl rfl rfl rfl rfl rfl rfl (by decide) trivial (Z1lh w1 hw1 _ fun n b tb fb => ?_)
     cases b with
     | true =>
      have hra : RdS B 1 false n [] 0 := ⟨⟨⟨n, []⟩, rfl, rfl, g2 n (tb rfl), Nat.zero_le _, fun _ h => absurd h List.not_mem_nil⟩, rfl, Nat.le_refl _, hkB⟩;clear g2 g3;refine Z3 Z0 hA hS ?_;cbv;refine bmF bT ?_;cbv;refine ⟨hf1, ?_⟩;refine Zfk 0 1 3 (.agg [I n, .o 1 3 0]) rfl rfl rfl ?_;refine Z8 (some ((A.add 0 1, 1), false, n, [], 0)) [0, 1] ⟨hu1, hra⟩ hms ?_;exact ⟨by decide, Z9, ⟨rfl, rfl, trivial⟩, ⟨rfl, rfl, rfl, rfl, rfl, rfl, rfl, trivial⟩, rfl, rfl⟩
     | false =>
      have hz := g3 (fb rfl);clear g2 g3;refine Z3 Z0 hA hS ?_;cbv;refine bmT bF ?_;cbv;refine ⟨hf1, ?_⟩;refine Z7 ?_;cbv;exact Z37 (Z1la _ _) (Z2 [] (by decide) Z9 (H' := []) (d' := .tup [.agg [I 0, .sl 3 []], I (A.add 0 1), I 2]) trivial rfl (Z1 hz))
    ·have c4 : A.seq (bs w0) (bs benW) = false := by rw [yseq hA]; simp [hb]
     have hz := g3 (Z1mf hb);clear g2 g3;cbv;refine bmT e00 ?_;cbv;refine bmT c3 ?_;cbv;refine ⟨i0, Need.mk ⟨_, n0, ?_⟩⟩;cbv;refine bmF c4 ?_;cbv;refine bmT bF ?_;cbv;refine ⟨hf1, ?_⟩;refine Z7 ?_;cbv;exact Z37 (Z1la _ _) (Z2 [] (by decide) Z9 (H' := []) (d' := .tup [.agg [I 0, .sl 3 []], I (A.add 0 1), I 2]) trivial rfl (Z1 hz))
   ·have c3 : A.cmp .eql (A.oi (A.len WL)) 2 = false := by rw [yoiL hA hWl]; subst hA; simp [ar, Z25]; omega
    have hz := g3 (Z1mc hl2);clear g2 g3;cbv;refine bmT e00 ?_;cbv;refine bmF c3 ?_;cbv;refine bmT bF ?_;cbv;refine ⟨hf1, ?_⟩;refine Z7 ?_;cbv;exact Z37 (Z1la _ _) (Z2 [] (by decide) Z9 (H' := []) (d' := .tup [.agg [I 0, .sl 3 []], I (A.add 0 1), I 2]) trivial rfl (Z1 hz))
 | some q =>
  obtain ⟨⟨i, k⟩, e, n, TL, nt⟩ := q;obtain ⟨u1, u2⟩ := hq;dsimp only at u1 u2;obtain ⟨⟨s, v1, v2, v4, v5, v6⟩, v7, v8, v9⟩ := u2;refine Z2w Z0 hA hS [] ?_;have hk1000 : k <= 1000 := by omega
  by_cases hk : k < N
  ·have d1 : A.cmp .lss i (A.oi (A.len (A.sub2 LL 0 (A.sub (A.oi (A.len LL)) 1)))) = true := by rw [yoiL hA hBl, u1.eq]; subst hA; simp [ar, Z25]; omega
   have di : A.cmp .eql i 0 = false := by rw [u1.eq]; subst hA; simp [ar, Z25]; omega
   obtain ⟨l, hl⟩ : ∃ l, B[k]? = some l := ⟨_, List.getElem?_eq_getElem (by omega)⟩;have hlm := hBm l (List.mem_of_getElem? hl);have hll : l.length <= 1000 := by omega
   have hw := fun x hx => Nat.le_trans ((Z1gs 32 l).2 x hx) hll;have hwl : (Z1gn 32 l).length <= 1000 := by have := (Z1gs 32 l).1; omega
   have hdr : B.drop k = l :: B.drop (k + 1) := by
    rw [List.drop_eq_getElem_cons (by omega)]; rw [List.getElem?_eq_getElem (by omega)] at hl; rw [Option.some.inj hl]
   rw [hdr] at v4;have ii : A.inb i (A.len (A.sub2 LL 0 (A.sub (A.oi (A.len LL)) 1))) := Z1b hA hBl u1 hk;have gg : A.get (A.sub2 LL 0 (A.sub (A.oi (A.len LL)) 1)) (A.tn i) = some (tD l) := Z18 hA u1 (by rw [hBL, List.getElem?_map, hl]; rfl);have hf1 := Zy hA u1 (by omega);have hu1 := Zz hA u1;have hms : N - (k + 1) < N - k := by omega
   have hb8 : rdS 0 false s0 B = .inr (k + 1) -> Q (RA.ret (.tup [.agg [I 0, .sl 3 []], I (A.add i 1), I 2])) [] := fun h => hq0 _ 2 (by rw [hu1.eq]; exact Z1m2 g300 (hread h)) (by decide);have hkB : k + 1 <= B.length := by omega
   have k2 : 1 <= k + 1 := by omega
   have nt8 : nt <= 1000 := by rw [<- v7, v2, List.length_map]; omega
   cases e with
   | true =>
    have hz := hb8 (v4.trans (Z1nn k s l _));clear hb8 hq0 hq1 hread v4 hdr;cbv;refine bmT d1 ?_;cbv;refine ⟨ii, Need.mk ⟨_, gg, ?_⟩⟩;cbv;refine Z4 hS [.v (.string (bs l)), .v (.string (bs [32]))] [] [] rfl rfl rfl rfl rfl rfl rfl rfl (by decide) trivial (Z1hf l hll 32 _ fun WL hWL => ?_);refine Z3 Z0 hA hS ?_;cbv;refine bmT bF ?_;cbv;refine ⟨hf1, ?_⟩;refine Z7 ?_;cbv;exact Z37 (Z1la _ _) (Z2 [] (by decide) Z9 (H' := []) (d' := .tup [.agg [I 0, .sl 3 []], I (A.add i 1), I 2]) trivial rfl (Z1 hz))
   | false =>
    by_cases he : l = Z1lf
    ·have ce : A.seq (bs l) (bs Z1lf) = true := by rw [yseq hA, he]; simp
     have hra : RdS B (k + 1) true n TL nt := ⟨⟨s, v1, v2, v4.trans (Z1n8 v8 he), by omega, v6⟩, v7, k2, hkB⟩;clear hb8 hq0 hq1 hread v4 hdr;cbv;refine bmT d1 ?_;cbv;refine ⟨ii, Need.mk ⟨_, gg, ?_⟩⟩;cbv;refine Z4 hS [.v (.string (bs l)), .v (.string (bs [32]))] [] [] rfl rfl rfl rfl rfl rfl rfl rfl (by decide) trivial (Z1hf l hll 32 _ fun WL hWL => ?_);refine Z3 Z0 hA hS ?_;cbv;refine bmF di ?_;cbv;refine bmT ce ?_;cbv;refine bmF bT ?_;cbv;refine ⟨hf1, ?_⟩;refine Z8 (some ((A.add i 1, k + 1), true, n, TL, nt)) [0, 1] ⟨hu1, hra⟩ hms ?_;exact ⟨by decide, Z9, ⟨rfl, rfl, trivial⟩, ⟨rfl, rfl, rfl, rfl, rfl, rfl, rfl, trivial⟩, rfl, rfl⟩
    ·have ce : A.seq (bs l) (bs Z1lf) = false := by rw [yseq hA]; simp [he]
     have hmo : ∀ m, Z1li (Z1gn 32 l) = some m -> RdS B (k + 1) false n (TL ++ [Z14z m]) (nt + 1) := fun m hm => ⟨⟨⟨s.benches, s.tasks ++ [m]⟩, v1, by rw [v2]; simp, v4.trans (Z1mi v8 he hm), by simp; omega, fun x hx => by
      rcases List.mem_append.1 hx with h | h
      ·exact v6 x h
      ·rw [List.mem_singleton.1 h]; exact Nat.le_trans (Z1n1 hm) hwl⟩, by simp [v7], k2, hkB⟩
     have hmn := fun h => hb8 (v4.trans (Z1mk v8 he h));clear hb8 hq0 hq1 hread v4 hdr;cbv;refine bmT d1 ?_;cbv;refine ⟨ii, Need.mk ⟨_, gg, ?_⟩⟩;cbv;refine Z4 hS [.v (.string (bs l)), .v (.string (bs [32]))] [] [] rfl rfl rfl rfl rfl rfl rfl rfl (by decide) trivial (Z1hf l hll 32 _ fun WL hWL => ?_);refine Z3 Z0 hA hS ?_;cbv;refine bmF di ?_;cbv;refine bmF ce ?_;cbv;refine Z4 hS [.sl 1 WL] [] [] rfl rfl rfl rfl rfl rfl rfl rfl (by decide) trivial (Z1p9 (Z1gn 32 l) hw hwl WL hWL _ (fun r d ws L hm hL => ?_) (fun hm r d L => ?_))
     ·have hra := hmo _ hm;clear hmo hmn;have hM2 : A.app TL [.agg [I r, I d, .sl 3 L]] = TL ++ [Z14z ⟨r, d, ws⟩] := by rw [hL]; subst hA; rfl
      have hN2 : A.addN nt 1 = nt + 1 := by subst hA; rfl
      rw [<- hM2, <- hN2] at hra;have e1 := yeqLen hA v7;have e2 : A.eqN 1 (A.len [.agg [I r, I d, .sl 3 L]]) := by subst hA; rfl
      have e3 : A.room (A.addN nt 1) 40 := yroom1 hA (by omega) (by omega);refine Z3 Z0 hA hS ?_;cbv;refine ⟨e1, e2, e3, ?_⟩;refine bmF bT ?_;cbv;refine ⟨hf1, ?_⟩;refine Z8 (some ((A.add i 1, k + 1), false, n, A.app TL [.agg [I r, I d, .sl 3 L]], A.addN nt 1)) [0, 4] ⟨hu1, hra⟩ hms ?_;exact ⟨by decide, Z9, ⟨rfl, rfl, trivial⟩, ⟨rfl, rfl, rfl, rfl, rfl, rfl, rfl, trivial⟩, rfl, rfl⟩
     ·have hz := hmn hm;clear hmo hmn;refine Z3 Z0 hA hS ?_;cbv;refine bmT bF ?_;cbv;refine ⟨hf1, ?_⟩;refine Z7 ?_;cbv;exact Z37 (Z1la _ _) (Z2 [] (by decide) Z9 (H' := []) (d' := .tup [.agg [I 0, .sl 3 []], I (A.add i 1), I 2]) trivial rfl (Z1 hz))
  ·have d1 : A.cmp .lss i (A.oi (A.len (A.sub2 LL 0 (A.sub (A.oi (A.len LL)) 1)))) = false := by rw [yoiL hA hBl, u1.eq]; subst hA; simp [ar, Z25]; omega
   have hrd : rdS 0 false s0 B = .inl (e, s) := by rw [v4, List.drop_of_length_le (by omega)]; rfl
   clear v4
   cases e with
   | false =>
    have hz := hq0 (A.add (A.sub (A.oi (A.len LL)) 1) 1) 2 (by rw [<- hlen]; exact Z1lw g300 (hread hrd)) (by decide);clear hq0 hq1 hread hrd;cbv;refine bmF d1 ?_;cbv;refine Z7 ?_;cbv;refine bmT bF ?_;cbv;refine ⟨fl2, ?_⟩;exact Z37 (Z1la _ _) (Z2 [] (by decide) Z9 (H' := []) (d' := .tup [.agg [I 0, .sl 3 []], I (A.add (A.sub (A.oi (A.len LL)) 1) 1), I 2]) trivial rfl (Z1 hz))
   | true =>
    by_cases hls0 : lst = []
    ·have ce : A.bnot (A.seq (bs lst) (bs [])) = false := by rw [yseq hA, hls0]; subst hA; simp [ar]
     have hg2 : (Z1gn 10 t).getLast? = some [] := by rw [hgl, hls0]
     obtain ⟨e0, he0⟩ : ∃ e, e = Za5 s := ⟨_, rfl⟩;have hb1 := fun h : e0 ≠ 0 => hq0 0 e0 (by rw [he0]; exact Z1my g300 (hread hrd) hg2 (by rw [<- he0]; exact h)) h;have hb0 := fun h : e0 = 0 => hq1 s n TL (Z1mn g300 (hread hrd) hg2 (by rw [<- he0]; exact h)) (by rw [<- he0]; exact h) v1 v2;have qC := fun Q h => Bn.bCheck s ⟨by omega, fun t ht => by have := v6 t ht; omega⟩ TL v2 e0 he0 Q h;rw [v1] at qC;clear hq0 hq1 hread hrd he0 hg2;cbv;refine bmF d1 ?_;cbv;refine Z7 ?_;cbv;refine bmF bT ?_;cbv;refine ⟨il, Need.mk ⟨_, nl, ?_⟩⟩;cbv;refine bmF ce ?_;cbv;refine Z26 hS (Z1a hA [1] ?_);cbv;refine ⟨yeqLen hA v7, yeqLen hA v7, Z7 ?_⟩;refine Z4 hS [.agg [I n, .sl 3 TL]] [] [] rfl rfl rfl rfl rfl rfl rfl rfl (by decide) trivial (qC _ ?_);refine Z3 Z0 hA hS ?_
     by_cases h0 : e0 = 0
     ·have cc : A.cmp .neq e0 0 = false := by subst hA; simp [ar, Z25, h0]
      have hz := hb0 h0;cbv;refine bmF cc ?_;cbv;exact Z2 [] (by decide) Z9 (H' := []) (d' := .tup [.agg [I n, .sl 3 TL], I 0, I 0]) trivial rfl (Z1 hz)
     ·have cc : A.cmp .neq e0 0 = true := by subst hA; simp [ar, Z25, h0]
      have hz := hb1 h0;cbv;refine bmT cc ?_;cbv;exact Z37 (Z1la _ _) (Z2 [] (by decide) Z9 (H' := []) (d' := .tup [.agg [I 0, .sl 3 []], I 0, I e0]) trivial rfl (Z1 hz))
    ·have ce : A.bnot (A.seq (bs lst) (bs [])) = true := by rw [yseq hA]; subst hA; simp [ar, hls0]
     have hz := hq0 (A.add (A.sub (A.oi (A.len LL)) 1) 1) 2 (by rw [<- hlen]; exact Z1mm g300 (hread hrd) (by rw [hgl]; simp [hls0])) (by decide);clear hq0 hq1 hread hrd;cbv;refine bmF d1 ?_;cbv;refine Z7 ?_;cbv;refine bmF bT ?_;cbv;refine ⟨il, Need.mk ⟨_, nl, ?_⟩⟩;cbv;refine bmT ce ?_;cbv;refine ⟨fl2, ?_⟩;exact Z37 (Z1la _ _) (Z2 [] (by decide) Z9 (H' := []) (d' := .tup [.agg [I 0, .sl 3 []], I (A.add (A.sub (A.oi (A.len LL)) 1) 1), I 2]) trivial rfl (Z1 hz))
end Go.Proofs.YthljpccegkmdnaaGreatDoor
