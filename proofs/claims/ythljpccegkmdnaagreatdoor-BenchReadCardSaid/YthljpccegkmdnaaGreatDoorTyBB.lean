/- Part TyBB of the proofs about the benches of the accordion maker: see the last text of the claim for what is proved. -/
import Derived.Test.YthljpccegkmdnaaGreatDoorTyBA
import Derived.Test.YthljpccegkmdnaaGreatDoorTyAZ
set_option linter.unusedVariables false
set_option linter.unusedSimpArgs false
set_option linter.unnecessarySimpa false
set_option linter.constructorNameAsVariable false

namespace Go.Proofs.YthljpccegkmdnaaGreatDoor
open Go Go.Abs Go.Proofs Go.RowKit Go.Txt
theorem Z1oc {c : UInt8} {s : By} (h : c ∉ s) : Lib.cut s [c] = (s, [], false) := by
 unfold Lib.cut;rw [Z1ig h, if_neg (by decide)]
theorem Z1oo {c : UInt8} {a r : By} (h : c ∉ a) : Lib.cut (a ++ c :: r) [c] = (a, r, true) := by
 unfold Lib.cut;rw [Z1j6 h, if_pos (by omega)];simp
theorem Z1n0 (F : Fz) (x y z : D) (vx vy vz : Value) (hx : CR F x vx) (hy : CR F y vy) (hz : CR F z vz) : CR F (.tup [x, y, z]) (.tuple #[vx, vy, vz]) := by
 refine .tup _ _ rfl fun i c v h1 h2 => ?_
 match i, h1, h2 with
 | 0, h1, h2 => simp at h1 h2; subst h1 h2; exact hx
 | 1, h1, h2 => simp at h1 h2; subst h1 h2; exact hy
 | 2, h1, h2 => simp at h1 h2; subst h1 h2; exact hz
 | i + 3, h1, h2 => simp at h1
theorem kCut (s : By) (hs : s.length <= 1000) (c : UInt8) (Q) (h1 : c ∉ s -> Q (RA.ret (.tup [tD s, tD [], .v (.bool false)])) []) (h2 : ∀ a r, s = a ++ c :: r -> c ∉ a -> Q (RA.ret (.tup [tD a, tD r, .v (.bool true)])) []) :
  CallA Tryz.prog 166 [tD s, tD [c]] [] Q := by
 refine ⟨⟨_, Tryz.func166, by kernel_rfl, by kernel_rfl⟩, fun F μ vs w hr hl hv => ?_⟩;obtain ⟨x, y, rfl⟩ := Z1i6 hl;have hx := VR.v_inv (hv 0 _ x rfl rfl);have hy := VR.v_inv (hv 1 _ y rfl rfl);subst hx hy;obtain ⟨m, hm⟩ := Z1jr hr;refine CallsIn.mono (callsIn_wide.2 (Tryz.strings_Cut (bs s) (bs [c]) m w (by rw [Z1h9]; omega) hm)) fun e w' he => ?_;obtain ⟨rfl, n, rfl⟩ := he;rw [Z1gy, Z1gy];obtain ⟨r1, p1⟩ := Z1ik (w' := w.drewN n) hr (Nat.le_refl _) (fun b hb => rfl) rfl rfl rfl;have fin : ∀ d v, CR F d v -> Q (RA.ret d) [] -> Zb7 F μ [] w Q (.returned v) (w.drewN n) := fun d v hc hq => ⟨F, μ, [], d, ⟨p1, r1, Nat.le_refl _, fun _ _ => rfl, fun k hk => by simp [Z13] at hk⟩, .cl _ _ hc, hq⟩;rcases Z1hn c s with h | ⟨a, r, rfl, h⟩
 ·rw [Z1oc h];exact fin _ _ (Z1n0 F _ _ _ _ _ _ (.v _ rfl) (.v _ rfl) (.v _ rfl)) (h1 h)
 ·rw [Z1oo h];exact fin _ _ (Z1n0 F _ _ _ _ _ _ (.v _ rfl) (.v _ rfl) (.v _ rfl)) (h2 a r rfl h)
end Go.Proofs.YthljpccegkmdnaaGreatDoor

namespace Go.Proofs.YthljpccegkmdnaaGreatDoor
open Go Go.Abs Go.Proofs Go.Txt
set_option maxRecDepth 20000 in
set_option maxHeartbeats 2000000 in
theorem Z1op (s : By) (hs : s.length <= 1000) (Q) (h1 : ∀ n, numB s = some n -> Q (RA.ret (.tup [I n, .v (.bool true)])) []) (h2 : numB s = none -> ∀ n, Q (RA.ret (.tup [I n, .v (.bool false)])) []) :
  CallA Tryz.prog 97 [tD s] [] Q := by
 obtain ⟨A, hA⟩ : ∃ A, A = ar := ⟨_, rfl⟩;refine Z5 Z0 hA Tryz.func97 rfl rfl rfl rfl rfl fun S hS => ?_;cbv;refine Z4 hS [.v (.string (bs s))] [] [] rfl rfl rfl rfl rfl rfl rfl rfl (by decide) trivial (Z1k4 (bs s) (by rw [Z1h9]; omega) _ (fun n hn => ?_) (fun n hn => ?_))
 ·have fin : ∀ b, (numB s = some n -> b = true) -> (numB s = none -> b = false) -> Q (RA.ret (.tup [I n, .v (.bool b)])) [] := fun b ht hf => by
   cases h : numB s with
   | none => rw [hf h]; exact h2 h n
   | some n' =>
    have e : n' = n := by have := (Z1h2 h).2.2.2.1; rw [Z1gy] at hn; rw [this] at hn; cases hn; rfl
    subst e;rw [ht h]; exact h1 n' h
  have f0 := fun h => fin false h (fun _ => rfl);obtain ⟨it, hit⟩ : ∃ it, it = Lib.itoa n := ⟨_, rfl⟩
  by_cases g1 : 0 <= n
  ·have c1 : A.cmp .geq n 0 = true := by subst hA; simp [ar, Z25]; omega
   by_cases g2 : s.length <= 3
   ·have c2 : A.cmp .leq (A.oi (A.slen (bs s))) 3 = true := by rw [Z1j9 hA]; subst hA; simp [ar, Z25]; omega
    have hz : Q (RA.ret (.tup [I n, .v (.bool (A.seq (bs it) (bs s)))])) [] := fin _ (fun h => by
     obtain ⟨-, -, e, -⟩ := Z1h2 h
     rw [yseq hA, hit]; exact decide_eq_true e) (fun h => by rw [yseq hA, hit]; exact decide_eq_false (Z1j4 h g1 g2))
    have kI := fun Q h => Z1h3 n it hit (by omega) (Z1jg hn) Q h;refine Z3 Z0 hA hS ?_;cbv;refine bmT c1 ?_;cbv;refine bmT c2 ?_;cbv;refine Zg hS (b := true) rfl rfl rfl rfl rfl rfl rfl rfl (fun _ => ⟨[], _, [I n], [], [], rfl, rfl, rfl, by decide, trivial, kI _ ?_⟩) (fun e => absurd rfl e);refine Z3 Z0 hA hS ?_;cbv;exact Z2 [] (by decide) Z9 (H' := []) (d' := .tup [I n, .v (.bool (A.seq (bs it) (bs s)))]) trivial rfl (Z1 hz)
   ·have c2 : A.cmp .leq (A.oi (A.slen (bs s))) 3 = false := by rw [Z1j9 hA]; subst hA; simp [ar, Z25]; omega
    have hz := f0 (fun h => absurd (Z1h2 h).2.2.2.2.2 g2);refine Z3 Z0 hA hS ?_;cbv;refine bmT c1 ?_;cbv;refine bmF c2 ?_;cbv;refine Zg (f := 0) hS rfl rfl rfl rfl rfl rfl rfl rfl (fun e => Bool.noConfusion e) (fun _ => ?_);refine Z3 Z0 hA hS ?_;cbv;exact Z2 [] (by decide) Z9 (H' := []) (d' := .tup [I n, .v (.bool false)]) trivial rfl (Z1 hz)
  ·have c1 : A.cmp .geq n 0 = false := by subst hA; simp [ar, Z25]; omega
   have hz := f0 (fun h => absurd (Z1h2 h).1 g1);refine Z3 Z0 hA hS ?_;cbv;refine bmF c1 ?_;cbv;refine Zg (f := 0) hS rfl rfl rfl rfl rfl rfl rfl rfl (fun e => Bool.noConfusion e) (fun _ => ?_);refine Z3 Z0 hA hS ?_;cbv;exact Z2 [] (by decide) Z9 (H' := []) (d' := .tup [I n, .v (.bool false)]) trivial rfl (Z1 hz)
 ·have hnn : numB s = none := by
   cases h : numB s with
   | none => rfl
   | some n' => exact absurd (Z1h2 h).2.2.2.1 (by have := hn n'; rwa [Z1gy] at this)
  have hz := h2 hnn n;refine Z3 Z0 hA hS ?_;cbv;refine Zg (f := 0) hS rfl rfl rfl rfl rfl rfl rfl rfl (fun e => Bool.noConfusion e) (fun _ => ?_);refine Z3 Z0 hA hS ?_;cbv;exact Z2 [] (by decide) Z9 (H' := []) (d' := .tup [I n, .v (.bool false)]) trivial rfl (Z1 hz)
set_option maxRecDepth 20000 in
set_option maxHeartbeats 2000000 in
theorem Z1oq (s : By) (hs : s.length <= 1000) (Q) (h1 : ∀ n, numB s = some n -> Q (RA.ret (.tup [I n, .v (.bool true)])) []) (h2 : numB s = none -> ∀ n, Q (RA.ret (.tup [I n, .v (.bool false)])) []) :
  CallA Tryz.prog 100 [tD s] [] Q := by
 obtain ⟨A, hA⟩ : ∃ A, A = ar := ⟨_, rfl⟩;have bad : ∀ x, (∀ n, numB s ≠ some n) -> Q (RA.ret (.tup [I x, .v (.bool false)])) [] := fun x h => h2 (by
  cases e : numB s with
  | none => rfl
  | some n => exact absurd e (h n)) x
 refine Z38 Z0 hA [3] Tryz.func100 rfl rfl rfl rfl rfl fun S hS => ?_
 by_cases g1 : s.length < 1
 ·have c1 : A.cmp .lss (A.oi (A.slen (bs s))) 1 = true := by rw [ycl hA]; simp [Z25]; omega
  have hz := bad 0 (fun n h => by have := (Z1h2 h).2.2.2.2.1; omega);cbv;refine bmT c1 ?_;cbv;exact Z2 [] (by decide) Z9 (H' := []) (d' := .tup [I 0, .v (.bool false)]) trivial rfl (Z1 hz)
 have c1 : A.cmp .lss (A.oi (A.slen (bs s))) 1 = false := by rw [ycl hA]; simp [Z25]; omega
 by_cases g2 : 3 < s.length
 ·have c2 : A.cmp .gtr (A.oi (A.slen (bs s))) 3 = true := by rw [ycl hA]; simp [Z25]; omega
  have hz := bad 0 (fun n h => by have := (Z1h2 h).2.2.2.2.2; omega);cbv;refine bmF c1 ?_;cbv;refine bmT c2 ?_;cbv;exact Z2 [] (by decide) Z9 (H' := []) (d' := .tup [I 0, .v (.bool false)]) trivial rfl (Z1 hz)
 have c2 : A.cmp .gtr (A.oi (A.slen (bs s))) 3 = false := by rw [ycl hA]; simp [Z25]; omega
 obtain ⟨a, ha⟩ : ∃ a, s[0]? = some a := ⟨_, List.getElem?_eq_getElem (by omega)⟩;have i0 : A.inb 0 (A.slen (bs s)) := Z1im hA (k := 0) ⟨rfl⟩ (by omega);have l1 : ∀ b, A.cmp .eql (A.sget (bs s) (A.tn 0)) 48 = b -> b = decide (a = 48) := fun b h => by
  rw [yc8 hA .eql (i := 0) (k := 0) ⟨rfl⟩ ha] at h;rw [<- h]; simp only [Z25]
  by_cases e : a = 48
  ·subst e; rfl
  ·have : a.toNat ≠ 48 := Z1hm.1 e;simp [e]; omega
 have l2 : ∀ b, A.cmp .gtr (A.oi (A.slen (bs s))) 1 = b -> b = decide (1 < s.length) := fun b h => by
  rw [ycl hA] at h;rw [<- h]; simp [Z25]; omega
 have hz0 := fun (e1 : a = 48) (e2 : 1 < s.length) => bad 0 (fun n h => (Z1i3 h).2 ⟨by rw [ha, e1], e2⟩);have h10 : A.fits .i64 (A.add 0 1) := by subst hA; exact Zxl (by decide)
 cbv;refine bmF c1 ?_;cbv;refine bmF c2 ?_;cbv;refine ⟨i0, ?_⟩;refine' bm2 (S := S) (α := Unit) (fun _ => { env := [(0, tD s)], H := [], nt := 49, dfs := [] }) (fun _ => ¬ (a = 48 /\ 1 < s.length)) (fun rest c => ?h1) (fun rest c => ?h2) ?h3
 case h1 =>
  have e1 : a = 48 := of_decide_eq_true (l1 _ c).symm;cbv;refine bm (fun c4 => ?_) (fun c4 => ?_)
  ·have hz := hz0 e1 (of_decide_eq_true (l2 _ c4).symm);cbv;exact Z2 [] (by decide) Z9 (H' := []) (d' := .tup [I 0, .v (.bool false)]) trivial rfl (Z1 hz)
  ·have e2 := of_decide_eq_false (l2 _ c4).symm;cbv;exact Zof hS rest () (fun h => e2 h.2) (Zf [] ⟨by decide, Z9, trivial, ⟨rfl, trivial⟩, rfl, rfl⟩)
 case h2 =>
  have e1 := of_decide_eq_false (l1 _ c).symm;cbv;exact Zof hS rest () (fun h => e1 h.1) (Zf [] ⟨by decide, Z9, trivial, ⟨rfl, trivial⟩, rfl, rfl⟩)
 case h3 =>
  rintro - hn48;refine Zb hS (Z2w Z0 hA hS [] ?_);cbv;refine Zb hS ?_;refine Za (α := Int × Nat × Int) (fun q => { env := [(0, tD s), (4, I q.2.2), (5, I q.1)], H := [], nt := 49, dfs := [] })
   (fun q => s.length - q.2.1) (fun q => q.2.1 <= s.length /\ IsI q.1 q.2.1 /\ q.2.2 = fold (s.take q.2.1) /\ ∀ c ∈ s.take q.2.1, dig c = true) (0, 0, 0) ⟨Nat.zero_le _, ⟨rfl⟩, by simp [fold], by simp⟩ ?_ ?_
  ·exact Zf [] ⟨by decide, Z9, trivial, ⟨rfl, rfl, rfl, trivial⟩, rfl, rfl⟩
  rintro ⟨i, k, n⟩ ⟨u1, u2, u3, u4⟩;dsimp only at u1 u2 u3 u4;refine Z2w Z0 hA hS [] ?_
  by_cases hk : k < s.length
  ·have d1 : A.cmp .lss i (A.oi (A.slen (bs s))) = true := by rw [ycr hA, u2.eq]; simp [Z25]; omega
   obtain ⟨c, hc⟩ : ∃ c, s[k]? = some c := ⟨_, List.getElem?_eq_getElem hk⟩;have ii := Z1im hA u2 hk;have hts : s.take (k + 1) = s.take k ++ [c] := by rw [List.take_add_one, hc]; rfl
   have hall : dig c = true -> ∀ x ∈ s.take (k + 1), dig x = true := fun hd x hx => by
    rw [hts, List.mem_append] at hx;rcases hx with hx | hx
    ·exact u4 x hx
    ·simp at hx; subst hx; exact hd
   have hbd := Z1jb (s.take k) u4 (by rw [List.length_take]; omega);rw [<- u3] at hbd;have hcs : c ∈ s := List.mem_of_getElem? hc
   by_cases g3 : c.toNat < 48
   ·have d2 : A.cmp .lss (A.sget (bs s) (A.tn i)) 48 = true := by rw [yc8 hA .lss u2 hc]; simp [Z25]; omega
    have hz := bad 0 (fun n h => by have := Z1gp.1 ((Z1i3 h).1 c hcs); omega);clear hall;cbv;refine bmT d1 ?_;cbv;refine ⟨ii, ?_⟩;refine bmT d2 ?_;cbv;refine Z7 ?_;cbv;exact Z2 [] (by decide) Z9 (H' := []) (d' := .tup [I 0, .v (.bool false)]) trivial rfl (Z1 hz)
   have d2 : A.cmp .lss (A.sget (bs s) (A.tn i)) 48 = false := by rw [yc8 hA .lss u2 hc]; simp [Z25]; omega
   by_cases g4 : 57 < c.toNat
   ·have d3 : A.cmp .gtr (A.sget (bs s) (A.tn i)) 57 = true := by rw [yc8 hA .gtr u2 hc]; simp [Z25]; omega
    have hz := bad 0 (fun n h => by have := Z1gp.1 ((Z1i3 h).1 c hcs); omega);clear hall;cbv;refine bmT d1 ?_;cbv;refine ⟨ii, ?_⟩;refine bmF d2 ?_;cbv;refine ⟨ii, ?_⟩;refine bmT d3 ?_;cbv;refine Z7 ?_;cbv;exact Z2 [] (by decide) Z9 (H' := []) (d' := .tup [I 0, .v (.bool false)]) trivial rfl (Z1 hz)
   have d3 : A.cmp .gtr (A.sget (bs s) (A.tn i)) 57 = false := by rw [yc8 hA .gtr u2 hc]; simp [Z25]; omega
   have hdg : dig c = true := Z1gp.2 ⟨by omega, by omega⟩;have hw := Z1k7 hA (Z1jo hA u2 hc) (by omega : 48 <= c.toNat);have hval : A.add (A.mul 10 n) (A.wrap .i64 (A.wrap .u8 (A.sub (A.sget (bs s) (A.tn i)) 48))) = fold (s.take (k + 1)) := by
    rw [hw, hts, Z1iv, <- u3]; subst hA; rfl
   have f1 : A.fits .i64 (A.mul 10 n) := Z14 hA (xmul hA _ _) (by omega);have f2 : A.fits .i64 (A.add (A.mul 10 n) (A.wrap .i64 (A.wrap .u8 (A.sub (A.sget (bs s) (A.tn i)) 48)))) := Z14 hA (m := 10 * n + dgv c) (by rw [Z58 hA, xmul hA, hw]) (by unfold dgv; omega);have hf1 := Zy hA u2 (by omega);have hu2 := Zz hA u2;have hms : s.length - (k + 1) < s.length - k := by omega
   have hall' := hall hdg;clear hall;cbv;refine bmT d1 ?_;cbv;refine ⟨ii, ?_⟩;refine bmF d2 ?_;cbv;refine ⟨ii, ?_⟩;refine bmF d3 ?_;cbv;refine ⟨f1, ii, f2, hf1, ?_⟩;refine Z8 (A.add i 1, k + 1, A.add (A.mul 10 n) (A.wrap .i64 (A.wrap .u8 (A.sub (A.sget (bs s) (A.tn i)) 48)))) [] ⟨hk, hu2, hval, hall'⟩ hms ?_;exact ⟨by decide, Z9, trivial, ⟨rfl, rfl, rfl, trivial⟩, rfl, rfl⟩
  ·have d1 : A.cmp .lss i (A.oi (A.slen (bs s))) = false := by rw [ycr hA, u2.eq]; simp [Z25]; omega
   have e : s.take k = s := List.take_of_length_le (by omega);rw [e] at u3 u4;have hz : Q (RA.ret (.tup [I n, .v (.bool true)])) [] := by
    rw [u3]; exact h1 _ (Z1ja (by omega) (by omega) (fun h => hn48 ⟨by rw [ha] at h; exact Option.some.inj h.1, h.2⟩) u4)
   cbv;refine bmF d1 ?_;cbv;refine Z7 ?_;cbv;exact Z2 [] (by decide) Z9 (H' := []) (d' := .tup [I n, .v (.bool true)]) trivial rfl (Z1 hz)
set_option maxRecDepth 20000 in
set_option maxHeartbeats 2000000 in
theorem Z1m6 (s : By) (hs : s.length <= 1000) (c : UInt8) (z : Int) (hz : z = (c.toNat : Int)) (Q) (hq : ∀ L, L = (Z1gn c s).map tD -> Q (RA.ret (.sl 1 L)) []) :
  CallA Tryz.prog 99 [tD s, .v (.int .u8 z)] [] Q := by
 obtain ⟨A, hA⟩ : ∃ A, A = ar := ⟨_, rfl⟩;refine Z5 Z0 hA Tryz.func99 rfl rfl rfl rfl rfl fun S hS => ?_;cbv;refine Zb hS ?_;refine Za (α := (Int × Nat) × (Int × Nat) × List D × Nat) (fun q => { env := [(0, tD s), (1, .v (.int .u8 z)), (5, .o 0 1 q.2.2.2), (6, I q.2.1.1), (7, I q.1.1)], H := [.els 1 q.2.2.1], nt := 35, dfs := [] })
  (fun q => s.length + 1 - q.1.2) (fun q => IsI q.1.1 q.1.2 /\ IsI q.2.1.1 q.2.1.2 /\ SplitAt c s q.1.2 q.2.1.2 q.2.2.1 /\ q.2.2.1.length = q.2.2.2 /\ q.2.2.2 <= q.1.2) ((0, 0), (0, 0), [], 0) ⟨⟨rfl⟩, ⟨rfl⟩, SplitAt.start c s, rfl, Nat.le_refl _⟩ ?_ ?_
 ·refine Z2a 5 1 rfl ?_;exact Zf [0] ⟨by decide, Z9, ⟨rfl, trivial⟩, ⟨rfl, rfl, rfl, rfl, rfl, trivial⟩, rfl, rfl⟩
 rintro ⟨⟨i, k⟩, ⟨fr, f⟩, L, n⟩ ⟨u1, u2, u3, u4, u5⟩;dsimp only at u1 u2 u3 u4 u5;have hkl := u3.le;refine Zi Z0 hA hS ?_
 by_cases hk : s.length < k
 ·have d1 : A.cmp .leq i (A.oi (A.slen (bs s))) = false := by rw [ycr hA, u1.eq]; simp [Z25]; omega
  have hz := hq L (u3.fin hk);cbv;refine bmF d1 ?_;cbv;refine Z7 ?_;cbv;refine Z1w [0] ?_;cbv;exact ⟨by cases L <;> exact u4.symm, Z2 [] (by decide) Z9 (H' := []) (d' := .sl 1 L) trivial rfl (Z1 hz)⟩
 have d1 : A.cmp .leq i (A.oi (A.slen (bs s))) = true := by rw [ycr hA, u1.eq]; simp [Z25]; omega
 by_cases hl : k = s.length
 ·have d2 : A.cmp .eql i (A.oi (A.slen (bs s))) = true := by rw [ycr hA, u1.eq]; simp [Z25]; omega
  obtain ⟨hfk, hnx⟩ := u3.last hl;obtain ⟨o1, o2⟩ := Z1i7 (s := s) hA u2 u1 hfk (by omega);have hL2 : A.app L [.v (.string (A.ssub (bs s) fr i))] = L ++ [tD ((s.drop f).take (k - f))] := by rw [o2]; subst hA; rfl
  rw [<- hL2] at hnx;have hL3 : (A.app L [.v (.string (A.ssub (bs s) fr i))]).length = A.addN n 1 := by rw [hL2]; subst hA; simp [ar, u4]
  have hn1 : A.addN n 1 <= k + 1 := by subst hA; show n + 1 <= _; omega
  have e1 := yeqLen hA u4;have e2 : A.eqN 1 (A.len [.v (.string (A.ssub (bs s) fr i))]) := by subst hA; rfl
  have e3 : A.room (A.addN n 1) 16 := yroom1 hA (by omega) (by omega);have hf1 := Zy hA u1 (by omega);have hu1 := Zz hA u1;have hms : s.length + 1 - (k + 1) < s.length + 1 - k := by omega
  cbv;refine bmT d1 ?_;cbv;refine bmT d2 ?_;cbv;refine ⟨o1, e1, e2, e3, hf1, hf1, ?_⟩;refine Z8 ((A.add i 1, k + 1), (A.add i 1, k + 1), A.app L [.v (.string (A.ssub (bs s) fr i))], A.addN n 1) [2] ⟨hu1, hu1, hnx, hL3, hn1⟩ hms ?_;exact ⟨by decide, Z9, ⟨rfl, trivial⟩, ⟨rfl, rfl, rfl, rfl, rfl, trivial⟩, rfl, rfl⟩
 have d2 : A.cmp .eql i (A.oi (A.slen (bs s))) = false := by rw [ycr hA, u1.eq]; simp [Z25]; omega
 have hk2 : k < s.length := by omega
 obtain ⟨x, hx⟩ : ∃ x, s[k]? = some x := ⟨_, List.getElem?_eq_getElem hk2⟩;have ii := Z1im hA u1 hk2
 by_cases hc : x = c
 ·subst hc;have d3 : A.cmp .eql (A.sget (bs s) (A.tn i)) z = true := by rw [yc8 hA .eql u1 hx, hz]; simp [Z25]
  obtain ⟨hfk, hnx⟩ := u3.cut hk2 hx;obtain ⟨o1, o2⟩ := Z1i7 (s := s) hA u2 u1 hfk (by omega);have hL2 : A.app L [.v (.string (A.ssub (bs s) fr i))] = L ++ [tD ((s.drop f).take (k - f))] := by rw [o2]; subst hA; rfl
  rw [<- hL2] at hnx;have hL3 : (A.app L [.v (.string (A.ssub (bs s) fr i))]).length = A.addN n 1 := by rw [hL2]; subst hA; simp [ar, u4]
  have hn1 : A.addN n 1 <= k + 1 := by subst hA; show n + 1 <= _; omega
  have e1 := yeqLen hA u4;have e2 : A.eqN 1 (A.len [.v (.string (A.ssub (bs s) fr i))]) := by subst hA; rfl
  have e3 : A.room (A.addN n 1) 16 := yroom1 hA (by omega) (by omega);have hf1 := Zy hA u1 (by omega);have hu1 := Zz hA u1;have hms : s.length + 1 - (k + 1) < s.length + 1 - k := by omega
  cbv;refine bmT d1 ?_;cbv;refine bmF d2 ?_;cbv;refine ⟨ii, ?_⟩;refine bmT d3 ?_;cbv;refine ⟨o1, e1, e2, e3, hf1, hf1, ?_⟩;refine Z8 ((A.add i 1, k + 1), (A.add i 1, k + 1), A.app L [.v (.string (A.ssub (bs s) fr i))], A.addN n 1) [2] ⟨hu1, hu1, hnx, hL3, hn1⟩ hms ?_;exact ⟨by decide, Z9, ⟨rfl, trivial⟩, ⟨rfl, rfl, rfl, rfl, rfl, trivial⟩, rfl, rfl⟩
 ·have d3 : A.cmp .eql (A.sget (bs s) (A.tn i)) z = false := by
   rw [yc8 hA .eql u1 hx, hz]; simp only [Z25];have : x.toNat ≠ c.toNat := Z1hm.1 hc;rw [beq_eq_false_iff_ne]; exact fun h => this (Int.ofNat.inj h)
  have hnx := u3.on hk2 hx hc;have hf1 := Zy hA u1 (by omega);have hu1 := Zz hA u1;have hms : s.length + 1 - (k + 1) < s.length + 1 - k := by omega
  have hn1 : n <= k + 1 := by omega
  cbv;refine bmT d1 ?_;cbv;refine bmF d2 ?_;cbv;refine ⟨ii, ?_⟩;refine bmF d3 ?_;cbv;refine ⟨hf1, ?_⟩;refine Z8 ((A.add i 1, k + 1), (fr, f), L, n) [0] ⟨hu1, u2, hnx, u4, hn1⟩ hms ?_;exact ⟨by decide, Z9, ⟨rfl, trivial⟩, ⟨rfl, rfl, rfl, rfl, rfl, trivial⟩, rfl, rfl⟩
theorem Z1lh (s : By) (hs : s.length <= 1000) (Q) (hq : ∀ n b, (b = true -> numB s = some n) -> (b = false -> numB s = none) -> Q (RA.ret (.tup [I n, .v (.bool b)])) []) : CallA Tryz.prog 97 [tD s] [] Q :=
 Z1op s hs Q (fun n h => hq n true (fun _ => h) (fun h => Bool.noConfusion h)) (fun h n => hq n false (fun h => Bool.noConfusion h) (fun _ => h))
theorem Z1lt (s : By) (hs : s.length <= 1000) (Q) (hq : ∀ n b, (b = true -> numB s = some n) -> (b = false -> numB s = none) -> Q (RA.ret (.tup [I n, .v (.bool b)])) []) : CallA Tryz.prog 100 [tD s] [] Q :=
 Z1oq s hs Q (fun n h => hq n true (fun _ => h) (fun h => Bool.noConfusion h)) (fun h n => hq n false (fun h => Bool.noConfusion h) (fun _ => h))
end Go.Proofs.YthljpccegkmdnaaGreatDoor

namespace Go.Proofs.YthljpccegkmdnaaGreatDoor
open Go Go.Abs Go.Proofs Go.Txt
open Bn (Sh Tk Wk Z14x Z14z)
set_option maxRecDepth 20000 in
set_option maxHeartbeats 4000000 in
theorem Z1pl (s : By) (hs : s.length <= 1000) (Q) (h1 : ∀ w : Wk, Z1ld s = some w -> Q (RA.ret (.tup [.agg [I w.b, I w.lo, I w.hi], .v (.bool true)])) []) (h2 : Z1ld s = none -> ∀ x y z, Q (RA.ret (.tup [.agg [I x, I y, I z], .v (.bool false)])) []) :
  CallA Tryz.prog 139 [tD s] [] Q := by
 obtain ⟨A, hA⟩ : ∃ A, A = ar := ⟨_, rfl⟩;refine Z5 Z0 hA Tryz.func139 rfl rfl rfl rfl rfl fun S hS => ?_;cbv;refine Z4 hS [.v (.string (bs s)), .v (.string (bs [58]))] [] [] rfl rfl rfl rfl rfl rfl rfl rfl (by decide) trivial (kCut s hs 58 _ (fun hno => ?_) (fun a r hsr ha => ?_))
 ·have hn := h2 (Z1oa hno);have h0 : ([] : By).length <= 1000 := by decide
  refine Z3 Z0 hA hS ?_;cbv;refine Z4 hS [.v (.string (bs [])), .v (.string (bs [45]))] [] [] rfl rfl rfl rfl rfl rfl rfl rfl (by decide) trivial (kCut [] h0 45 _ (fun _ => ?_) (fun a r h _ => absurd h (by simp)));refine Z3 Z0 hA hS ?_;cbv;refine Z4 hS [.v (.string (bs s))] [] [] rfl rfl rfl rfl rfl rfl rfl rfl (by decide) trivial (Z1lh s hs _ fun v1 b1 tb1 fb1 => ?_);refine Z3 Z0 hA hS ?_;cbv;refine Z4 hS [.v (.string (bs []))] [] [] rfl rfl rfl rfl rfl rfl rfl rfl (by decide) trivial (Z1lh [] h0 _ fun v2 b2 tb2 fb2 => ?_);refine Z3 Z0 hA hS ?_;cbv;refine Z4 hS [.v (.string (bs []))] [] [] rfl rfl rfl rfl rfl rfl rfl rfl (by decide) trivial (Z1lh [] h0 _ fun v3 b3 tb3 fb3 => ?_);have hz := hn v1 v2 v3;clear h1 h2 hn tb1 fb1 tb2 fb2 tb3 fb3;refine Z3 Z0 hA hS ?_;cbv;exact Z2 [] (by decide) Z9 (H' := []) (d' := .tup [.agg [I v1, I v2, I v3], .v (.bool false)]) trivial rfl (Z1 hz)
 ·subst hsr;have hla : a.length <= 1000 := by simp at hs; omega
  have hlr : r.length <= 1000 := by simp at hs; omega
  refine Z3 Z0 hA hS ?_;cbv;refine Z4 hS [.v (.string (bs r)), .v (.string (bs [45]))] [] [] rfl rfl rfl rfl rfl rfl rfl rfl (by decide) trivial (kCut r hlr 45 _ (fun hno => ?_) (fun b c hrc hb => ?_))
  ·have hn := h2 (Z1ob ha hno);have h0 : ([] : By).length <= 1000 := by decide
   refine Z3 Z0 hA hS ?_;cbv;refine Z4 hS [.v (.string (bs a))] [] [] rfl rfl rfl rfl rfl rfl rfl rfl (by decide) trivial (Z1lh a hla _ fun v1 b1 tb1 fb1 => ?_);refine Z3 Z0 hA hS ?_;cbv;refine Z4 hS [.v (.string (bs r))] [] [] rfl rfl rfl rfl rfl rfl rfl rfl (by decide) trivial (Z1lh r hlr _ fun v2 b2 tb2 fb2 => ?_);refine Z3 Z0 hA hS ?_;cbv;refine Z4 hS [.v (.string (bs []))] [] [] rfl rfl rfl rfl rfl rfl rfl rfl (by decide) trivial (Z1lh [] h0 _ fun v3 b3 tb3 fb3 => ?_);have hz := hn v1 v2 v3;clear h1 h2 hn tb1 fb1 tb2 fb2 tb3 fb3;refine Z3 Z0 hA hS ?_;cbv;exact Z2 [] (by decide) Z9 (H' := []) (d' := .tup [.agg [I v1, I v2, I v3], .v (.bool false)]) trivial rfl (Z1 hz)
  ·subst hrc;have hlb : b.length <= 1000 := by simp at hlr; omega
   have hlc : c.length <= 1000 := by simp at hlr; omega
   have hwk := Z1ny (c := c) ha hb;refine Z3 Z0 hA hS ?_;cbv;refine Z4 hS [.v (.string (bs a))] [] [] rfl rfl rfl rfl rfl rfl rfl rfl (by decide) trivial (Z1lh a hla _ fun v1 b1 tb1 fb1 => ?_);refine Z3 Z0 hA hS ?_;cbv;refine Z4 hS [.v (.string (bs b))] [] [] rfl rfl rfl rfl rfl rfl rfl rfl (by decide) trivial (Z1lh b hlb _ fun v2 b2 tb2 fb2 => ?_);refine Z3 Z0 hA hS ?_;cbv;refine Z4 hS [.v (.string (bs c))] [] [] rfl rfl rfl rfl rfl rfl rfl rfl (by decide) trivial (Z1lh c hlc _ fun v3 b3 tb3 fb3 => ?_);have hz : ∀ b, b = (b1 && b2 && b3) -> Q (RA.ret (.tup [.agg [I v1, I v2, I v3], .v (.bool b)])) [] := fun b hb => by
    cases b with
    | true =>
     have hb := hb.symm;simp only [Bool.and_eq_true] at hb;obtain ⟨⟨e1, e2⟩, e3⟩ := hb;exact h1 ⟨v1, v2, v3⟩ (by rw [hwk, tb1 e1, tb2 e2, tb3 e3]; rfl)
    | false =>
     refine h2 ?_ _ _ _;rw [hwk];refine Z1m9 ?_
     cases hb1 : b1 with
     | false => exact .inl (fb1 hb1)
     | true =>
     cases hb2 : b2 with
     | false => exact .inr (.inl (fb2 hb2))
     | true =>
     cases hb3 : b3 with
     | false => exact .inr (.inr (fb3 hb3))
     | true =>
     subst hb1 hb2 hb3;exact Bool.noConfusion hb
   clear h1 h2 hwk tb1 fb1 tb2 fb2 tb3 fb3;refine Z3 Z0 hA hS ?_;cbv;refine bm (fun p1 => ?_) (fun p1 => ?_)
   ·cbv;refine bm (fun p2 => ?_) (fun p2 => ?_)
    ·have hz := hz b3 (by rw [p1, p2]; rfl);cbv;exact Z2 [] (by decide) Z9 (H' := []) (d' := .tup [.agg [I v1, I v2, I v3], .v (.bool b3)]) trivial rfl (Z1 hz)
    ·have hz := hz false (by rw [p1, p2]; rfl);cbv;exact Z2 [] (by decide) Z9 (H' := []) (d' := .tup [.agg [I v1, I v2, I v3], .v (.bool false)]) trivial rfl (Z1 hz)
   ·have hz := hz false (by rw [p1]; rfl);cbv;exact Z2 [] (by decide) Z9 (H' := []) (d' := .tup [.agg [I v1, I v2, I v3], .v (.bool false)]) trivial rfl (Z1 hz)
set_option maxRecDepth 20000 in
set_option maxHeartbeats 4000000 in
theorem Z1pm (s : By) (hs : s.length <= 1000) (Q) (h1 : ∀ w : Wk, Z1ld s = some w -> Q (RA.ret (.tup [.agg [I w.b, I w.lo, I w.hi], .v (.bool true)])) []) (h2 : Z1ld s = none -> ∀ x y z, Q (RA.ret (.tup [.agg [I x, I y, I z], .v (.bool false)])) []) :
  CallA Tryz.prog 140 [tD s] [] Q := by
 obtain ⟨A, hA⟩ : ∃ A, A = ar := ⟨_, rfl⟩;refine Z5 Z0 hA Tryz.func140 rfl rfl rfl rfl rfl fun S hS => ?_;cbv;refine Z4 hS [.v (.string (bs s)), .v (.int .u8 58)] [] [] rfl rfl rfl rfl rfl rfl rfl rfl (by decide) trivial (Z1m6 s hs 58 58 rfl _ fun PL hPL => ?_);have hl58 := Z1gs 58 s;have hPl : PL.length = (Z1gn 58 s).length := by rw [hPL, List.length_map]
 refine Z3 Z0 hA hS ?_
 by_cases g2 : (Z1gn 58 s).length = 2
 ·obtain ⟨a, h, hp⟩ : ∃ a h, Z1gn 58 s = [a, h] := by
   match hp : Z1gn 58 s, g2 with
   | [a, h], _ => exact ⟨a, h, rfl⟩
  have hla : a.length <= 1000 := by have := hl58.2 a (by rw [hp]; simp); omega
  have hlh : h.length <= 1000 := by have := hl58.2 h (by rw [hp]; simp); omega
  have hP2 : PL.length = 2 := hPl.trans g2;rw [hp] at hPL;have c1 : A.cmp .neq (A.oi (A.len PL)) 2 = false := by rw [yoiL hA hP2]; subst hA; rfl
  have i0 : A.inb 0 (A.len PL) := Z1b hA hP2 (k := 0) ⟨rfl⟩ (by omega);have i1 : A.inb 1 (A.len PL) := Z1b hA hP2 (k := 1) ⟨rfl⟩ (by omega);have n0 : A.get PL (A.tn 0) = some (tD a) := Z18 hA (k := 0) ⟨rfl⟩ (by rw [hPL]; rfl);have n1 : A.get PL (A.tn 1) = some (tD h) := Z18 hA (k := 1) ⟨rfl⟩ (by rw [hPL]; rfl);have hl45 := Z1gs 45 h;clear hPL hPl hl58 hs;cbv;refine bmF c1 ?_;cbv;refine ⟨i1, Need.mk ⟨_, n1, ?_⟩⟩;cbv;refine Z4 hS [.v (.string (bs h)), .v (.int .u8 45)] [] [] rfl rfl rfl rfl rfl rfl rfl rfl (by decide) trivial (Z1m6 h hlh 45 45 rfl _ fun HL hHL => ?_);have hHl : HL.length = (Z1gn 45 h).length := by rw [hHL, List.length_map]
  refine Z3 Z0 hA hS ?_
  by_cases g3 : (Z1gn 45 h).length = 2
  ·obtain ⟨b, c, hq⟩ : ∃ a h', Z1gn 45 h = [a, h'] := by
    match hq : Z1gn 45 h, g3 with
    | [a, h'], _ => exact ⟨a, h', rfl⟩
   have hlb : b.length <= 1000 := by have := hl45.2 b (by rw [hq]; simp); omega
   have hlc : c.length <= 1000 := by have := hl45.2 c (by rw [hq]; simp); omega
   have hH2 : HL.length = 2 := hHl.trans g3;have hwk : Z1ld s = mkW (numB a) (numB b) (numB c) := by unfold Z1ld; rw [hp]; dsimp only; rw [hq]
   rw [hq] at hHL;have c3 : A.cmp .neq (A.oi (A.len HL)) 2 = false := by rw [yoiL hA hH2]; subst hA; rfl
   have j0 : A.inb 0 (A.len HL) := Z1b hA hH2 (k := 0) ⟨rfl⟩ (by omega);have j1 : A.inb 1 (A.len HL) := Z1b hA hH2 (k := 1) ⟨rfl⟩ (by omega);have m0 : A.get HL (A.tn 0) = some (tD b) := Z18 hA (k := 0) ⟨rfl⟩ (by rw [hHL]; rfl);have m1 : A.get HL (A.tn 1) = some (tD c) := Z18 hA (k := 1) ⟨rfl⟩ (by rw [hHL]; rfl);clear hHL hHl hl45 g3 g2 hp hq;cbv;refine bmF c3 ?_;cbv;refine ⟨i0, Need.mk ⟨_, n0, ?_⟩⟩;cbv;refine Z4 hS [.v (.string (bs a))] [] [] rfl rfl rfl rfl rfl rfl rfl rfl (by decide) trivial (Z1lt a hla _ fun v1 b1 tb1 fb1 => ?_);refine Z3 Z0 hA hS ?_;cbv;refine ⟨j0, Need.mk ⟨_, m0, ?_⟩⟩;cbv;refine Z4 hS [.v (.string (bs b))] [] [] rfl rfl rfl rfl rfl rfl rfl rfl (by decide) trivial (Z1lt b hlb _ fun v2 b2 tb2 fb2 => ?_);refine Z3 Z0 hA hS ?_;cbv;refine ⟨j1, Need.mk ⟨_, m1, ?_⟩⟩;cbv;refine Z4 hS [.v (.string (bs c))] [] [] rfl rfl rfl rfl rfl rfl rfl rfl (by decide) trivial (Z1lt c hlc _ fun v3 b3 tb3 fb3 => ?_);have hz : ∀ b, b = (b1 && b2 && b3) -> Q (RA.ret (.tup [.agg [I v1, I v2, I v3], .v (.bool b)])) [] := fun b hb => by
    cases b with
    | true =>
     have hb := hb.symm;simp only [Bool.and_eq_true] at hb;obtain ⟨⟨e1, e2⟩, e3⟩ := hb;exact h1 ⟨v1, v2, v3⟩ (by rw [hwk, tb1 e1, tb2 e2, tb3 e3]; rfl)
    | false =>
     refine h2 ?_ _ _ _;rw [hwk];refine Z1m9 ?_
     cases hb1 : b1 with
     | false => exact .inl (fb1 hb1)
     | true =>
     cases hb2 : b2 with
     | false => exact .inr (.inl (fb2 hb2))
     | true =>
     cases hb3 : b3 with
     | false => exact .inr (.inr (fb3 hb3))
     | true =>
     subst hb1 hb2 hb3;exact Bool.noConfusion hb
   clear h1 h2 hwk tb1 fb1 tb2 fb2 tb3 fb3;refine Z3 Z0 hA hS ?_;cbv;refine bm (fun p1 => ?_) (fun p1 => ?_)
   ·cbv;refine bm (fun p2 => ?_) (fun p2 => ?_)
    ·have hz := hz b3 (by rw [p1, p2]; rfl);cbv;exact Z2 [] (by decide) Z9 (H' := []) (d' := .tup [.agg [I v1, I v2, I v3], .v (.bool b3)]) trivial rfl (Z1 hz)
    ·have hz := hz false (by rw [p1, p2]; rfl);cbv;exact Z2 [] (by decide) Z9 (H' := []) (d' := .tup [.agg [I v1, I v2, I v3], .v (.bool false)]) trivial rfl (Z1 hz)
   ·have hz := hz false (by rw [p1]; rfl);cbv;exact Z2 [] (by decide) Z9 (H' := []) (d' := .tup [.agg [I v1, I v2, I v3], .v (.bool false)]) trivial rfl (Z1 hz)
  ·have c3 : A.cmp .neq (A.oi (A.len HL)) 2 = true := by rw [yoiL hA hHl]; have e : ((Z1gn 45 h).length : Int) ≠ 2 := (fun h => g3 (by omega)); subst hA; exact bne_iff_ne.2 e
   have hz := h2 (by
    unfold Z1ld; rw [hp]; dsimp only
    match hq : Z1gn 45 h, g3 with
    | [], _ => rfl
    | [_], _ => rfl
    | _ :: _ :: _ :: _, _ => rfl) 0 0 0
   cbv;refine bmT c3 ?_;cbv;exact Z2 [] (by decide) Z9 (H' := []) (d' := .tup [.agg [I 0, I 0, I 0], .v (.bool false)]) trivial rfl (Z1 hz)
 ·have c1 : A.cmp .neq (A.oi (A.len PL)) 2 = true := by rw [yoiL hA hPl]; have e : ((Z1gn 58 s).length : Int) ≠ 2 := (fun h => g2 (by omega)); subst hA; exact bne_iff_ne.2 e
  have hz := h2 (by
   unfold Z1ld
   match hq : Z1gn 58 s, g2 with
   | [], _ => rfl
   | [_], _ => rfl
   | _ :: _ :: _ :: _, _ => rfl) 0 0 0
  cbv;refine bmT c1 ?_;cbv;exact Z2 [] (by decide) Z9 (H' := []) (d' := .tup [.agg [I 0, I 0, I 0], .v (.bool false)]) trivial rfl (Z1 hz)
end Go.Proofs.YthljpccegkmdnaaGreatDoor
