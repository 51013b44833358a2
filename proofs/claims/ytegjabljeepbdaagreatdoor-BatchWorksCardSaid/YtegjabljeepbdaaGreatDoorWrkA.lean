/- Part WrkA of the proofs about the benches of the accordion maker: see the last text of the claim for what is proved. -/
import Derived.Test.YtegjabljeepbdaaGreatDoorRunQ
import Derived.Test.YtegjabljeepbdaaGreatDoorAsB
import Derived.Test.YtegjabljeepbdaaGreatDoorRunO
import Derived.Test.YtegjabljeepbdaaGreatDoorDrnA
import Derived.Test.YtegjabljeepbdaaGreatDoorRunR
import Derived.Test.YtegjabljeepbdaaGreatDoorRunS
import Derived.Test.YtegjabljeepbdaaGreatDoorRunV
import Derived.Test.YtegjabljeepbdaaGreatDoorRunM
import Derived.Test.YtegjabljeepbdaaGreatDoorRunH
set_option linter.unusedVariables false
set_option linter.unusedSimpArgs false
set_option linter.unnecessarySimpa false
set_option linter.constructorNameAsVariable false

namespace Go.Proofs.YtegjabljeepbdaaGreatDoor.Bn
open Go Go.Abs Go.Proofs
set_option maxRecDepth 20000 in
set_option maxHeartbeats 4000000 in
theorem Z1dk (s : Sh) (hv : Val s) (pl : List Int) (hpl : pl.length <= 1000000) (TL PL : List D) (hT : TL = s.tasks.map Z14z) (hP : PL = pl.map I) (Q) (h0 : chkP s pl = 0 -> Q (RA.ret (.v .nilIface)) []) (h1 : ∀ e, e = chkP s pl -> e ≠ 0 -> Q (RA.ret (.ifc 160 (.agg [I e]))) []) :
  CallA Tryz.prog 95 [.agg [I s.benches, .sl 3 TL], .sl 1 PL] [] Q := by
 obtain ⟨A, hA⟩ : ∃ A, A = ar := ⟨_, rfl⟩;obtain ⟨N, hN⟩ : ∃ N, N = s.tasks.length := ⟨_, rfl⟩;have hTl : TL.length = N := by rw [hT, hN]; simp
 have hPl : PL.length = pl.length := by rw [hP]; simp
 have hlen := hv.len;obtain ⟨n0, hn0⟩ : ∃ n0, n0 = A.tn (A.oi (A.len TL)) := ⟨_, rfl⟩;have hn0N : n0 = N := by rw [hn0, yoiL hA hTl]; subst hA; rfl
 have hrb : A.rep n0 (I 0) = cntD s [] 0 := by
  rw [hn0N, hN]; subst hA;refine List.ext_getElem? fun j => ?_
  by_cases hj : j < s.tasks.length
  ·rw [Z158 hj]; simp [ar, hj]
  ·rw [List.getElem?_eq_none (by simp [ar]; omega), List.getElem?_eq_none (by simp [cntD]; omega)]
 have hr1 : A.room (A.tn (A.oi (A.len TL))) 8 := by rw [<- hn0, hn0N]; exact Zj1 hA (by omega) (by decide)
 have hnn : A.nneg (A.oi (A.len TL)) := by subst hA; exact Int.natCast_nonneg _
 refine Z5 Z0 hA Tryz.func95 rfl rfl rfl rfl rfl fun S hS => ?_;cbv;refine ⟨hnn, hr1, ?_⟩;obtain ⟨CL, hCL⟩ : ∃ CL, CL = A.rep n0 (I 0) := ⟨_, rfl⟩;refine Zb hS ?_;refine Za (α := Int × Nat × List D × List Nat) (fun q => { env := [(1, .sl 1 PL), (2, .b 0 0), (5, .o 1 1 n0), (12, .sl 1 PL), (13, I (A.oi (A.len PL))), (14, I q.1)], H := [.box (.agg [I s.benches, .sl 3 TL]), .els 1 q.2.2.1], nt := 55, dfs := [] })
  (fun q => pl.length - q.2.1) (fun q => q.2.1 <= pl.length /\ IsI q.1 q.2.1 /\ q.2.2.1 = cntD s q.2.2.2 q.2.2.2.length /\ ScOk s pl q.2.2.2 q.2.1) (0, 0, CL, []) ⟨Nat.zero_le _, ⟨rfl⟩, hCL.trans hrb, Z180 s pl⟩ ?_ ?_
 ·rw [hCL];exact Zf [0, 1] ⟨by decide, Z9, ⟨rfl, by rw [hn0]; rfl, trivial⟩, ⟨rfl, rfl, by rw [hn0]; rfl, rfl, rfl, rfl, trivial⟩, rfl, rfl⟩
 rintro ⟨i, k, L, p⟩ ⟨u1, u2, u3, u4⟩;dsimp only at u1 u2 u3 u4;have hpk := u4.len;have hLl : L.length = N := by rw [u3, hN]; simp [cntD]
 refine Z2w Z0 hA hS [] ?_;cbv;refine bm (fun c => ?_) (fun c => ?_)
 ·have hk : k < pl.length := Z31 hA hPl u2 c;obtain ⟨x, hx⟩ : ∃ x, x = pl[k] := ⟨_, rfl⟩;have hxk : pl[k]? = some x := by rw [hx]; exact List.getElem?_eq_getElem hk
  have hPk : PL[k]? = some (I x) := by rw [hP]; simp [hxk]
  obtain ⟨b, hb⟩ : ∃ b, b = decide (0 <= x /\ x <= A.sub (A.oi (A.len TL)) 1) := ⟨_, rfl⟩;have hbe : A.sub (A.oi (A.len TL)) 1 = (s.tasks.length : Int) - 1 := by rw [Z24 hA, yoiL hA hTl, hN]
  have hf : A.fits .i64 (A.sub (A.oi (A.len TL)) 1) := Z14 hA hbe (by omega);have hin := Z1b hA hPl u2 hk;have hg := Z18 hA u2 hPk;have hfi := Zy hA u2 (by omega);have hu2 := Zz hA u2;have hms : pl.length - (k + 1) < pl.length - k := by omega
  cbv;refine ⟨hin, ⟨_, hg, ?_⟩⟩;cbv;refine ⟨hf, ?_⟩;refine Z4 hS [I x, I 0, I (A.sub (A.oi (A.len TL)) 1)] [] [] rfl rfl rfl rfl rfl rfl rfl rfl (by decide) trivial (bWith _ _ _ b hb _ ?_);refine Z3 Z0 hA hS ?_;cbv;refine bm (fun c2 => ?_) (fun c2 => ?_)
  ·have hbf : b = false := xnot hA c2;have he := Z181 u4 hxk (by rw [hb, hbe] at hbf; exact of_decide_eq_false hbf);have hq := h1 3 he.symm (by decide);cbv;refine Z7 ?_;cbv;exact Z2 [] (by decide) Z9 (H' := []) (d' := .ifc 160 (.agg [I 3])) trivial rfl (Z1 hq)
  have hbt : b = true := xnnot hA c2;have hxb : 0 <= x /\ x <= (s.tasks.length : Int) - 1 := by rw [hb, hbe] at hbt; exact of_decide_eq_true hbt
  obtain ⟨y, hy⟩ : ∃ y, y = x.toNat := ⟨_, rfl⟩;have hxI : IsI x y := ⟨by omega⟩;have hyl : y < s.tasks.length := by omega
  obtain ⟨t, ht⟩ : ∃ t, t = s.tasks[y] := ⟨_, rfl⟩;have htx : s.tasks[y]? = some t := by rw [ht]; exact List.getElem?_eq_getElem hyl
  have htd : s.tasks.getD x.toNat default = t := by rw [<- hy, List.getD_eq_getElem?_getD, htx]; rfl
  have hwl8 : t.works.length <= 8 := Z1d6 hv (List.mem_of_getElem? htx);obtain ⟨WL, hWL⟩ : ∃ WL, WL = t.works.map Z14x := ⟨_, rfl⟩;have hWl : WL.length = t.works.length := by rw [hWL]; simp
  have hTk : TL[y]? = some (.agg [I t.ready, I t.due, .sl 3 WL]) := by rw [hT]; simp [htx, hWL, Z14z]
  obtain ⟨cI, hcI⟩ : ∃ z, IsI z (p.count y) := ⟨_, ⟨rfl⟩⟩;have hcl : p.count y <= 1000000 := Nat.le_trans List.count_le_length (by omega);have hLx : L[y]? = some (I cI) := by
   have := Z158 (p := p) (k := p.length) hyl;rw [List.take_length] at this;rw [u3, hcI.eq]; exact this
  have i1 : A.inb x n0 := Z4o hA hxI (by omega);have g1 := Z18 hA hxI hLx;have g2 := Z15m hA hxI hLl (x := I (A.add cI 1)) (by omega);have i3 := Z1b hA hTl hxI (by omega);have g3 := Z18 hA hxI hTk;have hfc := Zy hA hcI (by omega);have hset : A.set L (A.tn x) (I (A.add cI 1)) = cntD s (p ++ [x.toNat]) (p ++ [x.toNat]).length := Z7n hA hxI (by
   have hk2 : (p ++ [x.toNat])[p.length]? = some y := by rw [<- hy]; simp
   have := Z16l (s := s) hk2 hyl
   rw [List.length_append, List.length_singleton, this, u3, (Zz hA hcI).eq]
   have e1 : (p ++ [x.toNat]).take p.length = p := by simp
   have e2 : cntD s (p ++ [x.toNat]) p.length = cntD s p p.length := by simp only [cntD, e1, List.take_length]
   rw [e1, e2])
  cbv;refine ⟨i1, ⟨_, g1, ?_⟩⟩;cbv;refine ⟨hfc, i1, ⟨_, g1, ?_⟩⟩;cbv;refine Z16 Z0 hA hS [0, 1, 2, 3, 4, 5, 6, 7, 8, 9, 10, 11] rfl rfl fun Dk hD => ?_;cbv;refine ⟨i1, ⟨_, g2, ?_⟩⟩;cbv;refine ⟨i3, ⟨_, g3, ?_⟩⟩;cbv;refine bm (fun c3 => ?_) (fun c3 => ?_)
  ·have hgt : t.works.length < p.count y + 1 := by
    have h : A.oi (A.len WL) < A.add cI 1 := xgt hA c3;rw [yoiL hA hWl, (Zz hA hcI).eq] at h; omega
   have he := Z182 u4 hxk hxb (by rw [htd, <- hy]; exact hgt);have hq := h1 6 he.symm (by decide);cbv;refine Z7 ?_;cbv;exact Z2 [] (by decide) Z9 (H' := []) (d' := .ifc 160 (.agg [I 6])) trivial rfl (Z1 hq)
  ·have hle : ¬ t.works.length < p.count y + 1 := by
    have h : A.add cI 1 <= A.oi (A.len WL) := Zax hA c3;rw [yoiL hA hWl, (Zz hA hcI).eq] at h; omega
   have hnx := Z183 u4 hxk hxb (by rw [htd, <- hy]; exact hle);cbv;refine ⟨hfi, ?_⟩;refine Z8 (A.add i 1, k + 1, A.set L (A.tn x) (I (A.add cI 1)), p ++ [x.toNat]) [0, 1] ⟨hk, hu2, hset, hnx⟩ hms ?_;exact ⟨by decide, Z9, ⟨rfl, rfl, trivial⟩, ⟨rfl, rfl, rfl, rfl, rfl, rfl, trivial⟩, rfl, rfl⟩
 ·have hk : k = pl.length := by have := Z21 hA hPl u2 c; omega
  rw [hk] at u4;obtain ⟨he, hep⟩ := Z18q u4;have hpl2 : p.length = pl.length := by rw [hep]; simp
  obtain ⟨nw, hnw⟩ : ∃ x, IsI x (Z1cw s.tasks) := ⟨_, ⟨rfl⟩⟩;cbv;refine Z7 ?_;cbv;refine Z4 hS [.agg [I s.benches, .sl 3 TL]] [] [] rfl rfl rfl rfl rfl rfl rfl rfl (by decide) trivial (Z18d s TL hT hlen (fun t ht => by have := Z1d6 hv ht; omega) nw hnw _ ?_);refine Z3 Z0 hA hS ?_;cbv;refine bm (fun c2 => ?_) (fun c2 => ?_)
  ·have hlt : p.length < Z1cw s.tasks := by
    have h : A.oi (A.len PL) < nw := xlt hA c2;rw [yoiL hA hPl, hnw.eq] at h; omega
   rw [if_pos hlt] at he;have hq := h1 7 he.symm (by decide);cbv;exact Z2 [] (by decide) Z9 (H' := []) (d' := .ifc 160 (.agg [I 7])) trivial rfl (Z1 hq)
  ·have hlt : ¬ p.length < Z1cw s.tasks := by
    have h : nw <= A.oi (A.len PL) := Z7x hA c2;rw [yoiL hA hPl, hnw.eq] at h; omega
   rw [if_neg hlt] at he;have hq := h0 he;cbv;exact Z2 [] (by decide) Z9 (H' := []) (d' := .v .nilIface) trivial rfl (Z1 hq)
set_option maxRecDepth 20000 in
set_option maxHeartbeats 4000000 in
theorem Z1da (s : Sh) (hs : Fin s) (pl : List Int) (hpl : pl.length <= 1000000) (TL PL : List D) (hT : TL = s.tasks.map Z14z) (hP : PL = pl.map I) (n : Int) (hn : n = Z175 s pl) (Q) (hq : Q (RA.ret (I n)) []) :
  CallA Tryz.prog 62 [.agg [I s.benches, .sl 3 TL], .sl 1 PL] [] Q := by
 obtain ⟨A, hA⟩ : ∃ A, A = ar := ⟨_, rfl⟩;obtain ⟨z, hz⟩ : ∃ z, z = Za5 s := ⟨_, rfl⟩;refine Z5 Z0 hA Tryz.func62 rfl rfl rfl rfl rfl fun S hS => ?_;cbv;refine Z4 hS [.agg [I s.benches, .sl 3 TL]] [] [] rfl rfl rfl rfl rfl rfl rfl rfl (by decide) trivial (bCheck s hs TL hT z hz _ ?_);refine Z3 Z0 hA hS ?_;cbv;refine bm (fun c => ?_) (fun c => ?_)
 ·have hz0 : z ≠ 0 := xne hA c;have e : n = z := by rw [hn, Z175, if_pos (by rw [<- hz]; exact hz0), hz]
  rw [e] at hq;cbv;exact Z2 [] (by decide) Z9 (H' := []) (d' := I z) trivial rfl (Z1 hq)
 have hz0 : Za5 s = 0 := by rw [<- hz]; exact Z4t hA c
 have hv := chkS_val hz0;have hnP : n = chkP s pl := by rw [hn, Z175, if_neg (fun h => h hz0)]
 cbv;refine Z4 hS [.agg [I s.benches, .sl 3 TL], .sl 1 PL] [] [] rfl rfl rfl rfl rfl rfl rfl rfl (by decide) trivial (Z1dk s hv pl hpl TL PL hT hP _ (fun h0 => ?_) fun e he hne => ?_)
 ·have e : n = 0 := by rw [hnP, h0]
  rw [e] at hq;refine Z3 Z0 hA hS ?_;cbv;refine Z4 hS [.v .nilIface, .ifc 165 (.b 0 0)] [1] [.box (.agg [I 0])] rfl rfl rfl rfl rfl rfl rfl rfl (by decide) ⟨rfl, trivial⟩ (Z1ad 165 _ _ ?_);refine Z3 Z0 hA hS ?_;cbv;exact Z2 [] (by decide) Z9 (H' := []) (d' := I 0) trivial rfl (Z1 hq)
 ·have e2 : n = e := by rw [hnP, he]
  rw [e2] at hq;refine Z3 Z0 hA hS ?_;cbv;refine Z4 hS [.ifc 160 (.agg [I e]), .ifc 165 (.b 0 0)] [1] [.box (.agg [I 0])] rfl rfl rfl rfl rfl rfl rfl rfl (by decide) ⟨rfl, trivial⟩ (Z1e7 e 0 _ ?_);refine Z3 Z0 hA hS ?_;cbv;exact Z2 [] (by decide) Z9 (H' := []) (d' := I e) trivial rfl (Z1 hq)
end Go.Proofs.YtegjabljeepbdaaGreatDoor.Bn

namespace Go.Proofs.YtegjabljeepbdaaGreatDoor.Bn
open Go Go.Abs Go.Proofs
theorem planX_of {s : Sh} {pl : List Int} (hs : Fin s) (h : Z175 s pl = 0) : ShopOk s /\ ∃ p, PlanOk s p /\ pl = p.map (fun i : Nat => (i : Int)) := by
 have h0 : Za5 s = 0 := by
  by_cases h0 : Za5 s = 0
  ·exact h0
  ·rw [Z175, if_pos h0] at h; exact absurd h h0
 rw [Z175, if_neg (fun h' => h' h0)] at h;have key : ∀ k, k <= pl.length -> ∃ p, ScOk s pl p k := by
  intro k
  induction k with
  | zero => exact fun _ => ⟨[], Z180 s pl⟩
  | succ k ih =>
   intro hk;obtain ⟨p, hp⟩ := ih (by omega);have hx : pl[k]? = some pl[k] := List.getElem?_eq_getElem (by omega)
   by_cases c1 : 0 <= pl[k] /\ pl[k] <= (s.tasks.length : Int) - 1
   ·by_cases c2 : (s.tasks.getD pl[k].toNat default).works.length < p.count pl[k].toNat + 1
    ·have := Z182 hp hx c1 c2; omega
    ·exact ⟨_, Z183 hp hx c1 c2⟩
   ·have := Z181 hp hx c1; omega
 obtain ⟨p, hp⟩ := key pl.length (Nat.le_refl _);obtain ⟨h1, h2⟩ := Z18q hp;refine ⟨⟨h0, (chkS_val h0).len, hs⟩, p, (Z18p hp.le).2 ?_, h2⟩;rw [h] at h1;rcases Nat.lt_or_ge p.length (Z1cw s.tasks) with h3 | h3
 ·rw [if_pos h3] at h1; omega
 ·exact h3
theorem toNat_mapX (p : List Nat) : (p.map (fun i : Nat => (i : Int))).map Int.toNat = p := by
 rw [List.map_map];exact (List.map_congr_left fun a _ => Int.toNat_natCast a).trans (List.map_id p)
set_option maxRecDepth 20000 in
set_option maxHeartbeats 2000000 in
theorem bRunErr (s : Sh) (hs : Fin s) (pl : List Int) (hpl : pl.length <= 1000000) (TL PL : List D) (hT : TL = s.tasks.map Z14z) (hP : PL = pl.map I) (e : Int) (he : e = Z175 s pl) (hne : e ≠ 0) (Q) (hq : Q (RA.ret (.tup [.v (.slice none 0 0), I e])) []) :
  CallA Tryz.prog 23 [.agg [I s.benches, .sl 3 TL], .sl 1 PL] [] Q := by
 obtain ⟨A, hA⟩ : ∃ A, A = ar := ⟨_, rfl⟩;refine Z5 Z0 hA Tryz.func23 rfl rfl rfl rfl rfl fun S hS => ?_;cbv;refine Z4 hS [.agg [I s.benches, .sl 3 TL], .sl 1 PL] [] [] rfl rfl rfl rfl rfl rfl rfl rfl (by decide) trivial (Z1da s hs pl hpl TL PL hT hP e he _ ?_);refine Z3 Z0 hA hS ?_;cbv;refine bm (fun c => ?_) (fun c => ?_)
 ·cbv;exact Z2 [] (by decide) Z9 (H' := []) (d' := .tup [.v (.slice none 0 0), I e]) trivial rfl (Z1 hq)
 ·exact absurd (Z4t hA c) hne
end Go.Proofs.YtegjabljeepbdaaGreatDoor.Bn

namespace Go.Proofs.YtegjabljeepbdaaGreatDoor.Bn
open Go Go.Abs Go.Proofs
structure NLeB (a b : Nat) : Prop where
 le : a <= b
def atH (R : List Sl) (k : Nat) : List Sl := R.filter fun x => decide (x.bh = (k : Int))
def Z1cy (R : List Sl) (h : Nat) : List Sl := (List.range h).flatMap (atH R)
def Z1d0 (R : List Sl) (h : Nat) : List Sl := R.filter fun x => decide ((h : Int) <= x.bh)
theorem emitH_succ (R : List Sl) (h : Nat) : Z1cy R (h + 1) = Z1cy R h ++ atH R h := by
 simp [Z1cy, List.range_succ]
theorem leftH_zero {R : List Sl} (hR : ∀ x ∈ R, 0 <= x.bh) : Z1d0 R 0 = R := List.filter_eq_self.2 fun x hx => decide_eq_true (hR x hx)
theorem atH_left (R : List Sl) (h : Nat) : (Z1d0 R h).filter (fun x => decide (x.bh = (h : Int))) = atH R h := by
 unfold Z1d0 atH;rw [List.filter_filter];refine List.filter_congr fun x _ => ?_
 by_cases e : x.bh = (h : Int)
 ·simp [e]
 ·simp [e]
theorem leftH_next (R : List Sl) (h : Nat) : (Z1d0 R h).filter (fun x => decide ¬ x.bh = (h : Int)) = Z1d0 R (h + 1) := by
 unfold Z1d0;rw [List.filter_filter];refine List.filter_congr fun x _ => ?_;have e : (x.bh ≠ (h : Int) /\ (h : Int) <= x.bh) ↔ ((h + 1 : Nat) : Int) <= x.bh := by omega
 rw [Bool.eq_iff_iff];simp only [Bool.and_eq_true, decide_eq_true_eq];exact e
theorem Z1d4 (R : List Sl) (k : Nat) : ∀ h, (Z1cy R h).filter (fun x => decide (x.bh = (k : Int))) = if k < h then atH R k else []
 | 0 => by simp [Z1cy]
 | h + 1 => by
  rw [emitH_succ, List.filter_append, Z1d4 R k h];have e : (atH R h).filter (fun x => decide (x.bh = (k : Int))) = if k = h then atH R k else [] := by
   unfold atH
   by_cases hk : k = h
   ·subst hk;rw [if_pos rfl, List.filter_filter];exact List.filter_congr fun x _ => by simp
   ·rw [if_neg hk];refine List.filter_eq_nil_iff.2 fun x hx => ?_;have h1 := of_decide_eq_true (List.mem_filter.1 hx).2;rw [decide_eq_true_eq];omega
  rw [e]
  by_cases h1 : k < h
  ·rw [if_pos h1, if_neg (by omega), if_pos (by omega), List.append_nil]
  ·by_cases h2 : k = h
   ·rw [if_neg h1, if_pos h2, if_pos (by omega), List.nil_append]
   ·rw [if_neg h1, if_neg h2, if_neg (by omega), List.append_nil]
theorem Z1dd {R : List Sl} {h : Nat} {x : Sl} (hx : x ∈ Z1cy R h) : ∃ k, k < h /\ x.bh = (k : Int) := by
 obtain ⟨k, hk, hx⟩ := List.mem_flatMap.1 hx;exact ⟨k, List.mem_range.1 hk, of_decide_eq_true (List.mem_filter.1 hx).2⟩
theorem Z1d8 (R : List Sl) : ∀ h, Z1ay (Z1cy R h)
 | 0 => by simp [Z1cy, Z1ay]
 | h + 1 => by
  unfold Z1ay;rw [emitH_succ, List.pairwise_append];refine ⟨Z1d8 R h, List.pairwise_iff_getElem.2 fun i j hi hj _ => ?_, fun x hx y hy => ?_⟩
  ·have h1 := of_decide_eq_true (List.mem_filter.1 (List.getElem_mem hi : (atH R h)[i] ∈ atH R h)).2;have h2 := of_decide_eq_true (List.mem_filter.1 (List.getElem_mem hj : (atH R h)[j] ∈ atH R h)).2;omega
  ·obtain ⟨k, hk, e⟩ := Z1dd hx;have h2 := of_decide_eq_true (List.mem_filter.1 hy).2;omega
theorem Z1do {α : Type} (q : α -> Prop) [DecidablePred q] (L : List α) : (L.filter fun x => decide (q x)).length + (L.filter fun x => decide ¬ q x).length = L.length := by
 induction L with
 | nil => rfl
 | cons x L ih =>
  by_cases h : q x
  ·rw [List.filter_cons_of_pos (by simp [h]), List.filter_cons_of_neg (by simp [h]), List.length_cons, List.length_cons]; omega
  ·rw [List.filter_cons_of_neg (by simp [h]), List.filter_cons_of_pos (by simp [h]), List.length_cons, List.length_cons]; omega
theorem emitH_len {R : List Sl} (hR : ∀ x ∈ R, 0 <= x.bh) : ∀ h, (Z1cy R h).length + (Z1d0 R h).length = R.length
 | 0 => by rw [leftH_zero hR]; simp [Z1cy]
 | h + 1 => by
  have ih := emitH_len hR h;have e := Z1do (fun x : Sl => x.bh = (h : Int)) (Z1d0 R h);rw [atH_left, leftH_next] at e;rw [emitH_succ, List.length_append];omega
theorem Z1de : ∀ {L L' : List Sl}, Z1ay L -> Z1ay L' -> (∀ k : Int, L.filter (fun x => decide (x.bh = k)) = L'.filter fun x => decide (x.bh = k)) -> L = L'
 | [], [], _, _, _ => rfl
 | [], y :: l', _, _, h => by have := h y.bh; simp at this
 | x :: l, [], _, _, h => by have := h x.bh; simp at this
 | x :: l, y :: l', h1, h2, h => by
  have p1 := List.pairwise_cons.1 h1;have p2 := List.pairwise_cons.1 h2;have mx : x ∈ y :: l' := by
   have : x ∈ (x :: l).filter fun z => decide (z.bh = x.bh) := List.mem_filter.2 ⟨List.mem_cons_self, by simp⟩;rw [h x.bh] at this;exact (List.mem_filter.1 this).1
  have my : y ∈ x :: l := by
   have : y ∈ (y :: l').filter fun z => decide (z.bh = y.bh) := List.mem_filter.2 ⟨List.mem_cons_self, by simp⟩;rw [<- h y.bh] at this;exact (List.mem_filter.1 this).1
  have e : x.bh = y.bh := by
   have g1 : y.bh <= x.bh := by
    rcases List.mem_cons.1 mx with rfl | hm
    ·exact Int.le_refl _
    ·exact p2.1 x hm
   have g2 : x.bh <= y.bh := by
    rcases List.mem_cons.1 my with rfl | hm
    ·exact Int.le_refl _
    ·exact p1.1 y hm
   omega
  have hh := h x.bh;rw [List.filter_cons_of_pos (by simp), List.filter_cons_of_pos (by simp [e])] at hh;obtain rfl : x = y := (List.cons.inj hh).1
  congr 1
  refine Z1de p1.2 p2.2 fun k => ?_;have hk := h k
  by_cases c : x.bh = k
  ·rw [List.filter_cons_of_pos (by simp [c]), List.filter_cons_of_pos (by simp [c])] at hk;exact (List.cons.inj hk).2
  ·rw [List.filter_cons_of_neg (by simp [c]), List.filter_cons_of_neg (by simp [c])] at hk;exact hk
theorem emitH_all {R : List Sl} {h : Nat} (hR : ∀ x ∈ R, 0 <= x.bh) (hl : Z1d0 R h = []) : Z1cy R h = Z151 R := by
 have hb : ∀ x ∈ R, x.bh < (h : Int) := fun x hx => by
  have := List.filter_eq_nil_iff.1 hl x hx;rw [decide_eq_true_eq] at this;omega
 refine Z1de (Z1d8 R h) (Z1dn R) fun k => ?_;have e2 : (Z151 R).filter (fun x => decide (x.bh = k)) = R.filter fun x => decide (x.bh = k) := Z1c1 (List.pairwise_iff_getElem.2 fun i j hi hj _ => by
  have h1 := of_decide_eq_true (List.mem_filter.1 (List.getElem_mem hi)).2
  have h2 := of_decide_eq_true (List.mem_filter.1 (List.getElem_mem hj)).2
  omega)
 rw [e2]
 by_cases hk : 0 <= k
 ·obtain ⟨n, rfl⟩ : ∃ n : Nat, k = (n : Int) := ⟨k.toNat, by omega⟩;rw [Z1d4]
  by_cases hn : n < h
  ·rw [if_pos hn]; rfl
  ·rw [if_neg hn];refine (List.filter_eq_nil_iff.2 fun x hx => ?_).symm;have := hb x hx;rw [decide_eq_true_eq]; omega
 ·have n1 : ∀ L : List Sl, (∀ x ∈ L, 0 <= x.bh) -> L.filter (fun x => decide (x.bh = k)) = [] := fun L hL => List.filter_eq_nil_iff.2 fun x hx => by
   have := hL x hx;rw [decide_eq_true_eq]; omega
  rw [n1 R hR, n1 (Z1cy R h) fun x hx => by obtain ⟨m, -, e⟩ := Z1dd hx; omega]
end Go.Proofs.YtegjabljeepbdaaGreatDoor.Bn

namespace Go.Proofs.YtegjabljeepbdaaGreatDoor
open Go Go.Abs Go.Proofs Go.Batch
open Bn (Sl Sh Tk Wk Z14v Z14z runS Z151 ShopOk PlanOk PlanLe Val mo0 Fin Z175)
def inB (j : Jn) (x : Sl) : Prop := (0 <= x.b /\ x.b <= (j.first.length : Int) - 1) /\ 0 <= x.t /\ x.t <= j.ins - 1
instance (j : Jn) (x : Sl) : Decidable (inB j x) := by unfold inB; infer_instance
def runP (s : Sh) (pl : List Int) : List Sl := runS s mo0 (pl.map Int.toNat)
def Z1cx (j : Jn) (s : Sh) (pl : List Int) : Int := if Zr j ≠ 0 then Zr j else if Z175 s pl ≠ 0 then Z175 s pl else if ¬ (∀ x ∈ runP s pl, inB j x) then 3 else if 10 < j.moves.length + pl.length then 6 else 0
def Z1d1 (j : Jn) (s : Sh) (pl : List Int) : List Mv := j.moves ++ (Z151 (runP s pl)).map outM
def Z1cz (j : Jn) (s : Sh) (pl : List Int) : Jn := if Z1cx j s pl = 0 then ⟨j.ins, j.first, Z1d1 j s pl⟩ else ⟨0, [], []⟩
theorem Z1dr {s : Sh} {p : List Nat} {pl : List Int} (h : pl = p.map (fun i : Nat => (i : Int))) : runP s pl = runS s mo0 p := by unfold runP; rw [h, Bn.toNat_mapX]
set_option maxRecDepth 40000 in
set_option maxHeartbeats 16000000 in
theorem Z1du (j : Jn) (hf : j.first.length <= 1152921504606846976) (hm : j.moves.length <= 1152921504606846976) (ins : Int) (hins : ins = j.ins) (FL ML : List D) (hF : FL = j.first.map Zv) (hM : ML = j.moves.map mvD) (s : Sh) (hs : Fin s) (bnc : Int) (hbnc : bnc = s.benches) (pl : List Int) (hpl : pl.length <= 1000000) (TL PL : List D) (hT : TL = s.tasks.map Z14z) (hP : PL = pl.map I) (Q)
  (he : ∀ e, e ≠ 0 -> e = Z1cx j s pl -> Q (RA.ret (.tup [.agg [I 0, .v (.slice none 0 0), .v (.slice none 0 0)], I e])) [])
  (hq : Z1cx j s pl = 0 -> ∀ ML', ML' = (Z1d1 j s pl).map mvD -> Q (RA.ret (.tup [.agg [I ins, .sl 1 FL, .sl 5 ML'], I 0])) []) : CallA Tryz.prog 12 [.agg [I ins, .sl 1 FL, .sl 5 ML], .agg [I bnc, .sl 3 TL], .sl 1 PL] [] Q := by
 obtain ⟨A, hA⟩ : ∃ A, A = ar := ⟨_, rfl⟩;have n00 : A.cmp .neq 0 0 = false := by subst hA; rfl
 obtain ⟨cj, hcj⟩ : ∃ cj, cj = Zr j := ⟨_, rfl⟩;have cCk := fun Q h => bCheck j hf hm FL ML hF hM cj hcj Q h;rw [<- hins] at cCk
 by_cases hj0 : cj ≠ 0
 ·
  have hend := he cj hj0 (by rw [Z1cx, <- hcj, if_pos hj0]);have n1 : A.cmp .neq cj 0 = true := by subst hA; simp [ar, Z25]; exact hj0
  refine Z38 Z0 hA [] Tryz.func12 rfl rfl rfl rfl rfl fun S hS => ?_;cbv;refine Z4 hS [.agg [I ins, .sl 1 FL, .sl 5 ML]] [] [] rfl rfl rfl rfl rfl rfl rfl rfl (by decide) trivial (cCk _ ?_);refine Z3 Z0 hA hS ?_;cbv;refine bmT n1 ?_;cbv;exact Z2 [] (by decide) Z9 (H' := []) (d' := .tup [.agg [I 0, .v (.slice none 0 0), .v (.slice none 0 0)], I cj]) trivial rfl (Z1 hend)
 have hj0 : cj = 0 := Classical.byContradiction hj0;rw [hj0] at cCk hcj;have hj : JOk j := Z2r hcj.symm;obtain ⟨cs, hcs⟩ : ∃ cs, cs = Z175 s pl := ⟨_, rfl⟩
 by_cases hs0 : cs ≠ 0
 ·
  have hend := he cs hs0 (by rw [Z1cx, <- hcj, if_neg (by decide), <- hcs, if_pos hs0]);have n1 : A.cmp .neq cs 0 = true := by subst hA; simp [ar, Z25]; exact hs0
  have cRe := fun Q h => Bn.bRunErr s hs pl hpl TL PL hT hP cs hcs hs0 Q h;rw [<- hbnc] at cRe;refine Z38 Z0 hA [] Tryz.func12 rfl rfl rfl rfl rfl fun S hS => ?_;cbv;refine Z4 hS [.agg [I ins, .sl 1 FL, .sl 5 ML]] [] [] rfl rfl rfl rfl rfl rfl rfl rfl (by decide) trivial (cCk _ ?_);refine Z3 Z0 hA hS ?_;cbv;refine bmF n00 ?_;cbv;refine Z4 hS [.agg [I bnc, .sl 3 TL], .sl 1 PL] [] [] rfl rfl rfl rfl rfl rfl rfl rfl (by decide) trivial (cRe _ ?_);refine Z3 Z0 hA hS ?_;cbv;refine bmT n1 ?_;cbv;exact Z2 [] (by decide) Z9 (H' := []) (d' := .tup [.agg [I 0, .v (.slice none 0 0), .v (.slice none 0 0)], I cs]) trivial rfl (Z1 hend)
 have hs0 : cs = 0 := Classical.byContradiction hs0;rw [hs0] at hcs;obtain ⟨hsh, p, hp, hpe⟩ := Bn.planX_of hs hcs.symm;have hPL : PL = p.map (fun i => I (i : Nat)) := by rw [hP, hpe, List.map_map]; rfl
 have hv2 := Bn.chkS_val hsh.chk;have hpl8 : p.length <= 8 := by rw [hp.len]; exact hv2.sum
 obtain ⟨R, hR⟩ : ∃ R, R = runS s mo0 p := ⟨_, rfl⟩;have hRp : runP s pl = R := by rw [Z1dr hpe, hR]
 have hRl : R.length = p.length := by rw [hR]; exact Bn.run_len s p
 have hbnd := Bn.run_bnd hv2 hp.le (by omega);rw [<- hR] at hbnd;have hbh : ∀ x ∈ R, 0 <= x.bh /\ x.bh <= 1000 := fun x hx => (hbnd x hx).2.2;have hple : pl.length = p.length := by rw [hpe, List.length_map]
 have hWE : Z1cx j s pl = if ¬ (∀ x ∈ R, inB j x) then 3 else if 10 < j.moves.length + p.length then 6 else 0 := by
  rw [Z1cx, <- hcj, if_neg (by decide), <- hcs, if_neg (by decide), hRp, hple]
 have hWM : Z1d1 j s pl = j.moves ++ (Z151 R).map outM := by rw [Z1d1, hRp]
 obtain ⟨N, hN⟩ : ∃ N, N = p.length := ⟨_, rfl⟩;have hf2 := hj.f2;have hm10 := hj.m10;have hi1 := hj.i1;have hi4 := hj.i4;have hFl : FL.length = j.first.length := by rw [hF, List.length_map]
 have hMl : ML.length = j.moves.length := by rw [hM, List.length_map]
 have cRn := fun Q h => Bn.bRunPlanO s hsh p hp N hN TL PL hT hPL Q h;rw [<- hbnc] at cRn;rw [show (fun _ => (0 : Int)) = mo0 from rfl, <- hR] at cRn;have h3 : (¬ ∀ x ∈ R, inB j x) -> Q (RA.ret (.tup [.agg [I 0, .v (.slice none 0 0), .v (.slice none 0 0)], I 3])) [] := fun h => he 3 (by decide) (by rw [hWE, if_pos h]);have h6 : (∀ x ∈ R, inB j x) -> 10 < j.moves.length + p.length -> Q (RA.ret (.tup [.agg [I 0, .v (.slice none 0 0), .v (.slice none 0 0)], I 6])) [] := fun h h10 => he 6 (by decide) (by rw [hWE, if_neg (fun g => g h), if_pos h10]);have hqq : (∀ x ∈ R, inB j x) -> j.moves.length + p.length <= 10 -> ∀ ML', ML' = (j.moves ++ (Z151 R).map outM).map mvD -> Q (RA.ret (.tup [.agg [I ins, .sl 1 FL, .sl 5 ML'], I 0])) [] := fun h h10 ML' hML' => hq (by rw [hWE, if_neg (fun g => g h), if_neg (by omega)]) ML' (by rw [hWM]; exact hML');clear he hq hWE hWM;refine Z38 Z0 hA [] Tryz.func12 rfl rfl rfl rfl rfl fun S hS => ?_;cbv;refine Z4 hS [.agg [I ins, .sl 1 FL, .sl 5 ML]] [] [] rfl rfl rfl rfl rfl rfl rfl rfl (by decide) trivial (cCk _ ?_);refine Z3 Z0 hA hS ?_;cbv;refine bmF n00 ?_;cbv;refine Z4 hS [.agg [I bnc, .sl 3 TL], .sl 1 PL] [] [] rfl rfl rfl rfl rfl rfl rfl rfl (by decide) trivial (cRn _ fun RL hRL => ?_);have hRl2 : RL.length = N := by rw [hRL, List.length_map, hRl, hN]
 refine Z3 Z0 hA hS ?_;cbv;refine bmF n00 ?_;cbv;have hfe : A.sub (A.oi (A.len FL)) 1 = (j.first.length : Int) - 1 := by rw [Z24 hA, yoiL hA hFl]
 have hte : A.sub ins 1 = j.ins - 1 := by rw [Z24 hA, hins]
 have ff1 : A.fits .i64 (A.sub (A.oi (A.len FL)) 1) := Z14 hA (by rw [yoiL hA hFl, Z24 hA]) (by omega);have ff2 : A.fits .i64 (A.sub ins 1) := Z14 hA (Z24 hA ins 1) (by omega);have bnt : A.bnot true = false := by subst hA; rfl
 have bnf : A.bnot false = true := by subst hA; rfl
 have hN10 : Bn.NLeB N 10 := ⟨by omega⟩;refine Zb hS ?_;refine Za (α := Int × Nat) (fun q => { env := [(3, .cb (.agg [I ins, .sl 1 FL, .sl 5 ML]) 0), (6, .b 0 0), (9, .o 1 7 N), (33, .o 1 7 N), (34, I (A.oi N)), (35, I q.1)], H := [.box (.agg [I 0, .v (.slice none 0 0), .v (.slice none 0 0)]), .els 7 RL], nt := 99, dfs := [] })
  (fun q => N - q.2) (fun q => q.2 <= N /\ IsI q.1 q.2 /\ ∀ (i : Nat) (x : Sl), i < q.2 -> R[i]? = some x -> inB j x) (0, 0) ⟨Nat.zero_le _, ⟨rfl⟩, fun i x h => absurd h (Nat.not_lt_zero _)⟩ ?_ ?_
 ·refine Z1a hA [0] ?_;cbv;exact Zf [2, 3] ⟨by decide, Z9, ⟨rfl, rfl, trivial⟩, ⟨rfl, rfl, rfl, rfl, rfl, rfl, trivial⟩, rfl, rfl⟩
 rintro ⟨i, k⟩ ⟨u1, u2, u3⟩;dsimp only at u1 u2 u3
 by_cases hk : k < N
 ·have dlt : A.cmp .lss i (A.oi N) = true := by rw [xoi hA, u2.eq]; subst hA; simp [ar, Z25]; omega
  obtain ⟨x, hx⟩ : ∃ x, R[k]? = some x := ⟨_, List.getElem?_eq_getElem (by omega)⟩;have hxm := List.mem_of_getElem? hx;have iR : A.inb i N := Z4o hA u2 hk;have gR0 : RL[k]? = some (Z14v x) := by rw [hRL, List.getElem?_map, hx]; rfl
  have hb1 : decide (0 <= x.b /\ x.b <= (j.first.length : Int) - 1) = decide (0 <= x.b /\ x.b <= A.sub (A.oi (A.len FL)) 1) := by rw [hfe]
  have ht1 : decide (0 <= x.t /\ x.t <= j.ins - 1) = decide (0 <= x.t /\ x.t <= A.sub ins 1) := by rw [hte]
  have hf1 := Zy hA u2 (by have := hN10.le; omega);have hu2 := Zz hA u2;have hms : N - (k + 1) < N - k := by omega
  have hno : ¬ inB j x -> Q (RA.ret (.tup [.agg [I 0, .v (.slice none 0 0), .v (.slice none 0 0)], I 3])) [] := fun h => h3 fun g => h (g x hxm);have hyes : inB j x -> ∀ (i : Nat) (y : Sl), i < k + 1 -> R[i]? = some y -> inB j y := fun h i y hi hy => by
   by_cases e : i = k
   ·subst e; rw [hx] at hy; cases hy; exact h
   ·exact u3 i y (by omega) hy
  by_cases hb : 0 <= x.b /\ x.b <= (j.first.length : Int) - 1
  ·rw [decide_eq_true hb] at hb1
   by_cases ht : 0 <= x.t /\ x.t <= j.ins - 1
   ·rw [decide_eq_true ht] at ht1;have hys := hyes ⟨hb, ht⟩;clear hyes;obtain ⟨xt, xk, xb, xbl, xbh, xel, xeh⟩ := x;have gR := Z18 hA u2 (show RL[k]? = some (.agg [I xt, I xk, I xb, I xbl, I xbh, I xel, I xeh]) from gR0);dsimp only at hb1 ht1;clear gR0 hno h3 h6 hqq hb ht;refine Z2w Z0 hA hS [10] ?_;cbv;refine bmT dlt ?_;cbv;refine ⟨iR, ⟨_, gR, ?_⟩⟩;cbv;refine Z4j Z0 hA hS [0, 1, 2, 3, 4, 5, 6, 7, 8] [9, 10, 11, 12, 13, 14, 15, 16] rfl ?_;cbv;refine ⟨ff1, ?_⟩;refine Z4 hS [I xb, I 0, I (A.sub (A.oi (A.len FL)) 1)] [] [] rfl rfl rfl rfl rfl rfl rfl rfl (by decide) trivial (bWith xb 0 (A.sub (A.oi (A.len FL)) 1) true hb1 _ ?_);refine Zke Z0 hA hS [7, 8] [9, 10, 11, 12, 13, 14, 15, 16] ?_;cbv;refine Z26 hS (Zo7 47 (.v (.bool false)) rfl (WkD.eq (congrArg (fun b => D.v (.bool b)) bnt)) (Z7 (Zii hS (Z3 Z0 hA hS ?_))));cbv;refine ⟨ff2, ?_⟩;refine Zg hS (b := false) rfl rfl rfl rfl rfl rfl rfl rfl (fun _ => ⟨_, _, [I xt, I 0, I (A.sub ins 1)], [], [], rfl, rfl, rfl, by decide, trivial, bWith xt 0 (A.sub ins 1) true ht1 _ ?_⟩) (fun h => absurd rfl h);refine Z3 Z0 hA hS ?_;cbv;refine bmF bnt ?_;cbv;refine ⟨hf1, ?_⟩;refine Z8 (A.add i 1, k + 1) [0, 1] ⟨hk, hu2, hys⟩ hms ?_;exact ⟨by decide, Z9, ⟨rfl, rfl, trivial⟩, ⟨rfl, rfl, rfl, rfl, rfl, rfl, trivial⟩, rfl, rfl⟩
   ·rw [decide_eq_false ht] at ht1;have hend := hno fun g => ht g.2;obtain ⟨xt, xk, xb, xbl, xbh, xel, xeh⟩ := x;have gR := Z18 hA u2 (show RL[k]? = some (.agg [I xt, I xk, I xb, I xbl, I xbh, I xel, I xeh]) from gR0);dsimp only at hb1 ht1;clear gR0 hno h3 h6 hqq hb ht hyes;refine Z2w Z0 hA hS [10] ?_;cbv;refine bmT dlt ?_;cbv;refine ⟨iR, ⟨_, gR, ?_⟩⟩;cbv;refine Z4j Z0 hA hS [0, 1, 2, 3, 4, 5, 6, 7, 8] [9, 10, 11, 12, 13, 14, 15, 16] rfl ?_;cbv;refine ⟨ff1, ?_⟩;refine Z4 hS [I xb, I 0, I (A.sub (A.oi (A.len FL)) 1)] [] [] rfl rfl rfl rfl rfl rfl rfl rfl (by decide) trivial (bWith xb 0 (A.sub (A.oi (A.len FL)) 1) true hb1 _ ?_);refine Zke Z0 hA hS [7, 8] [9, 10, 11, 12, 13, 14, 15, 16] ?_;cbv;refine Z26 hS (Zo7 47 (.v (.bool false)) rfl (WkD.eq (congrArg (fun b => D.v (.bool b)) bnt)) (Z7 (Zii hS (Z3 Z0 hA hS ?_))));cbv;refine ⟨ff2, ?_⟩;refine Zg hS (b := false) rfl rfl rfl rfl rfl rfl rfl rfl (fun _ => ⟨_, _, [I xt, I 0, I (A.sub ins 1)], [], [], rfl, rfl, rfl, by decide, trivial, bWith xt 0 (A.sub ins 1) false ht1 _ ?_⟩) (fun h => absurd rfl h);refine Z3 Z0 hA hS ?_;cbv;refine bmT bnf ?_;cbv;refine Z7 ?_;cbv;exact Z2 [] (by decide) Z9 (H' := []) (d' := .tup [.agg [I 0, .v (.slice none 0 0), .v (.slice none 0 0)], I 3]) trivial rfl (Z1 hend)
  ·rw [decide_eq_false hb] at hb1;have hend := hno fun g => hb g.1;obtain ⟨xt, xk, xb, xbl, xbh, xel, xeh⟩ := x;have gR := Z18 hA u2 (show RL[k]? = some (.agg [I xt, I xk, I xb, I xbl, I xbh, I xel, I xeh]) from gR0);dsimp only at hb1 ht1;clear gR0 hno h3 h6 hqq hb ht1 hyes;refine Z2w Z0 hA hS [10] ?_;cbv;refine bmT dlt ?_;cbv;refine ⟨iR, ⟨_, gR, ?_⟩⟩;cbv;refine Z4j Z0 hA hS [0, 1, 2, 3, 4, 5, 6, 7, 8] [9, 10, 11, 12, 13, 14, 15, 16] rfl ?_;cbv;refine ⟨ff1, ?_⟩;refine Z4 hS [I xb, I 0, I (A.sub (A.oi (A.len FL)) 1)] [] [] rfl rfl rfl rfl rfl rfl rfl rfl (by decide) trivial (bWith xb 0 (A.sub (A.oi (A.len FL)) 1) false hb1 _ ?_);refine Zke Z0 hA hS [7, 8] [9, 10, 11, 12, 13, 14, 15, 16] ?_;cbv;refine Z26 hS (Zo7 47 (.v (.bool true)) rfl (WkD.eq (congrArg (fun b => D.v (.bool b)) bnf)) (Z7 (Zii hS (Z3 Z0 hA hS ?_))));cbv;refine Zg hS (f := 43) (b := true) rfl rfl rfl rfl rfl rfl rfl rfl (fun h => Bool.noConfusion h) (fun _ => ?_);refine Z3 Z0 hA hS ?_;cbv;refine Z7 ?_;cbv;exact Z2 [] (by decide) Z9 (H' := []) (d' := .tup [.agg [I 0, .v (.slice none 0 0), .v (.slice none 0 0)], I 3]) trivial rfl (Z1 hend)
 have dlt : A.cmp .lss i (A.oi N) = false := by rw [xoi hA, u2.eq]; subst hA; simp [ar, Z25]; omega
 have hall : ∀ x ∈ R, inB j x := fun x hx => by
  obtain ⟨i, hi⟩ := List.mem_iff_getElem?.1 hx;exact u3 i x (by have := (List.getElem?_eq_some_iff.1 hi).1; omega) hi
 have hmlN : ML.length = ML.length := rfl;have hmf : A.fits .i64 (A.add (A.oi (A.len ML)) (A.oi N)) := Z14 hA (by rw [yoiL hA hMl, xoi hA, Z58 hA]) (by omega);have hNR : N = R.length := by omega
 by_cases h10 : 10 < j.moves.length + p.length
 ·have hend := h6 hall h10;have hm10' : A.cmp .gtr (A.add (A.oi (A.len ML)) (A.oi N)) 10 = true := by rw [yoiL hA hMl, xoi hA, Z58 hA]; subst hA; simp [ar, Z25]; omega
  clear h3 h6 hqq hall u3;refine Z2w Z0 hA hS [] ?_;cbv;refine bmF dlt ?_;cbv;refine Z7 ?_;cbv;refine ⟨hmf, ?_⟩;refine bmT hm10' ?_;cbv;exact Z2 [] (by decide) Z9 (H' := []) (d' := .tup [.agg [I 0, .v (.slice none 0 0), .v (.slice none 0 0)], I 6]) trivial rfl (Z1 hend)
 have hm10' : A.cmp .gtr (A.add (A.oi (A.len ML)) (A.oi N)) 10 = false := by rw [yoiL hA hMl, xoi hA, Z58 hA]; subst hA; simp [ar, Z25]; omega
 have hqf := hqq hall (by omega);have hNn : Bn.NLeB N 10 := ⟨by omega⟩;clear h3 h6 hqq hall u3 h10;refine Z2w Z0 hA hS [] ?_;cbv;refine bmF dlt ?_;cbv;refine Z7 ?_;cbv;refine ⟨hmf, ?_⟩;refine bmF hm10' ?_;cbv;refine Z4 hS [.o 0 7 N, .fn 44 []] [1] [.els 7 RL] rfl rfl rfl rfl rfl rfl rfl rfl (by decide) ⟨rfl, trivial⟩ (Bn.bSortB R hbh (by omega) N hNR RL hRL _ fun dz SL hSL => ?_);obtain ⟨T, hTe⟩ : ∃ T, T = Z151 R := ⟨_, rfl⟩;rw [<- hTe] at hSL hqf;have hTl : T.length = N := by rw [hTe, Bn.sortB_len]; omega
 have hSl : SL.length = N := by rw [hSL, List.length_map, hTl]
 have hFl2 : FL.length = j.first.length := hFl;obtain ⟨fn, hfn⟩ : ∃ fn, fn = j.first.length := ⟨_, rfl⟩;obtain ⟨nm, hnm⟩ : ∃ nm, nm = j.moves.length := ⟨_, rfl⟩;rw [<- hfn] at hFl2;have hMl2 : ML.length = nm := by rw [hMl, hnm]
 refine Z3 Z0 hA hS ?_;cbv;refine Z16 Z0 hA hS [0, 1, 2, 3, 5, 6, 9, 4, 7, 8, 10] rfl rfl fun Dk hD => ?_;cbv;refine Zq hA hD [.sl 1 FL] [] [] rfl rfl rfl rfl rfl rfl rfl rfl rfl rfl rfl (by decide) trivial (Z190 FL fn hFl2 (by omega) _ ⟨by cbv; repeat' (first | exact trivial | refine ⟨?_, ?_⟩), Zx Z0 hA hD ?_⟩);cbv;refine Zq hA hD [.sl 5 ML] [] [] rfl rfl rfl rfl rfl rfl rfl rfl rfl rfl rfl (by decide) trivial (Z191 ML nm hMl2 (by omega) _ ⟨by cbv; repeat' (first | exact trivial | refine ⟨?_, ?_⟩), Zx Z0 hA hD ?_⟩);cbv;refine Zb hS ?_;refine Za (α := Int × Nat × List D × Nat) (fun q => { env := [(6, .b 0 0), (14, .b 4 0), (80, .o 1 7 N), (81, I (A.oi N)), (82, I q.1)], H := [.box (.agg [I 0, .v (.slice none 0 0), .v (.slice none 0 0)]), .els 7 SL, .els 1 FL, .els 5 q.2.2.1, .box (.agg [I ins, .o 2 1 fn, .o 3 5 q.2.2.2])], nt := 99, dfs := [] })
  (fun q => N - q.2.1) (fun q => q.2.1 <= N /\ IsI q.1 q.2.1 /\ q.2.2.1 = (j.moves ++ (T.take q.2.1).map outM).map mvD /\ q.2.2.1.length = q.2.2.2) (0, 0, ML, nm) ⟨Nat.zero_le _, ⟨rfl⟩, by simp only [List.take_zero, List.map_nil, List.append_nil]; exact hM, hMl2⟩ ?_ ?_
 ·exact Zf [0, 1, 4, 5, 3] ⟨by decide, Z9, ⟨rfl, rfl, rfl, rfl, rfl, trivial⟩, ⟨rfl, rfl, rfl, rfl, rfl, trivial⟩, rfl, rfl⟩
 rintro ⟨i2, k2, MX, m2⟩ ⟨v1, v2, v3, v4⟩;dsimp only at v1 v2 v3 v4;have hyes : A.cmp .lss i2 (A.oi N) = true -> k2 < N := fun c => by have := xlt hA c; rw [xoi hA] at this; have := v2.eq; omega
 have hno : A.cmp .lss i2 (A.oi N) = false -> k2 = N := fun c => by have := Z7x hA c; rw [xoi hA] at this; have := v2.eq; omega
 have hm2 : m2 = nm + k2 := by rw [<- v4, v3, List.length_map, List.length_append, List.length_map, List.length_take, hTl, <- hnm]; omega
 have em2 : A.eqN m2 (A.len MX) := Ze hA v4;refine Z2w Z0 hA hS [] ?_;cbv;refine bm (fun c => ?_) (fun c => ?_)
 ·have hk := hyes c;obtain ⟨x, hx⟩ : ∃ x, T[k2]? = some x := ⟨_, List.getElem?_eq_getElem (by omega)⟩;have iR : A.inb i2 N := Z4o hA v2 hk;have gR0 : SL[k2]? = some (Z14v x) := by rw [hSL, List.getElem?_map, hx]; rfl
  have hnxM : A.app MX [.agg [I 2, I x.b, I x.t, I 1, I 1]] = (j.moves ++ (T.take (k2 + 1)).map outM).map mvD := by
   rw [Z33 hA, v3, List.take_add_one, hx]; simp [outM, mvD]
  have hnxl : (A.app MX [.agg [I 2, I x.b, I x.t, I 1, I 1]]).length = A.addN m2 1 := by rw [Z2e hA, Z33 hA, List.length_append, v4]; rfl
  obtain ⟨xt, xk, xb, xbl, xbh, xel, xeh⟩ := x;have gR := Z18 hA v2 (show SL[k2]? = some (.agg [I xt, I xk, I xb, I xbl, I xbh, I xel, I xeh]) from gR0);dsimp only at hnxM hnxl;have hrm : A.room (A.addN m2 1) 40 := Z27 hA (by omega) (by decide);have hf1 := Zy hA v2 (by omega);have hv2 := Zz hA v2;have hms : N - (k2 + 1) < N - k2 := by omega
  clear gR0;cbv;refine ⟨iR, ⟨_, gR, ?_⟩⟩;cbv;refine ⟨em2, Ze hA rfl, hrm, hf1, ?_⟩;refine Z8 (A.add i2 1, k2 + 1, A.app MX [.agg [I 2, I xb, I xt, I 1, I 1]], A.addN m2 1) [0, 1, 2, 7, 4] ⟨hk, hv2, hnxM, hnxl⟩ hms ?_;exact ⟨by decide, Z9, ⟨rfl, rfl, rfl, rfl, rfl, trivial⟩, ⟨rfl, rfl, rfl, rfl, rfl, trivial⟩, rfl, rfl⟩
 have hkN := hno c;have hend := hqf MX (by rw [v3, hkN, List.take_of_length_le (by omega)]);have eF : A.eqN fn (A.len FL) := Ze hA hFl2;cbv;refine Z1a hA [2, 3] ?_;cbv;refine ⟨eF, em2, ?_⟩;refine Z7 ?_;cbv;exact Z2 [] (by decide) Z9 (H' := []) (d' := .tup [.agg [I ins, .sl 1 FL, .sl 5 MX], I 0]) trivial rfl (Z1 hend)
end Go.Proofs.YtegjabljeepbdaaGreatDoor

namespace Go.Proofs.YtegjabljeepbdaaGreatDoor
open Go Go.Abs Go.Proofs Go.Batch
theorem rAmong (n lo hi : Int) (b : Bool) (hb : b = decide (lo <= n /\ n <= hi)) (Q) (hq : Q (RA.ret (.v (.bool b))) []) : CallA Tryz.prog 110 [I n, I lo, I hi] [] Q := by
 obtain ⟨A, hA⟩ : ∃ A, A = ar := ⟨_, rfl⟩;have h1 : A.cmp .geq n lo = true -> Q (RA.ret (.v (.bool (A.cmp .leq n hi)))) [] := fun h => by
  have h2 := xge hA h;have e : A.cmp .leq n hi = b := by
   rw [hb]; subst hA;show decide (n <= hi) = _;exact decide_eq_decide.2 ⟨fun h => ⟨h2, h⟩, fun h => h.2⟩
  rw [e]; exact hq
 have h0 : A.cmp .geq n lo = false -> Q (RA.ret (.v (.bool false))) [] := fun h => by
  have h2 := Zur hA h;rw [hb, decide_eq_false (fun g => by omega)] at hq; exact hq
 refine Z5 Z0 hA Tryz.func110 rfl rfl rfl rfl rfl fun S hS => ?_;cbv;refine bm (fun c => ?_) (fun c => ?_)
 ·have hz := h1 c;cbv;exact Z2 [] (by decide) Z9 (H' := []) (d' := .v (.bool (A.cmp .leq n hi))) trivial rfl (Z1 hz)
 ·have hz := h0 c;cbv;exact Z2 [] (by decide) Z9 (H' := []) (d' := .v (.bool false)) trivial rfl (Z1 hz)
end Go.Proofs.YtegjabljeepbdaaGreatDoor

namespace Go.Proofs.YtegjabljeepbdaaGreatDoor
open Go Go.Abs Go.Proofs Go.Batch
theorem Zd0 {A : Ar} (hA : A = ar) (x y : Int) : A.cmp .eql x y = decide (x = y) /\ A.cmp .neq x y = !decide (x = y) := by
 subst hA; refine ⟨?_, ?_⟩
 ·refine Bool.eq_iff_iff.2 ?_; simp [ar, Z25]
 ·refine Bool.eq_iff_iff.2 ?_; simp [ar, Z25]
set_option maxRecDepth 20000 in
set_option maxHeartbeats 4000000 in
theorem Znk (j : Jn) (hi : 1 <= j.ins /\ j.ins <= 4) (hf : j.first.length <= 1152921504606846976) (m : Mv) (FL ML : List D) (hF : FL = j.first.map Zv) (c : Int) (n : Int) (hn : n = if Z2q j m ≠ 0 then Z2q j m else if m.kind = 1 /\ c = 4 then 6 else 0) (Q) (hq : Q (RA.ret (I n)) []) :
  CallA Tryz.prog 111 [.agg [I j.ins, .sl 1 FL, .sl 5 ML], .agg [I m.kind, I m.bin, I m.inst, I m.lo, I m.hi], I c] [] Q := by
 obtain ⟨A, hA⟩ : ∃ A, A = ar := ⟨_, rfl⟩;have hnt : A.bnot true = false := by subst hA; rfl
 have hnf : A.bnot false = true := by subst hA; rfl
 have hFl : FL.length = j.first.length := by rw [hF]; simp
 obtain ⟨kd, bn, it, lo, hi'⟩ := m;obtain ⟨b1, hb1⟩ : ∃ x, x = decide (1 <= kd /\ kd <= 3) := ⟨_, rfl⟩;obtain ⟨b2, hb2⟩ : ∃ x, x = decide (0 <= bn /\ bn <= (j.first.length : Int) - 1) := ⟨_, rfl⟩;have hb2' : b2 = decide (0 <= bn /\ bn <= A.sub (A.oi (A.len FL)) 1) := by rw [Z24 hA, yoiL hA hFl]; exact hb2
 obtain ⟨b3, hb3⟩ : ∃ x, x = decide (-1 <= it /\ it <= j.ins - 1) := ⟨_, rfl⟩;have hb3' : b3 = decide (-1 <= it /\ it <= A.sub j.ins 1) := by rw [Z24 hA]; exact hb3
 obtain ⟨b4, hb4⟩ : ∃ x, x = decide (0 <= lo /\ lo <= 5) := ⟨_, rfl⟩;obtain ⟨b5, hb5⟩ : ∃ x, x = decide (0 <= hi' /\ hi' <= 5) := ⟨_, rfl⟩;have f1 : A.fits .i64 (A.sub (A.oi (A.len FL)) 1) := Z14 hA (by rw [Z24 hA, yoiL hA hFl]) (by omega);have f2 : A.fits .i64 (A.sub j.ins 1) := Z14 hA (Z24 hA j.ins 1) (by omega);obtain ⟨v, hv⟩ : ∃ v, v = Z2q j ⟨kd, bn, it, lo, hi'⟩ := ⟨_, rfl⟩;rw [<- hv] at hn;simp only [Z2q] at hv;dsimp only at hn;have v1 : b1 = false -> n = 8 := fun h => by
  rw [h] at hb1;have h1 := of_decide_eq_false hb1.symm;rw [if_pos h1] at hv; rw [hn, hv, if_pos (by decide)]
 have v2 : b1 = true -> b2 = false -> n = 3 := fun h h' => by
  rw [h] at hb1; rw [h'] at hb2;have h1 := of_decide_eq_true hb1.symm;have h2 := of_decide_eq_false hb2.symm;rw [if_neg (fun g => g h1), if_pos h2] at hv; rw [hn, hv, if_pos (by decide)]
 have v3 : b1 = true -> b2 = true -> kd = 2 -> b3 = false -> n = 3 := fun h h' k h'' => by
  rw [h] at hb1; rw [h'] at hb2; rw [h''] at hb3;have h1 := of_decide_eq_true hb1.symm;have h2 := of_decide_eq_true hb2.symm;have h3 := of_decide_eq_false hb3.symm;rw [if_neg (fun g => g h1), if_neg (fun g => g h2), if_pos ⟨k, h3⟩] at hv; rw [hn, hv, if_pos (by decide)]
 have v4 : b1 = true -> b2 = true -> kd ≠ 2 -> it ≠ 0 -> n = 1 := fun h h' k h'' => by
  rw [h] at hb1; rw [h'] at hb2;have h1 := of_decide_eq_true hb1.symm;have h2 := of_decide_eq_true hb2.symm;rw [if_neg (fun g => g h1), if_neg (fun g => g h2), if_neg (fun g => k g.1), if_pos ⟨k, h''⟩] at hv; rw [hn, hv, if_pos (by decide)]
 have v5 : b1 = true -> b2 = true -> (kd = 2 /\ b3 = true ∨ kd ≠ 2 /\ it = 0) -> n = if b4 = false ∨ b5 = false then 1 else if hi' < lo then 5 else if kd = 1 /\ c = 4 then 6 else 0 := fun h h' k => by
  rw [h] at hb1; rw [h'] at hb2;have h1 := of_decide_eq_true hb1.symm;have h2 := of_decide_eq_true hb2.symm;have e3 : ¬ (kd = 2 /\ ¬ (-1 <= it /\ it <= j.ins - 1)) := fun g => by
   rcases k with k | k
   ·rw [k.2] at hb3; exact g.2 (of_decide_eq_true hb3.symm)
   ·exact k.1 g.1
  have e4 : ¬ (kd ≠ 2 /\ it ≠ 0) := fun g => by
   rcases k with k | k
   ·exact g.1 k.1
   ·exact g.2 k.2
  have e5 : (¬ (0 <= lo /\ lo <= 5) ∨ ¬ (0 <= hi' /\ hi' <= 5)) ↔ (b4 = false ∨ b5 = false) := by rw [hb4, hb5, decide_eq_false_iff_not, decide_eq_false_iff_not]
  rw [if_neg (fun g => g h1), if_neg (fun g => g h2), if_neg e3, if_neg e4] at hv
  by_cases g : b4 = false ∨ b5 = false
  ·rw [if_pos (e5.2 g)] at hv; rw [hn, hv, if_pos g, if_pos (by decide)]
  ·rw [if_neg (fun x => g (e5.1 x))] at hv; rw [hn, if_neg g]
   by_cases g' : hi' < lo
   ·rw [if_pos g'] at hv; rw [hv, if_pos g', if_pos (by decide)]
   ·rw [if_neg g'] at hv; rw [hv, if_neg g', if_neg (fun x => x rfl)]
 clear hn hv;have kc2 := (Zd0 hA kd 2);have kc1 := (Zd0 hA kd 1);dsimp only;refine Z5 Z0 hA Tryz.func111 rfl rfl rfl rfl rfl fun S hS => ?_;cbv;refine Z4 hS [I kd, I 1, I 3] [] [] rfl rfl rfl rfl rfl rfl rfl rfl (by decide) trivial (rAmong _ _ _ b1 hb1 _ ?_);refine Z3 Z0 hA hS ?_
 cases b1 with
 | false =>
  rw [v1 rfl] at hq;cbv;refine bmT hnf ?_;cbv;exact Z2 [] (by decide) Z9 (H' := []) (d' := I 8) trivial rfl (Z1 hq)
 | true =>
 cbv;refine bmF hnt ?_;cbv;refine ⟨f1, ?_⟩;refine Z4 hS [I bn, I 0, I (A.sub (A.oi (A.len FL)) 1)] [] [] rfl rfl rfl rfl rfl rfl rfl rfl (by decide) trivial (rAmong _ _ _ b2 hb2' _ ?_);refine Z3 Z0 hA hS ?_
 cases b2 with
 | false =>
  rw [v2 rfl rfl] at hq;cbv;refine bmT hnf ?_;cbv;exact Z2 [] (by decide) Z9 (H' := []) (d' := I 3) trivial rfl (Z1 hq)
 | true =>
 by_cases k2 : kd = 2
 ·have e2 : A.cmp .eql kd 2 = true := by rw [kc2.1, decide_eq_true k2]
  have n2 : A.cmp .neq kd 2 = false := by rw [kc2.2, decide_eq_true k2]; rfl
  have e1 : A.cmp .eql kd 1 = false := by rw [kc1.1, decide_eq_false (by omega)]
  cbv;refine bmF hnt ?_;cbv;refine bmT e2 ?_;cbv;refine ⟨f2, ?_⟩;refine Zg hS rfl rfl rfl rfl rfl rfl rfl rfl (fun _ => ⟨_, _, [I it, I (-1), I (A.sub j.ins 1)], [], [], rfl, rfl, rfl, by decide, trivial, rAmong _ _ _ b3 hb3' _ ?_⟩) (fun e => absurd rfl e);refine Z3 Z0 hA hS ?_
  cases b3 with
  | false =>
   rw [v3 rfl rfl k2 rfl] at hq;cbv;refine bmT hnf ?_;cbv;exact Z2 [] (by decide) Z9 (H' := []) (d' := I 3) trivial rfl (Z1 hq)
  | true =>
  have hn := v5 rfl rfl (.inl ⟨k2, rfl⟩);cbv;refine bmF hnt ?_;cbv;refine bmF n2 ?_;cbv;refine Zg hS rfl rfl rfl rfl rfl rfl rfl rfl (fun _ => ⟨_, _, [I lo, I 0, I 5], [], [], rfl, rfl, rfl, by decide, trivial, rAmong _ _ _ b4 hb4 _ ?_⟩) (fun e => absurd rfl e);refine Z3 Z0 hA hS ?_
  cases b4 with
  | false =>
   rw [hn, if_pos (.inl rfl)] at hq;cbv;refine bmT hnf ?_;cbv;refine Zg (f := 0) hS rfl rfl rfl rfl rfl rfl rfl rfl (fun e => Bool.noConfusion e) (fun _ => ?_);refine Z3 Z0 hA hS ?_;cbv;exact Z2 [] (by decide) Z9 (H' := []) (d' := I 1) trivial rfl (Z1 hq)
  | true =>
  cbv;refine bmF hnt ?_;cbv;refine Zg hS rfl rfl rfl rfl rfl rfl rfl rfl (fun _ => ⟨_, _, [I hi', I 0, I 5], [], [], rfl, rfl, rfl, by decide, trivial, rAmong _ _ _ b5 hb5 _ ?_⟩) (fun e => absurd rfl e);refine Z3 Z0 hA hS ?_
  cases b5 with
  | false =>
   rw [hn, if_pos (.inr rfl)] at hq;cbv;refine bmT hnf ?_;cbv;exact Z2 [] (by decide) Z9 (H' := []) (d' := I 1) trivial rfl (Z1 hq)
  | true =>
  rw [if_neg (fun h => h.elim Bool.noConfusion Bool.noConfusion)] at hn;cbv;refine bmF hnt ?_;cbv;refine bm (fun c7 => ?_) (fun c7 => ?_)
  ·have g7 := xgt hA c7;rw [hn, if_pos g7] at hq;cbv;exact Z2 [] (by decide) Z9 (H' := []) (d' := I 5) trivial rfl (Z1 hq)
  have g7 := Zax hA c7;rw [if_neg (by omega)] at hn;rw [if_neg (by omega)] at hn;rw [hn] at hq;cbv;refine bmF e1 ?_;cbv;exact Z2 [] (by decide) Z9 (H' := []) (d' := I 0) trivial rfl (Z1 hq)
 ·have e2 : A.cmp .eql kd 2 = false := by rw [kc2.1, decide_eq_false k2]
  have n2 : A.cmp .neq kd 2 = true := by rw [kc2.2, decide_eq_false k2]; rfl
  cbv;refine bmF hnt ?_;cbv;refine bmF e2 ?_;cbv;refine Zg (f := 0) hS rfl rfl rfl rfl rfl rfl rfl rfl (fun e => Bool.noConfusion e) (fun _ => ?_);refine Z3 Z0 hA hS ?_;cbv;refine bmT n2 ?_;cbv
  by_cases k3 : it = 0
  ·have n3 : A.cmp .neq it 0 = false := by rw [(Zd0 hA it 0).2, decide_eq_true k3]; rfl
   have hn := v5 rfl rfl (.inr ⟨k2, k3⟩);refine bmF n3 ?_;cbv;refine Zg hS rfl rfl rfl rfl rfl rfl rfl rfl (fun _ => ⟨_, _, [I lo, I 0, I 5], [], [], rfl, rfl, rfl, by decide, trivial, rAmong _ _ _ b4 hb4 _ ?_⟩) (fun e => absurd rfl e);refine Z3 Z0 hA hS ?_
   cases b4 with
   | false =>
    rw [hn, if_pos (.inl rfl)] at hq;cbv;refine bmT hnf ?_;cbv;refine Zg (f := 0) hS rfl rfl rfl rfl rfl rfl rfl rfl (fun e => Bool.noConfusion e) (fun _ => ?_);refine Z3 Z0 hA hS ?_;cbv;exact Z2 [] (by decide) Z9 (H' := []) (d' := I 1) trivial rfl (Z1 hq)
   | true =>
   cbv;refine bmF hnt ?_;cbv;refine Zg hS rfl rfl rfl rfl rfl rfl rfl rfl (fun _ => ⟨_, _, [I hi', I 0, I 5], [], [], rfl, rfl, rfl, by decide, trivial, rAmong _ _ _ b5 hb5 _ ?_⟩) (fun e => absurd rfl e);refine Z3 Z0 hA hS ?_
   cases b5 with
   | false =>
    rw [hn, if_pos (.inr rfl)] at hq;cbv;refine bmT hnf ?_;cbv;exact Z2 [] (by decide) Z9 (H' := []) (d' := I 1) trivial rfl (Z1 hq)
   | true =>
   rw [if_neg (fun h => h.elim Bool.noConfusion Bool.noConfusion)] at hn;cbv;refine bmF hnt ?_;cbv;refine bm (fun c7 => ?_) (fun c7 => ?_)
   ·have g7 := xgt hA c7;rw [hn, if_pos g7] at hq;cbv;exact Z2 [] (by decide) Z9 (H' := []) (d' := I 5) trivial rfl (Z1 hq)
   have g7 := Zax hA c7;rw [if_neg (by omega)] at hn
   by_cases k1 : kd = 1
   ·have e1 : A.cmp .eql kd 1 = true := by rw [kc1.1, decide_eq_true k1]
    cbv;refine bmT e1 ?_;cbv;refine bm (fun c8 => ?_) (fun c8 => ?_)
    ·rw [hn, if_pos ⟨k1, xeq hA c8⟩] at hq;cbv;exact Z2 [] (by decide) Z9 (H' := []) (d' := I 6) trivial rfl (Z1 hq)
    ·rw [hn, if_neg (fun h => Z2o hA c8 h.2)] at hq;cbv;exact Z2 [] (by decide) Z9 (H' := []) (d' := I 0) trivial rfl (Z1 hq)
   ·have e1 : A.cmp .eql kd 1 = false := by rw [kc1.1, decide_eq_false k1]
    rw [hn, if_neg (fun h => k1 h.1)] at hq;cbv;refine bmF e1 ?_;cbv;exact Z2 [] (by decide) Z9 (H' := []) (d' := I 0) trivial rfl (Z1 hq)
  ·have n3 : A.cmp .neq it 0 = true := by rw [(Zd0 hA it 0).2, decide_eq_false k3]; rfl
   rw [v4 rfl rfl k2 k3] at hq;refine bmT n3 ?_;cbv;refine Zg (f := 0) hS rfl rfl rfl rfl rfl rfl rfl rfl (fun e => Bool.noConfusion e) (fun _ => ?_);refine Z3 Z0 hA hS ?_;cbv;refine Zg (f := 0) hS rfl rfl rfl rfl rfl rfl rfl rfl (fun e => Bool.noConfusion e) (fun _ => ?_);refine Z3 Z0 hA hS ?_;cbv;exact Z2 [] (by decide) Z9 (H' := []) (d' := I 1) trivial rfl (Z1 hq)
set_option maxRecDepth 20000 in
set_option maxHeartbeats 4000000 in
theorem rCheck (j : Jn) (hf : j.first.length <= 1152921504606846976) (hm : j.moves.length <= 1152921504606846976) (FL ML : List D) (hF : FL = j.first.map Zv) (hM : ML = j.moves.map mvD) (n : Int) (hn : n = Zr j) (Q) (hq : Q (RA.ret (I n)) []) :
  CallA Tryz.prog 74 [.agg [I j.ins, .sl 1 FL, .sl 5 ML]] [] Q := by
 obtain ⟨A, hA⟩ : ∃ A, A = ar := ⟨_, rfl⟩;have hnt : A.bnot true = false := by subst hA; rfl
 have hnf : A.bnot false = true := by subst hA; rfl
 have hFl : FL.length = j.first.length := by rw [hF]; simp
 have hMl : ML.length = j.moves.length := by rw [hM]; simp
 obtain ⟨b1, hb1⟩ : ∃ x, x = decide (1 <= j.ins /\ j.ins <= 4) := ⟨_, rfl⟩;unfold Zr at hn;refine Z5 Z0 hA Tryz.func74 rfl rfl rfl rfl rfl fun S hS => ?_;cbv;refine Z4 hS [I j.ins, I 1, I 4] [] [] rfl rfl rfl rfl rfl rfl rfl rfl (by decide) trivial (rAmong _ _ _ b1 hb1 _ ?_);refine Z3 Z0 hA hS ?_
 cases b1 with
 | false =>
  have h1 := of_decide_eq_false hb1.symm;rw [hn, if_pos h1] at hq;cbv;refine bmT hnf ?_;cbv;exact Z2 [] (by decide) Z9 (H' := []) (d' := I 1) trivial rfl (Z1 hq)
 | true =>
 have hi := of_decide_eq_true hb1.symm;rw [if_neg (fun h => h hi)] at hn;cbv;refine bmF hnt ?_;cbv;refine bm (fun c2 => ?_) (fun c2 => ?_)
 ·have hz : n = 7 := by rw [hn, if_pos]; have h : (j.first.length : Int) = 0 := yeqL hA hFl c2; omega
  rw [hz] at hq;cbv;exact Z2 [] (by decide) Z9 (H' := []) (d' := I 7) trivial rfl (Z1 hq)
 rw [if_neg (by have h : (j.first.length : Int) ≠ 0 := yneqL hA hFl c2; omega)] at hn;cbv;refine bm (fun c3 => ?_) (fun c3 => ?_)
 ·have hz : n = 6 := by rw [hn, if_pos]; have h : (2 : Int) < (j.first.length : Int) := ygtL hA hFl c3; omega
  rw [hz] at hq;cbv;exact Z2 [] (by decide) Z9 (H' := []) (d' := I 6) trivial rfl (Z1 hq)
 have g3 : (j.first.length : Int) <= 2 := yngtL hA hFl c3;cbv;refine bm (fun c4 => ?_) (fun c4 => ?_)
 ·have hz : n = 6 := by rw [hn, if_pos]; have h : (10 : Int) < (j.moves.length : Int) := ygtL hA hMl c4; omega
  rw [hz] at hq;cbv;exact Z2 [] (by decide) Z9 (H' := []) (d' := I 6) trivial rfl (Z1 hq)
 have g4 : (j.moves.length : Int) <= 10 := yngtL hA hMl c4;have g3' : (j.first.length : Int) <= 2 := g3;have hn0 : n = Z3b j (j.moves.drop 0) 0 := by rw [hn, if_neg (by omega)]; rfl
 cbv;refine Zb hS ?_;refine Za (α := Int × Nat × Int × Nat) (fun q => { env := [(1, .b 0 0), (3, I q.2.2.1), (4, I q.1)], H := [.box (.agg [I j.ins, .sl 1 FL, .sl 5 ML])], nt := 51, dfs := [] })
  (fun q => j.moves.length - q.2.1) (fun q => q.2.1 <= j.moves.length /\ IsI q.1 q.2.1 /\ IsI q.2.2.1 q.2.2.2 /\ q.2.2.2 <= 4 /\ n = Z3b j (j.moves.drop q.2.1) q.2.2.2) (0, 0, 0, 0) ⟨Nat.zero_le _, ⟨rfl⟩, ⟨rfl⟩, Nat.zero_le _, hn0⟩ ?_ ?_
 ·exact Zf [0] ⟨by decide, Z9, ⟨rfl, trivial⟩, ⟨rfl, rfl, rfl, trivial⟩, rfl, rfl⟩
 rintro ⟨i, k, bi, c⟩ ⟨u1, u2, u3, u4, u5⟩;dsimp only at u1 u2 u3 u4 u5;refine Zi Z0 hA hS ?_;cbv;refine bm (fun e => ?_) (fun e => ?_)
 ·have hk : k < j.moves.length := Z31 hA hMl u2 e;obtain ⟨m, hmk⟩ : ∃ m, j.moves[k]? = some m := ⟨_, List.getElem?_eq_getElem hk⟩;have hMk : ML[k]? = some (.agg [I m.kind, I m.bin, I m.inst, I m.lo, I m.hi]) := by rw [hM]; simp [hmk, mvD]
  rw [Zcs hmk] at u5;have hin := Z1b hA hMl u2 hk;have hg := Z18 hA u2 hMk;have hf1 := Zy hA u2 (by omega);have hu2 := Zz hA u2;have hb1f := Zy hA u3 (by omega);have hu3 := Zz hA u3;have hms : j.moves.length - (k + 1) < j.moves.length - k := by omega
  obtain ⟨e1, he1⟩ : ∃ e1, e1 = if Z2q j m ≠ 0 then Z2q j m else if m.kind = 1 /\ bi = 4 then 6 else 0 := ⟨_, rfl⟩
  have w1 : e1 ≠ 0 -> n = e1 := fun h => by
   rw [u5, he1]
   by_cases g : Z2q j m ≠ 0
   ·rw [if_pos g, if_pos g]
   ·rw [if_neg g, if_neg g];rw [he1, if_neg g] at h
    by_cases g2 : m.kind = 1 /\ bi = 4
    ·rw [if_pos g2, if_pos (by rw [if_pos g2.1]; have := u3.eq; omega)]
    ·rw [if_neg g2] at h; exact absurd rfl h
  have w0 : e1 = 0 -> n = Z3b j (j.moves.drop (k + 1)) (if m.kind = 1 then c + 1 else c) /\ (m.kind = 1 -> c + 1 <= 4) := fun h => by
   rw [he1] at h;have g : ¬ Z2q j m ≠ 0 := fun g => by rw [if_pos g] at h; exact g h
   rw [if_neg g] at h;have g2 : ¬ (m.kind = 1 /\ bi = 4) := fun g2 => by rw [if_pos g2] at h; exact absurd h (by decide)
   have e := u3.eq;have h5 : m.kind = 1 -> c + 1 <= 4 := fun hk => by
    by_cases g3 : bi = 4
    ·exact absurd ⟨hk, g3⟩ g2
    ·omega
   refine ⟨?_, h5⟩;rw [u5, if_neg g, if_neg]
   split
   ·rename_i hk1; have := h5 hk1; omega
   ·omega
  clear u5;have hw1 : A.cmp .neq e1 0 = true -> n = e1 := fun c => w1 (xne hA c);have hw0 : A.cmp .neq e1 0 = false -> e1 = 0 := fun c => by have := Z4t hA c; exact this
  have hk1 : k + 1 <= j.moves.length := hk;obtain ⟨kd, bn, it, lo, hi'⟩ := m;dsimp only at hg w0 he1;have hcm := fun Q h => Znk j hi hf ⟨kd, bn, it, lo, hi'⟩ FL ML hF bi e1 he1 Q h;dsimp only at hcm;have hx1 : kd = 1 -> n = Z3b j (j.moves.drop (k + 1)) (if kd = 1 then c + 1 else c) -> n = Z3b j (j.moves.drop (k + 1)) (c + 1) := fun h g => by rw [if_pos h] at g; exact g
  have hx0 : kd ≠ 1 -> n = Z3b j (j.moves.drop (k + 1)) (if kd = 1 then c + 1 else c) -> n = Z3b j (j.moves.drop (k + 1)) c := fun h g => by rw [if_neg h] at g; exact g
  cbv;refine Z16 Z0 hA hS [0, 1, 2, 3, 4, 5, 6, 7, 8] rfl rfl fun Dk hD => ?_;cbv;refine ⟨hin, ⟨_, hg, ?_⟩⟩;cbv;refine Zq hA hD [.agg [I j.ins, .sl 1 FL, .sl 5 ML], .agg [I kd, I bn, I it, I lo, I hi'], I bi] [] [] rfl rfl rfl rfl rfl rfl rfl rfl rfl rfl rfl (by decide) trivial (hcm _ ⟨by cbv; repeat' (first | exact trivial | exact ⟨_, hg, rfl⟩ | exact Need.mk ⟨_, hg, rfl⟩ | exact rfl | refine ⟨?_, ?_⟩), Zx Z0 hA hD ?_⟩);cbv;refine bm (fun c5 => ?_) (fun c5 => ?_)
  ·have hz := hw1 c5;rw [hz] at hq;cbv;refine Z7 ?_;cbv;exact Z2 [] (by decide) Z9 (H' := []) (d' := I e1) trivial rfl (Z1 hq)
  obtain ⟨hz, h5⟩ := w0 (hw0 c5);cbv;refine ⟨hin, ⟨_, hg, ?_⟩⟩;cbv;refine bm (fun c6 => ?_) (fun c6 => ?_)
  ·have e6 := xeq hA c6;have hz2 := hx1 e6 hz;have h55 := h5 e6;cbv;refine ⟨hb1f, hf1, ?_⟩;refine Z8 (A.add i 1, k + 1, A.add bi 1, c + 1) [0] ⟨hk1, hu2, hu3, h55, hz2⟩ hms ?_;exact ⟨by decide, Z9, ⟨rfl, trivial⟩, ⟨rfl, rfl, rfl, trivial⟩, rfl, rfl⟩
  ·have hz2 := hx0 (Z2o hA c6) hz;cbv;refine ⟨hf1, ?_⟩;refine Z8 (A.add i 1, k + 1, bi, c) [0] ⟨hk1, hu2, u3, u4, hz2⟩ hms ?_;exact ⟨by decide, Z9, ⟨rfl, trivial⟩, ⟨rfl, rfl, rfl, trivial⟩, rfl, rfl⟩
 ·have hk : j.moves.length <= k := Z21 hA hMl u2 e;have hz : n = 0 := by rw [u5, List.drop_eq_nil_of_le hk]; rfl
  rw [hz] at hq;cbv;refine Z7 ?_;cbv;exact Z2 [] (by decide) Z9 (H' := []) (d' := I 0) trivial rfl (Z1 hq)
end Go.Proofs.YtegjabljeepbdaaGreatDoor
