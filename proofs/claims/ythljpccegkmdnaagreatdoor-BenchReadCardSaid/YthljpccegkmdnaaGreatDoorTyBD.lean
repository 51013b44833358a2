/- Part TyBD of the proofs about the benches of the accordion maker: see the last text of the claim for what is proved. -/
import Derived.Test.YthljpccegkmdnaaGreatDoorTyAW
import Derived.Test.YthljpccegkmdnaaGreatDoorTyBC
set_option linter.unusedVariables false
set_option linter.unusedSimpArgs false
set_option linter.unnecessarySimpa false
set_option linter.constructorNameAsVariable false

namespace Go.Proofs.YthljpccegkmdnaaGreatDoor.Bn
open Go Go.Abs Go.Proofs
set_option maxRecDepth 20000 in
set_option maxHeartbeats 4000000 in
theorem Z1no (b : Int) (hb : 1 <= b /\ b <= 3) (w : Wk) (TL : List D) (n : Int) (hn : n = chkW b w) (Q) (hq : Q (RA.ret (I n)) []) :
  CallA Tryz.prog 136 [.agg [I b, .sl 3 TL], .agg [I w.b, I w.lo, I w.hi]] [] Q := by
 obtain ⟨A, hA⟩ : ∃ A, A = ar := ⟨_, rfl⟩;obtain ⟨b3, hb3⟩ : ∃ x, x = decide (0 <= w.b /\ w.b <= b - 1) := ⟨_, rfl⟩;obtain ⟨b4, hb4⟩ : ∃ x, x = decide (1 <= w.lo /\ w.lo <= 20) := ⟨_, rfl⟩;obtain ⟨b5, hb5⟩ : ∃ x, x = decide (1 <= w.hi /\ w.hi <= 20) := ⟨_, rfl⟩;have hb3' : b3 = decide (0 <= w.b /\ w.b <= A.sub b 1) := by rw [Z24 hA]; exact hb3
 have hf : A.fits .i64 (A.sub b 1) := Z14 hA (Z24 hA b 1) (by omega);refine Z5 Z0 hA Tryz.func136 rfl rfl rfl rfl rfl fun S hS => ?_;cbv;refine ⟨hf, ?_⟩;refine Z4 hS [I w.b, I 0, I (A.sub b 1)] [] [] rfl rfl rfl rfl rfl rfl rfl rfl (by decide) trivial (rAm _ _ _ b3 hb3' _ ?_);refine Z3 Z0 hA hS ?_;cbv
 split
 ·rename_i c4
  have hz : n = 3 := by
   have e : chkW b w = 3 := by rw [chkW, amg, <- hb3, if_pos (xnot hA c4)]
   rw [hn, e]
  rw [hz] at hq;cbv;exact Z2 [] (by decide) Z9 (H' := []) (d' := I 3) trivial rfl (Z1 hq)
 rename_i c4
 have d4 := xnnot hA c4;cbv;refine Z4 hS [I w.lo, I 1, I 20] [] [] rfl rfl rfl rfl rfl rfl rfl rfl (by decide) trivial (rAm _ _ _ b4 hb4 _ ?_);refine Z3 Z0 hA hS ?_;cbv
 split
 ·rename_i c5
  have hz : n = 1 := by
   have e : chkW b w = 1 := by rw [chkW, amg, <- hb3, d4, if_neg (by decide), amg, <- hb4, if_pos (xnot hA c5)]
   rw [hn, e]
  rw [hz] at hq;cbv;refine Zg (f := 0) hS rfl rfl rfl rfl rfl rfl rfl rfl (fun e => Bool.noConfusion e) (fun _ => ?_);refine Z3 Z0 hA hS ?_;cbv;exact Z2 [] (by decide) Z9 (H' := []) (d' := I 1) trivial rfl (Z1 hq)
 rename_i c5
 have d5 := xnnot hA c5;cbv;refine Zg hS rfl rfl rfl rfl rfl rfl rfl rfl (fun _ => ⟨_, _, [I w.hi, I 1, I 20], [], [], rfl, rfl, rfl, by decide, trivial, rAm _ _ _ b5 hb5 _ ?_⟩) (fun e => absurd rfl e);refine Z3 Z0 hA hS ?_;cbv
 split
 ·rename_i c6
  have hz : n = 1 := by
   have e : chkW b w = 1 := by rw [chkW, amg, <- hb3, d4, if_neg (by decide), amg, <- hb4, d5, if_neg (by decide), amg, <- hb5, if_pos (xnot hA c6)]
   rw [hn, e]
  rw [hz] at hq;cbv;exact Z2 [] (by decide) Z9 (H' := []) (d' := I 1) trivial rfl (Z1 hq)
 rename_i c6
 have d6 := xnnot hA c6;have e6 : chkW b w = if w.hi < w.lo then 5 else 0 := by rw [chkW, amg, <- hb3, d4, if_neg (by decide), amg, <- hb4, d5, if_neg (by decide), amg, <- hb5, d6, if_neg (by decide)]
 cbv
 split
 ·rename_i c7
  have hz : n = 5 := by
   have e : w.hi < w.lo := xgt hA c7;rw [if_pos e] at e6;rw [hn, e6]
  rw [hz] at hq;cbv;exact Z2 [] (by decide) Z9 (H' := []) (d' := I 5) trivial rfl (Z1 hq)
 rename_i c7
 have e7 : n = 0 := by
  have e : w.lo <= w.hi := Zax hA c7;rw [hn, e6, if_neg (by omega)]
 rw [e7] at hq;cbv;exact Z2 [] (by decide) Z9 (H' := []) (d' := I 0) trivial rfl (Z1 hq)
set_option maxRecDepth 20000 in
set_option maxHeartbeats 8000000 in
theorem cCheck (s : Sh) (hs : Fin s) (TL : List D) (hT : TL = s.tasks.map Z14z) (n : Int) (hn : n = Za5 s) (Q) (hq : Q (RA.ret (I n)) []) :
  CallA Tryz.prog 94 [.agg [I s.benches, .sl 3 TL]] [] Q := by
 obtain ⟨A, hA⟩ : ∃ A, A = ar := ⟨_, rfl⟩;have hTl : TL.length = s.tasks.length := by rw [hT]; simp
 obtain ⟨b1, hb1⟩ : ∃ x, x = decide (1 <= s.benches /\ s.benches <= 3) := ⟨_, rfl⟩;refine Z5 Z0 hA Tryz.func94 rfl rfl rfl rfl rfl fun S hS => ?_;cbv;refine Z4 hS [I s.benches, I 1, I 3] [] [] rfl rfl rfl rfl rfl rfl rfl rfl (by decide) trivial (rAm _ _ _ b1 hb1 _ ?_);refine Z3 Z0 hA hS ?_;cbv
 split
 ·rename_i c1
  have hz : n = 1 := by rw [hn, Za5, amg, <- hb1, if_pos (xnot hA c1)]
  rw [hz] at hq;cbv;exact Z2 [] (by decide) Z9 (H' := []) (d' := I 1) trivial rfl (Z1 hq)
 rename_i c1
 have d1 := xnnot hA c1;have hbb : 1 <= s.benches /\ s.benches <= 3 := by rw [d1] at hb1; exact of_decide_eq_true hb1.symm
 have hn1 : n = if 4 < s.tasks.length then 6 else if chkTs s.benches s.tasks = 0 then (if 8 < Z1cw s.tasks then 6 else 0) else chkTs s.benches s.tasks := by
  rw [hn, Za5, amg, <- hb1, d1, if_neg (by decide)]
 cbv
 split
 ·rename_i c2
  have hz : n = 6 := by have := ygtL hA hTl c2; rw [hn1, if_pos (by omega)]
  rw [hz] at hq;cbv;exact Z2 [] (by decide) Z9 (H' := []) (d' := I 6) trivial rfl (Z1 hq)
 rename_i c2
 have h4 : s.tasks.length <= 4 := by have := yngtL hA hTl c2; omega
 rw [if_neg (by omega)] at hn1;obtain ⟨z, hz⟩ : ∃ z : Int, z = if 8 < Z1cw s.tasks then 6 else 0 := ⟨_, rfl⟩
 rw [<- hz] at hn1;cbv;refine Zb hS ?_;refine Za (α := Int × Nat × Int) (fun q => { env := [(1, .b 0 0), (3, I q.2.2), (4, I q.1)], H := [.box (.agg [I s.benches, .sl 3 TL])], nt := 66, dfs := [] })
  (fun q => s.tasks.length - q.2.1) (fun q => q.2.1 <= s.tasks.length /\ IsI q.1 q.2.1 /\ IsI q.2.2 (Z1cw (s.tasks.take q.2.1)) /\ n = if chkTs s.benches (s.tasks.drop q.2.1) = 0 then z else chkTs s.benches (s.tasks.drop q.2.1)) (0, 0, 0) ⟨Nat.zero_le _, ⟨rfl⟩, ⟨rfl⟩, hn1⟩ ?_ ?_
 ·exact Zf [0] ⟨by decide, Z9, ⟨rfl, trivial⟩, ⟨rfl, rfl, rfl, trivial⟩, rfl, rfl⟩
 rintro ⟨i, k, x⟩ ⟨u1, u2, u4, u3⟩;dsimp only at u1 u2 u3 u4;refine Zi Z0 hA hS ?_
 by_cases hk : k < s.tasks.length
 ·have d3 : A.cmp .lss i (A.oi (A.len TL)) = true := by rw [yoiL hA hTl, u2.eq]; subst hA; simp [ar, Z25]; omega
  obtain ⟨t, ht⟩ : ∃ t, t = s.tasks[k] := ⟨_, rfl⟩;have htk : s.tasks[k]? = some t := by rw [ht]; exact List.getElem?_eq_getElem hk
  have htm := List.mem_of_getElem? htk;obtain ⟨WL, hWL⟩ : ∃ WL, WL = t.works.map Z14x := ⟨_, rfl⟩;have hWl : WL.length = t.works.length := by rw [hWL, List.length_map]
  have hlen := hs.2 t htm;have hTk : TL[k]? = some (.agg [I t.ready, I t.due, .sl 3 WL]) := by rw [hT]; simp [htk, hWL, Z14z]
  rw [Z16k htk] at u3;have hsum : Z1cw (s.tasks.take (k + 1)) = Z1cw (s.tasks.take k) + WL.length := by
   rw [List.take_add_one, htk]; simp [Z1cw, hWL]
  have hbn := Z15c hs.2 (k + 1);have hfx : A.fits .i64 (A.add x (A.oi (A.len WL))) := by
   subst hA; exact Zxl (n := x + (WL.length : Int)) (by
    have := u4.eq
    have h4 : (k + 1) * 1152921504606846976 <= 4 * 1152921504606846976 := Nat.mul_le_mul_right _ (by omega)
    omega)
  have hx : IsI (A.add x (A.oi (A.len WL))) (Z1cw (s.tasks.take (k + 1))) := by
   subst hA; exact ⟨by rw [hsum, u4.eq]; rfl⟩
  have ii := Z1b hA hTl u2 hk;have gg := Z18 hA u2 hTk;have hf1 := Zy hA u2 (by omega);have hu2 := Zz hA u2;have hms : s.tasks.length - (k + 1) < s.tasks.length - k := by omega
  obtain ⟨e, he⟩ : ∃ e, e = chkT s.benches t := ⟨_, rfl⟩;rw [<- he] at u3;obtain ⟨b2, hb2⟩ : ∃ x, x = decide (0 <= t.ready /\ t.ready <= 200) := ⟨_, rfl⟩;obtain ⟨b3, hb3⟩ : ∃ x, x = decide (0 <= t.due /\ t.due <= 200) := ⟨_, rfl⟩;have bad : e ≠ 0 -> Q (RA.ret (I e)) [] := fun h => by
   have : n = e := by rw [u3, if_neg h, if_neg h]
   rwa [this] at hq
  have good : e = 0 -> n = if chkTs s.benches (s.tasks.drop (k + 1)) = 0 then z else chkTs s.benches (s.tasks.drop (k + 1)) := fun h => by
   rw [u3, if_pos h]
  clear u3 hsum hbn hT hTk hn hn1;cbv;refine bmT d3 ?_;cbv;refine ⟨ii, Need.mk ⟨_, gg, ?_⟩⟩;cbv;refine Z4 hS [I t.ready, I 0, I 200] [] [] rfl rfl rfl rfl rfl rfl rfl rfl (by decide) trivial (rAm _ _ _ b2 hb2 _ ?_);refine Z3 Z0 hA hS ?_;cbv;refine bm (fun c5 => ?_) (fun c5 => ?_)
  ·have hz : e = 1 := by rw [he, chkT, amg, <- hb2, if_pos (xnot hA c5)]
   have hz := bad (by omega);rw [‹e = 1›] at hz;cbv;refine Zg (f := 0) hS rfl rfl rfl rfl rfl rfl rfl rfl (fun e => Bool.noConfusion e) (fun _ => ?_);refine Z3 Z0 hA hS ?_;cbv;refine Z7 ?_;cbv;exact Z2 [] (by decide) Z9 (H' := []) (d' := I 1) trivial rfl (Z1 hz)
  have d5 := xnnot hA c5;cbv;refine Zg hS rfl rfl rfl rfl rfl rfl rfl rfl (fun _ => ⟨_, _, [I t.due, I 0, I 200], [], [], rfl, rfl, rfl, by decide, trivial, rAm _ _ _ b3 hb3 _ ?_⟩) (fun e => absurd rfl e);refine Z3 Z0 hA hS ?_;cbv;refine bm (fun c6 => ?_) (fun c6 => ?_)
  ·have hz : e = 1 := by rw [he, chkT, amg, <- hb2, d5, if_neg (by decide), amg, <- hb3, if_pos (xnot hA c6)]
   have hz := bad (by omega);rw [‹e = 1›] at hz;cbv;refine Z7 ?_;cbv;exact Z2 [] (by decide) Z9 (H' := []) (d' := I 1) trivial rfl (Z1 hz)
  have d6 := xnnot hA c6;have he1 : e = if t.works = [] then 7 else chkWs s.benches t.works := by rw [he, chkT, amg, <- hb2, d5, if_neg (by decide), amg, <- hb3, d6, if_neg (by decide)]
  cbv;refine bm (fun c7 => ?_) (fun c7 => ?_)
  ·have hz : e = 7 := by
    have := yeqL hA hWl c7;rw [he1, if_pos];exact List.eq_nil_of_length_eq_zero (by omega)
   have hz := bad (by omega);rw [‹e = 7›] at hz;cbv;refine Z7 ?_;cbv;exact Z2 [] (by decide) Z9 (H' := []) (d' := I 7) trivial rfl (Z1 hz)
  have he2 : e = chkWs s.benches (t.works.drop 0) := by
   rw [he1, if_neg]; rfl;intro e;have := yneqL hA hWl c7;rw [e] at this;exact this rfl
  clear he he1 c5 c6 c7;cbv;refine Zb hS ?_;refine Za (α := Int × Nat) (fun q => { env := [(1, .b 0 0), (3, I x), (4, I i), (5, .b 1 0), (6, I q.1)], H := [.box (.agg [I s.benches, .sl 3 TL]), .box (.agg [I t.ready, I t.due, .sl 3 WL])], nt := 66, dfs := [] })
   (fun q => t.works.length - q.2) (fun q => q.2 <= t.works.length /\ IsI q.1 q.2 /\ e = chkWs s.benches (t.works.drop q.2)) (0, 0) ⟨Nat.zero_le _, ⟨rfl⟩, he2⟩ ?_ ?_
  ·exact Zf [0, 1] ⟨by decide, Z9, ⟨rfl, rfl, trivial⟩, ⟨rfl, rfl, rfl, rfl, rfl, trivial⟩, rfl, rfl⟩
  rintro ⟨j, l⟩ ⟨v1, v2, v3⟩;dsimp only at v1 v2 v3;refine Zi Z0 hA hS ?_
  by_cases hl : l < t.works.length
  ·have d8 : A.cmp .lss j (A.oi (A.len WL)) = true := by rw [yoiL hA hWl, v2.eq]; subst hA; simp [ar, Z25]; omega
   obtain ⟨w, hw⟩ : ∃ w, w = t.works[l] := ⟨_, rfl⟩;have hwl : t.works[l]? = some w := by rw [hw]; exact List.getElem?_eq_getElem hl
   have hWk : WL[l]? = some (.agg [I w.b, I w.lo, I w.hi]) := by rw [hWL]; simp [hwl, Z14x]
   rw [Z16j hwl] at v3;obtain ⟨f, hf⟩ : ∃ f, f = chkW s.benches w := ⟨_, rfl⟩;rw [<- hf] at v3;have jj := Z1b hA hWl v2 hl;have gj := Z18 hA v2 hWk;have hf2 := Zy hA v2 (by omega);have hv2 := Zz hA v2;have hms2 : t.works.length - (l + 1) < t.works.length - l := by omega
   have hbad : f ≠ 0 -> Q (RA.ret (I f)) [] := fun h => by
    have e1 : e = f := by rw [v3, if_neg h]
    have := bad (by rw [e1]; exact h)
    rwa [e1] at this
   have hgood : f = 0 -> e = chkWs s.benches (t.works.drop (l + 1)) := fun h => by rw [v3, if_pos h]
   have kW := fun Q h => Z1no s.benches hbb w TL f hf Q h;clear v3 hWk hWL hwl hw hf bad good;cbv;refine bmT d8 ?_;cbv;refine Z16 Z0 hA hS [0, 1, 2, 3, 4, 5, 6, 7] rfl rfl fun Dk hD => ?_;cbv;refine ⟨jj, Need.mk ⟨_, gj, ?_⟩⟩;cbv;refine Zq hA hD [.agg [I s.benches, .sl 3 TL], .agg [I w.b, I w.lo, I w.hi]] [] [] rfl rfl rfl rfl rfl rfl rfl rfl rfl rfl rfl (by decide) trivial (kW _ ⟨by cbv; repeat' (first | exact trivial | exact rfl | exact jj | exact gj | refine ⟨?_, ?_⟩), Zx Z0 hA hD ?_⟩);cbv;refine bm (fun c9 => ?_) (fun c9 => ?_)
   ·have hz := hbad (xne hA c9);cbv;refine Z7 ?_;cbv;refine Z7 ?_;cbv;exact Z2 [] (by decide) Z9 (H' := []) (d' := I f) trivial rfl (Z1 hz)
   ·have e9 := hgood (Z4t hA c9);cbv;refine ⟨hf2, ?_⟩;refine Z8 (A.add j 1, l + 1) [0, 1] ⟨hl, hv2, e9⟩ hms2 ?_;exact ⟨by decide, Z9, ⟨rfl, rfl, trivial⟩, ⟨rfl, rfl, rfl, rfl, rfl, trivial⟩, rfl, rfl⟩
  ·have d8 : A.cmp .lss j (A.oi (A.len WL)) = false := by rw [yoiL hA hWl, v2.eq]; subst hA; simp [ar, Z25]; omega
   rw [List.drop_eq_nil_of_le (by omega)] at v3;have e9 := good v3;cbv;refine bmF d8 ?_;cbv;refine Z7 ?_;cbv;refine ⟨hfx, hf1, ?_⟩;refine Z8 (A.add i 1, k + 1, A.add x (A.oi (A.len WL))) [0] ⟨hk, hu2, hx, e9⟩ hms ?_;exact ⟨by decide, Z9, ⟨rfl, trivial⟩, ⟨rfl, rfl, rfl, trivial⟩, rfl, rfl⟩
 ·have d3 : A.cmp .lss i (A.oi (A.len TL)) = false := by rw [yoiL hA hTl, u2.eq]; subst hA; simp [ar, Z25]; omega
  rw [List.drop_eq_nil_of_le (by omega)] at u3;rw [List.take_of_length_le (by omega)] at u4;have u5 : n = z := u3;cbv;refine bmF d3 ?_;cbv;refine Z7 ?_;cbv;refine bm (fun c5 => ?_) (fun c5 => ?_)
  ·have e5 : ((8 : Nat) : Int) < (Z1cw s.tasks : Int) := by rw [<- u4.eq]; exact xgt hA c5
   rw [if_pos (Int.ofNat_lt.1 e5)] at hz;rw [u5, hz] at hq;cbv;exact Z2 [] (by decide) Z9 (H' := []) (d' := I 6) trivial rfl (Z1 hq)
  ·have e5 : (Z1cw s.tasks : Int) <= ((8 : Nat) : Int) := by rw [<- u4.eq]; exact Zax hA c5
   rw [if_neg (Nat.not_lt.2 (Int.ofNat_le.1 e5))] at hz;rw [u5, hz] at hq;cbv;exact Z2 [] (by decide) Z9 (H' := []) (d' := I 0) trivial rfl (Z1 hq)
end Go.Proofs.YthljpccegkmdnaaGreatDoor.Bn

namespace Go.Proofs.YthljpccegkmdnaaGreatDoor
open Go Go.Abs Go.Proofs Go.Txt
open Bn (Sh Tk Wk Z14x Z14z Za5)
set_option maxRecDepth 20000 in
set_option maxHeartbeats 8000000 in
theorem Z1pc (t : By) (Q) (hq0 : ∀ l e, Z1lg t = (s0, l, e) -> e ≠ 0 -> Q (RA.ret (.tup [.agg [I 0, .sl 3 []], I l, I e])) [])
  (hq1 : ∀ s n TL, Z1lg t = (s, 0, 0) -> Za5 s = 0 -> s.benches = n -> TL = s.tasks.map Z14z -> Q (RA.ret (.tup [.agg [I n, .sl 3 TL], I 0, I 0])) []) :
  CallA Tryz.prog 41 [tD t] [] Q := by
 obtain ⟨A, hA⟩ : ∃ A, A = ar := ⟨_, rfl⟩;refine Z38 Z0 hA [] Tryz.func41 rfl rfl rfl rfl rfl fun S hS => ?_
 by_cases g300 : 300 < t.length
 ·have c1 : A.cmp .gtr (A.oi (A.slen (bs t))) 300 = true := by rw [ycl hA]; simp [Z25]; omega
  have hz := hq0 0 10 (Z1ml g300) (by decide);cbv;refine bmT c1 ?_;cbv;exact Z37 (Z1la _ _) (Z2 [] (by decide) Z9 (H' := []) (d' := .tup [.agg [I 0, .sl 3 []], I 0, I 10]) trivial rfl (Z1 hz))
 have c1 : A.cmp .gtr (A.oi (A.slen (bs t))) 300 = false := by rw [ycl hA]; simp [Z25]; omega
 have t1000 : t.length <= 1000 := by omega
 cbv;refine bmF c1 ?_;cbv;refine Z4 hS [.v (.string (bs t)), .v (.int .u8 10)] [] [] rfl rfl rfl rfl rfl rfl rfl rfl (by decide) trivial (Z1m6 t t1000 10 10 rfl _ fun LL hLL => ?_);obtain ⟨ls, hls⟩ : ∃ ls, ls = Z1gn 10 t := ⟨_, rfl⟩;rw [<- hls] at hLL;have hlsL := Z1gs 10 t;rw [<- hls] at hlsL;obtain ⟨hl1, hl2⟩ := hlsL;obtain ⟨N, hN⟩ : ∃ N, ls.length = N + 1 := by
  have := Z1h7 10 t;rw [<- hls] at this
  cases ls with
  | nil => exact absurd rfl this
  | cons a l => exact ⟨l.length, rfl⟩
 obtain ⟨B, hB⟩ : ∃ B, B = ls.dropLast := ⟨_, rfl⟩;have hBN : B.length = N := by rw [hB, List.length_dropLast, hN]; rfl
 have hBm : ∀ x ∈ B, x.length <= 300 := fun x hx => by have := hl2 x (List.dropLast_subset _ (hB ▸ hx)); omega
 have hLl : LL.length = N + 1 := by rw [hLL, List.length_map, hN]
 have hla : IsI (A.sub (A.oi (A.len LL)) 1) N := ⟨by rw [Z24 hA, yoiL hA hLl]; omega⟩;have fla : A.fits .i64 (A.sub (A.oi (A.len LL)) 1) := Z14 hA hla.eq (by omega);have hBg : ∀ k x, B[k]? = some x -> ls[k]? = some x := fun k x h => by
  rw [hB, List.dropLast_eq_take, List.getElem?_take] at h
  split at h
  ·exact h
  ·cases h
 have hread : ∀ {x : (Bool × Sh) ⊕ Nat}, rdS 0 false s0 B = x -> rdS 0 false s0 (Z1gn 10 t).dropLast = x := fun h => by rw [<- hls, <- hB]; exact h
 have hlen : ((Z1gn 10 t).length : Int) = A.oi (A.len LL) := by rw [<- hls, hN, yoiL hA hLl]
 obtain ⟨lst, hlst⟩ : ∃ x, ls[N]? = some x := ⟨_, List.getElem?_eq_getElem (by omega)⟩;have hgl : (Z1gn 10 t).getLast? = some lst := by rw [<- hls, List.getLast?_eq_getElem?, hN]; exact hlst
 have il : A.inb (A.sub (A.oi (A.len LL)) 1) (A.len LL) := Z1b hA hLl hla (by omega);have nl : A.get LL (A.tn (A.sub (A.oi (A.len LL)) 1)) = some (tD lst) := Z18 hA hla (by rw [hLL, List.getElem?_map, hlst]; rfl);refine Z3 Z0 hA hS ?_;cbv;refine Zb hS ?_;refine Za (α := Option ((Int × Nat) × Bool × Int × List D × Nat))
  (fun q => match q with
   | none => { env := [(2, .b 0 0), (5, .sl 1 LL), (6, .b 1 0), (7, .v (.bool false)), (8, I 0)], H := [.box (.agg [I 0, .v (.slice none 0 0)]), .box (.agg [I 0, .v (.slice none 0 0)])], nt := 96, dfs := [] }
   | some q => { env := [(2, .b 0 0), (5, .sl 1 LL), (6, .b 1 0), (7, .v (.bool q.2.1)), (8, I q.1.1)], H := [.box (.agg [I 0, .v (.slice none 0 0)]), .box (.agg [I q.2.2.1, .o 2 3 q.2.2.2.2]), .els 3 q.2.2.2.1], nt := 96, dfs := [] })
  (fun q => match q with | none => N + 1 | some q => N - q.1.2)
  (fun q => match q with | none => True | some q => IsI q.1.1 q.1.2 /\ RdS B q.1.2 q.2.1 q.2.2.1 q.2.2.2.1 q.2.2.2.2) none trivial ?_ ?_
 ·exact Zf [0, 1] ⟨by decide, Z9, ⟨rfl, rfl, trivial⟩, ⟨rfl, rfl, rfl, rfl, rfl, trivial⟩, rfl, rfl⟩
 have bT : A.bnot true = false := by subst hA; rfl
 have bF : A.bnot false = true := by subst hA; rfl
 have e00 : A.cmp .eql 0 0 = true := by subst hA; rfl
 have z0 : IsI 0 0 := ⟨rfl⟩;rintro q hq
 cases q with
 | none =>
  dsimp only;refine Z2w Z0 hA hS [] ?_
  by_cases hN0 : N = 0
  ·have d1 : A.cmp .lss 0 (A.sub (A.oi (A.len LL)) 1) = false := by rw [hla.eq]; subst hA; simp [ar, Z25]; omega
   have hB0 : B = [] := List.eq_nil_of_length_eq_zero (by omega);have hz := hq0 (A.oi (A.len LL)) 2 (by rw [<- hlen]; exact Z1lw g300 (hread (x := .inl (false, s0)) (by rw [hB0]; rfl))) (by decide);clear hq0 hq1 hread;cbv;refine ⟨fla, ?_⟩;refine bmF d1 ?_;cbv;refine Z7 ?_;cbv;refine bmT bF ?_;cbv;exact Z37 (Z1la _ _) (Z2 [] (by decide) Z9 (H' := []) (d' := .tup [.agg [I 0, .sl 3 []], I (A.oi (A.len LL)), I 2]) trivial rfl (Z1 hz))
  ·have d1 : A.cmp .lss 0 (A.sub (A.oi (A.len LL)) 1) = true := by rw [hla.eq]; subst hA; simp [ar, Z25]; omega
   obtain ⟨l, B', hB'⟩ : ∃ l B', B = l :: B' := by cases B with | nil => exact absurd hBN.symm hN0 | cons l B' => exact ⟨l, B', rfl⟩
   have hll : l.length <= 1000 := by have := hBm l (by rw [hB']; simp); omega
   have hw := fun x hx => Nat.le_trans ((Z1gs 32 l).2 x hx) hll;have ii : A.inb 0 (A.len LL) := Z1b hA hLl z0 (by omega);have gg : A.get LL (A.tn 0) = some (tD l) := Z18 hA z0 (by rw [hLL, List.getElem?_map, hBg 0 l (by rw [hB']; rfl)]; rfl);have hf1 := Zy hA z0 (by decide);have hu1 := Zz hA z0;have hms : N - 1 < N + 1 := by omega
   have hkB : 1 <= B.length := by rw [hB']; simp
   have g1 : Z1ln (Z1gn 32 l) = none -> Z1lg t = (s0, A.add 0 1, 2) := fun h => by rw [hu1.eq]; exact Z1m2 g300 (hread (x := .inr 1) (by rw [hB']; exact Z1mj h))
   have g2 : ∀ n, Z1ln (Z1gn 32 l) = some n -> rdS 0 false s0 B = rdS 1 false ⟨n, []⟩ (B.drop 1) := fun n h => by rw [hB']; exact Z1mh h
   have g3 := fun h => hq0 (A.add 0 1) 2 (g1 h) (by decide);obtain ⟨w0, wr, hwr⟩ : ∃ a r, Z1gn 32 l = a :: r := by
    have := Z1h7 32 l
    match hs : Z1gn 32 l, this with
    | a :: r, _ => exact ⟨a, r, rfl⟩
   rw [hwr] at hw g2 g3;clear hq0 hq1 hread g1;cbv;refine ⟨fla, ?_⟩;refine bmT d1 ?_;cbv;refine ⟨ii, Need.mk ⟨_, gg, ?_⟩⟩;cbv;refine Z4 hS [.v (.string (bs l)), .v (.int .u8 32)] [] [] rfl rfl rfl rfl rfl rfl rfl rfl (by decide) trivial (Z1m6 l hll 32 32 rfl _ fun WL hWL => ?_);rw [hwr] at hWL;have hWl : WL.length = wr.length + 1 := by rw [hWL, List.length_map]; rfl
   have i0 : A.inb 0 (A.len WL) := Z1b hA hWl (k := 0) ⟨rfl⟩ (by omega);have n0 : A.get WL (A.tn 0) = some (tD w0) := Z18 hA (k := 0) ⟨rfl⟩ (by rw [hWL]; rfl);refine Z3 Z0 hA hS ?_
   by_cases hb : w0 = benW
   ·have c4 : A.seq (bs w0) (bs benW) = true := by rw [yseq hA, hb]; simp
    by_cases hl2 : wr.length = 1
    ·obtain ⟨w1, hww⟩ : ∃ a, wr = [a] := by
      match hp : wr, hl2 with
      | [a], _ => exact ⟨a, rfl⟩
     subst hww;have hw1 : w1.length <= 1000 := hw w1 (by simp);have hW2 : WL.length = 2 := hWl;have c3 : A.cmp .eql (A.oi (A.len WL)) 2 = true := by rw [yoiL hA hW2]; subst hA; rfl
     have i1 : A.inb 1 (A.len WL) := Z1b hA hW2 (k := 1) ⟨rfl⟩ (by omega);have n1 : A.get WL (A.tn 1) = some (tD w1) := Z18 hA (k := 1) ⟨rfl⟩ (by rw [hWL]; rfl);rw [Z1mq hb] at g2 g3;cbv;refine bmT e00 ?_;cbv;refine ⟨i0, Need.mk ⟨_, n0, ?_⟩⟩;cbv;refine bmT c4 ?_;cbv;refine bmT c3 ?_;cbv;refine ⟨i1, Need.mk ⟨_, n1, ?_⟩⟩;cbv;refine Z4 hS [.v (.string (bs w1))] [] [] rfl rfl rfl rfl rfl rfl rfl rfl (by decide) trivial (Z1lt w1 hw1 _ fun n b tb fb => ?_)
     cases b with
     | true =>
      have hra : RdS B 1 false n [] 0 := ⟨⟨⟨n, []⟩, rfl, rfl, g2 n (tb rfl), Nat.zero_le _, fun _ h => absurd h List.not_mem_nil⟩, rfl, Nat.le_refl _, hkB⟩;clear g2 g3;refine Z3 Z0 hA hS ?_;cbv;refine bmF bT ?_;cbv;refine ⟨hf1, ?_⟩;refine Zfk 1 1 3 (.agg [I n, .o 2 3 0]) rfl rfl rfl ?_;refine Z8 (some ((A.add 0 1, 1), false, n, [], 0)) [0, 1, 2] ⟨hu1, hra⟩ hms ?_;exact ⟨by decide, Z9, ⟨rfl, rfl, rfl, trivial⟩, ⟨rfl, rfl, rfl, rfl, rfl, trivial⟩, rfl, rfl⟩
     | false =>
      have hz := g3 (fb rfl);clear g2 g3;refine Z3 Z0 hA hS ?_;cbv;refine bmT bF ?_;cbv;refine ⟨hf1, ?_⟩;refine Z7 ?_;cbv;exact Z37 (Z1la _ _) (Z2 [] (by decide) Z9 (H' := []) (d' := .tup [.agg [I 0, .sl 3 []], I (A.add 0 1), I 2]) trivial rfl (Z1 hz))
    ·have c3 : A.cmp .eql (A.oi (A.len WL)) 2 = false := by rw [yoiL hA hWl]; subst hA; simp [ar, Z25]; omega
     have hz := g3 (Z1mc (by simp; omega));clear g2 g3;cbv;refine bmT e00 ?_;cbv;refine ⟨i0, Need.mk ⟨_, n0, ?_⟩⟩;cbv;refine bmT c4 ?_;cbv;refine bmF c3 ?_;cbv;refine bmT bF ?_;cbv;refine ⟨hf1, ?_⟩;refine Z7 ?_;cbv;exact Z37 (Z1la _ _) (Z2 [] (by decide) Z9 (H' := []) (d' := .tup [.agg [I 0, .sl 3 []], I (A.add 0 1), I 2]) trivial rfl (Z1 hz))
   ·have c4 : A.seq (bs w0) (bs benW) = false := by rw [yseq hA]; simp [hb]
    have hz := g3 (by
     by_cases hl2 : wr.length = 1
     ·match hp : wr, hl2 with
      | [a], _ => exact Z1mf hb
     ·exact Z1mc (by simp; omega))
    clear g2 g3;cbv;refine bmT e00 ?_;cbv;refine ⟨i0, Need.mk ⟨_, n0, ?_⟩⟩;cbv;refine bmF c4 ?_;cbv;refine bmT bF ?_;cbv;refine ⟨hf1, ?_⟩;refine Z7 ?_;cbv;exact Z37 (Z1la _ _) (Z2 [] (by decide) Z9 (H' := []) (d' := .tup [.agg [I 0, .sl 3 []], I (A.add 0 1), I 2]) trivial rfl (Z1 hz))
 | some q =>
  obtain ⟨⟨i, k⟩, e, n, TL, nt⟩ := q;obtain ⟨u1, u2⟩ := hq;dsimp only at u1 u2;obtain ⟨⟨s, v1, v2, v4, v5, v6⟩, v7, v8, v9⟩ := u2;refine Z2w Z0 hA hS [] ?_;have hk1000 : k <= 1000 := by omega
  by_cases hk : k < N
  ·have d1 : A.cmp .lss i (A.sub (A.oi (A.len LL)) 1) = true := by rw [hla.eq, u1.eq]; subst hA; simp [ar, Z25]; omega
   have di : A.cmp .eql i 0 = false := by rw [u1.eq]; subst hA; simp [ar, Z25]; omega
   obtain ⟨l, hl⟩ : ∃ l, B[k]? = some l := ⟨_, List.getElem?_eq_getElem (by omega)⟩;have hlm := hBm l (List.mem_of_getElem? hl);have hll : l.length <= 1000 := by omega
   have hw := fun x hx => Nat.le_trans ((Z1gs 32 l).2 x hx) hll;have hwl : (Z1gn 32 l).length <= 1000 := by have := (Z1gs 32 l).1; omega
   have hdr : B.drop k = l :: B.drop (k + 1) := by
    rw [List.drop_eq_getElem_cons (by omega)]; rw [List.getElem?_eq_getElem (by omega)] at hl; rw [Option.some.inj hl]
   rw [hdr] at v4;have ii : A.inb i (A.len LL) := Z1b hA hLl u1 (by omega);have gg : A.get LL (A.tn i) = some (tD l) := Z18 hA u1 (by rw [hLL, List.getElem?_map, hBg k l hl]; rfl);have hf1 := Zy hA u1 (by omega);have hu1 := Zz hA u1;have hms : N - (k + 1) < N - k := by omega
   have hb8 : rdS 0 false s0 B = .inr (k + 1) -> Q (RA.ret (.tup [.agg [I 0, .sl 3 []], I (A.add i 1), I 2])) [] := fun h => hq0 _ 2 (by rw [hu1.eq]; exact Z1m2 g300 (hread h)) (by decide);have hkB : k + 1 <= B.length := by omega
   have k2 : 1 <= k + 1 := by omega
   have nt8 : nt <= 1000 := by rw [<- v7, v2, List.length_map]; omega
   cases e with
   | true =>
    have hz := hb8 (v4.trans (Z1nn k s l _));clear hb8 hq0 hq1 hread v4 hdr;cbv;refine ⟨fla, ?_⟩;refine bmT d1 ?_;cbv;refine ⟨ii, Need.mk ⟨_, gg, ?_⟩⟩;cbv;refine Z4 hS [.v (.string (bs l)), .v (.int .u8 32)] [] [] rfl rfl rfl rfl rfl rfl rfl rfl (by decide) trivial (Z1m6 l hll 32 32 rfl _ fun WL hWL => ?_);refine Z3 Z0 hA hS ?_;cbv;refine bmT bF ?_;cbv;refine ⟨hf1, ?_⟩;refine Z7 ?_;cbv;exact Z37 (Z1la _ _) (Z2 [] (by decide) Z9 (H' := []) (d' := .tup [.agg [I 0, .sl 3 []], I (A.add i 1), I 2]) trivial rfl (Z1 hz))
   | false =>
    by_cases he : l = Z1lf
    ·have ce : A.seq (bs l) (bs Z1lf) = true := by rw [yseq hA, he]; simp
     have hra : RdS B (k + 1) true n TL nt := ⟨⟨s, v1, v2, v4.trans (Z1n8 v8 he), by omega, v6⟩, v7, k2, hkB⟩;clear hb8 hq0 hq1 hread v4 hdr;cbv;refine ⟨fla, ?_⟩;refine bmT d1 ?_;cbv;refine ⟨ii, Need.mk ⟨_, gg, ?_⟩⟩;cbv;refine Z4 hS [.v (.string (bs l)), .v (.int .u8 32)] [] [] rfl rfl rfl rfl rfl rfl rfl rfl (by decide) trivial (Z1m6 l hll 32 32 rfl _ fun WL hWL => ?_);refine Z3 Z0 hA hS ?_;cbv;refine bmF di ?_;cbv;refine ⟨ii, Need.mk ⟨_, gg, ?_⟩⟩;cbv;refine bmT ce ?_;cbv;refine bmF bT ?_;cbv;refine ⟨hf1, ?_⟩;refine Z8 (some ((A.add i 1, k + 1), true, n, TL, nt)) [0, 1, 2] ⟨hu1, hra⟩ hms ?_;exact ⟨by decide, Z9, ⟨rfl, rfl, rfl, trivial⟩, ⟨rfl, rfl, rfl, rfl, rfl, trivial⟩, rfl, rfl⟩
    ·have ce : A.seq (bs l) (bs Z1lf) = false := by rw [yseq hA]; simp [he]
     have hmo : ∀ m, Z1li (Z1gn 32 l) = some m -> RdS B (k + 1) false n (TL ++ [Z14z m]) (nt + 1) := fun m hm => ⟨⟨⟨s.benches, s.tasks ++ [m]⟩, v1, by rw [v2]; simp, v4.trans (Z1mi v8 he hm), by simp; omega, fun x hx => by
      rcases List.mem_append.1 hx with h | h
      ·exact v6 x h
      ·rw [List.mem_singleton.1 h]; exact Nat.le_trans (Z1n1 hm) hwl⟩, by simp [v7], k2, hkB⟩
     have hmn := fun h => hb8 (v4.trans (Z1mk v8 he h));clear hb8 hq0 hq1 hread v4 hdr;cbv;refine ⟨fla, ?_⟩;refine bmT d1 ?_;cbv;refine ⟨ii, Need.mk ⟨_, gg, ?_⟩⟩;cbv;refine Z4 hS [.v (.string (bs l)), .v (.int .u8 32)] [] [] rfl rfl rfl rfl rfl rfl rfl rfl (by decide) trivial (Z1m6 l hll 32 32 rfl _ fun WL hWL => ?_);refine Z3 Z0 hA hS ?_;cbv;refine bmF di ?_;cbv;refine ⟨ii, Need.mk ⟨_, gg, ?_⟩⟩;cbv;refine bmF ce ?_;cbv;refine Z4 hS [.sl 1 WL] [] [] rfl rfl rfl rfl rfl rfl rfl rfl (by decide) trivial (Z1pn (Z1gn 32 l) hw hwl WL hWL _ (fun r d ws L hm hL => ?_) (fun hm r d L => ?_))
     ·have hra := hmo _ hm;clear hmo hmn;have hM2 : A.app TL [.agg [I r, I d, .sl 3 L]] = TL ++ [Z14z ⟨r, d, ws⟩] := by rw [hL]; subst hA; rfl
      have hN2 : A.addN nt 1 = nt + 1 := by subst hA; rfl
      rw [<- hM2, <- hN2] at hra;have e1 := yeqLen hA v7;have e2 : A.eqN 1 (A.len [.agg [I r, I d, .sl 3 L]]) := by subst hA; rfl
      have e3 : A.room (A.addN nt 1) 40 := yroom1 hA (by omega) (by omega);refine Z3 Z0 hA hS ?_;cbv;refine ⟨e1, e2, e3, ?_⟩;refine bmF bT ?_;cbv;refine ⟨hf1, ?_⟩;refine Z8 (some ((A.add i 1, k + 1), false, n, A.app TL [.agg [I r, I d, .sl 3 L]], A.addN nt 1)) [0, 1, 5] ⟨hu1, hra⟩ hms ?_;exact ⟨by decide, Z9, ⟨rfl, rfl, rfl, trivial⟩, ⟨rfl, rfl, rfl, rfl, rfl, trivial⟩, rfl, rfl⟩
     ·have hz := hmn hm;clear hmo hmn;have e1 := yeqLen hA v7;have e2 : A.eqN 1 (A.len [.agg [I r, I d, .sl 3 L]]) := by subst hA; rfl
      have e3 : A.room (A.addN nt 1) 40 := yroom1 hA (by omega) (by omega);refine Z3 Z0 hA hS ?_;cbv;refine ⟨e1, e2, e3, ?_⟩;refine bmT bF ?_;cbv;refine ⟨hf1, ?_⟩;refine Z7 ?_;cbv;exact Z37 (Z1la _ _) (Z2 [] (by decide) Z9 (H' := []) (d' := .tup [.agg [I 0, .sl 3 []], I (A.add i 1), I 2]) trivial rfl (Z1 hz))
  ·have d1 : A.cmp .lss i (A.sub (A.oi (A.len LL)) 1) = false := by rw [hla.eq, u1.eq]; subst hA; simp [ar, Z25]; omega
   have hrd : rdS 0 false s0 B = .inl (e, s) := by rw [v4, List.drop_of_length_le (by omega)]; rfl
   clear v4
   cases e with
   | false =>
    have hz := hq0 (A.oi (A.len LL)) 2 (by rw [<- hlen]; exact Z1lw g300 (hread hrd)) (by decide);clear hq0 hq1 hread hrd;cbv;refine ⟨fla, ?_⟩;refine bmF d1 ?_;cbv;refine Z7 ?_;cbv;refine bmT bF ?_;cbv;exact Z37 (Z1la _ _) (Z2 [] (by decide) Z9 (H' := []) (d' := .tup [.agg [I 0, .sl 3 []], I (A.oi (A.len LL)), I 2]) trivial rfl (Z1 hz))
   | true =>
    by_cases hls0 : lst = []
    ·have ce : A.bnot (A.seq (bs lst) (bs [])) = false := by rw [yseq hA, hls0]; subst hA; simp [ar]
     have hg2 : (Z1gn 10 t).getLast? = some [] := by rw [hgl, hls0]
     obtain ⟨e0, he0⟩ : ∃ e, e = Za5 s := ⟨_, rfl⟩;have hb1 := fun h : e0 ≠ 0 => hq0 0 e0 (by rw [he0]; exact Z1my g300 (hread hrd) hg2 (by rw [<- he0]; exact h)) h;have hb0 := fun h : e0 = 0 => hq1 s n TL (Z1mn g300 (hread hrd) hg2 (by rw [<- he0]; exact h)) (by rw [<- he0]; exact h) v1 v2;have qC := fun Q h => Bn.cCheck s ⟨by omega, fun t ht => by have := v6 t ht; omega⟩ TL v2 e0 he0 Q h;rw [v1] at qC;clear hq0 hq1 hread hrd he0 hg2;cbv;refine ⟨fla, ?_⟩;refine bmF d1 ?_;cbv;refine Z7 ?_;cbv;refine bmF bT ?_;cbv;refine ⟨fla, il, Need.mk ⟨_, nl, ?_⟩⟩;cbv;refine bmF ce ?_;cbv;refine Z26 hS (Z1a hA [2] ?_);cbv;refine ⟨yeqLen hA v7, yeqLen hA v7, Z7 ?_⟩;refine Z4 hS [.agg [I n, .sl 3 TL]] [] [] rfl rfl rfl rfl rfl rfl rfl rfl (by decide) trivial (qC _ ?_);refine Z3 Z0 hA hS ?_
     by_cases h0 : e0 = 0
     ·have cc : A.cmp .neq e0 0 = false := by subst hA; simp [ar, Z25, h0]
      have hz := hb0 h0;cbv;refine bmF cc ?_;cbv;exact Z2 [] (by decide) Z9 (H' := []) (d' := .tup [.agg [I n, .sl 3 TL], I 0, I 0]) trivial rfl (Z1 hz)
     ·have cc : A.cmp .neq e0 0 = true := by subst hA; simp [ar, Z25, h0]
      have hz := hb1 h0;cbv;refine bmT cc ?_;cbv;exact Z37 (Z1la _ _) (Z2 [] (by decide) Z9 (H' := []) (d' := .tup [.agg [I 0, .sl 3 []], I 0, I e0]) trivial rfl (Z1 hz))
    ·have ce : A.bnot (A.seq (bs lst) (bs [])) = true := by rw [yseq hA]; subst hA; simp [ar, hls0]
     have hz := hq0 (A.oi (A.len LL)) 2 (by rw [<- hlen]; exact Z1mm g300 (hread hrd) (by rw [hgl]; simp [hls0])) (by decide);clear hq0 hq1 hread hrd;cbv;refine ⟨fla, ?_⟩;refine bmF d1 ?_;cbv;refine Z7 ?_;cbv;refine bmF bT ?_;cbv;refine ⟨fla, il, Need.mk ⟨_, nl, ?_⟩⟩;cbv;refine bmT ce ?_;cbv;exact Z37 (Z1la _ _) (Z2 [] (by decide) Z9 (H' := []) (d' := .tup [.agg [I 0, .sl 3 []], I (A.oi (A.len LL)), I 2]) trivial rfl (Z1 hz))
end Go.Proofs.YthljpccegkmdnaaGreatDoor
