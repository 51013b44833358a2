/- Part TyAW of the proofs about the benches of the accordion maker: see the last text of the claim for what is proved. -/
import Derived.Deep.Slices
import Derived.SizedLaws
import Derived.Test.YthljpccegkmdnaaGreatDoorTyAV
import Derived.Test.YthljpccegkmdnaaGreatDoorTyAT
set_option linter.unusedVariables false
set_option linter.unusedSimpArgs false
set_option linter.unnecessarySimpa false
set_option linter.constructorNameAsVariable false

namespace Go.Proofs.YthljpccegkmdnaaGreatDoor.Bn
open Go Go.Abs Go.Proofs
theorem Zb9 (n lo hi : Int) (b : Bool) (hb : b = decide (lo <= n /\ n <= hi)) (Q) (hq : Q (RA.ret (.v (.bool b))) []) : CallA Tryz.prog 132 [I n, I lo, I hi] [] Q := Z18w n lo hi Q (hb ▸ hq)
theorem rAm (n lo hi : Int) (b : Bool) (hb : b = decide (lo <= n /\ n <= hi)) (Q) (hq : Q (RA.ret (.v (.bool b))) []) : CallA Tryz.prog 135 [I n, I lo, I hi] [] Q := Z6f n lo hi Q (hb ▸ hq)
def amg (n lo hi : Int) : Bool := decide (lo <= n /\ n <= hi)
def chkW (b : Int) (w : Wk) : Int :=
 if amg w.b 0 (b - 1) = false then 3 else if amg w.lo 1 20 = false then 1 else if amg w.hi 1 20 = false then 1 else if w.hi < w.lo then 5 else 0
def chkWs (b : Int) : List Wk -> Int
 | [] => 0
 | w :: r => if chkW b w = 0 then chkWs b r else chkW b w
def chkT (b : Int) (t : Tk) : Int :=
 if amg t.ready 0 200 = false then 1 else if amg t.due 0 200 = false then 1 else if t.works = [] then 7 else chkWs b t.works
def chkTs (b : Int) : List Tk -> Int
 | [] => 0
 | t :: r => if chkT b t = 0 then chkTs b r else chkT b t
def Za5 (s : Sh) : Int :=
 if amg s.benches 1 3 = false then 1 else if 4 < s.tasks.length then 6 else if chkTs s.benches s.tasks = 0 then (if 8 < Z1cw s.tasks then 6 else 0) else chkTs s.benches s.tasks
theorem drop_at {α : Type} {l : List α} {k : Nat} {x : α} (h : l[k]? = some x) : l.drop k = x :: l.drop (k + 1) := by
 obtain ⟨h1, rfl⟩ := List.getElem?_eq_some_iff.1 h;exact List.drop_eq_getElem_cons h1
section
variable {A : Ar} (hA : A = ar)
 include hA
theorem yoiL {l : List D} {n : Nat} (e : l.length = n) : A.oi (A.len l) = (n : Int) := by subst hA; subst e; rfl
theorem yeqL {l : List D} {n : Nat} {x : Int} (e : l.length = n) (c : A.cmp .eql (A.oi (A.len l)) x = true) : (n : Int) = x := (yoiL hA e).symm.trans (xeq hA c)
theorem yneqL {l : List D} {n : Nat} {x : Int} (e : l.length = n) (c : A.cmp .eql (A.oi (A.len l)) x = false) : (n : Int) ≠ x := fun h => Z2o hA c ((yoiL hA e).trans h)
theorem ygtL {l : List D} {n : Nat} {x : Int} (e : l.length = n) (c : A.cmp .gtr (A.oi (A.len l)) x = true) : x < (n : Int) := (yoiL hA e) ▸ xgt hA c
theorem yngtL {l : List D} {n : Nat} {x : Int} (e : l.length = n) (c : A.cmp .gtr (A.oi (A.len l)) x = false) : (n : Int) <= x := (yoiL hA e) ▸ Zax hA c
theorem xnot {b : Bool} (h : A.bnot b = true) : b = false := by subst hA; simpa [ar] using h
theorem xnnot {b : Bool} (h : A.bnot b = false) : b = true := by subst hA; simpa [ar] using h
end
theorem Z15c {l : List Tk} {B : Nat} (h : ∀ t ∈ l, t.works.length <= B) : ∀ m, Z1cw (l.take m) <= m * B
 | 0 => by simp [Z1cw]
 | m + 1 => by
  have ih := Z15c h m;rw [List.take_add_one, Nat.succ_mul]
  cases e : l[m]? with
  | none => simp only [Option.toList_none, List.append_nil]; omega
  | some t =>
   have := h t (List.mem_of_getElem? e);simp only [Z1cw, List.map_append, List.sum_append, Option.toList_some, List.map_cons, List.map_nil, List.sum_cons, List.sum_nil] at ih ⊢;omega
theorem Z18d (s : Sh) (TL : List D) (hT : TL = s.tasks.map Z14z) (hl : s.tasks.length <= 4) (hw : ∀ t ∈ s.tasks, t.works.length <= 1152921504606846976) (n : Int) (hn : IsI n (Z1cw s.tasks)) (Q) (hq : Q (RA.ret (I n)) []) :
  CallA Tryz.prog 134 [.agg [I s.benches, .sl 3 TL]] [] Q := by
 obtain ⟨A, hA⟩ : ∃ A, A = ar := ⟨_, rfl⟩;have hTl : TL.length = s.tasks.length := by rw [hT]; simp
 refine Z5 Z0 hA Tryz.func134 rfl rfl rfl rfl rfl fun S hS => ?_;cbv;refine Zb hS ?_;refine Za (α := Int × Nat × Int) (fun q => { env := [(1, .b 0 0), (2, I 0), (3, I q.2.2), (7, .sl 3 TL), (8, I (A.oi (A.len TL))), (9, I q.1)], H := [.box (.agg [I s.benches, .sl 3 TL])], nt := 20, dfs := [] })
  (fun q => s.tasks.length - q.2.1) (fun q => q.2.1 <= s.tasks.length /\ IsI q.1 q.2.1 /\ IsI q.2.2 (Z1cw (s.tasks.take q.2.1))) (0, 0, 0) ⟨Nat.zero_le _, ⟨rfl⟩, ⟨rfl⟩⟩ ?_ ?_
 ·exact Zf [0] ⟨by decide, Z9, ⟨rfl, trivial⟩, ⟨rfl, rfl, rfl, rfl, rfl, rfl, trivial⟩, rfl, rfl⟩
 rintro ⟨i, k, x⟩ ⟨u1, u2, u3⟩;dsimp only at u1 u2 u3;refine Zi Z0 hA hS ?_;cbv
 split
 ·rename_i c
  have hk : k < s.tasks.length := Z31 hA hTl u2 c;obtain ⟨t, ht⟩ : ∃ t, t = s.tasks[k] := ⟨_, rfl⟩;have htk : s.tasks[k]? = some t := by rw [ht]; exact List.getElem?_eq_getElem hk
  obtain ⟨WL, hWL⟩ : ∃ WL, WL = t.works.map Z14x := ⟨_, rfl⟩;have hTk : TL[k]? = some (.agg [I t.ready, I t.due, .sl 3 WL]) := by rw [hT]; simp [htk, hWL, Z14z]
  have hs : Z1cw (s.tasks.take (k + 1)) = Z1cw (s.tasks.take k) + WL.length := by
   rw [List.take_add_one, htk]; simp [Z1cw, hWL]
  have hb := Z15c hw (k + 1);have hf : A.fits .i64 (A.add x (A.oi (A.len WL))) := by
   subst hA; exact Zxl (n := x + (WL.length : Int)) (by
    have := u3.eq
    have h4 : (k + 1) * 1152921504606846976 <= 4 * 1152921504606846976 := Nat.mul_le_mul_right _ (by omega)
    omega)
  have hx : IsI (A.add x (A.oi (A.len WL))) (Z1cw (s.tasks.take (k + 1))) := by
   subst hA; exact ⟨by rw [hs, u3.eq]; rfl⟩
  cbv;refine ⟨Z1b hA hTl u2 hk, ⟨_, Z18 hA u2 hTk, ?_⟩⟩;cbv;refine ⟨hf, Zy hA u2 (by omega), ?_⟩;refine Z8 (A.add i 1, k + 1, A.add x (A.oi (A.len WL))) [0] ⟨hk, Zz hA u2, hx⟩ (by simp only; omega) ?_;exact ⟨by decide, Z9, ⟨rfl, trivial⟩, ⟨rfl, rfl, rfl, rfl, rfl, rfl, trivial⟩, rfl, rfl⟩
 ·rename_i c
  have hk : s.tasks.length <= k := Z21 hA hTl u2 c;have hk2 : k = s.tasks.length := by omega
  have hx : x = n := by rw [u3.eq, hn.eq, hk2, List.take_length]
  rw [<- hx] at hq;cbv;refine Z7 ?_;cbv;exact Z2 [] (by decide) Z9 (H' := []) (d' := I x) trivial rfl (Z1 hq)
end Go.Proofs.YthljpccegkmdnaaGreatDoor.Bn

namespace Go.Proofs.YthljpccegkmdnaaGreatDoor.Bn
open Go Go.Abs Go.Proofs
theorem Z16j {b : Int} {l : List Wk} {k : Nat} {w : Wk} (h : l[k]? = some w) : chkWs b (l.drop k) = if chkW b w = 0 then chkWs b (l.drop (k + 1)) else chkW b w := by
 rw [drop_at h]; rfl
set_option maxRecDepth 20000 in
set_option maxHeartbeats 2000000 in
theorem Z17e (b : Int) (hb : 1 <= b /\ b <= 3) (t : Tk) (TL WL : List D) (hW : WL = t.works.map Z14x) (hlen : t.works.length <= 1152921504606846976) (n : Int) (hn : n = chkT b t) (Q) (hq : Q (RA.ret (I n)) []) :
  CallA Tryz.prog 133 [.agg [I b, .sl 3 TL], .agg [I t.ready, I t.due, .sl 3 WL]] [] Q := by
 obtain ⟨A, hA⟩ : ∃ A, A = ar := ⟨_, rfl⟩;have hWl : WL.length = t.works.length := by rw [hW]; simp
 obtain ⟨b1, hb1⟩ : ∃ x, x = decide (0 <= t.ready /\ t.ready <= 200) := ⟨_, rfl⟩;obtain ⟨b2, hb2⟩ : ∃ x, x = decide (0 <= t.due /\ t.due <= 200) := ⟨_, rfl⟩;refine Z5 Z0 hA Tryz.func133 rfl rfl rfl rfl rfl fun S hS => ?_;cbv;refine Z4 hS [I t.ready, I 0, I 200] [] [] rfl rfl rfl rfl rfl rfl rfl rfl (by decide) trivial (Zb9 _ _ _ b1 hb1 _ ?_);refine Z3 Z0 hA hS ?_;cbv
 split
 ·rename_i c1
  have hz : n = 1 := by rw [hn, chkT, amg, <- hb1, if_pos (xnot hA c1)]
  rw [hz] at hq;cbv;refine Zg (f := 0) hS rfl rfl rfl rfl rfl rfl rfl rfl (fun e => Bool.noConfusion e) (fun _ => ?_);refine Z3 Z0 hA hS ?_;cbv;exact Z2 [] (by decide) Z9 (H' := []) (d' := I 1) trivial rfl (Z1 hq)
 rename_i c1
 have d1 := xnnot hA c1;cbv;refine Zg hS rfl rfl rfl rfl rfl rfl rfl rfl (fun _ => ⟨_, _, [I t.due, I 0, I 200], [], [], rfl, rfl, rfl, by decide, trivial, Zb9 _ _ _ b2 hb2 _ ?_⟩) (fun e => absurd rfl e);refine Z3 Z0 hA hS ?_;cbv
 split
 ·rename_i c2
  have hz : n = 1 := by rw [hn, chkT, amg, <- hb1, d1, if_neg (by decide), amg, <- hb2, if_pos (xnot hA c2)]
  rw [hz] at hq;cbv;exact Z2 [] (by decide) Z9 (H' := []) (d' := I 1) trivial rfl (Z1 hq)
 rename_i c2
 have d2 := xnnot hA c2;have hn1 : n = if t.works = [] then 7 else chkWs b t.works := by rw [hn, chkT, amg, <- hb1, d1, if_neg (by decide), amg, <- hb2, d2, if_neg (by decide)]
 cbv
 split
 ·rename_i c3
  have hz : n = 7 := by
   have := yeqL hA hWl c3;rw [hn1, if_pos];exact List.eq_nil_of_length_eq_zero (by omega)
  rw [hz] at hq;cbv;exact Z2 [] (by decide) Z9 (H' := []) (d' := I 7) trivial rfl (Z1 hq)
 rename_i c3
 have hn2 : n = chkWs b (t.works.drop 0) := by
  rw [hn1, if_neg]; rfl;intro e;have := yneqL hA hWl c3;rw [e] at this;exact this rfl
 cbv;refine Zb hS ?_;refine Za (α := Int × Nat) (fun q => { env := [(2, .b 0 0), (3, .b 1 0), (22, .sl 3 WL), (23, I (A.oi (A.len WL))), (24, I q.1)], H := [.box (.agg [I b, .sl 3 TL]), .box (.agg [I t.ready, I t.due, .sl 3 WL])], nt := 58, dfs := [] })
  (fun q => t.works.length - q.2) (fun q => q.2 <= t.works.length /\ IsI q.1 q.2 /\ n = chkWs b (t.works.drop q.2)) (0, 0) ⟨Nat.zero_le _, ⟨rfl⟩, hn2⟩ ?_ ?_
 ·exact Zf [0, 1] ⟨by decide, Z9, ⟨rfl, rfl, trivial⟩, ⟨rfl, rfl, rfl, rfl, rfl, trivial⟩, rfl, rfl⟩
 rintro ⟨i, k⟩ ⟨u1, u2, u3⟩;dsimp only at u1 u2 u3;refine Zi Z0 hA hS ?_;cbv
 split
 ·rename_i c
  have hk : k < t.works.length := Z31 hA hWl u2 c;obtain ⟨w, hw⟩ : ∃ w, w = t.works[k] := ⟨_, rfl⟩;have hwk : t.works[k]? = some w := by rw [hw]; exact List.getElem?_eq_getElem hk
  have hWk : WL[k]? = some (.agg [I w.b, I w.lo, I w.hi]) := by rw [hW]; simp [hwk, Z14x]
  rw [Z16j hwk] at u3;obtain ⟨b3, hb3⟩ : ∃ x, x = decide (0 <= w.b /\ w.b <= b - 1) := ⟨_, rfl⟩;obtain ⟨b4, hb4⟩ : ∃ x, x = decide (1 <= w.lo /\ w.lo <= 20) := ⟨_, rfl⟩;obtain ⟨b5, hb5⟩ : ∃ x, x = decide (1 <= w.hi /\ w.hi <= 20) := ⟨_, rfl⟩;have hb3' : b3 = decide (0 <= w.b /\ w.b <= A.sub b 1) := by rw [Z24 hA]; exact hb3
  have hf : A.fits .i64 (A.sub b 1) := Z14 hA (Z24 hA b 1) (by omega);have hf2 : A.fits .i64 (A.add i 1) ∨ True := .inr trivial;cbv;refine ⟨Z1b hA hWl u2 hk, ⟨_, Z18 hA u2 hWk, ?_⟩⟩;cbv;refine ⟨hf, ?_⟩;refine Z4 hS [I w.b, I 0, I (A.sub b 1)] [] [] rfl rfl rfl rfl rfl rfl rfl rfl (by decide) trivial (Zb9 _ _ _ b3 hb3' _ ?_);refine Z3 Z0 hA hS ?_;cbv
  split
  ·rename_i c4
   have hz : n = 3 := by
    have e : chkW b w = 3 := by rw [chkW, amg, <- hb3, if_pos (xnot hA c4)]
    rw [u3, e]; rfl
   rw [hz] at hq;cbv;refine Z7 ?_;cbv;exact Z2 [] (by decide) Z9 (H' := []) (d' := I 3) trivial rfl (Z1 hq)
  rename_i c4
  have d4 := xnnot hA c4;cbv;refine Z4 hS [I w.lo, I 1, I 20] [] [] rfl rfl rfl rfl rfl rfl rfl rfl (by decide) trivial (Zb9 _ _ _ b4 hb4 _ ?_);refine Z3 Z0 hA hS ?_;cbv
  split
  ·rename_i c5
   have hz : n = 1 := by
    have e : chkW b w = 1 := by rw [chkW, amg, <- hb3, d4, if_neg (by decide), amg, <- hb4, if_pos (xnot hA c5)]
    rw [u3, e]; rfl
   rw [hz] at hq;cbv;refine Zg (f := 0) hS rfl rfl rfl rfl rfl rfl rfl rfl (fun e => Bool.noConfusion e) (fun _ => ?_);refine Z3 Z0 hA hS ?_;cbv;refine Z7 ?_;cbv;exact Z2 [] (by decide) Z9 (H' := []) (d' := I 1) trivial rfl (Z1 hq)
  rename_i c5
  have d5 := xnnot hA c5;cbv;refine Zg hS rfl rfl rfl rfl rfl rfl rfl rfl (fun _ => ⟨_, _, [I w.hi, I 1, I 20], [], [], rfl, rfl, rfl, by decide, trivial, Zb9 _ _ _ b5 hb5 _ ?_⟩) (fun e => absurd rfl e);refine Z3 Z0 hA hS ?_;cbv
  split
  ·rename_i c6
   have hz : n = 1 := by
    have e : chkW b w = 1 := by rw [chkW, amg, <- hb3, d4, if_neg (by decide), amg, <- hb4, d5, if_neg (by decide), amg, <- hb5, if_pos (xnot hA c6)]
    rw [u3, e]; rfl
   rw [hz] at hq;cbv;refine Z7 ?_;cbv;exact Z2 [] (by decide) Z9 (H' := []) (d' := I 1) trivial rfl (Z1 hq)
  rename_i c6
  have d6 := xnnot hA c6;have e6 : chkW b w = if w.hi < w.lo then 5 else 0 := by rw [chkW, amg, <- hb3, d4, if_neg (by decide), amg, <- hb4, d5, if_neg (by decide), amg, <- hb5, d6, if_neg (by decide)]
  cbv
  split
  ·rename_i c7
   have hz : n = 5 := by
    have e : w.hi < w.lo := xgt hA c7;rw [if_pos e] at e6;rw [u3, e6]; rfl
   rw [hz] at hq;cbv;refine Z7 ?_;cbv;exact Z2 [] (by decide) Z9 (H' := []) (d' := I 5) trivial rfl (Z1 hq)
  rename_i c7
  have e7 : chkW b w = 0 := by
   have e : w.lo <= w.hi := Zax hA c7;rw [e6, if_neg (by omega)]
  rw [if_pos e7] at u3;cbv;refine ⟨Zy hA u2 (by have := Z31 hA hWl u2 c; have := hlen; omega), ?_⟩;refine Z8 (A.add i 1, k + 1) [0, 1] ⟨hk, Zz hA u2, u3⟩ (by simp only; omega) ?_;exact ⟨by decide, Z9, ⟨rfl, rfl, trivial⟩, ⟨rfl, rfl, rfl, rfl, rfl, trivial⟩, rfl, rfl⟩
 ·rename_i c
  have hk : t.works.length <= k := Z21 hA hWl u2 c;have hz : n = 0 := by rw [u3, List.drop_eq_nil_of_le hk]; rfl
  rw [hz] at hq;cbv;refine Z7 ?_;cbv;exact Z2 [] (by decide) Z9 (H' := []) (d' := I 0) trivial rfl (Z1 hq)
end Go.Proofs.YthljpccegkmdnaaGreatDoor.Bn

namespace Go.Proofs.YthljpccegkmdnaaGreatDoor.Bn
open Go Go.Abs Go.Proofs
theorem Z16k {b : Int} {l : List Tk} {k : Nat} {t : Tk} (h : l[k]? = some t) : chkTs b (l.drop k) = if chkT b t = 0 then chkTs b (l.drop (k + 1)) else chkT b t := by
 rw [drop_at h]; rfl
def Fin (s : Sh) : Prop := s.tasks.length <= 1152921504606846976 /\ ∀ t ∈ s.tasks, t.works.length <= 1152921504606846976
set_option maxRecDepth 20000 in
set_option maxHeartbeats 2000000 in
theorem bCheck (s : Sh) (hs : Fin s) (TL : List D) (hT : TL = s.tasks.map Z14z) (n : Int) (hn : n = Za5 s) (Q) (hq : Q (RA.ret (I n)) []) :
  CallA Tryz.prog 93 [.agg [I s.benches, .sl 3 TL]] [] Q := by
 obtain ⟨A, hA⟩ : ∃ A, A = ar := ⟨_, rfl⟩;have hTl : TL.length = s.tasks.length := by rw [hT]; simp
 obtain ⟨b1, hb1⟩ : ∃ x, x = decide (1 <= s.benches /\ s.benches <= 3) := ⟨_, rfl⟩;refine Z5 Z0 hA Tryz.func93 rfl rfl rfl rfl rfl fun S hS => ?_;cbv;refine Z4 hS [I s.benches, I 1, I 3] [] [] rfl rfl rfl rfl rfl rfl rfl rfl (by decide) trivial (Zb9 _ _ _ b1 hb1 _ ?_);refine Z3 Z0 hA hS ?_;cbv
 split
 ·rename_i c1
  have hz : n = 1 := by rw [hn, Za5, amg, <- hb1, if_pos (xnot hA c1)]
  rw [hz] at hq;cbv;exact Z2 [] (by decide) Z9 (H' := []) (d' := I 1) trivial rfl (Z1 hq)
 rename_i c1
 have d1 := xnnot hA c1;have hbb : 1 <= s.benches /\ s.benches <= 3 := by rw [d1] at hb1; exact of_decide_eq_true hb1.symm
 have hn1 : n = if 4 < s.tasks.length then 6 else if chkTs s.benches s.tasks = 0 then (if 8 < Z1cw s.tasks then 6 else 0) else chkTs s.benches s.tasks := by
  rw [hn, Za5, amg, <- hb1, d1, if_neg (by decide)]
 cbv
 split
 ·rename_i c2
  have hz : n = 6 := by have := ygtL hA hTl c2; rw [hn1, if_pos (by omega)]
  rw [hz] at hq;cbv;exact Z2 [] (by decide) Z9 (H' := []) (d' := I 6) trivial rfl (Z1 hq)
 rename_i c2
 have h4 : s.tasks.length <= 4 := by have := yngtL hA hTl c2; omega
 rw [if_neg (by omega)] at hn1;obtain ⟨z, hz⟩ : ∃ z : Int, z = if 8 < Z1cw s.tasks then 6 else 0 := ⟨_, rfl⟩
 rw [<- hz] at hn1;cbv;refine Zb hS ?_;refine Za (α := Int × Nat) (fun q => { env := [(1, .b 0 0), (15, .sl 3 TL), (16, I (A.oi (A.len TL))), (17, I q.1)], H := [.box (.agg [I s.benches, .sl 3 TL])], nt := 31, dfs := [] })
  (fun q => s.tasks.length - q.2) (fun q => q.2 <= s.tasks.length /\ IsI q.1 q.2 /\ n = if chkTs s.benches (s.tasks.drop q.2) = 0 then z else chkTs s.benches (s.tasks.drop q.2)) (0, 0) ⟨Nat.zero_le _, ⟨rfl⟩, hn1⟩ ?_ ?_
 ·exact Zf [0] ⟨by decide, Z9, ⟨rfl, trivial⟩, ⟨rfl, rfl, rfl, rfl, trivial⟩, rfl, rfl⟩
 rintro ⟨i, k⟩ ⟨u1, u2, u3⟩;dsimp only at u1 u2 u3;refine Zi Z0 hA hS ?_;cbv
 split
 ·rename_i c
  have hk : k < s.tasks.length := Z31 hA hTl u2 c;obtain ⟨t, ht⟩ : ∃ t, t = s.tasks[k] := ⟨_, rfl⟩;have htk : s.tasks[k]? = some t := by rw [ht]; exact List.getElem?_eq_getElem hk
  have htm := List.mem_of_getElem? htk;obtain ⟨WL, hWL⟩ : ∃ WL, WL = t.works.map Z14x := ⟨_, rfl⟩;have hTk : TL[k]? = some (.agg [I t.ready, I t.due, .sl 3 WL]) := by rw [hT]; simp [htk, hWL, Z14z]
  rw [Z16k htk] at u3;obtain ⟨e, he⟩ : ∃ e, e = chkT s.benches t := ⟨_, rfl⟩;rw [<- he] at u3;cbv;refine ⟨Z1b hA hTl u2 hk, ⟨_, Z18 hA u2 hTk, ?_⟩⟩;cbv;refine Z4 hS [.agg [I s.benches, .sl 3 TL], .agg [I t.ready, I t.due, .sl 3 WL]] [] [] rfl rfl rfl rfl rfl rfl rfl rfl (by decide) trivial (Z17e _ hbb t TL WL hWL (hs.2 t htm) e he _ ?_);refine Z3 Z0 hA hS ?_;cbv
  split
  ·rename_i c3
   have e3 := xne hA c3;have hz : n = e := by rw [u3, if_neg e3, if_neg e3]
   rw [hz] at hq;cbv;refine Z7 ?_;cbv;exact Z2 [] (by decide) Z9 (H' := []) (d' := I e) trivial rfl (Z1 hq)
  rename_i c3
  have e3 : e = 0 := Z4t hA c3;rw [if_pos e3] at u3;cbv;refine ⟨Zy hA u2 (by omega), ?_⟩;refine Z8 (A.add i 1, k + 1) [0] ⟨hk, Zz hA u2, u3⟩ (by simp only; omega) ?_;exact ⟨by decide, Z9, ⟨rfl, trivial⟩, ⟨rfl, rfl, rfl, rfl, trivial⟩, rfl, rfl⟩
 ·rename_i c
  have hk : s.tasks.length <= k := Z21 hA hTl u2 c;rw [List.drop_eq_nil_of_le hk] at u3;have u4 : n = z := u3;obtain ⟨nw, hnw⟩ : ∃ x, IsI x (Z1cw s.tasks) := ⟨_, ⟨rfl⟩⟩;cbv;refine Z7 ?_;cbv;refine Z4 hS [.agg [I s.benches, .sl 3 TL]] [] [] rfl rfl rfl rfl rfl rfl rfl rfl (by decide) trivial (Z18d s TL hT h4 hs.2 nw hnw _ ?_);refine Z3 Z0 hA hS ?_;cbv
  split
  ·rename_i c5
   have e5 := xgt hA c5;have hw := hnw.eq;rw [if_pos (by omega)] at hz;rw [u4, hz] at hq;cbv;exact Z2 [] (by decide) Z9 (H' := []) (d' := I 6) trivial rfl (Z1 hq)
  ·rename_i c5
   have e5 := Zax hA c5;have hw := hnw.eq;rw [if_neg (by omega)] at hz;rw [u4, hz] at hq;cbv;exact Z2 [] (by decide) Z9 (H' := []) (d' := I 0) trivial rfl (Z1 hq)
end Go.Proofs.YthljpccegkmdnaaGreatDoor.Bn

namespace Go.Proofs.YthljpccegkmdnaaGreatDoor
open Go Go.Abs Go.Proofs
open Bn (Sl Sh Tk Wk Z14v Z14z Z14x Fin)
open Go.ChangeShapes Go.WideShapes Go.RowKit
section
variable {H : Type} {enc : TypeId × Value -> H} {W : World} {hk : KnowW W} {base : Nat} {spare : Nat -> Bool} {held : Bool}
theorem Zlc {P : Program} {e : TypeId} : ∀ {l : List (DataW H)} {d : DataW H}, d ∈ l -> ∀ n ∈ d.weights P e, n ∈ DataW.weightsAll P e l
 | x :: l, d, hd, n, hn => by
  simp only [DataW.weightsAll, List.mem_append];rcases List.mem_cons.1 hd with rfl | hd
  ·exact .inl hn
  ·exact .inr (Zlc hd n hn)
theorem Zdp {P : Program} : ∀ {ts : List TypeId} {l : List (DataW H)} {j : Nat} {t : TypeId} {d : DataW H}, ts[j]? = some t -> l[j]? = some d -> ∀ n ∈ d.weights P t, n ∈ DataW.weightsEach P ts l := fun h1 h2 => DataW.weights_mem_each h1 h2
def Zld (t : TypeId) (d : DataW H) : Prop := ∀ n ∈ d.weights Tryz.prog t, n <= reachBytes
structure RdL (W : World) (hk : KnowW W) (cs : List Value) (ds : List D) : Prop where
 len : ds.length = cs.length
 cel : ∀ (r : Nat) (c : D), ds[r]? = some c -> ∃ v, cs[r]? = some v /\ v.oneCell' = true /\ CR (fzW W hk) c v
theorem RdL.app {cs cs' : List Value} {ds ds' : List D} (h : RdL W hk cs ds) (h' : RdL W hk cs' ds') : RdL W hk (cs ++ cs') (ds ++ ds') := ⟨by simp [h.len, h'.len], fun r c hc => by
 by_cases hr : r < ds.length
 ·rw [List.getElem?_append_left hr] at hc
  obtain ⟨v, h1, h2⟩ := h.cel r c hc
  exact ⟨v, by rw [List.getElem?_append_left (by rw [<- h.len]; exact hr)]; exact h1, h2⟩
 ·rw [List.getElem?_append_right (by omega)] at hc
  obtain ⟨v, h1, h2⟩ := h'.cel _ c hc
  exact ⟨v, by rw [List.getElem?_append_right (by rw [<- h.len]; omega), <- h.len]; exact h1, h2⟩⟩
theorem RdL.int (n : Int) : RdL W hk [.int .i64 n] [I n] := ⟨rfl, fun r c hc => by
 match r, hc with
 | 0, hc => simp at hc; subst hc; exact ⟨_, rfl, rfl, .v _ rfl⟩
 | r + 1, hc => simp at hc⟩
theorem RdL.one {v : Value} {d : D} (h1 : v.oneCell' = true) (h2 : CR (fzW W hk) d v) : RdL W hk [v] [d] := ⟨rfl, fun r c hc => by
 match r, hc with
 | 0, hc => simp at hc; subst hc; exact ⟨_, rfl, h1, h2⟩
 | r + 1, hc => simp at hc⟩
theorem Zle {t e : TypeId} {sz : Nat} (ht : Tryz.prog.underlying t = some (.slice e)) (hc : Tryz.prog.cellsOf e = sz) (hsz : 0 < sz) (hby : 0 < Tryz.prog.bytesOf e) {α : Type} (f : α -> D) (Pr : α -> Prop)
  (hel : ∀ n cs' x, DataW.trod enc Tryz.prog W base spare held n e cs' = some x -> Zld e x.1 -> ∃ a, RdL W hk cs' (f a).cells /\ Pr a) {fuel : Nat} {cs : List Value} {x : DataW H × List MemPlace}
  (h : DataW.trod enc Tryz.prog W base spare held fuel t cs = some x) (hw : Zld t x.1) : ∃ v l, cs = [v] /\ v.oneCell' = true /\ CR (fzW W hk) (.sl sz (List.map f l)) v /\ (∀ a ∈ l, Pr a) /\ l.length <= reachBytes := by
 rcases Go.Deep.open_slice ht h with ⟨rfl, rfl⟩ | ⟨a, len, cap, m, n, Dt, Pl, rfl, hb, hl, hm, hmm, rfl, hx⟩
 ·exact ⟨_, [], rfl, rfl, .slE _ _ _, fun a h => by simp at h, by simp⟩
 have hlm : len <= m := by rw [hmm]; split <;> omega
 have hlen : len <= reachBytes := by
  have := hw ((((List.range len).map Dt).length + ((List.range (m - len)).map fun j => Dt (len + j)).length) * Tryz.prog.bytesOf e) (by simp only [DataW.weights, ht]; exact List.mem_cons_self);simp only [List.length_map, List.length_range] at this;have h2 : (len + (m - len)) * 1 <= (len + (m - len)) * Tryz.prog.bytesOf e := Nat.mul_le_mul_left _ hby;omega
 have hlite : ∀ i, i < len -> Zld e (Dt i) := fun i hi n hn => hw n (by
  simp only [DataW.weights, ht]
  exact List.mem_cons_of_mem _ (List.mem_append_left _ (Zlc (List.mem_map.2 ⟨i, List.mem_range.2 hi, rfl⟩) n hn)))
 have each : ∀ i : _root_.Fin len, ∃ y : α × List Value, (∀ r, r < sz -> W.cell? ((a.add (i.1 * sz)).add r) = y.2[r]?) /\ y.2.length = sz /\ RdL W hk y.2 (f y.1).cells /\ Pr y.1 := fun i => by
  obtain ⟨cs', h1, h2⟩ := hx i.1 (by have := i.2; omega);obtain ⟨q, hq1, hq2⟩ := hel n cs' _ h2 (hlite i.1 i.2);rw [hc] at h1;obtain ⟨-, h4, h5⟩ := World.cells?_some h1;exact ⟨(q, cs'), h5, h4, hq1, hq2⟩
 let l : List α := (List.finRange len).map fun i => (Classical.choose (each i)).1
 have hget : ∀ j q, l[j]? = some q -> ∃ hj : j < len, q = (Classical.choose (each ⟨j, hj⟩)).1 := fun j q hj => by
  simp only [l, List.getElem?_map, Option.map_eq_some_iff] at hj;obtain ⟨r, hr, rfl⟩ := hj;obtain ⟨g1, g2⟩ := List.getElem?_eq_some_iff.1 hr;simp only [List.length_finRange] at g1;refine ⟨g1, ?_⟩;have : r = ⟨j, g1⟩ := by rw [<- g2]; simp
  rw [this]
 have hll : l.length = len := by simp [l]
 refine ⟨_, l, rfl, rfl, ?_, fun q hq => ?_, by rw [hll]; exact hlen⟩
 ·cases hle : len with
  | zero =>
   have : l = [] := List.eq_nil_of_length_eq_zero (by omega);rw [this]; exact .slE _ _ _
  | succ k =>
   have h0 : 0 < len := by omega
   obtain ⟨g1, g2, g3, -⟩ := Classical.choose_spec (each ⟨0, h0⟩);have hsp : a.spot = none := by
    have := g1 0 hsz;rw [List.getElem?_eq_getElem (by omega)] at this;simp only [Nat.zero_mul, Addr.add, if_true, World.cell?] at this
    split at this
    ·split at this
     ·cases this
     ·rename_i hs; simpa using hs
    ·cases this
   obtain ⟨b, o, sp⟩ := a;simp only at hsp;subst hsp;have cell : ∀ i (hi : i < len) r, r < sz -> W.cell? ⟨b, o + i * sz + r, none⟩ = (Classical.choose (each ⟨i, hi⟩)).2[r]? := fun i hi r hr => by
    have e : ((⟨b, o, none⟩ : Addr).add (i * sz)).add r = ⟨b, o + i * sz + r, none⟩ := by rw [add_lit, add_lit]
    have := (Classical.choose_spec (each ⟨i, hi⟩)).1 r hr;exact (congrArg W.cell? e).symm.trans this
   have fin := CR.sl (F := fzW W hk) sz (l.map f) b o cap (fun i r => (W.cell? ⟨b, o + i * sz + r, none⟩).getD undef) (by rw [List.length_map, hll]; omega)
    (fun i e he => by
     rw [List.getElem?_map] at he
     obtain ⟨q, hq, rfl⟩ := Option.map_eq_some_iff.1 he
     obtain ⟨hi, rfl⟩ := hget i q hq
     obtain ⟨-, k2, k3, -⟩ := Classical.choose_spec (each ⟨i, hi⟩)
     rw [k3.len, k2])
    (fun i e r c he hcc => by
     rw [List.getElem?_map] at he
     obtain ⟨q, hq, rfl⟩ := Option.map_eq_some_iff.1 he
     obtain ⟨hi, rfl⟩ := hget i q hq
     obtain ⟨-, k2, k3, -⟩ := Classical.choose_spec (each ⟨i, hi⟩)
     obtain ⟨v, v1, v2, v3⟩ := k3.cel r c hcc
     have hr : r < sz := by have := (List.getElem?_eq_some_iff.1 v1).1; omega
     have := cell i hi r hr
     rw [v1] at this
     show fzW W hk b _ = _ /\ _
     simp only [fzW, this, Option.getD_some]
     exact ⟨trivial, v2⟩)
    (fun i e r c he hcc => by
     rw [List.getElem?_map] at he
     obtain ⟨q, hq, rfl⟩ := Option.map_eq_some_iff.1 he
     obtain ⟨hi, rfl⟩ := hget i q hq
     obtain ⟨-, k2, k3, -⟩ := Classical.choose_spec (each ⟨i, hi⟩)
     obtain ⟨v, v1, v2, v3⟩ := k3.cel r c hcc
     have hr : r < sz := by have := (List.getElem?_eq_some_iff.1 v1).1; omega
     have := cell i hi r hr
     rw [v1] at this
     simp only [this, Option.getD_some]
     exact v3)
   rw [List.length_map, hll, hle] at fin;exact fin
 ·obtain ⟨j, hj⟩ := List.mem_iff_getElem?.1 hq;obtain ⟨hi, rfl⟩ := hget j q hj;exact (Classical.choose_spec (each ⟨j, hi⟩)).2.2.2
set_option maxRecDepth 100000 in
theorem Ztn {n : Nat} {cs : List Value} {x : DataW H × List MemPlace} (h : DataW.trod enc Tryz.prog W base spare held n 28 cs = some x) : ∃ lo hi, RdL W hk cs [I lo, I hi] := by
 obtain ⟨xs, k, -, -, hl, hxl, hf⟩ := DataW.trod_struct Tryz.underlying28 h;have c48 : Tryz.prog.cellsOf 28 = 2 := by kernel_rfl
 have c3 : Tryz.prog.cellsOf 3 = 1 := Zj7;rw [c48] at hl
 match cs, hl, xs, hxl with
 | [v0, v1], _, [y0, y1], _ =>
  have g0 := hf 0 _ rfl;have g1 := hf 1 _ rfl;simp [c3] at g0 g1;obtain ⟨a, ha, -⟩ := DataW.trod_int Tryz.underlying3 g0;obtain ⟨b, hb, -⟩ := DataW.trod_int Tryz.underlying3 g1
  cases ha; cases hb
  exact ⟨a, b, (RdL.int a).app (RdL.int b)⟩
set_option maxRecDepth 100000 in
theorem Z1dy {n : Nat} {cs : List Value} {x : DataW H × List MemPlace} (h : DataW.trod enc Tryz.prog W base spare held n 58 cs = some x) : ∃ w : Wk, RdL W hk cs (Z14x w).cells := by
 obtain ⟨xs, k, -, -, hl, hxl, hf⟩ := DataW.trod_struct Tryz.underlying58 h;have c57 : Tryz.prog.cellsOf 58 = 3 := by kernel_rfl
 have c48 : Tryz.prog.cellsOf 28 = 2 := by kernel_rfl
 have c3 : Tryz.prog.cellsOf 3 = 1 := Zj7;rw [c57] at hl
 match cs, hl, xs, hxl with
 | [v0, v1, v2], _, [y0, y1], _ =>
  have g0 := hf 0 _ rfl;have g1 := hf 1 _ rfl;simp [c3, c48] at g0 g1;obtain ⟨a, ha, -⟩ := DataW.trod_int Tryz.underlying3 g0;obtain ⟨lo, hi, hr⟩ := Ztn g1
  cases ha
  exact ⟨⟨a, lo, hi⟩, (RdL.int a).app hr⟩
set_option maxRecDepth 100000 in
theorem Z1dz {n : Nat} {cs : List Value} {x : DataW H × List MemPlace} (h : DataW.trod enc Tryz.prog W base spare held n 61 cs = some x) (hw : Zld 61 x.1) : ∃ t : Tk, RdL W hk cs (Z14z t).cells /\ t.works.length <= reachBytes := by
 obtain ⟨xs, k, -, hx, hl, hxl, hf⟩ := DataW.trod_struct Tryz.underlying61 h;have c55 : Tryz.prog.cellsOf 61 = 3 := by kernel_rfl
 have c53 : Tryz.prog.cellsOf 59 = 1 := by kernel_rfl
 have c3 : Tryz.prog.cellsOf 3 = 1 := Zj7;rw [c55] at hl;subst hx
 match cs, hl, xs, hxl, hw with
 | [v0, v1, v2], _, [y0, y1, y2], _, hw =>
  have g0 := hf 0 _ rfl;have g1 := hf 1 _ rfl;have g2 := hf 2 _ rfl;simp [c3, c53] at g0 g1 g2;obtain ⟨a, ha, -⟩ := DataW.trod_int Tryz.underlying3 g0;obtain ⟨b, hb, -⟩ := DataW.trod_int Tryz.underlying3 g1;have hw2 : Zld 59 y2.1 := fun n hn => hw n (by
   simp only [DataW.weights, Tryz.underlying61]
   exact Zdp (j := 2) rfl rfl n hn)
  obtain ⟨v, l, hv, v1, v2, -, v4⟩ := Zle (hk := hk) (e := 58) (sz := 3) Tryz.underlying59 (by kernel_rfl) (by decide) (of_decide_eq_true (by kernel_rfl)) Z14x (fun _ => True) (fun n cs' x h _ => let ⟨w, hw⟩ := Z1dy (hk := hk) h; ⟨w, hw, trivial⟩) g2 hw2
  cases ha; cases hb; cases hv
  exact ⟨⟨a, b, l⟩, ((RdL.int a).app (RdL.int b)).app (RdL.one v1 v2), v4⟩
set_option maxRecDepth 100000 in
theorem Z1e0 {n : Nat} {cs : List Value} {x : DataW H × List MemPlace} (h : DataW.trod enc Tryz.prog W base spare held n 64 cs = some x) (hw : Zld 64 x.1) : ∃ s : Sh, RdL W hk cs [I s.benches, .sl 3 (s.tasks.map Z14z)] /\ Fin s := by
 obtain ⟨xs, k, -, hx, hl, hxl, hf⟩ := DataW.trod_struct Tryz.underlying64 h;have c24 : Tryz.prog.cellsOf 64 = 2 := by kernel_rfl
 have c22 : Tryz.prog.cellsOf 62 = 1 := by kernel_rfl
 have c3 : Tryz.prog.cellsOf 3 = 1 := Zj7;rw [c24] at hl;subst hx
 match cs, hl, xs, hxl, hw with
 | [v0, v1], _, [y0, y1], _, hw =>
  have g0 := hf 0 _ rfl;have g1 := hf 1 _ rfl;simp [c3, c22] at g0 g1;obtain ⟨a, ha, -⟩ := DataW.trod_int Tryz.underlying3 g0;have hw2 : Zld 62 y1.1 := fun n hn => hw n (by
   simp only [DataW.weights, Tryz.underlying64]
   exact Zdp (j := 1) rfl rfl n hn)
  obtain ⟨v, l, hv, v1, v2, v3, v4⟩ := Zle (hk := hk) (e := 61) (sz := 3) Tryz.underlying62 (by kernel_rfl) (by decide) (of_decide_eq_true (by kernel_rfl)) Z14z (fun t => t.works.length <= reachBytes) (fun n cs' x h hw => Z1dz h hw) g1 hw2
  cases ha; cases hv
  have hb : reachBytes <= 1152921504606846976 := Nat.le_of_ble_eq_true rfl;exact ⟨⟨a, l⟩, (RdL.int a).app (RdL.one v1 v2), by show l.length <= _; omega, fun t ht => by have := v3 t ht; omega⟩
set_option maxRecDepth 100000 in
theorem Z1e1 {v : Value} {d : DataW H} {ps : List MemPlace} {b0 : Nat} (hval : Value.okWide Tryz.prog W .any b0 64 v) (h : DataW.Trod enc Tryz.prog W base spare held 64 v d ps) (hw : Zld 64 d) :
  ∃ s : Sh, Fin s /\ VR (fzW W hk) mu0 (.agg [I s.benches, .sl 3 (s.tasks.map Z14z)]) v := by
 obtain ⟨fuel, hf⟩ := h;obtain ⟨s, h1, h2⟩ := Z1e0 hf hw;have ha : ∃ cs, v = .agg cs := by
  unfold Value.okWide at hval;rw [Tryz.underlying64] at hval;obtain ⟨cs, h, -⟩ := hval;exact ⟨cs, h⟩
 obtain ⟨cs, rfl⟩ := ha;have hl := h1.len;simp only [Value.cells, Array.length_toList] at hl;refine ⟨s, h2, .cl _ _ (.agg _ _ hl (fun i c v hc hv => ?_) (fun i v hv => ?_))⟩
 ·obtain ⟨v', g1, g2, g3⟩ := h1.cel i c hc;simp only [Value.cells, Array.getElem?_toList] at g1;rw [hv] at g1; cases g1; exact g3
 ·have hi : i < 2 := by have := (Array.getElem?_eq_some_iff.1 hv).1; simp at hl; omega
  obtain ⟨v', g1, g2, g3⟩ := h1.cel i _ (List.getElem?_eq_getElem (by simpa using hi));simp only [Value.cells, Array.getElem?_toList] at g1;rw [hv] at g1; cases g1; exact g2
end
end Go.Proofs.YthljpccegkmdnaaGreatDoor

namespace Go.Proofs.YthljpccegkmdnaaGreatDoor
open Go Go.Abs Go.Proofs
open Bn (Sl Sh Tk Wk Z14v Z14z Z14x Fin)
open Go.ChangeShapes Go.WideShapes Go.RowKit
theorem Zhx {H : Type} {enc : TypeId × Value -> H} {W W' : World} (hb : Below W.heap.size W W') : ∀ (ts : List TypeId) (vs : List Value) (ds : List (DataW H)) (p : List MemPlace), (∀ t ∈ ts, Tryz.prog.readableRec t = true /\ t < Tryz.prog.types.size) -> (∀ x ∈ p, x.block < W.heap.size) ->
  DataW.TrodAll enc Tryz.prog W 0 (fun _ => true) true ts vs ds p -> DataW.TrodAll enc Tryz.prog W' 0 (fun b => decide (b < W.heap.size)) true ts vs ds p
 | [], [], [], p, _, _, h => h
 | t :: ts, v :: vs, d :: ds, p, ht, hp, h => by
  obtain ⟨p1, q1, h1, h2, rfl⟩ := h;have hh := ht t List.mem_cons_self;exact ⟨p1, q1, Below.trod Zvv hh.1 hh.2 h1 hb (fun x hx => hp x (List.mem_append_left _ hx)), Zhx hb ts vs ds q1 (fun t ht' => ht t (List.mem_cons_of_mem _ ht')) (fun x hx => hp x (List.mem_append_right _ hx)) h2, rfl⟩
 | [], _ :: _, _, _, _, _, h => by cases h
 | [], [], _ :: _, _, _, _, h => by cases h
 | _ :: _, [], _, _, _, _, h => by cases h
 | _ :: _, _ :: _, [], _, _, _, h => by cases h
theorem Ze8 {H : Type} {enc : TypeId × Value -> H} {P : Program} {w : World} {base : Nat} {spare : Nat -> Bool} {held : Bool} : ∀ (ts : List TypeId) (vs : List Value) (ds : List (DataW H)) (p : List MemPlace), DataW.TrodAll enc P w base spare held ts vs ds p -> vs.length = ts.length /\ ds.length = ts.length
 | [], [], [], _, _ => ⟨rfl, rfl⟩
 | t :: ts, v :: vs, d :: ds, _, h => by
  obtain ⟨p1, q1, h1, h2, -⟩ := h;obtain ⟨e1, e2⟩ := Ze8 ts vs ds q1 h2;exact ⟨by simp [e1], by simp [e2]⟩
 | [], _ :: _, _, _, h => by cases h
 | [], [], _ :: _, _, h => by cases h
 | _ :: _, [], _, _, h => by cases h
 | _ :: _, _ :: _, [], _, h => by cases h
def Zlf (fnum : FuncId) (ts : List TypeId) : Prop := ∀ {H : Type} {enc : TypeId × Value -> H} {W : World} {hk : KnowW W} {base : Nat} (vs : List Value) (ds : List (DataW H)) (p : List MemPlace), DataW.TrodAll enc Tryz.prog W 0 (fun _ => true) true ts vs ds p ->
 (∀ (j : Nat) t v, ts[j]? = some t -> vs[j]? = some v -> Value.okWide Tryz.prog W .any base t v) -> (∀ (j : Nat) t d, ts[j]? = some t -> ds[j]? = some d -> Zld t d) ->
 ∃ Ls : List D, Ls.length = vs.length /\ (∀ (i : Nat) (d : D) (v : Value), Ls[i]? = some d -> vs[i]? = some v -> VR (fzW W hk) mu0 d v) /\ ∀ Q, Q (RA.ret (.v (.bool true))) [] -> CallA Tryz.prog fnum Ls [] Q
set_option maxRecDepth 100000 in
theorem Ztp {fnum : FuncId} {fd : Func} {s : ChangeSpec} (ts : List TypeId) (hvars : s.vars = []) (hfn : ∀ (H : Type) (ds : List (DataW H)), ds.length = ts.length -> s.fn H (ds ++ []) = { results := [.lit (.bool true)], args := ds }) (hp : fd.params.toList = ts) (hrt : fd.resultTypes = #[4])
  (hts : ∀ t ∈ ts, Tryz.prog.readableRec t = true /\ t < Tryz.prog.types.size) (run : Zlf fnum ts)
  {H : Type} {enc : TypeId × Value -> H} {W : World} (hk : KnowW W) {base : Nat} {args : Array Value} {ds gs : List (DataW H)} {before : List MemPlace}
  (hval0 : ∀ (j : Nat) t v, fd.params[j]? = some t -> args[j]? = some v -> Value.okWide Tryz.prog W .any base t v) (hW : DataW.Whole enc Tryz.prog fd.params.toList s.vars false W args.toList ds gs before)
  (hsz : (DataW.weightsEach Tryz.prog (fd.params.toList ++ s.plain.varTypes Tryz.prog) (ds ++ gs)).all (· <= reachBytes) = true) :
  Calls Tryz.prog fnum args W fun e W' => ∃ v, e = .returned v /\ s.post enc Tryz.prog fd false true false false W args v W' := by
 have hW' := hW;obtain ⟨p, q, hA0, hV0, rfl, hfz, hnd⟩ := hW;have hA : DataW.TrodAll enc Tryz.prog W 0 (fun _ => true) true ts args.toList ds p := by rw [<- hp]; exact hA0
 obtain ⟨hlv, hld⟩ := Ze8 _ _ _ _ hA;have hV : DataW.TrodVars enc Tryz.prog W (fun _ => true) [] gs q := by rw [<- hvars]; exact hV0
 obtain ⟨rfl, rfl⟩ : gs = [] /\ q = [] := by
  cases gs with
  | nil => exact ⟨rfl, hV⟩
  | cons g r => exact absurd hV (by intro h; cases h)
 obtain ⟨Ls, l1, l2, l3⟩ := run args.toList ds p hA (fun j t v ht hv => hval0 j t v (by rw [<- hp] at ht; simpa using ht) (by simpa using hv)) (fun j t d ht hd n hn => by
  have := List.all_eq_true.1 hsz n (Zdp (j := j) (by rw [hp, List.getElem?_append_left (List.getElem?_eq_some_iff.1 ht).1]; exact ht) (by rw [List.getElem?_append_left (List.getElem?_eq_some_iff.1 hd).1]; exact hd) n hn)
  simpa using this)
 have hc := (l3 (fun x H' => x = .ret (.v (.bool true)) /\ H' = []) ⟨rfl, rfl⟩).out (fzW W hk) mu0 args W (hr0 W hk) (by rw [l1]; simp) (fun i d v hd hv' => l2 i d v hd (by simpa using hv'));refine (hc.calls (fun k => Zu5 none k)).mono fun e W' he => ?_
 cases e with
 | panicked ch => obtain ⟨_, _, _, _, _, _, _, _, h, _⟩ := he; cases h
 | outgrown => exact he.elim
 | returned v =>
  obtain ⟨F', μ', H', d, hs, hvr, hd, -⟩ := he
  cases hd
  obtain rfl := hvr.v_inv;have hb : Below W.heap.size W W' := ⟨hs.post.os, hs.post.tape, hs.post.output, hs.post.size, fun k hk => (hs.post.keep k hk (Zvt W k)).1⟩;have e1 := hfn H ds hld;refine ⟨_, rfl, ds, [], p ++ [], [], p, [], hW', ?_, ?_, ?_, ?_, fun h => by cases h⟩
  ·rw [e1, hrt]; exact trodAll_mk1 (shut_bool Tryz.underlying4 true)
  ·rw [e1, hp];exact Zhx hb ts _ _ _ hts (fun x hx => hW'.lt x (List.mem_append_left _ hx)) hA
  ·rw [e1, hvars]; rfl
  ·exact ⟨hb.os, hb.output, fun i hi => by
    rw [hb.block i hi]
    cases W.heap[i]? with
    | none => rfl
    | some o => cases o <;> first | rfl | exact ⟨rfl, rfl, rfl, fun _ _ => rfl⟩ | exact Or.inr ⟨rfl, rfl⟩⟩
end Go.Proofs.YthljpccegkmdnaaGreatDoor
