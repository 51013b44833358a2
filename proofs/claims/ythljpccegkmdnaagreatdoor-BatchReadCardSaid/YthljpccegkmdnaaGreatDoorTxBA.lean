/- Part TxBA of the proofs about the benches of the accordion maker: see the last text of the claim for what is proved. -/
import Derived.Test.YthljpccegkmdnaaGreatDoorTxAZ
set_option linter.unusedVariables false
set_option linter.unusedSimpArgs false
set_option linter.unnecessarySimpa false
set_option linter.constructorNameAsVariable false

namespace Go.Proofs.YthljpccegkmdnaaGreatDoor
open Go Go.Abs Go.Proofs Go.Batch
def Z88 (j : Jn) (x y : Int) (k : Nat) : List Nat := (List.range k).filter (Z71 j x y)
theorem Zhj (j : Jn) (x y : Int) (k : Nat) : Z88 j x y (k + 1) = if Z71 j x y k = true then Z88 j x y k ++ [k] else Z88 j x y k := by
 unfold Z88;rw [List.range_succ, List.filter_append]
 by_cases h : Z71 j x y k = true <;> simp [List.filter_cons, h]
theorem Zl3 (j : Jn) (x y : Int) (k : Nat) : (Z88 j x y k).length <= k := by
 have := List.length_filter_le (Z71 j x y) (List.range k);rw [List.length_range] at this; exact this
def Zj2 (x y : Int) (s : Ste Int) : Bool := allB s.2 x && Ziu s.2 y == 0
set_option maxRecDepth 20000 in
set_option maxHeartbeats 8000000 in
theorem Zqf (j : Jn) (hf : j.first.length <= 1152921504606846976) (hm : j.moves.length <= 1152921504606846976) (bad good : List Int) (hbl : bad.length <= 1152921504606846976) (hgl : good.length <= 1152921504606846976)
  (FL ML XL YL : List D) (hF : FL = j.first.map Zv) (hM : ML = j.moves.map mvD) (hX : XL = bad.map I) (hY : YL = good.map I) (Q)
  (he : ∀ e, e = Zr j -> e ≠ 0 -> Q (RA.ret (.tup [.v (.slice none 0 0), I e])) []) (hx : JOk j -> ∀ e, e = Z44 j.ins bad -> e ≠ 0 -> Q (RA.ret (.tup [.v (.slice none 0 0), I e])) [])
  (hy : JOk j -> Z44 j.ins bad = 0 -> ∀ e, e = Z44 j.ins good -> e ≠ 0 -> Q (RA.ret (.tup [.v (.slice none 0 0), I e])) [])
  (hp : JOk j -> Z44 j.ins bad = 0 -> Z44 j.ins good = 0 -> Zc j = false -> Q (RA.ret (.tup [.v (.slice none 0 0), I 9])) [])
  (hn : JOk j -> Z44 j.ins bad = 0 -> Z44 j.ins good = 0 -> Zc j = true -> Z9s j (Z3z bad) (Z3z good) = [] -> Q (RA.ret (.tup [.v (.slice none 0 0), I 11])) [])
  (hq : JOk j -> Z44 j.ins bad = 0 -> Z44 j.ins good = 0 -> Zc j = true -> Z9s j (Z3z bad) (Z3z good) ≠ [] -> ∀ L, L = (Z9s j (Z3z bad) (Z3z good)).map I -> Q (RA.ret (.tup [.sl 1 L, I 0])) []) :
  CallA Tryz.prog 24 [.agg [I j.ins, .sl 1 FL, .sl 5 ML], .sl 1 XL, .sl 1 YL] [] Q := by
 obtain ⟨A, hA⟩ : ∃ A, A = ar := ⟨_, rfl⟩;obtain ⟨e1, he1⟩ : ∃ e1, e1 = Zr j := ⟨_, rfl⟩;refine Z5 Z0 hA Tryz.func24 rfl rfl rfl rfl rfl fun S hS => ?_;cbv;refine Zs7 Z0 hA hS ?_;cbv;refine Z4 hS [.agg [I j.ins, .sl 1 FL, .sl 5 ML]] [] [] rfl rfl rfl rfl rfl rfl rfl rfl (by decide) trivial (bCheck j hf hm FL ML hF hM e1 he1 _ ?_);refine Z3 Z0 hA hS ?_;cbv;refine bm (fun c => ?_) (fun c => ?_)
 ·have hz := he e1 he1 (xne hA c);cbv;exact Z2 [] (by decide) Z9 (H' := []) (d' := .tup [.v (.slice none 0 0), I e1]) trivial rfl (Z1 hz)
 have hc0 : Zr j = 0 := he1.symm.trans (Z4t hA c);have hj : JOk j := Z2r hc0;have hi1 := hj.i1;have hi4 := hj.i4;cbv;refine Z4 hS [.sl 1 XL, I j.ins] [] [] rfl rfl rfl rfl rfl rfl rfl rfl (by decide) trivial (Za1 bad hbl j.ins ⟨Int.le_trans (by decide) hi1, hi4⟩ XL hX _ fun ex x hex hx0 _ => ?_);refine Z3 Z0 hA hS ?_;cbv;refine bm (fun c => ?_) (fun c => ?_)
 ·have hz := hx hj ex hex (xne hA c);cbv;exact Z2 [] (by decide) Z9 (H' := []) (d' := .tup [.v (.slice none 0 0), I ex]) trivial rfl (Z1 hz)
 have hcx : Z44 j.ins bad = 0 := hex.symm.trans (Z4t hA c);obtain ⟨hxg, hxb⟩ := hx0 (Z4t hA c);cbv;refine Z4 hS [.sl 1 YL, I j.ins] [] [] rfl rfl rfl rfl rfl rfl rfl rfl (by decide) trivial (Za1 good hgl j.ins ⟨Int.le_trans (by decide) hi1, hi4⟩ YL hY _ fun ey y hey hy0 _ => ?_);refine Z3 Z0 hA hS ?_;cbv;refine bm (fun c => ?_) (fun c => ?_)
 ·have hz := hy hj hcx ey hey (xne hA c);cbv;exact Z2 [] (by decide) Z9 (H' := []) (d' := .tup [.v (.slice none 0 0), I ey]) trivial rfl (Z1 hz)
 have hcy : Z44 j.ins good = 0 := hey.symm.trans (Z4t hA c);obtain ⟨hyg, hyb⟩ := hy0 (Z4t hA c);have hxlo := hxb.1;have hxhi := hxb.2;have hylo := hyb.1;have hyhi := hyb.2;have hcN : A.cmp .neq 9 0 = true := by subst hA; rfl
 have hc00 : A.cmp .neq 0 0 = false := by subst hA; rfl
 have hm10 := hj.m10;have hopn := fun Q => Zhe j (by omega) FL ML hM 51 [] (.inl rfl) Q;cbv;refine Z4 hS [.agg [I j.ins, .sl 1 FL, .sl 5 ML], .fn 51 []] [] [] rfl rfl rfl rfl rfl rfl rfl rfl (by decide) trivial (Zdj j hf hm Zn 51 [] Z73 FL ML hF hM _ (fun e2 he2 hne => absurd (he2.trans hc0) hne) (fun _ ents0 _ hne0 => ?_) (fun _ h0 => ?_))
 ·have hst : Zc j = true := (Z28 j Zn).2 hne0;obtain ⟨N, hN⟩ : ∃ N, N = (Z6 j.moves).length := ⟨_, rfl⟩;have hN4 : N <= 4 := by rw [hN]; exact hj.b4
  have hsus : (Z88 j x y N).map (fun b : Nat => (b : Int)) = Z9s j (Z3z bad) (Z3z good) := by rw [<- hxg, <- hyg, hN]; rfl
  have hnn := hn hj hcx hcy hst;have hqq := hq hj hcx hcy hst;rw [<- hsus] at hnn hqq;refine Z3 Z0 hA hS ?_;cbv;refine bm (fun c => Bool.noConfusion (hc00.symm.trans c)) (fun _ => ?_);cbv;refine Z4 hS [.agg [I j.ins, .sl 1 FL, .sl 5 ML], .fn 51 []] [] [] rfl rfl rfl rfl rfl rfl rfl rfl (by decide) trivial (hopn _ fun BL hBL => ?_);have hBl : BL.length = N := by rw [hBL, hN]; simp
  refine Z3 Z0 hA hS ?_;cbv;refine Zb hS ?_;refine Za (α := Int × Nat × Nat × List D) (fun q => { env := [(3, .b 0 0), (9, I x), (11, I y), (14, .o 1 1 q.2.2.1), (56, I (A.oi (A.len BL))), (57, I q.1)], H := [.box (.agg [I j.ins, .sl 1 FL, .sl 5 ML]), .els 1 q.2.2.2], nt := 92, dfs := [] })
   (fun q => N - q.2.1) (fun q => q.2.1 <= N /\ IsI q.1 q.2.1 /\ q.2.2.1 = (Z88 j x y q.2.1).length /\ q.2.2.2 = (Z88 j x y q.2.1).map fun b : Nat => I (b : Int)) (0, 0, 0, []) ⟨Nat.zero_le _, ⟨rfl⟩, rfl, rfl⟩ ?_ ?_
  ·refine Z2a 14 1 rfl ?_;exact Zf [0, 2] ⟨by decide, Z9, ⟨rfl, rfl, trivial⟩, ⟨rfl, rfl, rfl, rfl, rfl, rfl, trivial⟩, rfl, rfl⟩
  rintro ⟨i, k, n0, L⟩ ⟨u1, u2, u3, u4⟩;dsimp only at u1 u2 u3 u4;have hLl : L.length = n0 := by rw [u4, u3]; simp
  have hsl := Zl3 j x y k;have hsu := Zhj j x y k;have hie := u2.eq;have hyes : A.cmp .lss i (A.oi (A.len BL)) = true -> k < N := fun c => Z31 hA hBl u2 c;have hno : A.cmp .lss i (A.oi (A.len BL)) = false -> k = N := fun c => by have := Z21 hA hBl u2 c; omega
  have hn06 : n0 <= 1000000 := by omega
  refine Zi Z0 hA hS ?_;cbv;refine bm (fun c => ?_) (fun c => ?_)
  ·have hk := hyes c;have hf1 := Zy hA u2 (by omega);have hu2 := Zz hA u2;have hms : N - (k + 1) < N - k := by omega
   have htk := Zvk i k u2;have hsok : ∀ s ∈ Zd j (Z9r k) 0, StOk s := fun s hs => by rw [<- Z66] at hs; exact Z8s (Zom k) hj _ s hs
   obtain ⟨St, hSt⟩ : ∃ St, St = Zd j (Z9r k) 0 := ⟨_, rfl⟩;have hsb : Z71 j x y k = St.any (Zj2 x y) := by rw [hSt]; rfl
   rw [<- hSt] at hsok;cbv;refine Z26 hS (Z1a hA [2] ?_);cbv;refine Z7 ?_;refine Z4 hS [.agg [I j.ins, .sl 1 FL, .sl 5 ML], .fn 67 [.cb (I i) 0]] [] [] rfl rfl rfl rfl rfl rfl rfl rfl (by decide) trivial (Zan j hj (Z9r k) 67 _ htk FL ML hF hM _ (fun ents hme hne => ?_) (fun h0 => absurd h0 ((Z28 j _).1 hst)));rw [<- hSt] at hme;refine Z3 Z0 hA hS ?_;cbv;refine Z2g hS rfl rfl rfl (Z6t Z0 rfl rfl rfl rfl fun bs clock h1 h2 h3 => ?_);refine Z3 Z0 hA hS ?_;cbv;refine Zb hS ?_;refine Za (α := List Nat × List (Ste Int)) (fun q => { env := [(3, .b 0 0), (9, I x), (11, I y), (14, .o 1 1 n0), (15, .cb (I i) 0), (56, I (A.oi (A.len BL))), (57, I i), (67, .b 3 0)], H := [.box (.agg [I j.ins, .sl 1 FL, .sl 5 ML]), .els 1 L, .ob (.mpx 5 ents bs clock), .ob (.mi 2 clock q.1 clock)], nt := 92, dfs := [] })
    (fun q => Z8y bs q.1) (fun q => Seen ents bs q.1 St q.2 /\ ∀ s ∈ q.2, Zj2 x y s = false) ([], []) ⟨Z84 _ _ _, fun s hs => by simp at hs⟩ ?_ ?_
   ·exact Zf [0, 1, 3, 4] ⟨by decide, Z9, ⟨rfl, rfl, rfl, rfl, trivial⟩, ⟨rfl, rfl, rfl, rfl, rfl, rfl, rfl, rfl, trivial⟩, rfl, rfl⟩
   rintro ⟨seen, done⟩ ⟨v1, v2⟩;dsimp only at v1 v2;refine Zi Z0 hA hS ?_;cbv;refine Z2g hS rfl rfl rfl (Z7y rfl rfl rfl rfl (fun hall => ?_) (fun ix c e hc' he' hn' hkl => ?_))
   ·have hal := v1.all hme h1 hall;have hfalse : Z71 j x y k = false := by
     rw [hsb, List.any_eq_false];intro s hs;rw [v2 s ((hal s).2 hs)]; exact Bool.false_ne_true
    rw [if_neg (by rw [hfalse]; exact Bool.false_ne_true)] at hsu;have hL2 : L = (Z88 j x y (k + 1)).map fun b : Nat => I (b : Int) := by rw [hsu, u4]
    have hn2 : n0 = (Z88 j x y (k + 1)).length := by rw [hsu, u3]
    refine Z3 Z0 hA hS ?_;cbv;refine Z7 ?_;cbv;refine ⟨hf1, ?_⟩;refine Z8 (A.add i 1, k + 1, n0, L) [0, 1] ⟨hk, hu2, hn2, hL2⟩ hms ?_;exact ⟨by decide, Z9, ⟨rfl, rfl, trivial⟩, ⟨rfl, rfl, rfl, rfl, rfl, rfl, trivial⟩, rfl, rfl⟩
   ·obtain ⟨s, hs, rfl⟩ := hme.at he';have hso := hsok s hs;obtain ⟨x0, x1, x2, x3, hx'⟩ := Zbr hso.l.len;obtain ⟨nt, hnt⟩ : ∃ nt, nt = s.2 := ⟨_, rfl⟩;have hnt0 : 0 <= nt := by rw [hnt]; exact hso.n0
    have hnt6 : nt <= 640 := by rw [hnt]; exact hso.n1
    have hkey := Z87 hx' hnt.symm;have hsn := v1.next h2 hc' he' hs;have hul := Z85 hc' hn';obtain ⟨sn, hsnE⟩ : ∃ sn, sn = seen ++ [c] := ⟨_, rfl⟩;obtain ⟨b1, hb1⟩ : ∃ b1, b1 = allB nt x := ⟨_, rfl⟩;have hand : A.bits .and .i64 nt y = Ziu nt y := by subst hA; exact Zn9 hnt0 (by omega) hylo (by omega)
    have hyesS : b1 = true -> A.cmp .eql (A.bits .and .i64 nt y) 0 = true -> Z71 j x y k = true := fun g1 g2 => by
     rw [hsb, List.any_eq_true];refine ⟨s, hs, ?_⟩;have g3 := xeq hA g2;rw [hand] at g3;rw [Zj2, <- hnt, <- hb1, g1, g3]; rfl
    have hnoS1 : b1 = false -> Zj2 x y s = false := fun g1 => by rw [Zj2, <- hnt, <- hb1, g1]; rfl
    have hnoS2 : A.cmp .eql (A.bits .and .i64 nt y) 0 = false -> Zj2 x y s = false := fun g2 => by
     have g3 := Z2o hA g2;rw [hand] at g3;rw [Zj2, <- hnt];have : (Ziu nt y == 0) = false := by simpa using g3
     rw [this, Bool.and_false]
    have hdone : Zj2 x y s = false -> ∀ s' ∈ done ++ [s], Zj2 x y s' = false := fun g s' hs' => by
     rcases List.mem_append.1 hs' with h5 | h5
     ·exact v2 s' h5
     ·simp at h5; rw [h5]; exact g
    have hsuT : Z71 j x y k = true -> Z88 j x y (k + 1) = Z88 j x y k ++ [k] := fun h => by rw [hsu, if_pos h]
    have hL2 : Z71 j x y k = true -> A.app L [I i] = (Z88 j x y (k + 1)).map fun b : Nat => I (b : Int) := fun h => by rw [Z33 hA, hsuT h, u4, hie]; simp
    have hn2 : Z71 j x y k = true -> A.addN n0 1 = (Z88 j x y (k + 1)).length := fun h => by rw [Z2e hA, hsuT h, u3]; simp
    have hba := fun Q => Zzk nt x hnt0 (by omega) hxlo (by omega) b1 hb1 Q;dsimp only;rw [hkey, <- hsnE];rw [<- hsnE] at hsn hul;refine Z3 Z0 hA hS ?_;cbv;refine Z2g hS rfl rfl rfl (Z5x hsnE rfl rfl rfl rfl hc' he' ?_);dsimp only;rw [hkey];refine Z3 Z0 hA hS ?_;cbv;refine Z4 hS [I nt, I x] [] [] rfl rfl rfl rfl rfl rfl rfl rfl (by decide) trivial (hba _ ?_);refine Z3 Z0 hA hS ?_;cbv;refine bm (fun c3 => ?_) (fun c3 => ?_)
    ·cbv;refine bm (fun c4 => ?_) (fun c4 => ?_)
     ·have hyy := hyesS c3 c4;have hLL := hL2 hyy;have hnn2 := hn2 hyy;cbv;refine ⟨Ze hA hLl, Ze hA rfl, Z27 hA hn06 (by decide), ?_⟩;refine Z7 ?_;cbv;refine ⟨hf1, ?_⟩;refine Z8 (A.add i 1, k + 1, A.addN n0 1, A.app L [I i]) [0, 6] ⟨hk, hu2, hnn2, hLL⟩ hms ?_;exact ⟨by decide, Z9, ⟨rfl, rfl, trivial⟩, ⟨rfl, rfl, rfl, rfl, rfl, rfl, trivial⟩, rfl, rfl⟩
     ·have hdd := hdone (hnoS2 c4);cbv;refine Z8 (sn, done ++ [s]) [0, 1, 2, 3] ⟨hsn, hdd⟩ hul ?_;exact ⟨by decide, Z9, ⟨rfl, rfl, rfl, rfl, trivial⟩, ⟨rfl, rfl, rfl, rfl, rfl, rfl, rfl, rfl, trivial⟩, rfl, rfl⟩
    ·have hdd := hdone (hnoS1 c3);cbv;refine Z8 (sn, done ++ [s]) [0, 1, 2, 3] ⟨hsn, hdd⟩ hul ?_;exact ⟨by decide, Z9, ⟨rfl, rfl, rfl, rfl, trivial⟩, ⟨rfl, rfl, rfl, rfl, rfl, rfl, rfl, rfl, trivial⟩, rfl, rfl⟩
  ·have hk := hno c;have hLE : L = ((Z88 j x y N).map fun b : Nat => (b : Int)).map I := by rw [u4, hk, List.map_map]; rfl
   have hn0E : n0 = (Z88 j x y N).length := by rw [u3, hk]
   have hnil : A.cmp .eql (A.oi n0) 0 = true -> (Z88 j x y N).map (fun b : Nat => (b : Int)) = [] := fun c => by
    have := xeq hA c;rw [xoi hA] at this;rw [List.eq_nil_of_length_eq_zero (show (Z88 j x y N).length = 0 by omega)]; rfl
   have hnnil : A.cmp .eql (A.oi n0) 0 = false -> (Z88 j x y N).map (fun b : Nat => (b : Int)) ≠ [] := fun c h => by
    have := Z2o hA c;rw [xoi hA] at this;rw [List.map_eq_nil_iff.1 h] at hn0E;simp at hn0E; omega
   cbv;refine Z7 ?_;cbv;refine bm (fun c2 => ?_) (fun c2 => ?_)
   ·have hz := hnn (hnil c2);cbv;exact Z2 [] (by decide) Z9 (H' := []) (d' := .tup [.v (.slice none 0 0), I 11]) trivial rfl (Z1 hz)
   ·have hz := hqq (hnnil c2) L hLE;cbv;refine Z1w [1] ?_;cbv;exact ⟨by cases L <;> exact hLl.symm, Z2 [] (by decide) Z9 (H' := []) (d' := .tup [.sl 1 L, I 0]) trivial rfl (Z1 hz)⟩
 ·have hz := hp hj hcx hcy (Z3y h0);refine Z3 Z0 hA hS ?_;cbv;refine bm (fun _ => ?_) (fun c => Bool.noConfusion (hcN.symm.trans c));cbv;exact Z2 [] (by decide) Z9 (H' := []) (d' := .tup [.v (.slice none 0 0), I 9]) trivial rfl (Z1 hz)
end Go.Proofs.YthljpccegkmdnaaGreatDoor

namespace Go.Batch
theorem Zcw (l : List Nat) : ∀ (a b : List Mv) (i : Nat), Zu l (a ++ b) i = Zu l a i ++ Zu l b (i + a.length)
 | [], b, i => by simp [Zu]
 | m :: a, b, i => by
  have := Zcw l a b (i + 1);simp only [List.cons_append, Zu, this, List.length_cons];have e : i + 1 + a.length = i + (a.length + 1) := by omega
  rw [e]
  split <;> rfl
theorem Zgf (l : List Nat) {ms : List Mv} {k : Nat} {m : Mv} (h : ms[k]? = some m) : Zu l (ms.take (k + 1)) 0 = if k ∈ l then Zu l (ms.take k) 0 else Zu l (ms.take k) 0 ++ [m] := by
 have hk : k < ms.length := (List.getElem?_eq_some_iff.1 h).1;rw [List.take_add_one, h, Option.toList_some, Zcw, List.length_take, Nat.zero_add, Nat.min_eq_left (by omega)];simp only [Zu]
 split <;> simp
theorem Z8t {l : List Nat} : ∀ {ms : List Mv} {i : Nat} {m : Mv}, m ∈ Zu l ms i -> m ∈ ms
 | [], i, m, h => by simp [Zu] at h
 | x :: ms, i, m, h => by
  unfold Zu at h
  split at h
  ·exact List.mem_cons_of_mem _ (Z8t h)
  ·rcases List.mem_cons.1 h with h1 | h1
   ·rw [h1]; simp
   ·exact List.mem_cons_of_mem _ (Z8t h1)
theorem Z8u (l : List Nat) : ∀ (ms : List Mv) (i : Nat), (Zu l ms i).length <= ms.length
 | [], i => by simp [Zu]
 | x :: ms, i => by
  have := Z8u l ms (i + 1);unfold Zu
  split <;> simp <;> omega
theorem Zba (l : List Nat) : ∀ (ms : List Mv) (i : Nat), (Z6 (Zu l ms i)).length <= (Z6 ms).length
 | [], i => by simp [Zu]
 | x :: ms, i => by
  have := Zba l ms (i + 1);unfold Zu;simp only [Z2b]
  split
  ·split <;> simp <;> omega
  ·simp only [Z2b]
   split <;> simp <;> omega
theorem JOk.without {j : Jn} (h : JOk j) (l : List Nat) : JOk (Z12 j l) :=
 ⟨h.i1, h.i4, h.f1, h.f2, Nat.le_trans (Z8u l _ _) h.m10, fun m hm => by
  have g := h.mv m (Z8t hm)
  exact ⟨g.k1, g.k3, g.b0, g.b1, g.i0, g.i1, g.i2, g.l0, g.lh, g.h5⟩, Nat.le_trans (Zba l _ _) h.b4⟩
theorem Ze5 : ∀ (a b : List Mv) (i : Nat), Z1h (a ++ b) i = Z1h a i ++ Z1h b (i + a.length)
 | [], b, i => by simp [Z1h]
 | m :: a, b, i => by
  have := Ze5 a b (i + 1);simp only [List.cons_append, Z1h, this, List.length_cons];have e : i + 1 + a.length = i + (a.length + 1) := by omega
  rw [e]
  split <;> rfl
theorem Zcx {ms : List Mv} {k : Nat} {m : Mv} (h : ms[k]? = some m) : Z1h (ms.take (k + 1)) 0 = if m.kind = 3 then Z1h (ms.take k) 0 ++ [k] else Z1h (ms.take k) 0 := by
 have hk : k < ms.length := (List.getElem?_eq_some_iff.1 h).1;rw [List.take_add_one, h, Option.toList_some, Ze5, List.length_take, Nat.zero_add, Nat.min_eq_left (by omega)];simp only [Z1h]
 split <;> simp
theorem Z7j : ∀ (ms : List Mv) (i : Nat), (Z1h ms i).length <= ms.length
 | [], i => by simp [Z1h]
 | x :: ms, i => by
  have := Z7j ms (i + 1);unfold Z1h
  split <;> simp <;> omega
end Go.Batch
namespace Go.Proofs.YthljpccegkmdnaaGreatDoor
open Go Go.Abs Go.Proofs Go.Batch
theorem bmT {b : Bool} {X Y : Prop} (h : b = true) (hx : X) : (match (generalizing := false) b with | true => X | false => Y) := by subst h; exact hx
theorem bmF {b : Bool} {X Y : Prop} (h : b = false) (hx : Y) : (match (generalizing := false) b with | true => X | false => Y) := by subst h; exact hx
def Z1y (l : List Nat) : List D := l.map fun i : Nat => I (i : Int)
theorem Zvn (L : List D) (n : Nat) (hn : L.length = n) (hl : n <= 1000000) (Q) (hq : Q (RA.ret (.o 0 1 n)) [.els 1 L]) : CallA Tryz.prog 73 [.sl 1 L] [] Q := by
 obtain ⟨A, hA⟩ : ∃ A, A = ar := ⟨_, rfl⟩;refine Z5 Z0 hA Tryz.func73 rfl rfl rfl rfl rfl fun S hS => ?_;cbv;refine ⟨fun b hb => ?_⟩;cbv;refine bm (fun c => ?_) (fun c => ?_)
 ·have h0 : n = 0 := by have := hb c; subst hA; exact hn.symm.trans this
  subst h0;have hL : L = [] := List.length_eq_zero_iff.1 hn;subst hL;cbv;exact Zut 1 (by decide) (Z1 hq)
 ·cbv;refine ⟨Ze hA rfl, ?_, Z2 [1] (by decide) Z9 (H' := [.els 1 L]) (d' := .o 0 1 n) ⟨by subst hA; rfl, trivial⟩ ?_ (Z1 hq)⟩
  ·subst hA; subst hn; exact ⟨show (0 + L.length) * 8 <= 140737488355328 by omega, show 0 + L.length <= 4611686018427387904 by omega⟩
  ·subst hA; subst hn; show D.o 1 1 L.length = D.o 1 1 (0 + L.length); rw [Nat.zero_add]
set_option maxRecDepth 20000 in
set_option maxHeartbeats 4000000 in
theorem Zwz (l : List Nat) (hl : l.length <= 1000000) (L : List D) (hL : L = Z1y l) (v : Int) (k : Nat) (hv : IsI v k) (Q) (hq : ∀ r, (0 <= r ↔ k ∈ l) -> Q (RA.ret (I r)) []) : CallA Tryz.prog 150 [.sl 1 L, I v] [] Q := by
 obtain ⟨A, hA⟩ : ∃ A, A = ar := ⟨_, rfl⟩;have hLl : L.length = l.length := by rw [hL]; simp [Z1y]
 refine Z5 Z0 hA Tryz.func150 rfl rfl rfl rfl rfl fun S hS => ?_;cbv;refine Zb hS ?_;refine Za (α := Int × Nat) (fun q => { env := [(0, .sl 1 L), (1, I v), (7, I (A.oi (A.len L))), (8, I q.1)], H := [], nt := 19, dfs := [] })
  (fun q => l.length - q.2) (fun q => q.2 <= l.length /\ IsI q.1 q.2 /\ k ∉ l.take q.2) (0, 0) ⟨Nat.zero_le _, ⟨rfl⟩, by simp⟩ ?_ ?_
 ·exact Zf [] ⟨by decide, Z9, trivial, ⟨rfl, rfl, rfl, rfl, trivial⟩, rfl, rfl⟩
 rintro ⟨i, t⟩ ⟨u1, u2, u3⟩;dsimp only at u1 u2 u3;have hyes : A.cmp .lss i (A.oi (A.len L)) = true -> t < l.length := fun c => Z31 hA hLl u2 c;have hno : A.cmp .lss i (A.oi (A.len L)) = false -> k ∉ l := fun c => by
  have := Z21 hA hLl u2 c;rw [List.take_of_length_le this] at u3; exact u3
 have hq0 : k ∉ l -> Q (RA.ret (I (-1))) [] := fun h => hq (-1) ⟨fun h2 => absurd h2 (by decide), fun h2 => absurd h2 h⟩;have hie := u2.eq;refine Zi Z0 hA hS ?_;cbv;refine bm (fun c => ?_) (fun c => ?_)
 ·have ht := hyes c;obtain ⟨x, hx⟩ : ∃ x, l[t]? = some x := ⟨_, List.getElem?_eq_getElem ht⟩;obtain ⟨xI, hxI⟩ : ∃ z : Int, z = (x : Nat) := ⟨_, rfl⟩;have hLt : L[t]? = some (I xI) := by rw [hL, hxI]; simp [Z1y, hx]
  have hin := Z1b hA hLl u2 ht;have hg := Z18 hA u2 hLt;have hf := Zy hA u2 (by omega);have hu2 := Zz hA u2;have hms : l.length - (t + 1) < l.length - t := by omega
  have hy : A.cmp .eql v xI = true -> Q (RA.ret (I i)) [] := fun c => hq i ⟨fun _ => by
   have h1 := xeq hA c
   have h2 := hv.eq
   have : k = x := by omega
   rw [this]; exact List.mem_of_getElem? hx, fun _ => by rw [hie]; exact Int.natCast_nonneg _⟩
  have hn : A.cmp .eql v xI = false -> k ∉ l.take (t + 1) := fun c h => by
   have h1 := Z2o hA c;have h2 := hv.eq;rw [Z5y hx] at h;rcases List.mem_append.1 h with h3 | h3
   ·exact u3 h3
   ·simp at h3; omega
  cbv;refine ⟨hin, ⟨_, hg, ?_⟩⟩;cbv;refine bm (fun c2 => ?_) (fun c2 => ?_)
  ·have hz := hy c2;cbv;refine Z7 ?_;cbv;exact Z2 [] (by decide) Z9 (H' := []) (d' := I i) trivial rfl (Z1 hz)
  ·have hz := hn c2;cbv;refine ⟨hf, ?_⟩;refine Z8 (A.add i 1, t + 1) [] ⟨ht, hu2, hz⟩ hms ?_;exact ⟨by decide, Z9, trivial, ⟨rfl, rfl, rfl, rfl, trivial⟩, rfl, rfl⟩
 ·have hz := hq0 (hno c);cbv;refine Z7 ?_;cbv;exact Z2 [] (by decide) Z9 (H' := []) (d' := I (-1)) trivial rfl (Z1 hz)
theorem Zqg (l : List Nat) (hl : l.length <= 1000000) (L : List D) (hL : L = Z1y l) (v : Int) (k : Nat) (hv : IsI v k) (b : Bool) (hb : b = decide (k ∈ l)) (Q) (hq : Q (RA.ret (.v (.bool b))) []) : CallA Tryz.prog 117 [.sl 1 L, I v] [] Q := by
 obtain ⟨A, hA⟩ : ∃ A, A = ar := ⟨_, rfl⟩;refine Z5 Z0 hA Tryz.func117 rfl rfl rfl rfl rfl fun S hS => ?_;cbv;refine Z4 hS [.sl 1 L, I v] [] [] rfl rfl rfl rfl rfl rfl rfl rfl (by decide) trivial (Zwz l hl L hL v k hv _ fun r hr => ?_);have hz : A.cmp .geq r 0 = b := by
  subst hA;show decide (r ≥ 0) = b;rw [hb]
  by_cases h : k ∈ l
  ·rw [decide_eq_true h]; exact decide_eq_true (hr.2 h)
  ·rw [decide_eq_false h]; exact decide_eq_false (fun h2 => h (hr.1 h2))
 refine Z3 Z0 hA hS ?_;cbv;refine Z2 [] (by decide) Z9 (H' := []) (d' := .v (.bool (A.cmp .geq r 0))) trivial rfl (Z1 ?_);rw [hz]; exact hq
set_option maxRecDepth 20000 in
set_option maxHeartbeats 4000000 in
theorem Zl4 (j : Jn) (hm : j.moves.length <= 1000) (l : List Nat) (hl : l.length <= 1000000) (FL ML L : List D) (hM : ML = j.moves.map mvD) (hL : L = Z1y l) (Q) (hq : ∀ ML', ML' = (Z12 j l).moves.map mvD -> Q (RA.ret (.agg [I j.ins, .sl 1 FL, .sl 5 ML'])) []) :
  CallA Tryz.prog 70 [.agg [I j.ins, .sl 1 FL, .sl 5 ML], .sl 1 L] [] Q := by
 obtain ⟨A, hA⟩ : ∃ A, A = ar := ⟨_, rfl⟩;have hMl : ML.length = j.moves.length := by rw [hM]; simp
 have hb1 : A.bnot true = false := by subst hA; rfl
 have hb0 : A.bnot false = true := by subst hA; rfl
 refine Z5 Z0 hA Tryz.func70 rfl rfl rfl rfl rfl fun S hS => ?_;cbv;refine Zb hS ?_;refine Za (α := Int × Nat × Nat × List D) (fun q => { env := [(1, .sl 1 L), (4, .b 0 0), (5, .b 1 0), (11, .sl 5 ML), (12, I (A.oi (A.len ML))), (13, I q.1)], H := [.box (.agg [I 0, .v (.slice none 0 0), .v (.slice none 0 0)]), .box (.agg [I j.ins, .sl 1 FL, .o 2 5 q.2.2.1]), .els 5 q.2.2.2], nt := 30, dfs := [] })
  (fun q => j.moves.length - q.2.1) (fun q => q.2.1 <= j.moves.length /\ IsI q.1 q.2.1 /\ q.2.2.1 = (Zu l (j.moves.take q.2.1) 0).length /\ q.2.2.2 = (Zu l (j.moves.take q.2.1) 0).map mvD) (0, 0, 0, []) ⟨Nat.zero_le _, ⟨rfl⟩, rfl, rfl⟩ ?_ ?_
 ·refine Zfk 2 2 5 (.agg [I j.ins, .sl 1 FL, .o 3 5 0]) rfl rfl rfl ?_;exact Zf [1, 2, 3] ⟨by decide, Z9, ⟨rfl, rfl, rfl, trivial⟩, ⟨rfl, rfl, rfl, rfl, rfl, rfl, trivial⟩, rfl, rfl⟩
 rintro ⟨i, k, n0, R⟩ ⟨u1, u2, u3, u4⟩;dsimp only at u1 u2 u3 u4;have hRl : R.length = n0 := by rw [u4, u3]; simp
 have hn0 : n0 <= 1000000 := by
  rw [u3];have := Z8u l (j.moves.take k) 0;rw [List.length_take] at this; omega
 have hyes : A.cmp .lss i (A.oi (A.len ML)) = true -> k < j.moves.length := fun c => Z31 hA hMl u2 c;have hno : A.cmp .lss i (A.oi (A.len ML)) = false -> k = j.moves.length := fun c => by have := Z21 hA hMl u2 c; omega
 refine Zi Z0 hA hS ?_;cbv;refine bm (fun c => ?_) (fun c => ?_)
 ·have hk := hyes c;obtain ⟨m, hmk⟩ : ∃ m, j.moves[k]? = some m := ⟨_, List.getElem?_eq_getElem hk⟩;have hMk : ML[k]? = some (.agg [I m.kind, I m.bin, I m.inst, I m.lo, I m.hi]) := by rw [hM]; simp [hmk, mvD]
  have hsn := Zgf l hmk;have hin := Z1b hA hMl u2 hk;have hg := Z18 hA u2 hMk;have hf1 := Zy hA u2 (by omega);have hu2 := Zz hA u2;have hms : j.moves.length - (k + 1) < j.moves.length - k := by omega
  obtain ⟨b, hb⟩ : ∃ b, b = decide (k ∈ l) := ⟨_, rfl⟩;have hct := fun Q => Zqg l hl L hL i k u2 b hb Q;have hn1 : k ∉ l -> A.addN n0 1 = (Zu l (j.moves.take (k + 1)) 0).length := fun h => by rw [hsn, if_neg h, Z2e hA, u3]; simp
  have hr1 : k ∉ l -> A.app R [.agg [I m.kind, I m.bin, I m.inst, I m.lo, I m.hi]] = (Zu l (j.moves.take (k + 1)) 0).map mvD := fun h => by rw [hsn, if_neg h, Z33 hA, u4]; simp [mvD]
  have hn2 : k ∈ l -> n0 = (Zu l (j.moves.take (k + 1)) 0).length := fun h => by rw [hsn, if_pos h, u3]
  have hr2 : k ∈ l -> R = (Zu l (j.moves.take (k + 1)) 0).map mvD := fun h => by rw [hsn, if_pos h, u4]
  cbv;refine ⟨hin, ⟨_, hg, ?_⟩⟩;cbv;refine Z4 hS [.sl 1 L, I i] [] [] rfl rfl rfl rfl rfl rfl rfl rfl (by decide) trivial (hct _ ?_);refine Z3 Z0 hA hS ?_;cbv
  cases b with
  | false =>
   have hkn : k ∉ l := of_decide_eq_false hb.symm;have h1 := hn1 hkn;have h2 := hr1 hkn;refine bm (fun _ => ?_) (fun c => Bool.noConfusion (hb0.symm.trans c));cbv;refine ⟨Ze hA hRl, Ze hA rfl, Z27 hA hn0 (by decide), hf1, ?_⟩;refine Z8 (A.add i 1, k + 1, A.addN n0 1, A.app R [.agg [I m.kind, I m.bin, I m.inst, I m.lo, I m.hi]]) [0, 1, 5] ⟨hk, hu2, h1, h2⟩ hms ?_;exact ⟨by decide, Z9, ⟨rfl, rfl, rfl, trivial⟩, ⟨rfl, rfl, rfl, rfl, rfl, rfl, trivial⟩, rfl, rfl⟩
  | true =>
   have hkn : k ∈ l := of_decide_eq_true hb.symm;have h1 := hn2 hkn;have h2 := hr2 hkn;refine bm (fun c => Bool.noConfusion (hb1.symm.trans c)) (fun _ => ?_);cbv;refine ⟨hf1, ?_⟩;refine Z8 (A.add i 1, k + 1, n0, R) [0, 1, 2] ⟨hk, hu2, h1, h2⟩ hms ?_;exact ⟨by decide, Z9, ⟨rfl, rfl, rfl, trivial⟩, ⟨rfl, rfl, rfl, rfl, rfl, rfl, trivial⟩, rfl, rfl⟩
 ·have hk := hno c;have hRE : R = (Z12 j l).moves.map mvD := by rw [u4, hk, List.take_length]; rfl
  have hz := hq R hRE;cbv;refine Z7 ?_;cbv;refine Z1w [2] ?_;cbv;refine ⟨by cases R <;> exact hRl.symm, by cases R <;> exact hRl.symm, by cases R <;> exact hRl.symm, ?_⟩;exact Z2 [] (by decide) Z9 (H' := []) (d' := .agg [I j.ins, .sl 1 FL, .sl 5 R]) trivial rfl (Z1 hz)
set_option maxRecDepth 20000 in
set_option maxHeartbeats 4000000 in
theorem Zvo (j : Jn) (hm : j.moves.length <= 1000) (FL ML : List D) (hM : ML = j.moves.map mvD) (Q) (hq : ∀ CL, CL = Z1y (Zp j) -> Q (RA.ret (.sl 1 CL)) []) : CallA Tryz.prog 69 [.cb (.agg [I j.ins, .sl 1 FL, .sl 5 ML]) 0] [] Q := by
 obtain ⟨A, hA⟩ : ∃ A, A = ar := ⟨_, rfl⟩;have hMl : ML.length = j.moves.length := by rw [hM]; simp
 refine Z5 Z0 hA Tryz.func69 rfl rfl rfl rfl rfl fun S hS => ?_;cbv;refine Zb hS ?_;refine Za (α := Int × Nat × Nat × List D) (fun q => { env := [(2, .o 0 1 q.2.2.1), (6, .sl 5 ML), (7, I (A.oi (A.len ML))), (8, I q.1)], H := [.els 1 q.2.2.2], nt := 22, dfs := [] })
  (fun q => j.moves.length - q.2.1) (fun q => q.2.1 <= j.moves.length /\ IsI q.1 q.2.1 /\ q.2.2.1 = (Z1h (j.moves.take q.2.1) 0).length /\ q.2.2.2 = Z1y (Z1h (j.moves.take q.2.1) 0)) (0, 0, 0, []) ⟨Nat.zero_le _, ⟨rfl⟩, rfl, rfl⟩ ?_ ?_
 ·refine Z2a 2 1 rfl ?_;exact Zf [0] ⟨by decide, Z9, ⟨rfl, trivial⟩, ⟨rfl, rfl, rfl, rfl, trivial⟩, rfl, rfl⟩
 rintro ⟨i, k, n0, R⟩ ⟨u1, u2, u3, u4⟩;dsimp only at u1 u2 u3 u4;have hRl : R.length = n0 := by rw [u4, u3]; simp [Z1y]
 have hn0 : n0 <= 1000000 := by
  rw [u3];have := Z7j (j.moves.take k) 0;rw [List.length_take] at this; omega
 have hyes : A.cmp .lss i (A.oi (A.len ML)) = true -> k < j.moves.length := fun c => Z31 hA hMl u2 c;have hno : A.cmp .lss i (A.oi (A.len ML)) = false -> k = j.moves.length := fun c => by have := Z21 hA hMl u2 c; omega
 have hie := u2.eq;refine Zi Z0 hA hS ?_;cbv;refine bm (fun c => ?_) (fun c => ?_)
 ·have hk := hyes c;obtain ⟨m, hmk⟩ : ∃ m, j.moves[k]? = some m := ⟨_, List.getElem?_eq_getElem hk⟩;have hMk : ML[k]? = some (.agg [I m.kind, I m.bin, I m.inst, I m.lo, I m.hi]) := by rw [hM]; simp [hmk, mvD]
  have hsn := Zcx hmk;have hin := Z1b hA hMl u2 hk;have hg := Z18 hA u2 hMk;have hf1 := Zy hA u2 (by omega);have hu2 := Zz hA u2;have hms : j.moves.length - (k + 1) < j.moves.length - k := by omega
  have hn1 : m.kind = 3 -> A.addN n0 1 = (Z1h (j.moves.take (k + 1)) 0).length := fun h => by rw [hsn, if_pos h, Z2e hA, u3]; simp
  have hr1 : m.kind = 3 -> A.app R [I i] = Z1y (Z1h (j.moves.take (k + 1)) 0) := fun h => by rw [hsn, if_pos h, Z33 hA, u4, hie]; simp [Z1y]
  have hn2 : m.kind ≠ 3 -> n0 = (Z1h (j.moves.take (k + 1)) 0).length := fun h => by rw [hsn, if_neg h, u3]
  have hr2 : m.kind ≠ 3 -> R = Z1y (Z1h (j.moves.take (k + 1)) 0) := fun h => by rw [hsn, if_neg h, u4]
  cbv;refine ⟨hin, ⟨_, hg, ?_⟩⟩;cbv;refine bm (fun c2 => ?_) (fun c2 => ?_)
  ·have h1 := hn1 (xeq hA c2);have h2 := hr1 (xeq hA c2);cbv;refine ⟨Ze hA hRl, Ze hA rfl, Z27 hA hn0 (by decide), hf1, ?_⟩;refine Z8 (A.add i 1, k + 1, A.addN n0 1, A.app R [I i]) [3] ⟨hk, hu2, h1, h2⟩ hms ?_;exact ⟨by decide, Z9, ⟨rfl, trivial⟩, ⟨rfl, rfl, rfl, rfl, trivial⟩, rfl, rfl⟩
  ·have h1 := hn2 (Z2o hA c2);have h2 := hr2 (Z2o hA c2);cbv;refine ⟨hf1, ?_⟩;refine Z8 (A.add i 1, k + 1, n0, R) [0] ⟨hk, hu2, h1, h2⟩ hms ?_;exact ⟨by decide, Z9, ⟨rfl, trivial⟩, ⟨rfl, rfl, rfl, rfl, trivial⟩, rfl, rfl⟩
 ·have hk := hno c;have hRE : R = Z1y (Zp j) := by rw [u4, hk, List.take_length]; rfl
  have hz := hq R hRE;cbv;refine Z7 ?_;cbv;refine Z1w [0] ?_;cbv;exact ⟨by cases R <;> exact hRl.symm, Z2 [] (by decide) Z9 (H' := []) (d' := .sl 1 R) trivial rfl (Z1 hz)⟩
theorem Zyb (j : Jn) (hm : j.moves.length <= 1000) (FL ML : List D) (hM : ML = j.moves.map mvD) (Q) (hq : ∀ CL, CL = Z1y (Zp j) -> Q (RA.ret (.sl 1 CL)) [.box (.agg [.fn 69 [.cb (.agg [I j.ins, .sl 1 FL, .sl 5 ML]) 0], .v (.bool true), .sl 1 CL])]) :
  CallA Tryz.prog 71 [.b 0 0] [.box (.agg [.fn 69 [.cb (.agg [I j.ins, .sl 1 FL, .sl 5 ML]) 0], .v (.bool false), .v (.slice none 0 0)])] Q := by
 obtain ⟨A, hA⟩ : ∃ A, A = ar := ⟨_, rfl⟩;have hb0 : A.bnot false = true := by subst hA; rfl
 refine Z5 Z0 hA Tryz.func71 rfl rfl rfl rfl rfl fun S hS => ?_;cbv;refine bm (fun _ => ?_) (fun c => Bool.noConfusion (hb0.symm.trans c));cbv;refine Z4 hS [.cb (.agg [I j.ins, .sl 1 FL, .sl 5 ML]) 0] [] [] rfl rfl rfl rfl rfl rfl rfl rfl (by decide) trivial (Zvo j hm FL ML hM _ fun CL hCL => ?_);have hz := hq CL hCL;refine Z3 Z0 hA hS ?_;cbv;exact Z2 [0] (by decide) Z2n (H' := [.box (.agg [.fn 69 [.cb (.agg [I j.ins, .sl 1 FL, .sl 5 ML]) 0], .v (.bool true), .sl 1 CL])]) (d' := .sl 1 CL) ⟨rfl, trivial⟩ rfl (Z1 hz)
theorem Zsz (jD : D) (CL : List D) (Q) (hq : Q (RA.ret (.sl 1 CL)) [.box (.agg [.fn 69 [.cb jD 0], .v (.bool true), .sl 1 CL])]) :
  CallA Tryz.prog 71 [.b 0 0] [.box (.agg [.fn 69 [.cb jD 0], .v (.bool true), .sl 1 CL])] Q := by
 obtain ⟨A, hA⟩ : ∃ A, A = ar := ⟨_, rfl⟩;have hb1 : A.bnot true = false := by subst hA; rfl
 refine Z5 Z0 hA Tryz.func71 rfl rfl rfl rfl rfl fun S hS => ?_;cbv;refine bm (fun c => Bool.noConfusion (hb1.symm.trans c)) (fun _ => ?_);cbv;exact Z2 [0] (by decide) Z2n (H' := [.box (.agg [.fn 69 [.cb jD 0], .v (.bool true), .sl 1 CL])]) (d' := .sl 1 CL) ⟨rfl, trivial⟩ rfl (Z1 hq)
end Go.Proofs.YthljpccegkmdnaaGreatDoor

namespace Go.Batch
def Z6o (j : Jn) (l : List Nat) : Bool := Zc (Z12 j l)
def Z46 (cs l : List Nat) (k left : Nat) : List (List Nat) := (Zw (cs.drop k) left).map (l ++ ·)
theorem Zhk (cs l : List Nat) (k : Nat) : Z46 cs l k 0 = [l] := by
 unfold Z46
 cases cs.drop k <;> simp [Zw]
theorem Zt0 {cs : List Nat} (l : List Nat) {k left : Nat} (h : cs.length <= k) : Z46 cs l k (left + 1) = [] := by
 unfold Z46;rw [List.drop_eq_nil_of_le h]; rfl
theorem Zqh {cs : List Nat} (l : List Nat) {k left x : Nat} (h : cs[k]? = some x) : Z46 cs l k (left + 1) = Z46 cs (l ++ [x]) (k + 1) left ++ Z46 cs l (k + 1) (left + 1) := by
 unfold Z46;obtain ⟨h1, h2⟩ := List.getElem?_eq_some_iff.1 h;rw [List.drop_eq_getElem_cons h1, h2, Zw, List.map_append, List.map_map]
 congr 1
 exact List.map_congr_left fun y _ => by simp
theorem Ze6 {α : Type} : ∀ l : List α, Zw l l.length = [l]
 | [] => rfl
 | x :: l => by
  have h : ∀ (l : List α) (n : Nat), l.length < n -> Zw l n = [] := by
   intro l
   induction l with
   | nil => intro n h; cases n with | zero => exact absurd h (Nat.not_lt_zero _) | succ n => rfl
   | cons y l ih =>
    intro n h
    cases n with
    | zero => exact absurd h (by simp)
    | succ n => simp only [List.length_cons] at h; rw [Zw, ih n (by omega), ih (n + 1) (by omega)]; rfl
  rw [List.length_cons, Zw, Ze6 l, h l _ (Nat.lt_succ_self _)]; rfl
theorem Zt1 {j : Jn} {s : Nat} {c : List Nat} (hs : s <= (Zp j).length) (h0 : ∀ t, t < s -> (Zw (Zp j) t).find? (Z6o j) = none) (h : (Zw (Zp j) s).find? (Z6o j) = some c) : Z6c j = some c := by
 have e : (List.range ((Zp j).length + 1)) = List.range s ++ ([s] ++ (List.range ((Zp j).length - s)).map (s + 1 + ·)) := by
  rw [show (Zp j).length + 1 = (s + 1) + ((Zp j).length - s) by omega, List.range_add, List.range_succ, List.append_assoc]
 unfold Z6c Z9t;rw [e, List.flatMap_append, List.find?_append];have : ((List.range s).flatMap (Zw (Zp j))).find? (fun l => Zc (Z12 j l)) = none := by
  rw [List.find?_eq_none];intro x hx;obtain ⟨t, ht, hxt⟩ := List.mem_flatMap.1 hx;exact List.find?_eq_none.1 (h0 t (List.mem_range.1 ht)) x hxt
 rw [this, Option.none_or, List.flatMap_append, List.find?_append];have h2 : ([s].flatMap (Zw (Zp j))).find? (fun l => Zc (Z12 j l)) = some c := by
  have e2 : [s].flatMap (Zw (Zp j)) = Zw (Zp j) s := by simp
  rw [e2]; exact h
 rw [h2]; rfl
end Go.Batch
namespace Go.Proofs.YthljpccegkmdnaaGreatDoor
open Go Go.Abs Go.Proofs Go.Batch
def grH (j : Jn) (FL ML CL : List D) (fd : D) : List Blk :=
 [.box fd, .box (.agg [.fn 69 [.cb (.agg [I j.ins, .sl 1 FL, .sl 5 ML]) 0], .v (.bool true), .sl 1 CL]), .box (.fn 72 [.cb (.agg [I j.ins, .sl 1 FL, .sl 5 ML]) 0, .b 0 0, .b 1 0, .b 2 0])]
set_option maxRecDepth 20000 in
set_option maxHeartbeats 8000000 in
theorem Zyc (j : Jn) (hj : JOk j) (FL ML : List D) (hF : FL = j.first.map Zv) (hM : ML = j.moves.map mvD) (cs : List Nat) (hcs : cs.length <= 10) (CL : List D) (hCL : CL = Z1y cs) :
  ∀ (left : Nat) (l : List Nat) (from_ : Nat) (X L : List D) (fI lI : Int), L = Z1y l -> from_ <= cs.length -> l.length + left <= 100 -> IsI fI from_ -> IsI lI left -> ∀ Q,
  (∀ c, (Z46 cs l from_ left).find? (Z6o j) = some c -> ∀ NC, NC = Z1y c -> Q (RA.ret (.v (.bool true))) (grH j FL ML CL (.sl 1 NC))) ->
  ((Z46 cs l from_ left).find? (Z6o j) = none -> ∀ X', Q (RA.ret (.v (.bool false))) (grH j FL ML CL (.sl 1 X'))) ->
  CallA Tryz.prog 72 [.sl 1 L, I fI, I lI, .cb (.agg [I j.ins, .sl 1 FL, .sl 5 ML]) 0, .b 0 0, .b 1 0, .b 2 0] (grH j FL ML CL (.sl 1 X)) Q := by
 obtain ⟨A, hA⟩ : ∃ A, A = ar := ⟨_, rfl⟩;have hm10 := hj.m10;have hCl : CL.length = cs.length := by rw [hCL]; simp [Z1y]
 intro left
 induction left with
 | zero =>
  intro l from_ X L fI lI hL hfl hll hfi hli Q hq1 hq0;have hll6 : l.length <= 1000000 := by omega
  have hwo := fun Q => Zl4 j (by omega) l hll6 FL ML L hM hL Q;have hst := fun ML' hM' Q => Zan (Z12 j l) (hj.without l) Zn 51 [] Z73 FL ML' (show FL = (Z12 j l).first.map Zv from hF) hM' Q;have hc0 : A.cmp .eql lI 0 = true := by have := hli.eq; subst hA; simp [ar, Z25, this]
  have hy : Zc (Z12 j l) = true -> (Z46 cs l from_ 0).find? (Z6o j) = some l := fun h => by rw [Zhk]; simp [List.find?, Z6o, h]
  have hn : Zc (Z12 j l) = false -> (Z46 cs l from_ 0).find? (Z6o j) = none := fun h => by rw [Zhk]; simp [List.find?, Z6o, h]
  refine Z5 Z0 hA Tryz.func72 rfl rfl rfl rfl rfl fun S hS => ?_;cbv;refine bm (fun _ => ?_) (fun c => Bool.noConfusion (hc0.symm.trans c));cbv;refine Z4 hS [.agg [I j.ins, .sl 1 FL, .sl 5 ML], .sl 1 L] [] [] rfl rfl rfl rfl rfl rfl rfl rfl (by decide) trivial (hwo _ fun ML' hML' => ?_);refine Z3 Z0 hA hS ?_;cbv;refine Z4 hS [.agg [I j.ins, .sl 1 FL, .sl 5 ML'], .fn 51 []] [] [] rfl rfl rfl rfl rfl rfl rfl rfl (by decide) trivial (hst ML' hML' _ (fun ents hme hne => ?_) (fun h0 => ?_))
  ·have hz := hq1 l (hy ((Z28 _ Zn).2 hne)) L hL;refine Z3 Z0 hA hS ?_;cbv;exact Z2 [0, 1, 2] (by decide) Zeb (H' := grH j FL ML CL (.sl 1 L)) (d' := .v (.bool true)) ⟨rfl, rfl, rfl, trivial⟩ rfl (Z1 hz)
  ·have hz := hq0 (hn (Z3y h0)) L;refine Z3 Z0 hA hS ?_;cbv;exact Z2 [0, 1, 2] (by decide) Zeb (H' := grH j FL ML CL (.sl 1 L)) (d' := .v (.bool false)) ⟨rfl, rfl, rfl, trivial⟩ rfl (Z1 hz)
 | succ left ih =>
  intro l from_ X L fI lI hL hfl hll hfi hli Q hq1 hq0;have hLl : L.length = l.length := by rw [hL]; simp [Z1y]
  obtain ⟨n, hn⟩ : ∃ n, n = l.length := ⟨_, rfl⟩;rw [<- hn] at hLl;have hn6 : n <= 1000000 := by omega
  have hc0 : A.cmp .eql lI 0 = false := by have := hli.eq; subst hA; simp [ar, Z25, this]; omega
  have hfl1 : A.fits .i64 (A.sub lI 1) := Z14 hA (Z24 hA lI 1) (by have := hli.eq; omega);have hli1 : IsI (A.sub lI 1) left := ⟨by rw [Z24 hA]; have := hli.eq; omega⟩;refine Z5 Z0 hA Tryz.func72 rfl rfl rfl rfl rfl fun S hS => ?_;cbv;refine bm (fun c => Bool.noConfusion (hc0.symm.trans c)) (fun _ => ?_);cbv;refine Zb hS ?_;refine Za (α := Int × Nat × List D) (fun q => { env := [(0, .sl 1 L), (2, I lI), (3, .cb (.agg [I j.ins, .sl 1 FL, .sl 5 ML]) 0), (4, .b 0 0), (5, .b 1 0), (6, .b 2 0), (13, I q.1)], H := grH j FL ML CL (.sl 1 q.2.2), nt := 46, dfs := [] })
   (fun q => cs.length - q.2.1) (fun q => q.2.1 <= cs.length /\ IsI q.1 q.2.1 /\ (Z46 cs l from_ (left + 1)).find? (Z6o j) = (Z46 cs l q.2.1 (left + 1)).find? (Z6o j)) (fI, from_, X) ⟨hfl, hfi, rfl⟩ ?_ ?_
  ·exact Zf [0, 1, 2] ⟨by decide, Zeb, ⟨rfl, rfl, rfl, trivial⟩, ⟨rfl, rfl, rfl, rfl, rfl, rfl, rfl, trivial⟩, rfl, rfl⟩
  rintro ⟨i, k, X1⟩ ⟨u1, u2, u3⟩;dsimp only at u1 u2 u3;have hyes : A.cmp .lss i (A.oi (A.len CL)) = true -> k < cs.length := fun c => Z31 hA hCl u2 c;have hno : A.cmp .lss i (A.oi (A.len CL)) = false -> cs.length <= k := fun c => Z21 hA hCl u2 c;have hend : cs.length <= k -> (Z46 cs l from_ (left + 1)).find? (Z6o j) = none := fun h => by rw [u3, Zt0 l h]; rfl
  refine Zi Z0 hA hS ?_;cbv;refine Z4 hS [.b 0 0] [1] [.box (.agg [.fn 69 [.cb (.agg [I j.ins, .sl 1 FL, .sl 5 ML]) 0], .v (.bool true), .sl 1 CL])] rfl rfl rfl rfl rfl rfl rfl rfl (by decide) ⟨rfl, trivial⟩ (Zsz _ CL _ ?_);refine Z3 Z0 hA hS ?_;cbv;refine bm (fun c => ?_) (fun c => ?_)
  ·have hk := hyes c;obtain ⟨x, hx⟩ : ∃ x, cs[k]? = some x := ⟨_, List.getElem?_eq_getElem hk⟩;obtain ⟨xI, hxI⟩ : ∃ z : Int, z = (x : Nat) := ⟨_, rfl⟩;have hCk : CL[k]? = some (I xI) := by rw [hCL, hxI]; simp [Z1y, hx]
   have hin := Z1b hA hCl u2 hk;have hg := Z18 hA u2 hCk;have hf1 := Zy hA u2 (by omega);have hu2 := Zz hA u2;have hms : cs.length - (k + 1) < cs.length - k := by omega
   have hcn := Zqh l (left := left) hx;have hfa : (Z46 cs l k (left + 1)).find? (Z6o j) = ((Z46 cs (l ++ [x]) (k + 1) left).find? (Z6o j)).or ((Z46 cs l (k + 1) (left + 1)).find? (Z6o j)) := by rw [hcn, List.find?_append]
   have hyy : ∀ c, (Z46 cs (l ++ [x]) (k + 1) left).find? (Z6o j) = some c -> (Z46 cs l from_ (left + 1)).find? (Z6o j) = some c := fun c h => by rw [u3, hfa, h]; rfl
   have hnn : (Z46 cs (l ++ [x]) (k + 1) left).find? (Z6o j) = none -> (Z46 cs l from_ (left + 1)).find? (Z6o j) = (Z46 cs l (k + 1) (left + 1)).find? (Z6o j) := fun h => by rw [u3, hfa, h]; rfl
   have hL2 : A.app L [I xI] = Z1y (l ++ [x]) := by rw [Z33 hA, hL, hxI]; simp [Z1y]
   have hapl : A.addN n 1 = A.len (A.app L [I xI]) := by subst hA; show n + 1 = (L ++ [I xI]).length; simp [hLl]
   have hrec := ih (l ++ [x]) (k + 1) X1 (A.app L [I xI]) (A.add i 1) (A.sub lI 1) hL2 hk (by simp; omega) hu2 hli1;cbv;refine Z16 Z0 hA hS [0, 1, 4, 9, 10, 11, 12, 2, 3, 5, 6, 7, 8, 13] rfl rfl fun Dk hD => ?_;cbv;refine ⟨hf1, hfl1, ?_⟩;refine Zq hA hD [.sl 1 L] [] [] rfl rfl rfl rfl rfl rfl rfl rfl rfl rfl rfl (by decide) trivial (Zvn L n hLl hn6 _ ⟨by cbv, Zx Z0 hA hD ?_⟩);cbv;refine Zq hA hD [.b 0 0] [1] [.box (.agg [.fn 69 [.cb (.agg [I j.ins, .sl 1 FL, .sl 5 ML]) 0], .v (.bool true), .sl 1 CL])] rfl rfl rfl rfl rfl rfl rfl rfl rfl rfl rfl (by decide) ⟨rfl, trivial⟩ (Zsz _ CL _ ⟨by cbv, Zx Z0 hA hD ?_⟩);cbv;refine ⟨hin, ⟨_, hg, ?_⟩⟩;cbv;refine ⟨Ze hA hLl, Ze hA rfl, Z27 hA hn6 (by decide), (by repeat' (first | exact trivial | exact Need.mk ⟨_, hg, rfl⟩ | exact hin | refine ⟨?_, ?_⟩)), ?_⟩;refine Zmn hA hD [5] rfl rfl rfl rfl rfl rfl fun CG hC => ?_;cbv;refine ⟨Zkd hA hapl, ?_⟩;rw [hC];refine Zs5 [.sl 1 (A.app L [I xI]), I (A.add i 1), I (A.sub lI 1), .cb (.agg [I j.ins, .sl 1 FL, .sl 5 ML]) 0, .b 0 0, .b 1 0, .b 2 0] [0, 1, 2] (grH j FL ML CL (.sl 1 X1)) rfl rfl rfl rfl rfl (by decide) ⟨rfl, rfl, rfl, trivial⟩
    (hrec _ (fun c hc NC hNC => Zo8 hA Z0 hD ?_ ?_) (fun h0 X' => Zo8 hA Z0 hD ?_ ?_))
   ·cbv; repeat' (first | exact trivial | exact Need.mk ⟨_, hg, rfl⟩ | exact hin | refine ⟨?_, ?_⟩)
   ·have hz := hq1 c (hyy c hc) NC hNC;cbv;refine Z7 ?_;cbv;exact Z2 [0, 1, 2] (by decide) Zeb (H' := grH j FL ML CL (.sl 1 NC)) (d' := .v (.bool true)) ⟨rfl, rfl, rfl, trivial⟩ rfl (Z1 hz)
   ·cbv; repeat' (first | exact trivial | exact Need.mk ⟨_, hg, rfl⟩ | exact hin | refine ⟨?_, ?_⟩)
   ·have hz := hnn h0;cbv;refine ⟨hf1, ?_⟩;refine Z8 (A.add i 1, k + 1, X') [0, 1, 2] ⟨hk, hu2, hz⟩ hms ?_;exact ⟨by decide, Zeb, ⟨rfl, rfl, rfl, trivial⟩, ⟨rfl, rfl, rfl, rfl, rfl, rfl, rfl, trivial⟩, rfl, rfl⟩
  ·have hz := hq0 (hend (hno c)) X1;cbv;refine Z7 ?_;cbv;exact Z2 [0, 1, 2] (by decide) Zeb (H' := grH j FL ML CL (.sl 1 X1)) (d' := .v (.bool false)) ⟨rfl, rfl, rfl, trivial⟩ rfl (Z1 hz)
set_option maxRecDepth 20000 in
set_option maxHeartbeats 8000000 in
theorem Zt2 (j : Jn) (hf : j.first.length <= 1152921504606846976) (hm : j.moves.length <= 1152921504606846976) (FL ML : List D) (hF : FL = j.first.map Zv) (hM : ML = j.moves.map mvD) (Q)
  (he : ∀ e, e = Zr j -> e ≠ 0 -> Q (RA.ret (.tup [.v (.slice none 0 0), I e])) []) (hp : JOk j -> Zc (Z12 j (Zp j)) = false -> Q (RA.ret (.tup [.v (.slice none 0 0), I 9])) [])
  (hq : JOk j -> Zc (Z12 j (Zp j)) = true -> ∀ c, Z6c j = some c -> ∀ L, L = Z1y c -> Q (RA.ret (.tup [.sl 1 L, I 0])) []) :
  CallA Tryz.prog 25 [.agg [I j.ins, .sl 1 FL, .sl 5 ML]] [] Q := by
 obtain ⟨A, hA⟩ : ∃ A, A = ar := ⟨_, rfl⟩;obtain ⟨e1, he1⟩ : ∃ e1, e1 = Zr j := ⟨_, rfl⟩;have hb1 : A.bnot true = false := by subst hA; rfl
 have hb0 : A.bnot false = true := by subst hA; rfl
 refine Z5 Z0 hA Tryz.func25 rfl rfl rfl rfl rfl fun S hS => ?_;cbv;refine Z4 hS [.agg [I j.ins, .sl 1 FL, .sl 5 ML]] [] [] rfl rfl rfl rfl rfl rfl rfl rfl (by decide) trivial (bCheck j hf hm FL ML hF hM e1 he1 _ ?_);refine Z3 Z0 hA hS ?_;cbv;refine bm (fun c => ?_) (fun c => ?_)
 ·have hz := he e1 he1 (xne hA c);cbv;exact Z2 [] (by decide) Z9 (H' := []) (d' := .tup [.v (.slice none 0 0), I e1]) trivial rfl (Z1 hz)
 have hc0 : Zr j = 0 := he1.symm.trans (Z4t hA c);have hj : JOk j := Z2r hc0;have hm10 := hj.m10;obtain ⟨cs, hcs⟩ : ∃ cs, cs = Zp j := ⟨_, rfl⟩;have hcl : cs.length <= 10 := by rw [hcs]; exact Nat.le_trans (Z7j _ _) hm10
 obtain ⟨n, hn⟩ : ∃ n, n = cs.length := ⟨_, rfl⟩;have hg0 := fun Q => Zyb j (by omega) FL ML hM Q;have hwo := fun CL (h : CL = Z1y cs) Q => Zl4 j (by omega) cs (by omega) FL ML CL hM h Q;have hst := fun ML' hM' Q => Zan (Z12 j cs) (hj.without cs) Zn 51 [] Z73 FL ML' (show FL = (Z12 j cs).first.map Zv from hF) hM' Q;rw [<- hcs] at hg0;have hp0 := fun (h : Zc (Z12 j cs) = false) => hp hj (by rw [<- hcs]; exact h);have hq0 := fun (h : Zc (Z12 j cs) = true) c hc L hL => hq hj (by rw [<- hcs]; exact h) c hc L hL;cbv;refine Z3h hS (Z1a hA [0] ?_);cbv;refine Z7 ?_;refine Z16 Z0 hA hS [0, 1, 2, 3, 4, 5, 6, 7, 8] rfl rfl fun Dk hD => ?_;cbv;refine Zq hA hD [.b 0 0] [1] [.box (.agg [.fn 69 [.cb (.agg [I j.ins, .sl 1 FL, .sl 5 ML]) 0], .v (.bool false), .v (.slice none 0 0)])] rfl rfl rfl rfl rfl rfl rfl rfl rfl rfl rfl (by decide) ⟨rfl, trivial⟩ (hg0 _ fun CL hCL => ⟨by cbv, Zx Z0 hA hD ?_⟩);have hCl : CL.length = n := by rw [hCL, hn]; simp [Z1y]
 have hwo' := hwo CL hCL;cbv;refine Zq hA hD [.agg [I j.ins, .sl 1 FL, .sl 5 ML], .sl 1 CL] [] [] rfl rfl rfl rfl rfl rfl rfl rfl rfl rfl rfl (by decide) trivial (hwo' _ fun ML' hML' => ⟨by cbv, Zx Z0 hA hD ?_⟩);cbv;refine Zq hA hD [.agg [I j.ins, .sl 1 FL, .sl 5 ML'], .fn 51 []] [] [] rfl rfl rfl rfl rfl rfl rfl rfl rfl rfl rfl (by decide) trivial (hst ML' hML' _ (fun ents hme hne => ⟨by cbv, Zx Z0 hA hD ?_⟩) (fun h0 => ⟨by cbv, Zx Z0 hA hD ?_⟩))
 ·have hs : Zc (Z12 j cs) = true := (Z28 _ Zn).2 hne;have hall : Z6o j cs = true := hs;have hq1 := hq0 hs;have hfits : A.fits .i64 (A.add (A.oi (A.len CL)) 1) := Z14 hA (by rw [Z58 hA, yoiL hA hCl]) (by omega);have hn1 : IsI (A.add (A.oi (A.len CL)) 1) (n + 1) := ⟨by rw [Z58 hA, yoiL hA hCl]; omega⟩;obtain ⟨n1, hn1E⟩ : ∃ n1, n1 = A.add (A.oi (A.len CL)) 1 := ⟨_, rfl⟩;rw [<- hn1E] at hn1;cbv;refine bm (fun c => Bool.noConfusion (hb1.symm.trans c)) (fun _ => ?_);cbv;refine Z4 hS [.b 0 0] [1] [.box (.agg [.fn 69 [.cb (.agg [I j.ins, .sl 1 FL, .sl 5 ML]) 0], .v (.bool true), .sl 1 CL])] rfl rfl rfl rfl rfl rfl rfl rfl (by decide) ⟨rfl, trivial⟩ (Zsz _ CL _ ?_);refine Z3 Z0 hA hS ?_;cbv;refine ⟨hfits, ?_⟩;refine Zb hS ?_;refine Za (α := Int × Nat × List D) (fun q => { env := [(8, .b 0 0), (9, .b 2 0), (30, I n1), (31, I q.1)], H := grH j FL ML CL (.sl 1 q.2.2), nt := 39, dfs := [] })
   (fun q => n + 1 - q.2.1) (fun q => q.2.1 <= n + 1 /\ IsI q.1 q.2.1 /\ ∀ t, t < q.2.1 -> (Zw cs t).find? (Z6o j) = none) (0, 0, []) ⟨Nat.zero_le _, ⟨rfl⟩, fun t h => absurd h (Nat.not_lt_zero t)⟩ ?_ ?_
  ·rw [hn1E];refine Z7w 3 (.sl 1 []) rfl ⟨WkD.nil, trivial⟩ ?_;exact Zf [3, 1, 4] ⟨by decide, Z9, ⟨rfl, rfl, rfl, trivial⟩, ⟨rfl, rfl, rfl, rfl, trivial⟩, rfl, rfl⟩
  rintro ⟨i, k, X⟩ ⟨u1, u2, u3⟩;dsimp only at u1 u2 u3;have hyes : A.cmp .lss i n1 = true -> k < n + 1 := fun c => by have := xlt hA c; have := hn1.eq; have := u2.eq; omega
  have hno : A.cmp .lss i n1 = false -> k = n + 1 := fun c => by have := Z7x hA c; have := hn1.eq; have := u2.eq; omega
  have hend : k = n + 1 -> False := fun h => by
   have := u3 n (by omega);rw [hn, Ze6] at this;simp [List.find?, hall] at this
  have hz0 : IsI 0 0 := ⟨rfl⟩;have hf1 : k < n + 1 -> A.fits .i64 (A.add i 1) := fun h => Zy hA u2 (by omega);have hu2 := Zz hA u2;have hms : k < n + 1 -> n + 1 - (k + 1) < n + 1 - k := fun h => by omega
  have hgr := fun (h : k < n + 1) Q => Zyc j hj FL ML hF hM cs hcl CL hCL k [] 0 X [] 0 i rfl (Nat.zero_le _) (by simp; omega) hz0 u2 Q;have hcand : Z46 cs [] 0 k = Zw cs k := by unfold Z46; simp
  rw [hcand] at hgr;have hnext : (Zw cs k).find? (Z6o j) = none -> ∀ t, t < k + 1 -> (Zw cs t).find? (Z6o j) = none := fun h t ht => by
   by_cases e : t = k
   ·rw [e]; exact h
   ·exact u3 t (by omega)
  have hfound : k < n + 1 -> ∀ c, (Zw cs k).find? (Z6o j) = some c -> Z6c j = some c := fun h c hc => by
   subst hcs;exact Zt1 (by omega) u3 hc
  refine Zi Z0 hA hS ?_;cbv;refine bm (fun c => ?_) (fun c => ?_)
  ·have hk := hyes c;have hf2 := hf1 hk;have hm2 := hms hk;have hfo := hfound hk;have hg2 := hgr hk;cbv;refine Z4 hS [.v (.slice none 0 0), I 0, I i, .cb (.agg [I j.ins, .sl 1 FL, .sl 5 ML]) 0, .b 0 0, .b 1 0, .b 2 0] [0, 1, 2] (grH j FL ML CL (.sl 1 X)) rfl rfl rfl rfl rfl rfl rfl rfl (by decide) ⟨rfl, rfl, rfl, trivial⟩
    (Z4z (as' := [.sl 1 [], I 0, I i, .cb (.agg [I j.ins, .sl 1 FL, .sl 5 ML]) 0, .b 0 0, .b 1 0, .b 2 0]) ⟨WkD.nil, WkL.rfl⟩ (hg2 _ (fun c hc NC hNC => ?_) (fun h0 X' => ?_)))
   ·have hz := hq1 c (hfo c hc) NC hNC;refine Z3 Z0 hA hS ?_;cbv;refine Z7 ?_;cbv;exact Z2 [] (by decide) Z9 (H' := []) (d' := .tup [.sl 1 NC, I 0]) trivial rfl (Z1 hz)
   ·have hz := hnext h0;refine Z3 Z0 hA hS ?_;cbv;refine ⟨hf2, ?_⟩;refine Z8 (A.add i 1, k + 1, X') [0, 1, 2] ⟨hk, hu2, hz⟩ hm2 ?_;exact ⟨by decide, Z9, ⟨rfl, rfl, rfl, trivial⟩, ⟨rfl, rfl, rfl, rfl, trivial⟩, rfl, rfl⟩
  ·exact (hend (hno c)).elim
 ·have hz := hp0 (Z3y h0);cbv;refine bm (fun _ => ?_) (fun c => Bool.noConfusion (hb0.symm.trans c));cbv;exact Z2 [] (by decide) Z9 (H' := []) (d' := .tup [.v (.slice none 0 0), I 9]) trivial rfl (Z1 hz)
end Go.Proofs.YthljpccegkmdnaaGreatDoor
