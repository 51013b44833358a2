/- Part TxAX of the proofs about the benches of the accordion maker: see the last text of the claim for what is proved. -/
import Derived.Test.YthljpccegkmdnaaGreatDoorTxAW
set_option linter.unusedVariables false
set_option linter.unusedSimpArgs false
set_option linter.unnecessarySimpa false
set_option linter.constructorNameAsVariable false

namespace Go.Proofs.YthljpccegkmdnaaGreatDoor
open Go Go.Abs Go.Proofs Go.Batch
structure TookOk (f : FuncId) (caps : List D) (tk : Tk Int) : Prop where
 cp : Zn5 caps
 b : TkB tk
 call : ∀ (x i : Int) (b : Nat) (bi n : Int), IsI bi b -> b < 4 -> 0 <= x -> x <= 1000 -> 0 <= i -> i < 4 -> 1 <= n -> n <= 5 -> ∀ r, r = tk x i b n -> ∀ Q : RA -> List Blk -> Prop, Q (RA.ret (I r)) [] -> CallA Tryz.prog f ([I x, I i, I bi, I n] ++ caps) [] Q
structure DrP where
 d1 : D
 d2 : D
 d3 : D
 d4 : D
 d5 : D
 d6 : D
 b : D
 s : D
 x : D
 ents : List (List Int × D)
 bs : List Nat
 seen : List Nat
 clock : Nat
 m1 : Int
 m2 : Int
 m3 : Int
 m4 : Int
 m5 : Int
 last : Int
 i : Int
 n : Int
 VL : List D
 vl : Int
 k : Int
 asg : Code
 bdy : Code
def drH (P : DrP) (e : List (List Int × D)) : List Blk :=
  [.ob (.lp .ready none [(99, .fn 174 [.cb P.d1 0, .cb P.d2 0, .cb P.d3 0, .cb P.d4 0, .cb P.d5 0, .cb P.d6 0]), (1, .cb P.b 0), (5, .ifc 221 (.agg [I P.m1, I P.m2, I P.m3, I P.m4, I P.m5])), (6, .b 3 0), (7, .cb P.s 0), (11, .cb P.x 0), (13, I P.last), (14, I P.i), (15, I P.n), (22, .sl 1 P.VL), (23, I P.vl), (24, I P.k), (30, .b 4 0)] 132 [100] P.asg P.bdy),
   .ob (.mpx 5 P.ents P.bs P.clock), .ob (.mp 5 e), .box (.mv 2), .ob (.mi 1 P.clock P.seen P.clock)]
structure RoundS (P : DrP) : Prop where
 out : ∀ (x0 x1 x2 x3 nt : Int) (e e' : List (List Int × D)), e' = ar.mput e [x0, x1, x2, x3, nt] tD -> ∀ Q, Q (RA.ret (.v (.bool true))) (drH P e' ++ [.dead]) -> RoundA Tryz.prog 0 [.agg [I x0, I x1, I x2, I x3, I nt]] (drH P e) Q
theorem Zdi {most least : Int} : (Z9p most least).length = (most + 1 - least).toNat := by simp [Z9p]
theorem Zhf {most least : Int} {t : Nat} (h : t < (Z9p most least).length) : (Z9p most least)[t]? = some (most - t) := by
 simp only [Zdi] at h;simp [Z9p, h]
theorem Zg0 {tk : Tk Int} {fifo : Bool} {bin inst : Int} {bins : List Int} {k : Nat} {b : Int} {s : Ste Int} {a : Int} (hb : bins[k]? = some b) (ha : a ≠ 0) (h : b ≠ bin ∨ s.1.getD k 0 = 0) :
  Zl fifo tk bin inst (bins.drop k) k s a = Zl fifo tk bin inst (bins.drop (k + 1)) (k + 1) s a := by
 rw [drop_at hb, Zl, if_neg ha, if_neg];rintro ⟨h1, h2⟩;rcases h with h | h
 ·exact h h1
 ·exact h2 h
theorem Zg1 {tk : Tk Int} {fifo : Bool} {bin inst : Int} {bins : List Int} {k : Nat} {s : Ste Int} {a : Int} (hb : bins[k]? = some bin) (ha : a ≠ 0) (h : s.1.getD k 0 ≠ 0) :
  Zl fifo tk bin inst (bins.drop k) k s a = (Z9p (min a (s.1.getD k 0)) (if fifo then min a (s.1.getD k 0) else 0)).flatMap fun n => Zl fifo tk bin inst (bins.drop (k + 1)) (k + 1) (Z3n tk inst s k n) (a - n) := by
 rw [drop_at hb, Zl, if_neg ha, if_pos ⟨rfl, h⟩]
theorem Zhg {tk : Tk Int} {fifo : Bool} {bin inst : Int} {bins : List Int} {k : Nat} {s : Ste Int} {a : Int} (hb : bins.length <= k) (ha : a ≠ 0) : Zl fifo tk bin inst (bins.drop k) k s a = [] := by
 rw [List.drop_eq_nil_of_le hb, Zl, if_neg ha]
theorem Zn7 {tk : Tk Int} {fifo : Bool} {bin inst : Int} (bs : List Int) (k : Nat) (s : Ste Int) : Zl fifo tk bin inst bs k s 0 = [s] := by
 cases bs <;> simp [Zl]
theorem Zww {l : List Int} (h : LOk l) {x0 x1 x2 x3 : Int} (e : l = [x0, x1, x2, x3]) (k : Nat) (hk : k < 4) : ∃ x : Int, x = l.getD k 0 /\ 0 <= x /\ x <= 5 /\ ∀ z, ([I x0, I x1, I x2, I x3, z] : List D)[0 + k]? = some (I x) := by
 refine ⟨_, rfl, h.lo k, h.hi k, fun z => ?_⟩;rw [e, Nat.zero_add]
 match k, hk with
 | 0, _ => rfl
 | 1, _ => rfl
 | 2, _ => rfl
 | 3, _ => rfl
theorem Zwx {l : List Int} {x0 x1 x2 x3 : Int} (e : l = [x0, x1, x2, x3]) (k : Nat) (hk : k < 4) (x : Int) : ∃ y0 y1 y2 y3, l.set k x = [y0, y1, y2, y3] /\ ∀ z, ([I x0, I x1, I x2, I x3, z] : List D).set (0 + k) (I x) = [I y0, I y1, I y2, I y3, z] := by
 subst e;rw [Nat.zero_add]
 match k, hk with
 | 0, _ => exact ⟨_, _, _, _, rfl, fun _ => rfl⟩
 | 1, _ => exact ⟨_, _, _, _, rfl, fun _ => rfl⟩
 | 2, _ => exact ⟨_, _, _, _, rfl, fun _ => rfl⟩
 | 3, _ => exact ⟨_, _, _, _, rfl, fun _ => rfl⟩
theorem Zky {l : List Int} (h : LOk l) {k : Nat} (hk : k < 4) : l.set k (l.getD k 0) = l := by
 have hl := h.len;rw [List.getD_eq_getElem?_getD, List.getElem?_eq_getElem (show k < l.length by omega)];exact List.set_getElem_self _
set_option maxRecDepth 20000 in
set_option maxHeartbeats 4000000 in
theorem Zy7 (ins : Int) (first : List Bool) (bins : List Int) (hb4 : bins.length <= 4) (bin inst : Int) (bn : Nat) (hbn : IsI bin bn) (fifo : Bool) (hff : first[bn]? = some fifo) (hi0 : 0 <= inst) (hi4 : inst < 4)
  (FL ML BL : List D) (hF : FL = first.map Zv) (hB : BL = bins.map I) (f : FuncId) (caps : List D) (tk : Tk Int) (ht : TookOk f caps tk) (P : DrP) (hR : RoundS P) :
  ∀ (d from_ : Nat), bins.length - from_ <= d -> from_ <= bins.length -> ∀ (s : Ste Int) (x0 x1 x2 x3 nt a fi : Int), LOk s.1 -> s.1 = [x0, x1, x2, x3] -> s.2 = nt -> 0 <= nt -> nt <= 640 + 16 * from_ -> 0 <= a -> a <= 5 -> IsI fi from_ -> ∀ e e', e' = Zj e (Zl fifo tk bin inst (bins.drop from_) from_ s a) -> ∀ Q,
  Q (RA.ret (.v (.bool true))) (drH P e') ->
  CallA Tryz.prog 175 [.agg [I ins, .sl 1 FL, .sl 5 ML, .sl 1 BL, .fn f caps], .agg [I x0, I x1, I x2, I x3, I nt], I bin, I inst, I a, I fi, .yv 0] (drH P e) Q := by
 obtain ⟨A, hA⟩ : ∃ A, A = ar := ⟨_, rfl⟩;have hBl : BL.length = bins.length := by rw [hB]; simp
 have hFl : FL.length = first.length := by rw [hF]; simp
 have hFb : FL[bn]? = some (.v (.bool fifo)) := by rw [hF]; simp [hff, Zv]
 have hbl : bn < first.length := (List.getElem?_eq_some_iff.1 hff).1;have hcaps := ht.cp;have hcall := ht.call;have htb := ht.b.out;clear ht;intro d
 induction d using Nat.strongRecOn with
 | _ d ih =>
 intro from_ hd hfl s x0 x1 x2 x3 nt a fi hs hsx hsn hn0 hnb ha0 ha5 hfi e e' he Q hq;have hnk : ∀ k : Nat, from_ <= k -> Btw 0 nt (640 + 16 * (k : Int)) := fun k h => ⟨hn0, by omega⟩;have hnt0 : Btw 0 nt 1000 := ⟨hn0, by omega⟩
 by_cases h0 : a = 0
 ·subst h0;rw [Zn7] at he;have he1 : e' = ar.mput e [x0, x1, x2, x3, nt] tD := by
   rw [he]; show ar.mput e (Z64 s) tD = _;rw [Z64, hsx, hsn]; rfl
  have hy := hR.out x0 x1 x2 x3 nt e e' he1;have hc0 : A.cmp .eql 0 0 = true := by subst hA; rfl
  rcases hcaps with rfl | ⟨cx, rfl⟩ | ⟨cx, cy, rfl⟩
  all_goals
   refine Z5 Z0 hA Tryz.func175 rfl rfl rfl rfl rfl fun S hS => ?_;cbv;refine bm (fun _ => ?_) (fun c => Bool.noConfusion (hc0.symm.trans c));cbv;refine Zpp hS 0 [.agg [I x0, I x1, I x2, I x3, I nt]] [0, 1, 2, 3, 4] (drH P e) rfl rfl rfl rfl rfl rfl rfl rfl rfl (by decide) ⟨rfl, rfl, rfl, rfl, rfl, trivial⟩ (hy _ ?_);refine Z3 Z0 hA hS ?_;cbv;exact Z2 [0, 1, 2, 3, 4] (by decide) Z91 (H' := drH P e') (d' := .v (.bool true)) ⟨rfl, rfl, rfl, rfl, rfl, trivial⟩ rfl (Z1 hq)
 have hcz : A.cmp .eql a 0 = false := by subst hA; simpa [ar, Z25] using h0
 have hinF : A.inb bin first.length := Z4o hA hbn hbl;have hinF' := Z1b hA hFl hbn hbl;have hgF := Z18 hA hbn hFb;rcases Bool.eq_false_or_eq_true fifo with hfe | hfe <;> subst hfe
 ·rcases hcaps with rfl | ⟨cx, rfl⟩ | ⟨cx, cy, rfl⟩
  all_goals
   refine Z5 Z0 hA Tryz.func175 rfl rfl rfl rfl rfl fun S hS => ?_;cbv;refine bm (fun c => Bool.noConfusion (hcz.symm.trans c)) (fun _ => ?_);cbv;refine Zb hS ?_;refine Za (α := Int × Nat) ((fun (cp : List D) q => { env := [(2, I bin), (3, I inst), (4, I a), (5, I q.1), (6, .yv 0), (7, .b 5 0), (8, .b 6 0)], H := drH P e ++ [.box (.agg [I ins, .sl 1 FL, .sl 5 ML, .sl 1 BL, .fn f cp]), .box (.agg [I x0, I x1, I x2, I x3, I nt])], nt := 103, dfs := [] }) (by first | exact [.cb cx 0, .cb cy 0] | exact [.cb cx 0] | exact []))
    (fun q => bins.length - q.2) (fun q => IsI q.1 q.2 /\ from_ <= q.2 /\ q.2 <= bins.length /\ e' = Zj e (Zl true tk bin inst (bins.drop q.2) q.2 s a)) (fi, from_) ⟨hfi, Nat.le_refl _, hfl, he⟩ (by
     exact Zf [0, 1, 2, 3, 4, 5, 6] ⟨by decide, Z91, ⟨rfl, rfl, rfl, rfl, rfl, rfl, rfl, trivial⟩, ⟨rfl, rfl, rfl, rfl, rfl, rfl, rfl, trivial⟩, rfl, rfl⟩) ?_
   rintro ⟨i, k⟩ ⟨u1, u2, u3, u4⟩;dsimp only at u1 u2 u3 u4;have hf1 : k < bins.length -> A.fits .i64 (A.add i 1) := fun _ => Zy hA u1 (by omega);have hu1 := Zz hA u1;have hms : k < bins.length -> bins.length - (k + 1) < bins.length - k := fun h => by omega
   have hk1 : from_ <= k + 1 := by omega
   have hnK := hnk k u2;have hend : bins.length <= k -> e' = e := fun h => by rw [u4, Zhg h h0]; rfl
   refine Zi Z0 hA hS ?_;cbv;refine bm (fun c1 => ?_) (fun c1 => ?_)
   ·have hk : k < bins.length := Z31 hA hBl u1 c1;obtain ⟨b, hbk⟩ : ∃ b, bins[k]? = some b := ⟨_, List.getElem?_eq_getElem hk⟩;have hBk : BL[k]? = some (I b) := by rw [hB]; simp [hbk]
    have hin := Z1b hA hBl u1 hk;have hg := Z18 hA u1 hBk;have hk4 : k < 4 := by omega
    have hin4 : A.inb i 4 := Z4o hA u1 hk4;obtain ⟨x, hxe, hx0, hx5, hxG⟩ := Zww hs hsx k hk4;have hgx := Zo9 hA 0 u1 (hxG (I nt));have hsk : b ≠ bin ∨ x = 0 -> e' = Zj e (Zl true tk bin inst (bins.drop (k + 1)) (k + 1) s a) := fun h => by
     rw [u4, Zg0 hbk h0 (by rw [<- hxe]; exact h)]
    have hF1 := hf1 hk;have hM1 := hms hk;cbv;refine ⟨hin, ⟨_, hg, ?_⟩⟩;cbv;refine bm (fun c2 => ?_) (fun c2 => ?_)
    ·have hs2 := hsk (.inl (xne hA c2));cbv;refine ⟨hF1, ?_⟩;refine Z8 (A.add i 1, k + 1) [0, 1, 2, 3, 4, 5, 6] ⟨hu1, hk1, hk, hs2⟩ hM1 ?_;exact ⟨by decide, Z91, ⟨rfl, rfl, rfl, rfl, rfl, rfl, rfl, trivial⟩, ⟨rfl, rfl, rfl, rfl, rfl, rfl, rfl, trivial⟩, rfl, rfl⟩
    have hbb : b = bin := Z4t hA c2;cbv;refine ⟨hin4, ⟨_, hgx, ?_⟩⟩;cbv;refine bm (fun c3 => ?_) (fun c3 => ?_)
    ·have hs2 := hsk (.inr (xeq hA c3));cbv;refine ⟨hF1, ?_⟩;refine Z8 (A.add i 1, k + 1) [0, 1, 2, 3, 4, 5, 6] ⟨hu1, hk1, hk, hs2⟩ hM1 ?_;exact ⟨by decide, Z91, ⟨rfl, rfl, rfl, rfl, rfl, rfl, rfl, trivial⟩, ⟨rfl, rfl, rfl, rfl, rfl, rfl, rfl, trivial⟩, rfl, rfl⟩
    have hx1 : x ≠ 0 := Z2o hA c3;rw [hbb] at hbk;obtain ⟨most, hmost⟩ : ∃ most, most = A.min a x := ⟨_, rfl⟩;have hme : most = min a x := by rw [hmost, Zir hA]
    have hm1 : 1 <= most /\ most <= a /\ most <= x := by omega
    obtain ⟨DL, hDL⟩ : ∃ DL, DL = Z9p most most := ⟨_, rfl⟩;have hDl : DL.length = (most + 1 - most).toNat := by rw [hDL, Zdi]
    obtain ⟨fm, hfm⟩ : ∃ fm : Int -> List (Ste Int), fm = fun n => Zl true tk bin inst (bins.drop (k + 1)) (k + 1) (Z3n tk inst s k n) (a - n) := ⟨_, rfl⟩;have hall : e' = Zj e (DL.flatMap fm) := by
     rw [u4, Zg1 hbk h0 (by rw [<- hxe]; exact hx1), <- hxe, <- hme, hDL, hfm]; rfl
    have hne : A.cmp .eql i (A.oi (A.len BL)) = false := by
     rw [yoiL hA hBl]; have := u1.eq; subst hA; simp [ar, Z25]; omega
    have hc4 : ∀ t : Nat, t < DL.length -> ∃ n, n = most - t /\ most <= n /\ n <= most /\ DL[t]? = some n := fun t h => ⟨_, rfl, by omega, by omega, by rw [hDL] at h ⊢; exact Zhf h⟩;cbv;refine Z7 ?_;cbv;refine bm (fun c => Bool.noConfusion (hne.symm.trans c)) (fun _ => ?_);cbv;refine ⟨hin4, ⟨_, hgx, ?_⟩⟩;cbv;refine ⟨hinF', ⟨_, hgF, ?_⟩⟩;cbv;refine Zb hS ?_;refine Za (α := Int × Nat × List (List Int × D)) ((fun (cp : List D) q => { env := [(2, I bin), (3, I inst), (4, I a), (5, I i), (6, .yv 0), (7, .b 5 0), (8, .b 6 0), (16, I most), (17, I q.1)], H := drH P q.2.2 ++ [.box (.agg [I ins, .sl 1 FL, .sl 5 ML, .sl 1 BL, .fn f cp]), .box (.agg [I x0, I x1, I x2, I x3, I nt])], nt := 103, dfs := [] }) (by first | exact [.cb cx 0, .cb cy 0] | exact [.cb cx 0] | exact []))
     (fun q => DL.length - q.2.1) (fun q => q.1 = most - q.2.1 /\ q.2.1 <= DL.length /\ q.2.2 = Zj e ((DL.take q.2.1).flatMap fm)) (most, 0, e) ⟨by simp, Nat.zero_le _, rfl⟩ (by
      exact Zf [0, 1, 2, 3, 4, 5, 6] ⟨by decide, Z91, ⟨rfl, rfl, rfl, rfl, rfl, rfl, rfl, trivial⟩, ⟨rfl, rfl, rfl, rfl, rfl, rfl, rfl, by subst hmost; rfl, by subst hmost; rfl, trivial⟩, rfl, rfl⟩) ?_
    rintro ⟨n, t, e1⟩ ⟨v1, v2, v3⟩;dsimp only at v1 v2 v3;have hge : A.cmp .geq n most = true -> t < DL.length := fun c => by have := xge hA c; omega
    have hlt : A.cmp .geq n most = false -> t = DL.length := fun c => by have := Zur hA c; omega
    have hfin : A.cmp .geq n most = false -> e1 = e' := fun c => by rw [v3, hlt c, List.take_length, hall]
    have hbody : A.cmp .geq n most = true -> most <= n /\ n <= most /\ DL[t]? = some n := fun c => by
     obtain ⟨n', h1, h2, h3⟩ := hc4 t (hge c);rw [v1, <- h1]; exact ⟨h2, h3⟩
    have hv1 : A.sub n 1 = most - ((t + 1 : Nat) : Int) := by rw [Z24 hA, v1]; omega
    refine Z2w Z0 hA hS [16] ?_;cbv;refine bm (fun c4 => ?_) (fun c4 => ?_)
    ·have ht1 := hge c4;obtain ⟨hnl, hnm0, hDt⟩ := hbody c4;have hnm : 0 <= n /\ n <= most := by omega
     have hfs : A.fits .i64 (A.sub x n) := Z14 hA (Z24 hA x n) (by omega);obtain ⟨y0, y1, y2, y3, hset, hsetD⟩ := Zwx hsx k hk4 (x - n);have hset2 : A.set [I x0, I x1, I x2, I x3, I nt] (A.addN 0 (A.mulN (A.tn i) 1)) (I (A.sub x n)) = [I y0, I y1, I y2, I y3, I nt] := Zs6 hA 0 u1 (by rw [Z24 hA]; exact (hsetD (I nt)).symm);have hlt5 : A.ltN (A.addN 0 (A.mulN (A.tn i) 1)) [I x0, I x1, I x2, I x3, I nt] := Zwm hA 0 u1 (m := 5) rfl (by omega);have hfa : A.fits .i64 (A.sub a n) := Z14 hA (Z24 hA a n) (by omega);have hfn : A.fits .i64 (A.sub n 1) := Z14 hA (Z24 hA n 1) (by omega);have hLy : LOk (s.1.set k (x - n)) := hs.set hk4 (by omega) (by omega);have htk : e1 = Zj e ((DL.take t).flatMap fm) := v3;have hnx : DL.take (t + 1) = DL.take t ++ [n] := by rw [List.take_add_one, hDt]; rfl
     have hstep : Zj e ((DL.take (t + 1)).flatMap fm) = Zj e1 (fm n) := by rw [hnx, List.flatMap_append, Z51, <- v3]; simp
     have hsub : A.sub a n = a - n := Z24 hA a n;have hms2 : DL.length - (t + 1) < DL.length - t := by omega
     have hbn2 : A.bnot true = false := by subst hA; rfl
     have hfr1 : A.fits .i64 (A.add i 1) := hF1;have hrec : ∀ nt', (n = 0 -> nt' = nt) -> (n ≠ 0 -> nt' = tk nt inst k n) -> fm n = Zl true tk bin inst (bins.drop (k + 1)) (k + 1) (s.1.set k (x - n), nt') (A.sub a n) := fun nt' g1 g2 => by
      rw [hfm, hsub];show Zl true tk bin inst (bins.drop (k + 1)) (k + 1) (Z3n tk inst s k n) (a - n) = _
      congr 1
      unfold Z3n
      by_cases hz : n = 0
      ·rw [if_pos hz, hz, g1 hz];refine Prod.ext ?_ hsn;show s.1 = s.1.set k (x - 0);rw [Int.sub_zero, hxe, Zky hs hk4]
      ·rw [if_neg hz, <- hxe, hsn, <- g2 hz]
     have hbd : ∀ nt', (n = 0 -> nt' = nt) -> (n ≠ 0 -> nt' = tk nt inst k n) -> 0 <= nt' /\ nt' <= 640 + 16 * ((k + 1 : Nat) : Int) := fun nt' g1 g2 => by
      have hnk' : nt <= 640 + 16 * (k : Int) := hnK.le
      by_cases hz : n = 0
      ·rw [g1 hz]; omega
      ·have := htb nt inst k n hn0 hi0 hi4 hk4 (by omega) (by omega);rw [g2 hz]; omega
     have hcal := ih (bins.length - (k + 1)) (by omega) (k + 1) (Nat.le_refl _) hk;have hnt1000 : nt <= 1000 := hnt0.le;obtain ⟨tn, htn⟩ : ∃ tn, tn = tk nt inst k n := ⟨_, rfl⟩;have hcl := fun (g : 1 <= n) => hcall nt inst k i n u1 hk4 hn0 hnt1000 hi0 hi4 g (by omega) tn htn;have hrc0 := fun (g : n = 0) => hcal (s.1.set k (x - n), nt) y0 y1 y2 y3 nt (A.sub a n) (A.add i 1) hLy hset rfl (hbd nt (fun _ => rfl) (fun g' => absurd g g')).1 (hbd nt (fun _ => rfl) (fun g' => absurd g g')).2 (by omega) (by omega) hu1 e1 (Zj e ((DL.take (t + 1)).flatMap fm)) (by rw [hstep, hrec nt (fun _ => rfl) (fun g' => absurd g g')]);have hrc1 := fun (g : n ≠ 0) => hcal (s.1.set k (x - n), tn) y0 y1 y2 y3 tn (A.sub a n) (A.add i 1) hLy hset rfl (hbd tn (fun g' => absurd g' g) (fun _ => htn)).1 (hbd tn (fun g' => absurd g' g) (fun _ => htn)).2 (by omega) (by omega) hu1 e1 (Zj e ((DL.take (t + 1)).flatMap fm)) (by rw [hstep, hrec tn (fun g' => absurd g' g) (fun _ => htn)]);have hgt : A.cmp .gtr n 0 = true -> n ≠ 0 /\ 1 <= n := fun c => by have := xgt hA c; omega
     have hng : A.cmp .gtr n 0 = false -> n = 0 := fun c => by have := Zax hA c; omega
     obtain ⟨e2, he2⟩ : ∃ e2, e2 = Zj e ((DL.take (t + 1)).flatMap fm) := ⟨_, rfl⟩;rw [<- he2] at hrc0 hrc1;clear hcal hrec hbd hstep hnx ih;cbv;refine ⟨hin4, ⟨_, hgx, ?_⟩⟩;cbv;refine ⟨hfs, hin4, hlt5, ?_⟩;refine Z3h hS (Z7w 7 (.agg [I y0, I y1, I y2, I y3, I nt]) rfl (show WkL (A.set [I x0, I x1, I x2, I x3, I nt] (A.addN 0 (A.mulN (A.tn i) 1)) (I (A.sub x n))) [I y0, I y1, I y2, I y3, I nt] from hset2 ▸ WkL.rfl) (Z7 ?_));refine Zb hS ?_;refine Zi Z0 hA hS ?_;cbv;refine bm (fun c5 => ?_) (fun c5 => ?_)
     ·obtain ⟨g1, g2⟩ := hgt c5;cbv;refine Z4 hS (I nt :: I inst :: I i :: I n :: _) [] [] rfl rfl rfl rfl rfl rfl rfl rfl (by decide) trivial (hcl g2 _ ?_);refine Z3 Z0 hA hS ?_;cbv;refine ⟨hfa, hfr1, ?_⟩;refine Z4 hS [.agg [I ins, .sl 1 FL, .sl 5 ML, .sl 1 BL, .fn f _], .agg [I y0, I y1, I y2, I y3, I tn], I bin, I inst, I (A.sub a n), I (A.add i 1), .yv 0] [0, 1, 2, 3, 4] (drH P e1) rfl rfl rfl rfl rfl rfl rfl rfl (by decide) ⟨rfl, rfl, rfl, rfl, rfl, trivial⟩ (hrc1 g1 _ ?_);refine Z3 Z0 hA hS ?_;cbv;refine bm (fun c => Bool.noConfusion (hbn2.symm.trans c)) (fun _ => ?_);cbv;refine ⟨hfn, ?_⟩;refine Z8 (A.sub n 1, t + 1, e2) [0, 1, 2, 3, 4, 5, 6] ⟨hv1, ht1, he2⟩ hms2 ?_;exact ⟨by decide, Z91, ⟨rfl, rfl, rfl, rfl, rfl, rfl, rfl, trivial⟩, ⟨rfl, rfl, rfl, rfl, rfl, rfl, rfl, rfl, rfl, trivial⟩, rfl, rfl⟩
     ·have g1 := hng c5;cbv;refine ⟨hfa, hfr1, ?_⟩;refine Z4 hS [.agg [I ins, .sl 1 FL, .sl 5 ML, .sl 1 BL, .fn f _], .agg [I y0, I y1, I y2, I y3, I nt], I bin, I inst, I (A.sub a n), I (A.add i 1), .yv 0] [0, 1, 2, 3, 4] (drH P e1) rfl rfl rfl rfl rfl rfl rfl rfl (by decide) ⟨rfl, rfl, rfl, rfl, rfl, trivial⟩ (hrc0 g1 _ ?_);refine Z3 Z0 hA hS ?_;cbv;refine bm (fun c => Bool.noConfusion (hbn2.symm.trans c)) (fun _ => ?_);cbv;refine ⟨hfn, ?_⟩;refine Z8 (A.sub n 1, t + 1, e2) [0, 1, 2, 3, 4, 5, 6] ⟨hv1, ht1, he2⟩ hms2 ?_;exact ⟨by decide, Z91, ⟨rfl, rfl, rfl, rfl, rfl, rfl, rfl, trivial⟩, ⟨rfl, rfl, rfl, rfl, rfl, rfl, rfl, rfl, rfl, trivial⟩, rfl, rfl⟩
    ·have hz := hfin c4;rw [hz];cbv;refine Z7 ?_;cbv;exact Z2 [0, 1, 2, 3, 4] (by decide) Z91 (H' := drH P e') (d' := .v (.bool true)) ⟨rfl, rfl, rfl, rfl, rfl, trivial⟩ rfl (Z1 hq)
   ·have hk : bins.length <= k := Z21 hA hBl u1 c1;have hz := hend hk;rw [hz] at hq;have heq : A.cmp .eql i (A.oi (A.len BL)) = true := by
     rw [yoiL hA hBl]; have := u1.eq; subst hA; simp [ar, Z25]; omega
    cbv;refine Z7 ?_;cbv;refine bm (fun _ => ?_) (fun c => Bool.noConfusion (heq.symm.trans c));cbv;exact Z2 [0, 1, 2, 3, 4] (by decide) Z91 (H' := drH P e) (d' := .v (.bool true)) ⟨rfl, rfl, rfl, rfl, rfl, trivial⟩ rfl (Z1 hq)
 ·rcases hcaps with rfl | ⟨cx, rfl⟩ | ⟨cx, cy, rfl⟩
  all_goals
   refine Z5 Z0 hA Tryz.func175 rfl rfl rfl rfl rfl fun S hS => ?_;cbv;refine bm (fun c => Bool.noConfusion (hcz.symm.trans c)) (fun _ => ?_);cbv;refine Zb hS ?_;refine Za (α := Int × Nat) ((fun (cp : List D) q => { env := [(2, I bin), (3, I inst), (4, I a), (5, I q.1), (6, .yv 0), (7, .b 5 0), (8, .b 6 0)], H := drH P e ++ [.box (.agg [I ins, .sl 1 FL, .sl 5 ML, .sl 1 BL, .fn f cp]), .box (.agg [I x0, I x1, I x2, I x3, I nt])], nt := 103, dfs := [] }) (by first | exact [.cb cx 0, .cb cy 0] | exact [.cb cx 0] | exact []))
    (fun q => bins.length - q.2) (fun q => IsI q.1 q.2 /\ from_ <= q.2 /\ q.2 <= bins.length /\ e' = Zj e (Zl false tk bin inst (bins.drop q.2) q.2 s a)) (fi, from_) ⟨hfi, Nat.le_refl _, hfl, he⟩ (by
     exact Zf [0, 1, 2, 3, 4, 5, 6] ⟨by decide, Z91, ⟨rfl, rfl, rfl, rfl, rfl, rfl, rfl, trivial⟩, ⟨rfl, rfl, rfl, rfl, rfl, rfl, rfl, trivial⟩, rfl, rfl⟩) ?_
   rintro ⟨i, k⟩ ⟨u1, u2, u3, u4⟩;dsimp only at u1 u2 u3 u4;have hf1 : k < bins.length -> A.fits .i64 (A.add i 1) := fun _ => Zy hA u1 (by omega);have hu1 := Zz hA u1;have hms : k < bins.length -> bins.length - (k + 1) < bins.length - k := fun h => by omega
   have hk1 : from_ <= k + 1 := by omega
   have hnK := hnk k u2;have hend : bins.length <= k -> e' = e := fun h => by rw [u4, Zhg h h0]; rfl
   refine Zi Z0 hA hS ?_;cbv;refine bm (fun c1 => ?_) (fun c1 => ?_)
   ·have hk : k < bins.length := Z31 hA hBl u1 c1;obtain ⟨b, hbk⟩ : ∃ b, bins[k]? = some b := ⟨_, List.getElem?_eq_getElem hk⟩;have hBk : BL[k]? = some (I b) := by rw [hB]; simp [hbk]
    have hin := Z1b hA hBl u1 hk;have hg := Z18 hA u1 hBk;have hk4 : k < 4 := by omega
    have hin4 : A.inb i 4 := Z4o hA u1 hk4;obtain ⟨x, hxe, hx0, hx5, hxG⟩ := Zww hs hsx k hk4;have hgx := Zo9 hA 0 u1 (hxG (I nt));have hsk : b ≠ bin ∨ x = 0 -> e' = Zj e (Zl false tk bin inst (bins.drop (k + 1)) (k + 1) s a) := fun h => by
     rw [u4, Zg0 hbk h0 (by rw [<- hxe]; exact h)]
    have hF1 := hf1 hk;have hM1 := hms hk;cbv;refine ⟨hin, ⟨_, hg, ?_⟩⟩;cbv;refine bm (fun c2 => ?_) (fun c2 => ?_)
    ·have hs2 := hsk (.inl (xne hA c2));cbv;refine ⟨hF1, ?_⟩;refine Z8 (A.add i 1, k + 1) [0, 1, 2, 3, 4, 5, 6] ⟨hu1, hk1, hk, hs2⟩ hM1 ?_;exact ⟨by decide, Z91, ⟨rfl, rfl, rfl, rfl, rfl, rfl, rfl, trivial⟩, ⟨rfl, rfl, rfl, rfl, rfl, rfl, rfl, trivial⟩, rfl, rfl⟩
    have hbb : b = bin := Z4t hA c2;cbv;refine ⟨hin4, ⟨_, hgx, ?_⟩⟩;cbv;refine bm (fun c3 => ?_) (fun c3 => ?_)
    ·have hs2 := hsk (.inr (xeq hA c3));cbv;refine ⟨hF1, ?_⟩;refine Z8 (A.add i 1, k + 1) [0, 1, 2, 3, 4, 5, 6] ⟨hu1, hk1, hk, hs2⟩ hM1 ?_;exact ⟨by decide, Z91, ⟨rfl, rfl, rfl, rfl, rfl, rfl, rfl, trivial⟩, ⟨rfl, rfl, rfl, rfl, rfl, rfl, rfl, trivial⟩, rfl, rfl⟩
    have hx1 : x ≠ 0 := Z2o hA c3;rw [hbb] at hbk;obtain ⟨most, hmost⟩ : ∃ most, most = A.min a x := ⟨_, rfl⟩;have hme : most = min a x := by rw [hmost, Zir hA]
    have hm1 : 1 <= most /\ most <= a /\ most <= x := by omega
    obtain ⟨DL, hDL⟩ : ∃ DL, DL = Z9p most 0 := ⟨_, rfl⟩;have hDl : DL.length = (most + 1 - 0).toNat := by rw [hDL, Zdi]
    obtain ⟨fm, hfm⟩ : ∃ fm : Int -> List (Ste Int), fm = fun n => Zl false tk bin inst (bins.drop (k + 1)) (k + 1) (Z3n tk inst s k n) (a - n) := ⟨_, rfl⟩;have hall : e' = Zj e (DL.flatMap fm) := by
     rw [u4, Zg1 hbk h0 (by rw [<- hxe]; exact hx1), <- hxe, <- hme, hDL, hfm]; rfl
    have hne : A.cmp .eql i (A.oi (A.len BL)) = false := by
     rw [yoiL hA hBl]; have := u1.eq; subst hA; simp [ar, Z25]; omega
    have hc4 : ∀ t : Nat, t < DL.length -> ∃ n, n = most - t /\ 0 <= n /\ n <= most /\ DL[t]? = some n := fun t h => ⟨_, rfl, by omega, by omega, by rw [hDL] at h ⊢; exact Zhf h⟩;cbv;refine Z7 ?_;cbv;refine bm (fun c => Bool.noConfusion (hne.symm.trans c)) (fun _ => ?_);cbv;refine ⟨hin4, ⟨_, hgx, ?_⟩⟩;cbv;refine ⟨hinF', ⟨_, hgF, ?_⟩⟩;cbv;refine Zb hS ?_;refine Za (α := Int × Nat × List (List Int × D)) ((fun (cp : List D) q => { env := [(2, I bin), (3, I inst), (4, I a), (5, I i), (6, .yv 0), (7, .b 5 0), (8, .b 6 0), (16, I 0), (17, I q.1)], H := drH P q.2.2 ++ [.box (.agg [I ins, .sl 1 FL, .sl 5 ML, .sl 1 BL, .fn f cp]), .box (.agg [I x0, I x1, I x2, I x3, I nt])], nt := 103, dfs := [] }) (by first | exact [.cb cx 0, .cb cy 0] | exact [.cb cx 0] | exact []))
     (fun q => DL.length - q.2.1) (fun q => q.1 = most - q.2.1 /\ q.2.1 <= DL.length /\ q.2.2 = Zj e ((DL.take q.2.1).flatMap fm)) (most, 0, e) ⟨by simp, Nat.zero_le _, rfl⟩ (by
      exact Zf [0, 1, 2, 3, 4, 5, 6] ⟨by decide, Z91, ⟨rfl, rfl, rfl, rfl, rfl, rfl, rfl, trivial⟩, ⟨rfl, rfl, rfl, rfl, rfl, rfl, rfl, by subst hmost; rfl, by subst hmost; rfl, trivial⟩, rfl, rfl⟩) ?_
    rintro ⟨n, t, e1⟩ ⟨v1, v2, v3⟩;dsimp only at v1 v2 v3;have hge : A.cmp .geq n 0 = true -> t < DL.length := fun c => by have := xge hA c; omega
    have hlt : A.cmp .geq n 0 = false -> t = DL.length := fun c => by have := Zur hA c; omega
    have hfin : A.cmp .geq n 0 = false -> e1 = e' := fun c => by rw [v3, hlt c, List.take_length, hall]
    have hbody : A.cmp .geq n 0 = true -> 0 <= n /\ n <= most /\ DL[t]? = some n := fun c => by
     obtain ⟨n', h1, h2, h3⟩ := hc4 t (hge c);rw [v1, <- h1]; exact ⟨h2, h3⟩
    have hv1 : A.sub n 1 = most - ((t + 1 : Nat) : Int) := by rw [Z24 hA, v1]; omega
    refine Z2w Z0 hA hS [16] ?_;cbv;refine bm (fun c4 => ?_) (fun c4 => ?_)
    ·have ht1 := hge c4;obtain ⟨hnl, hnm0, hDt⟩ := hbody c4;have hnm : 0 <= n /\ n <= most := by omega
     have hfs : A.fits .i64 (A.sub x n) := Z14 hA (Z24 hA x n) (by omega);obtain ⟨y0, y1, y2, y3, hset, hsetD⟩ := Zwx hsx k hk4 (x - n);have hset2 : A.set [I x0, I x1, I x2, I x3, I nt] (A.addN 0 (A.mulN (A.tn i) 1)) (I (A.sub x n)) = [I y0, I y1, I y2, I y3, I nt] := Zs6 hA 0 u1 (by rw [Z24 hA]; exact (hsetD (I nt)).symm);have hlt5 : A.ltN (A.addN 0 (A.mulN (A.tn i) 1)) [I x0, I x1, I x2, I x3, I nt] := Zwm hA 0 u1 (m := 5) rfl (by omega);have hfa : A.fits .i64 (A.sub a n) := Z14 hA (Z24 hA a n) (by omega);have hfn : A.fits .i64 (A.sub n 1) := Z14 hA (Z24 hA n 1) (by omega);have hLy : LOk (s.1.set k (x - n)) := hs.set hk4 (by omega) (by omega);have htk : e1 = Zj e ((DL.take t).flatMap fm) := v3;have hnx : DL.take (t + 1) = DL.take t ++ [n] := by rw [List.take_add_one, hDt]; rfl
     have hstep : Zj e ((DL.take (t + 1)).flatMap fm) = Zj e1 (fm n) := by rw [hnx, List.flatMap_append, Z51, <- v3]; simp
     have hsub : A.sub a n = a - n := Z24 hA a n;have hms2 : DL.length - (t + 1) < DL.length - t := by omega
     have hbn2 : A.bnot true = false := by subst hA; rfl
     have hfr1 : A.fits .i64 (A.add i 1) := hF1;have hrec : ∀ nt', (n = 0 -> nt' = nt) -> (n ≠ 0 -> nt' = tk nt inst k n) -> fm n = Zl false tk bin inst (bins.drop (k + 1)) (k + 1) (s.1.set k (x - n), nt') (A.sub a n) := fun nt' g1 g2 => by
      rw [hfm, hsub];show Zl false tk bin inst (bins.drop (k + 1)) (k + 1) (Z3n tk inst s k n) (a - n) = _
      congr 1
      unfold Z3n
      by_cases hz : n = 0
      ·rw [if_pos hz, hz, g1 hz];refine Prod.ext ?_ hsn;show s.1 = s.1.set k (x - 0);rw [Int.sub_zero, hxe, Zky hs hk4]
      ·rw [if_neg hz, <- hxe, hsn, <- g2 hz]
     have hbd : ∀ nt', (n = 0 -> nt' = nt) -> (n ≠ 0 -> nt' = tk nt inst k n) -> 0 <= nt' /\ nt' <= 640 + 16 * ((k + 1 : Nat) : Int) := fun nt' g1 g2 => by
      have hnk' : nt <= 640 + 16 * (k : Int) := hnK.le
      by_cases hz : n = 0
      ·rw [g1 hz]; omega
      ·have := htb nt inst k n hn0 hi0 hi4 hk4 (by omega) (by omega);rw [g2 hz]; omega
     have hcal := ih (bins.length - (k + 1)) (by omega) (k + 1) (Nat.le_refl _) hk;have hnt1000 : nt <= 1000 := hnt0.le;obtain ⟨tn, htn⟩ : ∃ tn, tn = tk nt inst k n := ⟨_, rfl⟩;have hcl := fun (g : 1 <= n) => hcall nt inst k i n u1 hk4 hn0 hnt1000 hi0 hi4 g (by omega) tn htn;have hrc0 := fun (g : n = 0) => hcal (s.1.set k (x - n), nt) y0 y1 y2 y3 nt (A.sub a n) (A.add i 1) hLy hset rfl (hbd nt (fun _ => rfl) (fun g' => absurd g g')).1 (hbd nt (fun _ => rfl) (fun g' => absurd g g')).2 (by omega) (by omega) hu1 e1 (Zj e ((DL.take (t + 1)).flatMap fm)) (by rw [hstep, hrec nt (fun _ => rfl) (fun g' => absurd g g')]);have hrc1 := fun (g : n ≠ 0) => hcal (s.1.set k (x - n), tn) y0 y1 y2 y3 tn (A.sub a n) (A.add i 1) hLy hset rfl (hbd tn (fun g' => absurd g' g) (fun _ => htn)).1 (hbd tn (fun g' => absurd g' g) (fun _ => htn)).2 (by omega) (by omega) hu1 e1 (Zj e ((DL.take (t + 1)).flatMap fm)) (by rw [hstep, hrec tn (fun g' => absurd g' g) (fun _ => htn)]);have hgt : A.cmp .gtr n 0 = true -> n ≠ 0 /\ 1 <= n := fun c => by have := xgt hA c; omega
     have hng : A.cmp .gtr n 0 = false -> n = 0 := fun c => by have := Zax hA c; omega
     obtain ⟨e2, he2⟩ : ∃ e2, e2 = Zj e ((DL.take (t + 1)).flatMap fm) := ⟨_, rfl⟩;rw [<- he2] at hrc0 hrc1;clear hcal hrec hbd hstep hnx ih;cbv;refine ⟨hin4, ⟨_, hgx, ?_⟩⟩;cbv;refine ⟨hfs, hin4, hlt5, ?_⟩;refine Z3h hS (Z7w 7 (.agg [I y0, I y1, I y2, I y3, I nt]) rfl (show WkL (A.set [I x0, I x1, I x2, I x3, I nt] (A.addN 0 (A.mulN (A.tn i) 1)) (I (A.sub x n))) [I y0, I y1, I y2, I y3, I nt] from hset2 ▸ WkL.rfl) (Z7 ?_));refine Zb hS ?_;refine Zi Z0 hA hS ?_;cbv;refine bm (fun c5 => ?_) (fun c5 => ?_)
     ·obtain ⟨g1, g2⟩ := hgt c5;cbv;refine Z4 hS (I nt :: I inst :: I i :: I n :: _) [] [] rfl rfl rfl rfl rfl rfl rfl rfl (by decide) trivial (hcl g2 _ ?_);refine Z3 Z0 hA hS ?_;cbv;refine ⟨hfa, hfr1, ?_⟩;refine Z4 hS [.agg [I ins, .sl 1 FL, .sl 5 ML, .sl 1 BL, .fn f _], .agg [I y0, I y1, I y2, I y3, I tn], I bin, I inst, I (A.sub a n), I (A.add i 1), .yv 0] [0, 1, 2, 3, 4] (drH P e1) rfl rfl rfl rfl rfl rfl rfl rfl (by decide) ⟨rfl, rfl, rfl, rfl, rfl, trivial⟩ (hrc1 g1 _ ?_);refine Z3 Z0 hA hS ?_;cbv;refine bm (fun c => Bool.noConfusion (hbn2.symm.trans c)) (fun _ => ?_);cbv;refine ⟨hfn, ?_⟩;refine Z8 (A.sub n 1, t + 1, e2) [0, 1, 2, 3, 4, 5, 6] ⟨hv1, ht1, he2⟩ hms2 ?_;exact ⟨by decide, Z91, ⟨rfl, rfl, rfl, rfl, rfl, rfl, rfl, trivial⟩, ⟨rfl, rfl, rfl, rfl, rfl, rfl, rfl, rfl, rfl, trivial⟩, rfl, rfl⟩
     ·have g1 := hng c5;cbv;refine ⟨hfa, hfr1, ?_⟩;refine Z4 hS [.agg [I ins, .sl 1 FL, .sl 5 ML, .sl 1 BL, .fn f _], .agg [I y0, I y1, I y2, I y3, I nt], I bin, I inst, I (A.sub a n), I (A.add i 1), .yv 0] [0, 1, 2, 3, 4] (drH P e1) rfl rfl rfl rfl rfl rfl rfl rfl (by decide) ⟨rfl, rfl, rfl, rfl, rfl, trivial⟩ (hrc0 g1 _ ?_);refine Z3 Z0 hA hS ?_;cbv;refine bm (fun c => Bool.noConfusion (hbn2.symm.trans c)) (fun _ => ?_);cbv;refine ⟨hfn, ?_⟩;refine Z8 (A.sub n 1, t + 1, e2) [0, 1, 2, 3, 4, 5, 6] ⟨hv1, ht1, he2⟩ hms2 ?_;exact ⟨by decide, Z91, ⟨rfl, rfl, rfl, rfl, rfl, rfl, rfl, trivial⟩, ⟨rfl, rfl, rfl, rfl, rfl, rfl, rfl, rfl, rfl, trivial⟩, rfl, rfl⟩
    ·have hz := hfin c4;rw [hz];cbv;refine Z7 ?_;cbv;exact Z2 [0, 1, 2, 3, 4] (by decide) Z91 (H' := drH P e') (d' := .v (.bool true)) ⟨rfl, rfl, rfl, rfl, rfl, trivial⟩ rfl (Z1 hq)
   ·have hk : bins.length <= k := Z21 hA hBl u1 c1;have hz := hend hk;rw [hz] at hq;have heq : A.cmp .eql i (A.oi (A.len BL)) = true := by
     rw [yoiL hA hBl]; have := u1.eq; subst hA; simp [ar, Z25]; omega
    cbv;refine Z7 ?_;cbv;refine bm (fun _ => ?_) (fun c => Bool.noConfusion (heq.symm.trans c));cbv;exact Z2 [0, 1, 2, 3, 4] (by decide) Z91 (H' := drH P e) (d' := .v (.bool true)) ⟨rfl, rfl, rfl, rfl, rfl, trivial⟩ rfl (Z1 hq)
end Go.Proofs.YthljpccegkmdnaaGreatDoor

namespace Go.Proofs.YthljpccegkmdnaaGreatDoor
open Go Go.Abs Go.Proofs Go.Batch
set_option maxRecDepth 20000 in
set_option maxHeartbeats 4000000 in
theorem Zve (ins : Int) (first : List Bool) (bins : List Int) (hb4 : bins.length <= 4) (bin inst : Int) (bn : Nat) (hbn : IsI bin bn) (fifo : Bool) (hff : first[bn]? = some fifo) (hi0 : 0 <= inst) (hi4 : inst < 4)
  (FL ML BL : List D) (hF : FL = first.map Zv) (hB : BL = bins.map I) (f : FuncId) (caps : List D) (tk : Tk Int) (ht : TookOk f caps tk) (P : DrP) (s : Ste Int) (x0 x1 x2 x3 nt a : Int)
  (hR : RoundS P)
  (hs : LOk s.1) (hsx : s.1 = [x0, x1, x2, x3]) (hsn : s.2 = nt) (hn0 : 0 <= nt) (hnb : nt <= 640) (ha0 : 0 <= a) (ha5 : a <= 5) (e e' : List (List Int × D)) (he : e' = Zj e (Zl fifo tk bin inst bins 0 s a)) (Q)
  (hq : ∀ d, Q (RA.ret d) (drH P e')) :
  CallA Tryz.prog 174 [.yv 0, .cb (.agg [I ins, .sl 1 FL, .sl 5 ML, .sl 1 BL, .fn f caps]) 0, .cb (.agg [I x0, I x1, I x2, I x3, I nt]) 0, .cb (I bin) 0, .cb (I inst) 0, .cb (I a) 0, .cb (I 0) 0] (drH P e) Q := by
 obtain ⟨A, hA⟩ : ∃ A, A = ar := ⟨_, rfl⟩;have hd := fun Q => Zy7 ins first bins hb4 bin inst bn hbn fifo hff hi0 hi4 FL ML BL hF hB f caps tk ht P hR bins.length 0 (by omega) (Nat.zero_le _) s x0 x1 x2 x3 nt a 0 hs hsx hsn hn0 (by omega) ha0 ha5 ⟨rfl⟩ e e' he Q;have hcaps := ht.cp;clear ht;rcases hcaps with rfl | ⟨cx, rfl⟩ | ⟨cx, cy, rfl⟩
 all_goals
  refine Z5 Z0 hA Tryz.func174 rfl rfl rfl rfl rfl fun S hS => ?_;cbv;refine Z4 hS [.agg [I ins, .sl 1 FL, .sl 5 ML, .sl 1 BL, .fn f _], .agg [I x0, I x1, I x2, I x3, I nt], I bin, I inst, I a, I 0, .yv 0] [0, 1, 2, 3, 4] (drH P e) rfl rfl rfl rfl rfl rfl rfl rfl (by decide) ⟨rfl, rfl, rfl, rfl, rfl, trivial⟩ (hd _ ?_);refine Z3 Z0 hA hS ?_;cbv;exact Z2 [0, 1, 2, 3, 4] (by decide) Z91 (H' := drH P e') (d' := .tup []) ⟨rfl, rfl, rfl, rfl, rfl, trivial⟩ rfl (Z1 (hq _))
theorem Zwy (ins : Int) (FL ML BL : List D) (f : FuncId) (caps : List D) (hc : Zn5 caps) (x0 x1 x2 x3 nt bin inst a fr : Int) (Q)
  (hq : Q (RA.ret (.fn 174 [.cb (.agg [I ins, .sl 1 FL, .sl 5 ML, .sl 1 BL, .fn f caps]) 0, .cb (.agg [I x0, I x1, I x2, I x3, I nt]) 0, .cb (I bin) 0, .cb (I inst) 0, .cb (I a) 0, .cb (I fr) 0])) []) :
  CallA Tryz.prog 149 [.agg [I ins, .sl 1 FL, .sl 5 ML, .sl 1 BL, .fn f caps], .agg [I x0, I x1, I x2, I x3, I nt], I bin, I inst, I a, I fr] [] Q := by
 obtain ⟨A, hA⟩ : ∃ A, A = ar := ⟨_, rfl⟩;rcases hc with rfl | ⟨cx, rfl⟩ | ⟨cx, cy, rfl⟩
 all_goals
  refine Z5 Z0 hA Tryz.func149 rfl rfl rfl rfl rfl fun S hS => ?_;cbv;refine Z1w [0, 1, 2, 3, 4, 5] ?_;cbv;exact Z2 [] (by decide) Z9 (H' := []) (d' := .fn 174 [.cb (.agg [I ins, .sl 1 FL, .sl 5 ML, .sl 1 BL, .fn f _]) 0, .cb (.agg [I x0, I x1, I x2, I x3, I nt]) 0, .cb (I bin) 0, .cb (I inst) 0, .cb (I a) 0, .cb (I fr) 0]) trivial rfl (Z1 hq)
theorem Z73 : TookOk 51 [] Zn := by
 refine ⟨.inl rfl, Zfo, fun x i b bi n _ _ _ _ _ _ _ _ r hr Q hq => ?_⟩;obtain ⟨A, hA⟩ : ∃ A, A = ar := ⟨_, rfl⟩;subst hr;refine Z5 Z0 hA Tryz.func51 rfl rfl rfl rfl rfl fun S hS => ?_;cbv;exact Z2 [] (by decide) Z9 (H' := []) (d' := I 0) trivial rfl (Z1 hq)
theorem Zvf (i0 bI : Int) (b0 : Nat) (hb : IsI bI b0) : TookOk 116 [.cb (I i0) 0, .cb (I bI) 0] (Z2v i0 b0) := by
 refine ⟨.inr (.inr ⟨_, _, rfl⟩), Zok _ _, fun x i b bi n h1 h2 h3 h4 h5 h6 h7 h8 r hr Q hq => ?_⟩;obtain ⟨A, hA⟩ : ∃ A, A = ar := ⟨_, rfl⟩;have hbb : bi = bI ↔ b = b0 := by have e1 := h1.eq; have e2 := hb.eq; omega
 have r1 : i = i0 /\ bi = bI -> r = A.add x n := fun h => by rw [hr, Z58 hA]; unfold Z2v; rw [if_pos ⟨h.1, hbb.1 h.2⟩]
 have r2 : ¬ (i = i0 /\ bi = bI) -> r = x := fun h => by rw [hr]; unfold Z2v; rw [if_neg (fun g => h ⟨g.1, hbb.2 g.2⟩)]
 have hfs : A.fits .i64 (A.add x n) := Z14 hA (Z58 hA x n) (by omega);refine Z5 Z0 hA Tryz.func116 rfl rfl rfl rfl rfl fun S hS => ?_;cbv;refine bm (fun c1 => ?_) (fun c1 => ?_)
 ·cbv;refine bm (fun c2 => ?_) (fun c2 => ?_)
  ·have hz := r1 ⟨xeq hA c1, xeq hA c2⟩;rw [hz] at hq;cbv;exact ⟨hfs, Z2 [] (by decide) Z9 (H' := []) (d' := I (A.add x n)) trivial rfl (Z1 hq)⟩
  ·have hz := r2 (fun h => Z2o hA c2 h.2);rw [hz] at hq;cbv;exact Z2 [] (by decide) Z9 (H' := []) (d' := I x) trivial rfl (Z1 hq)
 ·have hz := r2 (fun h => Z2o hA c1 h.1);rw [hz] at hq;cbv;exact Z2 [] (by decide) Z9 (H' := []) (d' := I x) trivial rfl (Z1 hq)
theorem Zvg (i b : Int) (Q) (hq : Q (RA.ret (.fn 116 [.cb (I i) 0, .cb (I b) 0])) []) : CallA Tryz.prog 58 [I i, I b] [] Q := by
 obtain ⟨A, hA⟩ : ∃ A, A = ar := ⟨_, rfl⟩;refine Z5 Z0 hA Tryz.func58 rfl rfl rfl rfl rfl fun S hS => ?_;cbv;refine Z1w [0, 1] ?_;cbv;exact Z2 [] (by decide) Z9 (H' := []) (d' := .fn 116 [.cb (I i) 0, .cb (I b) 0]) trivial rfl (Z1 hq)
theorem Zg2 (lo hi n : Int) (hn : n = Z2i (lo, hi)) (Q) (hq : Q (RA.ret (I n)) []) : CallA Tryz.prog 59 [.agg [I lo, I hi]] [] Q := by
 obtain ⟨A, hA⟩ : ∃ A, A = ar := ⟨_, rfl⟩;unfold Z2i at hn;dsimp only at hn;refine Z5 Z0 hA Tryz.func59 rfl rfl rfl rfl rfl fun S hS => ?_;cbv;refine bm (fun c1 => ?_) (fun c1 => ?_)
 ·have hz : n = 1 := by rw [hn, if_pos (xgt hA c1)]
  rw [hz] at hq;cbv;exact Z2 [] (by decide) Z9 (H' := []) (d' := I 1) trivial rfl (Z1 hq)
 rw [if_neg (Int.not_lt.2 (Zax hA c1))] at hn;cbv;refine bm (fun c2 => ?_) (fun c2 => ?_)
 ·have hz : n = 2 := by rw [hn, if_pos (xeq hA c2)]
  rw [hz] at hq;cbv;exact Z2 [] (by decide) Z9 (H' := []) (d' := I 2) trivial rfl (Z1 hq)
 ·have hz : n = 3 := by rw [hn, if_neg (Z2o hA c2)]
  rw [hz] at hq;cbv;exact Z2 [] (by decide) Z9 (H' := []) (d' := I 3) trivial rfl (Z1 hq)
theorem Zg3 {α β : Type} (g : β -> α -> β) (z : β) {l : List α} {k : Nat} {x : α} (h : l[k]? = some x) : (l.take (k + 1)).foldl g z = g ((l.take k).foldl g z) x := by
 rw [List.take_add_one, h]; simp
set_option maxRecDepth 20000 in
set_option maxHeartbeats 4000000 in
theorem Zzi (l : List Int) (hl0 : l ≠ []) (hl : l.length <= 1152921504606846976) (L : List D) (hL : L = l.map I) (n : Int) (hn : n = Z6a l) (Q) (hq : Q (RA.ret (I n)) []) : CallA Tryz.prog 146 [.sl 1 L] [] Q := by
 obtain ⟨A, hA⟩ : ∃ A, A = ar := ⟨_, rfl⟩;obtain ⟨x0, r, rfl⟩ : ∃ x r, l = x :: r := by cases l with | nil => exact absurd rfl hl0 | cons x r => exact ⟨x, r, rfl⟩
 obtain ⟨N, hN⟩ : ∃ N, N = r.length := ⟨_, rfl⟩;have hLl : L.length = N + 1 := by rw [hL, hN]; simp
 have hL0 : L[0]? = some (I x0) := by rw [hL]; rfl
 have hLk : ∀ k x, r[k]? = some x -> L[k + 1]? = some (I x) := fun k x h => by rw [hL]; simp [h]
 have c0 : A.cmp .lss (A.oi (A.len L)) 1 = false := by rw [yoiL hA hLl]; subst hA; simp [ar, Z25]; omega
 have i0 := Z1b hA hLl (i := 0) (k := 0) ⟨rfl⟩ (by omega);have g0 := Z18 hA (i := 0) (k := 0) ⟨rfl⟩ hL0;simp only [List.length_cons] at hl;refine Z5 Z0 hA Tryz.func146 rfl rfl rfl rfl rfl fun S hS => ?_;cbv;refine bm (fun c => Bool.noConfusion (c0.symm.trans c)) (fun _ => ?_);cbv;refine ⟨i0, ⟨_, g0, ?_⟩⟩;cbv;refine Zb hS ?_;refine Za (α := Int × Nat × Int) (fun q => { env := [(0, .sl 1 L), (3, I q.2.2), (4, I q.1)], H := [], nt := 25, dfs := [] })
  (fun q => N - q.2.1) (fun q => q.2.1 <= N /\ IsI q.1 (q.2.1 + 1) /\ q.2.2 = (r.take q.2.1).foldl min x0) (1, 0, x0) ⟨Nat.zero_le _, ⟨rfl⟩, rfl⟩ ?_ ?_
 ·exact Zf [] ⟨by decide, Z9, trivial, ⟨rfl, rfl, rfl, trivial⟩, rfl, rfl⟩
 rintro ⟨i, k, m⟩ ⟨u1, u2, u3⟩;dsimp only at u1 u2 u3;refine Zi Z0 hA hS ?_;cbv;refine bm (fun c => ?_) (fun c => ?_)
 ·have hk : k < N := by have := Z31 hA hLl u2 c; omega
  obtain ⟨x, hx⟩ : ∃ x, r[k]? = some x := ⟨_, List.getElem?_eq_getElem (by omega)⟩;have hin := Z1b hA hLl u2 (by omega);have hg := Z18 hA u2 (hLk k x hx);have hf := Zy hA u2 (by omega);have hu2 := Zz hA u2;have hm2 : A.min m x = (r.take (k + 1)).foldl min x0 := by rw [Zg3 min x0 hx, Zir hA, u3]
  have hms : N - (k + 1) < N - k := by omega
  cbv;refine ⟨hin, ⟨_, hg, ?_⟩⟩;cbv;refine ⟨hf, ?_⟩;refine Z8 (A.add i 1, k + 1, A.min m x) [] ⟨hk, hu2, hm2⟩ hms ?_;exact ⟨by decide, Z9, trivial, ⟨rfl, rfl, rfl, trivial⟩, rfl, rfl⟩
 ·have hk : k = N := by have := Z21 hA hLl u2 c; omega
  have hz : n = m := by rw [hn, u3, hk, hN, List.take_length]; rfl
  rw [hz] at hq;cbv;refine Z7 ?_;cbv;exact Z2 [] (by decide) Z9 (H' := []) (d' := I m) trivial rfl (Z1 hq)
set_option maxRecDepth 20000 in
set_option maxHeartbeats 4000000 in
theorem Zzj (l : List Int) (hl0 : l ≠ []) (hl : l.length <= 1152921504606846976) (L : List D) (hL : L = l.map I) (n : Int) (hn : n = Z80 l) (Q) (hq : Q (RA.ret (I n)) []) : CallA Tryz.prog 147 [.sl 1 L] [] Q := by
 obtain ⟨A, hA⟩ : ∃ A, A = ar := ⟨_, rfl⟩;obtain ⟨x0, r, rfl⟩ : ∃ x r, l = x :: r := by cases l with | nil => exact absurd rfl hl0 | cons x r => exact ⟨x, r, rfl⟩
 obtain ⟨N, hN⟩ : ∃ N, N = r.length := ⟨_, rfl⟩;have hLl : L.length = N + 1 := by rw [hL, hN]; simp
 have hL0 : L[0]? = some (I x0) := by rw [hL]; rfl
 have hLk : ∀ k x, r[k]? = some x -> L[k + 1]? = some (I x) := fun k x h => by rw [hL]; simp [h]
 have c0 : A.cmp .lss (A.oi (A.len L)) 1 = false := by rw [yoiL hA hLl]; subst hA; simp [ar, Z25]; omega
 have i0 := Z1b hA hLl (i := 0) (k := 0) ⟨rfl⟩ (by omega);have g0 := Z18 hA (i := 0) (k := 0) ⟨rfl⟩ hL0;simp only [List.length_cons] at hl;refine Z5 Z0 hA Tryz.func147 rfl rfl rfl rfl rfl fun S hS => ?_;cbv;refine bm (fun c => Bool.noConfusion (c0.symm.trans c)) (fun _ => ?_);cbv;refine ⟨i0, ⟨_, g0, ?_⟩⟩;cbv;refine Zb hS ?_;refine Za (α := Int × Nat × Int) (fun q => { env := [(0, .sl 1 L), (3, I q.2.2), (4, I q.1)], H := [], nt := 25, dfs := [] })
  (fun q => N - q.2.1) (fun q => q.2.1 <= N /\ IsI q.1 (q.2.1 + 1) /\ q.2.2 = (r.take q.2.1).foldl max x0) (1, 0, x0) ⟨Nat.zero_le _, ⟨rfl⟩, rfl⟩ ?_ ?_
 ·exact Zf [] ⟨by decide, Z9, trivial, ⟨rfl, rfl, rfl, trivial⟩, rfl, rfl⟩
 rintro ⟨i, k, m⟩ ⟨u1, u2, u3⟩;dsimp only at u1 u2 u3;refine Zi Z0 hA hS ?_;cbv;refine bm (fun c => ?_) (fun c => ?_)
 ·have hk : k < N := by have := Z31 hA hLl u2 c; omega
  obtain ⟨x, hx⟩ : ∃ x, r[k]? = some x := ⟨_, List.getElem?_eq_getElem (by omega)⟩;have hin := Z1b hA hLl u2 (by omega);have hg := Z18 hA u2 (hLk k x hx);have hf := Zy hA u2 (by omega);have hu2 := Zz hA u2;have hm2 : A.max m x = (r.take (k + 1)).foldl max x0 := by rw [Zg3 max x0 hx, Zuq hA, u3]
  have hms : N - (k + 1) < N - k := by omega
  cbv;refine ⟨hin, ⟨_, hg, ?_⟩⟩;cbv;refine ⟨hf, ?_⟩;refine Z8 (A.add i 1, k + 1, A.max m x) [] ⟨hk, hu2, hm2⟩ hms ?_;exact ⟨by decide, Z9, trivial, ⟨rfl, rfl, rfl, trivial⟩, rfl, rfl⟩
 ·have hk : k = N := by have := Z21 hA hLl u2 c; omega
  have hz : n = m := by rw [hn, u3, hk, hN, List.take_length]; rfl
  rw [hz] at hq;cbv;refine Z7 ?_;cbv;exact Z2 [] (by decide) Z9 (H' := []) (d' := I m) trivial rfl (Z1 hq)
theorem Zy8 (l : List Int) (hl0 : l ≠ []) (hl : l.length <= 1152921504606846976) (L : List D) (hL : L = l.map I) (lo hi : Int) (h1 : lo = Z6a l) (h2 : hi = Z80 l) (Q) (hq : Q (RA.ret (.agg [I lo, I hi])) []) : CallA Tryz.prog 113 [.sl 1 L] [] Q := by
 obtain ⟨A, hA⟩ : ∃ A, A = ar := ⟨_, rfl⟩;refine Z5 Z0 hA Tryz.func113 rfl rfl rfl rfl rfl fun S hS => ?_;cbv;refine Z4 hS [.sl 1 L] [] [] rfl rfl rfl rfl rfl rfl rfl rfl (by decide) trivial (Zzi l hl0 hl L hL lo h1 _ ?_);refine Z3 Z0 hA hS ?_;cbv;refine Z4 hS [.sl 1 L] [] [] rfl rfl rfl rfl rfl rfl rfl rfl (by decide) trivial (Zzj l hl0 hl L hL hi h2 _ ?_);refine Z3 Z0 hA hS ?_;cbv;exact Z2 [] (by decide) Z9 (H' := []) (d' := .agg [I lo, I hi]) trivial rfl (Z1 hq)
end Go.Proofs.YthljpccegkmdnaaGreatDoor

namespace Go.Abs
open Go
theorem Z5x {P : Program} {r : Option Nat} {s : St} {o : Oper} {K : D -> List Blk -> List AD -> Prop} {X : D -> List Blk -> Prop} {x : Operand} {j k kn clock i c : Nat} {ents : List (List Int × D)} {bs seen sn : List Nat} {e : List Int × D} (hs : sn = seen ++ [c]) (ho : o.op = .entry x) (hx : evo s.env x = some (.b j 0))
  (hj : Z1m s.H j = some (.ob (.mi k clock sn clock))) (hk : Z1m s.H k = some (.ob (.mpx kn ents bs clock))) (hc : bs[i]? = some c) (hent : ents[i]? = some e)
  (h : K (.tup [Zfm kn e.1, e.2]) s.H s.dfs) : OpA P r o s K X := by subst hs; exact Zpy ho hx hj hk hc hent h
end Go.Abs
namespace Go.Proofs.YthljpccegkmdnaaGreatDoor
open Go Go.Abs Go.Proofs Go.Batch
structure StOk (s : Ste Int) : Prop where
 l : LOk s.1
 n0 : 0 <= s.2
 n1 : s.2 <= 640
structure NumOk (f : FuncId) (caps : List D) (g : Ste Int -> Int) : Prop where
 cp : Zn5 caps
 call : ∀ (s : Ste Int) (x0 x1 x2 x3 nt r : Int), StOk s -> s.1 = [x0, x1, x2, x3] -> s.2 = nt -> r = g s -> ∀ Q : RA -> List Blk -> Prop, Q (RA.ret (I r)) [] -> CallA Tryz.prog f ([.agg [I x0, I x1, I x2, I x3, I nt]] ++ caps) [] Q
theorem Z87 {s : Ste Int} {x0 x1 x2 x3 nt : Int} (h : s.1 = [x0, x1, x2, x3]) (h' : s.2 = nt) : Zfm 5 (Z64 s) = .agg [I x0, I x1, I x2, I x3, I nt] := by
 rw [Z64, h, h']; rfl
set_option maxRecDepth 20000 in
set_option maxHeartbeats 4000000 in
theorem Zcu (ents : List (List Int × D)) (St : List (Ste Int)) (hm : MapOk ents St) (hne : St ≠ []) (hok : ∀ s ∈ St, StOk s) (f : FuncId) (caps : List D) (g : Ste Int -> Int) (hf : NumOk f caps g) (lo hi : Int) (hlo : lo = (Zs (St.map g)).1) (hhi : hi = (Zs (St.map g)).2) (Q)
  (hq : Q (RA.ret (.agg [I lo, I hi])) [.ob (.mp 5 ents)]) : CallA Tryz.prog 53 [.mv 0, .fn f caps] [.ob (.mp 5 ents)] Q := by
 obtain ⟨A, hA⟩ : ∃ A, A = ar := ⟨_, rfl⟩;have hlen : ents.length <= 831000 := hm.len (fun s hs => ⟨(hok s hs).l, (hok s hs).n0, (hok s hs).n1⟩);have hcaps := hf.cp;have hcall := hf.call;clear hf;rcases hcaps with rfl | ⟨cx, rfl⟩ | ⟨cx, cy, rfl⟩
 all_goals
  refine Z5 Z0 hA Tryz.func53 rfl rfl rfl rfl rfl fun S hS => ?_;cbv;refine Z2g hS rfl rfl rfl (Z6t Z0 rfl rfl rfl rfl fun bs clock h1 h2 h3 => ?_);have hb8 : bs.length <= 831000 := by omega
  refine Z3 Z0 hA hS ?_;cbv;refine Zb hS ?_;refine Za (α := List Nat × List (Ste Int) × Nat × List D) ((fun (cp : List D) q => { env := [(1, .fn f cp), (4, .b 1 0), (5, .o 3 1 q.2.2.1), (8, .b 2 0)], H := [.ob (.mpx 5 ents bs clock), .box (.agg [I 0, I 0]), .ob (.mi 0 clock q.1 clock), .els 1 q.2.2.2], nt := 21, dfs := [] }) (by first | exact [.cb cx 0, .cb cy 0] | exact [.cb cx 0] | exact []))
   (fun q => Z8y bs q.1) (fun q => Seen ents bs q.1 St q.2.1 /\ q.2.1.length + Z8y bs q.1 <= bs.length /\ q.2.2.1 = q.2.1.length /\ q.2.2.2 = (q.2.1.map g).map I) ([], [], 0, []) ⟨Z84 _ _ _, by simp [Z8y]; exact List.length_filter_le _ _, rfl, rfl⟩ (by
    refine Z2a 5 1 rfl ?_
    exact Zf [0, 1, 2, 3] ⟨by decide, Z2n, ⟨rfl, rfl, rfl, rfl, trivial⟩, ⟨rfl, rfl, rfl, rfl, trivial⟩, rfl, rfl⟩) ?_
  rintro ⟨seen, done, n0, L⟩ ⟨u1, u2, u3, u4⟩;dsimp only at u1 u2 u3 u4;have hn0 : n0 <= 1000000 := by omega
  have hLl : L.length = n0 := by rw [u4, u3]; simp
  refine Zi Z0 hA hS ?_;cbv;refine Z2g hS rfl rfl rfl (Z7y rfl rfl rfl rfl (fun hall => ?_) (fun i c e hc he hn hkl => ?_))
  ·have hsd := Zmy (u1.all hm h1 hall) g;have hdn : done.map g ≠ [] := fun h => by
    cases St with
    | nil => exact hne rfl
    | cons s S => have := (u1.all hm h1 hall s).2 (by simp); rw [List.map_eq_nil_iff.1 h] at this; simp at this
   have hl2 : (done.map g).length <= 1152921504606846976 := by simp; omega
   have hz1 : lo = Z6a (done.map g) := by rw [hlo, <- hsd]; rfl
   have hz2 : hi = Z80 (done.map g) := by rw [hhi, <- hsd]; rfl
   refine Z3 Z0 hA hS ?_;cbv;refine Z7 ?_;cbv;refine Z26 hS (Zms (k := 0) rfl (Z1a hA [3] ?_));cbv;refine ⟨Ze hA hLl, Ze hA hLl, Z7 ?_⟩;refine Z4 hS [.sl 1 L] [] [] rfl rfl rfl rfl rfl rfl rfl rfl (by decide) trivial (Zy8 (done.map g) hdn hl2 L u4 lo hi hz1 hz2 _ ?_);refine Z3 Z0 hA hS ?_;cbv;exact Z2 [0] (by decide) Z2n (H' := [.ob (.mp 5 ents)]) (d' := .agg [I lo, I hi]) ⟨rfl, trivial⟩ rfl (Z1 hq)
  ·obtain ⟨s, hs, rfl⟩ := hm.at he;have hso := hok s hs;obtain ⟨x0, x1, x2, x3, hx⟩ := Zbr hso.l.len;obtain ⟨nt, hnt⟩ : ∃ nt, nt = s.2 := ⟨_, rfl⟩;obtain ⟨r, hr⟩ : ∃ r, r = g s := ⟨_, rfl⟩;have hkey := Z87 hx hnt.symm;have hcl := hcall s x0 x1 x2 x3 nt r hso hx hnt.symm hr;have hsn := u1.next h2 hc he hs;have hul := Z85 hc hn;have hL2 : A.app L [I r] = ((done ++ [s]).map g).map I := by rw [Z33 hA, u4, hr]; simp
   have hn2 : A.addN n0 1 = (done ++ [s]).length := by rw [Z2e hA, u3]; simp
   have hu2 : (done ++ [s]).length + Z8y bs (seen ++ [c]) <= bs.length := by simp; omega
   obtain ⟨sn, hsnE⟩ : ∃ sn, sn = seen ++ [c] := ⟨_, rfl⟩;dsimp only;rw [hkey, <- hsnE];rw [<- hsnE] at hsn hul hu2;refine Z3 Z0 hA hS ?_;cbv;refine Z2g hS rfl rfl rfl (Z5x hsnE rfl rfl rfl rfl hc he ?_);dsimp only;rw [hkey];refine Z3 Z0 hA hS ?_;cbv;refine Z4 hS (.agg [I x0, I x1, I x2, I x3, I nt] :: _) [] [] rfl rfl rfl rfl rfl rfl rfl rfl (by decide) trivial (hcl _ ?_);refine Z3 Z0 hA hS ?_;cbv;refine ⟨Ze hA hLl, Ze hA rfl, Z27 hA hn0 (by decide), ?_⟩;refine Z8 (sn, done ++ [s], A.addN n0 1, A.app L [I r]) [0, 1, 2, 6] ⟨hsn, hu2, hn2, hL2⟩ hul ?_;exact ⟨by decide, Z2n, ⟨rfl, rfl, rfl, rfl, trivial⟩, ⟨rfl, rfl, rfl, rfl, trivial⟩, rfl, rfl⟩
theorem Zoq : NumOk 60 [] (·.2) := by
 refine ⟨.inl rfl, fun s x0 x1 x2 x3 nt r _ _ h2 hr Q hq => ?_⟩;obtain ⟨A, hA⟩ : ∃ A, A = ar := ⟨_, rfl⟩;have hz : r = nt := by rw [hr, <- h2]
 rw [hz] at hq;refine Z5 Z0 hA Tryz.func60 rfl rfl rfl rfl rfl fun S hS => ?_;cbv;exact Z2 [] (by decide) Z9 (H' := []) (d' := I nt) trivial rfl (Z1 hq)
theorem Zvh (i : Nat) (iI : Int) (hi : IsI iI i) (hi4 : i < 4) : NumOk 56 [.cb (I iI) 0] (fun s => s.1.getD i 0) := by
 refine ⟨.inr (.inl ⟨_, rfl⟩), fun s x0 x1 x2 x3 nt r h0 h1 h2 hr Q hq => ?_⟩;obtain ⟨A, hA⟩ : ∃ A, A = ar := ⟨_, rfl⟩;obtain ⟨x, hxe, hx0, hx5, hxG⟩ := Zww h0.l h1 i hi4;have hin4 : A.inb iI 4 := Z4o hA hi hi4;have hgx := Zo9 hA 0 hi (hxG (I nt));have hz : r = x := by rw [hr, hxe]
 rw [hz] at hq;refine Z5 Z0 hA Tryz.func56 rfl rfl rfl rfl rfl fun S hS => ?_;cbv;refine ⟨hin4, ⟨_, hgx, ?_⟩⟩;cbv;exact Z2 [] (by decide) Z9 (H' := []) (d' := I x) trivial rfl (Z1 hq)
end Go.Proofs.YthljpccegkmdnaaGreatDoor
