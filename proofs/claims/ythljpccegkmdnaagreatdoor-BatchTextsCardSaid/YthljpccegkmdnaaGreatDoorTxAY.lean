/- Part TxAY of the proofs about the benches of the accordion maker: see the last text of the claim for what is proved. -/
import Derived.Test.YthljpccegkmdnaaGreatDoorTxAX
set_option linter.unusedVariables false
set_option linter.unusedSimpArgs false
set_option linter.unnecessarySimpa false
set_option linter.constructorNameAsVariable false

namespace Go.Abs
open Go
theorem Z7i {P : Program} {T : TT} {r : Option Nat} {s : St} (hT : TOK P T) {o : Oper} {K : D -> List Blk -> List AD -> Prop} {X : D -> List Blk -> Prop} {x : Operand} {t : TypeId} {k kn : Nat} {ee : TE} {ents : List (List Int × D)} (ho : o.op = .call { callee := .builtin .len, args := #[x], argTypes := #[t] })
  (hmt : Zc3 T t = some (kn, ee)) (hx : evo s.env x = some (.mv k)) (hk : Z1m s.H k = some (.ob (.mp kn ents))) (nl : Int) (hn : nl = (ents.length : Int)) (h : K (.v (.int .i64 nl)) s.H s.dfs) : OpA P r o s K X := by
 obtain ⟨kt, et, hu, -⟩ := Z7d hT hmt;subst hn;exact Zmt hT ho hu hx hk h
end Go.Abs
namespace Go.Proofs.YthljpccegkmdnaaGreatDoor
open Go Go.Abs Go.Proofs Go.Batch
theorem Zhh {j : Jn} {tk : Tk Int} {bins : List Int} : ∀ (ms : List Mv) (b : Nat), Z2u j tk bins ms b [] = []
 | [], _ => rfl
 | m :: ms, b => by rw [Z2u]; exact Zhh ms _
def Z6n (j : Jn) (tk : Tk Int) (k : Nat) : List (Ste Int) := Z2u j tk (Z6 j.moves) (j.moves.take k) 0 [([0, 0, 0, 0], 0)]
theorem Zqb {j : Jn} {tk : Tk Int} {k : Nat} {m : Mv} (h : j.moves[k]? = some m) : Z6n j tk (k + 1) = (Z6n j tk k).flatMap (Z22 j tk (Z6 j.moves) m (Z6 (j.moves.take k)).length) := by
 unfold Z6n;rw [List.take_add_one, h, Option.toList_some, Z6u, Nat.zero_add];rfl
theorem Z66 (j : Jn) (tk : Tk Int) : Z6n j tk j.moves.length = Zd j tk 0 := by rw [Z6n, List.take_length]; rfl
theorem Zsp {j : Jn} {tk : Tk Int} {k : Nat} (h : Z6n j tk k = []) : Zd j tk 0 = [] := by
 have : Zd j tk 0 = Z2u j tk (Z6 j.moves) (j.moves.take k ++ j.moves.drop k) 0 [([0, 0, 0, 0], 0)] := by rw [List.take_append_drop]; rfl
 rw [this, Z6u];show Z2u j tk _ _ _ (Z6n j tk k) = [];rw [h]; exact Zhh _ _
theorem Z9z (ms : List Mv) (k : Nat) : (Z6 (ms.take k)).length <= (Z6 ms).length := by
 conv => rhs; rw [<- List.take_append_drop k ms, Z2t]
 simp
theorem Z8s {j : Jn} {tk : Tk Int} (ht : TkB tk) (hj : JOk j) (k : Nat) : ∀ s ∈ Z6n j tk k, StOk s := fun s hs => by
 have h0 : ∀ s ∈ ([([0, 0, 0, 0], 0)] : List (Ste Int)), SOk 0 s := fun s hs => by simp at hs; subst hs; exact ⟨Zq3, Int.le_refl _, Int.le_refl _⟩
 have := Zdb ht hj.i4 hj.b4 (j.moves.take k) 0 0 _ (fun m hm => hj.mv m (List.mem_of_mem_take hm)) (by have := Z9z j.moves k; have := hj.b4; omega) h0 s hs;refine ⟨this.l, this.n0, ?_⟩;have h1 := this.nk;have h2 := hj.m10;have h3 : (j.moves.take k).length <= 10 := by rw [List.length_take]; omega
 omega
theorem Zam {lo hi : Int} : (upR lo hi).length = (hi + 1 - lo).toNat := by simp [upR]
theorem Zcv {lo hi : Int} {t : Nat} (h : t < (upR lo hi).length) : (upR lo hi)[t]? = some (lo + t) := by
 simp only [Zam] at h;simp [upR, h]
theorem Z5y {α : Type} {l : List α} {t : Nat} {x : α} (h : l[t]? = some x) : l.take (t + 1) = l.take t ++ [x] := by rw [List.take_add_one, h]; rfl
theorem Zkz {ins : Int} {m : Mv} : Z9q ins m = if m.inst < 0 then upR 0 (ins - 1) else upR m.inst m.inst := by
 unfold Z9q
 split
 ·rfl
 ·have : (m.inst + 1 - m.inst).toNat = 1 := by omega
  simp [upR, this]
set_option maxRecDepth 40000 in
set_option maxHeartbeats 16000000 in
theorem Zy9 (j : Jn) (hj : JOk j) (tk : Tk Int) (f : FuncId) (caps : List D) (ht : TookOk f caps tk) (FL ML BL : List D) (hF : FL = j.first.map Zv) (hM : ML = j.moves.map mvD) (hB : BL = (Z6 j.moves).map I) (Q)
  (hq : ∀ ents, MapOk ents (Zd j tk 0) -> Zd j tk 0 ≠ [] -> Q (RA.ret (.mv 0)) [.ob (.mp 5 ents)]) (hp : Zd j tk 0 = [] -> Q (RA.pan (.ifc 175 (.agg []))) [.dead]) :
  CallA Tryz.prog 115 [.agg [I j.ins, .sl 1 FL, .sl 5 ML, .sl 1 BL, .fn f caps]] [] Q := by
 obtain ⟨A, hA⟩ : ∃ A, A = ar := ⟨_, rfl⟩;obtain ⟨bins, hbins⟩ : ∃ bins, bins = Z6 j.moves := ⟨_, rfl⟩;rw [<- hbins] at hB;have hb4 : bins.length <= 4 := by rw [hbins]; exact hj.b4
 have hi1 := hj.i1;have hi4 := hj.i4;have hf2 := hj.f2;have hm10 := hj.m10;have hmv := hj.mv;have hk13 : ∀ m ∈ j.moves, m.kind = 1 ∨ m.kind = 2 ∨ m.kind = 3 := fun m hm => by have h1 := (hmv m hm).k1; have h2 := (hmv m hm).k3; omega
 have hcaps := ht.cp;have htb := ht.b;have hok := Z8s htb hj;have hmvs := Zwv j.ins j.moves hk13 (by omega) FL ML BL hM f caps hcaps;have hMl : ∀ n, (Z52 j.moves n).length = n := fun n => by simp [Z52]
 have hin0 := fun (l : List Int) (hl : LOk l) bin x0 x1 x2 x3 hx n hn Q => bIn j.ins bins l hb4 hl bin FL ML BL hB x0 x1 x2 x3 hx n (hn : n = inL bin bins l) f caps hcaps Q;have hdr := fun x0 x1 x2 x3 nt bin inst a fr Q => Zwy j.ins FL ML BL f caps hcaps x0 x1 x2 x3 nt bin inst a fr Q;have hd1 := fun bin inst bn hbn fifo hff hi0 hi4 P s x0 x1 x2 x3 nt a => Zve j.ins j.first bins hb4 bin inst bn hbn fifo hff hi0 hi4 FL ML BL hF hB f caps tk ht P s x0 x1 x2 x3 nt a;clear ht;rcases hcaps with rfl | ⟨cx, rfl⟩ | ⟨cx, cy, rfl⟩
 all_goals
  refine Zip Z0 hA Tryz.func115 rfl rfl rfl rfl rfl fun S hS => ?_;cbv;refine ⟨[0, 0, 0, 0, 0], ⟨rfl, rfl⟩, ?_⟩;cbv;refine Z4 hS [.agg [I j.ins, .sl 1 FL, .sl 5 ML, .sl 1 BL, .fn f _]] [] [] rfl rfl rfl rfl rfl rfl rfl rfl (by decide) trivial (hmvs _ fun VL hVL => ?_);have hVl : VL.length = j.moves.length := by rw [hVL, hMl]
  obtain ⟨e0, he0⟩ : ∃ e0, e0 = A.mput [] [0, 0, 0, 0, 0] (.v (.bool true)) := ⟨_, rfl⟩;have hm0 : MapOk e0 (Z6n j tk 0) := by rw [he0]; subst hA; exact Zh7 Z82 ([0, 0, 0, 0], 0)
  refine Z3 Z0 hA hS ?_;cbv;refine Zb hS ?_;refine Za (α := Int × Nat × List (List Int × D)) (fun q => { env := [(1, .cb (.agg [I j.ins, .sl 1 FL, .sl 5 ML, .sl 1 BL, .fn f _]) 0), (3, .mv 1), (22, .sl 1 VL), (23, I (A.oi (A.len VL))), (24, I q.1)], H := [.ob .mk, .ob (.mp 5 q.2.2)], nt := 132, dfs := [.mk 0] })
   (fun q => j.moves.length - q.2.1) (fun q => q.2.1 <= j.moves.length /\ IsI q.1 q.2.1 /\ MapOk q.2.2 (Z6n j tk q.2.1) /\ Z6n j tk q.2.1 ≠ []) (0, 0, e0) ⟨Nat.zero_le _, ⟨rfl⟩, hm0, fun h => by cases h⟩ (by
    rw [he0]
    refine Z1a hA [1] ?_
    exact Zf [0, 2] ⟨by decide, Z9, ⟨rfl, rfl, trivial⟩, ⟨rfl, rfl, rfl, rfl, rfl, trivial⟩, rfl, rfl⟩) ?_
  rintro ⟨i, k, ents⟩ ⟨u1, u2, u3, u4⟩;dsimp only at u1 u2 u3 u4;have hokk := hok k;refine Z2w Z0 hA hS [36] ?_;cbv;refine bm (fun c => ?_) (fun c => ?_)
  ·have hk : k < j.moves.length := Z31 hA hVl u2 c;obtain ⟨m, hmk⟩ : ∃ m, j.moves[k]? = some m := ⟨_, List.getElem?_eq_getElem hk⟩;have hmm := List.mem_of_getElem? hmk;have hmo := hmv m hmm;have hns := Zqb (tk := tk) hmk;rw [<- hbins] at hns;obtain ⟨bn, hbn⟩ : ∃ bn, bn = (Z6 (j.moves.take k)).length := ⟨_, rfl⟩;have hVk : VL[k]? = some (mvI m bn) := by rw [hVL, hbn]; exact Zn6 hk hmk
   rw [<- hbn] at hns;have hin := Z1b hA hVl u2 hk;have hf1 := Zy hA u2 (by omega);have hu2 := Zz hA u2;have hms : j.moves.length - (k + 1) < j.moves.length - k := by omega
   have hnil : Z6n j tk (k + 1) = [] -> Zd j tk 0 = [] := Zsp;obtain ⟨step, hstep⟩ : ∃ step, step = Z22 j tk bins m bn := ⟨_, rfl⟩;rw [<- hstep] at hns;have hlo := hmo.l0;have hle := hmo.lh;have hhi5 := hmo.h5;rcases hk13 m hmm with hk1 | hk2 | hk3
   ·obtain ⟨bI, hbI⟩ : ∃ bI : Int, bI = (bn : Nat) := ⟨_, rfl⟩;have hbII : IsI bI bn := ⟨hbI⟩;have hbn4 : bn < 4 := by
     have h1 := Z9z j.moves (k + 1);rw [Z65 hmk, if_pos hk1] at h1;rw [<- hbins] at h1;simp at h1; omega
    obtain ⟨UL, hUL⟩ : ∃ UL, UL = upR m.lo m.hi := ⟨_, rfl⟩;have hst : ∀ s, step s = UL.map fun n => (s.1.set bn n, s.2) := fun s => by rw [hstep, Z22, if_pos hk1, hUL]
    have hULl : UL.length = (m.hi + 1 - m.lo).toNat := by rw [hUL, Zam]
    have hUg : ∀ t : Nat, t < UL.length -> UL[t]? = some (m.lo + t) := fun t h => by rw [hUL] at h ⊢; exact Zcv h
    rw [show mvI m bn = .ifc 219 (.agg [I m.kind, I m.bin, I m.inst, I m.lo, I m.hi, I bI]) from by rw [mvI, if_pos hk1, hbI]] at hVk;have hg := Z18 hA u2 hVk;cbv;refine ⟨hin, ⟨_, hg, ?_⟩⟩;cbv;refine Z2g hS rfl rfl rfl (Z6t Z0 rfl rfl rfl rfl fun bs clock h1 h2 h3 => ?_);refine Z3 Z0 hA hS ?_;cbv;refine Zb hS ?_;refine Za (α := List Nat × List (Ste Int) × List (List Int × D)) (fun q => { env := [(1, .cb (.agg [I j.ins, .sl 1 FL, .sl 5 ML, .sl 1 BL, .fn f _]) 0), (5, .ifc 219 (.agg [I m.kind, I m.bin, I m.inst, I m.lo, I m.hi, I bI])), (6, .b 3 0), (22, .sl 1 VL), (23, I (A.oi (A.len VL))), (24, I i), (30, .b 4 0)], H := [.ob .mk, .ob (.mpx 5 ents bs clock), .ob (.mp 5 q.2.2), .box (.mv 2), .ob (.mi 1 clock q.1 clock)], nt := 132, dfs := [.mk 0] })
     (fun q => Z8y bs q.1) (fun q => Seen ents bs q.1 (Z6n j tk k) q.2.1 /\ MapOk q.2.2 (q.2.1.flatMap step)) ([], [], []) ⟨Z84 _ _ _, Z82⟩ (by
      exact Zf [0, 1, 2, 3, 4] ⟨by decide, Z9, ⟨rfl, rfl, rfl, rfl, rfl, trivial⟩, ⟨rfl, rfl, rfl, rfl, rfl, rfl, rfl, trivial⟩, rfl, rfl⟩) ?_
    rintro ⟨seen, done, nents⟩ ⟨v1, v2⟩;dsimp only at v1 v2;refine Z2w Z0 hA hS [17] ?_;cbv;refine Z2g hS rfl rfl rfl (Z7y rfl rfl rfl rfl (fun hall => ?_) (fun ix c e hc he hn hkl => ?_))
    ·have hal := v1.all u3 h1 hall;have hmN : MapOk nents (Z6n j tk (k + 1)) := by
      rw [hns];exact v2.congr fun s => by simp only [List.mem_flatMap, hal]
     obtain ⟨nl, hnl⟩ : ∃ nl : Int, nl = (nents.length : Int) := ⟨_, rfl⟩;have hz0 : A.cmp .eql nl 0 = true -> Zd j tk 0 = [] := fun c => hnil (hmN.empty.1 (List.eq_nil_of_length_eq_zero (by have := xeq hA c; omega)));have hz1 : A.cmp .eql nl 0 = false -> Z6n j tk (k + 1) ≠ [] := fun c h => by
      have h2 := hmN.empty.2 h;have h3 := Z2o hA c;rw [hnl, h2] at h3; exact h3 rfl
     refine Z3 Z0 hA hS ?_;cbv;refine Z7 ?_;cbv;refine Z4j Z0 hA hS [0] [1, 2] rfl ?_;cbv;refine Z2g hS rfl rfl rfl (Z7i Z0 rfl rfl rfl rfl nl hnl ?_);refine Z3 Z0 hA hS ?_;cbv;refine bm (fun c2 => ?_) (fun c2 => ?_)
     ·have hq0 := hp (hz0 c2);cbv;refine Z26 hS (Z60 (a := { env := [(128, .ifc 175 (.agg []))], H := [.ob .mk], nt := 132, dfs := [.mk 0] }) [0] ⟨by decide, Z9, ⟨rfl, trivial⟩, ⟨rfl, trivial⟩, rfl, rfl⟩ (Z7 ?_));refine Z2g hS rfl rfl rfl (Zaf rfl rfl ?_);intro e _;exact ⟨rfl, hq0⟩
     ·cbv;refine ⟨hf1, ?_⟩;refine Z8 (A.add i 1, k + 1, nents) [0, 2] ⟨hk, hu2, hmN, hz1 c2⟩ hms ?_;exact ⟨by decide, Z9, ⟨rfl, rfl, trivial⟩, ⟨rfl, rfl, rfl, rfl, rfl, trivial⟩, rfl, rfl⟩
    ·obtain ⟨s, hs, rfl⟩ := u3.at he;have hso := hokk s hs;obtain ⟨x0, x1, x2, x3, hx⟩ := Zbr hso.l.len;obtain ⟨nt, hnt⟩ : ∃ nt, nt = s.2 := ⟨_, rfl⟩;have hnt0 : 0 <= nt := by rw [hnt]; exact hso.n0
     have hnt6 : nt <= 640 := by rw [hnt]; exact hso.n1
     have hkey := Z87 hx hnt.symm;have hsl := hso.l;have hsn := v1.next h2 hc he hs;have hul := Z85 hc hn;have hfin : ∀ e', e' = Zj nents (step s) -> MapOk e' ((done ++ [s]).flatMap step) := fun e' h => by
      rw [h, List.flatMap_append];have := Z83 v2 (step s);simpa using this
     obtain ⟨sn, hsnE⟩ : ∃ sn, sn = seen ++ [c] := ⟨_, rfl⟩;dsimp only;rw [hkey, <- hsnE];rw [<- hsnE] at hsn hul;have hss := hst s;have hend : ∀ e', e' = Zj nents (UL.map fun n => (s.1.set bn n, s.2)) -> e' = Zj nents (step s) := fun e' h => by rw [hss]; exact h
     refine Z3 Z0 hA hS ?_;cbv;refine Z2g hS rfl rfl rfl (Z5x hsnE rfl rfl rfl rfl hc he ?_);dsimp only;rw [hkey];refine Z3 Z0 hA hS ?_;cbv;refine Zb hS ?_;refine Za (α := Int × Nat × List (List Int × D)) (fun q => { env := [(1, .cb (.agg [I j.ins, .sl 1 FL, .sl 5 ML, .sl 1 BL, .fn f _]) 0), (5, .ifc 219 (.agg [I m.kind, I m.bin, I m.inst, I m.lo, I m.hi, I bI])), (6, .b 3 0), (7, .b 5 0), (8, .b 6 0), (9, I q.1), (22, .sl 1 VL), (23, I (A.oi (A.len VL))), (24, I i), (30, .b 4 0)], H := [.ob .mk, .ob (.mpx 5 ents bs clock), .ob (.mp 5 q.2.2), .box (.mv 2), .ob (.mi 1 clock sn clock), .box (.agg [I x0, I x1, I x2, I x3, I nt]), .box (.agg [I m.kind, I m.bin, I m.inst, I m.lo, I m.hi, I bI])], nt := 132, dfs := [.mk 0] })
      (fun q => UL.length - q.2.1) (fun q => q.1 = m.lo + q.2.1 /\ q.2.1 <= UL.length /\ q.2.2 = Zj nents ((UL.take q.2.1).map fun n => (s.1.set bn n, s.2))) (m.lo, 0, nents) ⟨by simp, Nat.zero_le _, rfl⟩ (by
       exact Zf [0, 1, 2, 3, 4, 5, 6] ⟨by decide, Z9, ⟨rfl, rfl, rfl, rfl, rfl, rfl, rfl, trivial⟩, ⟨rfl, rfl, rfl, rfl, rfl, rfl, rfl, rfl, rfl, rfl, trivial⟩, rfl, rfl⟩) ?_
     rintro ⟨n, t, e1⟩ ⟨w1, w2, w3⟩;dsimp only at w1 w2 w3;have hyes : A.cmp .leq n m.hi = true -> t < UL.length /\ 0 <= n /\ n <= 5 /\ UL[t]? = some n := fun c => by
      have h1 := xle hA c;have h2 : t < UL.length := by omega
      exact ⟨h2, by omega, by omega, by rw [w1]; exact hUg t h2⟩
     have hno : A.cmp .leq n m.hi = false -> e1 = Zj nents (UL.map fun n => (s.1.set bn n, s.2)) := fun c => by
      have h1 := Zec hA c;rw [w3, List.take_of_length_le (by omega)]
     have hn1 : A.add n 1 = m.lo + ((t + 1 : Nat) : Int) := by rw [Z58 hA, w1]; omega
     have hfn : A.cmp .leq n m.hi = true -> A.fits .i64 (A.add n 1) := fun c => Z14 hA (Z58 hA n 1) (by have := hyes c; omega);have hin4 : A.inb bI 4 := Z4o hA hbII hbn4;have hlt5 : A.ltN (A.addN 0 (A.mulN (A.tn bI) 1)) [I x0, I x1, I x2, I x3, I nt] := Zwm hA 0 hbII (m := 5) rfl (by omega);obtain ⟨y0, y1, y2, y3, hset, hsetD⟩ := Zwx hx bn hbn4 n;have hset2 : A.set [I x0, I x1, I x2, I x3, I nt] (A.addN 0 (A.mulN (A.tn bI) 1)) (I n) = [I y0, I y1, I y2, I y3, I nt] := Zs6 hA 0 hbII (hsetD (I nt)).symm;have hput : A.cmp .leq n m.hi = true -> A.mput e1 [y0, y1, y2, y3, nt] (.v (.bool true)) = Zj nents ((UL.take (t + 1)).map fun n => (s.1.set bn n, s.2)) := fun c => by
      rw [Z5y (hyes c).2.2.2, List.map_append, Z51, <- w3];subst hA;show _ = ar.mput e1 (Z64 (s.1.set bn n, s.2)) tD;rw [Z64, hset, <- hnt]; rfl
     have hms2 : t < UL.length -> UL.length - (t + 1) < UL.length - t := fun h => by omega
     refine Z2w Z0 hA hS [17] ?_;cbv;refine bm (fun c3 => ?_) (fun c3 => ?_)
     ·have ht1 := (hyes c3).1;have hf3 := hfn c3;have hpt := hput c3;cbv;refine ⟨hin4, hlt5, ?_⟩;refine Z3h hS (Z7w 7 (.agg [I y0, I y1, I y2, I y3, I nt]) rfl (show WkL (A.set [I x0, I x1, I x2, I x3, I nt] (A.addN 0 (A.mulN (A.tn bI) 1)) (I n)) [I y0, I y1, I y2, I y3, I nt] from hset2 ▸ WkL.rfl) (Z7 ?_));refine Zb hS ?_;refine Zi Z0 hA hS ?_;cbv;refine ⟨[y0, y1, y2, y3, nt], ⟨rfl, rfl⟩, ?_⟩;cbv;refine ⟨hf3, ?_⟩;refine Z8 (A.add n 1, t + 1, A.mput e1 [y0, y1, y2, y3, nt] (.v (.bool true))) [0, 1, 2, 3, 4, 5, 6] ⟨hn1, ht1, hpt⟩ (hms2 ht1) ?_;exact ⟨by decide, Z9, ⟨rfl, rfl, rfl, rfl, rfl, rfl, rfl, trivial⟩, ⟨rfl, rfl, rfl, rfl, rfl, rfl, rfl, rfl, rfl, rfl, trivial⟩, rfl, rfl⟩
     ·have hee := hend e1 (hno c3);cbv;refine Z7 ?_;cbv;refine Z8 (sn, done ++ [s], e1) [0, 1, 2, 3, 4] ⟨hsn, hfin e1 hee⟩ hul ?_;exact ⟨by decide, Z9, ⟨rfl, rfl, rfl, rfl, rfl, trivial⟩, ⟨rfl, rfl, rfl, rfl, rfl, rfl, rfl, trivial⟩, rfl, rfl⟩
   ·by_cases hneg : m.inst < 0
    ·rw [show mvI m bn = .ifc 221 (.agg [I m.kind, I m.bin, I m.inst, I m.lo, I m.hi]) from by rw [mvI, if_neg (by omega), if_pos hk2]] at hVk;have hbin := hmo.b0;have hbinl := hmo.b1;obtain ⟨fifo, hff⟩ : ∃ fifo, j.first[m.bin.toNat]? = some fifo := ⟨_, List.getElem?_eq_getElem (by omega)⟩;have hfd : j.first.getD m.bin.toNat false = fifo := by rw [List.getD_eq_getElem?_getD, hff]; rfl
     have hbI : IsI m.bin m.bin.toNat := ⟨by omega⟩;obtain ⟨UL, hUL⟩ : ∃ UL, UL = upR m.lo m.hi := ⟨_, rfl⟩;have hULl : UL.length = (m.hi + 1 - m.lo).toNat := by rw [hUL, Zam]
     have hUg : ∀ t : Nat, t < UL.length -> UL[t]? = some (m.lo + t) := fun t h => by rw [hUL] at h ⊢; exact Zcv h
     have hins0 := hmo.i0 hk2;have hins1 := hmo.i1 hk2;have hst : ∀ s, step s = (Z9q j.ins m).flatMap fun i => UL.flatMap fun n => Zl fifo tk m.bin i bins 0 s n := fun s => by rw [hstep, Z22, if_neg (by omega), if_pos hk2, hfd, hUL]
     have hfI : A.fits .i64 (A.sub j.ins 1) := Z14 hA (Z24 hA j.ins 1) (by omega);obtain ⟨f1, hf1E⟩ : ∃ f1, f1 = A.sub j.ins 1 := ⟨_, rfl⟩;obtain ⟨IL, hIL⟩ : ∃ IL, IL = upR 0 f1 := ⟨_, rfl⟩;have hst2 : ∀ s, step s = IL.flatMap fun i => UL.flatMap fun n => Zl fifo tk m.bin i bins 0 s n := fun s => by rw [hst, Zkz, if_pos hneg, hIL, hf1E]; rw [Z24 hA]
     have hf1b : 0 <= 0 /\ f1 < 4 := by rw [hf1E]; rw [Z24 hA]; omega
     have hcn : A.cmp .lss m.inst 0 = true := by subst hA; simp [ar, Z25]; omega
     have hILl : IL.length = (f1 + 1 - 0).toNat := by rw [hIL, Zam]
     have hIg : ∀ t : Nat, t < IL.length -> IL[t]? = some (0 + t) := fun t h => by rw [hIL] at h ⊢; exact Zcv h
     have hg := Z18 hA u2 hVk;cbv;refine ⟨hin, ⟨_, hg, ?_⟩⟩;cbv;refine Z2g hS rfl rfl rfl (Z6t Z0 rfl rfl rfl rfl fun bs clock h1 h2 h3 => ?_);refine Z3 Z0 hA hS ?_;cbv;refine Zb hS ?_;refine Za (α := List Nat × List (Ste Int) × List (List Int × D)) (fun q => { env := [(1, .cb (.agg [I j.ins, .sl 1 FL, .sl 5 ML, .sl 1 BL, .fn f _]) 0), (5, .ifc 221 (.agg [I m.kind, I m.bin, I m.inst, I m.lo, I m.hi])), (6, .b 3 0), (22, .sl 1 VL), (23, I (A.oi (A.len VL))), (24, I i), (30, .b 4 0)], H := [.ob .mk, .ob (.mpx 5 ents bs clock), .ob (.mp 5 q.2.2), .box (.mv 2), .ob (.mi 1 clock q.1 clock)], nt := 132, dfs := [.mk 0] })
      (fun q => Z8y bs q.1) (fun q => Seen ents bs q.1 (Z6n j tk k) q.2.1 /\ MapOk q.2.2 (q.2.1.flatMap step)) ([], [], []) ⟨Z84 _ _ _, Z82⟩ (by
       exact Zf [0, 1, 2, 3, 4] ⟨by decide, Z9, ⟨rfl, rfl, rfl, rfl, rfl, trivial⟩, ⟨rfl, rfl, rfl, rfl, rfl, rfl, rfl, trivial⟩, rfl, rfl⟩) ?_
     rintro ⟨seen, done, nents⟩ ⟨v1, v2⟩;dsimp only at v1 v2;refine Z2w Z0 hA hS [] ?_;cbv;refine Z2g hS rfl rfl rfl (Z7y rfl rfl rfl rfl (fun hall => ?_) (fun ix c e hc he hn hkl => ?_))
     ·have hal := v1.all u3 h1 hall;have hmN : MapOk nents (Z6n j tk (k + 1)) := by
       rw [hns];exact v2.congr fun s => by simp only [List.mem_flatMap, hal]
      obtain ⟨nl, hnl⟩ : ∃ nl : Int, nl = (nents.length : Int) := ⟨_, rfl⟩;have hz0 : A.cmp .eql nl 0 = true -> Zd j tk 0 = [] := fun c => hnil (hmN.empty.1 (List.eq_nil_of_length_eq_zero (by have := xeq hA c; omega)));have hz1 : A.cmp .eql nl 0 = false -> Z6n j tk (k + 1) ≠ [] := fun c h => by
       have h2 := hmN.empty.2 h;have h3 := Z2o hA c;rw [hnl, h2] at h3; exact h3 rfl
      refine Z3 Z0 hA hS ?_;cbv;refine Z7 ?_;cbv;refine Z4j Z0 hA hS [0] [1, 2] rfl ?_;cbv;refine Z2g hS rfl rfl rfl (Z7i Z0 rfl rfl rfl rfl nl hnl ?_);refine Z3 Z0 hA hS ?_;cbv;refine bm (fun c2 => ?_) (fun c2 => ?_)
      ·have hq0 := hp (hz0 c2);cbv;refine Z26 hS (Z60 (a := { env := [(128, .ifc 175 (.agg []))], H := [.ob .mk], nt := 132, dfs := [.mk 0] }) [0] ⟨by decide, Z9, ⟨rfl, trivial⟩, ⟨rfl, trivial⟩, rfl, rfl⟩ (Z7 ?_));refine Z2g hS rfl rfl rfl (Zaf rfl rfl ?_);intro e _;exact ⟨rfl, hq0⟩
      ·cbv;refine ⟨hf1, ?_⟩;refine Z8 (A.add i 1, k + 1, nents) [0, 2] ⟨hk, hu2, hmN, hz1 c2⟩ hms ?_;exact ⟨by decide, Z9, ⟨rfl, rfl, trivial⟩, ⟨rfl, rfl, rfl, rfl, rfl, trivial⟩, rfl, rfl⟩
     ·obtain ⟨s, hs, rfl⟩ := u3.at he;have hso := hokk s hs;obtain ⟨x0, x1, x2, x3, hx⟩ := Zbr hso.l.len;obtain ⟨nt, hnt⟩ : ∃ nt, nt = s.2 := ⟨_, rfl⟩;have hnt0 : 0 <= nt := by rw [hnt]; exact hso.n0
      have hnt6 : nt <= 640 := by rw [hnt]; exact hso.n1
      have hkey := Z87 hx hnt.symm;have hsl := hso.l;have hsn := v1.next h2 hc he hs;have hul := Z85 hc hn;have hfin : ∀ e', e' = Zj nents (step s) -> MapOk e' ((done ++ [s]).flatMap step) := fun e' h => by
       rw [h, List.flatMap_append];have := Z83 v2 (step s);simpa using this
      obtain ⟨sn, hsnE⟩ : ∃ sn, sn = seen ++ [c] := ⟨_, rfl⟩;dsimp only;rw [hkey, <- hsnE];rw [<- hsnE] at hsn hul;have hss := hst2 s;have hend : ∀ e', e' = Zj nents (IL.flatMap fun i => UL.flatMap fun n => Zl fifo tk m.bin i bins 0 s n) -> e' = Zj nents (step s) := fun e' h => by rw [hss]; exact h
      refine Z3 Z0 hA hS ?_;cbv;refine Z2g hS rfl rfl rfl (Z5x hsnE rfl rfl rfl rfl hc he ?_);dsimp only;rw [hkey];refine Z3 Z0 hA hS ?_;cbv;refine Z16 Z0 hA hS [0, 1, 2, 3, 4, 5, 6, 7] rfl rfl fun Dk hD => ?_;cbv;refine bm (fun _ => ?_) (fun c => Bool.noConfusion (hcn.symm.trans c));cbv;refine Z16 Z0 hA hS [0, 1, 2, 3, 4, 5] rfl rfl fun Dk hD => ?_;cbv;refine ⟨hfI, ?_⟩;refine Zb hS ?_;refine Za (α := Int × Nat × List (List Int × D)) (fun q => { env := [(1, .cb (.agg [I j.ins, .sl 1 FL, .sl 5 ML, .sl 1 BL, .fn f _]) 0), (5, .ifc 221 (.agg [I m.kind, I m.bin, I m.inst, I m.lo, I m.hi])), (6, .b 3 0), (7, .cb (.agg [I x0, I x1, I x2, I x3, I nt]) 0), (11, .cb (.agg [I m.kind, I m.bin, I m.inst, I m.lo, I m.hi]) 0), (13, I f1), (14, I q.1), (22, .sl 1 VL), (23, I (A.oi (A.len VL))), (24, I i), (30, .b 4 0)], H := [.ob .mk, .ob (.mpx 5 ents bs clock), .ob (.mp 5 q.2.2), .box (.mv 2), .ob (.mi 1 clock sn clock)], nt := 132, dfs := [.mk 0] })
       (fun q => IL.length - q.2.1) (fun q => q.1 = 0 + q.2.1 /\ q.2.1 <= IL.length /\ q.2.2 = Zj nents ((IL.take q.2.1).flatMap fun i => UL.flatMap fun n => Zl fifo tk m.bin i bins 0 s n)) (0, 0, nents) ⟨by simp, Nat.zero_le _, rfl⟩ (by
        rw [hf1E]
        refine Z1a hA [5, 6] ?_
        exact Zf [0, 1, 2, 3, 4] ⟨by decide, Z9, ⟨rfl, rfl, rfl, rfl, rfl, trivial⟩, ⟨rfl, rfl, rfl, rfl, rfl, rfl, rfl, rfl, rfl, rfl, rfl, trivial⟩, rfl, rfl⟩) ?_
      rintro ⟨ii, t, e1⟩ ⟨w1, w2, w3⟩;dsimp only at w1 w2 w3;have hyes : A.cmp .leq ii f1 = true -> t < IL.length /\ 0 <= ii /\ ii < 4 /\ IL[t]? = some ii := fun c => by
       have h1 := xle hA c;have h2 : t < IL.length := by omega
       exact ⟨h2, by omega, by omega, by rw [w1]; exact hIg t h2⟩
      have hno : A.cmp .leq ii f1 = false -> e1 = Zj nents (IL.flatMap fun i => UL.flatMap fun n => Zl fifo tk m.bin i bins 0 s n) := fun c => by
       have h1 := Zec hA c;rw [w3, List.take_of_length_le (by omega)]
      have hn1 : A.add ii 1 = 0 + ((t + 1 : Nat) : Int) := by rw [Z58 hA, w1]; omega
      have hfn : A.cmp .leq ii f1 = true -> A.fits .i64 (A.add ii 1) := fun c => Z14 hA (Z58 hA ii 1) (by have := hyes c; omega);have hstp : A.cmp .leq ii f1 = true -> ∀ e', e' = Zj e1 (UL.flatMap fun n => Zl fifo tk m.bin ii bins 0 s n) -> e' = Zj nents ((IL.take (t + 1)).flatMap fun i => UL.flatMap fun n => Zl fifo tk m.bin i bins 0 s n) := fun c e' h => by
       rw [Z5y (hyes c).2.2.2, List.flatMap_append, Z51, <- w3, h]; simp
      have hms2 : t < IL.length -> IL.length - (t + 1) < IL.length - t := fun h => by omega
      refine Zi Z0 hA hS ?_;cbv;refine bm (fun c3 => ?_) (fun c3 => ?_)
      ·obtain ⟨ht1, hii0, hii4, -⟩ := hyes c3;have hf3 := hfn c3;have hst3 := hstp c3;have hdd := fun P s x0 x1 x2 x3 nt a => hd1 m.bin ii _ hbI fifo hff hii0 hii4 P s x0 x1 x2 x3 nt a;cbv;refine Zb hS ?_;refine Za (α := Int × Nat × List (List Int × D)) (fun q => { env := [(1, .cb (.agg [I j.ins, .sl 1 FL, .sl 5 ML, .sl 1 BL, .fn f _]) 0), (5, .ifc 221 (.agg [I m.kind, I m.bin, I m.inst, I m.lo, I m.hi])), (6, .b 3 0), (7, .cb (.agg [I x0, I x1, I x2, I x3, I nt]) 0), (11, .cb (.agg [I m.kind, I m.bin, I m.inst, I m.lo, I m.hi]) 0), (13, I f1), (14, I ii), (15, I q.1), (22, .sl 1 VL), (23, I (A.oi (A.len VL))), (24, I i), (30, .b 4 0)], H := [.ob .mk, .ob (.mpx 5 ents bs clock), .ob (.mp 5 q.2.2), .box (.mv 2), .ob (.mi 1 clock sn clock)], nt := 132, dfs := [.mk 0] })
        (fun q => UL.length - q.2.1) (fun q => q.1 = m.lo + q.2.1 /\ q.2.1 <= UL.length /\ q.2.2 = Zj e1 ((UL.take q.2.1).flatMap fun n => Zl fifo tk m.bin ii bins 0 s n)) (m.lo, 0, e1) ⟨by simp, Nat.zero_le _, rfl⟩ (by
         exact Zf [0, 1, 2, 3, 4] ⟨by decide, Z9, ⟨rfl, rfl, rfl, rfl, rfl, trivial⟩, ⟨rfl, rfl, rfl, rfl, rfl, rfl, rfl, rfl, rfl, rfl, rfl, rfl, trivial⟩, rfl, rfl⟩) ?_
       rintro ⟨n, t2, e2⟩ ⟨z1, z2, z3⟩;dsimp only at z1 z2 z3;have gyes : A.cmp .leq n m.hi = true -> t2 < UL.length /\ 0 <= n /\ n <= 5 /\ UL[t2]? = some n := fun c => by
        have h1 := xle hA c;have h2 : t2 < UL.length := by omega
        exact ⟨h2, by omega, by omega, by rw [z1]; exact hUg t2 h2⟩
       have gno : A.cmp .leq n m.hi = false -> e2 = Zj e1 (UL.flatMap fun n => Zl fifo tk m.bin ii bins 0 s n) := fun c => by
        have h1 := Zec hA c;rw [z3, List.take_of_length_le (by omega)]
       have gn1 : A.add n 1 = m.lo + ((t2 + 1 : Nat) : Int) := by rw [Z58 hA, z1]; omega
       have gfn : A.cmp .leq n m.hi = true -> A.fits .i64 (A.add n 1) := fun c => Z14 hA (Z58 hA n 1) (by have := gyes c; omega);have gstp : A.cmp .leq n m.hi = true -> Zj e2 (Zl fifo tk m.bin ii bins 0 s n) = Zj e1 ((UL.take (t2 + 1)).flatMap fun n => Zl fifo tk m.bin ii bins 0 s n) := fun c => by
        rw [Z5y (gyes c).2.2.2, List.flatMap_append, Z51, <- z3]; simp
       have gms2 : t2 < UL.length -> UL.length - (t2 + 1) < UL.length - t2 := fun h => by omega
       refine Zi Z0 hA hS ?_;cbv;refine bm (fun c4 => ?_) (fun c4 => ?_)
       ·obtain ⟨gt1, gn0, gn5, -⟩ := gyes c4;have gf3 := gfn c4;obtain ⟨e3, he3⟩ : ∃ e3, e3 = Zj e2 (Zl fifo tk m.bin ii bins 0 s n) := ⟨_, rfl⟩;have gst := he3.trans (gstp c4);cbv;refine Z4 hS [.agg [I j.ins, .sl 1 FL, .sl 5 ML, .sl 1 BL, .fn f _], .agg [I x0, I x1, I x2, I x3, I nt], I m.bin, I ii, I n, I 0] [] [] rfl rfl rfl rfl rfl rfl rfl rfl (by decide) trivial (hdr _ _ _ _ _ _ _ _ _ _ ?_);refine Z3 Z0 hA hS ?_;cbv;refine Z3h hS (Z60 (a := { env := [(99, .fn 174 [.cb (.agg [I j.ins, .sl 1 FL, .sl 5 ML, .sl 1 BL, .fn f _]) 0, .cb (.agg [I x0, I x1, I x2, I x3, I nt]) 0, .cb (I m.bin) 0, .cb (I ii) 0, .cb (I n) 0, .cb (I 0) 0]), (1, .cb (.agg [I j.ins, .sl 1 FL, .sl 5 ML, .sl 1 BL, .fn f _]) 0), (5, .ifc 221 (.agg [I m.kind, I m.bin, I m.inst, I m.lo, I m.hi])), (6, .b 3 0), (7, .cb (.agg [I x0, I x1, I x2, I x3, I nt]) 0), (11, .cb (.agg [I m.kind, I m.bin, I m.inst, I m.lo, I m.hi]) 0), (13, I f1), (14, I ii), (15, I n), (22, .sl 1 VL), (23, I (A.oi (A.len VL))), (24, I i), (30, .b 4 0)], H := [.ob .mk, .ob (.mpx 5 ents bs clock), .ob (.mp 5 e2), .box (.mv 2), .ob (.mi 1 clock sn clock)], nt := 132, dfs := [.mk 0] }) [0, 1, 2, 3, 4] ⟨by decide, Z9, ⟨rfl, rfl, rfl, rfl, rfl, trivial⟩, ⟨rfl, rfl, rfl, rfl, rfl, rfl, rfl, rfl, rfl, rfl, rfl, rfl, rfl, trivial⟩, rfl, rfl⟩ (Z7 ?_));refine Z9l hS (as' := [.yv 0, .cb (.agg [I j.ins, .sl 1 FL, .sl 5 ML, .sl 1 BL, .fn f _]) 0, .cb (.agg [I x0, I x1, I x2, I x3, I nt]) 0, .cb (I m.bin) 0, .cb (I ii) 0, .cb (I n) 0, .cb (I 0) 0]) [5, 1, 2, 3, 4]
         (drH { d1 := .agg [I j.ins, .sl 1 FL, .sl 5 ML, .sl 1 BL, .fn f _], d2 := .agg [I x0, I x1, I x2, I x3, I nt], d3 := I m.bin, d4 := I ii, d5 := I n, d6 := I 0, b := .agg [I j.ins, .sl 1 FL, .sl 5 ML, .sl 1 BL, .fn f _], s := .agg [I x0, I x1, I x2, I x3, I nt], x := .agg [I m.kind, I m.bin, I m.inst, I m.lo, I m.hi], ents := ents, bs := bs, seen := sn, clock := clock, m1 := m.kind, m2 := m.bin, m3 := m.inst, m4 := m.lo, m5 := m.hi, last := f1, i := ii, n := n, VL := VL, vl := A.oi (A.len VL), k := i, asg := _, bdy := _ } e2) rfl rfl rfl rfl (by decide) ⟨rfl, rfl, rfl, rfl, rfl, trivial⟩
         (hdd _ s x0 x1 x2 x3 nt n ⟨fun w0 w1 w2 w3 w4 ee ee' hee' Q hq => ?_⟩ hsl hx hnt.symm hnt0 hnt6 gn0 gn5 e2 e3 he3 _ fun d => ?_)
        ·have hee2 : ee' = A.mput ee [w0, w1, w2, w3, w4] (.v (.bool true)) := by rw [hee', hA]; rfl
         rw [hee2] at hq;refine Zh2 Z0 hA rfl rfl (by decide) fun b' S2 hS2 => ?_;cbv;refine Zb hS2 ?_;refine Z2w Z0 hA hS2 [31] ?_;cbv;refine Z3h hS2 (Z1a hA [5] ?_);cbv;refine Z7 ?_;refine Zb hS2 ?_;refine Zi Z0 hA hS2 ?_;cbv;refine ⟨[w0, w1, w2, w3, w4], ⟨rfl, rfl⟩, ?_⟩;cbv;exact ⟨⟨_, _, rfl⟩, hq⟩
        ·refine ⟨⟨.ready, _, (by intro h; cases h), rfl⟩, ?_⟩;cbv;refine ⟨gf3, ?_⟩;refine Z8 (A.add n 1, t2 + 1, e3) [0, 1, 2, 3, 4] ⟨gn1, gt1, gst⟩ (gms2 gt1) ?_;exact ⟨by decide, Z9, ⟨rfl, rfl, rfl, rfl, rfl, trivial⟩, ⟨rfl, rfl, rfl, rfl, rfl, rfl, rfl, rfl, rfl, rfl, rfl, rfl, trivial⟩, rfl, rfl⟩
       ·have hes := hst3 e2 (gno c4);cbv;refine Z7 ?_;cbv;refine ⟨hf3, ?_⟩;refine Z8 (A.add ii 1, t + 1, e2) [0, 1, 2, 3, 4] ⟨hn1, ht1, hes⟩ (hms2 ht1) ?_;exact ⟨by decide, Z9, ⟨rfl, rfl, rfl, rfl, rfl, trivial⟩, ⟨rfl, rfl, rfl, rfl, rfl, rfl, rfl, rfl, rfl, rfl, rfl, trivial⟩, rfl, rfl⟩
      ·have hee := hend e1 (hno c3);cbv;refine Z7 ?_;cbv;refine Z8 (sn, done ++ [s], e1) [0, 1, 2, 3, 4] ⟨hsn, hfin e1 hee⟩ hul ?_;exact ⟨by decide, Z9, ⟨rfl, rfl, rfl, rfl, rfl, trivial⟩, ⟨rfl, rfl, rfl, rfl, rfl, rfl, rfl, trivial⟩, rfl, rfl⟩
    ·rw [show mvI m bn = .ifc 221 (.agg [I m.kind, I m.bin, I m.inst, I m.lo, I m.hi]) from by rw [mvI, if_neg (by omega), if_pos hk2]] at hVk;have hbin := hmo.b0;have hbinl := hmo.b1;obtain ⟨fifo, hff⟩ : ∃ fifo, j.first[m.bin.toNat]? = some fifo := ⟨_, List.getElem?_eq_getElem (by omega)⟩;have hfd : j.first.getD m.bin.toNat false = fifo := by rw [List.getD_eq_getElem?_getD, hff]; rfl
     have hbI : IsI m.bin m.bin.toNat := ⟨by omega⟩;obtain ⟨UL, hUL⟩ : ∃ UL, UL = upR m.lo m.hi := ⟨_, rfl⟩;have hULl : UL.length = (m.hi + 1 - m.lo).toNat := by rw [hUL, Zam]
     have hUg : ∀ t : Nat, t < UL.length -> UL[t]? = some (m.lo + t) := fun t h => by rw [hUL] at h ⊢; exact Zcv h
     have hins0 := hmo.i0 hk2;have hins1 := hmo.i1 hk2;have hst : ∀ s, step s = (Z9q j.ins m).flatMap fun i => UL.flatMap fun n => Zl fifo tk m.bin i bins 0 s n := fun s => by rw [hstep, Z22, if_neg (by omega), if_pos hk2, hfd, hUL]
     have hfI : A.fits .i64 (A.sub j.ins 1) := Z14 hA (Z24 hA j.ins 1) (by omega);obtain ⟨f1, hf1E⟩ : ∃ f1, f1 = m.inst := ⟨_, rfl⟩;obtain ⟨IL, hIL⟩ : ∃ IL, IL = upR m.inst f1 := ⟨_, rfl⟩;have hst2 : ∀ s, step s = IL.flatMap fun i => UL.flatMap fun n => Zl fifo tk m.bin i bins 0 s n := fun s => by rw [hst, Zkz, if_neg hneg, hIL, hf1E]
     have hf1b : 0 <= m.inst /\ f1 < 4 := by rw [hf1E]; omega
     have hcn : A.cmp .lss m.inst 0 = false := by subst hA; simp [ar, Z25]; omega
     have hILl : IL.length = (f1 + 1 - m.inst).toNat := by rw [hIL, Zam]
     have hIg : ∀ t : Nat, t < IL.length -> IL[t]? = some (m.inst + t) := fun t h => by rw [hIL] at h ⊢; exact Zcv h
     have hg := Z18 hA u2 hVk;cbv;refine ⟨hin, ⟨_, hg, ?_⟩⟩;cbv;refine Z2g hS rfl rfl rfl (Z6t Z0 rfl rfl rfl rfl fun bs clock h1 h2 h3 => ?_);refine Z3 Z0 hA hS ?_;cbv;refine Zb hS ?_;refine Za (α := List Nat × List (Ste Int) × List (List Int × D)) (fun q => { env := [(1, .cb (.agg [I j.ins, .sl 1 FL, .sl 5 ML, .sl 1 BL, .fn f _]) 0), (5, .ifc 221 (.agg [I m.kind, I m.bin, I m.inst, I m.lo, I m.hi])), (6, .b 3 0), (22, .sl 1 VL), (23, I (A.oi (A.len VL))), (24, I i), (30, .b 4 0)], H := [.ob .mk, .ob (.mpx 5 ents bs clock), .ob (.mp 5 q.2.2), .box (.mv 2), .ob (.mi 1 clock q.1 clock)], nt := 132, dfs := [.mk 0] })
      (fun q => Z8y bs q.1) (fun q => Seen ents bs q.1 (Z6n j tk k) q.2.1 /\ MapOk q.2.2 (q.2.1.flatMap step)) ([], [], []) ⟨Z84 _ _ _, Z82⟩ (by
       exact Zf [0, 1, 2, 3, 4] ⟨by decide, Z9, ⟨rfl, rfl, rfl, rfl, rfl, trivial⟩, ⟨rfl, rfl, rfl, rfl, rfl, rfl, rfl, trivial⟩, rfl, rfl⟩) ?_
     rintro ⟨seen, done, nents⟩ ⟨v1, v2⟩;dsimp only at v1 v2;refine Z2w Z0 hA hS [] ?_;cbv;refine Z2g hS rfl rfl rfl (Z7y rfl rfl rfl rfl (fun hall => ?_) (fun ix c e hc he hn hkl => ?_))
     ·have hal := v1.all u3 h1 hall;have hmN : MapOk nents (Z6n j tk (k + 1)) := by
       rw [hns];exact v2.congr fun s => by simp only [List.mem_flatMap, hal]
      obtain ⟨nl, hnl⟩ : ∃ nl : Int, nl = (nents.length : Int) := ⟨_, rfl⟩;have hz0 : A.cmp .eql nl 0 = true -> Zd j tk 0 = [] := fun c => hnil (hmN.empty.1 (List.eq_nil_of_length_eq_zero (by have := xeq hA c; omega)));have hz1 : A.cmp .eql nl 0 = false -> Z6n j tk (k + 1) ≠ [] := fun c h => by
       have h2 := hmN.empty.2 h;have h3 := Z2o hA c;rw [hnl, h2] at h3; exact h3 rfl
      refine Z3 Z0 hA hS ?_;cbv;refine Z7 ?_;cbv;refine Z4j Z0 hA hS [0] [1, 2] rfl ?_;cbv;refine Z2g hS rfl rfl rfl (Z7i Z0 rfl rfl rfl rfl nl hnl ?_);refine Z3 Z0 hA hS ?_;cbv;refine bm (fun c2 => ?_) (fun c2 => ?_)
      ·have hq0 := hp (hz0 c2);cbv;refine Z26 hS (Z60 (a := { env := [(128, .ifc 175 (.agg []))], H := [.ob .mk], nt := 132, dfs := [.mk 0] }) [0] ⟨by decide, Z9, ⟨rfl, trivial⟩, ⟨rfl, trivial⟩, rfl, rfl⟩ (Z7 ?_));refine Z2g hS rfl rfl rfl (Zaf rfl rfl ?_);intro e _;exact ⟨rfl, hq0⟩
      ·cbv;refine ⟨hf1, ?_⟩;refine Z8 (A.add i 1, k + 1, nents) [0, 2] ⟨hk, hu2, hmN, hz1 c2⟩ hms ?_;exact ⟨by decide, Z9, ⟨rfl, rfl, trivial⟩, ⟨rfl, rfl, rfl, rfl, rfl, trivial⟩, rfl, rfl⟩
     ·obtain ⟨s, hs, rfl⟩ := u3.at he;have hso := hokk s hs;obtain ⟨x0, x1, x2, x3, hx⟩ := Zbr hso.l.len;obtain ⟨nt, hnt⟩ : ∃ nt, nt = s.2 := ⟨_, rfl⟩;have hnt0 : 0 <= nt := by rw [hnt]; exact hso.n0
      have hnt6 : nt <= 640 := by rw [hnt]; exact hso.n1
      have hkey := Z87 hx hnt.symm;have hsl := hso.l;have hsn := v1.next h2 hc he hs;have hul := Z85 hc hn;have hfin : ∀ e', e' = Zj nents (step s) -> MapOk e' ((done ++ [s]).flatMap step) := fun e' h => by
       rw [h, List.flatMap_append];have := Z83 v2 (step s);simpa using this
      obtain ⟨sn, hsnE⟩ : ∃ sn, sn = seen ++ [c] := ⟨_, rfl⟩;dsimp only;rw [hkey, <- hsnE];rw [<- hsnE] at hsn hul;have hss := hst2 s;have hend : ∀ e', e' = Zj nents (IL.flatMap fun i => UL.flatMap fun n => Zl fifo tk m.bin i bins 0 s n) -> e' = Zj nents (step s) := fun e' h => by rw [hss]; exact h
      refine Z3 Z0 hA hS ?_;cbv;refine Z2g hS rfl rfl rfl (Z5x hsnE rfl rfl rfl rfl hc he ?_);dsimp only;rw [hkey];refine Z3 Z0 hA hS ?_;cbv;refine Z16 Z0 hA hS [0, 1, 2, 3, 4, 5, 6, 7] rfl rfl fun Dk hD => ?_;cbv;refine bm (fun c => Bool.noConfusion (hcn.symm.trans c)) (fun _ => ?_);cbv;refine Zb hS ?_;refine Za (α := Int × Nat × List (List Int × D)) (fun q => { env := [(1, .cb (.agg [I j.ins, .sl 1 FL, .sl 5 ML, .sl 1 BL, .fn f _]) 0), (5, .ifc 221 (.agg [I m.kind, I m.bin, I m.inst, I m.lo, I m.hi])), (6, .b 3 0), (7, .cb (.agg [I x0, I x1, I x2, I x3, I nt]) 0), (11, .cb (.agg [I m.kind, I m.bin, I m.inst, I m.lo, I m.hi]) 0), (13, I f1), (14, I q.1), (22, .sl 1 VL), (23, I (A.oi (A.len VL))), (24, I i), (30, .b 4 0)], H := [.ob .mk, .ob (.mpx 5 ents bs clock), .ob (.mp 5 q.2.2), .box (.mv 2), .ob (.mi 1 clock sn clock)], nt := 132, dfs := [.mk 0] })
       (fun q => IL.length - q.2.1) (fun q => q.1 = m.inst + q.2.1 /\ q.2.1 <= IL.length /\ q.2.2 = Zj nents ((IL.take q.2.1).flatMap fun i => UL.flatMap fun n => Zl fifo tk m.bin i bins 0 s n)) (m.inst, 0, nents) ⟨by simp, Nat.zero_le _, rfl⟩ (by
        rw [hf1E]
        refine Z1a hA [5, 6] ?_
        exact Zf [0, 1, 2, 3, 4] ⟨by decide, Z9, ⟨rfl, rfl, rfl, rfl, rfl, trivial⟩, ⟨rfl, rfl, rfl, rfl, rfl, rfl, rfl, rfl, rfl, rfl, rfl, trivial⟩, rfl, rfl⟩) ?_
      rintro ⟨ii, t, e1⟩ ⟨w1, w2, w3⟩;dsimp only at w1 w2 w3;have hyes : A.cmp .leq ii f1 = true -> t < IL.length /\ 0 <= ii /\ ii < 4 /\ IL[t]? = some ii := fun c => by
       have h1 := xle hA c;have h2 : t < IL.length := by omega
       exact ⟨h2, by omega, by omega, by rw [w1]; exact hIg t h2⟩
      have hno : A.cmp .leq ii f1 = false -> e1 = Zj nents (IL.flatMap fun i => UL.flatMap fun n => Zl fifo tk m.bin i bins 0 s n) := fun c => by
       have h1 := Zec hA c;rw [w3, List.take_of_length_le (by omega)]
      have hn1 : A.add ii 1 = m.inst + ((t + 1 : Nat) : Int) := by rw [Z58 hA, w1]; omega
      have hfn : A.cmp .leq ii f1 = true -> A.fits .i64 (A.add ii 1) := fun c => Z14 hA (Z58 hA ii 1) (by have := hyes c; omega);have hstp : A.cmp .leq ii f1 = true -> ∀ e', e' = Zj e1 (UL.flatMap fun n => Zl fifo tk m.bin ii bins 0 s n) -> e' = Zj nents ((IL.take (t + 1)).flatMap fun i => UL.flatMap fun n => Zl fifo tk m.bin i bins 0 s n) := fun c e' h => by
       rw [Z5y (hyes c).2.2.2, List.flatMap_append, Z51, <- w3, h]; simp
      have hms2 : t < IL.length -> IL.length - (t + 1) < IL.length - t := fun h => by omega
      refine Zi Z0 hA hS ?_;cbv;refine bm (fun c3 => ?_) (fun c3 => ?_)
      ·obtain ⟨ht1, hii0, hii4, -⟩ := hyes c3;have hf3 := hfn c3;have hst3 := hstp c3;have hdd := fun P s x0 x1 x2 x3 nt a => hd1 m.bin ii _ hbI fifo hff hii0 hii4 P s x0 x1 x2 x3 nt a;cbv;refine Zb hS ?_;refine Za (α := Int × Nat × List (List Int × D)) (fun q => { env := [(1, .cb (.agg [I j.ins, .sl 1 FL, .sl 5 ML, .sl 1 BL, .fn f _]) 0), (5, .ifc 221 (.agg [I m.kind, I m.bin, I m.inst, I m.lo, I m.hi])), (6, .b 3 0), (7, .cb (.agg [I x0, I x1, I x2, I x3, I nt]) 0), (11, .cb (.agg [I m.kind, I m.bin, I m.inst, I m.lo, I m.hi]) 0), (13, I f1), (14, I ii), (15, I q.1), (22, .sl 1 VL), (23, I (A.oi (A.len VL))), (24, I i), (30, .b 4 0)], H := [.ob .mk, .ob (.mpx 5 ents bs clock), .ob (.mp 5 q.2.2), .box (.mv 2), .ob (.mi 1 clock sn clock)], nt := 132, dfs := [.mk 0] })
        (fun q => UL.length - q.2.1) (fun q => q.1 = m.lo + q.2.1 /\ q.2.1 <= UL.length /\ q.2.2 = Zj e1 ((UL.take q.2.1).flatMap fun n => Zl fifo tk m.bin ii bins 0 s n)) (m.lo, 0, e1) ⟨by simp, Nat.zero_le _, rfl⟩ (by
         exact Zf [0, 1, 2, 3, 4] ⟨by decide, Z9, ⟨rfl, rfl, rfl, rfl, rfl, trivial⟩, ⟨rfl, rfl, rfl, rfl, rfl, rfl, rfl, rfl, rfl, rfl, rfl, rfl, trivial⟩, rfl, rfl⟩) ?_
       rintro ⟨n, t2, e2⟩ ⟨z1, z2, z3⟩;dsimp only at z1 z2 z3;have gyes : A.cmp .leq n m.hi = true -> t2 < UL.length /\ 0 <= n /\ n <= 5 /\ UL[t2]? = some n := fun c => by
        have h1 := xle hA c;have h2 : t2 < UL.length := by omega
        exact ⟨h2, by omega, by omega, by rw [z1]; exact hUg t2 h2⟩
       have gno : A.cmp .leq n m.hi = false -> e2 = Zj e1 (UL.flatMap fun n => Zl fifo tk m.bin ii bins 0 s n) := fun c => by
        have h1 := Zec hA c;rw [z3, List.take_of_length_le (by omega)]
       have gn1 : A.add n 1 = m.lo + ((t2 + 1 : Nat) : Int) := by rw [Z58 hA, z1]; omega
       have gfn : A.cmp .leq n m.hi = true -> A.fits .i64 (A.add n 1) := fun c => Z14 hA (Z58 hA n 1) (by have := gyes c; omega);have gstp : A.cmp .leq n m.hi = true -> Zj e2 (Zl fifo tk m.bin ii bins 0 s n) = Zj e1 ((UL.take (t2 + 1)).flatMap fun n => Zl fifo tk m.bin ii bins 0 s n) := fun c => by
        rw [Z5y (gyes c).2.2.2, List.flatMap_append, Z51, <- z3]; simp
       have gms2 : t2 < UL.length -> UL.length - (t2 + 1) < UL.length - t2 := fun h => by omega
       refine Zi Z0 hA hS ?_;cbv;refine bm (fun c4 => ?_) (fun c4 => ?_)
       ·obtain ⟨gt1, gn0, gn5, -⟩ := gyes c4;have gf3 := gfn c4;obtain ⟨e3, he3⟩ : ∃ e3, e3 = Zj e2 (Zl fifo tk m.bin ii bins 0 s n) := ⟨_, rfl⟩;have gst := he3.trans (gstp c4);cbv;refine Z4 hS [.agg [I j.ins, .sl 1 FL, .sl 5 ML, .sl 1 BL, .fn f _], .agg [I x0, I x1, I x2, I x3, I nt], I m.bin, I ii, I n, I 0] [] [] rfl rfl rfl rfl rfl rfl rfl rfl (by decide) trivial (hdr _ _ _ _ _ _ _ _ _ _ ?_);refine Z3 Z0 hA hS ?_;cbv;refine Z3h hS (Z60 (a := { env := [(99, .fn 174 [.cb (.agg [I j.ins, .sl 1 FL, .sl 5 ML, .sl 1 BL, .fn f _]) 0, .cb (.agg [I x0, I x1, I x2, I x3, I nt]) 0, .cb (I m.bin) 0, .cb (I ii) 0, .cb (I n) 0, .cb (I 0) 0]), (1, .cb (.agg [I j.ins, .sl 1 FL, .sl 5 ML, .sl 1 BL, .fn f _]) 0), (5, .ifc 221 (.agg [I m.kind, I m.bin, I m.inst, I m.lo, I m.hi])), (6, .b 3 0), (7, .cb (.agg [I x0, I x1, I x2, I x3, I nt]) 0), (11, .cb (.agg [I m.kind, I m.bin, I m.inst, I m.lo, I m.hi]) 0), (13, I f1), (14, I ii), (15, I n), (22, .sl 1 VL), (23, I (A.oi (A.len VL))), (24, I i), (30, .b 4 0)], H := [.ob .mk, .ob (.mpx 5 ents bs clock), .ob (.mp 5 e2), .box (.mv 2), .ob (.mi 1 clock sn clock)], nt := 132, dfs := [.mk 0] }) [0, 1, 2, 3, 4] ⟨by decide, Z9, ⟨rfl, rfl, rfl, rfl, rfl, trivial⟩, ⟨rfl, rfl, rfl, rfl, rfl, rfl, rfl, rfl, rfl, rfl, rfl, rfl, rfl, trivial⟩, rfl, rfl⟩ (Z7 ?_));refine Z9l hS (as' := [.yv 0, .cb (.agg [I j.ins, .sl 1 FL, .sl 5 ML, .sl 1 BL, .fn f _]) 0, .cb (.agg [I x0, I x1, I x2, I x3, I nt]) 0, .cb (I m.bin) 0, .cb (I ii) 0, .cb (I n) 0, .cb (I 0) 0]) [5, 1, 2, 3, 4]
         (drH { d1 := .agg [I j.ins, .sl 1 FL, .sl 5 ML, .sl 1 BL, .fn f _], d2 := .agg [I x0, I x1, I x2, I x3, I nt], d3 := I m.bin, d4 := I ii, d5 := I n, d6 := I 0, b := .agg [I j.ins, .sl 1 FL, .sl 5 ML, .sl 1 BL, .fn f _], s := .agg [I x0, I x1, I x2, I x3, I nt], x := .agg [I m.kind, I m.bin, I m.inst, I m.lo, I m.hi], ents := ents, bs := bs, seen := sn, clock := clock, m1 := m.kind, m2 := m.bin, m3 := m.inst, m4 := m.lo, m5 := m.hi, last := f1, i := ii, n := n, VL := VL, vl := A.oi (A.len VL), k := i, asg := _, bdy := _ } e2) rfl rfl rfl rfl (by decide) ⟨rfl, rfl, rfl, rfl, rfl, trivial⟩
         (hdd _ s x0 x1 x2 x3 nt n ⟨fun w0 w1 w2 w3 w4 ee ee' hee' Q hq => ?_⟩ hsl hx hnt.symm hnt0 hnt6 gn0 gn5 e2 e3 he3 _ fun d => ?_)
        ·have hee2 : ee' = A.mput ee [w0, w1, w2, w3, w4] (.v (.bool true)) := by rw [hee', hA]; rfl
         rw [hee2] at hq;refine Zh2 Z0 hA rfl rfl (by decide) fun b' S2 hS2 => ?_;cbv;refine Zb hS2 ?_;refine Z2w Z0 hA hS2 [31] ?_;cbv;refine Z3h hS2 (Z1a hA [5] ?_);cbv;refine Z7 ?_;refine Zb hS2 ?_;refine Zi Z0 hA hS2 ?_;cbv;refine ⟨[w0, w1, w2, w3, w4], ⟨rfl, rfl⟩, ?_⟩;cbv;exact ⟨⟨_, _, rfl⟩, hq⟩
        ·refine ⟨⟨.ready, _, (by intro h; cases h), rfl⟩, ?_⟩;cbv;refine ⟨gf3, ?_⟩;refine Z8 (A.add n 1, t2 + 1, e3) [0, 1, 2, 3, 4] ⟨gn1, gt1, gst⟩ (gms2 gt1) ?_;exact ⟨by decide, Z9, ⟨rfl, rfl, rfl, rfl, rfl, trivial⟩, ⟨rfl, rfl, rfl, rfl, rfl, rfl, rfl, rfl, rfl, rfl, rfl, rfl, trivial⟩, rfl, rfl⟩
       ·have hes := hst3 e2 (gno c4);cbv;refine Z7 ?_;cbv;refine ⟨hf3, ?_⟩;refine Z8 (A.add ii 1, t + 1, e2) [0, 1, 2, 3, 4] ⟨hn1, ht1, hes⟩ (hms2 ht1) ?_;exact ⟨by decide, Z9, ⟨rfl, rfl, rfl, rfl, rfl, trivial⟩, ⟨rfl, rfl, rfl, rfl, rfl, rfl, rfl, rfl, rfl, rfl, rfl, trivial⟩, rfl, rfl⟩
      ·have hee := hend e1 (hno c3);cbv;refine Z7 ?_;cbv;refine Z8 (sn, done ++ [s], e1) [0, 1, 2, 3, 4] ⟨hsn, hfin e1 hee⟩ hul ?_;exact ⟨by decide, Z9, ⟨rfl, rfl, rfl, rfl, rfl, trivial⟩, ⟨rfl, rfl, rfl, rfl, rfl, rfl, rfl, trivial⟩, rfl, rfl⟩
   ·rw [show mvI m bn = .ifc 224 (.agg [I m.kind, I m.bin, I m.inst, I m.lo, I m.hi]) from by rw [mvI, if_neg (by omega), if_neg (by omega)]] at hVk;have hst : ∀ s, step s = if m.lo <= inL m.bin bins s.1 /\ inL m.bin bins s.1 <= m.hi then [s] else [] := fun s => by rw [hstep, Z22, if_neg (by omega), if_neg (by omega)]
    have hg := Z18 hA u2 hVk;cbv;refine ⟨hin, ⟨_, hg, ?_⟩⟩;cbv;refine Z2g hS rfl rfl rfl (Z6t Z0 rfl rfl rfl rfl fun bs clock h1 h2 h3 => ?_);refine Z3 Z0 hA hS ?_;cbv;refine Zb hS ?_;refine Za (α := List Nat × List (Ste Int) × List (List Int × D)) (fun q => { env := [(1, .cb (.agg [I j.ins, .sl 1 FL, .sl 5 ML, .sl 1 BL, .fn f _]) 0), (5, .ifc 224 (.agg [I m.kind, I m.bin, I m.inst, I m.lo, I m.hi])), (6, .b 3 0), (22, .sl 1 VL), (23, I (A.oi (A.len VL))), (24, I i), (30, .b 4 0)], H := [.ob .mk, .ob (.mpx 5 ents bs clock), .ob (.mp 5 q.2.2), .box (.mv 2), .ob (.mi 1 clock q.1 clock)], nt := 132, dfs := [.mk 0] })
     (fun q => Z8y bs q.1) (fun q => Seen ents bs q.1 (Z6n j tk k) q.2.1 /\ MapOk q.2.2 (q.2.1.flatMap step)) ([], [], []) ⟨Z84 _ _ _, Z82⟩ (by
      exact Zf [0, 1, 2, 3, 4] ⟨by decide, Z9, ⟨rfl, rfl, rfl, rfl, rfl, trivial⟩, ⟨rfl, rfl, rfl, rfl, rfl, rfl, rfl, trivial⟩, rfl, rfl⟩) ?_
    rintro ⟨seen, done, nents⟩ ⟨v1, v2⟩;dsimp only at v1 v2;refine Z2w Z0 hA hS [] ?_;cbv;refine Z2g hS rfl rfl rfl (Z7y rfl rfl rfl rfl (fun hall => ?_) (fun ix c e hc he hn hkl => ?_))
    ·have hal := v1.all u3 h1 hall;have hmN : MapOk nents (Z6n j tk (k + 1)) := by
      rw [hns];exact v2.congr fun s => by simp only [List.mem_flatMap, hal]
     obtain ⟨nl, hnl⟩ : ∃ nl : Int, nl = (nents.length : Int) := ⟨_, rfl⟩;have hz0 : A.cmp .eql nl 0 = true -> Zd j tk 0 = [] := fun c => hnil (hmN.empty.1 (List.eq_nil_of_length_eq_zero (by have := xeq hA c; omega)));have hz1 : A.cmp .eql nl 0 = false -> Z6n j tk (k + 1) ≠ [] := fun c h => by
      have h2 := hmN.empty.2 h;have h3 := Z2o hA c;rw [hnl, h2] at h3; exact h3 rfl
     refine Z3 Z0 hA hS ?_;cbv;refine Z7 ?_;cbv;refine Z4j Z0 hA hS [0] [1, 2] rfl ?_;cbv;refine Z2g hS rfl rfl rfl (Z7i Z0 rfl rfl rfl rfl nl hnl ?_);refine Z3 Z0 hA hS ?_;cbv;refine bm (fun c2 => ?_) (fun c2 => ?_)
     ·have hq0 := hp (hz0 c2);cbv;refine Z26 hS (Z60 (a := { env := [(128, .ifc 175 (.agg []))], H := [.ob .mk], nt := 132, dfs := [.mk 0] }) [0] ⟨by decide, Z9, ⟨rfl, trivial⟩, ⟨rfl, trivial⟩, rfl, rfl⟩ (Z7 ?_));refine Z2g hS rfl rfl rfl (Zaf rfl rfl ?_);intro e _;exact ⟨rfl, hq0⟩
     ·cbv;refine ⟨hf1, ?_⟩;refine Z8 (A.add i 1, k + 1, nents) [0, 2] ⟨hk, hu2, hmN, hz1 c2⟩ hms ?_;exact ⟨by decide, Z9, ⟨rfl, rfl, trivial⟩, ⟨rfl, rfl, rfl, rfl, rfl, trivial⟩, rfl, rfl⟩
    ·obtain ⟨s, hs, rfl⟩ := u3.at he;have hso := hokk s hs;obtain ⟨x0, x1, x2, x3, hx⟩ := Zbr hso.l.len;obtain ⟨nt, hnt⟩ : ∃ nt, nt = s.2 := ⟨_, rfl⟩;have hnt0 : 0 <= nt := by rw [hnt]; exact hso.n0
     have hnt6 : nt <= 640 := by rw [hnt]; exact hso.n1
     have hkey := Z87 hx hnt.symm;have hsl := hso.l;have hsn := v1.next h2 hc he hs;have hul := Z85 hc hn;have hfin : ∀ e', e' = Zj nents (step s) -> MapOk e' ((done ++ [s]).flatMap step) := fun e' h => by
      rw [h, List.flatMap_append];have := Z83 v2 (step s);simpa using this
     obtain ⟨sn, hsnE⟩ : ∃ sn, sn = seen ++ [c] := ⟨_, rfl⟩;dsimp only;rw [hkey, <- hsnE];rw [<- hsnE] at hsn hul;have hss := hst s;obtain ⟨il, hil⟩ : ∃ il, il = inL m.bin bins s.1 := ⟨_, rfl⟩;obtain ⟨bb, hbb⟩ : ∃ bb, bb = decide (m.lo <= il /\ il <= m.hi) := ⟨_, rfl⟩;have hinc := hin0 s.1 hsl m.bin x0 x1 x2 x3 hx il hil;rw [<- hil] at hss;have hy : bb = true -> A.mput nents [x0, x1, x2, x3, nt] (.v (.bool true)) = Zj nents (step s) := fun h => by
      rw [hss, if_pos (of_decide_eq_true (hbb.symm.trans h))];subst hA;show _ = ar.mput nents (Z64 s) tD;rw [Z64, hx, <- hnt]; rfl
     have hno : bb = false -> nents = Zj nents (step s) := fun h => by
      rw [hss, if_neg (of_decide_eq_false (hbb.symm.trans h))]; rfl
     refine Z3 Z0 hA hS ?_;cbv;refine Z2g hS rfl rfl rfl (Z5x hsnE rfl rfl rfl rfl hc he ?_);dsimp only;rw [hkey];refine Z3 Z0 hA hS ?_;cbv;refine Z16 Z0 hA hS [0, 1, 2, 3, 4, 5, 7, 8, 9, 10, 11, 12, 13, 14, 6, 15] rfl rfl fun Dk hD => ?_;cbv;refine Zq hA hD [.agg [I j.ins, .sl 1 FL, .sl 5 ML, .sl 1 BL, .fn f _], .agg [I x0, I x1, I x2, I x3], I m.bin] [] [] rfl rfl rfl rfl rfl rfl rfl rfl rfl rfl rfl (by decide) trivial (hinc _ ⟨by cbv, Zx Z0 hA hD ?_⟩);cbv;refine Zq hA hD [I il, I m.lo, I m.hi] [] [] rfl rfl rfl rfl rfl rfl rfl rfl rfl rfl rfl (by decide) trivial (bWith il m.lo m.hi bb hbb _ ⟨by cbv, Zx Z0 hA hD ?_⟩);cbv;refine bm (fun c3 => ?_) (fun c3 => ?_)
     ·have hee := hy c3;cbv;refine ⟨[x0, x1, x2, x3, nt], ⟨rfl, rfl⟩, ?_⟩;cbv;refine Z8 (sn, done ++ [s], (A.mput nents [x0, x1, x2, x3, nt] (.v (.bool true)))) [0, 1, 2, 3, 4] ⟨hsn, hfin (A.mput nents [x0, x1, x2, x3, nt] (.v (.bool true))) hee⟩ hul ?_;exact ⟨by decide, Z9, ⟨rfl, rfl, rfl, rfl, rfl, trivial⟩, ⟨rfl, rfl, rfl, rfl, rfl, rfl, rfl, trivial⟩, rfl, rfl⟩
     ·have hee := hno c3;cbv;refine Z8 (sn, done ++ [s], nents) [0, 1, 2, 3, 4] ⟨hsn, hfin nents hee⟩ hul ?_;exact ⟨by decide, Z9, ⟨rfl, rfl, rfl, rfl, rfl, trivial⟩, ⟨rfl, rfl, rfl, rfl, rfl, rfl, rfl, trivial⟩, rfl, rfl⟩
  ·have hk : k = j.moves.length := by have := Z21 hA hVl u2 c; omega
   have hme : MapOk ents (Zd j tk 0) := by rw [<- Z66, <- hk]; exact u3
   have hne : Zd j tk 0 ≠ [] := by rw [<- Z66, <- hk]; exact u4
   have hq2 := hq ents hme hne;cbv;refine Z7 ?_;cbv;exact Z2 [1] (by decide) Z9 (H' := [.ob (.mp 5 ents)]) (d' := .mv 0) ⟨rfl, trivial⟩ rfl (Z1 hq2)
end Go.Proofs.YthljpccegkmdnaaGreatDoor
