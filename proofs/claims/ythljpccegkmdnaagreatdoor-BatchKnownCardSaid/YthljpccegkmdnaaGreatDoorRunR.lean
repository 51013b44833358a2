/- Part RunR of the proofs about the benches of the accordion maker: see the last text of the claim for what is proved. -/
import Derived.Test.YthljpccegkmdnaaGreatDoorRunJ
import Derived.Test.YthljpccegkmdnaaGreatDoorRunO
import Derived.Test.YthljpccegkmdnaaGreatDoorRunQ
set_option linter.unusedVariables false
set_option linter.unusedSimpArgs false
set_option linter.unnecessarySimpa false
set_option linter.constructorNameAsVariable false

namespace Go.Proofs.YthljpccegkmdnaaGreatDoor
open Go Go.Abs Go.Proofs
end Go.Proofs.YthljpccegkmdnaaGreatDoor

namespace Go.Batch
def Z6o (j : Jn) (l : List Nat) : Bool := Zc (Z12 j l)
def Z46 (cs l : List Nat) (k left : Nat) : List (List Nat) := (Zw (cs.drop k) left).map (l ++ ·)
theorem Zhk (cs l : List Nat) (k : Nat) : Z46 cs l k 0 = [l] := by
 unfold Z46
 cases cs.drop k <;> simp [Zw]
theorem Zt0 {cs : List Nat} (l : List Nat) {k left : Nat} (h : cs.length <= k) : Z46 cs l k (left + 1) = [] := by
 unfold Z46;rw [List.drop_eq_nil_of_le h]; rfl
theorem Zqh {cs : List Nat} (l : List Nat) {k left x : Nat} (h : cs[k]? = some x) : Z46 cs l k (left + 1) = Z46 cs (l ++ [x]) (k + 1) left ++ Z46 cs l (k + 1) (left + 1) := by
 unfold Z46;obtain ⟨h1, h2⟩ := List.getElem?_eq_some_iff.1 h;rw [List.drop_eq_getElem_cons h1, h2, Zw, List.map_append, List.map_map]
 congr 1
 exact List.map_congr_left fun y _ => by simp
theorem Ze6 {α : Type} : ∀ l : List α, Zw l l.length = [l]
 | [] => rfl
 | x :: l => by
  have h : ∀ (l : List α) (n : Nat), l.length < n -> Zw l n = [] := by
   intro l
   induction l with
   | nil => intro n h; cases n with | zero => exact absurd h (Nat.not_lt_zero _) | succ n => rfl
   | cons y l ih =>
    intro n h
    cases n with
    | zero => exact absurd h (by simp)
    | succ n => simp only [List.length_cons] at h; rw [Zw, ih n (by omega), ih (n + 1) (by omega)]; rfl
  rw [List.length_cons, Zw, Ze6 l, h l _ (Nat.lt_succ_self _)]; rfl
theorem Zt1 {j : Jn} {s : Nat} {c : List Nat} (hs : s <= (Zp j).length) (h0 : ∀ t, t < s -> (Zw (Zp j) t).find? (Z6o j) = none) (h : (Zw (Zp j) s).find? (Z6o j) = some c) : Z6c j = some c := by
 have e : (List.range ((Zp j).length + 1)) = List.range s ++ ([s] ++ (List.range ((Zp j).length - s)).map (s + 1 + ·)) := by
  rw [show (Zp j).length + 1 = (s + 1) + ((Zp j).length - s) by omega, List.range_add, List.range_succ, List.append_assoc]
 unfold Z6c Z9t;rw [e, List.flatMap_append, List.find?_append];have : ((List.range s).flatMap (Zw (Zp j))).find? (fun l => Zc (Z12 j l)) = none := by
  rw [List.find?_eq_none];intro x hx;obtain ⟨t, ht, hxt⟩ := List.mem_flatMap.1 hx;exact List.find?_eq_none.1 (h0 t (List.mem_range.1 ht)) x hxt
 rw [this, Option.none_or, List.flatMap_append, List.find?_append];have h2 : ([s].flatMap (Zw (Zp j))).find? (fun l => Zc (Z12 j l)) = some c := by
  have e2 : [s].flatMap (Zw (Zp j)) = Zw (Zp j) s := by simp
  rw [e2]; exact h
 rw [h2]; rfl
end Go.Batch
namespace Go.Proofs.YthljpccegkmdnaaGreatDoor
open Go Go.Abs Go.Proofs Go.Batch
def grH (j : Jn) (FL ML CL : List D) (fd : D) : List Blk :=
 [.box fd, .box (.agg [.fn 69 [.cb (.agg [I j.ins, .sl 1 FL, .sl 5 ML]) 0], .v (.bool true), .sl 1 CL]), .box (.fn 72 [.cb (.agg [I j.ins, .sl 1 FL, .sl 5 ML]) 0, .b 0 0, .b 1 0, .b 2 0])]
set_option maxRecDepth 20000 in
set_option maxHeartbeats 8000000 in
theorem Zyc (j : Jn) (hj : JOk j) (FL ML : List D) (hF : FL = j.first.map Zv) (hM : ML = j.moves.map mvD) (cs : List Nat) (hcs : cs.length <= 10) (CL : List D) (hCL : CL = Z1y cs) :
  ∀ (left : Nat) (l : List Nat) (from_ : Nat) (X L : List D) (fI lI : Int), L = Z1y l -> from_ <= cs.length -> l.length + left <= 100 -> IsI fI from_ -> IsI lI left -> ∀ Q,
  (∀ c, (Z46 cs l from_ left).find? (Z6o j) = some c -> ∀ NC, NC = Z1y c -> Q (RA.ret (.v (.bool true))) (grH j FL ML CL (.sl 1 NC))) ->
  ((Z46 cs l from_ left).find? (Z6o j) = none -> ∀ X', Q (RA.ret (.v (.bool false))) (grH j FL ML CL (.sl 1 X'))) ->
  CallA Tryz.prog 72 [.sl 1 L, I fI, I lI, .cb (.agg [I j.ins, .sl 1 FL, .sl 5 ML]) 0, .b 0 0, .b 1 0, .b 2 0] (grH j FL ML CL (.sl 1 X)) Q := by
 obtain ⟨A, hA⟩ : ∃ A, A = ar := ⟨_, rfl⟩;have hm10 := hj.m10;have hCl : CL.length = cs.length := by rw [hCL]; simp [Z1y]
 intro left
 induction left with
 | zero =>
  intro l from_ X L fI lI hL hfl hll hfi hli Q hq1 hq0;have hll6 : l.length <= 1000000 := by omega
  have hwo := fun Q => Zl4 j (by omega) l hll6 FL ML L hM hL Q;have hst := fun ML' hM' Q => Zan (Z12 j l) (hj.without l) Zn 51 [] Z73 FL ML' (show FL = (Z12 j l).first.map Zv from hF) hM' Q;have hc0 : A.cmp .eql lI 0 = true := by have := hli.eq; subst hA; simp [ar, Z25, this]
  have hy : Zc (Z12 j l) = true -> (Z46 cs l from_ 0).find? (Z6o j) = some l := fun h => by rw [Zhk]; simp [List.find?, Z6o, h]
  have hn : Zc (Z12 j l) = false -> (Z46 cs l from_ 0).find? (Z6o j) = none := fun h => by rw [Zhk]; simp [List.find?, Z6o, h]
  refine Z5 Z0 hA Tryz.func72 rfl rfl rfl rfl rfl fun S hS => ?_;cbv;refine bm (fun _ => ?_) (fun c => Bool.noConfusion (hc0.symm.trans c));cbv;refine Z4 hS [.agg [I j.ins, .sl 1 FL, .sl 5 ML], .sl 1 L] [] [] rfl rfl rfl rfl rfl rfl rfl rfl (by decide) trivial (hwo _ fun ML' hML' => ?_);refine Z3 Z0 hA hS ?_;cbv;refine Z4 hS [.agg [I j.ins, .sl 1 FL, .sl 5 ML'], .fn 51 []] [] [] rfl rfl rfl rfl rfl rfl rfl rfl (by decide) trivial (hst ML' hML' _ (fun ents hme hne => ?_) (fun h0 => ?_))
  ·have hz := hq1 l (hy ((Z28 _ Zn).2 hne)) L hL;refine Z3 Z0 hA hS ?_;cbv;exact Z2 [0, 1, 2] (by decide) Zeb (H' := grH j FL ML CL (.sl 1 L)) (d' := .v (.bool true)) ⟨rfl, rfl, rfl, trivial⟩ rfl (Z1 hz)
  ·have hz := hq0 (hn (Z3y h0)) L;refine Z3 Z0 hA hS ?_;cbv;exact Z2 [0, 1, 2] (by decide) Zeb (H' := grH j FL ML CL (.sl 1 L)) (d' := .v (.bool false)) ⟨rfl, rfl, rfl, trivial⟩ rfl (Z1 hz)
 | succ left ih =>
  intro l from_ X L fI lI hL hfl hll hfi hli Q hq1 hq0;have hLl : L.length = l.length := by rw [hL]; simp [Z1y]
  obtain ⟨n, hn⟩ : ∃ n, n = l.length := ⟨_, rfl⟩;rw [<- hn] at hLl;have hn6 : n <= 1000000 := by omega
  have hc0 : A.cmp .eql lI 0 = false := by have := hli.eq; subst hA; simp [ar, Z25, this]; omega
  have hfl1 : A.fits .i64 (A.sub lI 1) := Z14 hA (Z24 hA lI 1) (by have := hli.eq; omega);have hli1 : IsI (A.sub lI 1) left := ⟨by rw [Z24 hA]; have := hli.eq; omega⟩;refine Z5 Z0 hA Tryz.func72 rfl rfl rfl rfl rfl fun S hS => ?_;cbv;refine bm (fun c => Bool.noConfusion (hc0.symm.trans c)) (fun _ => ?_);cbv;refine Zb hS ?_;refine Za (α := Int × Nat × List D) (fun q => { env := [(0, .sl 1 L), (2, I lI), (3, .cb (.agg [I j.ins, .sl 1 FL, .sl 5 ML]) 0), (4, .b 0 0), (5, .b 1 0), (6, .b 2 0), (13, I q.1)], H := grH j FL ML CL (.sl 1 q.2.2), nt := 46, dfs := [] })
   (fun q => cs.length - q.2.1) (fun q => q.2.1 <= cs.length /\ IsI q.1 q.2.1 /\ (Z46 cs l from_ (left + 1)).find? (Z6o j) = (Z46 cs l q.2.1 (left + 1)).find? (Z6o j)) (fI, from_, X) ⟨hfl, hfi, rfl⟩ ?_ ?_
  ·exact Zf [0, 1, 2] ⟨by decide, Zeb, ⟨rfl, rfl, rfl, trivial⟩, ⟨rfl, rfl, rfl, rfl, rfl, rfl, rfl, trivial⟩, rfl, rfl⟩
  rintro ⟨i, k, X1⟩ ⟨u1, u2, u3⟩;dsimp only at u1 u2 u3;have hyes : A.cmp .lss i (A.oi (A.len CL)) = true -> k < cs.length := fun c => Z31 hA hCl u2 c;have hno : A.cmp .lss i (A.oi (A.len CL)) = false -> cs.length <= k := fun c => Z21 hA hCl u2 c;have hend : cs.length <= k -> (Z46 cs l from_ (left + 1)).find? (Z6o j) = none := fun h => by rw [u3, Zt0 l h]; rfl
  refine Zi Z0 hA hS ?_;cbv;refine Z4 hS [.b 0 0] [1] [.box (.agg [.fn 69 [.cb (.agg [I j.ins, .sl 1 FL, .sl 5 ML]) 0], .v (.bool true), .sl 1 CL])] rfl rfl rfl rfl rfl rfl rfl rfl (by decide) ⟨rfl, trivial⟩ (Zsz _ CL _ ?_);refine Z3 Z0 hA hS ?_;cbv;refine bm (fun c => ?_) (fun c => ?_)
  ·have hk := hyes c;obtain ⟨x, hx⟩ : ∃ x, cs[k]? = some x := ⟨_, List.getElem?_eq_getElem hk⟩;obtain ⟨xI, hxI⟩ : ∃ z : Int, z = (x : Nat) := ⟨_, rfl⟩;have hCk : CL[k]? = some (I xI) := by rw [hCL, hxI]; simp [Z1y, hx]
   have hin := Z1b hA hCl u2 hk;have hg := Z18 hA u2 hCk;have hf1 := Zy hA u2 (by omega);have hu2 := Zz hA u2;have hms : cs.length - (k + 1) < cs.length - k := by omega
   have hcn := Zqh l (left := left) hx;have hfa : (Z46 cs l k (left + 1)).find? (Z6o j) = ((Z46 cs (l ++ [x]) (k + 1) left).find? (Z6o j)).or ((Z46 cs l (k + 1) (left + 1)).find? (Z6o j)) := by rw [hcn, List.find?_append]
   have hyy : ∀ c, (Z46 cs (l ++ [x]) (k + 1) left).find? (Z6o j) = some c -> (Z46 cs l from_ (left + 1)).find? (Z6o j) = some c := fun c h => by rw [u3, hfa, h]; rfl
   have hnn : (Z46 cs (l ++ [x]) (k + 1) left).find? (Z6o j) = none -> (Z46 cs l from_ (left + 1)).find? (Z6o j) = (Z46 cs l (k + 1) (left + 1)).find? (Z6o j) := fun h => by rw [u3, hfa, h]; rfl
   have hL2 : A.app L [I xI] = Z1y (l ++ [x]) := by rw [Z33 hA, hL, hxI]; simp [Z1y]
   have hapl : A.addN n 1 = A.len (A.app L [I xI]) := by subst hA; show n + 1 = (L ++ [I xI]).length; simp [hLl]
   have hrec := ih (l ++ [x]) (k + 1) X1 (A.app L [I xI]) (A.add i 1) (A.sub lI 1) hL2 hk (by simp; omega) hu2 hli1;cbv;refine Z16 Z0 hA hS [0, 1, 4, 9, 10, 11, 12, 2, 3, 5, 6, 7, 8, 13] rfl rfl fun Dk hD => ?_;cbv;refine ⟨hf1, hfl1, ?_⟩;refine Zq hA hD [.sl 1 L] [] [] rfl rfl rfl rfl rfl rfl rfl rfl rfl rfl rfl (by decide) trivial (Zvn L n hLl hn6 _ ⟨by cbv, Zx Z0 hA hD ?_⟩);cbv;refine Zq hA hD [.b 0 0] [1] [.box (.agg [.fn 69 [.cb (.agg [I j.ins, .sl 1 FL, .sl 5 ML]) 0], .v (.bool true), .sl 1 CL])] rfl rfl rfl rfl rfl rfl rfl rfl rfl rfl rfl (by decide) ⟨rfl, trivial⟩ (Zsz _ CL _ ⟨by cbv, Zx Z0 hA hD ?_⟩);cbv;refine ⟨hin, ⟨_, hg, ?_⟩⟩;cbv;refine ⟨Ze hA hLl, Ze hA rfl, Z27 hA hn6 (by decide), (by repeat' (first | exact trivial | exact Need.mk ⟨_, hg, rfl⟩ | exact hin | refine ⟨?_, ?_⟩)), ?_⟩;refine Zmn hA hD [5] rfl rfl rfl rfl rfl rfl fun CG hC => ?_;cbv;refine ⟨Zkd hA hapl, ?_⟩;rw [hC];refine Zs5 [.sl 1 (A.app L [I xI]), I (A.add i 1), I (A.sub lI 1), .cb (.agg [I j.ins, .sl 1 FL, .sl 5 ML]) 0, .b 0 0, .b 1 0, .b 2 0] [0, 1, 2] (grH j FL ML CL (.sl 1 X1)) rfl rfl rfl rfl rfl (by decide) ⟨rfl, rfl, rfl, trivial⟩
    (hrec _ (fun c hc NC hNC => Zo8 hA Z0 hD ?_ ?_) (fun h0 X' => Zo8 hA Z0 hD ?_ ?_))
   ·cbv; repeat' (first | exact trivial | exact Need.mk ⟨_, hg, rfl⟩ | exact hin | refine ⟨?_, ?_⟩)
   ·have hz := hq1 c (hyy c hc) NC hNC;cbv;refine Z7 ?_;cbv;exact Z2 [0, 1, 2] (by decide) Zeb (H' := grH j FL ML CL (.sl 1 NC)) (d' := .v (.bool true)) ⟨rfl, rfl, rfl, trivial⟩ rfl (Z1 hz)
   ·cbv; repeat' (first | exact trivial | exact Need.mk ⟨_, hg, rfl⟩ | exact hin | refine ⟨?_, ?_⟩)
   ·have hz := hnn h0;cbv;refine ⟨hf1, ?_⟩;refine Z8 (A.add i 1, k + 1, X') [0, 1, 2] ⟨hk, hu2, hz⟩ hms ?_;exact ⟨by decide, Zeb, ⟨rfl, rfl, rfl, trivial⟩, ⟨rfl, rfl, rfl, rfl, rfl, rfl, rfl, trivial⟩, rfl, rfl⟩
  ·have hz := hq0 (hend (hno c)) X1;cbv;refine Z7 ?_;cbv;exact Z2 [0, 1, 2] (by decide) Zeb (H' := grH j FL ML CL (.sl 1 X1)) (d' := .v (.bool false)) ⟨rfl, rfl, rfl, trivial⟩ rfl (Z1 hz)
set_option maxRecDepth 20000 in
set_option maxHeartbeats 8000000 in
theorem Zt2 (j : Jn) (hf : j.first.length <= 1152921504606846976) (hm : j.moves.length <= 1152921504606846976) (FL ML : List D) (hF : FL = j.first.map Zv) (hM : ML = j.moves.map mvD) (Q)
  (he : ∀ e, e = Zr j -> e ≠ 0 -> Q (RA.ret (.tup [.v (.slice none 0 0), I e])) []) (hp : JOk j -> Zc (Z12 j (Zp j)) = false -> Q (RA.ret (.tup [.v (.slice none 0 0), I 9])) [])
  (hq : JOk j -> Zc (Z12 j (Zp j)) = true -> ∀ c, Z6c j = some c -> ∀ L, L = Z1y c -> Q (RA.ret (.tup [.sl 1 L, I 0])) []) :
  CallA Tryz.prog 25 [.agg [I j.ins, .sl 1 FL, .sl 5 ML]] [] Q := by
 obtain ⟨A, hA⟩ : ∃ A, A = ar := ⟨_, rfl⟩;obtain ⟨e1, he1⟩ : ∃ e1, e1 = Zr j := ⟨_, rfl⟩;have hb1 : A.bnot true = false := by subst hA; rfl
 have hb0 : A.bnot false = true := by subst hA; rfl
 refine Z5 Z0 hA Tryz.func25 rfl rfl rfl rfl rfl fun S hS => ?_;cbv;refine Z4 hS [.agg [I j.ins, .sl 1 FL, .sl 5 ML]] [] [] rfl rfl rfl rfl rfl rfl rfl rfl (by decide) trivial (bCheck j hf hm FL ML hF hM e1 he1 _ ?_);refine Z3 Z0 hA hS ?_;cbv;refine bm (fun c => ?_) (fun c => ?_)
 ·have hz := he e1 he1 (xne hA c);cbv;exact Z2 [] (by decide) Z9 (H' := []) (d' := .tup [.v (.slice none 0 0), I e1]) trivial rfl (Z1 hz)
 have hc0 : Zr j = 0 := he1.symm.trans (Z4t hA c);have hj : JOk j := Z2r hc0;have hm10 := hj.m10;obtain ⟨cs, hcs⟩ : ∃ cs, cs = Zp j := ⟨_, rfl⟩;have hcl : cs.length <= 10 := by rw [hcs]; exact Nat.le_trans (Z7j _ _) hm10
 obtain ⟨n, hn⟩ : ∃ n, n = cs.length := ⟨_, rfl⟩;have hg0 := fun Q => Zyb j (by omega) FL ML hM Q;have hwo := fun CL (h : CL = Z1y cs) Q => Zl4 j (by omega) cs (by omega) FL ML CL hM h Q;have hst := fun ML' hM' Q => Zan (Z12 j cs) (hj.without cs) Zn 51 [] Z73 FL ML' (show FL = (Z12 j cs).first.map Zv from hF) hM' Q;rw [<- hcs] at hg0;have hp0 := fun (h : Zc (Z12 j cs) = false) => hp hj (by rw [<- hcs]; exact h);have hq0 := fun (h : Zc (Z12 j cs) = true) c hc L hL => hq hj (by rw [<- hcs]; exact h) c hc L hL;cbv;refine Z3h hS (Z1a hA [0] ?_);cbv;refine Z7 ?_;refine Z16 Z0 hA hS [0, 1, 2, 3, 4, 5, 6, 7, 8] rfl rfl fun Dk hD => ?_;cbv;refine Zq hA hD [.b 0 0] [1] [.box (.agg [.fn 69 [.cb (.agg [I j.ins, .sl 1 FL, .sl 5 ML]) 0], .v (.bool false), .v (.slice none 0 0)])] rfl rfl rfl rfl rfl rfl rfl rfl rfl rfl rfl (by decide) ⟨rfl, trivial⟩ (hg0 _ fun CL hCL => ⟨by cbv, Zx Z0 hA hD ?_⟩);have hCl : CL.length = n := by rw [hCL, hn]; simp [Z1y]
 have hwo' := hwo CL hCL;cbv;refine Zq hA hD [.agg [I j.ins, .sl 1 FL, .sl 5 ML], .sl 1 CL] [] [] rfl rfl rfl rfl rfl rfl rfl rfl rfl rfl rfl (by decide) trivial (hwo' _ fun ML' hML' => ⟨by cbv, Zx Z0 hA hD ?_⟩);cbv;refine Zq hA hD [.agg [I j.ins, .sl 1 FL, .sl 5 ML'], .fn 51 []] [] [] rfl rfl rfl rfl rfl rfl rfl rfl rfl rfl rfl (by decide) trivial (hst ML' hML' _ (fun ents hme hne => ⟨by cbv, Zx Z0 hA hD ?_⟩) (fun h0 => ⟨by cbv, Zx Z0 hA hD ?_⟩))
 ·have hs : Zc (Z12 j cs) = true := (Z28 _ Zn).2 hne;have hall : Z6o j cs = true := hs;have hq1 := hq0 hs;have hfits : A.fits .i64 (A.add (A.oi (A.len CL)) 1) := Z14 hA (by rw [Z58 hA, yoiL hA hCl]) (by omega);have hn1 : IsI (A.add (A.oi (A.len CL)) 1) (n + 1) := ⟨by rw [Z58 hA, yoiL hA hCl]; omega⟩;obtain ⟨n1, hn1E⟩ : ∃ n1, n1 = A.add (A.oi (A.len CL)) 1 := ⟨_, rfl⟩;rw [<- hn1E] at hn1;cbv;refine bm (fun c => Bool.noConfusion (hb1.symm.trans c)) (fun _ => ?_);cbv;refine Z4 hS [.b 0 0] [1] [.box (.agg [.fn 69 [.cb (.agg [I j.ins, .sl 1 FL, .sl 5 ML]) 0], .v (.bool true), .sl 1 CL])] rfl rfl rfl rfl rfl rfl rfl rfl (by decide) ⟨rfl, trivial⟩ (Zsz _ CL _ ?_);refine Z3 Z0 hA hS ?_;cbv;refine ⟨hfits, ?_⟩;refine Zb hS ?_;refine Za (α := Int × Nat × List D) (fun q => { env := [(8, .b 0 0), (9, .b 2 0), (30, I n1), (31, I q.1)], H := grH j FL ML CL (.sl 1 q.2.2), nt := 39, dfs := [] })
   (fun q => n + 1 - q.2.1) (fun q => q.2.1 <= n + 1 /\ IsI q.1 q.2.1 /\ ∀ t, t < q.2.1 -> (Zw cs t).find? (Z6o j) = none) (0, 0, []) ⟨Nat.zero_le _, ⟨rfl⟩, fun t h => absurd h (Nat.not_lt_zero t)⟩ ?_ ?_
  ·rw [hn1E];refine Z7w 3 (.sl 1 []) rfl ⟨WkD.nil, trivial⟩ ?_;exact Zf [3, 1, 4] ⟨by decide, Z9, ⟨rfl, rfl, rfl, trivial⟩, ⟨rfl, rfl, rfl, rfl, trivial⟩, rfl, rfl⟩
  rintro ⟨i, k, X⟩ ⟨u1, u2, u3⟩;dsimp only at u1 u2 u3;have hyes : A.cmp .lss i n1 = true -> k < n + 1 := fun c => by have := xlt hA c; have := hn1.eq; have := u2.eq; omega
  have hno : A.cmp .lss i n1 = false -> k = n + 1 := fun c => by have := Z7x hA c; have := hn1.eq; have := u2.eq; omega
  have hend : k = n + 1 -> False := fun h => by
   have := u3 n (by omega);rw [hn, Ze6] at this;simp [List.find?, hall] at this
  have hz0 : IsI 0 0 := ⟨rfl⟩;have hf1 : k < n + 1 -> A.fits .i64 (A.add i 1) := fun h => Zy hA u2 (by omega);have hu2 := Zz hA u2;have hms : k < n + 1 -> n + 1 - (k + 1) < n + 1 - k := fun h => by omega
  have hgr := fun (h : k < n + 1) Q => Zyc j hj FL ML hF hM cs hcl CL hCL k [] 0 X [] 0 i rfl (Nat.zero_le _) (by simp; omega) hz0 u2 Q;have hcand : Z46 cs [] 0 k = Zw cs k := by unfold Z46; simp
  rw [hcand] at hgr;have hnext : (Zw cs k).find? (Z6o j) = none -> ∀ t, t < k + 1 -> (Zw cs t).find? (Z6o j) = none := fun h t ht => by
   by_cases e : t = k
   ·rw [e]; exact h
   ·exact u3 t (by omega)
  have hfound : k < n + 1 -> ∀ c, (Zw cs k).find? (Z6o j) = some c -> Z6c j = some c := fun h c hc => by
   subst hcs;exact Zt1 (by omega) u3 hc
  refine Zi Z0 hA hS ?_;cbv;refine bm (fun c => ?_) (fun c => ?_)
  ·have hk := hyes c;have hf2 := hf1 hk;have hm2 := hms hk;have hfo := hfound hk;have hg2 := hgr hk;cbv;refine Z4 hS [.v (.slice none 0 0), I 0, I i, .cb (.agg [I j.ins, .sl 1 FL, .sl 5 ML]) 0, .b 0 0, .b 1 0, .b 2 0] [0, 1, 2] (grH j FL ML CL (.sl 1 X)) rfl rfl rfl rfl rfl rfl rfl rfl (by decide) ⟨rfl, rfl, rfl, trivial⟩
    (Z4z (as' := [.sl 1 [], I 0, I i, .cb (.agg [I j.ins, .sl 1 FL, .sl 5 ML]) 0, .b 0 0, .b 1 0, .b 2 0]) ⟨WkD.nil, WkL.rfl⟩ (hg2 _ (fun c hc NC hNC => ?_) (fun h0 X' => ?_)))
   ·have hz := hq1 c (hfo c hc) NC hNC;refine Z3 Z0 hA hS ?_;cbv;refine Z7 ?_;cbv;exact Z2 [] (by decide) Z9 (H' := []) (d' := .tup [.sl 1 NC, I 0]) trivial rfl (Z1 hz)
   ·have hz := hnext h0;refine Z3 Z0 hA hS ?_;cbv;refine ⟨hf2, ?_⟩;refine Z8 (A.add i 1, k + 1, X') [0, 1, 2] ⟨hk, hu2, hz⟩ hm2 ?_;exact ⟨by decide, Z9, ⟨rfl, rfl, rfl, trivial⟩, ⟨rfl, rfl, rfl, rfl, trivial⟩, rfl, rfl⟩
  ·exact (hend (hno c)).elim
 ·have hz := hp0 (Z3y h0);cbv;refine bm (fun _ => ?_) (fun c => Bool.noConfusion (hb0.symm.trans c));cbv;exact Z2 [] (by decide) Z9 (H' := []) (d' := .tup [.v (.slice none 0 0), I 9]) trivial rfl (Z1 hz)
end Go.Proofs.YthljpccegkmdnaaGreatDoor

namespace Go.Proofs.YthljpccegkmdnaaGreatDoor
open Go Go.Abs Go.Proofs Go.Batch
def Zt4 (l : List Int) : D := .sl 1 (l.map I)
set_option maxRecDepth 20000 in
set_option maxHeartbeats 4000000 in
theorem Znb (a b : List (List Int)) (LA LB : List D) (hLA : LA = a.map Zt4) (hLB : LB = b.map Zt4) (hl : a.length <= 1152921504606846976) (hl2 : ∀ l ∈ a, l.length <= 1152921504606846976) (r : Bool) (hr : r = decide (a = b)) (Q) (hq : Q (RA.ret (.v (.bool r))) []) :
  CallA Tryz.prog 18 [.sl 1 LA, .sl 1 LB] [] Q := by
 obtain ⟨A, hA⟩ : ∃ A, A = ar := ⟨_, rfl⟩;have hAl : LA.length = a.length := by rw [hLA]; simp
 have hBl : LB.length = b.length := by rw [hLB]; simp
 obtain ⟨s0, hs0⟩ : ∃ s0, s0 = A.cmp .eql (A.oi (A.len LA)) (A.oi (A.len LB)) := ⟨_, rfl⟩;have hs1 : s0 = decide (a.length = b.length) := by
  rw [hs0, yoiL hA hAl, yoiL hA hBl, Zx0 hA]
  by_cases h : a.length = b.length
  ·rw [decide_eq_true h, decide_eq_true (by omega)]
  ·rw [decide_eq_false h, decide_eq_false (by omega)]
 refine Z5 Z0 hA Tryz.func18 rfl rfl rfl rfl rfl fun S hS => ?_;cbv;refine Zb hS ?_;refine Za (α := Int × Nat × Bool) (fun q => { env := [(0, .sl 1 LA), (1, .sl 1 LB), (5, .v (.bool q.2.2)), (6, I q.1)], H := [], nt := 31, dfs := [] })
  (fun q => a.length + 1 - q.2.1) (fun q => IsI q.1 q.2.1 /\ q.2.1 <= a.length /\ (q.2.2 = true -> a.length = b.length /\ a.take q.2.1 = b.take q.2.1) /\ (q.2.2 = false -> a ≠ b)) (0, 0, A.cmp .eql (A.oi (A.len LA)) (A.oi (A.len LB))) ⟨⟨rfl⟩, Nat.zero_le _, ?_, ?_⟩ ?_ ?_
 ·exact fun h => ⟨of_decide_eq_true (hs1.symm.trans (hs0.trans h)), rfl⟩
 ·exact fun h e => of_decide_eq_false (hs1.symm.trans (hs0.trans h)) (by rw [e])
 ·exact Zf [] ⟨by decide, Z9, trivial, ⟨rfl, rfl, rfl, rfl, trivial⟩, rfl, rfl⟩
 rintro ⟨i, k, sm⟩ ⟨u1, u2, u3, u4⟩;dsimp only at u1 u2 u3 u4
 cases sm
 ·have hr0 : r = false := by rw [hr]; exact decide_eq_false (u4 rfl)
  rw [hr0] at hq;refine Zi Z0 hA hS ?_;cbv;refine Z7 ?_;cbv;exact Z1 hq
 ·obtain ⟨e1, e2⟩ := u3 rfl;have hend : a.length <= k -> r = true := fun h => by
   rw [hr]; refine decide_eq_true ?_;rw [List.take_of_length_le h, List.take_of_length_le (by omega)] at e2; exact e2
  have hget : k < a.length -> ∃ x y, a[k]? = some x /\ b[k]? = some y := fun h => ⟨_, _, List.getElem?_eq_getElem h, List.getElem?_eq_getElem (by omega)⟩;have hgt : k < a.length -> k < b.length := fun h => by omega
  have hms : k < a.length -> a.length + 1 - (k + 1) < a.length + 1 - k := fun h => by omega
  refine Zi Z0 hA hS ?_;cbv;refine bm (fun c => ?_) (fun c => ?_)
  ·have hk := Z31 hA hAl u1 c;obtain ⟨x, y, hx, hy⟩ := hget hk;obtain ⟨XL, hXL⟩ : ∃ XL, XL = x.map I := ⟨_, rfl⟩;obtain ⟨YL, hYL⟩ : ∃ YL, YL = y.map I := ⟨_, rfl⟩;have hLx : LA[k]? = some (.sl 1 XL) := by rw [hLA, hXL]; simp [hx, Zt4]
   have hLy : LB[k]? = some (.sl 1 YL) := by rw [hLB, hYL]; simp [hy, Zt4]
   obtain ⟨r1, hr1⟩ : ∃ r1, r1 = decide (x = y) := ⟨_, rfl⟩;have hn1 : r1 = true -> a.length = b.length /\ a.take (k + 1) = b.take (k + 1) := fun h => ⟨e1, (Zdk hx hy e2).2 (of_decide_eq_true (hr1.symm.trans h))⟩;have hn2 : r1 = false -> a ≠ b := fun h => Zg4 hx hy (of_decide_eq_false (hr1.symm.trans h));have hsm := fun Q => Zaq x y XL YL hXL hYL (hl2 x (List.mem_of_getElem? hx)) r1 hr1 Q;have i1 := Z1b hA hAl u1 hk;have i2 := Z1b hA hBl u1 (hgt hk);have g1 := Z18 hA u1 hLx;have g2 := Z18 hA u1 hLy;have hf := Zy hA u1 (by omega);have hu1 := Zz hA u1;have hm1 := hms hk;cbv;refine Z16 Z0 hA hS [0, 1, 2, 3, 4, 5, 6, 7, 8, 9] rfl rfl fun Dk hD => ?_;cbv;refine ⟨i1, ⟨_, g1, ?_⟩⟩;cbv;refine ⟨i2, ⟨_, g2, ?_⟩⟩;cbv;refine Zq hA hD [.sl 1 XL, .sl 1 YL] [] [] rfl rfl rfl rfl rfl rfl rfl rfl rfl rfl rfl (by decide) trivial (hsm _ ⟨by cbv; repeat' (first | exact trivial | exact Need.mk ⟨_, g1, rfl⟩ | exact Need.mk ⟨_, g2, rfl⟩ | refine ⟨?_, ?_⟩), Zx Z0 hA hD ?_⟩);cbv;refine ⟨hf, ?_⟩;refine Z8 (A.add i 1, k + 1, r1) [] ⟨hu1, hk, hn1, hn2⟩ hm1 ?_;exact ⟨by decide, Z9, trivial, ⟨rfl, rfl, rfl, rfl, trivial⟩, rfl, rfl⟩
  ·have hk := Z21 hA hAl u1 c;have hr1 := hend hk;rw [hr1] at hq;cbv;refine Z7 ?_;cbv;exact Z1 hq
theorem lTo (lo hi : Int) (Q) (hq : Q (RA.ret (.agg [I lo, I hi])) []) : CallA Tryz.prog 9 [I lo, I hi] [] Q := by
 obtain ⟨A, hA⟩ : ∃ A, A = ar := ⟨_, rfl⟩;refine Z5 Z0 hA Tryz.func9 rfl rfl rfl rfl rfl fun S hS => ?_;cbv;exact Z2 [] (by decide) Z9 (H' := []) (d' := .agg [I lo, I hi]) trivial rfl (Z1 hq)
theorem lIn (b lo hi : Int) (Q) (hq : Q (RA.ret (.agg [I 1, I b, I 0, I lo, I hi])) []) : CallA Tryz.prog 47 [I b, I lo, I hi] [] Q := by
 obtain ⟨A, hA⟩ : ∃ A, A = ar := ⟨_, rfl⟩;refine Z5 Z0 hA Tryz.func47 rfl rfl rfl rfl rfl fun S hS => ?_;cbv;refine Z4 hS [I lo, I hi] [] [] rfl rfl rfl rfl rfl rfl rfl rfl (by decide) trivial (lTo lo hi _ ?_);refine Z3 Z0 hA hS ?_;cbv;exact Z2 [] (by decide) Z9 (H' := []) (d' := .agg [I 1, I b, I 0, I lo, I hi]) trivial rfl (Z1 hq)
theorem Zt5 (b i lo hi : Int) (Q) (hq : Q (RA.ret (.agg [I 2, I b, I i, I lo, I hi])) []) : CallA Tryz.prog 31 [I b, I i, I lo, I hi] [] Q := by
 obtain ⟨A, hA⟩ : ∃ A, A = ar := ⟨_, rfl⟩;refine Z5 Z0 hA Tryz.func31 rfl rfl rfl rfl rfl fun S hS => ?_;cbv;refine Z4 hS [I lo, I hi] [] [] rfl rfl rfl rfl rfl rfl rfl rfl (by decide) trivial (lTo lo hi _ ?_);refine Z3 Z0 hA hS ?_;cbv;exact Z2 [] (by decide) Z9 (H' := []) (d' := .agg [I 2, I b, I i, I lo, I hi]) trivial rfl (Z1 hq)
theorem Zt6 (b lo hi : Int) (Q) (hq : Q (RA.ret (.agg [I 3, I b, I 0, I lo, I hi])) []) : CallA Tryz.prog 27 [I b, I lo, I hi] [] Q := by
 obtain ⟨A, hA⟩ : ∃ A, A = ar := ⟨_, rfl⟩;refine Z5 Z0 hA Tryz.func27 rfl rfl rfl rfl rfl fun S hS => ?_;cbv;refine Z4 hS [I lo, I hi] [] [] rfl rfl rfl rfl rfl rfl rfl rfl (by decide) trivial (lTo lo hi _ ?_);refine Z3 Z0 hA hS ?_;cbv;exact Z2 [] (by decide) Z9 (H' := []) (d' := .agg [I 3, I b, I 0, I lo, I hi]) trivial rfl (Z1 hq)
theorem Zl5 (ML : List D) (Q) (hq : Q (RA.ret (.agg [I 3, .sl 1 [Zv true, Zv false], .sl 5 ML])) []) : CallA Tryz.prog 30 [.sl 5 ML] [] Q := by
 obtain ⟨A, hA⟩ : ∃ A, A = ar := ⟨_, rfl⟩;have hl2 : A.eqN 2 (A.len [Zv true, Zv false]) := by subst hA; rfl
 refine Z5 Z0 hA Tryz.func30 rfl rfl rfl rfl rfl fun S hS => ?_;cbv;refine Z1w [1] ?_;cbv
 repeat' (first | exact rfl | exact Z2 [] (by decide) Z9 (H' := []) (d' := .agg [I 3, .sl 1 [Zv true, Zv false], .sl 5 ML]) trivial rfl (Z1 hq) | refine ⟨?_, ?_⟩)
def Zj3 (ML : List D) : List D := [.agg [I 1, I 0, I 0, I 2, I 3], .agg [I 1, I 0, I 0, I 2, I 2], .agg [I 2, I 0, I 0, I 1, I 1], .agg [I 2, I 0, I 1, I 2, I 2], .agg [I 2, I 0, I 2, I 1, I 1]] ++ ML
theorem Zar (ms : List Mv) (ML : List D) (h : ML = ms.map mvD) : Zj3 ML = (jnF ms).moves.map mvD := by rw [h]; rfl
set_option maxRecDepth 20000 in
set_option maxHeartbeats 4000000 in
theorem Zj4 (ML : List D) (n : Nat) (hn : ML.length = n) (hn6 : n <= 1000) (Q) (hq : ∀ FM, FM = Zj3 ML -> Q (RA.ret (.agg [I 3, .sl 1 [Zv true, Zv false], .sl 5 FM])) []) : CallA Tryz.prog 8 [.sl 5 ML] [] Q := by
 obtain ⟨A, hA⟩ : ∃ A, A = ar := ⟨_, rfl⟩;obtain ⟨FM, hFM⟩ : ∃ FM, FM = A.app [.agg [I 1, I 0, I 0, I 2, I 3], .agg [I 1, I 0, I 0, I 2, I 2], .agg [I 2, I 0, I 0, I 1, I 1], .agg [I 2, I 0, I 1, I 2, I 2], .agg [I 2, I 0, I 2, I 1, I 1]] ML := ⟨_, rfl⟩;have hFE : FM = Zj3 ML := by rw [hFM, Z33 hA]; rfl
 have hz := hq FM hFE;have hfl : FM.length = A.addN 5 (A.len ML) := by rw [hFE, Zj3, Z2e hA, Z9m hA hn]; simp; omega
 have hen : A.eqN (A.addN 5 (A.len ML)) (A.len FM) := Ze hA hfl;have hrm : A.room (A.addN 5 (A.len ML)) 40 := by rw [Z2e hA, Z9m hA hn]; exact Zj1 hA (by omega) (by decide)
 refine Z5 Z0 hA Tryz.func8 rfl rfl rfl rfl rfl fun S hS => ?_;cbv;refine Z4 hS [I 0, I 2, I 3] [] [] rfl rfl rfl rfl rfl rfl rfl rfl (by decide) trivial (lIn 0 2 3 _ ?_);refine Z3 Z0 hA hS ?_;cbv;refine Z4 hS [I 0, I 2, I 2] [] [] rfl rfl rfl rfl rfl rfl rfl rfl (by decide) trivial (lIn 0 2 2 _ ?_);refine Z3 Z0 hA hS ?_;cbv;refine Z4 hS [I 0, I 0, I 1, I 1] [] [] rfl rfl rfl rfl rfl rfl rfl rfl (by decide) trivial (Zt5 0 0 1 1 _ ?_);refine Z3 Z0 hA hS ?_;cbv;refine Z4 hS [I 0, I 1, I 2, I 2] [] [] rfl rfl rfl rfl rfl rfl rfl rfl (by decide) trivial (Zt5 0 1 2 2 _ ?_);refine Z3 Z0 hA hS ?_;cbv;refine Z4 hS [I 0, I 2, I 1, I 1] [] [] rfl rfl rfl rfl rfl rfl rfl rfl (by decide) trivial (Zt5 0 2 1 1 _ ?_);refine Z3 Z0 hA hS ?_;cbv;refine ⟨Ze hA rfl, hrm, ?_⟩;refine Z26 hS (Z39 2 rfl hFM.symm (Z1a hA [2] ?_));cbv;refine ⟨hen, Z7 ?_⟩;refine Z4 hS [.sl 5 FM] [] [] rfl rfl rfl rfl rfl rfl rfl rfl (by decide) trivial (Zl5 FM _ ?_);refine Z3 Z0 hA hS ?_;cbv;exact Z2 [] (by decide) Z9 (H' := []) (d' := .agg [I 3, .sl 1 [Zv true, Zv false], .sl 5 FM]) trivial rfl (Z1 hz)
set_option maxRecDepth 20000 in
theorem Zt7 (Q) (hq : ∀ FM, FM = (jnF [Zci 0 1 1]).moves.map mvD -> Q (RA.ret (.agg [I 3, .sl 1 [Zv true, Zv false], .sl 5 FM])) []) : CallA Tryz.prog 14 [] [] Q := by
 obtain ⟨A, hA⟩ : ∃ A, A = ar := ⟨_, rfl⟩;refine Z5 Z0 hA Tryz.func14 rfl rfl rfl rfl rfl fun S hS => ?_;cbv;refine Z4 hS [I 0, I 1, I 1] [] [] rfl rfl rfl rfl rfl rfl rfl rfl (by decide) trivial (Zt6 0 1 1 _ ?_);refine Z3 Z0 hA hS ?_;cbv;refine Z26 hS (Z1a hA [1] ?_);cbv;refine ⟨by subst hA; rfl, Z7 ?_⟩;refine Z4 hS [.sl 5 [.agg [I 3, I 0, I 0, I 1, I 1]]] [] [] rfl rfl rfl rfl rfl rfl rfl rfl (by decide) trivial (Zj4 _ 1 rfl (by decide) _ fun FM hFM => ?_);have hz := hq FM (hFM.trans (Zar [Zci 0 1 1] _ rfl));refine Z3 Z0 hA hS ?_;cbv;exact Z2 [] (by decide) Z9 (H' := []) (d' := .agg [I 3, .sl 1 [Zv true, Zv false], .sl 5 FM]) trivial rfl (Z1 hz)
set_option maxRecDepth 20000 in
theorem Zzm (Q) (hq : ∀ FM, FM = jnA.moves.map mvD -> Q (RA.ret (.agg [I 3, .sl 1 [Zv true, Zv false], .sl 5 FM])) []) : CallA Tryz.prog 16 [] [] Q := by
 obtain ⟨A, hA⟩ : ∃ A, A = ar := ⟨_, rfl⟩;have hz := hq _ rfl;refine Z5 Z0 hA Tryz.func16 rfl rfl rfl rfl rfl fun S hS => ?_;cbv;refine Z4 hS [I 1, I 2, I 2] [] [] rfl rfl rfl rfl rfl rfl rfl rfl (by decide) trivial (lIn 1 2 2 _ ?_);refine Z3 Z0 hA hS ?_;cbv;refine Z4 hS [I 1, I 1, I 1] [] [] rfl rfl rfl rfl rfl rfl rfl rfl (by decide) trivial (lIn 1 1 1 _ ?_);refine Z3 Z0 hA hS ?_;cbv;refine Z4 hS [I 1, I 0, I 1, I 1] [] [] rfl rfl rfl rfl rfl rfl rfl rfl (by decide) trivial (Zt5 1 0 1 1 _ ?_);refine Z3 Z0 hA hS ?_;cbv;refine Z4 hS [I 1, I (-1), I 1, I 1] [] [] rfl rfl rfl rfl rfl rfl rfl rfl (by decide) trivial (Zt5 1 (-1) 1 1 _ ?_);refine Z3 Z0 hA hS ?_;cbv;refine Z26 hS (Z1a hA [1] ?_);cbv;refine ⟨by subst hA; rfl, Z7 ?_⟩;refine Z4 hS [.sl 5 [.agg [I 1, I 1, I 0, I 2, I 2], .agg [I 1, I 1, I 0, I 1, I 1], .agg [I 2, I 1, I 0, I 1, I 1], .agg [I 2, I 1, I (-1), I 1, I 1]]] [] [] rfl rfl rfl rfl rfl rfl rfl rfl (by decide) trivial (Zl5 _ _ ?_);refine Z3 Z0 hA hS ?_;cbv;exact Z2 [] (by decide) Z9 (H' := []) (d' := .agg [I 3, .sl 1 [Zv true, Zv false], .sl 5 [.agg [I 1, I 1, I 0, I 2, I 2], .agg [I 1, I 1, I 0, I 1, I 1], .agg [I 2, I 1, I 0, I 1, I 1], .agg [I 2, I 1, I (-1), I 1, I 1]]]) trivial rfl (Z1 hz)
end Go.Proofs.YthljpccegkmdnaaGreatDoor

namespace Go.Proofs.YthljpccegkmdnaaGreatDoor
open Go Go.Abs Go.Proofs Go.Batch
theorem ex0 : Zr (jnF []) = 0 := by decide +kernel
theorem Zzn : Zr (jnF [Zci 0 1 1]) = 0 := by decide +kernel
theorem Zzo : Zr jnA = 0 := by decide +kernel
theorem Zzp : Zr (jnF [Zci 0 3 3]) = 0 := by decide +kernel
theorem Zye : Zc (jnF []) = true := by decide +kernel
theorem Zzq : Zc (jnF [Zci 0 1 1]) = true := by decide +kernel
theorem Zzr : Zc jnA = true := by decide +kernel
theorem Zzs : Zc (Z12 (jnF [Zci 0 3 3]) (Zp (jnF [Zci 0 3 3]))) = true := by decide +kernel
theorem ex1 : Z5w (jnF []) = [[1, 2], [1, 3], [2, 1]] := by decide +kernel
theorem ex2 : Z4c (jnF [Zci 0 1 1]) = [(0, 0), (1, 1)] := by decide +kernel
theorem ex3 : Z6b jnA = [3, 2, 2] := by decide +kernel
theorem ex4 : Z9s (jnF []) (Z3z [1, 2]) (Z3z [0]) = [1] := by decide +kernel
theorem Zzt : Z44 3 [1, 2] = 0 := by decide +kernel
theorem Zzu : Z44 3 [0] = 0 := by decide +kernel
theorem ex5 : Z6c (jnF [Zci 0 3 3]) = some [5] := by decide +kernel
theorem Z77 {j : Jn} (h : Zr j = 0) {P : Prop} {e : Int} (h1 : e = Zr j) (h2 : e ≠ 0) : P := absurd (h1.trans h) h2
theorem Z7p {b : Bool} (h : b = true) {P : Prop} (h1 : b = false) : P := by rw [h] at h1; cases h1
theorem lim {n : Nat} (h : n <= 1000) : n <= 1152921504606846976 := by omega
theorem fl2 (ms : List Mv) : (jnF ms).first.length <= 1152921504606846976 := lim (n := 2) (by omega)
theorem ml5 : (jnF []).moves.length <= 1152921504606846976 := lim (n := 5) (by omega)
theorem ml6 (m : Mv) : (jnF [m]).moves.length <= 1152921504606846976 := lim (n := 6) (by omega)
theorem flA : jnA.first.length <= 1152921504606846976 := lim (n := 2) (by omega)
theorem mlA : jnA.moves.length <= 1152921504606846976 := lim (n := 4) (by omega)
theorem Zx1 (FM : List D) (hM : FM = (jnF []).moves.map mvD) (Q) (hq : ∀ HL, HL = ([[1, 2], [1, 3], [2, 1]] : List (List Int)).map Zt4 -> Q (RA.ret (.tup [.sl 1 HL, I 0])) []) : CallA Tryz.prog 15 [.agg [I 3, .sl 1 [Zv true, Zv false], .sl 5 FM]] [] Q :=
 Zsy (jnF []) (fl2 _) ml5 [Zv true, Zv false] FM rfl hM _ (fun e h1 h2 => Z77 ex0 h1 h2) (fun _ h => Z7p Zye h) (fun _ _ HL hHL => hq HL (by rw [hHL, ex1]; rfl))
theorem Zyf (FM : List D) (hM : FM = (jnF [Zci 0 1 1]).moves.map mvD) (Q) (hq : ∀ RL, RL = ([(0, 0), (1, 1)] : List (Int × Int)).map Zt3 -> Q (RA.ret (.tup [.sl 2 RL, I 0])) []) : CallA Tryz.prog 13 [.agg [I 3, .sl 1 [Zv true, Zv false], .sl 5 FM]] [] Q :=
 Zst (jnF [Zci 0 1 1]) (fl2 _) (ml6 _) [Zv true, Zv false] FM rfl hM _ (fun e h1 h2 => Z77 Zzn h1 h2) (fun _ h => Z7p Zzq h) (fun _ _ L hL => hq L (by rw [hL, ex2]; rfl))
theorem Zx2 (FM : List D) (hM : FM = jnA.moves.map mvD) (Q) (hq : ∀ L, L = ([3, 2, 2] : List Int).map I -> Q (RA.ret (.tup [.sl 1 L, I 0])) []) : CallA Tryz.prog 23 [.agg [I 3, .sl 1 [Zv true, Zv false], .sl 5 FM]] [] Q :=
 Zsv jnA flA mlA [Zv true, Zv false] FM rfl hM _ (fun e h1 h2 => Z77 Zzo h1 h2) (fun _ h => Z7p Zzr h) (fun _ _ L hL => hq L (by rw [hL, ex3]))
theorem Zqi (FM : List D) (hM : FM = (jnF []).moves.map mvD) (Q) (hq : ∀ L, L = ([1] : List Int).map I -> Q (RA.ret (.tup [.sl 1 L, I 0])) []) : CallA Tryz.prog 24 [.agg [I 3, .sl 1 [Zv true, Zv false], .sl 5 FM], .sl 1 [I 1, I 2], .sl 1 [I 0]] [] Q :=
 Zqf (jnF []) (fl2 _) ml5 [1, 2] [0] (lim (n := 2) (by omega)) (lim (n := 1) (by omega)) [Zv true, Zv false] FM [I 1, I 2] [I 0] rfl hM rfl rfl _ (fun e h1 h2 => Z77 ex0 h1 h2) (fun _ e h1 h2 => absurd (h1.trans Zzt) h2) (fun _ _ e h1 h2 => absurd (h1.trans Zzu) h2) (fun _ _ _ h => Z7p Zye h) (fun _ _ _ _ h => by rw [ex4] at h; cases h) (fun _ _ _ _ _ L hL => hq L (by rw [hL, ex4]))
theorem Zx3 (FM : List D) (hM : FM = (jnF [Zci 0 3 3]).moves.map mvD) (Q) (hq : ∀ L, L = ([5] : List Int).map I -> Q (RA.ret (.tup [.sl 1 L, I 0])) []) : CallA Tryz.prog 25 [.agg [I 3, .sl 1 [Zv true, Zv false], .sl 5 FM]] [] Q :=
 Zt2 (jnF [Zci 0 3 3]) (fl2 _) (ml6 _) [Zv true, Zv false] FM rfl hM _ (fun e h1 h2 => Z77 Zzp h1 h2) (fun _ h => Z7p Zzs h) (fun _ _ c hc L hL => hq L (by
  rw [ex5] at hc
  rw [hL, <- Option.some.inj hc]; rfl))
set_option maxRecDepth 20000 in
set_option maxHeartbeats 1000000 in
theorem Zov (Q) (hq : Q (RA.ret (.v (.bool true))) []) : CallA Tryz.prog 10 [] [] Q := by
 obtain ⟨A, hA⟩ : ∃ A, A = ar := ⟨_, rfl⟩;have c00 : A.cmp .eql 0 0 = true := by subst hA; rfl
 refine Z38 Z0 hA [6] Tryz.func10 rfl rfl rfl rfl rfl fun S hS => ?_;cbv;refine Z4 hS [.v (.slice none 0 0)] [] [] rfl rfl rfl rfl rfl rfl rfl rfl (by decide) trivial (Z4z (as' := [.sl 5 []]) ⟨WkD.nil, trivial⟩ (Zj4 [] 0 rfl (by decide) _ fun FM hFM => ?_));have hM := hFM.trans (Zar [] [] rfl);refine Z3 Z0 hA hS ?_;cbv;refine Z4 hS [.agg [I 3, .sl 1 [Zv true, Zv false], .sl 5 FM]] [] [] rfl rfl rfl rfl rfl rfl rfl rfl (by decide) trivial
  (Zx1 FM hM _ fun HL hHL => ?_)
 refine Z3 Z0 hA hS ?_;cbv;refine Z4 hS [] [] [] rfl rfl rfl rfl rfl rfl rfl rfl (by decide) trivial (Zt7 _ fun FC hFC => ?_);refine Z3 Z0 hA hS ?_;cbv;refine Z4 hS [.agg [I 3, .sl 1 [Zv true, Zv false], .sl 5 FC]] [] [] rfl rfl rfl rfl rfl rfl rfl rfl (by decide) trivial
  (Zyf FC hFC _ fun RL hRL => ?_)
 refine Z3 Z0 hA hS ?_;cbv;refine Z4 hS [] [] [] rfl rfl rfl rfl rfl rfl rfl rfl (by decide) trivial (Zzm _ fun FA hFA => ?_);refine Z3 Z0 hA hS ?_;cbv;refine Z4 hS [.agg [I 3, .sl 1 [Zv true, Zv false], .sl 5 FA]] [] [] rfl rfl rfl rfl rfl rfl rfl rfl (by decide) trivial
  (Zx2 FA hFA _ fun XL hXL => ?_)
 refine Z3 Z0 hA hS ?_;cbv;refine Z4 hS [.v (.slice none 0 0)] [] [] rfl rfl rfl rfl rfl rfl rfl rfl (by decide) trivial (Z4z (as' := [.sl 5 []]) ⟨WkD.nil, trivial⟩ (Zj4 [] 0 rfl (by decide) _ fun FM2 hFM2 => ?_));have hM2 := hFM2.trans (Zar [] [] rfl);refine Z3 Z0 hA hS ?_;cbv;refine Z26 hS (Z1a hA [0, 1] ?_);cbv;refine ⟨by subst hA; rfl, by subst hA; rfl, Z7 ?_⟩;refine Z4 hS [.agg [I 3, .sl 1 [Zv true, Zv false], .sl 5 FM2], .sl 1 [I 1, I 2], .sl 1 [I 0]] [] [] rfl rfl rfl rfl rfl rfl rfl rfl (by decide) trivial
  (Zqi FM2 hM2 _ fun SL hSL => ?_)
 refine Z3 Z0 hA hS ?_;cbv;refine Z4 hS [I 0, I 3, I 3] [] [] rfl rfl rfl rfl rfl rfl rfl rfl (by decide) trivial (Zt6 0 3 3 _ ?_);refine Z3 Z0 hA hS ?_;cbv;refine Z26 hS (Z1a hA [2] ?_);cbv;refine ⟨by subst hA; rfl, Z7 ?_⟩;refine Z4 hS [.sl 5 [.agg [I 3, I 0, I 0, I 3, I 3]]] [] [] rfl rfl rfl rfl rfl rfl rfl rfl (by decide) trivial (Zj4 _ 1 rfl (by decide) _ fun FW hFW => ?_);have hMW := hFW.trans (Zar [Zci 0 3 3] _ rfl);refine Z3 Z0 hA hS ?_;cbv;refine Z4 hS [.agg [I 3, .sl 1 [Zv true, Zv false], .sl 5 FW]] [] [] rfl rfl rfl rfl rfl rfl rfl rfl (by decide) trivial
  (Zx3 FW hMW _ fun WL hWL => ?_)
 refine Z3 Z0 hA hS ?_;cbv;refine Z3h hS (Z60 (a := { env := [(1, .sl 1 HL), (2, I 0), (3, .sl 2 RL), (4, I 0), (5, .sl 1 XL), (6, I 0), (7, .sl 1 SL), (8, I 0), (9, .sl 1 WL), (10, I 0)], H := [], nt := 88, dfs := [] }) [] ⟨by decide, Z9, trivial, ⟨rfl, rfl, rfl, rfl, rfl, rfl, rfl, rfl, rfl, rfl, trivial⟩, rfl, rfl⟩ (Z7 ?_));refine Z4j Z0 hA hS [0, 1, 2, 3, 4, 5, 6, 7, 8, 9, 10, 11, 12, 13, 14, 15, 16, 17, 18, 19, 20, 21, 22] [23, 24, 25, 26, 27, 28, 29, 30, 31, 32, 33, 34, 35, 36, 37, 38, 39, 40, 41, 42, 43, 44, 45, 46, 47, 48] rfl ?_;cbv;refine bmT c00 ?_;cbv;refine bmT c00 ?_;cbv;refine bmT c00 ?_;cbv;refine bmT c00 ?_;cbv;refine bmT c00 ?_;cbv;refine Z26 hS (Z1a hA [0, 1, 2] ?_);cbv;refine ⟨by subst hA; rfl, by subst hA; rfl, by subst hA; rfl, Z7 ?_⟩;refine Zii hS (Z3 Z0 hA hS ?_);cbv;refine Z26 hS (Z1a hA [3] ?_);cbv;refine ⟨by subst hA; rfl, Z7 ?_⟩;refine Zg hS (b := true) rfl rfl rfl rfl rfl rfl rfl rfl (fun _ => ⟨_, _, [.sl 1 HL, .sl 1 [.sl 1 [I 1, I 2], .sl 1 [I 1, I 3], .sl 1 [I 2, I 1]]], [], [], rfl, rfl, rfl, by decide, trivial, Znb [[1, 2], [1, 3], [2, 1]] [[1, 2], [1, 3], [2, 1]] HL _ hHL rfl (lim (n := 3) (by omega)) (fun l hl => by simp at hl; rcases hl with rfl | rfl | rfl <;> exact lim (n := 2) (by omega)) true rfl _ ?_⟩) (fun h => absurd rfl h);refine Z3 Z0 hA hS ?_;cbv;refine Zg hS (b := true) rfl rfl rfl rfl rfl rfl rfl rfl (fun _ => ⟨_, _, [I 0, I 0], [], [], rfl, rfl, rfl, by decide, trivial, lTo 0 0 _ ?_⟩) (fun h => absurd rfl h);refine Z3 Z0 hA hS ?_;cbv;refine Zg hS (b := true) rfl rfl rfl rfl rfl rfl rfl rfl (fun _ => ⟨_, _, [I 1, I 1], [], [], rfl, rfl, rfl, by decide, trivial, lTo 1 1 _ ?_⟩) (fun h => absurd rfl h);refine Z3 Z0 hA hS ?_;cbv;refine Z26 hS (Z1a hA [4] ?_);cbv;refine ⟨by subst hA; rfl, Z7 ?_⟩;refine Zg hS (b := true) rfl rfl rfl rfl rfl rfl rfl rfl (fun _ => ⟨_, _, [.sl 2 RL, .sl 2 [.agg [I 0, I 0], .agg [I 1, I 1]]], [], [], rfl, rfl, rfl, by decide, trivial, Za2 [(0, 0), (1, 1)] [(0, 0), (1, 1)] RL _ hRL rfl (lim (n := 2) (by omega)) true rfl _ ?_⟩) (fun h => absurd rfl h);refine Z3 Z0 hA hS ?_;cbv;refine Z26 hS (Z1a hA [5] ?_);cbv;refine ⟨by subst hA; rfl, Z7 ?_⟩;refine Zg hS (b := true) rfl rfl rfl rfl rfl rfl rfl rfl (fun _ => ⟨_, _, [.sl 1 XL, .sl 1 [I 3, I 2, I 2]], [], [], rfl, rfl, rfl, by decide, trivial, Zaq [3, 2, 2] [3, 2, 2] XL _ hXL rfl (lim (n := 3) (by omega)) true rfl _ ?_⟩) (fun h => absurd rfl h);refine Z3 Z0 hA hS ?_;cbv;refine Z26 hS (Z1a hA [6] ?_);cbv;refine ⟨by subst hA; rfl, Z7 ?_⟩;refine Zg hS (b := true) rfl rfl rfl rfl rfl rfl rfl rfl (fun _ => ⟨_, _, [.sl 1 SL, .sl 1 [I 1]], [], [], rfl, rfl, rfl, by decide, trivial, Zaq [1] [1] SL _ hSL rfl (lim (n := 1) (by omega)) true rfl _ ?_⟩) (fun h => absurd rfl h);refine Z3 Z0 hA hS ?_;cbv;refine Z26 hS (Z1a hA [7] ?_);cbv;refine ⟨by subst hA; rfl, Z7 ?_⟩;refine Zg hS (b := true) rfl rfl rfl rfl rfl rfl rfl rfl (fun _ => ⟨_, _, [.sl 1 WL, .sl 1 [I 5]], [], [], rfl, rfl, rfl, by decide, trivial, Zaq [5] [5] WL _ hWL rfl (lim (n := 1) (by omega)) true rfl _ ?_⟩) (fun h => absurd rfl h);refine Z3 Z0 hA hS ?_;cbv;exact Z2 [] (by decide) Z9 (H' := []) (d' := .v (.bool true)) trivial rfl (Z1 hq)
end Go.Proofs.YthljpccegkmdnaaGreatDoor

namespace Go.Batch
theorem Zix {bin : Int} : ∀ (bs ext l : List Int), (∀ k, bs.length <= k -> l.getD k 0 = 0) -> inL bin (bs ++ ext) l = inL bin bs l
 | [], ext, l, h => by
  have key : ∀ (ext l : List Int), (∀ k, l.getD k 0 = 0) -> inL bin ext l = 0 := fun ext => by
   induction ext with
   | nil => intro l _; rfl
   | cons e ext ih =>
    intro l hl;unfold inL;have h0 : l.headD 0 = 0 := by have := hl 0; cases l <;> simpa using this
    rw [ih l.tail (fun k => by have := hl (k + 1); cases l <;> simpa using this), h0]
    split <;> rfl
  exact key ext l fun k => h k (by simp)
 | b :: bs, ext, l, h => by
  simp only [List.cons_append, inL];rw [Zix bs ext l.tail fun k hk => by have := h (k + 1) (by simp; omega); cases l <;> simpa using this]
def Z59 (n : Int) (b : Nat) : List (Int × Nat × Int) -> Int
 | [] => 0
 | p :: l => (if p.1 = n /\ p.2.1 = b then p.2.2 else 0) + Z59 n b l
def Zed (n : Int) (b : Nat) : List (Int × List Int) -> Int
 | [] => 0
 | t :: l => (if t.1 = n then t.2.getD b 0 else 0) + Zed n b l
theorem Zkl (n : Int) (b : Nat) : ∀ (l l' : List (Int × Nat × Int)), Z59 n b (l ++ l') = Z59 n b l + Z59 n b l'
 | [], l' => by simp [Z59]
 | p :: l, l' => by simp only [List.cons_append, Z59, Zkl n b l l']; omega
theorem Zkm (n : Int) (b : Nat) : ∀ (l l' : List (Int × List Int)), Zed n b (l ++ l') = Zed n b l + Zed n b l'
 | [], l' => by simp [Zed]
 | p :: l, l' => by simp only [List.cons_append, Zed, Zkm n b l l']; omega
theorem Zfq {inst n : Int} {b : Nat} {of : List Int} : ∀ (bs : List Int) (i : Nat), Z59 n b (Z1o inst of bs i) = if inst = n /\ i <= b /\ b < i + bs.length then of.getD b 0 else 0
 | [], i => by simp only [Z1o, Z59, List.length_nil]; rw [if_neg (by omega)]
 | c :: bs, i => by
  have ih := Zfq (inst := inst) (n := n) (b := b) (of := of) bs (i + 1);simp only [Z1o, List.length_cons]
  by_cases hb : b = i
  ·subst hb;rw [if_neg (by omega)] at ih
   split
   ·rename_i h0; rw [ih, h0]; simp
   ·simp only [Z59, ih]
    by_cases hn : inst = n
    ·rw [if_pos ⟨hn, trivial⟩, if_pos ⟨hn, Nat.le_refl _, by omega⟩]; omega
    ·rw [if_neg (fun h => hn h.1), if_neg (fun h => hn h.1)]; rfl
  ·have e : (inst = n /\ i <= b /\ b < i + (bs.length + 1)) ↔ (inst = n /\ i + 1 <= b /\ b < i + 1 + bs.length) := by omega
   split
   ·rw [ih]; simp only [e]
   ·simp only [Z59, ih, e];rw [if_neg (fun h => hb h.2.symm)]; omega
theorem Zbq (n : Int) (b : Nat) : ∀ (l : List (Int × Nat × Int)) (z : Int), Zt (Z2v n b) z l = z + Z59 n b l
 | [], z => by simp [Zt, Z59]
 | p :: l, z => by
  have := Zbq n b l (Z2v n b z p.1 p.2.1 p.2.2);simp only [Zt, List.foldl_cons] at this ⊢;rw [this];simp only [Z2v, Z59]
  split <;> omega
theorem Zv0 {ν : Type} {tk : Tk ν} {j j' : Jn} (h1 : j.ins = j'.ins) (h2 : j.first = j'.first) : Z22 j tk = Z22 j' tk := by
 unfold Z22; rw [h1, h2]
theorem Zcl {ν : Type} {tk : Tk ν} {j j' : Jn} (h1 : j.ins = j'.ins) (h2 : j.first = j'.first) (bins : List Int) : ∀ (ms : List Mv) (b : Nat) (now : List (Ste ν)), Z2u j tk bins ms b now = Z2u j' tk bins ms b now
 | [], _, _ => rfl
 | m :: ms, b, now => by simp only [Z2u]; rw [Zv0 h1 h2, Zcl h1 h2 bins ms]
structure Gen (ins : Int) (first : List Bool) (ms : List Mv) (lies : List Int) (truth : List (Int × List Int)) : Prop where
 ok : ∀ m ∈ ms, MOk ⟨ins, first, []⟩ m
 b4 : (Z6 ms).length <= 4
 bin : ∀ b ∈ Z6 ms, 0 <= b /\ b < first.length
 l : LOk lies
 z : ∀ k, (Z6 ms).length <= k -> lies.getD k 0 = 0
 tl : truth.length = ms.length
 ti : ∀ t ∈ truth, (t.1 = -1 ∨ 0 <= t.1 /\ t.1 < ins) /\ (t.2 = [] ∨ t.2.length = 4) /\ ∀ k, 0 <= t.2.getD k 0 /\ t.2.getD k 0 <= 5
 run : ∃ path, (∀ ext, (lies, path) ∈ Z2u ⟨ins, first, []⟩ Z1f (Z6 ms ++ ext) ms 0 [([0, 0, 0, 0], [])]) /\ ∀ n b, 0 <= n -> Z59 n b path = Zed n b truth
section
variable {ins : Int} {first : List Bool} {ms : List Mv} {lies : List Int} {truth : List (Int × List Int)}
theorem MOk.bins {m : Mv} (h : ∀ x ∈ ms ++ [m], MOk ⟨ins, first, []⟩ x) : ∀ b ∈ Z6 (ms ++ [m]), 0 <= b /\ b < first.length := fun b hb => by
 simp only [Z6, List.mem_map, List.mem_filter] at hb;obtain ⟨x, ⟨hx, -⟩, rfl⟩ := hb;exact ⟨(h x hx).b0, (h x hx).b1⟩
theorem Gen.step (h : Gen ins first ms lies truth) {m : Mv} (hm : MOk ⟨ins, first, []⟩ m) (hb : m.kind = 1 -> (Z6 ms).length < 4) {lies' : List Int} (hl : LOk lies') (hz : ∀ k, (Z6 (ms ++ [m])).length <= k -> lies'.getD k 0 = 0) {t : Int × List Int} {q : List (Int × Nat × Int)} (ht : (t.1 = -1 ∨ 0 <= t.1 /\ t.1 < ins) /\ (t.2 = [] ∨ t.2.length = 4) /\ ∀ k, 0 <= t.2.getD k 0 /\ t.2.getD k 0 <= 5)
  (hq : ∀ n b, 0 <= n -> Z59 n b q = Zed n b [t]) (hs : ∀ path ext, (lies', path ++ q) ∈ Z22 ⟨ins, first, []⟩ Z1f (Z6 (ms ++ [m]) ++ ext) m (Z6 ms).length (lies, path)) : Gen ins first (ms ++ [m]) lies' (truth ++ [t]) := by
 have hok : ∀ x ∈ ms ++ [m], MOk ⟨ins, first, []⟩ x := fun x hx => by
  rcases List.mem_append.1 hx with hx | hx
  ·exact h.ok x hx
  ·simp at hx; subst hx; exact hm
 obtain ⟨path, p1, p2⟩ := h.run;refine ⟨hok, ?_, MOk.bins (ins := ins) hok, hl, hz, by simp [h.tl], fun y hy => (by
  rcases List.mem_append.1 hy with hy | hy
  ·exact h.ti y hy
  ·simp at hy; subst hy; exact ht), path ++ q, fun ext => ?_, fun n b hn => by rw [Zkl, Zkm, p2 n b hn, hq n b hn]⟩
 ·rw [Z2t, List.length_append, Z2b];have := h.b4;have e0 : (Z6 []).length = 0 := rfl
  split
  ·rename_i hk; have := hb hk; rw [List.length_cons, e0]; omega
  ·rw [e0]; exact this
 ·rw [Z6u, Nat.zero_add];simp only [Z2u];rw [List.mem_flatMap];refine ⟨(lies, path), ?_, hs path ext⟩;have := p1 (Z6 [m] ++ ext)
  rwa [<- List.append_assoc, <- Z2t] at this
theorem Gen.in_ (h : Gen ins first ms lies truth) {bin n lo hi : Int} (hm : MOk ⟨ins, first, []⟩ ⟨1, bin, 0, lo, hi⟩) (hb : (Z6 ms).length < 4) (h1 : lo <= n) (h2 : n <= hi) : Gen ins first (ms ++ [⟨1, bin, 0, lo, hi⟩]) (lies.set (Z6 ms).length n) (truth ++ [(-1, [])]) := by
 have h8 := hm.l0; have h10 := hm.h5;simp only at h8 h10;refine h.step hm (fun _ => hb) (h.l.set hb (by omega) (by omega)) (fun k hk => ?_) (q := []) ⟨.inl rfl, .inl rfl, fun k => by simp⟩ (fun n b hn => ?_) (fun path ext => ?_)
 ·rw [Z2t, List.length_append] at hk;simp [Z6] at hk;rw [Z1r _ _ _ _ (by rw [h.l.len]; exact hb), if_neg (by simp [Z6]; omega)];exact h.z k (by simp [Z6]; omega)
 ·simp only [Z59, Zed]; rw [if_neg (by omega)]; rfl
 ·unfold Z22;simp only [if_true, List.append_nil, List.mem_map];exact ⟨n, Z2d.2 ⟨h1, h2⟩, rfl⟩
theorem Gen.cnt (h : Gen ins first ms lies truth) {bin lo hi : Int} (hm : MOk ⟨ins, first, []⟩ ⟨3, bin, 0, lo, hi⟩) (h1 : lo <= inL bin (Z6 ms) lies) (h2 : inL bin (Z6 ms) lies <= hi) : Gen ins first (ms ++ [⟨3, bin, 0, lo, hi⟩]) lies (truth ++ [(-1, [])]) := by
 have e : Z6 (ms ++ [⟨3, bin, 0, lo, hi⟩]) = Z6 ms := by rw [Z2t]; simp [Z6]
 refine h.step hm (fun e => by simp at e) h.l (fun k hk => by rw [e] at hk; exact h.z k hk) (q := []) ⟨.inl rfl, .inl rfl, fun k => by simp⟩ (fun n b hn => ?_) (fun path ext => ?_)
 ·simp only [Z59, Zed]; rw [if_neg (by omega)]; rfl
 ·rw [e];unfold Z22;simp only [List.append_nil];rw [if_neg (by simp), if_neg (by simp), Zix _ _ _ h.z, if_pos ⟨h1, h2⟩];simp
theorem Gen.out (h : Gen ins first ms lies truth) {bin i t n lo hi : Int} {of l2 : List Int} (hm : MOk ⟨ins, first, []⟩ ⟨2, bin, i, lo, hi⟩) (hit : i = t ∨ i = -1) (ht0 : 0 <= t) (ht1 : t < ins) (h1 : lo <= n) (h2 : n <= hi)
  (htk : Took (first.getD bin.toNat false) bin (Z6 ms) 0 lies of) (hsum : Z32 of (Z6 ms) 0 = n) (hl2 : l2.length = 4) (ho4 : of.length = 4) (hl : ∀ k, l2.getD k 0 = lies.getD k 0 - of.getD k 0) :
  Gen ins first (ms ++ [⟨2, bin, i, lo, hi⟩]) l2 (truth ++ [(t, of)]) := by
 have e : Z6 (ms ++ [⟨2, bin, i, lo, hi⟩]) = Z6 ms := by rw [Z2t]; simp [Z6]
 have hof : ∀ k, (Z6 ms).length <= k -> of.getD k 0 = 0 := fun k hk => by
  have g1 := htk.nn k; have g2 := htk.le k; rw [h.z k hk] at g2; omega
 refine h.step hm (fun e => by simp at e) ⟨hl2, fun k => ?_, fun k => ?_⟩ (fun k hk => ?_) (q := Z1o t of (Z6 ms) 0) ⟨.inr ⟨ht0, ht1⟩, .inr ho4, fun k => ⟨htk.nn k, Int.le_trans (htk.le k) (h.l.hi k)⟩⟩ (fun n b hn => ?_) (fun path ext => ?_)
 ·rw [hl]; have := htk.le k; omega
 ·rw [hl]; have := htk.nn k; have := h.l.hi k; omega
 ·rw [e] at hk; rw [hl, h.z k hk, hof k hk]; rfl
 ·rw [Zfq];simp only [Zed]
  by_cases hb : b < (Z6 ms).length
  ·by_cases hn' : t = n
   ·rw [if_pos ⟨hn', Nat.zero_le _, by omega⟩, if_pos hn']; omega
   ·rw [if_neg (fun g => hn' g.1), if_neg hn']; rfl
  ·rw [if_neg (by omega), hof b (by omega)]; split <;> rfl
 ·rw [e];unfold Z22;rw [if_neg (by simp), if_pos rfl];simp only [List.mem_flatMap];refine ⟨t, ?_, n, Z2d.2 ⟨h1, h2⟩, ?_⟩
  ·unfold Z9q;rcases hit with rfl | rfl
   ·rw [if_neg (by show ¬ i < 0; omega)]; simp
   ·rw [if_pos (by simp), Z2d]; omega
  ·have hlen := h.l.len;rw [Zai (Z6 ms) ext 0 (lies, path) n (fun k hk => h.z k (by simpa using hk)) (by rw [Nat.zero_add, hlen]; exact h.b4)];refine Z8p (Z6 ms) 0 lies of l2 path n htk (by rw [Nat.zero_add, hlen]; exact h.b4) hsum (by rw [hl2, hlen]) (fun k => ?_);rw [hl]
   split
   ·rfl
   ·rename_i hk; rw [hof k (by omega)]; omega
theorem Took.unit {fifo : Bool} {bin : Int} {bs lies of cur : List Int} (h : Took fifo bin bs 0 lies of) (hc : ∀ k, cur.getD k 0 = lies.getD k 0 - of.getD k 0) {own : Nat} (ho : bs[own]? = some bin) (hp : 0 < cur.getD own 0)
  (hf : fifo = true -> ∀ k, k < own -> bs[k]? = some bin -> cur.getD k 0 <= 0) {of' : List Int} (hof : ∀ k, of'.getD k 0 = if k = own then of.getD own 0 + 1 else of.getD k 0) : Took fifo bin bs 0 lies of' :=
 ⟨fun k => by rw [hof]; have g1 := h.nn k; have g2 := h.nn own; split <;> omega, fun k => by
  rw [hof]
  split
  ·rename_i e; subst e; have := hc k; omega
  ·exact h.le k, fun k b hk hb => by
  have := h.oth k b hk hb
  rw [hof, if_neg]
  ·exact this
  ·intro e
   rw [Nat.zero_add] at e; subst e
   rw [ho] at hk; cases hk; exact hb rfl, fun hff k k' b hkk hk hb h0 hlt => by
  simp only [Nat.zero_add] at h0 ⊢
  subst hb
  rw [hof] at h0 ⊢
  by_cases e1 : k' = own
  ·subst e1
   rw [if_neg (by omega)]
   have g1 := hf hff k hkk hk
   have g2 := hc k
   have g3 := h.le k
   omega
  ·rw [if_neg e1] at h0
   have := h.fst hff k k' b hkk hk rfl (by simpa using h0) hlt
   simp only [Nat.zero_add] at this
   by_cases e2 : k = own
   ·subst e2
    have := hc k; omega
   ·rw [if_neg e2]; exact this⟩
theorem Gen.ends (h : Gen ins first ms lies truth) : ∃ path, (lies, path) ∈ Zd ⟨ins, first, ms⟩ Z1f [] /\ ∀ n b, 0 <= n -> Z59 n b path = Zed n b truth := by
 obtain ⟨path, p1, p2⟩ := h.run;refine ⟨path, ?_, p2⟩;have := p1 [];rw [List.append_nil] at this;unfold Zd
 rwa [Zcl (j := ⟨ins, first, ms⟩) (j' := ⟨ins, first, []⟩) rfl rfl]
end
end Go.Batch

namespace Go.Batch
section
variable {ν : Type}
structure RenOk (ins : Int) (π : Int -> Int) : Prop where
 rng : ∀ i, 0 <= i -> i < ins -> 0 <= π i /\ π i < ins
 inj : ∀ i k, 0 <= i -> i < ins -> 0 <= k -> k < ins -> π i = π k -> i = k
 sur : ∀ k, 0 <= k -> k < ins -> ∃ i, 0 <= i /\ i < ins /\ π i = k
inductive Eff where
 | put (b : Nat) (n : Int)
 | take (b : Nat) (inst n : Int)
def Eff.at : Eff -> Nat
 | .put b _ => b
 | .take b _ _ => b
theorem Zon {bin : Int} : ∀ (bs l l' : List Int), (∀ k, bs[k]? = some bin -> l.getD k 0 = l'.getD k 0) -> inL bin bs l = inL bin bs l'
 | [], _, _, _ => rfl
 | b :: bs, l, l', h => by
  have ih := Zon bs l.tail l'.tail fun k hk => by
   have := h (k + 1) (by simpa using hk)
   cases l <;> cases l' <;> simpa using this
  simp only [inL, ih]
  by_cases hb : b = bin
  ·have := h 0 (by simp [hb]);have e : l.headD 0 = l'.headD 0 := by cases l <;> cases l' <;> simpa using this
   rw [e]
  ·rw [if_neg hb, if_neg hb]
def Zv2 (tk : Tk ν) : Prop := ∀ y i b n i' b' n', b ≠ b' -> tk (tk y i b n) i' b' n' = tk (tk y i' b' n') i b n
end
theorem Zq5 : Zv2 Zn := fun _ _ _ _ _ _ _ _ => rfl
theorem Zsh (i : Int) (b : Nat) : Zv2 (Z2v i b) := fun y i1 b1 n1 i2 b2 n2 h => by
 unfold Z2v
 split <;> split <;> omega
theorem Zsi (i : Int) : Zv2 (Z29 i) := fun y i1 b1 n1 i2 b2 n2 h => by
 unfold Z29
 split <;> split <;> try rfl
 unfold Z2h;simp only [Int.toNat_natCast];rw [Nat.or_assoc, Nat.or_assoc, Nat.or_comm (1 <<< b1)]
end Go.Batch
