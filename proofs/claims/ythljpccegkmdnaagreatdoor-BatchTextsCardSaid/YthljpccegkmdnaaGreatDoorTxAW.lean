/- Part TxAW of the proofs about the benches of the accordion maker: see the last text of the claim for what is proved. -/
import Derived.Test.YthljpccegkmdnaaGreatDoorTxAV
import Derived.Test.YthljpccegkmdnaaGreatDoorTxAP
import Derived.Test.YthljpccegkmdnaaGreatDoorTxAK
set_option linter.unusedVariables false
set_option linter.unusedSimpArgs false
set_option linter.unnecessarySimpa false
set_option linter.constructorNameAsVariable false

namespace Go.Proofs.YthljpccegkmdnaaGreatDoor
open Go Go.Abs Go.Proofs Go.Batch
theorem Zcs {j : Jn} {l : List Mv} {k c : Nat} {m : Mv} (h : l[k]? = some m) : Z3b j (l.drop k) c = if Z2q j m ≠ 0 then Z2q j m else if 4 < (if m.kind = 1 then c + 1 else c) then 6 else Z3b j (l.drop (k + 1)) (if m.kind = 1 then c + 1 else c) := by
 rw [drop_at h]; rfl
set_option maxRecDepth 20000 in
set_option maxHeartbeats 2000000 in
theorem bCheck (j : Jn) (hf : j.first.length <= 1152921504606846976) (hm : j.moves.length <= 1152921504606846976) (FL ML : List D) (hF : FL = j.first.map Zv) (hM : ML = j.moves.map mvD) (n : Int) (hn : n = Zr j) (Q) (hq : Q (RA.ret (I n)) []) :
  CallA Tryz.prog 11 [.agg [I j.ins, .sl 1 FL, .sl 5 ML]] [] Q := by
 obtain ⟨A, hA⟩ : ∃ A, A = ar := ⟨_, rfl⟩;have hFl : FL.length = j.first.length := by rw [hF]; simp
 have hMl : ML.length = j.moves.length := by rw [hM]; simp
 obtain ⟨b1, hb1⟩ : ∃ x, x = decide (1 <= j.ins /\ j.ins <= 4) := ⟨_, rfl⟩;unfold Zr at hn;refine Z5 Z0 hA Tryz.func11 rfl rfl rfl rfl rfl fun S hS => ?_;cbv;refine Z4 hS [I j.ins, I 1, I 4] [] [] rfl rfl rfl rfl rfl rfl rfl rfl (by decide) trivial (bWith _ _ _ b1 hb1 _ ?_);refine Z3 Z0 hA hS ?_;cbv;refine bm (fun c1 => ?_) (fun c1 => ?_)
 ·have hz : n = 1 := by rw [hn, if_pos]; have := xnot hA c1; rw [this] at hb1; exact of_decide_eq_false hb1.symm
  rw [hz] at hq;cbv;exact Z2 [] (by decide) Z9 (H' := []) (d' := I 1) trivial rfl (Z1 hq)
 have d1 := xnnot hA c1;rw [d1] at hb1;have hi := of_decide_eq_true hb1.symm;rw [if_neg (fun h => h hi)] at hn;cbv;refine bm (fun c2 => ?_) (fun c2 => ?_)
 ·have hz : n = 7 := by rw [hn, if_pos]; have h : (j.first.length : Int) = 0 := yeqL hA hFl c2; omega
  rw [hz] at hq;cbv;exact Z2 [] (by decide) Z9 (H' := []) (d' := I 7) trivial rfl (Z1 hq)
 rw [if_neg (by have h : (j.first.length : Int) ≠ 0 := yneqL hA hFl c2; omega)] at hn;cbv;refine bm (fun c3 => ?_) (fun c3 => ?_)
 ·have hz : n = 6 := by rw [hn, if_pos]; have h : (2 : Int) < (j.first.length : Int) := ygtL hA hFl c3; omega
  rw [hz] at hq;cbv;exact Z2 [] (by decide) Z9 (H' := []) (d' := I 6) trivial rfl (Z1 hq)
 have g3 : (j.first.length : Int) <= 2 := yngtL hA hFl c3;cbv;refine bm (fun c4 => ?_) (fun c4 => ?_)
 ·have hz : n = 6 := by rw [hn, if_pos]; have h : (10 : Int) < (j.moves.length : Int) := ygtL hA hMl c4; omega
  rw [hz] at hq;cbv;exact Z2 [] (by decide) Z9 (H' := []) (d' := I 6) trivial rfl (Z1 hq)
 have g4 : (j.moves.length : Int) <= 10 := yngtL hA hMl c4;have g3' : (j.first.length : Int) <= 2 := g3;have hn0 : n = Z3b j (j.moves.drop 0) 0 := by rw [hn, if_neg (by omega)]; rfl
 cbv;refine Zb hS ?_;refine Za (α := Int × Nat × Int × Nat) (fun q => { env := [(1, .b 0 0), (3, I q.2.2.1), (29, .sl 5 ML), (30, I (A.oi (A.len ML))), (31, I q.1)], H := [.box (.agg [I j.ins, .sl 1 FL, .sl 5 ML])], nt := 49, dfs := [] })
  (fun q => j.moves.length - q.2.1) (fun q => q.2.1 <= j.moves.length /\ IsI q.1 q.2.1 /\ IsI q.2.2.1 q.2.2.2 /\ q.2.2.2 <= 4 /\ n = Z3b j (j.moves.drop q.2.1) q.2.2.2) (0, 0, 0, 0) ⟨Nat.zero_le _, ⟨rfl⟩, ⟨rfl⟩, Nat.zero_le _, hn0⟩ ?_ ?_
 ·exact Zf [0] ⟨by decide, Z9, ⟨rfl, trivial⟩, ⟨rfl, rfl, rfl, rfl, rfl, trivial⟩, rfl, rfl⟩
 rintro ⟨i, k, bi, c⟩ ⟨u1, u2, u3, u4, u5⟩;dsimp only at u1 u2 u3 u4 u5;refine Zi Z0 hA hS ?_;cbv;refine bm (fun e => ?_) (fun e => ?_)
 ·have hk : k < j.moves.length := Z31 hA hMl u2 e;obtain ⟨m, hmk⟩ : ∃ m, j.moves[k]? = some m := ⟨_, List.getElem?_eq_getElem hk⟩;have hMk : ML[k]? = some (.agg [I m.kind, I m.bin, I m.inst, I m.lo, I m.hi]) := by rw [hM]; simp [hmk, mvD]
  rw [Zcs hmk] at u5;have hin := Z1b hA hMl u2 hk;have hg := Z18 hA u2 hMk;have hf1 := Zy hA u2 (by omega);have hu2 := Zz hA u2;have hb1f := Zy hA u3 (by omega);have hu3 := Zz hA u3;have hms : j.moves.length - (k + 1) < j.moves.length - k := by omega
  obtain ⟨e1, he1⟩ : ∃ e1, e1 = Z2q j m := ⟨_, rfl⟩;rw [<- he1] at u5;cbv;refine ⟨hin, ⟨_, hg, ?_⟩⟩;cbv;refine Z4 hS [.agg [I j.ins, .sl 1 FL, .sl 5 ML], .agg [I m.kind, I m.bin, I m.inst, I m.lo, I m.hi]] [] [] rfl rfl rfl rfl rfl rfl rfl rfl (by decide) trivial (Zn4 j hi hf m FL ML hF e1 he1 _ ?_);refine Z3 Z0 hA hS ?_;cbv;refine bm (fun c5 => ?_) (fun c5 => ?_)
  ·have hz : n = e1 := by rw [u5, if_pos (xne hA c5)]
   rw [hz] at hq;cbv;refine Z7 ?_;cbv;exact Z2 [] (by decide) Z9 (H' := []) (d' := I e1) trivial rfl (Z1 hq)
  rw [if_neg (fun h => h (Z4t hA c5))] at u5;cbv;refine bm (fun c6 => ?_) (fun c6 => ?_)
  ·rw [if_pos (xeq hA c6)] at u5;cbv;refine ⟨hb1f, ?_⟩;cbv;refine bm (fun c7 => ?_) (fun c7 => ?_)
   ·have hz : n = 6 := by rw [u5, if_pos (by have h1 : (4 : Int) < A.add bi 1 := xgt hA c7; have h2 : A.add bi 1 = ((c + 1 : Nat) : Int) := hu3.eq; omega)]
    rw [hz] at hq;cbv;refine Z7 ?_;cbv;exact Z2 [] (by decide) Z9 (H' := []) (d' := I 6) trivial rfl (Z1 hq)
   ·have h5 : c + 1 <= 4 := by have h1 : A.add bi 1 <= (4 : Int) := Zax hA c7; have h2 : A.add bi 1 = ((c + 1 : Nat) : Int) := hu3.eq; omega
    rw [if_neg (by omega)] at u5;cbv;refine ⟨hf1, ?_⟩;refine Z8 (A.add i 1, k + 1, A.add bi 1, c + 1) [0] ⟨hk, hu2, hu3, h5, u5⟩ hms ?_;exact ⟨by decide, Z9, ⟨rfl, trivial⟩, ⟨rfl, rfl, rfl, rfl, rfl, trivial⟩, rfl, rfl⟩
  ·rw [if_neg (Z2o hA c6)] at u5;cbv;refine bm (fun c7 => ?_) (fun c7 => ?_)
   ·exfalso; have h1 := xgt hA c7; have h2 := u3.eq; omega
   ·rw [if_neg (by omega)] at u5;cbv;refine ⟨hf1, ?_⟩;refine Z8 (A.add i 1, k + 1, bi, c) [0] ⟨hk, hu2, u3, u4, u5⟩ hms ?_;exact ⟨by decide, Z9, ⟨rfl, trivial⟩, ⟨rfl, rfl, rfl, rfl, rfl, trivial⟩, rfl, rfl⟩
 ·have hk : j.moves.length <= k := Z21 hA hMl u2 e;have hz : n = 0 := by rw [u5, List.drop_eq_nil_of_le hk]; rfl
  rw [hz] at hq;cbv;refine Z7 ?_;cbv;exact Z2 [] (by decide) Z9 (H' := []) (d' := I 0) trivial rfl (Z1 hq)
def Zn5 (c : List D) : Prop := c = [] ∨ (∃ x, c = [.cb x 0]) ∨ ∃ x y, c = [.cb x 0, .cb y 0]
theorem Z65 {ms : List Mv} {k : Nat} {m : Mv} (h : ms[k]? = some m) : Z6 (ms.take (k + 1)) = if m.kind = 1 then Z6 (ms.take k) ++ [m.bin] else Z6 (ms.take k) := by
 rw [List.take_add_one, h];unfold Z6;simp only [Option.toList_some, List.filter_append, List.map_append]
 split
 ·rename_i e; simp [List.filter_cons, e]
 ·rename_i e; simp [List.filter_cons, e]
theorem Z6e (ms : List Mv) (k : Nat) : (Z6 (ms.take k)).length <= k := by
 unfold Z6;rw [List.length_map];have := List.length_filter_le (fun m : Mv => decide (m.kind = 1)) (ms.take k);rw [List.length_take] at this; omega
set_option maxRecDepth 20000 in
set_option maxHeartbeats 2000000 in
theorem Zhe (j : Jn) (hm : j.moves.length <= 1000) (FL ML : List D) (hM : ML = j.moves.map mvD) (f : FuncId) (caps : List D) (hc : Zn5 caps) (Q) (hq : ∀ BL, BL = (Z6 j.moves).map I -> Q (RA.ret (.agg [I j.ins, .sl 1 FL, .sl 5 ML, .sl 1 BL, .fn f caps])) []) :
  CallA Tryz.prog 52 [.agg [I j.ins, .sl 1 FL, .sl 5 ML], .fn f caps] [] Q := by
 obtain ⟨A, hA⟩ : ∃ A, A = ar := ⟨_, rfl⟩;have hMl : ML.length = j.moves.length := by rw [hM]; simp
 rcases hc with rfl | ⟨cx, rfl⟩ | ⟨cx, cy, rfl⟩
 all_goals
  refine Z5 Z0 hA Tryz.func52 rfl rfl rfl rfl rfl fun S hS => ?_;cbv;refine Zb hS ?_;refine Za (α := Int × Nat × Nat × List D) ((fun (cp : List D) q => { env := [(1, .fn f cp), (4, .b 1 0), (5, .b 2 0), (12, .sl 5 ML), (13, I (A.oi (A.len ML))), (14, I q.1)], H := [.box (.agg [I j.ins, .sl 1 FL, .sl 5 ML]), .box (.agg [I 0, .v (.slice none 0 0), .v (.slice none 0 0), .v (.slice none 0 0), .v .nilFunc]), .box (.agg [I j.ins, .sl 1 FL, .sl 5 ML, .o 3 1 q.2.2.1, .fn f cp]), .els 1 q.2.2.2], nt := 30, dfs := [] }) (by first | exact [.cb cx 0, .cb cy 0] | exact [.cb cx 0] | exact []))
   (fun q => j.moves.length - q.2.1) (fun q => q.2.1 <= j.moves.length /\ IsI q.1 q.2.1 /\ q.2.2.1 = (Z6 (j.moves.take q.2.1)).length /\ q.2.2.2 = (Z6 (j.moves.take q.2.1)).map I) (0, 0, 0, []) ⟨Nat.zero_le _, ⟨rfl⟩, rfl, rfl⟩ (by
    refine Zfk 2 3 1 (.agg [I j.ins, .sl 1 FL, .sl 5 ML, .o 3 1 0, .fn f _]) rfl rfl rfl ?_
    exact Zf [0, 1, 2, 3] ⟨by decide, Z9, ⟨rfl, rfl, rfl, rfl, trivial⟩, ⟨rfl, rfl, rfl, rfl, rfl, rfl, trivial⟩, rfl, rfl⟩) ?_
  rintro ⟨i, k, n0, L⟩ ⟨u1, u2, u3, u4⟩;dsimp only at u1 u2 u3 u4;refine Zi Z0 hA hS ?_;cbv;refine bm (fun e => ?_) (fun e => ?_)
  ·have hk : k < j.moves.length := Z31 hA hMl u2 e;obtain ⟨m, hmk⟩ : ∃ m, j.moves[k]? = some m := ⟨_, List.getElem?_eq_getElem hk⟩;have hMk : ML[k]? = some (.agg [I m.kind, I m.bin, I m.inst, I m.lo, I m.hi]) := by rw [hM]; simp [hmk, mvD]
   have hbt := Z65 hmk;have hbl := Z6e j.moves k;have hin := Z1b hA hMl u2 hk;have hg := Z18 hA u2 hMk;have hf1 := Zy hA u2 (by omega);have hu2 := Zz hA u2;have hLl : L.length = n0 := by rw [u4, u3]; simp
   have hn0 : n0 <= 1000000 := by omega
   have hms : j.moves.length - (k + 1) < j.moves.length - k := by omega
   cbv;refine ⟨hin, ⟨_, hg, ?_⟩⟩;cbv;refine bm (fun c6 => ?_) (fun c6 => ?_)
   ·rw [if_pos (xeq hA c6)] at hbt;have hL2 : A.app L [I m.bin] = (Z6 (j.moves.take (k + 1))).map I := by rw [Z33 hA, hbt, u4]; simp
    have hn2 : A.addN n0 1 = (Z6 (j.moves.take (k + 1))).length := by rw [Z2e hA, hbt, u3]; simp
    cbv;refine ⟨Ze hA hLl, Ze hA rfl, Z27 hA hn0 (by decide), hf1, ?_⟩;refine Z8 (A.add i 1, k + 1, A.addN n0 1, A.app L [I m.bin]) [0, 1, 2, 6] ⟨hk, hu2, hn2, hL2⟩ hms ?_;exact ⟨by decide, Z9, ⟨rfl, rfl, rfl, rfl, trivial⟩, ⟨rfl, rfl, rfl, rfl, rfl, rfl, trivial⟩, rfl, rfl⟩
   ·rw [if_neg (Z2o hA c6)] at hbt;rw [<- hbt] at u3 u4;cbv;refine ⟨hf1, ?_⟩;refine Z8 (A.add i 1, k + 1, n0, L) [0, 1, 2, 3] ⟨hk, hu2, u3, u4⟩ hms ?_;exact ⟨by decide, Z9, ⟨rfl, rfl, rfl, rfl, trivial⟩, ⟨rfl, rfl, rfl, rfl, rfl, rfl, trivial⟩, rfl, rfl⟩
  ·have hk : k = j.moves.length := by have := Z21 hA hMl u2 e; omega
   have hBL : L = (Z6 j.moves).map I := by rw [u4, hk, List.take_length]
   have hLl : L.length = n0 := by rw [u4, u3]; simp
   have hq2 := hq L hBL;cbv;refine Z7 ?_;cbv;refine Z1w [3] ?_;cbv;refine ⟨by cases L <;> exact hLl.symm, by cases L <;> exact hLl.symm, by cases L <;> exact hLl.symm, ?_⟩;exact Z2 [] (by decide) Z9 (H' := []) (d' := .agg [I j.ins, .sl 1 FL, .sl 5 ML, .sl 1 L, .fn f _]) trivial rfl (Z1 hq2)
end Go.Proofs.YthljpccegkmdnaaGreatDoor

namespace Go.Proofs.YthljpccegkmdnaaGreatDoor
open Go Go.Abs Go.Proofs Go.Batch
end Go.Proofs.YthljpccegkmdnaaGreatDoor

namespace Go.Proofs.YthljpccegkmdnaaGreatDoor
open Go Go.Abs Go.Proofs Go.Batch
def mvI (m : Mv) (b : Nat) : D :=
 if m.kind = 1 then .ifc 219 (.agg [I m.kind, I m.bin, I m.inst, I m.lo, I m.hi, I (b : Nat)])
 else if m.kind = 2 then .ifc 221 (.agg [I m.kind, I m.bin, I m.inst, I m.lo, I m.hi])
 else .ifc 224 (.agg [I m.kind, I m.bin, I m.inst, I m.lo, I m.hi])
def m0 : Mv := ⟨0, 0, 0, 0, 0⟩
def Z52 (ms : List Mv) (k : Nat) : List D := (List.range k).map fun i => mvI (ms.getD i m0) (Z6 (ms.take i)).length
theorem Zkx (ms : List Mv) (k : Nat) : Z52 ms (k + 1) = Z52 ms k ++ [mvI (ms.getD k m0) (Z6 (ms.take k)).length] := by
 simp [Z52, List.range_succ]
theorem Zn6 {ms : List Mv} {n k : Nat} {m : Mv} (hk : k < n) (h : ms[k]? = some m) : (Z52 ms n)[k]? = some (mvI m (Z6 (ms.take k)).length) := by
 simp [Z52, hk, List.getD_eq_getElem?_getD, h]
set_option maxRecDepth 20000 in
set_option maxHeartbeats 4000000 in
theorem Zwv (ins : Int) (ms : List Mv) (hk13 : ∀ m ∈ ms, m.kind = 1 ∨ m.kind = 2 ∨ m.kind = 3) (hm : ms.length <= 1000) (FL ML BL : List D) (hM : ML = ms.map mvD) (f : FuncId) (caps : List D) (hc : Zn5 caps) (Q) (hq : ∀ VL, VL = Z52 ms ms.length -> Q (RA.ret (.sl 1 VL)) []) :
  CallA Tryz.prog 148 [.agg [I ins, .sl 1 FL, .sl 5 ML, .sl 1 BL, .fn f caps]] [] Q := by
 obtain ⟨A, hA⟩ : ∃ A, A = ar := ⟨_, rfl⟩;have hMl : ML.length = ms.length := by rw [hM]; simp
 rcases hc with rfl | ⟨cx, rfl⟩ | ⟨cx, cy, rfl⟩
 all_goals
  refine Z5 Z0 hA Tryz.func148 rfl rfl rfl rfl rfl fun S hS => ?_;cbv;refine Zb hS ?_;refine Za (α := Int × Nat × Int × Nat × List D) ((fun (cp : List D) q => { env := [(1, .b 0 0), (3, .o 1 1 q.2.2.2.1), (4, I q.2.2.1), (9, .sl 5 ML), (10, I (A.oi (A.len ML))), (11, I q.1)], H := [.box (.agg [I ins, .sl 1 FL, .sl 5 ML, .sl 1 BL, .fn f cp]), .els 1 q.2.2.2.2], nt := 44, dfs := [] }) (by first | exact [.cb cx 0, .cb cy 0] | exact [.cb cx 0] | exact []))
   (fun q => ms.length - q.2.1) (fun q => q.2.1 <= ms.length /\ IsI q.1 q.2.1 /\ IsI q.2.2.1 (Z6 (ms.take q.2.1)).length /\ q.2.2.2.1 = q.2.1 /\ q.2.2.2.2 = Z52 ms q.2.1) (0, 0, 0, 0, []) ⟨Nat.zero_le _, ⟨rfl⟩, ⟨rfl⟩, rfl, rfl⟩ (by
    refine Z2a 3 1 rfl ?_
    exact Zf [0, 1] ⟨by decide, Z9, ⟨rfl, rfl, trivial⟩, ⟨rfl, rfl, rfl, rfl, rfl, rfl, trivial⟩, rfl, rfl⟩) ?_
  rintro ⟨i, k, bi, n0, L⟩ ⟨u1, u2, u3, u4, u5⟩;dsimp only at u1 u2 u3 u4 u5;refine Zi Z0 hA hS ?_;cbv;refine bm (fun e => ?_) (fun e => ?_)
  ·have hk : k < ms.length := Z31 hA hMl u2 e;obtain ⟨m, hmk⟩ : ∃ m, ms[k]? = some m := ⟨_, List.getElem?_eq_getElem hk⟩;have hMk : ML[k]? = some (.agg [I m.kind, I m.bin, I m.inst, I m.lo, I m.hi]) := by rw [hM]; simp [hmk, mvD]
   have hmg : ms.getD k m0 = m := by rw [List.getD_eq_getElem?_getD, hmk]; rfl
   have hbt := Z65 hmk;have hbl := Z6e ms k;have hsu := Zkx ms k;rw [hmg] at hsu;have hin := Z1b hA hMl u2 hk;have hg := Z18 hA u2 hMk;have hf1 := Zy hA u2 (by omega);have hu2 := Zz hA u2;have hf3 := Zy hA u3 (by omega);have hu3 := Zz hA u3;have hLl : L.length = n0 := by rw [u5, u4]; simp [Z52]
   have hn0 : n0 <= 1000000 := by omega
   have hn2 : A.addN n0 1 = k + 1 := by rw [Z2e hA, u4]
   have hms : ms.length - (k + 1) < ms.length - k := by omega
   have hkd := hk13 m (List.mem_of_getElem? hmk);obtain ⟨bn, hbn⟩ : ∃ bn, bn = (Z6 (ms.take k)).length := ⟨_, rfl⟩;rw [<- hbn] at hsu u3 hu3;have hv1 : m.kind = 1 -> A.app L [.ifc 219 (.agg [I m.kind, I m.bin, I m.inst, I m.lo, I m.hi, I bi])] = Z52 ms (k + 1) := fun h => by rw [Z33 hA, hsu, u5, mvI, if_pos h, u3.eq]
   have hv2 : m.kind = 2 -> A.app L [.ifc 221 (.agg [I m.kind, I m.bin, I m.inst, I m.lo, I m.hi])] = Z52 ms (k + 1) := fun h => by rw [Z33 hA, hsu, u5, mvI, if_neg (by omega), if_pos h]
   have hv3 : m.kind ≠ 1 -> m.kind ≠ 2 -> A.app L [.ifc 224 (.agg [I m.kind, I m.bin, I m.inst, I m.lo, I m.hi])] = Z52 ms (k + 1) := fun h h' => by rw [Z33 hA, hsu, u5, mvI, if_neg h, if_neg h']
   have hb1 : m.kind = 1 -> IsI (A.add bi 1) (Z6 (ms.take (k + 1))).length := fun h => by rw [hbt, if_pos h]; simp; rw [<- hbn]; exact hu3
   have hb2 : m.kind ≠ 1 -> IsI bi (Z6 (ms.take (k + 1))).length := fun h => by rw [hbt, if_neg h, <- hbn]; exact u3
   have e1 : m.kind = 2 -> m.kind ≠ 1 := fun h => by omega
   cbv;refine ⟨hin, ⟨_, hg, ?_⟩⟩;cbv;refine bm (fun c1 => ?_) (fun c1 => ?_)
   ·cbv;refine ⟨Ze hA hLl, Ze hA rfl, Z27 hA hn0 (by decide), hf3, hf1, ?_⟩;refine Z8 (A.add i 1, k + 1, A.add bi 1, A.addN n0 1, A.app L [.ifc 219 (.agg [I m.kind, I m.bin, I m.inst, I m.lo, I m.hi, I bi])]) [0, 4] ⟨hk, hu2, hb1 (xeq hA c1), hn2, hv1 (xeq hA c1)⟩ hms ?_;exact ⟨by decide, Z9, ⟨rfl, rfl, trivial⟩, ⟨rfl, rfl, rfl, rfl, rfl, rfl, trivial⟩, rfl, rfl⟩
   ·cbv;refine bm (fun c2 => ?_) (fun c2 => ?_)
    ·cbv;refine ⟨Ze hA hLl, Ze hA rfl, Z27 hA hn0 (by decide), hf1, ?_⟩;refine Z8 (A.add i 1, k + 1, bi, A.addN n0 1, A.app L [.ifc 221 (.agg [I m.kind, I m.bin, I m.inst, I m.lo, I m.hi])]) [0, 4] ⟨hk, hu2, hb2 (Z2o hA c1), hn2, hv2 (xeq hA c2)⟩ hms ?_;exact ⟨by decide, Z9, ⟨rfl, rfl, trivial⟩, ⟨rfl, rfl, rfl, rfl, rfl, rfl, trivial⟩, rfl, rfl⟩
    ·cbv;refine ⟨Ze hA hLl, Ze hA rfl, Z27 hA hn0 (by decide), hf1, ?_⟩;refine Z8 (A.add i 1, k + 1, bi, A.addN n0 1, A.app L [.ifc 224 (.agg [I m.kind, I m.bin, I m.inst, I m.lo, I m.hi])]) [0, 4] ⟨hk, hu2, hb2 (Z2o hA c1), hn2, hv3 (Z2o hA c1) (Z2o hA c2)⟩ hms ?_;exact ⟨by decide, Z9, ⟨rfl, rfl, trivial⟩, ⟨rfl, rfl, rfl, rfl, rfl, rfl, trivial⟩, rfl, rfl⟩
  ·have hk : k = ms.length := by have := Z21 hA hMl u2 e; omega
   have hVL : L = Z52 ms ms.length := by rw [u5, hk]
   have hLl : L.length = n0 := by rw [u5, u4]; simp [Z52]
   have hq2 := hq L hVL;cbv;refine Z7 ?_;cbv;refine Z1w [1] ?_;cbv;exact ⟨by cases L <;> exact hLl.symm, Z2 [] (by decide) Z9 (H' := []) (d' := .sl 1 L) trivial rfl (Z1 hq2)⟩
theorem Zct {bin : Int} : ∀ {bs l : List Int} {k : Nat} {b : Int}, bs[k]? = some b -> inL bin (bs.take (k + 1)) l = inL bin (bs.take k) l + (if b = bin then l.getD k 0 else 0)
 | [], l, k, b, h => by simp at h
 | c :: bs, l, 0, b, h => by
  simp at h; subst h
  cases l <;> simp [inL]
 | c :: bs, l, k + 1, b, h => by
  have := Zct (bin := bin) (l := l.tail) (k := k) (b := b) (bs := bs) (by simpa using h);simp only [List.take_succ_cons, inL, this];have e : l.tail.getD k 0 = l.getD (k + 1) 0 := by cases l <;> simp
  rw [e]; omega
theorem Zek {bin : Int} : ∀ {bs l : List Int}, (∀ i, 0 <= l.getD i 0 /\ l.getD i 0 <= 5) -> 0 <= inL bin bs l /\ inL bin bs l <= 5 * bs.length
 | [], l, h => by simp [inL]
 | c :: bs, l, h => by
  have h1 := Zek (bin := bin) (bs := bs) (l := l.tail) (fun i => by
   have := h (i + 1)
   have e : l.tail.getD i 0 = l.getD (i + 1) 0 := by cases l <;> simp
   rw [e]; exact this)
  have h2 := h 0;have e : l.headD 0 = l.getD 0 0 := by cases l <;> simp
  simp only [inL, List.length_cons, e]
  split <;> omega
set_option maxRecDepth 20000 in
set_option maxHeartbeats 4000000 in
theorem bIn (ins : Int) (bins l : List Int) (hb4 : bins.length <= 4) (hl : LOk l) (bin : Int) (FL ML BL : List D) (hB : BL = bins.map I) (x0 x1 x2 x3 : Int) (hx : l = [x0, x1, x2, x3]) (n : Int) (hn : n = inL bin bins l) (f : FuncId) (caps : List D) (hc : Zn5 caps) (Q) (hq : Q (RA.ret (I n)) []) :
  CallA Tryz.prog 55 [.agg [I ins, .sl 1 FL, .sl 5 ML, .sl 1 BL, .fn f caps], .agg [I x0, I x1, I x2, I x3], I bin] [] Q := by
 obtain ⟨A, hA⟩ : ∃ A, A = ar := ⟨_, rfl⟩;have hBl : BL.length = bins.length := by rw [hB]; simp
 have hxg : ∀ k, k < 4 -> ∃ x : Int, x = l.getD k 0 /\ ([I x0, I x1, I x2, I x3] : List D)[0 + k]? = some (I x) := fun k hk => by
  refine ⟨_, rfl, ?_⟩;rw [hx, Nat.zero_add]
  match k, hk with
  | 0, _ => rfl
  | 1, _ => rfl
  | 2, _ => rfl
  | 3, _ => rfl
 have hbd : ∀ k, k <= bins.length -> 0 <= inL bin (bins.take k) l /\ inL bin (bins.take k) l <= 20 := fun k hk => by
  have := Zek (bin := bin) (bs := bins.take k) (l := l) (fun i => ⟨hl.lo i, hl.hi i⟩);rw [List.length_take] at this; omega
 rcases hc with rfl | ⟨cx, rfl⟩ | ⟨cx, cy, rfl⟩
 all_goals
  refine Z5 Z0 hA Tryz.func55 rfl rfl rfl rfl rfl fun S hS => ?_;cbv;refine Zb hS ?_;refine Za (α := Int × Nat × Int) ((fun (cp : List D) q => { env := [(2, I bin), (4, .b 1 0), (7, I q.2.2), (11, .sl 1 BL), (12, I (A.oi (A.len BL))), (13, I q.1)], H := [.box (.agg [I ins, .sl 1 FL, .sl 5 ML, .sl 1 BL, .fn f cp]), .box (.agg [I x0, I x1, I x2, I x3])], nt := 28, dfs := [] }) (by first | exact [.cb cx 0, .cb cy 0] | exact [.cb cx 0] | exact []))
   (fun q => bins.length - q.2.1) (fun q => q.2.1 <= bins.length /\ IsI q.1 q.2.1 /\ q.2.2 = inL bin (bins.take q.2.1) l) (0, 0, 0) ⟨Nat.zero_le _, ⟨rfl⟩, rfl⟩ (by
    exact Zf [0, 1] ⟨by decide, Z9, ⟨rfl, rfl, trivial⟩, ⟨rfl, rfl, rfl, rfl, rfl, rfl, trivial⟩, rfl, rfl⟩) ?_
  rintro ⟨i, k, sm⟩ ⟨u1, u2, u3⟩;dsimp only at u1 u2 u3;refine Zi Z0 hA hS ?_;cbv;refine bm (fun e => ?_) (fun e => ?_)
  ·have hk : k < bins.length := Z31 hA hBl u2 e;obtain ⟨b, hbk⟩ : ∃ b, bins[k]? = some b := ⟨_, List.getElem?_eq_getElem hk⟩;have hBk : BL[k]? = some (I b) := by rw [hB]; simp [hbk]
   have ht := Zct (bin := bin) (l := l) hbk;have hb0 := hbd k u1;have hb1 := hbd (k + 1) hk;obtain ⟨x, hxe, hxG⟩ := hxg k (by omega);have hin := Z1b hA hBl u2 hk;have hg := Z18 hA u2 hBk;have hin4 : A.inb i 4 := Z4o hA u2 (by omega);have hgx := Zo9 hA 0 u2 hxG;have hf1 := Zy hA u2 (by omega);have hu2 := Zz hA u2;have hms : bins.length - (k + 1) < bins.length - k := by omega
   have hs1 : b = bin -> A.add sm x = inL bin (bins.take (k + 1)) l := fun h => by rw [ht, if_pos h, Z58 hA, u3, hxe]
   have hs2 : b ≠ bin -> sm = inL bin (bins.take (k + 1)) l := fun h => by rw [ht, if_neg h, u3]; simp
   have hfs : b = bin -> A.fits .i64 (A.add sm x) := fun h => Z14 hA (hs1 h) (by omega);cbv;refine ⟨hin, ⟨_, hg, ?_⟩⟩;cbv;refine bm (fun c1 => ?_) (fun c1 => ?_)
   ·cbv;refine ⟨hin4, ⟨_, hgx, ?_⟩⟩;cbv;refine ⟨hfs (xeq hA c1), hf1, ?_⟩;refine Z8 (A.add i 1, k + 1, A.add sm x) [0, 1] ⟨hk, hu2, hs1 (xeq hA c1)⟩ hms ?_;exact ⟨by decide, Z9, ⟨rfl, rfl, trivial⟩, ⟨rfl, rfl, rfl, rfl, rfl, rfl, trivial⟩, rfl, rfl⟩
   ·cbv;refine ⟨hf1, ?_⟩;refine Z8 (A.add i 1, k + 1, sm) [0, 1] ⟨hk, hu2, hs2 (Z2o hA c1)⟩ hms ?_;exact ⟨by decide, Z9, ⟨rfl, rfl, trivial⟩, ⟨rfl, rfl, rfl, rfl, rfl, rfl, trivial⟩, rfl, rfl⟩
  ·have hk : k = bins.length := by have := Z21 hA hBl u2 e; omega
   have hz : n = sm := by rw [hn, u3, hk, List.take_length]
   rw [hz] at hq;cbv;refine Z7 ?_;cbv;exact Z2 [] (by decide) Z9 (H' := []) (d' := I sm) trivial rfl (Z1 hq)
end Go.Proofs.YthljpccegkmdnaaGreatDoor

namespace Go.Batch
open Go Go.Abs
def Z64 (s : Ste Int) : List Int := s.1 ++ [s.2]
def tD : D := .v (.bool true)
structure MapOk (ents : List (List Int × D)) (S : List (Ste Int)) : Prop where
 vals : ∀ e ∈ ents, e.2 = tD
 keys : ∀ k, k ∈ ents.map (·.1) ↔ k ∈ S.map Z64
 nd : (ents.map (·.1)).Nodup
theorem Z82 : MapOk [] [] := ⟨fun _ h => by simp at h, fun _ => by simp, by simp⟩
theorem Zh6 {ents : List (List Int × D)} (k : List Int) : (ar.mput ents k tD).map (·.1) = if k ∈ ents.map (·.1) then ents.map (·.1) else ents.map (·.1) ++ [k] := by
 have e : ar.mput ents k tD = (match ents.findIdx? (·.1 == k) with | some i => ents.set i (k, tD) | none => ents ++ [(k, tD)]) := rfl;rw [e]
 cases h : ents.findIdx? (·.1 == k) with
 | none =>
  rw [List.findIdx?_eq_none_iff] at h;rw [if_neg]
  ·simp
  ·intro hk;obtain ⟨e, h1, h2⟩ := List.mem_map.1 hk;have := h e h1;simp [h2] at this
 | some i =>
  obtain ⟨hi, h1, -⟩ := List.findIdx?_eq_some_iff_getElem.1 h;have h2 : ents[i].1 = k := by simpa using h1
  rw [if_pos (List.mem_map.2 ⟨ents[i], List.getElem_mem hi, h2⟩)];simp only [List.map_set];rw [show k = (ents.map (·.1))[i]'(by simpa using hi) by simp [h2]];exact List.set_getElem_self _
theorem Zq6 {ents : List (List Int × D)} (k : List Int) (h : ∀ e ∈ ents, e.2 = tD) : ∀ e ∈ ar.mput ents k tD, e.2 = tD := by
 intro e he
 replace he : e ∈ (match ents.findIdx? (·.1 == k) with | some i => ents.set i (k, tD) | none => ents ++ [(k, tD)]) := he
 split at he
 ·rcases List.mem_or_eq_of_mem_set he with h1 | h1
  ·exact h e h1
  ·rw [h1]
 ·rcases List.mem_append.1 he with h1 | h1
  ·exact h e h1
  ·simp at h1; rw [h1]
theorem Zh7 {ents : List (List Int × D)} {S : List (Ste Int)} (h : MapOk ents S) (s : Ste Int) : MapOk (ar.mput ents (Z64 s) tD) (S ++ [s]) := by
 refine ⟨Zq6 _ h.vals, fun k => ?_, ?_⟩
 ·rw [Zh6, List.map_append, List.mem_append];have := h.keys k
  split
  ·rename_i hk
   have h2 := h.keys (Z64 s);constructor
   ·intro e; exact .inl (this.1 e)
   ·rintro (e | e)
    ·exact this.2 e
    ·simp at e; rw [e]; exact hk
  ·rw [List.mem_append, this]; simp
 ·rw [Zh6]
  split
  ·exact h.nd
  ·rename_i hk
   rw [List.nodup_append];exact ⟨h.nd, by simp, fun a ha b hb => by simp at hb; subst hb; intro e; exact hk (e ▸ ha)⟩
def Zj (ents : List (List Int × D)) (S : List (Ste Int)) : List (List Int × D) := S.foldl (fun e s => ar.mput e (Z64 s) tD) ents
theorem Zkn (ents : List (List Int × D)) (s : Ste Int) (S : List (Ste Int)) : Zj ents (s :: S) = Zj (ar.mput ents (Z64 s) tD) S := rfl
theorem Z51 (ents : List (List Int × D)) (S S' : List (Ste Int)) : Zj ents (S ++ S') = Zj (Zj ents S) S' := by unfold Zj; rw [List.foldl_append]
theorem Z83 {ents : List (List Int × D)} {S : List (Ste Int)} (h : MapOk ents S) : ∀ S' : List (Ste Int), MapOk (Zj ents S') (S ++ S')
 | [] => by simpa [Zj] using h
 | s :: S' => by
  rw [Zkn, show S ++ s :: S' = (S ++ [s]) ++ S' by simp];exact Z83 (Zh7 h s) S'
theorem MapOk.congr {ents : List (List Int × D)} {S S' : List (Ste Int)} (h : MapOk ents S) (e : ∀ s, s ∈ S ↔ s ∈ S') : MapOk ents S' :=
 ⟨h.vals, fun k => by rw [h.keys]; simp only [List.mem_map, e], h.nd⟩
theorem MapOk.empty {ents : List (List Int × D)} {S : List (Ste Int)} (h : MapOk ents S) : ents = [] ↔ S = [] := by
 constructor
 ·intro e; subst e
  cases S with
  | nil => rfl
  | cons s S => have := (h.keys (Z64 s)).2 (by simp); simp at this
 ·intro e; subst e
  cases ents with
  | nil => rfl
  | cons x l => have := (h.keys x.1).1 (by simp); simp at this
theorem MapOk.at {ents : List (List Int × D)} {S : List (Ste Int)} (h : MapOk ents S) {i : Nat} {e : List Int × D} (he : ents[i]? = some e) : ∃ s ∈ S, e = (Z64 s, tD) := by
 have hm := List.mem_of_getElem? he;obtain ⟨s, hs, hk⟩ := List.mem_map.1 ((h.keys e.1).1 (List.mem_map.2 ⟨e, hm, rfl⟩));exact ⟨s, hs, Prod.ext hk.symm (h.vals e hm)⟩
theorem MapOk.has {ents : List (List Int × D)} {S : List (Ste Int)} (h : MapOk ents S) {s : Ste Int} (hs : s ∈ S) : ∃ i : Nat, ents[i]? = some (Z64 s, tD) := by
 obtain ⟨e, he, hk⟩ := List.mem_map.1 ((h.keys (Z64 s)).2 (List.mem_map.2 ⟨s, hs, rfl⟩));obtain ⟨i, hi⟩ := List.mem_iff_getElem?.1 he;exact ⟨i, by rw [hi]; congr 1; exact Prod.ext hk (h.vals e he)⟩
theorem Zko : ∀ (N : Nat) (l : List Nat), l.Nodup -> (∀ x ∈ l, x < N) -> l.length <= N
 | 0, l, _, h => by
  cases l with
  | nil => exact Nat.le_refl _
  | cons x l => exact absurd (h x (by simp)) (by omega)
 | N + 1, l, hd, h => by
  have h1 := Zko N (l.filter (· ≠ N)) (hd.filter _) (fun x hx => by
   simp at hx
   have := h x hx.1
   omega)
  have h2 : l.length <= (l.filter (· ≠ N)).length + 1 := by
   clear h h1
   induction l with
   | nil => simp
   | cons x l ih =>
    rw [List.nodup_cons] at hd
    by_cases hx : x = N
    ·subst hx;have : l.filter (· ≠ x) = l := List.filter_eq_self.2 fun y hy => by
      simp; intro e; subst e; exact hd.1 hy
     have e2 : (l.filter fun y => !decide (y = x)) = l := by simpa using this
     simp [List.filter_cons, e2]
    ·have := ih hd.2;simp [List.filter_cons, hx] at this ⊢;omega
  omega
def Zwo (l : List Int) : Nat := (((l.getD 0 0 * 6 + l.getD 1 0) * 6 + l.getD 2 0) * 6 + l.getD 3 0).toNat + 1296 * (l.getD 4 0).toNat
theorem Zbr {l : List Int} (h : l.length = 4) : ∃ a b c d, l = [a, b, c, d] := by
 match l, h with
 | [a, b, c, d], _ => exact ⟨a, b, c, d, rfl⟩
theorem MapOk.len {ents : List (List Int × D)} {S : List (Ste Int)} (h : MapOk ents S) (hs : ∀ s ∈ S, LOk s.1 /\ 0 <= s.2 /\ s.2 <= 640) : ents.length <= 831000 := by
 have h1 : ∀ k ∈ ents.map (·.1), ∃ s ∈ S, k = Z64 s := fun k hk => by
  obtain ⟨s, hs, e⟩ := List.mem_map.1 ((h.keys k).1 hk);exact ⟨s, hs, e.symm⟩
 have hb : ∀ k ∈ ents.map (·.1), ∃ a b c d n : Int, k = [a, b, c, d, n] /\ (0 <= a /\ a <= 5) /\ (0 <= b /\ b <= 5) /\ (0 <= c /\ c <= 5) /\ (0 <= d /\ d <= 5) /\ 0 <= n /\ n <= 640 := fun k hk => by
  obtain ⟨s, hm, e⟩ := h1 k hk;obtain ⟨hl, h0, h6⟩ := hs s hm;obtain ⟨a, b, c, d, e4⟩ := Zbr hl.len;have hg := hl.lo;have hh := hl.hi;rw [e4] at hg hh;exact ⟨a, b, c, d, s.2, by rw [e, Z64, e4]; rfl, ⟨hg 0, hh 0⟩, ⟨hg 1, hh 1⟩, ⟨hg 2, hh 2⟩, ⟨hg 3, hh 3⟩, h0, h6⟩
 have hlen := Zko 830736 ((ents.map (·.1)).map Zwo) ?_ ?_
 ·simp at hlen; omega
 ·refine List.pairwise_map.2 (List.Pairwise.imp_of_mem ?_ h.nd);intro k k' hk hk' hne e;obtain ⟨a, b, c, d, n, rfl, p1, p2, p3, p4, p5⟩ := hb k hk;obtain ⟨a', b', c', d', n', rfl, q1, q2, q3, q4, q5⟩ := hb k' hk'
  apply hne
  simp [Zwo] at e;have : a = a' /\ b = b' /\ c = c' /\ d = d' /\ n = n' := by omega
  obtain ⟨rfl, rfl, rfl, rfl, rfl⟩ := this;rfl
 ·intro x hx;obtain ⟨k, hk, rfl⟩ := List.mem_map.1 hx;obtain ⟨a, b, c, d, n, rfl, p1, p2, p3, p4, p5⟩ := hb k hk;simp [Zwo];omega
theorem Zsj {s s' : Ste Int} (h : Z64 s = Z64 s') : s = s' := by
 unfold Z64 at h;obtain ⟨h1, h2⟩ := List.append_inj' h rfl;simp at h2;exact Prod.ext h1 h2
structure Seen (ents : List (List Int × D)) (bs seen : List Nat) (S done : List (Ste Int)) : Prop where
 inS : ∀ s ∈ done, s ∈ S
 got : ∀ (i c : Nat) (s : Ste Int), bs[i]? = some c -> c ∈ seen -> ents[i]? = some (Z64 s, tD) -> s ∈ done
theorem Z84 (ents : List (List Int × D)) (bs : List Nat) (S : List (Ste Int)) : Seen ents bs [] S [] := ⟨fun _ h => by simp at h, fun _ _ _ _ h => by simp at h⟩
theorem Seen.next {ents : List (List Int × D)} {bs seen : List Nat} {S done : List (Ste Int)} (h : Seen ents bs seen S done) (hd : bs.Nodup) {i c : Nat} {s : Ste Int} (hc : bs[i]? = some c) (he : ents[i]? = some (Z64 s, tD)) (hs : s ∈ S) :
  Seen ents bs (seen ++ [c]) S (done ++ [s]) := by
 refine ⟨fun x hx => ?_, fun i' c' s' h1 h2 h3 => ?_⟩
 ·rcases List.mem_append.1 hx with h1 | h1
  ·exact h.inS x h1
  ·simp at h1; rw [h1]; exact hs
 ·rcases List.mem_append.1 h2 with h4 | h4
  ·exact List.mem_append.2 (.inl (h.got i' c' s' h1 h4 h3))
  ·simp at h4; subst h4;have hi : i = i' := by
    obtain ⟨a1, a2⟩ := List.getElem?_eq_some_iff.1 hc;obtain ⟨b1, b2⟩ := List.getElem?_eq_some_iff.1 h1;exact (List.getElem?_inj a1 hd).1 (hc.trans h1.symm)
   subst hi;rw [he] at h3;have : Z64 s = Z64 s' := by injection h3 with h5; exact congrArg Prod.fst h5
   rw [Zsj this]; simp
theorem Seen.all {ents : List (List Int × D)} {bs seen : List Nat} {S done : List (Ste Int)} (h : Seen ents bs seen S done) (hm : MapOk ents S) (hl : bs.length = ents.length) (hall : ∀ c ∈ bs, c ∈ seen) : ∀ s, s ∈ done ↔ s ∈ S := fun s => by
 refine ⟨h.inS s, fun hs => ?_⟩;obtain ⟨i, hi⟩ := hm.has hs;have hlt : i < bs.length := by rw [hl]; exact (List.getElem?_eq_some_iff.1 hi).1
 exact h.got i bs[i] s (List.getElem?_eq_getElem hlt) (hall _ (List.getElem_mem hlt)) hi
def Z8y (bs seen : List Nat) : Nat := (bs.filter fun c => decide (c ∉ seen)).length
theorem Z85 {bs seen : List Nat} {i c : Nat} (hc : bs[i]? = some c) (hn : c ∉ seen) : Z8y bs (seen ++ [c]) < Z8y bs seen := by
 have hm : c ∈ bs := List.mem_of_getElem? hc;unfold Z8y;clear hc
 induction bs with
 | nil => simp at hm
 | cons x bs ih =>
  have le : ∀ l : List Nat, (l.filter fun y => decide (y ∉ seen ++ [c])).length <= (l.filter fun y => decide (y ∉ seen)).length := fun l => by
   induction l with
   | nil => simp
   | cons y l ih2 =>
    simp only [List.filter_cons]
    by_cases h1 : y ∈ seen
    ·have : y ∈ seen ++ [c] := by simp [h1]
     simpa [h1, this] using ih2
    ·by_cases h2 : y ∈ seen ++ [c]
     ·simp [h1, h2]; simp at ih2; omega
     ·simp [h1, h2]; simpa using ih2
  by_cases hx : x = c
  ·subst hx;have := le bs;simp [List.filter_cons, hn] at this ⊢;omega
  ·rcases List.mem_cons.1 hm with h1 | h1
   ·exact absurd h1.symm hx
   ·have h2 := ih h1;simp only [List.filter_cons]
    by_cases h3 : x ∈ seen
    ·have : x ∈ seen ++ [c] := by simp [h3]
     simpa [h3, this] using h2
    ·have : x ∉ seen ++ [c] := by simp [h3, hx]
     simpa [h3, this] using h2
theorem Zmy {S done : List (Ste Int)} (h : ∀ s, s ∈ done ↔ s ∈ S) (f : Ste Int -> Int) : Zs (done.map f) = Zs (S.map f) := Z6l fun x => by simp only [List.mem_map, h]
end Go.Batch
