/- Part AllB of the proofs about the benches of the accordion maker: see the last text of the claim for what is proved. -/
import Derived.Test.YtecfpfhkicapeaaAllA
import Derived.Test.YtecfpfhkicapeaaMachF
import Derived.Test.YtecfpfhkicapeaaBatB
set_option linter.unusedVariables false
set_option linter.unusedSimpArgs false
set_option linter.unnecessarySimpa false
set_option linter.constructorNameAsVariable false

namespace Go.Proofs.Ytecfpfhkicapeaa
open Go Go.Abs Go.Proofs Go.Batch
def wdD (w : Wd) : D := .agg [rowI w.lies, .sl 1 (w.has.map rowI)]
def Zr : List D := [I 0, I 0, I 0, I 0]
theorem Z13x {A : Ar} (hA : A = ar) {k : Nat} (hk : k <= 1000000000) : A.room k 48 := by
 subst hA;exact ⟨by show k * 48 <= 140737488355328; omega, by show k <= 4611686018427387904; omega⟩
theorem xleI {A : Ar} (hA : A = ar) {a b : Int} (h : A.cmp .leq a b = true) : a <= b := by subst hA; simpa [ar, Z25] using h
theorem Z14q {A : Ar} (hA : A = ar) {a b : Int} (h : A.cmp .leq a b = false) : b < a := by subst hA; simpa [ar, Z25] using h
theorem kInB (lo hi n : Int) (b : Bool) (hb : b = decide (lo <= n /\ n <= hi)) (Q) (hq : Q (RA.ret (.v (.bool b))) []) : CallA Try.prog 68 [.agg [I lo, I hi], I n] [] Q := by
 obtain ⟨A, hA⟩ : ∃ A, A = ar := ⟨_, rfl⟩;refine Z5 Z0 hA Try.func68 rfl rfl rfl rfl rfl fun S hS => ?_;cbv
 by_cases h1 : lo <= n
 ·have c1 : A.cmp .leq lo n = true := by subst hA; simp [ar, Z25]; exact h1
  have c2 : A.cmp .leq n hi = b := by
   rw [hb]; subst hA; simp [ar, Z25, h1]
  refine bmT c1 ?_;cbv;refine Z37 (WkD.eq (congrArg (fun b => D.v (.bool b)) c2)) ?_;exact Z2 [] (by decide) Z9 (H' := []) (d' := .v (.bool b)) trivial rfl (Z1 hq)
 ·have c1 : A.cmp .leq lo n = false := by subst hA; simp [ar, Z25]; omega
  have c2 : b = false := by rw [hb]; exact decide_eq_false fun h => h1 h.1
  rw [c2] at hq;refine bmF c1 ?_;cbv;exact Z2 [] (by decide) Z9 (H' := []) (d' := .v (.bool false)) trivial rfl (Z1 hq)
set_option maxRecDepth 40000 in
set_option maxHeartbeats 16000000 in
theorem Z14p (j : Jn) (hj : JOk j) (h5 : (Z6 j.moves).length + (j.moves.filter fun m => decide (m.kind = 2)).length <= 5) (ins : Int) (hins : ins = j.ins) (N : Nat) (hN : IsI ins N) (FL ML : List D) (hF : FL = j.first.map Zv) (hM : ML = j.moves.map mvD) (nm : Nat) (hnm : nm = j.moves.length) (Q)
  (hq : ∀ WL, WL = (preW j nm).map wdD -> Q (RA.ret (.sl 2 WL)) []) : CallA Try.prog 52 [.agg [I ins, .sl 1 FL, .sl 5 ML]] [] Q := by
 obtain ⟨A, hA⟩ : ∃ A, A = ar := ⟨_, rfl⟩;have hi1 := hj.i1;have hi4 := hj.i4;have hNe := hN.eq;have hN4 : N <= 4 := by omega
 have hjN : j.ins.toNat = N := by omega
 have htn : A.tn 4 = 4 := by subst hA; rfl
 have hnn : A.nneg 4 := by subst hA; show (0 : Int) <= 4; decide
 have hrm : A.room (A.tn 4) 8 := by rw [htn]; exact Zj1 hA (by omega) (by decide)
 have hrep : A.rep (A.tn 4) (I 0) = Zr := by rw [htn]; subst hA; rfl
 have hZl : Zr.length = 4 := rfl;obtain ⟨Z, hZ⟩ : ∃ Z, Z = Zr := ⟨_, rfl⟩;rw [<- hZ] at hrep hZl;have eZ : A.eqN 4 (A.len Z) := Ze hA hZl;have eZ' : A.eqN (A.tn 4) (A.len Z) := Ze hA (hZl.trans htn.symm);have eZ2 : A.eqN (A.tn 4) (A.len (A.rep (A.tn 4) (I 0))) := by rw [hrep]; exact eZ'
 refine Z38 Z0 hA [] Try.func52 rfl rfl rfl rfl rfl fun S hS => ?_;cbv;refine ⟨hnn, hrm, ?_⟩;refine Zb hS ?_;refine Za (α := Int × Nat × List D) (fun q => { env := [(1, .cb (.agg [I ins, .sl 1 FL, .sl 5 ML]) 0), (3, .b 0 0), (4, I q.1)], H := [.box (.agg [.sl 1 Z, .o 1 1 q.2.1]), .els 1 q.2.2], nt := 186, dfs := [] })
  (fun q => N - q.2.1) (fun q => q.2.1 <= N /\ IsI q.1 q.2.1 /\ q.2.2 = List.replicate q.2.1 (.sl 1 Z)) (0, 0, []) ⟨Nat.zero_le _, ⟨rfl⟩, rfl⟩ ?_ ?_
 ·refine Z39 1 rfl hrep ?_;refine Zog 2 rfl (congrArg (fun n => Blk.box (.agg [.o 1 1 n, .v (.slice none 0 0)])) htn) ?_;refine Z1a hA [0, 1] ?_;cbv
  repeat (first | refine ⟨eZ, ?_⟩ | refine ⟨eZ', ?_⟩)
  refine Zfk 2 1 1 (.agg [.sl 1 Z, .o 3 1 0]) rfl rfl rfl ?_;exact Zf [2, 3] ⟨by decide, Z9, ⟨rfl, rfl, trivial⟩, ⟨rfl, rfl, rfl, trivial⟩, rfl, rfl⟩
 rintro ⟨i, k, HR⟩ ⟨u1, u2, u3⟩;dsimp only at u1 u2 u3;have hyes : A.cmp .lss i ins = true -> k < N := fun c => by have := xlt hA c; have := u2.eq; omega
 have hno : A.cmp .lss i ins = false -> k = N := fun c => by have := Z7x hA c; have := u2.eq; omega
 have hHl : HR.length = k := by rw [u3, List.length_replicate]
 have en : A.eqN k (A.len HR) := Ze hA hHl;refine Z2w Z0 hA hS [] ?_;cbv;refine bm (fun c => ?_) (fun c => ?_)
 ·have hk := hyes c;have hf1 := Zy hA u2 (by omega);have hu2 := Zz hA u2;have hms : N - (k + 1) < N - k := by omega
  have ekk : A.addN k 1 = k + 1 := Z2e hA _ _;have hroom : A.room (A.addN k 1) 24 := by rw [ekk]; exact Zj1 hA (by omega) (by decide)
  have hHR : A.app HR [.sl 1 (A.rep (A.tn 4) (I 0))] = List.replicate (k + 1) (.sl 1 Z) := by rw [Z33 hA, hrep, u3, List.replicate_succ']
  cbv;refine Z5j Z0 hA hS [3] [2, 0, 1, 3, 4, 5, 6] rfl rfl fun Dk hD => ?_;cbv;refine ⟨hnn, hrm, ?_⟩;cbv;refine Z13j Z0 hA hD [2] rfl rfl rfl rfl rfl rfl fun KG hC => ?_;cbv;refine ⟨eZ2, ?_⟩;rw [hC];refine Zo8 hA Z0 hD ?_ ?_
  ·cbv
   repeat' (first | exact trivial | exact rfl | refine ⟨?_, ?_⟩)
  cbv;refine ⟨en, Ze hA rfl, hroom, hf1, ?_⟩;refine Z8 (A.add i 1, k + 1, A.app HR [.sl 1 (A.rep (A.tn 4) (I 0))]) [0, 4] ⟨hk, hu2, hHR⟩ hms ?_;exact ⟨by decide, Z9, ⟨by rw [<- ekk]; rfl, rfl, trivial⟩, ⟨rfl, rfl, rfl, trivial⟩, rfl, rfl⟩
 have hkN := hno c;rw [hkN] at u3;have hW0 : ([.agg [.sl 1 Z, .sl 1 HR]] : List D) = (preW j 0).map wdD := by
  simp only [preW, List.map_cons, List.map_nil, wdD, u3, List.map_replicate, hjN];rw [hZ]; rfl
 have hMl : ML.length = nm := by rw [hM, List.length_map, hnm]
 have hnm10 : nm <= 10 := by have := hj.m10; omega
 have hW1 : A.eqN 1 (A.len [.agg [.sl 1 Z, .sl 1 HR]]) := Ze hA rfl;clear hyes hno u2 hrep hnn hrm htn eZ eZ' eZ2 hkN;cbv;refine Z1a hA [1] ?_;cbv;refine ⟨en, ?_⟩;refine Z7 ?_;cbv;clear en hHl u1;refine Zb hS ?_;refine Za (α := Int × Nat × List D × List D × Nat) (fun q => { env := [(1, .cb (.agg [I ins, .sl 1 FL, .sl 5 ML]) 0), (5, .sl 2 q.2.2.1), (6, .o 0 1 q.2.2.2.2), (7, I q.1)], H := [.els 1 q.2.2.2.1], nt := 186, dfs := [] })
  (fun q => nm - q.2.1) (fun q => q.2.1 <= nm /\ IsI q.1 q.2.1 /\ q.2.2.1 = (preW j q.2.1).map wdD /\ q.2.2.2.1 = (Z12k j q.2.1).map I /\ q.2.2.2.2 = (Z12k j q.2.1).length) (0, 0, [.agg [.sl 1 Z, .sl 1 HR]], [], 0) ⟨Nat.zero_le _, ⟨rfl⟩, hW0, rfl, rfl⟩ ?_ ?_
 ·refine Z1a hA [2] ?_;cbv
  repeat refine ⟨hW1, ?_⟩
  refine Z2a 6 1 rfl ?_;exact Zf [3] ⟨by decide, Z9, ⟨rfl, trivial⟩, ⟨rfl, rfl, rfl, rfl, trivial⟩, rfl, rfl⟩
 clear hW0 hW1 u3 hZ hZl;clear c HR Z i k;rintro ⟨i, k, WL, BL, nb⟩ ⟨u1, u2, u3, u4, u5⟩;dsimp only at u1 u2 u3 u4 u5;obtain ⟨W, hW⟩ : ∃ W, W = preW j k := ⟨_, rfl⟩;obtain ⟨bs, hbs⟩ : ∃ bs, bs = Z12k j k := ⟨_, rfl⟩;rw [<- hW] at u3;rw [<- hbs] at u4 u5;have hWl : WL.length = W.length := by rw [u3, List.length_map]
 have hBl : BL.length = nb := by rw [u4, List.length_map, u5]
 have hnb4 : nb <= 4 := by
  have h1 := Zcq j k;rw [<- Z135, <- hbs, <- u5] at h1;have := hj.b4; omega
 have hWm : W.length <= 1000000000 := by rw [hW]; exact Z12y hj h5 (by omega)
 have hWo : ∀ w ∈ W, WOk N w := fun w h => by rw [hW] at h; exact Z142 hj hjN (by omega) w h
 have hyes : A.cmp .lss i (A.oi (A.len ML)) = true -> k < nm := fun c => Z31 hA hMl u2 c;have hno : A.cmp .lss i (A.oi (A.len ML)) = false -> nm <= k := fun c => Z21 hA hMl u2 c;refine Z2w Z0 hA hS [] ?_;cbv;refine bm (fun c => ?_) (fun c => ?_)
 ·have hk := hyes c;obtain ⟨m, hmk⟩ : ∃ m, j.moves[k]? = some m := ⟨_, List.getElem?_eq_getElem (by omega)⟩;have hmm := List.mem_of_getElem? hmk;have hmo := hj.mv m hmm;have hW' := Z136 hmk;rw [<- hW, <- hbs] at hW';have hTm : (W.flatMap (Z12i j bs m)).length <= 1000000000 := by rw [<- hW']; exact Z12y hj h5 (by omega)
  have hbs' := Z13v hmk;rw [<- hbs] at hbs';have hMk : ML[k]? = some (mvD m) := by rw [hM, List.getElem?_map, hmk]; rfl
  have gM : ML[k]? = some (.agg [I m.kind, I m.bin, I m.inst, I m.lo, I m.hi]) := hMk;obtain ⟨kd, hkd⟩ : ∃ kd, kd = m.kind := ⟨_, rfl⟩;obtain ⟨bn, hbn⟩ : ∃ bn, bn = m.bin := ⟨_, rfl⟩;obtain ⟨it, hit⟩ : ∃ it, it = m.inst := ⟨_, rfl⟩;obtain ⟨lo, hlo⟩ : ∃ lo, lo = m.lo := ⟨_, rfl⟩;obtain ⟨hi, hhi⟩ : ∃ hi, hi = m.hi := ⟨_, rfl⟩;rw [<- hkd, <- hbn, <- hit, <- hlo, <- hhi] at gM;have gM := Z18 hA u2 gM;have iM := Z1b hA hMl u2 hk;have hf1 := Zy hA u2 (by omega);have hu2 := Zz hA u2;have hms : nm - (k + 1) < nm - k := by omega
  clear hMk;cbv;refine ⟨iM, ⟨_, gM, ?_⟩⟩;cbv;refine Zb hS ?_;refine Za (α := Int × Nat × List Wd × List D × Nat) (fun q => { env := [(1, .cb (.agg [I ins, .sl 1 FL, .sl 5 ML]) 0), (5, .sl 2 WL), (6, .o 0 1 nb), (7, I i), (8, .cb (.agg [I kd, I bn, I it, I lo, I hi]) 0), (9, .o 1 2 q.2.2.2.2), (10, I q.1)], H := [.els 1 BL, .els 2 q.2.2.2.1], nt := 186, dfs := [] })
   (fun q => W.length - q.2.1) (fun q => q.2.1 <= W.length /\ IsI q.1 q.2.1 /\ q.2.2.1 = (W.take q.2.1).flatMap (Z12i j bs m) /\ q.2.2.2.1 = q.2.2.1.map wdD /\ q.2.2.2.1.length = q.2.2.2.2) (0, 0, [], [], 0) ⟨Nat.zero_le _, ⟨rfl⟩, rfl, rfl, rfl⟩ ?_ ?_
  ·refine Z1a hA [1] ?_;cbv;refine Z2a 9 2 rfl ?_;exact Zf [0, 2] ⟨by decide, Z9, ⟨rfl, rfl, trivial⟩, ⟨rfl, rfl, rfl, rfl, rfl, rfl, rfl, trivial⟩, rfl, rfl⟩
  rintro ⟨kI, c1, NW, NL, n1⟩ ⟨v1, v2, v3, v4, v5⟩;dsimp only at v1 v2 v3 v4 v5;have hyw : A.cmp .lss kI (A.oi (A.len WL)) = true -> c1 < W.length := fun c => Z31 hA hWl v2 c;have hnw : A.cmp .lss kI (A.oi (A.len WL)) = false -> W.length <= c1 := fun c => Z21 hA hWl v2 c;refine Z2w Z0 hA hS [22] ?_;cbv;refine bm (fun c => ?_) (fun c => ?_)
  ·have hc1 := hyw c;obtain ⟨w, hw⟩ : ∃ w, W[c1]? = some w := ⟨_, List.getElem?_eq_getElem hc1⟩;have hwo := hWo w (List.mem_of_getElem? hw);obtain ⟨LL, hLL⟩ : ∃ LL, LL = w.lies.map I := ⟨_, rfl⟩;obtain ⟨HL, hHL⟩ : ∃ HL, HL = w.has.map rowI := ⟨_, rfl⟩;have hLl : LL.length = 4 := by rw [hLL, List.length_map, hwo.l.len]
   have gW := Z18 hA v2 (show WL[c1]? = some (.agg [.sl 1 LL, .sl 1 HL]) by rw [u3, List.getElem?_map, hw, hLL, hHL]; rfl);have iW := Z1b hA hWl v2 hc1;have hf2 := Zy hA v2 (by omega);have hv2 := Zz hA v2;have hms2 : W.length - (c1 + 1) < W.length - c1 := by omega
   have hnx : (W.take (c1 + 1)).flatMap (Z12i j bs m) = NW ++ Z12i j bs m w := by rw [Z12n hw, <- v3]
   have hpre : ∀ q, q <+: Z12i j bs m w -> (NW ++ q).length <= 1000000000 := fun q h => by
    have := (Z12q (f := Z12i j bs m) hw h).length_le;rw [<- v3] at this; omega
   cbv;refine Zb hS ?_;refine Za (α := Int × Nat × Int) (fun q => { env := [(1, .cb (.agg [I ins, .sl 1 FL, .sl 5 ML]) 0), (5, .sl 2 WL), (6, .o 0 1 nb), (7, I i), (8, .cb (.agg [I kd, I bn, I it, I lo, I hi]) 0), (9, .o 1 2 n1), (10, I kI), (11, I q.2.2), (12, I q.1)], H := [.els 1 BL, .els 2 NL], nt := 186, dfs := [] })
    (fun q => nb - q.2.1) (fun q => q.2.1 <= nb /\ IsI q.1 q.2.1 /\ q.2.2 = inL bn (bs.take q.2.1) w.lies) (0, 0, 0) ⟨Nat.zero_le _, ⟨rfl⟩, rfl⟩ ?_ ?_
   ·exact Zf [0, 1] ⟨by decide, Z9, ⟨rfl, rfl, trivial⟩, ⟨rfl, rfl, rfl, rfl, rfl, rfl, rfl, rfl, rfl, trivial⟩, rfl, rfl⟩
   rintro ⟨bI, b, sum⟩ ⟨w1, w2, w3⟩;dsimp only at w1 w2 w3;have hyb : A.cmp .lss bI (A.oi nb) = true -> b < nb := fun c => by have := xlt hA c; rw [xoi hA] at this; have := w2.eq; omega
   have hnbb : A.cmp .lss bI (A.oi nb) = false -> b = nb := fun c => by have := Z7x hA c; rw [xoi hA] at this; have := w2.eq; omega
   have hbd : ∀ b', 0 <= inL bn (bs.take b') w.lies /\ inL bn (bs.take b') w.lies <= 20 := fun b' => by
    have h1 := Zek (bin := bn) (bs := bs.take b') (l := w.lies) (fun i => ⟨hwo.l.lo i, hwo.l.hi i⟩);rw [List.length_take] at h1; omega
   refine Z2w Z0 hA hS [] ?_;cbv;refine bm (fun c => ?_) (fun c => ?_)
   ·have hb := hyb c;obtain ⟨bv, hbv⟩ : ∃ bv, bs[b]? = some bv := ⟨_, List.getElem?_eq_getElem (by omega)⟩;obtain ⟨lv, hlv⟩ : ∃ lv, lv = w.lies.getD b 0 := ⟨_, rfl⟩;have iB : A.inb bI nb := Z4o hA w2 hb;have gB := Z18 hA w2 (show BL[b]? = some (I bv) by rw [u4, List.getElem?_map, hbv]; rfl);have iL := Z1b hA hLl w2 (show b < 4 by omega);have gL := Z18 hA w2 (show LL[b]? = some (I lv) by rw [hLL, List.getElem?_map, Z12l (by rw [hwo.l.len]; omega), hlv]; rfl);have hfb := Zy hA w2 (by omega);have hw2 := Zz hA w2;have hms3 : nb - (b + 1) < nb - b := by omega
    have htk := Zct (bin := bn) (l := w.lies) hbv;rw [<- w3, <- hlv] at htk;have hsy : A.cmp .eql bv bn = true -> A.add sum lv = inL bn (bs.take (b + 1)) w.lies := fun h => by rw [htk, if_pos (xeq hA h), Z58 hA]
    have hsn : A.cmp .eql bv bn = false -> sum = inL bn (bs.take (b + 1)) w.lies := fun h => by rw [htk, if_neg (Z2o hA h), Int.add_zero]
    have hsf : A.cmp .eql bv bn = true -> A.fits .i64 (A.add sum lv) := fun h => Z14 hA (hsy h) (by have := hbd (b + 1); omega);clear htk;cbv;refine Z16 Z0 hA hS [0, 1, 2, 3, 4, 5, 6] rfl rfl fun Dk hD => ?_;cbv;refine ⟨iB, ⟨_, gB, ?_⟩⟩;cbv;refine bm (fun c2 => ?_) (fun c2 => ?_)
    ·have h1 := hsy c2;have h2 := hsf c2;cbv;refine ⟨iW, ⟨_, gW, ?_⟩⟩;cbv;refine ⟨iL, ⟨_, gL, ?_⟩⟩;cbv;refine ⟨h2, hfb, ?_⟩;refine Z8 (A.add bI 1, b + 1, A.add sum lv) [0, 1] ⟨hb, hw2, h1⟩ hms3 ?_;exact ⟨by decide, Z9, ⟨rfl, rfl, trivial⟩, ⟨rfl, rfl, rfl, rfl, rfl, rfl, rfl, rfl, rfl, trivial⟩, rfl, rfl⟩
    ·have h1 := hsn c2;cbv;refine ⟨hfb, ?_⟩;refine Z8 (A.add bI 1, b + 1, sum) [0, 1] ⟨hb, hw2, h1⟩ hms3 ?_;exact ⟨by decide, Z9, ⟨rfl, rfl, trivial⟩, ⟨rfl, rfl, rfl, rfl, rfl, rfl, rfl, rfl, rfl, trivial⟩, rfl, rfl⟩
   have hsum : sum = inL bn bs w.lies := by rw [w3, hnbb c, u5, List.take_length]
   clear hbd hyb hnbb w1 w2;cbv;refine Z7 ?_;cbv;refine Z4j Z0 hA hS [0, 1, 2, 3] [4, 5, 6, 7, 8] rfl ?_;cbv;rcases (show kd = 1 ∨ kd = 2 ∨ kd = 3 by have := hmo.k1; have := hmo.k3; omega) with k1 | k2 | k3
   ·have c3 : A.cmp .eql kd 3 = false := by rw [k1]; subst hA; rfl
    have c3n : A.cmp .neq kd 3 = true := by rw [k1]; subst hA; rfl
    have c1e : A.cmp .eql kd 1 = true := by rw [k1]; subst hA; rfl
    have hst : Z12i j bs m w = (upR lo hi).flatMap (amtW j bs m w) := by rw [Z12z (by rw [<- hkd]; exact .inl k1), hlo, hhi]
    have hl0 : 0 <= lo := by rw [hlo]; exact hmo.l0
    have hh5 : hi <= 5 := by rw [hhi]; exact hmo.h5
    have hlh : lo <= hi := by rw [hlo, hhi]; exact hmo.lh
    have hul : (upR lo hi).length = (hi + 1 - lo).toNat := upR_len;refine Z26 hS (Zo7 78 (.v (.bool false)) rfl (WkD.eq (congrArg (fun b => D.v (.bool b)) c3)) (Z7 (Zii hS (Z3 Z0 hA hS ?_))));cbv;refine Zg hS (f := 68) (b := false) rfl rfl rfl rfl rfl rfl rfl rfl (fun h => Bool.noConfusion h) (fun _ => ?_);refine Z3 Z0 hA hS ?_;cbv;refine Zb hS ?_;refine Za (α := Int × Nat × List Wd × List D × Nat) (fun q => { env := [(1, .cb (.agg [I ins, .sl 1 FL, .sl 5 ML]) 0), (5, .sl 2 WL), (6, .o 0 1 nb), (7, I i), (8, .cb (.agg [I kd, I bn, I it, I lo, I hi]) 0), (9, .o 1 2 q.2.2.2.2), (10, I kI), (13, I q.1)], H := [.els 1 BL, .els 2 q.2.2.2.1], nt := 186, dfs := [] })
     (fun q => (upR lo hi).length - q.2.1) (fun q => q.2.1 <= (upR lo hi).length /\ q.1 = lo + q.2.1 /\ q.2.2.1 = NW ++ ((upR lo hi).take q.2.1).flatMap (amtW j bs m w) /\ q.2.2.2.1 = q.2.2.1.map wdD /\ q.2.2.2.1.length = q.2.2.2.2) (lo, 0, NW, NL, n1) ⟨Nat.zero_le _, by simp, by simp, v4, v5⟩ ?_ ?_
    ·exact Zf [0, 1] ⟨by decide, Z9, ⟨rfl, rfl, trivial⟩, ⟨rfl, rfl, rfl, rfl, rfl, rfl, rfl, rfl, trivial⟩, rfl, rfl⟩
    rintro ⟨nI, t, NW2, NL2, n2⟩ ⟨s1, s2, s3, s4, s5⟩;dsimp only at s1 s2 s3 s4 s5;have hyt : A.cmp .leq nI hi = true -> nI <= hi /\ t < (upR lo hi).length := fun c => by
     have h : nI <= hi := xleI hA c;exact ⟨h, by omega⟩
    have hnt : A.cmp .leq nI hi = false -> t = (upR lo hi).length := fun c => by
     have h := Z14q hA c;omega
    have hn2 : n2 = NW2.length := by rw [<- s5, s4, List.length_map]
    have hnN : IsI nI nI.toNat := ⟨by omega⟩;have hfn : nI <= hi -> A.fits .i64 (A.add nI 1) := fun h => Z14 hA (Z58 hA nI 1) (by omega);have hs2 : A.add nI 1 = lo + ((t + 1 : Nat) : Int) := by rw [Z58 hA, s2]; omega
    have hn05 : nI <= hi -> nI.toNat <= 5 := fun h => by omega
    refine Z2w Z0 hA hS [30] ?_;cbv;refine bmT c3n ?_;cbv;refine bm (fun c => ?_) (fun c => ?_)
    ·obtain ⟨hnh, htl⟩ := hyt c;have hut : (upR lo hi)[t]? = some nI := by rw [s2]; exact upR_get (by omega)
     have hnx3 : NW2 ++ amtW j bs m w nI = NW ++ ((upR lo hi).take (t + 1)).flatMap (amtW j bs m w) := by rw [Z12n hut, s3, List.append_assoc]
     have hpreN : ∀ q, q <+: amtW j bs m w nI -> (NW2 ++ q).length <= 1000000000 := fun q h => by
      rw [s3, List.append_assoc];exact hpre _ (by rw [hst]; exact Z12q hut h)
     have hfn := hfn hnh;have hms3 : (upR lo hi).length - (t + 1) < (upR lo hi).length - t := by omega
     have en2 : A.eqN n2 (A.len NL2) := Ze hA s5;have hnb3 : nb < 4 := by
      have h1 := Zv9 hmk (by rw [<- hkd]; exact k1);rw [<- Z135, <- hbs, <- u5] at h1;have := hj.b4; omega
     have nbI : IsI (A.oi nb) nb := ⟨xoi hA nb⟩;have iX : A.inb (A.oi nb) 4 := Z4o hA nbI hnb3;have gX := Z18 hA nbI (show LL[nb]? = some (I (w.lies.getD nb 0)) by rw [hLL, List.getElem?_map, Z12l (by rw [hwo.l.len]; exact hnb3)]; rfl);obtain ⟨lnb, hlnb⟩ : ∃ lnb, lnb = w.lies.getD nb 0 := ⟨_, rfl⟩;rw [<- hlnb] at gX;obtain ⟨XL, hXL⟩ : ∃ XL, XL = (w.lies.set nb nI).map I := ⟨_, rfl⟩;have hLX : A.set LL (A.tn (A.oi nb)) (I nI) = XL := by rw [Z7n hA nbI rfl, hXL, hLL, List.map_set]
     have eX : A.eqN 4 (A.len XL) := Ze hA (by rw [hXL, List.length_map, List.length_set, hwo.l.len]);have hamt : amtW j bs m w nI = [⟨w.lies.set nb nI, w.has⟩] := by unfold amtW; rw [if_pos (by rw [<- hkd]; exact k1), u5]
     have hxr : A.app NL2 [.agg [.sl 1 XL, .sl 1 HL]] = (NW2 ++ amtW j bs m w nI).map wdD := by rw [hamt, Z33 hA, s4, List.map_append, hXL, hHL]; rfl
     have hN1 : (NW2 ++ amtW j bs m w nI).length <= 1000000000 := hpreN _ List.prefix_rfl;have hrm1 : A.room (A.addN n2 1) 48 := Z13x hA (by rw [Z2e hA, hn2]; rw [hamt] at hN1; simpa using hN1);have hxl : (A.app NL2 [.agg [.sl 1 XL, .sl 1 HL]]).length = A.addN n2 1 := by rw [Z2e hA, Z33 hA, List.length_append, s5]; rfl
     rw [hnx3] at hxr;clear hyt hnt;cbv;refine bmT c1e ?_;cbv;refine Z16 Z0 hA hS [0, 1, 2, 3, 4, 6, 7, 8, 9, 10, 12, 5, 11, 13] rfl rfl fun Dk hD => ?_;cbv;refine ⟨iW, ⟨_, gW, ?_⟩⟩;cbv;refine ⟨iW, ⟨_, gW, ?_⟩⟩;cbv;refine Zq hA hD [.sl 1 LL] [] [] rfl rfl rfl rfl rfl rfl rfl rfl rfl rfl rfl (by decide) trivial (Z13h LL 4 hLl (by decide) _ ⟨by cbv; repeat' (first | exact trivial | exact Need.mk ⟨_, gW, rfl⟩ | refine ⟨?_, ?_⟩), Zx Z0 hA hD ?_⟩);cbv;refine ⟨iX, ⟨_, gX, ?_⟩⟩;cbv;refine Z3h hS (Z39 3 rfl hLX ?_);refine Z60 (a := { env := [(1, .cb (.agg [I ins, .sl 1 FL, .sl 5 ML]) 0), (5, .sl 2 WL), (6, .o 0 1 nb), (7, I i), (8, .cb (.agg [I kd, I bn, I it, I lo, I hi]) 0), (9, .o 1 2 n2), (10, I kI), (13, I nI), (14, .b 2 0)], H := [.els 1 BL, .els 2 NL2, .box (.agg [.o 3 1 4, .sl 1 HL]), .els 1 XL], nt := 186, dfs := [] }) [0, 1, 2, 3] ⟨by decide, Z9, ⟨rfl, rfl, rfl, rfl, trivial⟩, ⟨rfl, rfl, rfl, rfl, rfl, rfl, rfl, rfl, rfl, trivial⟩, rfl, rfl⟩ ?_;refine Z1a hA [3] ?_;cbv
     repeat refine ⟨eX, ?_⟩
     refine Z1a hA [2] ?_;cbv;refine Z7 (Zb hS (Z2w Z0 hA hS [] ?_));cbv;refine ⟨en2, Ze hA rfl, hrm1, hfn, ?_⟩;refine Z8 (A.add nI 1, t + 1, NW ++ ((upR lo hi).take (t + 1)).flatMap (amtW j bs m w), A.app NL2 [.agg [.sl 1 XL, .sl 1 HL]], A.addN n2 1) [0, 5] ⟨htl, hs2, rfl, hxr, hxl⟩ hms3 ?_;exact ⟨by decide, Z9, ⟨rfl, rfl, trivial⟩, ⟨rfl, rfl, rfl, rfl, rfl, rfl, rfl, rfl, trivial⟩, rfl, rfl⟩
    have htT := hnt c;rw [htT, List.take_length, <- hst, <- hnx] at s3;cbv;refine Z7 ?_;cbv;refine ⟨hf2, ?_⟩;refine Z8 (A.add kI 1, c1 + 1, NW2, NL2, n2) [0, 1] ⟨hc1, hv2, s3, s4, s5⟩ hms2 ?_;exact ⟨by decide, Z9, ⟨rfl, rfl, trivial⟩, ⟨rfl, rfl, rfl, rfl, rfl, rfl, rfl, trivial⟩, rfl, rfl⟩
   ·have c3 : A.cmp .eql kd 3 = false := by rw [k2]; subst hA; rfl
    have c3n : A.cmp .neq kd 3 = true := by rw [k2]; subst hA; rfl
    have c1e : A.cmp .eql kd 1 = false := by rw [k2]; subst hA; rfl
    have hst : Z12i j bs m w = (upR lo hi).flatMap (amtW j bs m w) := by rw [Z12z (by rw [<- hkd]; exact .inr k2), hlo, hhi]
    have hl0 : 0 <= lo := by rw [hlo]; exact hmo.l0
    have hh5 : hi <= 5 := by rw [hhi]; exact hmo.h5
    have hlh : lo <= hi := by rw [hlo, hhi]; exact hmo.lh
    have hul : (upR lo hi).length = (hi + 1 - lo).toNat := upR_len;refine Z26 hS (Zo7 78 (.v (.bool false)) rfl (WkD.eq (congrArg (fun b => D.v (.bool b)) c3)) (Z7 (Zii hS (Z3 Z0 hA hS ?_))));cbv;refine Zg hS (f := 68) (b := false) rfl rfl rfl rfl rfl rfl rfl rfl (fun h => Bool.noConfusion h) (fun _ => ?_);refine Z3 Z0 hA hS ?_;cbv;refine Zb hS ?_;refine Za (α := Int × Nat × List Wd × List D × Nat) (fun q => { env := [(1, .cb (.agg [I ins, .sl 1 FL, .sl 5 ML]) 0), (5, .sl 2 WL), (6, .o 0 1 nb), (7, I i), (8, .cb (.agg [I kd, I bn, I it, I lo, I hi]) 0), (9, .o 1 2 q.2.2.2.2), (10, I kI), (13, I q.1)], H := [.els 1 BL, .els 2 q.2.2.2.1], nt := 186, dfs := [] })
     (fun q => (upR lo hi).length - q.2.1) (fun q => q.2.1 <= (upR lo hi).length /\ q.1 = lo + q.2.1 /\ q.2.2.1 = NW ++ ((upR lo hi).take q.2.1).flatMap (amtW j bs m w) /\ q.2.2.2.1 = q.2.2.1.map wdD /\ q.2.2.2.1.length = q.2.2.2.2) (lo, 0, NW, NL, n1) ⟨Nat.zero_le _, by simp, by simp, v4, v5⟩ ?_ ?_
    ·exact Zf [0, 1] ⟨by decide, Z9, ⟨rfl, rfl, trivial⟩, ⟨rfl, rfl, rfl, rfl, rfl, rfl, rfl, rfl, trivial⟩, rfl, rfl⟩
    rintro ⟨nI, t, NW2, NL2, n2⟩ ⟨s1, s2, s3, s4, s5⟩;dsimp only at s1 s2 s3 s4 s5;have hyt : A.cmp .leq nI hi = true -> nI <= hi /\ t < (upR lo hi).length := fun c => by
     have h : nI <= hi := xleI hA c;exact ⟨h, by omega⟩
    have hnt : A.cmp .leq nI hi = false -> t = (upR lo hi).length := fun c => by
     have h := Z14q hA c;omega
    have hn2 : n2 = NW2.length := by rw [<- s5, s4, List.length_map]
    have hnN : IsI nI nI.toNat := ⟨by omega⟩;have hfn : nI <= hi -> A.fits .i64 (A.add nI 1) := fun h => Z14 hA (Z58 hA nI 1) (by omega);have hs2 : A.add nI 1 = lo + ((t + 1 : Nat) : Int) := by rw [Z58 hA, s2]; omega
    have hn05 : nI <= hi -> nI.toNat <= 5 := fun h => by omega
    refine Z2w Z0 hA hS [30] ?_;cbv;refine bmT c3n ?_;cbv;refine bm (fun c => ?_) (fun c => ?_)
    ·obtain ⟨hnh, htl⟩ := hyt c;have hut : (upR lo hi)[t]? = some nI := by rw [s2]; exact upR_get (by omega)
     have hnx3 : NW2 ++ amtW j bs m w nI = NW ++ ((upR lo hi).take (t + 1)).flatMap (amtW j bs m w) := by rw [Z12n hut, s3, List.append_assoc]
     have hpreN : ∀ q, q <+: amtW j bs m w nI -> (NW2 ++ q).length <= 1000000000 := fun q h => by
      rw [s3, List.append_assoc];exact hpre _ (by rw [hst]; exact Z12q hut h)
     have hfn := hfn hnh;have hms3 : (upR lo hi).length - (t + 1) < (upR lo hi).length - t := by omega
     have en2 : A.eqN n2 (A.len NL2) := Ze hA s5;have hn5 := hn05 hnh;obtain ⟨F, hFd⟩ : ∃ F : List Int -> List Wd, F = fun of => (List.range j.ins.toNat).flatMap (whoF j m w of) := ⟨_, rfl⟩;obtain ⟨P, hP⟩ : ∃ P, P = Z12j (j.first.getD bn.toNat false) bs w.lies bn nI.toNat := ⟨_, rfl⟩;have hamt : amtW j bs m w nI = P.flatMap F := by unfold amtW; rw [if_neg (by rw [<- hkd]; omega), <- hbn, hP, hFd]
     have hb4 : bs.length <= 4 := by omega
     have hpk := fun Q h => Z14r ins FL ML j.first hF bs hb4 nb u5 BL u4 w.lies hwo.l LL hLL bn (by rw [hbn]; exact hmo.b0) (by rw [hbn]; exact hmo.b1) nI nI.toNat hnN hn5 Q h;rw [<- hP] at hpk;have hPw : ∀ of ∈ P, of.length = 4 /\ ∀ b, 0 <= of.getD b 0 /\ of.getD b 0 <= 1000 := fun of h => by
      have hway := (Z12p hb4 hwo.l.lo nI.toNat).1 (by rw [<- hP]; exact h);exact ⟨hway.len, fun b => by have h1 := hway.tk.nn b; have h2 := hway.tk.le b; have h3 := hwo.l.hi b; omega⟩
     have hPn : P.length <= 1024 := by
      rw [hP];refine Nat.le_trans (Z12s nI.toNat) (Nat.le_trans (Nat.pow_le_pow_left hb4 nI.toNat) ?_);exact Nat.le_trans (Nat.pow_le_pow_right (by decide) hn5) (by decide)
     rw [hamt] at hnx3 hpreN;clear hyt hnt;cbv;refine bmF c1e ?_;cbv;refine Z16 Z0 hA hS [0, 1, 2, 3, 4, 5, 6, 7, 8, 9, 10, 11] rfl rfl fun Dk hD => ?_;cbv;refine ⟨iW, ⟨_, gW, ?_⟩⟩;cbv;refine Zq hA hD [.agg [I ins, .sl 1 FL, .sl 5 ML], .o 0 1 nb, .sl 1 LL, I bn, I nI] [0] [.els 1 BL] rfl rfl rfl rfl rfl rfl rfl rfl rfl rfl rfl (by decide) ⟨rfl, trivial⟩ (hpk _ fun PL hPL => ⟨by cbv; repeat' (first | exact trivial | exact Need.mk ⟨_, gW, rfl⟩ | refine ⟨?_, ?_⟩), Zx Z0 hA hD ?_⟩);have hPl : PL.length = P.length := by rw [hPL, List.length_map]
     cbv;refine Zb hS ?_;refine Za (α := Int × Nat × List Wd × List D × Nat) (fun q => { env := [(1, .cb (.agg [I ins, .sl 1 FL, .sl 5 ML]) 0), (5, .sl 2 WL), (6, .o 0 1 nb), (7, I i), (8, .cb (.agg [I kd, I bn, I it, I lo, I hi]) 0), (9, .o 1 2 q.2.2.2.2), (10, I kI), (13, I nI), (15, .sl 1 PL), (16, I q.1)], H := [.els 1 BL, .els 2 q.2.2.2.1], nt := 186, dfs := [] })
      (fun q => P.length - q.2.1) (fun q => q.2.1 <= P.length /\ IsI q.1 q.2.1 /\ q.2.2.1 = NW2 ++ (P.take q.2.1).flatMap F /\ q.2.2.2.1 = q.2.2.1.map wdD /\ q.2.2.2.1.length = q.2.2.2.2) (0, 0, NW2, NL2, n2) ⟨Nat.zero_le _, ⟨rfl⟩, by simp, s4, s5⟩ ?_ ?_
     ·exact Zf [0, 1] ⟨by decide, Z9, ⟨rfl, rfl, trivial⟩, ⟨rfl, rfl, rfl, rfl, rfl, rfl, rfl, rfl, rfl, rfl, trivial⟩, rfl, rfl⟩
     rintro ⟨yI, y, NW3, NL3, n3⟩ ⟨r1, r2, r3, r4, r5⟩;dsimp only at r1 r2 r3 r4 r5;have hyy : A.cmp .lss yI (A.oi (A.len PL)) = true -> y < P.length := fun c => Z31 hA hPl r2 c;have hny : A.cmp .lss yI (A.oi (A.len PL)) = false -> P.length <= y := fun c => Z21 hA hPl r2 c;have hn3 : n3 = NW3.length := by rw [<- r5, r4, List.length_map]
     refine Z2w Z0 hA hS [] ?_;cbv;refine bm (fun c => ?_) (fun c => ?_)
     ·have hy := hyy c;obtain ⟨of, hof⟩ : ∃ of, P[y]? = some of := ⟨_, List.getElem?_eq_getElem hy⟩;obtain ⟨hof4, hofb⟩ := hPw of (List.mem_of_getElem? hof);obtain ⟨OL, hOL⟩ : ∃ OL, OL = of.map I := ⟨_, rfl⟩;have gP := Z18 hA r2 (show PL[y]? = some (.sl 1 OL) by rw [hPL, List.getElem?_map, hof, hOL]; rfl);have iP := Z1b hA hPl r2 hy;have hfy := Zy hA r2 (by omega);have hr2 := Zz hA r2;have hms4 : P.length - (y + 1) < P.length - y := by omega
      have hnx4 : NW3 ++ F of = NW2 ++ (P.take (y + 1)).flatMap F := by rw [Z12n hof, r3, List.append_assoc]
      have hFo : F of = (List.range N).flatMap (whoF j m w of) := by rw [hFd, hjN]
      have hpreY : ∀ q, q <+: F of -> (NW3 ++ q).length <= 1000000000 := fun q h => by
       rw [r3, List.append_assoc];exact hpreN _ (Z12q hof h)
      rw [hFo] at hnx4 hpreY;clear hyy hny;cbv;refine Zb hS ?_;refine Za (α := Int × Nat × List Wd × List D × Nat) (fun q => { env := [(1, .cb (.agg [I ins, .sl 1 FL, .sl 5 ML]) 0), (5, .sl 2 WL), (6, .o 0 1 nb), (7, I i), (8, .cb (.agg [I kd, I bn, I it, I lo, I hi]) 0), (9, .o 1 2 q.2.2.2.2), (10, I kI), (13, I nI), (15, .sl 1 PL), (16, I yI), (17, I q.1)], H := [.els 1 BL, .els 2 q.2.2.2.1], nt := 186, dfs := [] })
       (fun q => N - q.2.1) (fun q => q.2.1 <= N /\ IsI q.1 q.2.1 /\ q.2.2.1 = NW3 ++ ((List.range N).take q.2.1).flatMap (whoF j m w of) /\ q.2.2.2.1 = q.2.2.1.map wdD /\ q.2.2.2.1.length = q.2.2.2.2) (0, 0, NW3, NL3, n3) ⟨Nat.zero_le _, ⟨rfl⟩, by simp, r4, r5⟩ ?_ ?_
      ·exact Zf [0, 1] ⟨by decide, Z9, ⟨rfl, rfl, trivial⟩, ⟨rfl, rfl, rfl, rfl, rfl, rfl, rfl, rfl, rfl, rfl, rfl, trivial⟩, rfl, rfl⟩
      rintro ⟨zI, z, NW4, NL4, n4⟩ ⟨q1, q2, q3, q4, q5⟩;dsimp only at q1 q2 q3 q4 q5;have hyz : A.cmp .lss zI ins = true -> z < N := fun c => by have := xlt hA c; have := q2.eq; omega
      have hnz : A.cmp .lss zI ins = false -> z = N := fun c => by have := Z7x hA c; have := q2.eq; omega
      have hn4 : n4 = NW4.length := by rw [<- q5, q4, List.length_map]
      have hwho : z < N -> (it < 0 ∨ it = zI ↔ (m.inst < 0 ∨ m.inst = (z : Int))) := fun _ => by rw [<- hit, q2.eq]
      refine Z2w Z0 hA hS [] ?_;cbv;refine bm (fun c => ?_) (fun c => ?_)
      ·have hz := hyz c;have hwho := hwho hz;have hzr : (List.range N)[z]? = some z := List.getElem?_range hz;have hfz := Zy hA q2 (by omega);have hq2 := Zz hA q2;have hms5 : N - (z + 1) < N - z := by omega
       have en4 : A.eqN n4 (A.len NL4) := Ze hA q5
       by_cases hw : m.inst < 0 ∨ m.inst = (z : Int)
       ·have hwf : whoF j m w of z = [Z12m w of z] := if_pos hw;have hnx5 : NW4 ++ [Z12m w of z] = NW3 ++ ((List.range N).take (z + 1)).flatMap (whoF j m w of) := by rw [Z12n hzr, q3, List.append_assoc, hwf]
        have hN1 : (NW4 ++ [Z12m w of z]).length <= 1000000000 := by
         rw [hnx5];have h := (Z12q (f := whoF j m w of) hzr (List.prefix_rfl));rw [<- Z12n hzr] at h;exact hpreY _ h
        have hgr := fun Q h => Z14s N hN4 w hwo of hof4 hofb z hz zI q2 HL OL hHL hOL Q h;have hrl : rowI w.lies = .sl 1 LL := by rw [hLL]; rfl
        rw [hrl] at hgr;have hrm1 : A.room (A.addN n4 1) 48 := Z13x hA (by rw [Z2e hA, hn4]; simpa using hN1);obtain ⟨QL, hQL⟩ : ∃ QL, rowI (Z2c w.lies of) = .sl 1 QL := ⟨_, rfl⟩;have hxr : ∀ GL, GL = (Z12m w of z).has.map rowI -> A.app NL4 [.agg [.sl 1 QL, .sl 1 GL]] = (NW3 ++ ((List.range N).take (z + 1)).flatMap (whoF j m w of)).map wdD := fun GL h => by
         rw [<- hnx5, Z33 hA, q4, List.map_append, h, <- hQL]; rfl
        have hxl : ∀ GL, (A.app NL4 [.agg [.sl 1 QL, .sl 1 GL]]).length = A.addN n4 1 := fun GL => by rw [Z2e hA, Z33 hA, List.length_append, q5]; rfl
        rw [hQL] at hgr;have hc : A.cmp .lss it 0 = true ∨ A.cmp .lss it 0 = false /\ A.cmp .eql it zI = true := by
         have h := hwho.2 hw;subst hA
         by_cases h0 : it < 0
         ·exact .inl (by simp [ar, Z25]; exact h0)
         ·exact .inr ⟨by simp [ar, Z25]; omega, by simp [ar, Z25]; exact h.resolve_left h0⟩
        rcases hc with h1 | ⟨h1, h2⟩
        ·cbv;refine bmT h1 ?_;cbv;refine Z16 Z0 hA hS [0, 1, 2, 3, 4, 5, 6, 7, 8, 9, 10, 11, 12, 13] rfl rfl fun Dk2 hD2 => ?_;cbv;refine ⟨iW, ⟨_, gW, ?_⟩⟩;cbv;refine ⟨iP, ⟨_, gP, ?_⟩⟩;cbv;refine Zq hA hD2 [.agg [.sl 1 LL, .sl 1 HL], .sl 1 OL, I zI] [] [] rfl rfl rfl rfl rfl rfl rfl rfl rfl rfl rfl (by decide) trivial (hgr _ fun GL hGL => ⟨by cbv; repeat' (first | exact trivial | exact Need.mk ⟨_, gW, rfl⟩ | exact Need.mk ⟨_, gP, rfl⟩ | refine ⟨?_, ?_⟩), Zx Z0 hA hD2 ?_⟩);cbv;refine ⟨en4, Ze hA rfl, hrm1, hfz, ?_⟩;refine Z8 (A.add zI 1, z + 1, NW3 ++ ((List.range N).take (z + 1)).flatMap (whoF j m w of), A.app NL4 [.agg [.sl 1 QL, .sl 1 GL]], A.addN n4 1) [0, 3] ⟨hz, hq2, rfl, hxr GL hGL, hxl GL⟩ hms5 ?_;exact ⟨by decide, Z9, ⟨rfl, rfl, trivial⟩, ⟨rfl, rfl, rfl, rfl, rfl, rfl, rfl, rfl, rfl, rfl, rfl, trivial⟩, rfl, rfl⟩
        ·cbv;refine bmF h1 ?_;cbv;refine bmT h2 ?_;cbv;refine Z16 Z0 hA hS [0, 1, 2, 3, 4, 5, 6, 7, 8, 9, 10, 11, 12, 13] rfl rfl fun Dk2 hD2 => ?_;cbv;refine ⟨iW, ⟨_, gW, ?_⟩⟩;cbv;refine ⟨iP, ⟨_, gP, ?_⟩⟩;cbv;refine Zq hA hD2 [.agg [.sl 1 LL, .sl 1 HL], .sl 1 OL, I zI] [] [] rfl rfl rfl rfl rfl rfl rfl rfl rfl rfl rfl (by decide) trivial (hgr _ fun GL hGL => ⟨by cbv; repeat' (first | exact trivial | exact Need.mk ⟨_, gW, rfl⟩ | exact Need.mk ⟨_, gP, rfl⟩ | refine ⟨?_, ?_⟩), Zx Z0 hA hD2 ?_⟩);cbv;refine ⟨en4, Ze hA rfl, hrm1, hfz, ?_⟩;refine Z8 (A.add zI 1, z + 1, NW3 ++ ((List.range N).take (z + 1)).flatMap (whoF j m w of), A.app NL4 [.agg [.sl 1 QL, .sl 1 GL]], A.addN n4 1) [0, 3] ⟨hz, hq2, rfl, hxr GL hGL, hxl GL⟩ hms5 ?_;exact ⟨by decide, Z9, ⟨rfl, rfl, trivial⟩, ⟨rfl, rfl, rfl, rfl, rfl, rfl, rfl, rfl, rfl, rfl, rfl, trivial⟩, rfl, rfl⟩
       ·have hwf : whoF j m w of z = [] := if_neg hw;have hnx5 : NW4 = NW3 ++ ((List.range N).take (z + 1)).flatMap (whoF j m w of) := by rw [Z12n hzr, hwf, List.append_nil]; exact q3
        have h1 : A.cmp .lss it 0 = false := by
         have h : ¬ it < 0 := fun h => hw (hwho.1 (.inl h));subst hA; simp [ar, Z25]; omega
        have h2 : A.cmp .eql it zI = false := by
         have h : ¬ it = zI := fun h => hw (hwho.1 (.inr h));subst hA; simp [ar, Z25]; exact h
        cbv;refine bmF h1 ?_;cbv;refine bmF h2 ?_;cbv;refine ⟨hfz, ?_⟩;refine Z8 (A.add zI 1, z + 1, NW4, NL4, n4) [0, 1] ⟨hz, hq2, hnx5, q4, q5⟩ hms5 ?_;exact ⟨by decide, Z9, ⟨rfl, rfl, trivial⟩, ⟨rfl, rfl, rfl, rfl, rfl, rfl, rfl, rfl, rfl, rfl, rfl, trivial⟩, rfl, rfl⟩
      have hzN := hnz c;have hN4e : NW4 = NW2 ++ (P.take (y + 1)).flatMap F := by rw [<- hnx4, q3, hzN, List.take_of_length_le (by simp)]
      cbv;refine Z7 ?_;cbv;refine ⟨hfy, ?_⟩;refine Z8 (A.add yI 1, y + 1, NW4, NL4, n4) [0, 1] ⟨hy, hr2, hN4e, q4, q5⟩ hms4 ?_;exact ⟨by decide, Z9, ⟨rfl, rfl, trivial⟩, ⟨rfl, rfl, rfl, rfl, rfl, rfl, rfl, rfl, rfl, rfl, trivial⟩, rfl, rfl⟩
     have hN3e : NW3 = NW ++ ((upR lo hi).take (t + 1)).flatMap (amtW j bs m w) := by rw [<- hnx3, r3, List.take_of_length_le (hny c)]
     cbv;refine Z7 ?_;cbv;refine ⟨hfn, ?_⟩;refine Z8 (A.add nI 1, t + 1, NW3, NL3, n3) [0, 1] ⟨htl, hs2, hN3e, r4, r5⟩ hms3 ?_;exact ⟨by decide, Z9, ⟨rfl, rfl, trivial⟩, ⟨rfl, rfl, rfl, rfl, rfl, rfl, rfl, rfl, trivial⟩, rfl, rfl⟩
    have htT := hnt c;rw [htT, List.take_length, <- hst, <- hnx] at s3;cbv;refine Z7 ?_;cbv;refine ⟨hf2, ?_⟩;refine Z8 (A.add kI 1, c1 + 1, NW2, NL2, n2) [0, 1] ⟨hc1, hv2, s3, s4, s5⟩ hms2 ?_;exact ⟨by decide, Z9, ⟨rfl, rfl, trivial⟩, ⟨rfl, rfl, rfl, rfl, rfl, rfl, rfl, trivial⟩, rfl, rfl⟩
   ·have c3 : A.cmp .eql kd 3 = true := by rw [k3]; subst hA; rfl
    have c3n : A.cmp .neq kd 3 = false := by rw [k3]; subst hA; rfl
    have hst : Z12i j bs m w = if lo <= sum /\ sum <= hi then [w] else [] := by
     unfold Z12i;rw [<- hkd, if_neg (by omega), if_neg (by omega), <- hlo, <- hhi, <- hbn, <- hsum]
    refine Z26 hS (Zo7 78 (.v (.bool true)) rfl (WkD.eq (congrArg (fun b => D.v (.bool b)) c3)) (Z7 (Zii hS (Z3 Z0 hA hS ?_))));cbv;obtain ⟨bb, hbb⟩ : ∃ bb, bb = decide (lo <= sum /\ sum <= hi) := ⟨_, rfl⟩;have hin := fun Q h => kInB lo hi sum bb hbb Q h
    by_cases hyn : lo <= sum /\ sum <= hi
    ·rw [decide_eq_true hyn] at hbb;rw [hbb] at hin;rw [if_pos hyn] at hst;have hxr : A.app NL [.agg [.sl 1 LL, .sl 1 HL]] = (NW ++ [w]).map wdD := by rw [Z33 hA, v4, List.map_append, hLL, hHL]; rfl
     have hN1 : (NW ++ [w]).length <= 1000000000 := hpre [w] (by rw [hst]; exact List.prefix_rfl);have hn1 : n1 = NW.length := by rw [<- v5, v4, List.length_map]
     have hrm1 : A.room (A.addN n1 1) 48 := Z13x hA (by rw [Z2e hA, hn1]; simpa using hN1);have en1 : A.eqN n1 (A.len NL) := Ze hA v5;have hxl : (A.app NL [.agg [.sl 1 LL, .sl 1 HL]]).length = A.addN n1 1 := by rw [Z2e hA, hxr, List.length_map, List.length_append, hn1]; rfl
     have hnx2 : NW ++ [w] = (W.take (c1 + 1)).flatMap (Z12i j bs m) := by rw [hnx, hst]
     refine Zg hS (b := true) rfl rfl rfl rfl rfl rfl rfl rfl (fun _ => ⟨_, _, [.agg [I lo, I hi], I sum], [], [], rfl, rfl, rfl, by decide, trivial, hin _ ?_⟩) (fun h => absurd rfl h);refine Z3 Z0 hA hS ?_;cbv;refine ⟨iW, ⟨_, gW, ?_⟩⟩;cbv;refine ⟨en1, Ze hA rfl, hrm1, ?_⟩;cbv;refine Zb hS ?_;refine Za (α := Nat) (fun _ => { env := [(1, .cb (.agg [I ins, .sl 1 FL, .sl 5 ML]) 0), (5, .sl 2 WL), (6, .o 0 1 nb), (7, I i), (8, .cb (.agg [I kd, I bn, I it, I lo, I hi]) 0), (9, .o 1 2 (A.addN n1 1)), (10, I kI), (13, I lo)], H := [.els 1 BL, .els 2 (A.app NL [.agg [.sl 1 LL, .sl 1 HL]])], nt := 186, dfs := [] })
      (fun _ => 0) (fun _ => True) 0 trivial ?_ ?_
     ·exact Zf [0, 3] ⟨by decide, Z9, ⟨rfl, rfl, trivial⟩, ⟨rfl, rfl, rfl, rfl, rfl, rfl, rfl, rfl, trivial⟩, rfl, rfl⟩
     rintro z -;refine Z2w Z0 hA hS [] ?_;cbv;refine bmF c3n ?_;cbv;refine Z7 ?_;cbv;refine ⟨hf2, ?_⟩;refine Z8 (A.add kI 1, c1 + 1, NW ++ [w], A.app NL [.agg [.sl 1 LL, .sl 1 HL]], A.addN n1 1) [0, 1] ⟨hc1, hv2, hnx2, hxr, hxl⟩ hms2 ?_;exact ⟨by decide, Z9, ⟨rfl, rfl, trivial⟩, ⟨rfl, rfl, rfl, rfl, rfl, rfl, rfl, trivial⟩, rfl, rfl⟩
    ·rw [decide_eq_false hyn] at hbb;rw [hbb] at hin;rw [if_neg hyn] at hst;have hnx2 : NW = (W.take (c1 + 1)).flatMap (Z12i j bs m) := by rw [hnx, hst, List.append_nil]
     refine Zg hS (b := true) rfl rfl rfl rfl rfl rfl rfl rfl (fun _ => ⟨_, _, [.agg [I lo, I hi], I sum], [], [], rfl, rfl, rfl, by decide, trivial, hin _ ?_⟩) (fun h => absurd rfl h);refine Z3 Z0 hA hS ?_;cbv;refine Zb hS ?_;refine Za (α := Nat) (fun _ => { env := [(1, .cb (.agg [I ins, .sl 1 FL, .sl 5 ML]) 0), (5, .sl 2 WL), (6, .o 0 1 nb), (7, I i), (8, .cb (.agg [I kd, I bn, I it, I lo, I hi]) 0), (9, .o 1 2 n1), (10, I kI), (13, I lo)], H := [.els 1 BL, .els 2 NL], nt := 186, dfs := [] })
      (fun _ => 0) (fun _ => True) 0 trivial ?_ ?_
     ·exact Zf [0, 1] ⟨by decide, Z9, ⟨rfl, rfl, trivial⟩, ⟨rfl, rfl, rfl, rfl, rfl, rfl, rfl, rfl, trivial⟩, rfl, rfl⟩
     rintro z -;refine Z2w Z0 hA hS [] ?_;cbv;refine bmF c3n ?_;cbv;refine Z7 ?_;cbv;refine ⟨hf2, ?_⟩;refine Z8 (A.add kI 1, c1 + 1, NW, NL, n1) [0, 1] ⟨hc1, hv2, hnx2, v4, v5⟩ hms2 ?_;exact ⟨by decide, Z9, ⟨rfl, rfl, trivial⟩, ⟨rfl, rfl, rfl, rfl, rfl, rfl, rfl, trivial⟩, rfl, rfl⟩
  have hNe1 : NW = preW j (k + 1) := by rw [hW', v3, List.take_of_length_le (hnw c)]
  have hNL : NL = (preW j (k + 1)).map wdD := by rw [v4, hNe1]
  have en1 : A.eqN n1 (A.len NL) := Ze hA v5;have enb : A.eqN nb (A.len BL) := Ze hA hBl;have hrB : A.room (A.addN nb 1) 8 := Z27 hA (by omega) (by decide);have hab : A.addN nb 1 = nb + 1 := Z2e hA _ _
  by_cases k1 : kd = 1
  ·have c1e : A.cmp .eql kd 1 = true := by rw [k1]; subst hA; rfl
   rw [if_pos (by rw [<- hkd]; exact k1)] at hbs';have hBx : A.app BL [I bn] = (Z12k j (k + 1)).map I := by rw [Z33 hA, hbs', u4, List.map_append, hbn]; rfl
   have hbx : A.addN nb 1 = (Z12k j (k + 1)).length := by rw [hab, hbs', List.length_append, u5]; rfl
   cbv;refine Z1a hA [1] ?_;cbv
   repeat refine ⟨en1, ?_⟩
   refine Z7 ?_;cbv;refine bmT c1e ?_;cbv;refine ⟨enb, Ze hA rfl, hrB, hf1, ?_⟩;refine Z8 (A.add i 1, k + 1, NL, A.app BL [I bn], A.addN nb 1) [3] ⟨hk, hu2, hNL, hBx, hbx⟩ hms ?_;exact ⟨by decide, Z9, ⟨rfl, trivial⟩, ⟨rfl, rfl, rfl, rfl, trivial⟩, rfl, rfl⟩
  ·have c1e : A.cmp .eql kd 1 = false := by subst hA; simp [ar, Z25]; exact k1
   rw [if_neg (by rw [<- hkd]; exact k1)] at hbs';have hBx : BL = (Z12k j (k + 1)).map I := by rw [hbs']; exact u4
   have hbx : nb = (Z12k j (k + 1)).length := by rw [hbs']; exact u5
   cbv;refine Z1a hA [1] ?_;cbv
   repeat refine ⟨en1, ?_⟩
   refine Z7 ?_;cbv;refine bmF c1e ?_;cbv;refine ⟨hf1, ?_⟩;refine Z8 (A.add i 1, k + 1, NL, BL, nb) [0] ⟨hk, hu2, hNL, hBx, hbx⟩ hms ?_;exact ⟨by decide, Z9, ⟨rfl, trivial⟩, ⟨rfl, rfl, rfl, rfl, trivial⟩, rfl, rfl⟩
 have hkm : k = nm := by have := hno c; omega
 have hend := hq WL (by rw [u3, hW, hkm]);cbv;refine Z7 ?_;cbv;exact Z2 [] (by decide) Z9 (H' := []) (d' := .sl 2 WL) trivial rfl (Z1 hend)
end Go.Proofs.Ytecfpfhkicapeaa
