/- Part TxBD of the proofs about the benches of the accordion maker: see the last text of the claim for what is proved. -/
import Derived.Test.YthljpccegkmdnaaGreatDoorTxBC
import Derived.Test.YthljpccegkmdnaaGreatDoorTxAP
import Derived.Test.YthljpccegkmdnaaGreatDoorTxAQ
import Derived.Test.YthljpccegkmdnaaGreatDoorTxAV
import Derived.Test.YthljpccegkmdnaaGreatDoorTxBB
import Derived.Test.YthljpccegkmdnaaGreatDoorTxAW
set_option linter.unusedVariables false
set_option linter.unusedSimpArgs false
set_option linter.unnecessarySimpa false
set_option linter.constructorNameAsVariable false

namespace Go.Proofs.YthljpccegkmdnaaGreatDoor
open Go Go.Abs Go.Proofs Go.Batch
def tkD (t : Int × List Int) : D := .agg [I t.1, if t.2 = [] then .v (.slice none 0 0) else .sl 1 (t.2.map I)]
theorem Zox (t : Int) : tkD (t, []) = .agg [I t, .v (.slice none 0 0)] := by simp [tkD]
theorem Zt9 {t : Int} {of : List Int} (h : of.length = 4) : tkD (t, of) = .agg [I t, .sl 1 (of.map I)] := by
 unfold tkD;rw [if_neg];intro e
 replace e : of = [] := e
 rw [e] at h; simp at h
structure GenI (ins : Int) (first : List Bool) (moves : Int) (cnt : Int) (c : Nat) (ms : List Mv) (lies : List Int) (truth : List (Int × List Int)) (nb nm : Nat) (LL BL ML TL : List D) (wide : Int) : Prop where
 cI : IsI cnt c
 mc : ms.length + c <= 10
 mm : (ms.length : Int) + c <= max moves 0
 g : Gen ins first ms lies truth
 nb : nb = (Z6 ms).length
 nm : nm = ms.length
 L : LL = lies.map I
 B : BL = (Z6 ms).map I
 M : ML = ms.map mvD
 T : TL = truth.map tkD
 W : ∀ m ∈ ms, wide = 0 -> m.lo = m.hi
theorem Zj5 {ms : List Mv} {wide : Int} (h : ∀ m ∈ ms, wide = 0 -> m.lo = m.hi) (m : Mv) {n : Int} (e : wide = 0 -> m.lo = n /\ m.hi = n) : ∀ x ∈ ms ++ [m], wide = 0 -> x.lo = x.hi := fun x hx hw => by
 rcases List.mem_append.1 hx with hx | hx
 ·exact h x hx hw
 ·simp at hx; subst hx; have := e hw; omega
structure TakI (fifo : Bool) (bin : Int) (bins lies : List Int) (n0 : Int) (nI : Int) (r : Nat) (cur of : List Int) (LL OL : List D) : Prop where
 rI : IsI nI r
 tk : Took fifo bin bins 0 lies of
 cu : ∀ k, cur.getD k 0 = lies.getD k 0 - of.getD k 0
 lo : LOk cur
 ol : of.length = 4
 o5 : ∀ k, of.getD k 0 <= 5
 sm : Z32 of bins 0 + r = n0
 le : (r : Int) <= inL bin bins cur
 L : LL = cur.map I
 O : OL = of.map I
theorem Zhm {l : List Int} (h : l.length = 4) {own : Nat} (ho : own < 4) (x : Int) (k : Nat) : (l.set own x).getD k 0 = if k = own then x else l.getD k 0 := by
 rw [Z1r _ _ _ _ (by omega)]
 by_cases e : own = k
 ·rw [if_pos e, if_pos e.symm]
 ·rw [if_neg e, if_neg (fun h => e h.symm)]
theorem TakI.next {fifo : Bool} {bin : Int} {bins lies : List Int} {n0 nI : Int} {r : Nat} {cur of : List Int} {LL OL : List D} (h : TakI fifo bin bins lies n0 nI (r + 1) cur of LL OL) (hb : bins.length <= 4) (hl : LOk lies) {own : Nat} (h1 : bins[own]? = some bin) (h2 : 0 < cur.getD own 0)
  (h3 : fifo = true -> ∀ k, k < own -> bins[k]? = some bin -> cur.getD k 0 <= 0) {nI' : Int} (hn : IsI nI' r) {LL' OL' : List D} (hL : LL' = LL.set own (I (cur.getD own 0 - 1))) (hO : OL' = OL.set own (I (of.getD own 0 + 1))) :
  TakI fifo bin bins lies n0 nI' r (cur.set own (cur.getD own 0 - 1)) (of.set own (of.getD own 0 + 1)) LL' OL' := by
 have ho : own < bins.length := (List.getElem?_eq_some_iff.1 h1).1;have ho4 : own < 4 := by omega
 have ec := Zhm h.lo.len ho4 (cur.getD own 0 - 1);have eo := Zhm h.ol ho4 (of.getD own 0 + 1);refine ⟨hn, h.tk.unit h.cu h1 h2 h3 (fun k => ?_), fun k => ?_, h.lo.set ho4 (by omega) (by have := h.lo.hi own; omega), by simp [h.ol], fun k => ?_, ?_, ?_, by rw [hL, h.L]; simp, by rw [hO, h.O]; simp⟩
 ·rw [eo]
 ·rw [ec, eo];have := h.cu k
  by_cases e : k = own
  ·subst e; rw [if_pos rfl, if_pos rfl]; omega
  ·rw [if_neg e, if_neg e]; exact this
 ·rw [eo]
  split
  ·rename_i e
   have := h.cu own;have := hl.hi own;omega
  ·exact h.o5 k
 ·have := Zhl (of := of) (of' := of.set own (of.getD own 0 + 1)) (own := own) eo bins 0 (Nat.zero_le _) (by omega);have := h.sm;omega
 ·have := Zl6 (l := cur) (l' := cur.set own (cur.getD own 0 - 1)) h1 ec;have := h.le;omega
theorem Zqk {first : List Bool} {FL : List D} (hF : FL = first.map Zv) {bn : Nat} (h : bn < first.length) : ∃ b, first.getD bn false = b /\ first[bn]? = some b /\ FL[bn]? = some (.v (.bool b)) := by
 refine ⟨first[bn], ?_, List.getElem?_eq_getElem h, ?_⟩
 ·rw [List.getD_eq_getElem?_getD, List.getElem?_eq_getElem h]; rfl
 ·rw [hF, List.getElem?_map, List.getElem?_eq_getElem h]; rfl
theorem Zhn (ms : List Mv) (b lo hi : Int) : Z6 (ms ++ [⟨1, b, 0, lo, hi⟩]) = Z6 ms ++ [b] := by rw [Z2t]; rfl
theorem Zg5 (ms : List Mv) (b lo hi : Int) : Z6 (ms ++ [⟨3, b, 0, lo, hi⟩]) = Z6 ms := by rw [Z2t]; simp [Z6]
theorem Z8v (ms : List Mv) (b i lo hi : Int) : Z6 (ms ++ [⟨2, b, i, lo, hi⟩]) = Z6 ms := by rw [Z2t]; simp [Z6]
theorem Z8w {A : Ar} (hA : A = ar) : A.room 4 8 := by subst hA; exact ⟨by show 4 * 8 <= 140737488355328; omega, by show 4 <= 4611686018427387904; omega⟩
theorem Zx4 {A : Ar} (hA : A = ar) {l l' : List D} {m : Nat} (h : l.take m = l') : A.sub2 l 0 (A.oi m) = l' := by
 subst hA; subst h;show (l.take (Int.toNat (m : Int))).drop 0 = l.take m;simp
theorem Zta {A : Ar} (hA : A = ar) {l : List D} {m : Nat} (h : m <= l.length) : A.sub2OK l 0 (A.oi m) := by
 subst hA;show 0 <= (0 : Int) /\ (0 : Int) <= (m : Int) /\ (m : Int) <= (l.length : Int);omega
set_option maxRecDepth 40000 in
set_option maxHeartbeats 16000000 in
theorem Znd (x moves wide : Int) (hmv : moves <= 1000) (hwd : 0 <= wide /\ wide <= 1000) (Q)
  (hq : ∀ (ins : Int) (first : List Bool) (ms : List Mv) (lies : List Int) (truth : List (Int × List Int)) (x' : Int) (FL ML TL RL : List D), 1 <= ins -> ins <= 4 -> (first.length = 1 ∨ first.length = 2) -> ms.length <= 10 -> (ms.length : Int) <= max moves 0 -> Gen ins first ms lies truth -> (∀ m ∈ ms, wide = 0 -> m.lo = m.hi) ->
   FL = first.map Zv -> ML = ms.map mvD -> TL = truth.map tkD -> RL = (lies.take (Z6 ms).length).map I -> Q (RA.ret (.tup [.agg [I ins, .sl 1 FL, .sl 5 ML], .sl 2 TL, .sl 1 RL])) [pot x']) :
  CallA Tryz.prog 43 [.b 0 0, I moves, I wide] [pot x] Q := by
 obtain ⟨A, hA⟩ : ∃ A, A = ar := ⟨_, rfl⟩;have htn4 : A.tn 4 = 4 := by subst hA; rfl
 have hnn4 : A.nneg 4 := by subst hA; show (0 : Int) <= 4; decide
 have hrm4 : A.room (A.tn 4) 8 := by rw [htn4]; exact Z8w hA
 have hrep4 : A.rep (A.tn 4) (I 0) = ([0, 0, 0, 0] : List Int).map I := by rw [htn4]; subst hA; rfl
 have hmn : A.min moves 10 <= 10 /\ A.min moves 10 <= max moves 0 := by rw [Zir hA]; omega
 have hmn2 : A.min moves 10 <= 1000000000000 := by omega
 refine Z38 Z0 hA [4] Tryz.func43 rfl rfl rfl rfl rfl fun S hS => ?_;cbv;refine Z4 hS [.b 0 0, I 1, I 4] [0] [pot x] rfl rfl rfl rfl rfl rfl rfl rfl (by decide) ⟨rfl, trivial⟩ (Zn3 x 1 4 (by omega) _ fun ins x1 hi1 hi2 => ?_);have hi4 : ins <= 4 := by omega
 refine Z3 Z0 hA hS ?_;cbv;refine Z4 hS [.b 0 0, I 1, I 2] [0] [pot x1] rfl rfl rfl rfl rfl rfl rfl rfl (by decide) ⟨rfl, trivial⟩ (Zvc x1 1 2 (by omega) _ fun b1 x2 => ?_);refine Z3 Z0 hA hS ?_;cbv;refine Z4 hS [.b 0 0, I 1, I 2] [0] [pot x2] rfl rfl rfl rfl rfl rfl rfl rfl (by decide) ⟨rfl, trivial⟩ (Zvc x2 1 2 (by omega) _ fun b2 x3 => ?_);refine Z3 Z0 hA hS ?_;cbv;refine' bm2 (S := S) (α := Int × List Bool × List D) (fun q => { env := [(0, .b 0 0), (1, I moves), (2, I wide), (6, .b 1 0), (9, .b 2 0)], H := [pot q.1, .box (.agg [I 0, .v (.slice none 0 0), .v (.slice none 0 0)]), .box (.agg [I ins, .sl 1 q.2.2, .v (.slice none 0 0)])], nt := 207, dfs := [] }) (fun q => (q.2.1.length = 1 ∨ q.2.1.length = 2) /\ q.2.2 = q.2.1.map Zv) (fun rest _ => ?h1) (fun rest _ => ?h2) ?h3
 case h1 =>
  cbv;refine Z16 Z0 hA hS [0, 1, 2, 3, 4, 5, 6, 7] rfl rfl fun Dk hD => ?_;cbv;refine Zq hA hD [.b 0 0, I 1, I 2] [0] [pot x3] rfl rfl rfl rfl rfl rfl rfl rfl rfl rfl rfl (by decide) ⟨rfl, trivial⟩ (Zvc x3 1 2 (by omega) _ fun b3 x4 => ⟨by cbv, Zx Z0 hA hD ?_⟩);have hap : A.app [.v (.bool b1)] [.v (.bool b3)] = ([b1, b3] : List Bool).map Zv := by subst hA; rfl
  have hrm : A.room (A.addN 1 1) 1 := Z27 hA (by decide) (by decide);have hab : A.eqN (A.addN 1 1) (A.len [.v (.bool b1), .v (.bool b3)]) := by subst hA; rfl
  cbv;refine ⟨Ze hA rfl, Ze hA rfl, hrm, ?_⟩;cbv;refine Zof hS rest (x4, [b1, b3], ([b1, b3] : List Bool).map Zv) ⟨.inr rfl, rfl⟩ ?_;refine Z39 5 rfl hap (Z1a hA [5] ?_);cbv
  repeat (refine ⟨hab, ?_⟩)
  exact Zf [0, 1, 3] ⟨by decide, Z2n, ⟨rfl, rfl, rfl, trivial⟩, ⟨rfl, rfl, rfl, rfl, rfl, trivial⟩, rfl, rfl⟩
 case h2 =>
  have hab1 : A.eqN 1 (A.len [.v (.bool b1)]) := by subst hA; rfl
  cbv;refine Zof hS rest (x3, [b1], ([b1] : List Bool).map Zv) ⟨.inl rfl, rfl⟩ ?_;refine Z1a hA [2] ?_;cbv
  repeat (refine ⟨hab1, ?_⟩)
  exact Zf [0, 1, 3] ⟨by decide, Z2n, ⟨rfl, rfl, rfl, trivial⟩, ⟨rfl, rfl, rfl, rfl, rfl, trivial⟩, rfl, rfl⟩
 rintro ⟨x3', first, FL⟩ ⟨hfl, hF⟩;dsimp only at hfl hF;have hFl : FL.length = first.length := by rw [hF]; simp
 have hbinOK : ∀ b : Int, 0 <= b -> (b <= A.sub (A.oi (A.len FL)) 1 ∨ b = 0) -> b.toNat < first.length /\ b < (first.length : Int) := fun b h1 h2 => by
  rw [Z24 hA, yoiL hA hFl] at h2; omega
 have hFB : Btw 1 (first.length : Int) 2 := ⟨by omega, by omega⟩;have hfs : A.fits .i64 (A.sub (A.oi (A.len FL)) 1) := Z14 hA (by rw [Z24 hA, yoiL hA hFl]) (by omega);have hfse : A.sub (A.oi (A.len FL)) 1 = (first.length : Int) - 1 := by rw [Z24 hA, yoiL hA hFl]
 have hfle : A.sub (A.oi (A.len FL)) 1 <= 1000000000000 := by rw [hfse]; omega
 have hins1 : A.fits .i64 (A.sub ins 1) := Z14 hA (Z24 hA ins 1) (by omega);have hinse : A.sub ins 1 = ins - 1 := Z24 hA ins 1;refine Zb hS ?_;refine Z2w Z0 hA hS [] ?_;cbv;refine ⟨hnn4, hrm4, ?_⟩;refine Z4 hS [.b 0 0, I (A.min moves 10)] [0] [pot x3'] rfl rfl rfl rfl rfl rfl rfl rfl (by decide) ⟨rfl, trivial⟩ (Zj0 x3' _ hmn2 _ fun cnt0 x5 hc1 hc2 => ?_);have hcI : IsI cnt0 cnt0.toNat := ⟨by omega⟩;have hg0 : GenI ins first moves cnt0 cnt0.toNat [] [0, 0, 0, 0] [] 0 0 (([0, 0, 0, 0] : List Int).map I) [] [] [] wide := ⟨hcI, by simp; omega, by simp; omega, Zv1 _ _, rfl, rfl, rfl, rfl, rfl, rfl, fun m h => by simp at h⟩;refine Z3 Z0 hA hS ?_;cbv;refine Zb hS ?_;refine Za (α := (Int × Nat × Int × List Mv × List Int × List (Int × List Int)) × (Nat × Nat) × List D × List D × List D × List D) (fun q => { env := [(0, .b 0 0), (2, I wide), (6, .b 1 0), (9, .b 2 0), (10, .o 3 1 4), (11, .o 4 1 q.2.1.1), (12, .o 6 2 q.2.1.2), (13, I q.1.1)], H := [pot q.1.2.2.1, .box (.agg [I 0, .v (.slice none 0 0), .v (.slice none 0 0)]), .box (.agg [I ins, .sl 1 FL, .o 5 5 q.2.1.2]), .els 1 q.2.2.1, .els 1 q.2.2.2.1, .els 5 q.2.2.2.2.1, .els 2 q.2.2.2.2.2], nt := 207, dfs := [] })
  (fun q => q.1.2.1) (fun q => GenI ins first moves q.1.1 q.1.2.1 q.1.2.2.2.1 q.1.2.2.2.2.1 q.1.2.2.2.2.2 q.2.1.1 q.2.1.2 q.2.2.1 q.2.2.2.1 q.2.2.2.2.1 q.2.2.2.2.2 wide) ((cnt0, cnt0.toNat, x5, [], [0, 0, 0, 0], []), (0, 0), ([0, 0, 0, 0] : List Int).map I, [], [], []) hg0 ?_ ?_
 ·refine Z39 3 rfl hrep4 ?_;refine Zo7 10 (.o 3 1 4) rfl (WkD.eq (congrArg (fun n => D.o 3 1 n) htn4)) ?_;refine Z2a 11 1 rfl ?_;refine Zfk 2 2 5 (.agg [I ins, .sl 1 FL, .o 5 5 0]) rfl rfl rfl ?_;refine Z2a 12 2 rfl ?_;exact Zf [0, 1, 2, 3, 4, 5, 6] ⟨by decide, Z2n, ⟨rfl, rfl, rfl, rfl, rfl, rfl, rfl, trivial⟩, ⟨rfl, rfl, rfl, rfl, rfl, rfl, rfl, rfl, trivial⟩, rfl, rfl⟩
 rintro ⟨⟨cnt, c, x, ms, lies, truth⟩, ⟨nb, nm⟩, LL, BL, ML, TL⟩ hG;dsimp only at hG;have hlok := hG.g.l;have hlL : lies.length = 4 := hlok.len;have hLl : LL.length = 4 := by rw [hG.L]; simp [hlL]
 have hBl : BL.length = nb := by rw [hG.B, hG.nb]; simp
 have hMl : ML.length = nm := by rw [hG.M, hG.nm]; simp
 have hTl : TL.length = nm := by rw [hG.T, hG.nm]; simp [hG.g.tl]
 have hnb4 : nb <= 4 := by rw [hG.nb]; exact hG.g.b4
 have hnm10 : nm <= 10 := by rw [hG.nm]; have := hG.mc; omega
 have hnbI : IsI (A.oi nb) nb := ⟨xoi hA nb⟩;have hcnt : A.cmp .gtr cnt 0 = true -> ∃ c', c = c' + 1 /\ IsI (A.sub cnt 1) c' := fun h => by
  have h1 := xgt hA h;have h2 := hG.cI.eq;exact ⟨c - 1, by omega, ⟨by rw [Z24 hA]; omega⟩⟩
 have hcnf : A.cmp .gtr cnt 0 = true -> A.fits .i64 (A.sub cnt 1) := fun h => Z14 hA (Z24 hA cnt 1) (by have := xgt hA h; have := hG.cI.eq; have := hG.mc; omega);have hbnK : ∀ k, k < nb -> (Z6 ms)[k]? = some ((Z6 ms).getD k 0) := fun k h => by rw [List.getD_eq_getElem?_getD, List.getElem?_eq_getElem (by rw [<- hG.nb]; exact h)]; rfl
 have hlsK : ∀ k, k < 4 -> lies[k]? = some (lies.getD k 0) := fun k h => by rw [List.getD_eq_getElem?_getD, List.getElem?_eq_getElem (by omega)]; rfl
 have hrmB : A.room (A.addN nb 1) 8 := Z27 hA (by omega) (by decide);have hrmM : A.room (A.addN nm 1) 40 := Z27 hA (by omega) (by decide);have hrmT : A.room (A.addN nm 1) 32 := Z27 hA (by omega) (by decide);have hnm1 : A.addN nm 1 = nm + 1 := Z2e hA _ _;have hnb1 : A.addN nb 1 = nb + 1 := Z2e hA _ _;refine Z2w Z0 hA hS [18, 23] ?_;cbv;refine bm (fun c0 => ?_) (fun c0 => ?_)
 ·obtain ⟨c', hcc, hcI'⟩ := hcnt c0;have hcf := hcnf c0;have hms : c' < c := by omega
  cbv;refine ⟨hfs, ?_⟩;refine Z4 hS [.b 0 0, I (A.sub (A.oi (A.len FL)) 1)] [0] [pot x] rfl rfl rfl rfl rfl rfl rfl rfl (by decide) ⟨rfl, trivial⟩ (Zj0 x _ hfle _ fun bin x1 hb1 hb2 => ?_);obtain ⟨hbl, hbl2⟩ := hbinOK bin hb1 hb2;have hbn : IsI bin bin.toNat := ⟨by omega⟩;obtain ⟨fifo, hfd, hfg, hFg⟩ := Zqk hF hbl;refine Z3 Z0 hA hS ?_;cbv;refine Zb hS ?_;refine Za (α := Int × Nat × Int) (fun q => { env := [(0, .b 0 0), (2, I wide), (6, .b 1 0), (9, .b 2 0), (10, .o 3 1 4), (11, .o 4 1 nb), (12, .o 6 2 nm), (13, I cnt), (14, I bin), (15, I q.2.2), (16, I q.1)], H := [pot x1, .box (.agg [I 0, .v (.slice none 0 0), .v (.slice none 0 0)]), .box (.agg [I ins, .sl 1 FL, .o 5 5 nm]), .els 1 LL, .els 1 BL, .els 5 ML, .els 2 TL], nt := 207, dfs := [] })
   (fun q => nb - q.2.1) (fun q => q.2.1 <= nb /\ IsI q.1 q.2.1 /\ q.2.2 = inL bin ((Z6 ms).take q.2.1) lies) (0, 0, 0) ⟨Nat.zero_le _, ⟨rfl⟩, rfl⟩ ?_ ?_
  ·exact Zf [0, 1, 2, 3, 4, 5, 6] ⟨by decide, Z2n, ⟨rfl, rfl, rfl, rfl, rfl, rfl, rfl, trivial⟩, ⟨rfl, rfl, rfl, rfl, rfl, rfl, rfl, rfl, rfl, rfl, rfl, trivial⟩, rfl, rfl⟩
  rintro ⟨b, k, here⟩ ⟨v1, v2, v3⟩;dsimp only at v1 v2 v3;have hyes : A.cmp .lss b (A.oi nb) = true -> k < nb := fun h => by have := xlt hA h; rw [xoi hA] at this; have := v2.eq; omega
  have hno : A.cmp .lss b (A.oi nb) = false -> k = nb := fun h => by have := Z7x hA h; rw [xoi hA] at this; have := v2.eq; omega
  have hbd : ∀ k', 0 <= inL bin ((Z6 ms).take k') lies /\ inL bin ((Z6 ms).take k') lies <= 20 := fun k' => by
   have h1 := Zek (bin := bin) (bs := (Z6 ms).take k') (l := lies) (fun i => ⟨hlok.lo i, hlok.hi i⟩);have h2 := hG.g.b4;rw [List.length_take] at h1; omega
  refine Z2w Z0 hA hS [] ?_;cbv;refine bm (fun c1 => ?_) (fun c1 => ?_)
  ·have hk := hyes c1;have hk4 : k < 4 := by omega
   obtain ⟨bv, hbv⟩ : ∃ bv, bv = (Z6 ms).getD k 0 := ⟨_, rfl⟩;obtain ⟨lv, hlv⟩ : ∃ lv, lv = lies.getD k 0 := ⟨_, rfl⟩;have hbk := hbnK k hk;rw [<- hbv] at hbk;have hlk := hlsK k hk4;rw [<- hlv] at hlk;have hBk : BL[k]? = some (I bv) := by rw [hG.B, List.getElem?_map, hbk]; rfl
   have hLk : LL[k]? = some (I lv) := by rw [hG.L, List.getElem?_map, hlk]; rfl
   have i1 : A.inb b nb := Z4o hA v2 hk;have i2 : A.inb b 4 := Z4o hA v2 hk4;have g1 := Z18 hA v2 hBk;have g2 := Z18 hA v2 hLk;have hf := Zy hA v2 (by omega);have hv2 := Zz hA v2;have hms2 : nb - (k + 1) < nb - k := by omega
   have htk := Zct (bin := bin) (l := lies) hbk;have hs1 : bv = bin -> A.add here lv = inL bin ((Z6 ms).take (k + 1)) lies := fun h => by rw [htk, if_pos h, Z58 hA, v3, hlv]
   have hs2 : bv ≠ bin -> here = inL bin ((Z6 ms).take (k + 1)) lies := fun h => by rw [htk, if_neg h, v3, Int.add_zero]
   have hsf : bv = bin -> A.fits .i64 (A.add here lv) := fun h => Z14 hA (hs1 h) (by have := hbd (k + 1); omega);cbv;refine ⟨i1, ⟨_, g1, ?_⟩⟩;cbv;refine bm (fun c2 => ?_) (fun c2 => ?_)
   ·have h1 := hs1 (xeq hA c2);have h2 := hsf (xeq hA c2);cbv;refine ⟨i2, ⟨_, g2, ?_⟩⟩;cbv;refine ⟨h2, hf, ?_⟩;refine Z8 (A.add b 1, k + 1, A.add here lv) [0, 1, 2, 3, 4, 5, 6] ⟨hk, hv2, h1⟩ hms2 ?_;exact ⟨by decide, Z2n, ⟨rfl, rfl, rfl, rfl, rfl, rfl, rfl, trivial⟩, ⟨rfl, rfl, rfl, rfl, rfl, rfl, rfl, rfl, rfl, rfl, rfl, trivial⟩, rfl, rfl⟩
   ·have h1 := hs2 (Z2o hA c2);cbv;refine ⟨hf, ?_⟩;refine Z8 (A.add b 1, k + 1, here) [0, 1, 2, 3, 4, 5, 6] ⟨hk, hv2, h1⟩ hms2 ?_;exact ⟨by decide, Z2n, ⟨rfl, rfl, rfl, rfl, rfl, rfl, rfl, trivial⟩, ⟨rfl, rfl, rfl, rfl, rfl, rfl, rfl, rfl, rfl, rfl, rfl, trivial⟩, rfl, rfl⟩
  have hk := hno c1;have hhere : here = inL bin (Z6 ms) lies := by rw [v3, hk, hG.nb, List.take_length]
  have hh0 : 0 <= here := by rw [v3]; exact (hbd k).1
  have hh20 : here <= 20 := by rw [v3]; exact (hbd k).2
  cbv;refine Z7 ?_;cbv;refine Z26 hS (Z1a hA [7] ?_);cbv;refine ⟨Ze hA rfl, Z7 ?_⟩;refine Z4 hS [.b 0 0, .sl 1 [I 1, I 2, I 2, I 3]] [0] [pot x1] rfl rfl rfl rfl rfl rfl rfl rfl (by decide) ⟨rfl, trivial⟩ (of_ x1 _ [1, 2, 2, 3] rfl (Nat.le_of_ble_eq_true rfl) (by simp) _ fun kd x2 hkd => ?_);obtain ⟨bI, hbI⟩ : ∃ bI, bI = decide (nb < 4 /\ (kd = 1 ∨ here = 0)) := ⟨_, rfl⟩;obtain ⟨bC, hbC⟩ : ∃ bC, bC = decide (kd = 3 /\ here <= 5) := ⟨_, rfl⟩;have b4T : A.cmp .lss (A.oi nb) 4 = true -> nb < 4 := fun h => by have := xlt hA h; rw [xoi hA] at this; omega
  have b4F : A.cmp .lss (A.oi nb) 4 = false -> ¬ nb < 4 := fun h => by have := Z7x hA h; rw [xoi hA] at this; omega
  refine Z3 Z0 hA hS ?_;cbv;refine Zch hS { env := [(0, .b 0 0), (2, I wide), (6, .b 1 0), (9, .b 2 0), (10, .o 3 1 4), (11, .o 4 1 nb), (12, .o 6 2 nm), (13, I cnt), (14, I bin), (15, I here), (17, I kd), (74, .v (.bool bI))], H := [pot x2, .box (.agg [I 0, .v (.slice none 0 0), .v (.slice none 0 0)]), .box (.agg [I ins, .sl 1 FL, .o 5 5 nm]), .els 1 LL, .els 1 BL, .els 5 ML, .els 2 TL], nt := 207, dfs := [] } ?_ ?_
  ·refine Zb hS (Zi Z0 hA hS ?_);cbv;refine bm (fun e1 => ?_) (fun e1 => ?_)
   ·have k1 : kd = 1 := xeq hA e1;cbv;refine bm (fun e2 => ?_) (fun e2 => ?_)
    ·have hz : bI = true := by rw [hbI]; exact decide_eq_true ⟨b4T e2, .inl k1⟩
     cbv;exact Zf [0, 1, 2, 3, 4, 5, 6] ⟨by decide, Z2n, ⟨rfl, rfl, rfl, rfl, rfl, rfl, rfl, trivial⟩, ⟨rfl, rfl, rfl, rfl, rfl, rfl, rfl, rfl, rfl, rfl, rfl, by rw [hz]; rfl, trivial⟩, rfl, rfl⟩
    ·have hz : bI = false := by rw [hbI]; exact decide_eq_false (fun h => b4F e2 h.1)
     cbv;have hz2 : A.cmp .lss (A.oi nb) 4 = bI := e2.trans hz.symm;refine bm (fun e3 => ?_) (fun e3 => ?_)
     ·cbv;exact Zf [0, 1, 2, 3, 4, 5, 6] ⟨by decide, Z2n, ⟨rfl, rfl, rfl, rfl, rfl, rfl, rfl, trivial⟩, ⟨rfl, rfl, rfl, rfl, rfl, rfl, rfl, rfl, rfl, rfl, rfl, by rw [<- hz2]; rfl, trivial⟩, rfl, rfl⟩
     ·cbv;exact Zf [0, 1, 2, 3, 4, 5, 6] ⟨by decide, Z2n, ⟨rfl, rfl, rfl, rfl, rfl, rfl, rfl, trivial⟩, ⟨rfl, rfl, rfl, rfl, rfl, rfl, rfl, rfl, rfl, rfl, rfl, by rw [hz]; rfl, trivial⟩, rfl, rfl⟩
   ·have k1 : kd ≠ 1 := Z2o hA e1;cbv;refine bm (fun e3 => ?_) (fun e3 => ?_)
    ·have h0 : here = 0 := xeq hA e3;have hz2 : A.cmp .lss (A.oi nb) 4 = bI := by
      cases e : A.cmp .lss (A.oi nb) 4 with
      | true => rw [hbI]; exact (decide_eq_true ⟨b4T e, .inr h0⟩).symm
      | false => rw [hbI]; exact (decide_eq_false (fun h => b4F e h.1)).symm
     cbv;exact Zf [0, 1, 2, 3, 4, 5, 6] ⟨by decide, Z2n, ⟨rfl, rfl, rfl, rfl, rfl, rfl, rfl, trivial⟩, ⟨rfl, rfl, rfl, rfl, rfl, rfl, rfl, rfl, rfl, rfl, rfl, by rw [<- hz2]; rfl, trivial⟩, rfl, rfl⟩
    ·have hz : bI = false := by rw [hbI]; exact decide_eq_false (fun h => h.2.elim k1 (Z2o hA e3))
     cbv;exact Zf [0, 1, 2, 3, 4, 5, 6] ⟨by decide, Z2n, ⟨rfl, rfl, rfl, rfl, rfl, rfl, rfl, trivial⟩, ⟨rfl, rfl, rfl, rfl, rfl, rfl, rfl, rfl, rfl, rfl, rfl, by rw [hz]; rfl, trivial⟩, rfl, rfl⟩
  cbv;refine bm (fun d1 => ?_) (fun d1 => ?_)
  ·
   obtain ⟨hn4, -⟩ := of_decide_eq_true (hbI.symm.trans d1);have i4 : A.inb (A.oi nb) 4 := Z4o hA hnbI hn4;have hlN : LL[nb]? = some (I (lies.getD nb 0)) := by rw [hG.L, List.getElem?_map, hlsK nb hn4]; rfl
   obtain ⟨old, hold⟩ : ∃ old, old = lies.getD nb 0 := ⟨_, rfl⟩;rw [<- hold] at hlN;have gN := Z18 hA hnbI hlN;cbv;refine Z4 hS [.b 0 0, I 1, I 4] [0] [pot x2] rfl rfl rfl rfl rfl rfl rfl rfl (by decide) ⟨rfl, trivial⟩ (Zn3 x2 1 4 (by omega) _ fun n x3 hn1 hn2 => ?_);have hn4' : 1 <= n /\ n <= 4 := by omega
   have hL2 : A.set LL (A.tn (A.oi nb)) (I n) = (lies.set nb n).map I := Z7n hA hnbI (by rw [hG.L]; simp);have hB2 : A.app BL [I bin] = (Z6 ms ++ [bin]).map I := by rw [Z33 hA, hG.B]; simp
   refine Z3 Z0 hA hS ?_;cbv;refine ⟨i4, ⟨_, gN, ?_⟩⟩;cbv;refine ⟨Ze hA hBl, Ze hA rfl, hrmB, ?_⟩;refine Z5j Z0 hA hS [13] [0, 1, 2, 3, 4, 5, 10, 11, 12, 6, 7, 8, 9, 14, 13, 15, 16] rfl rfl fun Dk hD => ?_;cbv;refine Zq hA hD [.b 0 0, I n, I 0, I 5, I wide] [0] [pot x3] rfl rfl rfl rfl rfl rfl rfl rfl rfl rfl rfl (by decide) ⟨rfl, trivial⟩ (Zwu x3 n 0 5 wide (by omega) (by omega) _ fun lo hi x4 h1 h2 h3 h4 h0 => ⟨by cbv, Z63 Z0 hA hD [13] ?_⟩);have hM2 : A.app ML [.agg [I 1, I bin, I 0, I lo, I hi]] = (ms ++ [Mv.mk 1 bin 0 lo hi]).map mvD := by rw [Z33 hA, hG.M]; simp [mvD]
   have hT2 : A.app TL [.agg [I (-1), .v (.slice none 0 0)]] = (truth ++ [(-1, [])]).map tkD := by rw [Z33 hA, hG.T, List.map_append, List.map_singleton, Zox]
   have hmok : MOk ⟨ins, first, []⟩ (Mv.mk 1 bin 0 lo hi) := ⟨by show (1 : Int) <= 1; decide, by show (1 : Int) <= 3; decide, hb1, hbl2, fun h => absurd h (by show ¬ (1 : Int) = 2; decide), fun h => absurd h (by show ¬ (1 : Int) = 2; decide), fun _ => rfl, h1, by show lo <= hi; omega, h4⟩;have hG2 : GenI ins first moves (A.sub cnt 1) c' (ms ++ [Mv.mk 1 bin 0 lo hi]) (lies.set nb n) (truth ++ [(-1, [])]) (A.addN nb 1) (A.addN nm 1) (A.set LL (A.tn (A.oi nb)) (I n)) (A.app BL [I bin]) (A.app ML [.agg [I 1, I bin, I 0, I lo, I hi]]) (A.app TL [.agg [I (-1), .v (.slice none 0 0)]]) wide := by
    have hg2 := hG.g.in_ hmok (by rw [<- hG.nb]; exact hn4) h2 h3;rw [<- hG.nb] at hg2;exact ⟨hcI', by have := hG.mc; simp; omega, by have := hG.mm; simp; omega, hg2, by rw [hnb1, hG.nb, Zhn]; simp, by rw [hnm1, hG.nm]; simp, hL2, by rw [hB2, Zhn], hM2, hT2, Zj5 hG.W _ h0⟩
   cbv;refine ⟨Ze hA hMl, Ze hA rfl, hrmM, ?_⟩;refine Z9o Z0 hA hD rfl rfl rfl rfl rfl rfl rfl rfl rfl rfl rfl ?_ ?_
   ·cbv;refine ⟨Ze hA hTl, Ze hA rfl, hrmT, ?_⟩;rw [hD];refine Zx Z0 hA hD ?_;cbv;refine ⟨hcf, ?_⟩;refine Z8 ((A.sub cnt 1, c', x4, ms ++ [Mv.mk 1 bin 0 lo hi], lies.set nb n, truth ++ [(-1, [])]), (A.addN nb 1, A.addN nm 1), A.set LL (A.tn (A.oi nb)) (I n), A.app BL [I bin], A.app ML [.agg [I 1, I bin, I 0, I lo, I hi]], A.app TL [.agg [I (-1), .v (.slice none 0 0)]]) [0, 1, 2, 3, 8, 11, 12] hG2 hms ?_;exact ⟨by decide, Z2n, ⟨rfl, rfl, rfl, rfl, rfl, rfl, rfl, trivial⟩, ⟨rfl, rfl, rfl, rfl, rfl, rfl, rfl, rfl, trivial⟩, rfl, rfl⟩
   ·cbv;rw [hD];refine Zx Z0 hA hD ?_;cbv;refine ⟨Ze hA hTl, Ze hA rfl, hrmT, ?_⟩;refine ⟨hcf, ?_⟩;refine Z8 ((A.sub cnt 1, c', x4, ms ++ [Mv.mk 1 bin 0 lo hi], lies.set nb n, truth ++ [(-1, [])]), (A.addN nb 1, A.addN nm 1), A.set LL (A.tn (A.oi nb)) (I n), A.app BL [I bin], A.app ML [.agg [I 1, I bin, I 0, I lo, I hi]], A.app TL [.agg [I (-1), .v (.slice none 0 0)]]) [0, 1, 2, 3, 8, 11, 12] hG2 hms ?_;exact ⟨by decide, Z2n, ⟨rfl, rfl, rfl, rfl, rfl, rfl, rfl, trivial⟩, ⟨rfl, rfl, rfl, rfl, rfl, rfl, rfl, rfl, trivial⟩, rfl, rfl⟩
  cbv;refine Zch hS { env := [(0, .b 0 0), (2, I wide), (6, .b 1 0), (9, .b 2 0), (10, .o 3 1 4), (11, .o 4 1 nb), (12, .o 6 2 nm), (13, I cnt), (14, I bin), (15, I here), (117, .v (.bool bC))], H := [pot x2, .box (.agg [I 0, .v (.slice none 0 0), .v (.slice none 0 0)]), .box (.agg [I ins, .sl 1 FL, .o 5 5 nm]), .els 1 LL, .els 1 BL, .els 5 ML, .els 2 TL], nt := 207, dfs := [] } ?_ ?_
  ·refine Zb hS (Zi Z0 hA hS ?_);cbv;refine bm (fun e1 => ?_) (fun e1 => ?_)
   ·have k1 : kd = 3 := xeq hA e1;have hz2 : A.cmp .leq here 5 = bC := by
     cases e2 : A.cmp .leq here 5 with
     | true => rw [hbC]; exact (decide_eq_true ⟨k1, xle hA e2⟩).symm
     | false => rw [hbC]; exact (decide_eq_false (fun h => absurd h.2 (Int.not_le.2 (Zec hA e2)))).symm
    cbv;exact Zf [0, 1, 2, 3, 4, 5, 6] ⟨by decide, Z2n, ⟨rfl, rfl, rfl, rfl, rfl, rfl, rfl, trivial⟩, ⟨rfl, rfl, rfl, rfl, rfl, rfl, rfl, rfl, rfl, rfl, by rw [<- hz2]; rfl, trivial⟩, rfl, rfl⟩
   ·have hz : bC = false := by rw [hbC]; exact decide_eq_false (fun h => Z2o hA e1 h.1)
    cbv;exact Zf [0, 1, 2, 3, 4, 5, 6] ⟨by decide, Z2n, ⟨rfl, rfl, rfl, rfl, rfl, rfl, rfl, trivial⟩, ⟨rfl, rfl, rfl, rfl, rfl, rfl, rfl, rfl, rfl, rfl, by rw [hz]; rfl, trivial⟩, rfl, rfl⟩
  cbv;refine bm (fun d2 => ?_) (fun d2 => ?_)
  ·
   obtain ⟨-, hh5⟩ := of_decide_eq_true (hbC.symm.trans d2);cbv;refine Z5j Z0 hA hS [13] [0, 1, 2, 3, 4, 5, 10, 11, 12, 6, 7, 8, 9, 14, 13, 15, 16] rfl rfl fun Dk hD => ?_;cbv;refine Zq hA hD [.b 0 0, I here, I 0, I 5, I wide] [0] [pot x2] rfl rfl rfl rfl rfl rfl rfl rfl rfl rfl rfl (by decide) ⟨rfl, trivial⟩ (Zwu x2 here 0 5 wide (by omega) (by omega) _ fun lo hi x4 h1 h2 h3 h4 h0 => ⟨by cbv, Z63 Z0 hA hD [13] ?_⟩);have hM2 : A.app ML [.agg [I 3, I bin, I 0, I lo, I hi]] = (ms ++ [Mv.mk 3 bin 0 lo hi]).map mvD := by rw [Z33 hA, hG.M]; simp [mvD]
   have hT2 : A.app TL [.agg [I (-1), .v (.slice none 0 0)]] = (truth ++ [(-1, [])]).map tkD := by rw [Z33 hA, hG.T, List.map_append, List.map_singleton, Zox]
   have hmok : MOk ⟨ins, first, []⟩ (Mv.mk 3 bin 0 lo hi) := ⟨by show (1 : Int) <= 3; decide, by show (3 : Int) <= 3; decide, hb1, hbl2, fun h => absurd h (by show ¬ (3 : Int) = 2; decide), fun h => absurd h (by show ¬ (3 : Int) = 2; decide), fun _ => rfl, h1, by show lo <= hi; omega, h4⟩;have hG2 : GenI ins first moves (A.sub cnt 1) c' (ms ++ [Mv.mk 3 bin 0 lo hi]) lies (truth ++ [(-1, [])]) nb (A.addN nm 1) LL BL (A.app ML [.agg [I 3, I bin, I 0, I lo, I hi]]) (A.app TL [.agg [I (-1), .v (.slice none 0 0)]]) wide := by
    have hg2 := hG.g.cnt hmok (by rw [<- hhere]; exact h2) (by rw [<- hhere]; exact h3);exact ⟨hcI', by have := hG.mc; simp; omega, by have := hG.mm; simp; omega, hg2, by rw [hG.nb, Zg5], by rw [hnm1, hG.nm]; simp, hG.L, by rw [hG.B, Zg5], hM2, hT2, Zj5 hG.W _ h0⟩
   cbv;refine ⟨Ze hA hMl, Ze hA rfl, hrmM, ?_⟩;refine Z9o Z0 hA hD rfl rfl rfl rfl rfl rfl rfl rfl rfl rfl rfl ?_ ?_
   ·cbv;refine ⟨Ze hA hTl, Ze hA rfl, hrmT, ?_⟩;rw [hD];refine Zx Z0 hA hD ?_;cbv;refine ⟨hcf, ?_⟩;refine Z8 ((A.sub cnt 1, c', x4, ms ++ [Mv.mk 3 bin 0 lo hi], lies, truth ++ [(-1, [])]), (nb, A.addN nm 1), LL, BL, A.app ML [.agg [I 3, I bin, I 0, I lo, I hi]], A.app TL [.agg [I (-1), .v (.slice none 0 0)]]) [0, 1, 2, 3, 4, 9, 10] hG2 hms ?_;exact ⟨by decide, Z2n, ⟨rfl, rfl, rfl, rfl, rfl, rfl, rfl, trivial⟩, ⟨rfl, rfl, rfl, rfl, rfl, rfl, rfl, rfl, trivial⟩, rfl, rfl⟩
   ·cbv;rw [hD];refine Zx Z0 hA hD ?_;cbv;refine ⟨Ze hA hTl, Ze hA rfl, hrmT, ?_⟩;refine ⟨hcf, ?_⟩;refine Z8 ((A.sub cnt 1, c', x4, ms ++ [Mv.mk 3 bin 0 lo hi], lies, truth ++ [(-1, [])]), (nb, A.addN nm 1), LL, BL, A.app ML [.agg [I 3, I bin, I 0, I lo, I hi]], A.app TL [.agg [I (-1), .v (.slice none 0 0)]]) [0, 1, 2, 3, 4, 9, 10] hG2 hms ?_;exact ⟨by decide, Z2n, ⟨rfl, rfl, rfl, rfl, rfl, rfl, rfl, trivial⟩, ⟨rfl, rfl, rfl, rfl, rfl, rfl, rfl, rfl, trivial⟩, rfl, rfl⟩
  cbv;refine bm (fun d3 => ?_) (fun d3 => ?_)
  ·
   have hp : 0 < here := xgt hA d3;have hmin : A.min here 3 = min here 3 := Zir hA here 3;have hmin2 : -1000000000 <= (1 : Int) /\ (1 : Int) <= 1000000000 /\ -1000000000 <= A.min here 3 /\ A.min here 3 <= 1000000000 := by rw [hmin]; omega
   have hinF := Z1b hA hFl hbn hbl;have gF := Z18 hA hbn hFg;have hlieb : (Z6 ms).length <= 4 := hG.g.b4;cbv;refine Z4 hS [.b 0 0, I 1, I (A.min here 3)] [0] [pot x2] rfl rfl rfl rfl rfl rfl rfl rfl (by decide) ⟨rfl, trivial⟩ (Zn3 x2 1 _ hmin2 _ fun n x3 hn1 hn2 => ?_);rw [hmin] at hn2;have hn3 : 1 <= n /\ n <= 3 /\ n <= here := by omega
   refine Z3 Z0 hA hS ?_;cbv;refine Z16 Z0 hA hS [0, 1, 2, 3, 5, 7, 4, 6, 8] rfl rfl fun Dk hD => ?_;cbv;refine ⟨hins1, hnn4, hrm4, ?_⟩;refine Zq hA hD [.b 0 0, I (A.sub ins 1)] [0] [pot x3] rfl rfl rfl rfl rfl rfl rfl rfl rfl rfl rfl (by decide) ⟨rfl, trivial⟩ (Zj0 x3 _ (by rw [hinse]; omega) _ fun t x4 ht1 ht2 => ⟨by cbv, Zx Z0 hA hD ?_⟩);rw [hinse] at ht2;have ht3 : 0 <= t /\ t < ins := by omega
   cbv;refine Z16 Z0 hA hS [0, 1, 2, 3, 4, 5, 8, 6, 7, 9] rfl rfl fun Dk2 hD2 => ?_;cbv;refine Zq hA hD2 [.b 0 0, I n, I 0, I 5, I wide] [0] [pot x4] rfl rfl rfl rfl rfl rfl rfl rfl rfl rfl rfl (by decide) ⟨rfl, trivial⟩ (Zwu x4 n 0 5 wide (by omega) (by omega) _ fun lo hi x5 h1 h2 h3 h4 h0 => ⟨by cbv, Zx Z0 hA hD2 ?_⟩);cbv;refine Z4 hS [.b 0 0, I 1, I 5] [0] [pot x5] rfl rfl rfl rfl rfl rfl rfl rfl (by decide) ⟨rfl, trivial⟩ (Zvc x5 1 5 (by omega) _ fun b6 x6 => ?_);have htak : TakI fifo bin (Z6 ms) lies n n n.toNat lies [0, 0, 0, 0] LL (([0, 0, 0, 0] : List Int).map I) := ⟨⟨by omega⟩, Zsg (fun k => hlok.lo k), fun k => by
    have : ([0, 0, 0, 0] : List Int).getD k 0 = 0 := by
     match k with
     | 0 => rfl
     | 1 => rfl
     | 2 => rfl
     | 3 => rfl
     | k + 4 => rfl
    rw [this]; omega, hlok, rfl, fun k => by
    match k with
    | 0 => decide
    | 1 => decide
    | 2 => decide
    | 3 => decide
    | k + 4 => show (0 : Int) <= 5; decide, by
    have hs0 : ∀ (bs : List Int) (i : Nat), Z32 [0, 0, 0, 0] bs i = 0 := by
     intro bs
     induction bs with
     | nil => intro i; rfl
     | cons b bs ih =>
      intro i
      have : ([0, 0, 0, 0] : List Int).getD i 0 = 0 := by
       match i with
       | 0 => rfl
       | 1 => rfl
       | 2 => rfl
       | 3 => rfl
       | i + 4 => rfl
      simp only [Z32, ih, this]; rfl
    rw [hs0]; omega, by rw [<- hhere]; omega, hG.L, rfl⟩
   refine Z3 Z0 hA hS ?_;cbv;refine bm (fun d4 => ?_) (fun d4 => ?_)
   ·cbv;refine Zb hS ?_;refine Za (α := Int × Nat × Int × List Int × List Int × List D × List D) (fun q => { env := [(0, .b 0 0), (2, I wide), (6, .b 1 0), (9, .b 2 0), (10, .o 3 1 4), (11, .o 4 1 nb), (12, .o 6 2 nm), (13, I cnt), (14, I bin), (19, I q.1), (20, .b 8 0), (21, .b 9 0)], H := [pot q.2.2.1, .box (.agg [I 0, .v (.slice none 0 0), .v (.slice none 0 0)]), .box (.agg [I ins, .sl 1 FL, .o 5 5 nm]), .els 1 q.2.2.2.2.2.1, .els 1 BL, .els 5 ML, .els 2 TL, .els 1 q.2.2.2.2.2.2, .box (.agg [I t, .o 7 1 4]), .box (.agg [I 2, I bin, I (-1), I lo, I hi])], nt := 207, dfs := [] })
     (fun q => q.2.1) (fun q => TakI fifo bin (Z6 ms) lies n q.1 q.2.1 q.2.2.2.1 q.2.2.2.2.1 q.2.2.2.2.2.1 q.2.2.2.2.2.2) (n, n.toNat, x6, lies, [0, 0, 0, 0], LL, ([0, 0, 0, 0] : List Int).map I) htak ?_ ?_
    ·refine Z39 7 rfl hrep4 ?_;refine Z7w 8 (.agg [I t, .o 7 1 4]) rfl ⟨WkD.rfl, WkD.eq (congrArg (fun n => D.o 7 1 n) htn4), trivial⟩ ?_;exact Zf [0, 1, 2, 3, 4, 5, 6, 7, 8, 9] ⟨by decide, Z2n, ⟨rfl, rfl, rfl, rfl, rfl, rfl, rfl, rfl, rfl, rfl, trivial⟩, ⟨rfl, rfl, rfl, rfl, rfl, rfl, rfl, rfl, rfl, rfl, rfl, rfl, trivial⟩, rfl, rfl⟩
    rintro ⟨nI, r, xx, cur, of, LLc, OL⟩ hK;dsimp only at hK;have hcl : cur.length = 4 := hK.lo.len;have hLcl : LLc.length = 4 := by rw [hK.L]; simp [hcl]
    have hOl : OL.length = 4 := by rw [hK.O]; simp [hK.ol]
    have hr1 : A.cmp .gtr nI 0 = true -> ∃ r', r = r' + 1 /\ IsI (A.sub nI 1) r' := fun h => by
     have g1 := xgt hA h;have g2 := hK.rI.eq;exact ⟨r - 1, by omega, ⟨by rw [Z24 hA]; omega⟩⟩
    have hr0 : A.cmp .gtr nI 0 = false -> r = 0 := fun h => by have g1 := Zax hA h; have g2 := hK.rI.eq; omega
    have hrle := hK.le;have hsm := hK.sm;have hsn : 0 <= Z32 of (Z6 ms) 0 := Z8o hK.tk.nn _ _;have hnIf : A.fits .i64 (A.sub nI 1) := Z14 hA (Z24 hA nI 1) (by have g2 := hK.rI.eq; omega);refine Z2w Z0 hA hS [] ?_;cbv;refine bm (fun d5 => ?_) (fun d5 => ?_)
    ·obtain ⟨r', hrr, hrI'⟩ := hr1 d5;subst hrr;have hms3 : r' < r' + 1 := Nat.lt_succ_self r';have hone := fun Q => Zt8 xx (Z6 ms) cur hlieb hK.lo bin (by have := hK.le; omega) fifo LLc BL hK.L hG.B nb hG.nb Q;cbv;refine ⟨hinF, ⟨_, gF, ?_⟩⟩;cbv;refine Z4 hS [.b 0 0, .o 1 1 4, .o 2 1 nb, I bin, .v (.bool fifo)] [0, 3, 4] [pot xx, .els 1 LLc, .els 1 BL] rfl rfl rfl rfl rfl rfl rfl rfl (by decide) ⟨rfl, rfl, rfl, trivial⟩ (hone _ fun oI own x7 hoI ho1 ho2 ho3 => ?_);have ho4 : own < 4 := by have := (List.getElem?_eq_some_iff.1 ho1).1; omega
     obtain ⟨ov, hov⟩ : ∃ ov, ov = of.getD own 0 := ⟨_, rfl⟩;obtain ⟨cv, hcv⟩ : ∃ cv, cv = cur.getD own 0 := ⟨_, rfl⟩;have hOo : OL[own]? = some (I ov) := by rw [hK.O, List.getElem?_map, hov, List.getD_eq_getElem?_getD, List.getElem?_eq_getElem (by rw [hK.ol]; exact ho4)]; rfl
     have hCo : LLc[own]? = some (I cv) := by rw [hK.L, List.getElem?_map, hcv, List.getD_eq_getElem?_getD, List.getElem?_eq_getElem (by rw [hcl]; exact ho4)]; rfl
     have hin4 : A.inb oI 4 := Z4o hA hoI ho4;have gO := Z18 hA hoI hOo;have gC := Z18 hA hoI hCo;have hof5 : 0 <= ov /\ ov <= 5 := by rw [hov]; exact ⟨hK.tk.nn own, hK.o5 own⟩
     have hcv5 : 0 <= cv /\ cv <= 5 := by rw [hcv]; exact ⟨hK.lo.lo own, hK.lo.hi own⟩
     have hf1 : A.fits .i64 (A.add ov 1) := Z14 hA (Z58 hA ov 1) (by omega);have hf2 : A.fits .i64 (A.sub cv 1) := Z14 hA (Z24 hA cv 1) (by omega);have hK2 := hK.next hlieb hlok ho1 ho2 ho3 hrI' (LL' := A.set LLc (A.tn oI) (I (A.sub cv 1))) (OL' := A.set OL (A.tn oI) (I (A.add ov 1))) (Z7n hA hoI (by rw [Z24 hA, hcv])) (Z7n hA hoI (by rw [Z58 hA, hov]));refine Z3 Z0 hA hS ?_;cbv;refine ⟨hin4, ⟨_, gO, ?_⟩⟩;cbv;refine ⟨hf1, hin4, ⟨_, gO, ?_⟩⟩;cbv;refine ⟨hin4, ⟨_, gC, ?_⟩⟩;cbv;refine ⟨hf2, hin4, ⟨_, gC, ?_⟩⟩;cbv;refine ⟨hnIf, ?_⟩;refine Z8 (A.sub nI 1, r', x7, cur.set own (cur.getD own 0 - 1), of.set own (of.getD own 0 + 1), A.set LLc (A.tn oI) (I (A.sub cv 1)), A.set OL (A.tn oI) (I (A.add ov 1))) [0, 1, 2, 3, 4, 5, 6, 7, 8, 9] hK2 hms3 ?_;exact ⟨by decide, Z2n, ⟨rfl, rfl, rfl, rfl, rfl, rfl, rfl, rfl, rfl, rfl, trivial⟩, ⟨rfl, rfl, rfl, rfl, rfl, rfl, rfl, rfl, rfl, rfl, rfl, rfl, trivial⟩, rfl, rfl⟩
    ·have hr := hr0 d5;have hM2 : A.app ML [.agg [I 2, I bin, I (-1), I lo, I hi]] = (ms ++ [Mv.mk 2 bin (-1) lo hi]).map mvD := by rw [Z33 hA, hG.M]; simp [mvD]
     have hT2 : A.app TL [.agg [I t, .sl 1 OL]] = (truth ++ [(t, of)]).map tkD := by rw [Z33 hA, hG.T, List.map_append, List.map_singleton, Zt9 hK.ol, hK.O]
     have hmok : MOk ⟨ins, first, []⟩ (Mv.mk 2 bin (-1) lo hi) := ⟨by show (1 : Int) <= 2; decide, by show (2 : Int) <= 3; decide, hb1, hbl2, fun _ => by show -1 <= (-1); omega, fun _ => by show (-1) < ins; omega, fun h => absurd rfl h, h1, by show lo <= hi; omega, h4⟩;have hg2 := hG.g.out hmok (.inr rfl) ht3.1 ht3.2 h2 h3 (by rw [hfd]; exact hK.tk) (by have := hK.sm; rw [hr] at this; simpa using this) hcl hK.ol hK.cu;have hG2 : GenI ins first moves (A.sub cnt 1) c' (ms ++ [Mv.mk 2 bin (-1) lo hi]) cur (truth ++ [(t, of)]) nb (A.addN nm 1) LLc BL (A.app ML [.agg [I 2, I bin, I (-1), I lo, I hi]]) (A.app TL [.agg [I t, .sl 1 OL]]) wide :=
      ⟨hcI', by have := hG.mc; simp; omega, by have := hG.mm; simp; omega, hg2, by rw [hG.nb, Z8v], by rw [hnm1, hG.nm]; simp, hK.L, by rw [hG.B, Z8v], hM2, hT2, Zj5 hG.W _ h0⟩
     cbv;refine Z7 ?_;cbv;refine Z3h hS (Z1a hA [7] ?_);cbv;refine ⟨Ze hA hOl, Z7 ?_⟩;refine Z5j Z0 hA hS [8] [0, 1, 2, 3, 5, 6, 7, 4, 9, 8, 10, 11] rfl rfl fun Dk3 hD3 => ?_;cbv;refine ⟨Ze hA hMl, Ze hA rfl, hrmM, ?_⟩;refine Z9o Z0 hA hD3 rfl rfl rfl rfl rfl rfl rfl rfl rfl rfl rfl ?_ ?_
     ·cbv;refine ⟨Ze hA hTl, Ze hA rfl, hrmT, ?_⟩;rw [hD3];refine Zx Z0 hA hD3 ?_;cbv;refine ⟨hcf, ?_⟩;refine Z8 ((A.sub cnt 1, c', xx, ms ++ [Mv.mk 2 bin (-1) lo hi], cur, truth ++ [(t, of)]), (nb, A.addN nm 1), LLc, BL, A.app ML [.agg [I 2, I bin, I (-1), I lo, I hi]], A.app TL [.agg [I t, .sl 1 OL]]) [0, 1, 2, 3, 4, 12, 13] hG2 hms ?_;exact ⟨by decide, Z2n, ⟨rfl, rfl, rfl, rfl, rfl, rfl, rfl, trivial⟩, ⟨rfl, rfl, rfl, rfl, rfl, rfl, rfl, rfl, trivial⟩, rfl, rfl⟩
     ·cbv;rw [hD3];refine Zx Z0 hA hD3 ?_;cbv;refine ⟨Ze hA hTl, Ze hA rfl, hrmT, ?_⟩;refine ⟨hcf, ?_⟩;refine Z8 ((A.sub cnt 1, c', xx, ms ++ [Mv.mk 2 bin (-1) lo hi], cur, truth ++ [(t, of)]), (nb, A.addN nm 1), LLc, BL, A.app ML [.agg [I 2, I bin, I (-1), I lo, I hi]], A.app TL [.agg [I t, .sl 1 OL]]) [0, 1, 2, 3, 4, 12, 13] hG2 hms ?_;exact ⟨by decide, Z2n, ⟨rfl, rfl, rfl, rfl, rfl, rfl, rfl, trivial⟩, ⟨rfl, rfl, rfl, rfl, rfl, rfl, rfl, rfl, trivial⟩, rfl, rfl⟩
   ·cbv;refine Zb hS ?_;refine Za (α := Int × Nat × Int × List Int × List Int × List D × List D) (fun q => { env := [(0, .b 0 0), (2, I wide), (6, .b 1 0), (9, .b 2 0), (10, .o 3 1 4), (11, .o 4 1 nb), (12, .o 6 2 nm), (13, I cnt), (14, I bin), (19, I q.1), (20, .b 8 0), (21, .b 9 0)], H := [pot q.2.2.1, .box (.agg [I 0, .v (.slice none 0 0), .v (.slice none 0 0)]), .box (.agg [I ins, .sl 1 FL, .o 5 5 nm]), .els 1 q.2.2.2.2.2.1, .els 1 BL, .els 5 ML, .els 2 TL, .els 1 q.2.2.2.2.2.2, .box (.agg [I t, .o 7 1 4]), .box (.agg [I 2, I bin, I t, I lo, I hi])], nt := 207, dfs := [] })
     (fun q => q.2.1) (fun q => TakI fifo bin (Z6 ms) lies n q.1 q.2.1 q.2.2.2.1 q.2.2.2.2.1 q.2.2.2.2.2.1 q.2.2.2.2.2.2) (n, n.toNat, x6, lies, [0, 0, 0, 0], LL, ([0, 0, 0, 0] : List Int).map I) htak ?_ ?_
    ·refine Z39 7 rfl hrep4 ?_;refine Z7w 8 (.agg [I t, .o 7 1 4]) rfl ⟨WkD.rfl, WkD.eq (congrArg (fun n => D.o 7 1 n) htn4), trivial⟩ ?_;exact Zf [0, 1, 2, 3, 4, 5, 6, 7, 8, 9] ⟨by decide, Z2n, ⟨rfl, rfl, rfl, rfl, rfl, rfl, rfl, rfl, rfl, rfl, trivial⟩, ⟨rfl, rfl, rfl, rfl, rfl, rfl, rfl, rfl, rfl, rfl, rfl, rfl, trivial⟩, rfl, rfl⟩
    rintro ⟨nI, r, xx, cur, of, LLc, OL⟩ hK;dsimp only at hK;have hcl : cur.length = 4 := hK.lo.len;have hLcl : LLc.length = 4 := by rw [hK.L]; simp [hcl]
    have hOl : OL.length = 4 := by rw [hK.O]; simp [hK.ol]
    have hr1 : A.cmp .gtr nI 0 = true -> ∃ r', r = r' + 1 /\ IsI (A.sub nI 1) r' := fun h => by
     have g1 := xgt hA h;have g2 := hK.rI.eq;exact ⟨r - 1, by omega, ⟨by rw [Z24 hA]; omega⟩⟩
    have hr0 : A.cmp .gtr nI 0 = false -> r = 0 := fun h => by have g1 := Zax hA h; have g2 := hK.rI.eq; omega
    have hrle := hK.le;have hsm := hK.sm;have hsn : 0 <= Z32 of (Z6 ms) 0 := Z8o hK.tk.nn _ _;have hnIf : A.fits .i64 (A.sub nI 1) := Z14 hA (Z24 hA nI 1) (by have g2 := hK.rI.eq; omega);refine Z2w Z0 hA hS [] ?_;cbv;refine bm (fun d5 => ?_) (fun d5 => ?_)
    ·obtain ⟨r', hrr, hrI'⟩ := hr1 d5;subst hrr;have hms3 : r' < r' + 1 := Nat.lt_succ_self r';have hone := fun Q => Zt8 xx (Z6 ms) cur hlieb hK.lo bin (by have := hK.le; omega) fifo LLc BL hK.L hG.B nb hG.nb Q;cbv;refine ⟨hinF, ⟨_, gF, ?_⟩⟩;cbv;refine Z4 hS [.b 0 0, .o 1 1 4, .o 2 1 nb, I bin, .v (.bool fifo)] [0, 3, 4] [pot xx, .els 1 LLc, .els 1 BL] rfl rfl rfl rfl rfl rfl rfl rfl (by decide) ⟨rfl, rfl, rfl, trivial⟩ (hone _ fun oI own x7 hoI ho1 ho2 ho3 => ?_);have ho4 : own < 4 := by have := (List.getElem?_eq_some_iff.1 ho1).1; omega
     obtain ⟨ov, hov⟩ : ∃ ov, ov = of.getD own 0 := ⟨_, rfl⟩;obtain ⟨cv, hcv⟩ : ∃ cv, cv = cur.getD own 0 := ⟨_, rfl⟩;have hOo : OL[own]? = some (I ov) := by rw [hK.O, List.getElem?_map, hov, List.getD_eq_getElem?_getD, List.getElem?_eq_getElem (by rw [hK.ol]; exact ho4)]; rfl
     have hCo : LLc[own]? = some (I cv) := by rw [hK.L, List.getElem?_map, hcv, List.getD_eq_getElem?_getD, List.getElem?_eq_getElem (by rw [hcl]; exact ho4)]; rfl
     have hin4 : A.inb oI 4 := Z4o hA hoI ho4;have gO := Z18 hA hoI hOo;have gC := Z18 hA hoI hCo;have hof5 : 0 <= ov /\ ov <= 5 := by rw [hov]; exact ⟨hK.tk.nn own, hK.o5 own⟩
     have hcv5 : 0 <= cv /\ cv <= 5 := by rw [hcv]; exact ⟨hK.lo.lo own, hK.lo.hi own⟩
     have hf1 : A.fits .i64 (A.add ov 1) := Z14 hA (Z58 hA ov 1) (by omega);have hf2 : A.fits .i64 (A.sub cv 1) := Z14 hA (Z24 hA cv 1) (by omega);have hK2 := hK.next hlieb hlok ho1 ho2 ho3 hrI' (LL' := A.set LLc (A.tn oI) (I (A.sub cv 1))) (OL' := A.set OL (A.tn oI) (I (A.add ov 1))) (Z7n hA hoI (by rw [Z24 hA, hcv])) (Z7n hA hoI (by rw [Z58 hA, hov]));refine Z3 Z0 hA hS ?_;cbv;refine ⟨hin4, ⟨_, gO, ?_⟩⟩;cbv;refine ⟨hf1, hin4, ⟨_, gO, ?_⟩⟩;cbv;refine ⟨hin4, ⟨_, gC, ?_⟩⟩;cbv;refine ⟨hf2, hin4, ⟨_, gC, ?_⟩⟩;cbv;refine ⟨hnIf, ?_⟩;refine Z8 (A.sub nI 1, r', x7, cur.set own (cur.getD own 0 - 1), of.set own (of.getD own 0 + 1), A.set LLc (A.tn oI) (I (A.sub cv 1)), A.set OL (A.tn oI) (I (A.add ov 1))) [0, 1, 2, 3, 4, 5, 6, 7, 8, 9] hK2 hms3 ?_;exact ⟨by decide, Z2n, ⟨rfl, rfl, rfl, rfl, rfl, rfl, rfl, rfl, rfl, rfl, trivial⟩, ⟨rfl, rfl, rfl, rfl, rfl, rfl, rfl, rfl, rfl, rfl, rfl, rfl, trivial⟩, rfl, rfl⟩
    ·have hr := hr0 d5;have hM2 : A.app ML [.agg [I 2, I bin, I t, I lo, I hi]] = (ms ++ [Mv.mk 2 bin t lo hi]).map mvD := by rw [Z33 hA, hG.M]; simp [mvD]
     have hT2 : A.app TL [.agg [I t, .sl 1 OL]] = (truth ++ [(t, of)]).map tkD := by rw [Z33 hA, hG.T, List.map_append, List.map_singleton, Zt9 hK.ol, hK.O]
     have hmok : MOk ⟨ins, first, []⟩ (Mv.mk 2 bin t lo hi) := ⟨by show (1 : Int) <= 2; decide, by show (2 : Int) <= 3; decide, hb1, hbl2, fun _ => by show -1 <= t; omega, fun _ => by show t < ins; omega, fun h => absurd rfl h, h1, by show lo <= hi; omega, h4⟩;have hg2 := hG.g.out hmok (.inl rfl) ht3.1 ht3.2 h2 h3 (by rw [hfd]; exact hK.tk) (by have := hK.sm; rw [hr] at this; simpa using this) hcl hK.ol hK.cu;have hG2 : GenI ins first moves (A.sub cnt 1) c' (ms ++ [Mv.mk 2 bin t lo hi]) cur (truth ++ [(t, of)]) nb (A.addN nm 1) LLc BL (A.app ML [.agg [I 2, I bin, I t, I lo, I hi]]) (A.app TL [.agg [I t, .sl 1 OL]]) wide :=
      ⟨hcI', by have := hG.mc; simp; omega, by have := hG.mm; simp; omega, hg2, by rw [hG.nb, Z8v], by rw [hnm1, hG.nm]; simp, hK.L, by rw [hG.B, Z8v], hM2, hT2, Zj5 hG.W _ h0⟩
     cbv;refine Z7 ?_;cbv;refine Z3h hS (Z1a hA [7] ?_);cbv;refine ⟨Ze hA hOl, Z7 ?_⟩;refine Z5j Z0 hA hS [8] [0, 1, 2, 3, 5, 6, 7, 4, 9, 8, 10, 11] rfl rfl fun Dk3 hD3 => ?_;cbv;refine ⟨Ze hA hMl, Ze hA rfl, hrmM, ?_⟩;refine Z9o Z0 hA hD3 rfl rfl rfl rfl rfl rfl rfl rfl rfl rfl rfl ?_ ?_
     ·cbv;refine ⟨Ze hA hTl, Ze hA rfl, hrmT, ?_⟩;rw [hD3];refine Zx Z0 hA hD3 ?_;cbv;refine ⟨hcf, ?_⟩;refine Z8 ((A.sub cnt 1, c', xx, ms ++ [Mv.mk 2 bin t lo hi], cur, truth ++ [(t, of)]), (nb, A.addN nm 1), LLc, BL, A.app ML [.agg [I 2, I bin, I t, I lo, I hi]], A.app TL [.agg [I t, .sl 1 OL]]) [0, 1, 2, 3, 4, 12, 13] hG2 hms ?_;exact ⟨by decide, Z2n, ⟨rfl, rfl, rfl, rfl, rfl, rfl, rfl, trivial⟩, ⟨rfl, rfl, rfl, rfl, rfl, rfl, rfl, rfl, trivial⟩, rfl, rfl⟩
     ·cbv;rw [hD3];refine Zx Z0 hA hD3 ?_;cbv;refine ⟨Ze hA hTl, Ze hA rfl, hrmT, ?_⟩;refine ⟨hcf, ?_⟩;refine Z8 ((A.sub cnt 1, c', xx, ms ++ [Mv.mk 2 bin t lo hi], cur, truth ++ [(t, of)]), (nb, A.addN nm 1), LLc, BL, A.app ML [.agg [I 2, I bin, I t, I lo, I hi]], A.app TL [.agg [I t, .sl 1 OL]]) [0, 1, 2, 3, 4, 12, 13] hG2 hms ?_;exact ⟨by decide, Z2n, ⟨rfl, rfl, rfl, rfl, rfl, rfl, rfl, trivial⟩, ⟨rfl, rfl, rfl, rfl, rfl, rfl, rfl, rfl, trivial⟩, rfl, rfl⟩
  ·have hG2 : GenI ins first moves (A.sub cnt 1) c' ms lies truth nb nm LL BL ML TL wide := ⟨hcI', by have := hG.mc; omega, by have := hG.mm; omega, hG.g, hG.nb, hG.nm, hG.L, hG.B, hG.M, hG.T, hG.W⟩;cbv;refine ⟨hcf, ?_⟩;refine Z8 ((A.sub cnt 1, c', x2, ms, lies, truth), (nb, nm), LL, BL, ML, TL) [0, 1, 2, 3, 4, 5, 6] hG2 hms ?_;exact ⟨by decide, Z2n, ⟨rfl, rfl, rfl, rfl, rfl, rfl, rfl, trivial⟩, ⟨rfl, rfl, rfl, rfl, rfl, rfl, rfl, rfl, trivial⟩, rfl, rfl⟩
 ·have hLt : A.sub2 LL 0 (A.oi nb) = (lies.take (Z6 ms).length).map I := Zx4 hA (by rw [hG.L, hG.nb, List.map_take]);have hLtk : A.sub2OK LL 0 (A.oi nb) := Zta hA (Nat.le_trans hnb4 (Nat.le_of_eq hLl.symm));have hz := hq ins first ms lies truth x FL ML TL (A.sub2 LL 0 (A.oi nb)) hi1 hi4 hfl (by have := hG.mc; omega) (Int.le_trans (Int.le_add_of_nonneg_right (Int.natCast_nonneg _)) hG.mm) hG.g hG.W hF hG.M hG.T hLt;cbv;refine Z7 ?_;cbv;refine Z3h hS (Z1a hA [3, 5, 6] ?_);cbv
  repeat (refine ⟨by first | exact Ze hA hLl | exact Ze hA hMl | exact Ze hA hTl, ?_⟩)
  refine Z7 ?_;refine Z16 Z0 hA hS [0, 1, 2, 3, 4, 5, 6, 7, 8] rfl rfl fun Dk hD => ?_;cbv;refine ⟨hLtk, ?_⟩;exact Z2 [0] (by decide) Z2n (H' := [pot x]) (d' := .tup [.agg [I ins, .sl 1 FL, .sl 5 ML], .sl 2 TL, .sl 1 (A.sub2 LL 0 (A.oi nb))]) ⟨rfl, trivial⟩ rfl (Z1 hz)
end Go.Proofs.YthljpccegkmdnaaGreatDoor

namespace Go.Proofs.YthljpccegkmdnaaGreatDoor
open Go Go.Abs Go.Proofs
theorem Zvp (L : List D) (nums : List Int) (hL : L = nums.map I) (hl : L.length <= 9223372036854775807) (Q) (hq : ∀ x, Q (RA.ret (.b 0 0)) [.box (.agg [U x])]) :
  CallA Tryz.prog 36 [.sl 1 L] [] Q := by
 obtain ⟨A, hA⟩ : ∃ A, A = ar := ⟨_, rfl⟩;refine Z5 Z0 hA Tryz.func36 rfl rfl rfl rfl rfl fun S hS => ?_;cbv;refine Zb hS ?_;refine Zgw (α := Int × Nat × Int) (fun x => { env := [(0, .sl 1 L), (3, .b 0 0), (4, .v (.int .i64 x.1))], H := [.box (.agg [U x.2.2])], nt := 41, dfs := [] }) (fun x => L.length - x.2.1) (fun x => x.2.1 <= L.length /\ x.1 = x.2.1) (0, 0, 2611923443488327891) ⟨Nat.zero_le _, rfl⟩ [0] ?_ ?_
 ·exact ⟨by decide, fun i hi => absurd hi (by simp), ⟨rfl, trivial⟩, ⟨rfl, rfl, rfl, trivial⟩, rfl, rfl⟩
 rintro ⟨i, k, x⟩ ⟨hk, hi⟩
 replace hk : k <= L.length := hk
 replace hi : i = (k : Int) := hi
 refine Zi Z0 hA hS ?_;cbv
 split
 ·rename_i hc
  cbv
  replace hi : i = (k : Int) := hi
  have hlt : k < L.length := by subst hA; simp [ar, Z25] at hc; omega
  refine Z16 Z0 hA hS [0, 1, 2, 3, 4, 5, 6, 7, 8, 9, 10, 11, 12, 13, 14] rfl rfl fun Dk hD => ?_;cbv
  replace hi : i = (k : Int) := hi
  obtain ⟨y, hy⟩ : ∃ y, y = nums[k]'(by rw [hL] at hlt; simpa using hlt) := ⟨_, rfl⟩;refine ⟨by subst hA; simp [ar]; omega, ⟨.v (.int .i64 y), by subst hA; simp [ar, hL, hi, hy, I], ?_⟩⟩;cbv;refine Z16 Z0 hA hS [0, 1, 2, 3, 4, 5, 6, 7, 8, 9, 10, 11, 12, 13] rfl rfl fun Dk hD2 => ?_;cbv
  replace hi : i = (k : Int) := hi
  subst hA;refine ⟨by simp [ar], Zdh (by simp [ar]; omega), (i + 1, k + 1, _), [0], ⟨by simp; omega, by simp; omega⟩, by simp; omega, by decide, fun i hi => absurd hi (by simp), ⟨rfl, trivial⟩, ⟨rfl, rfl, rfl, trivial⟩, rfl, rfl⟩
 ·rename_i hc
  cbv;refine Z1 (hq x)
end Go.Proofs.YthljpccegkmdnaaGreatDoor

namespace Go.Batch
theorem Zh8 {j : Jn} {x : Ste (List (Int × Nat × Int))} (h : x ∈ Zd j Z1f []) : Zc j = true := by
 unfold Zc;rw [Z1n Zn]
 cases he : Zd j Z1f [] with
 | nil => rw [he] at h; simp at h
 | cons a l => rfl
theorem Z55 {j : Jn} (h : Zc j = true) (tk : Tk Int) : Zd j tk 0 ≠ [] := by
 unfold Zc at h;rw [Z1n Zn] at h;rw [Z1n tk]
 cases he : Zd j Z1f [] with
 | nil => rw [he] at h; simp at h
 | cons a l => simp
end Go.Batch

namespace Go.Proofs.YthljpccegkmdnaaGreatDoor
open Go Go.Abs Go.Proofs Go.Batch
structure MdJ (j : Jn) (ins : Int) (N n m : Nat) (FL ML : List D) : Prop where
 ok : JOk j
 st : Zc j = true
 ie : j.ins = ins
 nI : IsI ins N
 F : FL = j.first.map Zv
 M : ML = j.moves.map mvD
 n : j.first.length = n
 m : j.moves.length = m
section
variable {j : Jn} {ins : Int} {N n m : Nat} {FL ML : List D}
theorem MdJ.n2 (h : MdJ j ins N n m FL ML) : 1 <= n /\ n <= 2 := by have := h.ok.f1; have := h.ok.f2; have := h.n; omega
theorem MdJ.m10 (h : MdJ j ins N n m FL ML) : m <= 10 := by have := h.ok.m10; have := h.m; omega
theorem MdJ.N4 (h : MdJ j ins N n m FL ML) : 1 <= N /\ N <= 4 := by have := h.ok.i1; have := h.ok.i4; have := h.ie; have := h.nI.eq; omega
theorem MdJ.fl (h : MdJ j ins N n m FL ML) : j.first.length <= 1152921504606846976 := lim (by have := h.ok.f2; omega)
theorem MdJ.ml (h : MdJ j ins N n m FL ML) : j.moves.length <= 1152921504606846976 := lim (by have := h.ok.m10; omega)
theorem MdJ.c0 (h : MdJ j ins N n m FL ML) : Zr j = 0 := Z81 h.ok
theorem MdJ.holds (h : MdJ j ins N n m FL ML) (Q) (hq : ∀ L, L = (Z5w j).map (fun l => .sl 1 (l.map I)) -> Q (RA.ret (.tup [.sl 1 L, I 0])) []) : CallA Tryz.prog 15 [.agg [I ins, .sl 1 FL, .sl 5 ML]] [] Q := by
 have e := h.ie;subst e;exact Zsy j h.fl h.ml FL ML h.F h.M Q (fun e h1 h2 => Z77 h.c0 h1 h2) (fun _ g => Z7p h.st g) (fun _ _ L hL => hq L hL)
theorem MdJ.rest (h : MdJ j ins N n m FL ML) (Q) (hq : ∀ L, L = (Z4c j).map rgD -> Q (RA.ret (.tup [.sl 2 L, I 0])) []) : CallA Tryz.prog 13 [.agg [I ins, .sl 1 FL, .sl 5 ML]] [] Q := by
 have e := h.ie;subst e;exact Zst j h.fl h.ml FL ML h.F h.M Q (fun e h1 h2 => Z77 h.c0 h1 h2) (fun _ g => Z7p h.st g) (fun _ _ L hL => hq L hL)
theorem MdJ.mixed (h : MdJ j ins N n m FL ML) (Q) (hq : ∀ L, L = (Z6b j).map I -> Q (RA.ret (.tup [.sl 1 L, I 0])) []) : CallA Tryz.prog 23 [.agg [I ins, .sl 1 FL, .sl 5 ML]] [] Q := by
 have e := h.ie;subst e;exact Zsv j h.fl h.ml FL ML h.F h.M Q (fun e h1 h2 => Z77 h.c0 h1 h2) (fun _ g => Z7p h.st g) (fun _ _ L hL => hq L hL)
end
end Go.Proofs.YthljpccegkmdnaaGreatDoor
