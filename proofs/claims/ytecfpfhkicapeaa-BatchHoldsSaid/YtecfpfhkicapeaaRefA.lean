/- Part RefA of the proofs about the benches of the accordion maker: see the last text of the claim for what is proved. -/
import Derived.Test.YtecfpfhkicapeaaSaysC
import Derived.Test.YtecfpfhkicapeaaBatH
import Derived.Test.YtecfpfhkicapeaaBatD
set_option linter.unusedVariables false
set_option linter.unusedSimpArgs false
set_option linter.unnecessarySimpa false
set_option linter.constructorNameAsVariable false

namespace Go.Batch
theorem Ztd {lo hi : Int} (h : lo <= hi) : upR lo hi = lo :: upR (lo + 1) hi := by
 unfold upR;have e : (hi + 1 - lo).toNat = (hi + 1 - (lo + 1)).toNat + 1 := by omega
 rw [e, List.range_succ_eq_map, List.map_cons, List.map_map]
 congr 1
 ·show lo + ((0 : Nat) : Int) = lo; simp
 ·refine List.map_congr_left fun k _ => ?_;show lo + ((k + 1 : Nat) : Int) = lo + 1 + (k : Int);omega
theorem Zvw {lo hi : Int} (h : hi < lo) : upR lo hi = [] := by
 unfold upR;rw [show (hi + 1 - lo).toNat = 0 by omega]; rfl
theorem Zte (lo hi : Int) : (upR lo hi).length = (hi + 1 - lo).toNat := by simp [upR]
theorem Zl9 {α β : Type} {f : α -> List β} {n : Nat} (h : ∀ x, (f x).length <= n) : ∀ l : List α, (l.flatMap f).length <= l.length * n
 | [] => by simp
 | x :: l => by
  have := Zl9 h l;have hx := h x;rw [List.flatMap_cons, List.length_append, List.length_cons, Nat.succ_mul];omega
theorem Zdl {lies : List Int} (hl : LOk lies) {bin : Int} : ∀ (bs : List Int) (i : Nat) (a : Int), (Z4w lies bin bs i a).length <= 6 ^ bs.length
 | [], i, a => by unfold Z4w; split <;> simp
 | b :: bs, i, a => by
  unfold Z4w;have h := Zl9 (f := fun n => (Z4w lies bin bs (i + 1) (a - n)).map fun of => of.set i n) (n := 6 ^ bs.length) (fun n => by rw [List.length_map]; exact Zdl hl bs (i + 1) (a - n)) (upR 0 (if b = bin then min a (lies.getD i 0) else 0));have h5 := hl.hi i;have hu : (upR 0 (if b = bin then min a (lies.getD i 0) else 0)).length <= 6 := by rw [Zte]; split <;> omega
  refine Nat.le_trans h ?_;rw [List.length_cons, Nat.pow_succ, Nat.mul_comm];exact Nat.mul_le_mul_left _ hu
theorem Znf {lies : List Int} (hl : LOk lies) {bin : Int} {bs : List Int} {i : Nat} {a : Int} (ha : 0 <= a) (hi : i + bs.length <= 4) : ∀ of ∈ Z4w lies bin bs i a, of.length = 4 := fun of h => ((Zcp hl bs i a ha hi of).1 h).len
def Zbb (lies : List Int) (bin b : Int) (bs : List Int) (i : Nat) (a n : Int) : List (List Int) := (upR n (if b = bin then min a (lies.getD i 0) else 0)).flatMap fun n => (Z4w lies bin bs (i + 1) (a - n)).map fun of => of.set i n
theorem Zoz (lies : List Int) (bin b : Int) (bs : List Int) (i : Nat) (a : Int) : Z4w lies bin (b :: bs) i a = Zbb lies bin b bs i a 0 := rfl
theorem Zng {lies : List Int} {bin b : Int} {bs : List Int} {i : Nat} {a n : Int} (h : n <= (if b = bin then min a (lies.getD i 0) else 0)) : Zbb lies bin b bs i a n = ((Z4w lies bin bs (i + 1) (a - n)).map fun of => of.set i n) ++ Zbb lies bin b bs i a (n + 1) := by
 unfold Zbb;rw [Ztd h, List.flatMap_cons]
theorem Zqn {lies : List Int} {bin b : Int} {bs : List Int} {i : Nat} {a n : Int} (h : (if b = bin then min a (lies.getD i 0) else 0) < n) : Zbb lies bin b bs i a n = [] := by
 unfold Zbb;rw [Zvw h]; rfl
end Go.Batch

namespace Go.Batch
theorem Ze7 {inst : Int} {of : List Int} (b : Int) : ∀ (bs : List Int) (i : Nat), Z1o inst of (bs ++ [b]) i = Z1o inst of bs i ++ if of.getD (i + bs.length) 0 = 0 then [] else [(inst, i + bs.length, of.getD (i + bs.length) 0)]
 | [], i => by simp only [List.nil_append, Z1o, List.length_nil, Nat.add_zero]
 | c :: bs, i => by
  have ih := Ze7 (inst := inst) (of := of) b bs (i + 1);rw [show i + 1 + bs.length = i + (bs.length + 1) by omega] at ih;simp only [List.cons_append, Z1o, List.length_cons]
  split
  ·exact ih
  ·rw [ih]; rfl
def Z78 (q : Ask) (inst : Int) (of : List Int) (x : Int) : Nat -> Int
 | 0 => x
 | k + 1 => if of.getD k 0 = 0 then Z78 q inst of x k else Zm q (Z78 q inst of x k) inst k (of.getD k 0)
theorem Zhq (q : Ask) (inst : Int) (of : List Int) (x : Int) (bs : List Int) : ∀ n, n <= bs.length -> Z78 q inst of x n = Zt (Zm q) x (Z1o inst of (bs.take n) 0)
 | 0, _ => rfl
 | n + 1, hn => by
  obtain ⟨b, hb⟩ : ∃ b, bs[n]? = some b := ⟨_, List.getElem?_eq_getElem (by omega)⟩;have ih := Zhq q inst of x bs n (by omega);have hl : (bs.take n).length = n := by rw [List.length_take]; omega
  rw [List.take_add_one, hb, Option.toList_some, Ze7, hl, Nat.zero_add];simp only [Z78]
  by_cases h : of.getD n 0 = 0
  ·rw [if_pos h, if_pos h, List.append_nil]; exact ih
  ·rw [if_neg h, if_neg h, ih];simp only [Zt, List.foldl_append, List.foldl_cons, List.foldl_nil]
theorem Zhr (q : Ask) (inst : Int) (of : List Int) (x : Int) {n : Nat} (h : ∀ k, n <= k -> of.getD k 0 = 0) : ∀ d, Z78 q inst of x (n + d) = Z78 q inst of x n
 | 0 => rfl
 | d + 1 => by
  show (if of.getD (n + d) 0 = 0 then Z78 q inst of x (n + d) else _) = _;rw [if_pos (h _ (by omega))]; exact Zhr q inst of x h d
theorem Zqo (q : Ask) (inst : Int) {of : List Int} (x : Int) {bs : List Int} (hb : bs.length <= 4) (h : ∀ k, bs.length <= k -> of.getD k 0 = 0) : Z78 q inst of x 4 = Zt (Zm q) x (Z1o inst of bs 0) := by
 have e := Zhr q inst of x h (4 - bs.length);rw [show bs.length + (4 - bs.length) = 4 by omega] at e;rw [e, Zhq q inst of x bs bs.length (Nat.le_refl _), List.take_length]
theorem Zqp {ν : Type} {j : Jn} {tk : Tk ν} (bs ext : List Int) {m : Mv} {b : Nat} {l : List Int} {z : ν} (hb : bs.length <= 4) (hl : l.length = 4) (h0 : ∀ k, bs.length <= k -> l.getD k 0 = 0) : Z22 j tk (bs ++ ext) m b (l, z) = Z22 j tk bs m b (l, z) := by
 unfold Z22
 split
 ·rfl
 split
 ·congr 1; funext i; congr 1; funext n
  exact Zai bs ext 0 (l, z) n (fun k hk => h0 k (by omega)) (by simp only; omega)
 ·rw [Zix bs ext l h0]
def Z5l (q : Ask) (l of : List Int) (x k : Int) : Ste Int := (Z2c l of, Z78 q k of x 4)
def Z5b (ins inst k : Int) : Prop := (0 <= k /\ k < ins) /\ (inst < 0 ∨ inst = k)
def Z5k (fifo : Bool) (l bs : List Int) (bin a : Int) : List (List Int) := if fifo = true then Z7g l bs bin a else Z4w l bin bs 0 a
theorem Zdm {fifo : Bool} {l bs : List Int} (hl : LOk l) (hb : bs.length <= 4) {bin a : Int} (ha : 0 <= a) (of : List Int) : of ∈ Z5k fifo l bs bin a ↔ WayO fifo bin bs 0 l a of := by
 unfold Z5k
 cases fifo with
 | true => rw [if_pos rfl]; exact Zn0 hl hb ha of
 | false => rw [if_neg Bool.false_ne_true]; exact Zcp hl bs 0 a ha (by omega) of
theorem Ztf {j : Jn} (hj4 : j.ins <= 4) {q : Ask} {bs : List Int} (hb : bs.length <= 4) {m : Mv} (hm : MOk j m) (hk : m.kind = 2) {l : List Int} (hl : LOk l) {x : Int} {b : Nat} (s : Ste Int) :
  s ∈ Z22 j (Zm q) bs m b (l, x) ↔ ∃ a, (m.lo <= a /\ a <= m.hi) /\ ∃ of, of ∈ Z5k (j.first.getD m.bin.toNat false) l bs m.bin a /\ ∃ k, Z5b j.ins m.inst k /\ s = Z5l q l of x k := by
 have hi1 := hm.i1 hk;have hi0 := hm.i0 hk;have hl0 := hm.l0;have hin : ∀ k, k ∈ Z9q j.ins m ↔ Z5b j.ins m.inst k := fun k => by
  unfold Z9q Z5b
  split
  ·rw [Z2d]; omega
  ·simp only [List.mem_singleton]; omega
 have hfo : ∀ {a k : Int} {of : List Int}, WayO (j.first.getD m.bin.toNat false) m.bin bs 0 l a of -> Z78 q k of x 4 = Zt (Zm q) x (Z1o k of bs 0) := fun hw => Zqo q _ x hb fun n hn => hw.out n (by omega);unfold Z22;rw [if_neg (by omega), if_pos hk, List.mem_flatMap];constructor
 ·rintro ⟨k, hk1, hs⟩;obtain ⟨a, ha, hs⟩ := List.mem_flatMap.1 hs;rw [Z2d] at ha;obtain ⟨of, hw, rfl⟩ := (Zks hb hl (by omega) s).1 hs;exact ⟨a, ha, of, (Zdm hl hb (by omega) of).2 hw, k, (hin k).1 hk1, by unfold Z5l; rw [hfo hw]⟩
 ·rintro ⟨a, ha, of, hof, k, hk1, rfl⟩;have hw := (Zdm hl hb (by omega) of).1 hof;refine ⟨k, (hin k).2 hk1, List.mem_flatMap.2 ⟨a, Z2d.2 ha, (Zks hb hl (by omega) _).2 ⟨of, hw, ?_⟩⟩⟩;unfold Z5l; rw [hfo hw]
end Go.Batch

namespace Go.Proofs.Ytecfpfhkicapeaa
open Go Go.Abs Go.Proofs Go.Batch
theorem Z6f (n lo hi : Int) (b : Bool) (hb : b = decide (lo <= n /\ n <= hi)) (Q) (hq : Q (RA.ret (.v (.bool b))) []) : CallA Try.prog 99 [I n, I lo, I hi] [] Q := by
 obtain ⟨A, hA⟩ : ∃ A, A = ar := ⟨_, rfl⟩;have h1 : A.cmp .geq n lo = true -> Q (RA.ret (.v (.bool (A.cmp .leq n hi)))) [] := fun h => by
  have h2 := xge hA h;have e : A.cmp .leq n hi = b := by
   rw [hb]; subst hA;show decide (n <= hi) = _;exact decide_eq_decide.2 ⟨fun h => ⟨h2, h⟩, fun h => h.2⟩
  rw [e]; exact hq
 have h0 : A.cmp .geq n lo = false -> Q (RA.ret (.v (.bool false))) [] := fun h => by
  have h2 := Zur hA h;rw [hb, decide_eq_false (fun g => by omega)] at hq; exact hq
 refine Z5 Z0 hA Try.func99 rfl rfl rfl rfl rfl fun S hS => ?_;cbv;refine bm (fun c => ?_) (fun c => ?_)
 ·have hz := h1 c;cbv;exact Z2 [] (by decide) Z9 (H' := []) (d' := .v (.bool (A.cmp .leq n hi))) trivial rfl (Z1 hz)
 ·have hz := h0 c;cbv;exact Z2 [] (by decide) Z9 (H' := []) (d' := .v (.bool false)) trivial rfl (Z1 hz)
set_option maxRecDepth 20000 in
set_option maxHeartbeats 2000000 in
theorem Zx5 (bins lies : List Int) (hb4 : bins.length <= 4) (hl : LOk lies) (bin : Int) (LL BL : List D) (hL : LL = lies.map I) (hB : BL = bins.map I) (nb : Nat) (hnb : nb = bins.length) (n : Int) (hn : n = inL bin bins lies) (Q) (hq : Q (RA.ret (I n)) [.els 1 BL]) :
  CallA Try.prog 135 [.sl 1 LL, .o 0 1 nb, I bin] [.els 1 BL] Q := by
 obtain ⟨A, hA⟩ : ∃ A, A = ar := ⟨_, rfl⟩;have hLl : LL.length = 4 := by rw [hL, List.length_map, hl.len]
 have hBl : BL.length = nb := by rw [hB, List.length_map, hnb]
 have hlB : ∀ k, 0 <= lies.getD k 0 /\ lies.getD k 0 <= 5 := fun k => ⟨hl.lo k, hl.hi k⟩;refine Z5 Z0 hA Try.func135 rfl rfl rfl rfl rfl fun S hS => ?_;cbv;refine Zb hS ?_;refine Za (α := Int × Nat × Int) (fun q => { env := [(0, .sl 1 LL), (1, .o 0 1 nb), (2, I bin), (7, I q.2.2), (8, I q.1)], H := [.els 1 BL], nt := 28, dfs := [] })
  (fun q => nb - q.2.1) (fun q => q.2.1 <= nb /\ IsI q.1 q.2.1 /\ q.2.2 = inL bin (bins.take q.2.1) lies) (0, 0, 0) ⟨Nat.zero_le _, ⟨rfl⟩, by simp [inL]⟩ ?_ ?_
 ·exact Zf [0] ⟨by decide, Z2n, ⟨rfl, trivial⟩, ⟨rfl, rfl, rfl, rfl, rfl, trivial⟩, rfl, rfl⟩
 rintro ⟨i, k, x⟩ ⟨u1, u2, u3⟩;dsimp only at u1 u2 u3;have hyes : A.cmp .lss i (A.oi nb) = true -> k < nb := fun c => by have := xlt hA c; rw [xoi hA] at this; have := u2.eq; omega
 have hno : A.cmp .lss i (A.oi nb) = false -> k = nb := fun c => by have := Z7x hA c; rw [xoi hA] at this; have := u2.eq; omega
 refine Zi Z0 hA hS ?_;cbv;refine bm (fun c => ?_) (fun c => ?_)
 ·have hk := hyes c;obtain ⟨b, hbk⟩ : ∃ b, bins[k]? = some b := ⟨_, List.getElem?_eq_getElem (by omega)⟩;obtain ⟨y, hy⟩ : ∃ y, y = lies.getD k 0 := ⟨_, rfl⟩;have gB := Z18 hA u2 (show BL[k]? = some (I b) by rw [hB, List.getElem?_map, hbk]; rfl);have gL := Z18 hA u2 (show LL[k]? = some (I y) by rw [hL, List.getElem?_map, hy, List.getD_eq_getElem?_getD, List.getElem?_eq_getElem (by rw [hl.len]; omega)]; rfl);have iB : A.inb i nb := Z4o hA u2 hk;have iL := Z1b hA hLl u2 (by omega);have hf1 := Zy hA u2 (by omega);have hu2 := Zz hA u2;have hms : nb - (k + 1) < nb - k := by omega
  have htk := Zct (bin := bin) (l := lies) hbk;have hbd := Zek (bin := bin) (bs := bins.take k) (l := lies) hlB;have hbtl : (bins.take k).length <= 4 := by rw [List.length_take]; omega
  have hlk := hlB k;rw [<- hy] at htk hlk;have hfx : A.fits .i64 (A.add x y) := Z14 hA (Z58 hA x y) (by omega);have h1 : A.cmp .eql b bin = true -> A.add x y = inL bin (bins.take (k + 1)) lies := fun h => by rw [htk, if_pos (xeq hA h), Z58 hA, u3]
  have h0 : A.cmp .eql b bin = false -> x = inL bin (bins.take (k + 1)) lies := fun h => by rw [htk, if_neg (Z2o hA h), u3, Int.add_zero]
  cbv;refine ⟨iB, ⟨_, gB, ?_⟩⟩;cbv;refine bm (fun c1 => ?_) (fun c1 => ?_)
  ·have hz := h1 c1;cbv;refine ⟨iL, ⟨_, gL, ?_⟩⟩;cbv;refine ⟨hfx, hf1, ?_⟩;refine Z8 (A.add i 1, k + 1, A.add x y) [0] ⟨hk, hu2, hz⟩ hms ?_;exact ⟨by decide, Z2n, ⟨rfl, trivial⟩, ⟨rfl, rfl, rfl, rfl, rfl, trivial⟩, rfl, rfl⟩
  ·have hz := h0 c1;cbv;refine ⟨hf1, ?_⟩;refine Z8 (A.add i 1, k + 1, x) [0] ⟨hk, hu2, hz⟩ hms ?_;exact ⟨by decide, Z2n, ⟨rfl, trivial⟩, ⟨rfl, rfl, rfl, rfl, rfl, trivial⟩, rfl, rfl⟩
 ·have hk := hno c;have hx : x = n := by rw [u3, hn, hk, List.take_of_length_le (by omega)]
  rw [<- hx] at hq;cbv;refine Z7 ?_;cbv;exact Z2 [0] (by decide) Z2n (H' := [.els 1 BL]) (d' := I x) ⟨rfl, trivial⟩ rfl (Z1 hq)
theorem Zyi {A : Ar} (hA : A = ar) {x : Int} {n d : Nat} (h : IsI x n) (hd : 0 < d) : IsI (A.rem x d) (n % d) := ⟨by
 subst hA; rw [h.eq]
 show Int.tmod (n : Int) d = _
 rw [Int.tmod_eq_emod_of_nonneg (by omega)]; omega⟩
theorem Zx6 {A : Ar} (hA : A = ar) {x : Int} {n d : Nat} (h : IsI x n) (hd : 0 < d) : IsI (A.quo x d) (n / d) := ⟨by
 subst hA; rw [h.eq]
 show Int.tdiv (n : Int) d = _
 rw [Int.tdiv_eq_ediv_of_nonneg (by omega)]; omega⟩
set_option maxRecDepth 20000 in
set_option maxHeartbeats 2000000 in
theorem Zhs (n : Int) (m : Nat) (hn : IsI n m) (hm : m < 1296) (Q) (hq : ∀ L, L = (Z1z m).map I -> Q (RA.ret (.sl 1 L)) []) : CallA Try.prog 125 [I n] [] Q := by
 obtain ⟨A, hA⟩ : ∃ A, A = ar := ⟨_, rfl⟩;have z6 : A.nz 6 := by subst hA; show (6 : Int) ≠ 0; decide
 refine Z5 Z0 hA Try.func125 rfl rfl rfl rfl rfl fun S hS => ?_;cbv;refine Zb hS ?_;refine Za (α := Int × Nat × (Int × Nat) × Nat × List D) (fun q => { env := [(0, I q.2.2.1.1), (3, .o 0 1 q.2.2.2.1), (4, I q.1)], H := [.els 1 q.2.2.2.2], nt := 17, dfs := [] })
  (fun q => 4 - q.2.1) (fun q => q.2.1 <= 4 /\ IsI q.1 q.2.1 /\ IsI q.2.2.1.1 q.2.2.1.2 /\ q.2.2.1.2 = m / 6 ^ q.2.1 /\ q.2.2.2.1 = q.2.1 /\ q.2.2.2.2 = ((Z1z m).take q.2.1).map I) (0, 0, (n, m), 0, []) ⟨Nat.zero_le _, ⟨rfl⟩, hn, by simp, rfl, rfl⟩ ?_ ?_
 ·refine Z2a 3 1 rfl ?_;exact Zf [0] ⟨by decide, Z9, ⟨rfl, trivial⟩, ⟨rfl, rfl, rfl, trivial⟩, rfl, rfl⟩
 rintro ⟨i, k, ⟨x, xn⟩, c, L⟩ ⟨u1, u2, u3, u4, u5, u6⟩;dsimp only at u1 u2 u3 u4 u5 u6;have hLl : L.length = c := by rw [u6, u5, List.length_map, List.length_take, (Zdg m).len]; omega
 have hyes : A.cmp .lss i 4 = true -> k < 4 := fun c => by have := xlt hA c; have := u2.eq; omega
 have hno : A.cmp .lss i 4 = false -> k = 4 := fun c => by have := Z7x hA c; have := u2.eq; omega
 have hc6 : c <= 1000000 := by omega
 refine Zi Z0 hA hS ?_;cbv;refine bm (fun c1 => ?_) (fun c1 => ?_)
 ·have hk := hyes c1;have hr : A.rem x 6 = ((xn % 6 : Nat) : Int) := (Zyi hA u3 (show 0 < 6 by decide)).eq;have hqu : IsI (A.quo x 6) (xn / 6) := Zx6 hA u3 (show 0 < 6 by decide);have hfq : A.fits .i64 (A.quo x 6) := Z14 hA hqu.eq (by
   have : xn <= m := by rw [u4]; exact Nat.div_le_self _ _
   have := Nat.div_le_self xn 6
   omega)
  have hf1 := Zy hA u2 (by omega);have hu2 := Zz hA u2;have hms : 4 - (k + 1) < 4 - k := by omega
  have hq2 : xn / 6 = m / 6 ^ (k + 1) := by rw [u4, Nat.div_div_eq_div_mul, Nat.pow_succ]
  have hn2 : A.addN c 1 = k + 1 := by rw [Z2e hA, u5]
  have hx : ((Z1z m)[k]?) = some (A.rem x 6) := by
   rw [hr, u4]
   match k, hk with
   | 0, _ => simp [Z1z]
   | 1, _ => simp [Z1z]
   | 2, _ => simp [Z1z]
   | 3, _ => simp [Z1z]
  have hL2 : A.app L [I (A.rem x 6)] = ((Z1z m).take (k + 1)).map I := by rw [Z33 hA, u6, List.take_add_one, hx]; simp
  cbv;refine ⟨z6, Ze hA hLl, Ze hA rfl, Z27 hA hc6 (by decide), z6, hfq, hf1, ?_⟩;refine Z8 (A.add i 1, k + 1, (A.quo x 6, xn / 6), A.addN c 1, A.app L [I (A.rem x 6)]) [2] ⟨hk, hu2, hqu, hq2, hn2, hL2⟩ hms ?_;exact ⟨by decide, Z9, ⟨rfl, trivial⟩, ⟨rfl, rfl, rfl, trivial⟩, rfl, rfl⟩
 ·have hk := hno c1;have hz := hq L (by rw [u6, hk, List.take_of_length_le (by rw [(Zdg m).len]; exact Nat.le_refl _)]);cbv;refine Z7 ?_;cbv;refine Z1w [0] ?_;cbv;exact ⟨by cases L <;> exact hLl.symm, Z2 [] (by decide) Z9 (H' := []) (d' := .sl 1 L) trivial rfl (Z1 hz)⟩
def pkF (l : List Int) : Nat -> Int
 | 0 => 0
 | d + 1 => pkF l d * 6 + l.getD (3 - d) 0
theorem Ztg {l : List Int} (h : LOk l) : ∀ d, d <= 4 -> 0 <= pkF l d /\ pkF l d <= 1295
 | 0, _ => by simp [pkF]
 | 1, _ => by have := h.lo 3; have := h.hi 3; simp only [pkF, show 3 - 0 = 3 from rfl, show 3 - 1 = 2 from rfl, show 3 - 2 = 1 from rfl, show 3 - 3 = 0 from rfl]; omega
 | 2, _ => by have := h.lo 3; have := h.hi 3; have := h.lo 2; have := h.hi 2; simp only [pkF, show 3 - 0 = 3 from rfl, show 3 - 1 = 2 from rfl, show 3 - 2 = 1 from rfl, show 3 - 3 = 0 from rfl]; omega
 | 3, _ => by have := h.lo 3; have := h.hi 3; have := h.lo 2; have := h.hi 2; have := h.lo 1; have := h.hi 1; simp only [pkF, show 3 - 0 = 3 from rfl, show 3 - 1 = 2 from rfl, show 3 - 2 = 1 from rfl, show 3 - 3 = 0 from rfl]; omega
 | 4, _ => by have := h.lo 3; have := h.hi 3; have := h.lo 2; have := h.hi 2; have := h.lo 1; have := h.hi 1; have := h.lo 0; have := h.hi 0; simp only [pkF, show 3 - 0 = 3 from rfl, show 3 - 1 = 2 from rfl, show 3 - 2 = 1 from rfl, show 3 - 3 = 0 from rfl]; omega
 | d + 5, hd => by omega
theorem Zth {l : List Int} (h : LOk l) : pkF l 4 = (Z7h l : Nat) := by
 have b := Ztg h 4 (Nat.le_refl _);have e : pkF l 4 = l.getD 0 0 + 6 * (l.getD 1 0 + 6 * (l.getD 2 0 + 6 * l.getD 3 0)) := by simp only [pkF, show 3 - 0 = 3 from rfl, show 3 - 1 = 2 from rfl, show 3 - 2 = 1 from rfl, show 3 - 3 = 0 from rfl]; omega
 unfold Z7h;rw [<- e]; omega
set_option maxRecDepth 20000 in
set_option maxHeartbeats 2000000 in
theorem Zat (l : List Int) (hl : LOk l) (LL : List D) (hL : LL = l.map I) (Q) (hq : ∀ x, IsI x (Z7h l) -> Q (RA.ret (I x)) []) : CallA Try.prog 136 [.sl 1 LL] [] Q := by
 obtain ⟨A, hA⟩ : ∃ A, A = ar := ⟨_, rfl⟩;have hLl : LL.length = 4 := by rw [hL, List.length_map, hl.len]
 have hs3 : A.sub (A.oi (A.len LL)) 1 = 3 := by rw [Z24 hA, Z5a hA hLl]; rfl
 have hf3 : A.fits .i64 (A.sub (A.oi (A.len LL)) 1) := Z14 hA hs3 (by decide);refine Z5 Z0 hA Try.func136 rfl rfl rfl rfl rfl fun S hS => ?_;cbv;refine ⟨hf3, ?_⟩;refine Zb hS ?_;refine Za (α := Int × Nat × Int) (fun q => { env := [(0, .sl 1 LL), (3, I q.2.2), (4, I q.1)], H := [], nt := 20, dfs := [] })
  (fun q => 4 - q.2.1) (fun q => q.2.1 <= 4 /\ IsI (q.1 + 1) (4 - q.2.1) /\ q.2.2 = pkF l q.2.1) (A.sub (A.oi (A.len LL)) 1, 0, 0) ⟨Nat.zero_le _, ⟨by show A.sub (A.oi (A.len LL)) 1 + 1 = _; rw [hs3]; rfl⟩, rfl⟩ ?_ ?_
 ·exact Zf [] ⟨by decide, Z9, trivial, ⟨rfl, rfl, rfl, trivial⟩, rfl, rfl⟩
 rintro ⟨i, d, x⟩ ⟨u1, u2, u3⟩;dsimp only at u1 u2 u3;have hyes : A.cmp .geq i 0 = true -> d < 4 := fun c => by have := xge hA c; have := u2.eq; omega
 have hno : A.cmp .geq i 0 = false -> d = 4 := fun c => by have := Zur hA c; have := u2.eq; omega
 refine Zi Z0 hA hS ?_;cbv;refine bm (fun c => ?_) (fun c => ?_)
 ·have hd := hyes c;have hi : IsI i (3 - d) := ⟨by have := u2.eq; omega⟩;obtain ⟨y, hy⟩ : ∃ y, y = l.getD (3 - d) 0 := ⟨_, rfl⟩;have hyb : 0 <= y /\ y <= 5 := by rw [hy]; exact ⟨hl.lo _, hl.hi _⟩
  have gL := Z18 hA hi (show LL[3 - d]? = some (I y) by rw [hL, List.getElem?_map, hy, List.getD_eq_getElem?_getD, List.getElem?_eq_getElem (by rw [hl.len]; omega)]; rfl);have iL := Z1b hA hLl hi (by omega);have hb := Ztg hl d (by omega);have hb2 := Ztg hl (d + 1) (by omega);rw [<- u3] at hb;have hmul : A.mul x 6 = x * 6 := by subst hA; rfl
  have hfm : A.fits .i64 (A.mul x 6) := Z14 hA hmul (by omega);have hadd : A.add (A.mul x 6) y = pkF l (d + 1) := by rw [Z58 hA, hmul, u3, hy]; rfl
  have hfa : A.fits .i64 (A.add (A.mul x 6) y) := Z14 hA hadd (by omega);have hsub : A.sub i 1 = i - 1 := Z24 hA _ _;have hfs : A.fits .i64 (A.sub i 1) := Z14 hA hsub (by have := hi.eq; omega);have hi2 : IsI (A.sub i 1 + 1) (4 - (d + 1)) := ⟨by rw [hsub]; have := hi.eq; omega⟩;have hms : 4 - (d + 1) < 4 - d := by omega
  have hd1 : d + 1 <= 4 := hd;cbv;refine ⟨hfm, iL, ⟨_, gL, ?_⟩⟩;cbv;refine ⟨hfa, hfs, ?_⟩;refine Z8 (A.sub i 1, d + 1, A.add (A.mul x 6) y) [] ⟨hd1, hi2, hadd⟩ hms ?_;exact ⟨by decide, Z9, trivial, ⟨rfl, rfl, rfl, trivial⟩, rfl, rfl⟩
 ·have hd := hno c;have hz := hq x ⟨by rw [u3, hd, Zth hl]⟩;cbv;refine Z7 ?_;cbv;exact Z2 [] (by decide) Z9 (H' := []) (d' := I x) trivial rfl (Z1 hz)
end Go.Proofs.Ytecfpfhkicapeaa

namespace Go.Proofs.Ytecfpfhkicapeaa
open Go Go.Abs Go.Proofs Go.Batch
def Z79 (l : List (List Int)) : List D := l.map fun p => .sl 1 (p.map I)
theorem Z4q {l : List Int} {k : Nat} (h : k < l.length) : l[k]? = some (l.getD k 0) := by
 rw [List.getD_eq_getElem?_getD, List.getElem?_eq_getElem h]; rfl
set_option maxRecDepth 20000 in
set_option maxHeartbeats 4000000 in
theorem Zvx (bins lies : List Int) (hb4 : bins.length <= 4) (hl : LOk lies) (bin a : Int) (ha : 0 <= a /\ a <= 5) (LL BL : List D) (hL : LL = lies.map I) (hB : BL = bins.map I) (nb : Nat) (hnb : nb = bins.length) (Q) (hq : ∀ WL, WL = Z79 (Z7g lies bins bin a) -> Q (RA.ret (.sl 1 WL)) [.els 1 BL]) :
  CallA Try.prog 137 [.sl 1 LL, .o 0 1 nb, I bin, I a] [.els 1 BL] Q := by
 obtain ⟨A, hA⟩ : ∃ A, A = ar := ⟨_, rfl⟩;have htn4 : A.tn 4 = 4 := by subst hA; rfl
 have hnn4 : A.nneg 4 := by subst hA; show (0 : Int) <= 4; decide
 have hrm4 : A.room (A.tn 4) 8 := by rw [htn4]; exact Z8w hA
 have hrep4 : A.rep (A.tn 4) (I 0) = ([0, 0, 0, 0] : List Int).map I := by rw [htn4]; subst hA; rfl
 have hLl : LL.length = 4 := by rw [hL, List.length_map, hl.len]
 obtain ⟨F, hF⟩ : ∃ F, F = Z3i lies bin bins 0 [0, 0, 0, 0] a := ⟨_, rfl⟩;refine Z38 Z0 hA [10] Try.func137 rfl rfl rfl rfl rfl fun S hS => ?_;cbv;refine ⟨hnn4, hrm4, ?_⟩;refine Zb hS ?_;refine Za (α := Int × Nat × Int × List Int × List D) (fun q => { env := [(0, .sl 1 LL), (1, .o 0 1 nb), (2, I bin), (3, I q.2.2.1), (9, .o 1 1 4), (10, I q.1)], H := [.els 1 BL, .els 1 q.2.2.2.2], nt := 43, dfs := [] })
  (fun q => nb - q.2.1) (fun q => q.2.1 <= nb /\ IsI q.1 q.2.1 /\ (0 <= q.2.2.1 /\ q.2.2.1 <= 5) /\ F = Z3i lies bin (bins.drop q.2.1) q.2.1 q.2.2.2.1 q.2.2.1 /\ q.2.2.2.1.length = 4 /\ q.2.2.2.2 = q.2.2.2.1.map I) (0, 0, a, [0, 0, 0, 0], ([0, 0, 0, 0] : List Int).map I) ⟨Nat.zero_le _, ⟨rfl⟩, ha, hF, rfl, rfl⟩ ?_ ?_
 ·refine Z39 1 rfl hrep4 ?_;exact Zf [0, 1] ⟨by decide, Z2n, ⟨rfl, rfl, trivial⟩, ⟨rfl, rfl, rfl, rfl, congrArg (fun k => some (D.o 1 1 k)) htn4, rfl, trivial⟩, rfl, rfl⟩
 rintro ⟨i, k, x, out, OL⟩ ⟨u1, u2, u3, u4, u5, u6⟩;dsimp only at u1 u2 u3 u4 u5 u6;have hOl : OL.length = 4 := by rw [u6, List.length_map, u5]
 have hyes : A.cmp .lss i (A.oi nb) = true -> k < nb := fun c => by have := xlt hA c; rw [xoi hA] at this; have := u2.eq; omega
 have hno : A.cmp .lss i (A.oi nb) = false -> k = nb := fun c => by have := Z7x hA c; rw [xoi hA] at this; have := u2.eq; omega
 refine Zi Z0 hA hS ?_;cbv;refine bm (fun c => ?_) (fun c => ?_)
 ·have hk := hyes c;obtain ⟨b, hbk⟩ : ∃ b, bins[k]? = some b := ⟨_, List.getElem?_eq_getElem (by omega)⟩;have gB := Z18 hA u2 (show BL[k]? = some (I b) by rw [hB, List.getElem?_map, hbk]; rfl);obtain ⟨y, hy⟩ : ∃ y, y = lies.getD k 0 := ⟨_, rfl⟩;have gL := Z18 hA u2 (show LL[k]? = some (I y) by rw [hL, List.getElem?_map, Z4q (by rw [hl.len]; omega), hy]; rfl);obtain ⟨z, hz⟩ : ∃ z, z = out.getD k 0 := ⟨_, rfl⟩;have gO := Z18 hA u2 (show OL[k]? = some (I z) by rw [u6, List.getElem?_map, Z4q (by rw [u5]; omega), hz]; rfl);have iB : A.inb i nb := Z4o hA u2 hk;have iO : A.inb i 4 := Z4o hA u2 (by omega);have iL := Z1b hA hLl u2 (by omega);have hf1 := Zy hA u2 (by omega);have hu2 := Zz hA u2;have hms : nb - (k + 1) < nb - k := by omega
  have hy5 : 0 <= y /\ y <= 5 := by rw [hy]; exact ⟨hl.lo k, hl.hi k⟩
  have hmn : A.min y x = min y x := Zir hA y x;have hsb : A.sub x (A.min y x) = x - min y x := by rw [Z24 hA, hmn]
  have hfs : A.fits .i64 (A.sub x (A.min y x)) := Z14 hA hsb (by omega);have hx2 : 0 <= A.sub x (A.min y x) /\ A.sub x (A.min y x) <= 5 := by rw [hsb]; omega
  have hset : A.set OL (A.tn i) (I (A.min y x)) = (out.set k (min y x)).map I := by rw [Z7n hA u2 rfl, u6, List.map_set, hmn]
  have hkO : k < OL.length := by omega
  have gO2 : A.get (A.set OL (A.tn i) (I (A.min y x))) (A.tn i) = some (I (A.min y x)) := Z18 hA u2 (by rw [Z7n hA u2 rfl, List.getElem?_set_self hkO]);have hln : (out.set k (min y x)).length = 4 := by rw [List.length_set]; exact u5
  have hd := Zal hbk;have h1 : A.cmp .eql b bin = true -> F = Z3i lies bin (bins.drop (k + 1)) (k + 1) (out.set k (min y x)) (A.sub x (A.min y x)) := fun h => by
   rw [u4, hd];simp only [Z3i];rw [if_pos (xeq hA h), hsb, hy]
  have h0 : A.cmp .eql b bin = false -> F = Z3i lies bin (bins.drop (k + 1)) (k + 1) out x := fun h => by
   rw [u4, hd];simp only [Z3i];rw [if_neg (Z2o hA h)]
  cbv;refine ⟨iB, ⟨_, gB, ?_⟩⟩;cbv;refine bm (fun c1 => ?_) (fun c1 => ?_)
  ·have hz1 := h1 c1;cbv;refine ⟨iL, ⟨_, gL, ?_⟩⟩;cbv;refine ⟨iO, ⟨_, gO, ?_⟩⟩;cbv;refine ⟨iO, ⟨_, gO2, ?_⟩⟩;cbv;refine ⟨hfs, hf1, ?_⟩;refine Z8 (A.add i 1, k + 1, A.sub x (A.min y x), out.set k (min y x), A.set OL (A.tn i) (I (A.min y x))) [0, 1] ⟨hk, hu2, hx2, hz1, hln, hset⟩ hms ?_;exact ⟨by decide, Z2n, ⟨rfl, rfl, trivial⟩, ⟨rfl, rfl, rfl, rfl, rfl, rfl, trivial⟩, rfl, rfl⟩
  ·have hz1 := h0 c1;cbv;refine ⟨hf1, ?_⟩;refine Z8 (A.add i 1, k + 1, x, out, OL) [0, 1] ⟨hk, hu2, u3, hz1, u5, u6⟩ hms ?_;exact ⟨by decide, Z2n, ⟨rfl, rfl, trivial⟩, ⟨rfl, rfl, rfl, rfl, rfl, rfl, trivial⟩, rfl, rfl⟩
 ·have hk := hno c;have hF2 : F = (out, x) := by rw [u4, hk, hnb, List.drop_length]; rfl
  have h1 : A.cmp .gtr x 0 = true -> Q (RA.ret (.sl 1 [])) [.els 1 BL] := fun h => hq [] (by unfold Z7g; rw [<- hF, hF2, if_pos (xgt hA h)]; rfl);have h0 : A.cmp .gtr x 0 = false -> Q (RA.ret (.sl 1 [.sl 1 OL])) [.els 1 BL] := fun h => hq _ (by unfold Z7g; rw [<- hF, hF2, if_neg (by have := Zax hA h; show ¬ 0 < x; omega)]; rw [u6]; rfl);cbv;refine Z7 ?_;cbv;refine bm (fun c1 => ?_) (fun c1 => ?_)
  ·have hz := h1 c1;cbv;refine Z37 (d' := .sl 1 []) WkD.nil ?_;exact Z2 [0] (by decide) Z2n (H' := [.els 1 BL]) (d' := .sl 1 []) ⟨rfl, trivial⟩ rfl (Z1 hz)
  ·have hz := h0 c1;cbv;refine Z3h hS (Z1a hA [1] ?_);cbv;refine ⟨Ze hA hOl, ?_⟩;refine Z7 (Zb hS ?_);refine Zi Z0 hA hS ?_;cbv;refine Z1w [2] ?_;cbv;exact Z2 [0] (by decide) Z2n (H' := [.els 1 BL]) (d' := .sl 1 [.sl 1 OL]) ⟨rfl, trivial⟩ rfl (Z1 hz)
end Go.Proofs.Ytecfpfhkicapeaa

namespace Go.Proofs.Ytecfpfhkicapeaa
open Go Go.Abs Go.Proofs Go.Batch
theorem Z89 (l : List (List Int)) : (Z79 l).length = l.length := by simp [Z79]
set_option maxRecDepth 20000 in
set_option maxHeartbeats 8000000 in
theorem Znh (bins lies : List Int) (hb4 : bins.length <= 4) (hl : LOk lies) (bin : Int) (LL BL : List D) (hL : LL = lies.map I) (hB : BL = bins.map I) (nb : Nat) (hnb : nb = bins.length) : ∀ (fr : Nat) (a fI : Int), fr + 0 = nb -> IsI fI fr -> 0 <= a /\ a <= 5 -> ∀ (Q : RA -> List Blk -> Prop), (∀ WL, WL = Z79 (Z4w lies bin (bins.drop fr) fr a) -> Q (RA.ret (.sl 1 WL)) [.els 1 BL]) -> CallA Try.prog 138 [.sl 1 LL, .o 0 1 nb, I bin, I a, I fI] [.els 1 BL] Q := by
 obtain ⟨A, hA⟩ : ∃ A, A = ar := ⟨_, rfl⟩;have htn4 : A.tn 4 = 4 := by subst hA; rfl
 have hnn4 : A.nneg 4 := by subst hA; show (0 : Int) <= 4; decide
 have hrm4 : A.room (A.tn 4) 8 := by rw [htn4]; exact Z8w hA
 have hrep4 : A.rep (A.tn 4) (I 0) = ([0, 0, 0, 0] : List Int).map I := by rw [htn4]; subst hA; rfl
 have hLl : LL.length = 4 := by rw [hL, List.length_map, hl.len]
 intro fr a fI hd hf ha Q hq;have hfe : A.cmp .eql fI (A.oi nb) = true := by rw [xoi hA, hf.eq, show fr = nb by omega]; subst hA; simp [ar, Z25]
 have hdr : bins.drop fr = [] := List.drop_eq_nil_of_le (by omega);rw [hdr] at hq;have h1 : A.cmp .gtr a 0 = true -> Q (RA.ret (.sl 1 [])) [.els 1 BL] := fun h => hq [] (by unfold Z4w; rw [if_pos (xgt hA h)]; rfl);have h0 : A.cmp .gtr a 0 = false -> Q (RA.ret (.sl 1 [.sl 1 (([0, 0, 0, 0] : List Int).map I)])) [.els 1 BL] := fun h => hq _ (by unfold Z4w; rw [if_neg (by have := Zax hA h; omega)]; rfl);obtain ⟨ZL, hZL⟩ : ∃ ZL, ZL = ([0, 0, 0, 0] : List Int).map I := ⟨_, rfl⟩;have hZl : ZL.length = 4 := by rw [hZL]; rfl
 rw [<- hZL] at h0 hrep4;have hE0 : A.eqN (A.tn 4) (A.len ZL) := Zkd hA (by rw [htn4, Z9m hA hZl]);refine Z38 Z0 hA [4] Try.func138 rfl rfl rfl rfl rfl fun S hS => ?_;cbv;refine bmT hfe ?_;cbv;refine bm (fun c => ?_) (fun c => ?_)
 ·have hz := h1 c;cbv;refine Z37 (d' := .sl 1 []) WkD.nil ?_;exact Z2 [0] (by decide) Z2n (H' := [.els 1 BL]) (d' := .sl 1 []) ⟨rfl, trivial⟩ rfl (Z1 hz)
 ·have hz := h0 c;cbv;refine Z4j Z0 hA hS [0] [1, 2] rfl ?_;cbv;refine ⟨hnn4, hrm4, ?_⟩;refine Z26 hS (Z39 1 rfl hrep4 (Z1a hA [1] ?_));cbv;refine ⟨hE0, ?_⟩;refine Z7 (Zii hS ?_);refine Z3 Z0 hA hS ?_;cbv;refine Z1w [2] ?_;cbv;exact Z2 [0] (by decide) Z2n (H' := [.els 1 BL]) (d' := .sl 1 [.sl 1 ZL]) ⟨rfl, trivial⟩ rfl (Z1 hz)
set_option maxRecDepth 20000 in
set_option maxHeartbeats 8000000 in
theorem Zni (bins lies : List Int) (hb4 : bins.length <= 4) (hl : LOk lies) (bin : Int) (LL BL : List D) (hL : LL = lies.map I) (hB : BL = bins.map I) (nb : Nat) (hnb : nb = bins.length) (d : Nat) (ih : ∀ (fr : Nat) (a fI : Int), fr + d = nb -> IsI fI fr -> 0 <= a /\ a <= 5 -> ∀ (Q : RA -> List Blk -> Prop), (∀ WL, WL = Z79 (Z4w lies bin (bins.drop fr) fr a) -> Q (RA.ret (.sl 1 WL)) [.els 1 BL]) -> CallA Try.prog 138 [.sl 1 LL, .o 0 1 nb, I bin, I a, I fI] [.els 1 BL] Q) : ∀ (fr : Nat) (a fI : Int), fr + (d + 1) = nb -> IsI fI fr -> 0 <= a /\ a <= 5 -> ∀ (Q : RA -> List Blk -> Prop), (∀ WL, WL = Z79 (Z4w lies bin (bins.drop fr) fr a) -> Q (RA.ret (.sl 1 WL)) [.els 1 BL]) -> CallA Try.prog 138 [.sl 1 LL, .o 0 1 nb, I bin, I a, I fI] [.els 1 BL] Q := by
 obtain ⟨A, hA⟩ : ∃ A, A = ar := ⟨_, rfl⟩;have htn4 : A.tn 4 = 4 := by subst hA; rfl
 have hnn4 : A.nneg 4 := by subst hA; show (0 : Int) <= 4; decide
 have hrm4 : A.room (A.tn 4) 8 := by rw [htn4]; exact Z8w hA
 have hrep4 : A.rep (A.tn 4) (I 0) = ([0, 0, 0, 0] : List Int).map I := by rw [htn4]; subst hA; rfl
 have hLl : LL.length = 4 := by rw [hL, List.length_map, hl.len]
 intro fr a fI hd hf ha Q hq;have hfr : fr < nb := by omega
 have hfe : A.cmp .eql fI (A.oi nb) = false := by rw [xoi hA, hf.eq]; subst hA; simp [ar, Z25]; omega
 obtain ⟨b, hbk⟩ : ∃ b, bins[fr]? = some b := ⟨_, List.getElem?_eq_getElem (by omega)⟩;obtain ⟨y, hy⟩ : ∃ y, y = lies.getD fr 0 := ⟨_, rfl⟩;have hyb : 0 <= y /\ y <= 5 := by rw [hy]; exact ⟨hl.lo _, hl.hi _⟩
 have gB := Z18 hA hf (show BL[fr]? = some (I b) by rw [hB, List.getElem?_map, hbk]; rfl);have gL := Z18 hA hf (show LL[fr]? = some (I y) by rw [hL, List.getElem?_map, Z4q (by rw [hl.len]; omega), hy]; rfl);have iB : A.inb fI nb := Z4o hA hf hfr;have iL := Z1b hA hLl hf (by omega);have hff := Zy hA hf (by omega);have hf1 := Zz hA hf;obtain ⟨top, htop⟩ : ∃ top, top = if b = bin then min a y else 0 := ⟨_, rfl⟩
 rw [Zal hbk, Zoz] at hq;obtain ⟨bs, hbs⟩ : ∃ bs, bs = bins.drop (fr + 1) := ⟨_, rfl⟩;have hbsl : fr + 1 + bs.length <= 4 := by rw [hbs, List.length_drop]; omega
 have hbig : (Zbb lies bin b bs fr a 0).length <= 1296 := by
  rw [<- Zoz];refine Nat.le_trans (Zdl hl (b :: bs) fr a) ?_;rw [List.length_cons];exact Nat.le_trans (Nat.pow_le_pow_right (by decide) (show bs.length + 1 <= 4 by omega)) (by decide)
 rw [<- hbs] at hq;have hih := fun (n : Int) (hn : 0 <= n /\ n <= a) Q h => ih (fr + 1) (A.sub a n) (A.add fI 1) (by omega) hf1 (by rw [Z24 hA]; omega) Q h;simp only [<- hbs] at hih;obtain ⟨W, hW⟩ : ∃ W, W = Zbb lies bin b bs fr a 0 := ⟨_, rfl⟩;rw [<- hW] at hq hbig;refine Z5 Z0 hA Try.func138 rfl rfl rfl rfl rfl fun S hS => ?_;cbv;refine bmF hfe ?_;cbv;refine Zb hS ?_;refine Za (α := Int × List (List Int) × Nat × List D) (fun q => { env := [(0, .sl 1 LL), (1, .o 0 1 nb), (2, I bin), (3, I a), (4, I fI), (11, .o 1 1 q.2.2.1), (12, I q.1)], H := [.els 1 BL, .els 1 q.2.2.2], nt := 77, dfs := [] })
  (fun q => (7 - q.1).toNat) (fun q => (0 <= q.1 /\ q.1 <= 6) /\ W = q.2.1 ++ Zbb lies bin b bs fr a q.1 /\ q.2.2.1 = q.2.1.length /\ q.2.2.2 = Z79 q.2.1) (0, [], 0, []) ⟨by decide, hW, rfl, rfl⟩ ?_ ?_
 ·refine Z2a 11 1 rfl ?_;exact Zf [0, 1] ⟨by decide, Z2n, ⟨rfl, rfl, trivial⟩, ⟨rfl, rfl, rfl, rfl, rfl, rfl, rfl, trivial⟩, rfl, rfl⟩
 rintro ⟨n, done, c0, OL⟩ ⟨u1, u2, u3, u4⟩;dsimp only at u1 u2 u3 u4;have hOl : OL.length = c0 := by rw [u4, u3, Z89]
 have hend : top < n -> Q (RA.ret (.sl 1 OL)) [.els 1 BL] := fun h => hq OL (by rw [u2, Zqn (by rw [<- hy, <- htop]; exact h), List.append_nil, u4]);have hnI : IsI n n.toNat := ⟨by omega⟩;have hfn : A.fits .i64 (A.add n 1) := Zy hA hnI (by omega);have hn1 : A.add n 1 = n + 1 := Z58 hA _ _;have hsub : A.sub a n = a - n := Z24 hA _ _;refine Z2w Z0 hA hS [9] ?_;cbv;refine bm (fun c1 => ?_) (fun c1 => ?_)
 ·have hna := xle hA c1;cbv;refine ⟨iL, ⟨_, gL, ?_⟩⟩;cbv;refine bm (fun c2 => ?_) (fun c2 => ?_)
  ·have hny := xle hA c2;have e1 : A.cmp .gtr n 0 = true -> A.cmp .neq b bin = true -> top < n := fun h1 h2 => by rw [htop, if_neg (xne hA h2)]; exact xgt hA h1
   have e2 : A.cmp .neq b bin = false -> n <= top := fun h2 => by rw [htop, if_pos (Z4t hA h2)]; omega
   have e3 : A.cmp .gtr n 0 = false -> n <= top := fun h1 => by have := Zax hA h1; rw [htop]; split <;> omega
   cbv;obtain ⟨bb, hbb⟩ : ∃ bb, bb = (A.cmp .gtr n 0 && A.cmp .neq b bin) := ⟨_, rfl⟩;have g1 : A.cmp .gtr n 0 = true -> A.cmp .neq b bin = bb := fun h => by rw [hbb, h]; rfl
   have g0 : A.cmp .gtr n 0 = false -> false = bb := fun h => by rw [hbb, h]; rfl
   have gT : bb = true -> top < n := fun h => by
    rw [hbb, Bool.and_eq_true] at h;exact e1 h.1 h.2
   have gF : bb = false -> n <= top := fun h => by
    cases hc : A.cmp .gtr n 0 with
    | false => exact e3 hc
    | true => exact e2 ((g1 hc).trans h)
   refine Zch hS { env := [(0, .sl 1 LL), (1, .o 0 1 nb), (2, I bin), (3, I a), (4, I fI), (11, .o 1 1 c0), (12, I n), (46, .v (.bool bb))], H := [.els 1 BL, .els 1 OL], nt := 77, dfs := [] } ?_ ?_
   ·refine Zb hS ?_;refine Zi Z0 hA hS ?_;cbv;refine bm (fun c3 => ?_) (fun c3 => ?_)
    ·have hz := congrArg (fun b => some (D.v (.bool b))) (g1 c3);cbv;refine ⟨iB, ⟨_, gB, ?_⟩⟩;cbv;exact Zf [0, 1] ⟨by decide, Z2n, ⟨rfl, rfl, trivial⟩, ⟨rfl, rfl, rfl, rfl, rfl, rfl, rfl, hz, trivial⟩, rfl, rfl⟩
    ·have hz := congrArg (fun b => some (D.v (.bool b))) (g0 c3);cbv;exact Zf [0, 1] ⟨by decide, Z2n, ⟨rfl, rfl, trivial⟩, ⟨rfl, rfl, rfl, rfl, rfl, rfl, rfl, hz, trivial⟩, rfl, rfl⟩
   cbv
   cases bb with
   | true =>
    have hz := hend (gT rfl);cbv;refine Z7 ?_;cbv;refine Z1w [1] ?_;cbv;exact ⟨by cases OL <;> exact hOl.symm, Z2 [0] (by decide) Z2n (H' := [.els 1 BL]) (d' := .sl 1 OL) ⟨rfl, trivial⟩ rfl (Z1 hz)⟩
   | false =>
   have hnt := gF rfl;have hfs : A.fits .i64 (A.sub a n) := Z14 hA hsub (by omega);have hnx := Zng (lies := lies) (bin := bin) (b := b) (bs := bs) (i := fr) (a := a) (n := n) (by rw [<- hy, <- htop]; exact hnt);obtain ⟨rs, hrs⟩ : ∃ rs, rs = Z4w lies bin bs (fr + 1) (a - n) := ⟨_, rfl⟩;have hr4 : ∀ of ∈ rs, of.length = 4 := by rw [hrs]; exact Znf hl (by omega) hbsl
   rw [<- hrs] at hnx;rw [hnx] at u2;have hln : done.length + rs.length <= 1296 := by rw [u2] at hbig; simp at hbig; omega
   have hcl := hih n ⟨u1.1, hna⟩;rw [hsub, <- hrs, <- hsub] at hcl;have hn5 : 0 <= n + 1 /\ n + 1 <= 6 := by omega
   have hms : (7 - (n + 1)).toNat < (7 - n).toNat := by omega
   cbv;refine ⟨hfs, hff, ?_⟩;refine Z4 hS [.sl 1 LL, .o 0 1 nb, I bin, I (A.sub a n), I (A.add fI 1)] [0] [.els 1 BL] rfl rfl rfl rfl rfl rfl rfl rfl (by decide) ⟨rfl, trivial⟩ (hcl _ fun RL hRL => ?_);have hRl : RL.length = rs.length := by rw [hRL, Z89]
   refine Z3 Z0 hA hS ?_;cbv;refine Zb hS ?_;refine Za (α := Int × Nat × Nat × List D) (fun q => { env := [(0, .sl 1 LL), (1, .o 0 1 nb), (2, I bin), (3, I a), (4, I fI), (11, .o 1 1 q.2.2.1), (12, I n), (13, .sl 1 RL), (14, I q.1)], H := [.els 1 BL, .els 1 q.2.2.2], nt := 77, dfs := [] })
    (fun q => rs.length - q.2.1) (fun q => q.2.1 <= rs.length /\ IsI q.1 q.2.1 /\ q.2.2.1 = done.length + q.2.1 /\ q.2.2.2 = Z79 (done ++ (rs.take q.2.1).map fun of => of.set fr n)) (0, 0, c0, OL) ⟨Nat.zero_le _, ⟨rfl⟩, u3, by simpa using u4⟩ ?_ ?_
   ·exact Zf [0, 1] ⟨by decide, Z2n, ⟨rfl, rfl, trivial⟩, ⟨rfl, rfl, rfl, rfl, rfl, rfl, rfl, rfl, rfl, trivial⟩, rfl, rfl⟩
   rintro ⟨ti, s, c3, ML⟩ ⟨v1, v2, v3, v4⟩;dsimp only at v1 v2 v3 v4;have hMl : ML.length = c3 := by rw [v4, v3, Z89]; simp; omega
   have hyes : A.cmp .lss ti (A.oi (A.len RL)) = true -> s < rs.length := fun c => Z31 hA hRl v2 c;have hno : A.cmp .lss ti (A.oi (A.len RL)) = false -> s = rs.length := fun c => by have := Z21 hA hRl v2 c; omega
   refine Z2w Z0 hA hS [16] ?_;cbv;refine bm (fun c5 => ?_) (fun c5 => ?_)
   ·have hs := hyes c5;obtain ⟨p, hp⟩ : ∃ p, rs[s]? = some p := ⟨_, List.getElem?_eq_getElem hs⟩;have hp4 := hr4 p (List.mem_of_getElem? hp);obtain ⟨PL, hPL⟩ : ∃ PL, PL = p.map I := ⟨_, rfl⟩;have hPl : PL.length = 4 := by rw [hPL, List.length_map, hp4]
    have gR := Z18 hA v2 (show RL[s]? = some (.sl 1 PL) by rw [hRL, hPL, Z79, List.getElem?_map, hp]; rfl);have iR := Z1b hA hRl v2 hs;have hft := Zy hA v2 (by omega);have hv2 := Zz hA v2;have hms2 : rs.length - (s + 1) < rs.length - s := by omega
    have hn4 : A.addN 0 (A.len PL) = 4 := by rw [Z2e hA, Z9m hA hPl]
    have hr4' : A.room (A.addN 0 (A.len PL)) 8 := by rw [hn4]; exact Z8w hA
    have hap : A.app [] PL = PL := by rw [Z33 hA, List.nil_append]
    have iF : A.inb fI (A.addN 0 (A.len PL)) := by rw [hn4]; exact Z4o hA hf (by omega)
    obtain ⟨z, hz⟩ : ∃ z, z = p.getD fr 0 := ⟨_, rfl⟩;have gP : A.get (A.app [] PL) (A.tn fI) = some (I z) := by rw [hap]; exact Z18 hA hf (by rw [hPL, List.getElem?_map, Z4q (by omega), hz]; rfl)
    obtain ⟨PS, hPS⟩ : ∃ PS, PS = (p.set fr n).map I := ⟨_, rfl⟩;have hset : A.set (A.app [] PL) (A.tn fI) (I n) = PS := by rw [hap, Z7n hA hf rfl, hPS, hPL, List.map_set]
    have hPSl : PS.length = 4 := by rw [hPS, List.length_map, List.length_set, hp4]
    have hE4 : A.eqN (A.addN 0 (A.len PL)) (A.len PS) := Zkd hA (by rw [hn4, Z9m hA hPSl]);have hc6 : c3 <= 1000000 := by omega
    have hc1 : A.addN c3 1 = done.length + (s + 1) := by rw [Z2e hA, v3]; omega
    have hL2 : A.app ML [.sl 1 PS] = Z79 (done ++ (rs.take (s + 1)).map fun of => of.set fr n) := by rw [Z33 hA, v4, List.take_add_one, hp, hPS]; simp [Z79]
    cbv;refine ⟨iR, ⟨_, gR, ?_⟩⟩;cbv;refine ⟨Ze hA rfl, hr4', iF, ⟨_, gP, ?_⟩⟩;cbv;refine Z3h hS (Z39 3 rfl hset (Z1a hA [3] ?_));cbv
    repeat (refine And.intro hE4 ?_)
    refine Z7 (Zb hS ?_);refine Zi Z0 hA hS ?_;cbv;refine ⟨Ze hA hMl, Ze hA rfl, Z27 hA hc6 (by decide), hft, ?_⟩;refine Z8 (A.add ti 1, s + 1, A.addN c3 1, A.app ML [.sl 1 PS]) [0, 5] ⟨hs, hv2, hc1, hL2⟩ hms2 ?_;exact ⟨by decide, Z2n, ⟨rfl, rfl, trivial⟩, ⟨rfl, rfl, rfl, rfl, rfl, rfl, rfl, rfl, rfl, trivial⟩, rfl, rfl⟩
   ·have hs := hno c5;have hW2 : W = (done ++ rs.map fun of => of.set fr n) ++ Zbb lies bin b bs fr a (A.add n 1) := by rw [u2, hn1, List.append_assoc]
    have hc2 : c3 = (done ++ rs.map fun of => of.set fr n).length := by rw [v3, hs]; simp
    have hM2 : ML = Z79 (done ++ rs.map fun of => of.set fr n) := by rw [v4, hs, List.take_length]
    rw [<- hn1] at hn5 hms;cbv;refine Z7 ?_;cbv;refine ⟨hfn, ?_⟩;refine Z8 (A.add n 1, done ++ rs.map (fun of => of.set fr n), c3, ML) [0, 1] ⟨hn5, hW2, hc2, hM2⟩ hms ?_;exact ⟨by decide, Z2n, ⟨rfl, rfl, trivial⟩, ⟨rfl, rfl, rfl, rfl, rfl, rfl, rfl, trivial⟩, rfl, rfl⟩
  ·have hz := hend (by have := Zec hA c2; rw [htop]; split <;> omega);cbv;refine Z7 ?_;cbv;refine Z1w [1] ?_;cbv;exact ⟨by cases OL <;> exact hOl.symm, Z2 [0] (by decide) Z2n (H' := [.els 1 BL]) (d' := .sl 1 OL) ⟨rfl, trivial⟩ rfl (Z1 hz)⟩
 ·have hz := hend (by have := Zec hA c1; rw [htop]; split <;> omega);cbv;refine Z7 ?_;cbv;refine Z1w [1] ?_;cbv;exact ⟨by cases OL <;> exact hOl.symm, Z2 [0] (by decide) Z2n (H' := [.els 1 BL]) (d' := .sl 1 OL) ⟨rfl, trivial⟩ rfl (Z1 hz)⟩
theorem Zwg (bins lies : List Int) (hb4 : bins.length <= 4) (hl : LOk lies) (bin : Int) (LL BL : List D) (hL : LL = lies.map I) (hB : BL = bins.map I) (nb : Nat) (hnb : nb = bins.length) : ∀ d : Nat, ∀ (fr : Nat) (a fI : Int), fr + d = nb -> IsI fI fr -> 0 <= a /\ a <= 5 -> ∀ (Q : RA -> List Blk -> Prop), (∀ WL, WL = Z79 (Z4w lies bin (bins.drop fr) fr a) -> Q (RA.ret (.sl 1 WL)) [.els 1 BL]) -> CallA Try.prog 138 [.sl 1 LL, .o 0 1 nb, I bin, I a, I fI] [.els 1 BL] Q
 | 0 => Znh bins lies hb4 hl bin LL BL hL hB nb hnb
 | d + 1 => Zni bins lies hb4 hl bin LL BL hL hB nb hnb d (Zwg bins lies hb4 hl bin LL BL hL hB nb hnb d)
end Go.Proofs.Ytecfpfhkicapeaa

namespace Go.Batch
theorem Zti {q : Ask} {inst : Int} {of : List Int} {x : Int} (hx : 0 <= x /\ x <= 15) (hi : 0 <= inst /\ inst < 4) (ho : LOk of) : ∀ k, k <= 4 -> 0 <= Z78 q inst of x k /\ Z78 q inst of x k <= 15 + 5 * k /\ (q.kind ≠ 2 -> Z78 q inst of x k <= 15)
 | 0, _ => by simp only [Z78]; omega
 | k + 1, hk => by
  have ih := Zti (q := q) hx hi ho k (by omega);have h0 := ho.lo k;have h5 := ho.hi k;simp only [Z78]
  split
  ·omega
  ·unfold Zm
   split
   ·rename_i h
    have := Go.Proofs.Ytecfpfhkicapeaa.withB_15 (k := inst.toNat) ih.1 (ih.2.2 (by omega)) (by omega);omega
   split
   ·rename_i h; omega
   split
   ·rename_i h
    have := Go.Proofs.Ytecfpfhkicapeaa.withB_15 (k := k) ih.1 (ih.2.2 (by omega)) (by omega);omega
   ·omega
end Go.Batch
namespace Go.Proofs.Ytecfpfhkicapeaa
open Go Go.Abs Go.Proofs Go.Batch
theorem yor {A : Ar} (hA : A = ar) {x n : Int} {k : Nat} (hx : 0 <= x /\ x <= 15) (hn : IsI n k) (hk : k < 4) : A.bits .or .i64 x (A.shift .shl .i64 1 n) = Z2h x k := by
 subst hA;have := Zos hk;rw [Zhi hn hk, Zwf hx.1 (by omega) (by omega) (by omega), Z2h]
 congr 1
set_option maxRecDepth 20000 in
set_option maxHeartbeats 2000000 in
theorem Zyj (l : List Int) (hl : l.length <= 1000000) (L : List D) (hL : L = l.map I) (v : Int) (b : Bool) (hb : b = decide (v ∈ l)) (Q) (hq : Q (RA.ret (.v (.bool b))) []) : CallA Try.prog 95 [.sl 1 L, I v] [] Q := by
 obtain ⟨A, hA⟩ : ∃ A, A = ar := ⟨_, rfl⟩;have hLl : L.length = l.length := by rw [hL]; simp
 refine Z5 Z0 hA Try.func95 rfl rfl rfl rfl rfl fun S hS => ?_;cbv;refine Zb hS ?_;refine Za (α := Int × Nat) (fun q => { env := [(0, .sl 1 L), (1, I v), (5, I q.1)], H := [], nt := 18, dfs := [] })
  (fun q => l.length - q.2) (fun q => q.2 <= l.length /\ IsI q.1 q.2 /\ ∀ x ∈ l.take q.2, x ≠ v) (0, 0) ⟨Nat.zero_le _, ⟨rfl⟩, fun x h => by simp at h⟩ ?_ ?_
 ·exact Zf [] ⟨by decide, Z9, trivial, ⟨rfl, rfl, rfl, trivial⟩, rfl, rfl⟩
 rintro ⟨i, k⟩ ⟨u1, u2, u3⟩;dsimp only at u1 u2 u3;have hyes : A.cmp .lss i (A.oi (A.len L)) = true -> k < l.length := fun c => Z31 hA hLl u2 c;have hno : A.cmp .lss i (A.oi (A.len L)) = false -> k = l.length := fun c => by have := Z21 hA hLl u2 c; omega
 refine Zi Z0 hA hS ?_;cbv;refine bm (fun c => ?_) (fun c => ?_)
 ·have hk := hyes c;obtain ⟨e, he⟩ : ∃ e, l[k]? = some e := ⟨_, List.getElem?_eq_getElem hk⟩;have gL := Z18 hA u2 (show L[k]? = some (I e) by rw [hL, List.getElem?_map, he]; rfl);have iL := Z1b hA hLl u2 hk;have hf1 := Zy hA u2 (by omega);have hu2 := Zz hA u2;have hms : l.length - (k + 1) < l.length - k := by omega
  have hit : A.cmp .eql e v = true -> Q (RA.ret (.v (.bool true))) [] := fun h => by
   rw [hb, decide_eq_true (xeq hA h ▸ List.mem_of_getElem? he)] at hq; exact hq
  have hms2 : A.cmp .eql e v = false -> ∀ x ∈ l.take (k + 1), x ≠ v := fun h x hx => by
   rw [List.take_add_one, he] at hx;rcases List.mem_append.1 hx with hx | hx
   ·exact u3 x hx
   ·simp at hx; subst hx; exact Z2o hA h
  cbv;refine ⟨iL, ⟨_, gL, ?_⟩⟩;cbv;refine bm (fun c1 => ?_) (fun c1 => ?_)
  ·have hz := hit c1;cbv;refine Z7 ?_;cbv;exact Z2 [] (by decide) Z9 (H' := []) (d' := .v (.bool true)) trivial rfl (Z1 hz)
  ·have hz := hms2 c1;cbv;refine ⟨hf1, ?_⟩;refine Z8 (A.add i 1, k + 1) [] ⟨hk, hu2, hz⟩ hms ?_;exact ⟨by decide, Z9, trivial, ⟨rfl, rfl, rfl, trivial⟩, rfl, rfl⟩
 ·have hk := hno c;have hz : Q (RA.ret (.v (.bool false))) [] := by
   rw [hb, decide_eq_false (fun h => u3 v (by rw [hk, List.take_length]; exact h) rfl)] at hq; exact hq
  cbv;refine Z7 ?_;cbv;exact Z2 [] (by decide) Z9 (H' := []) (d' := .v (.bool false)) trivial rfl (Z1 hz)
def Zcy (q : Go.Batch.Ask) (QB : List D) : D := .agg [I q.kind, I q.inst, I q.batch, .sl 1 QB]
set_option maxRecDepth 20000 in
set_option maxHeartbeats 8000000 in
theorem Zx7 (q : Go.Batch.Ask) (hqb : q.batches.length <= 1000000) (QB : List D) (hQB : QB = q.batches.map I) (x0 : Int) (hx0 : 0 <= x0 /\ x0 <= 15) (of : List Int) (ho : LOk of) (TL : List D) (hT : TL = of.map I) (inst : Int) (hi : 0 <= inst /\ inst < 4) (Q) (hq : Q (RA.ret (I (Z78 q inst of x0 4))) []) :
  CallA Try.prog 139 [Zcy q QB, I x0, .sl 1 TL, I inst] [] Q := by
 obtain ⟨A, hA⟩ : ∃ A, A = ar := ⟨_, rfl⟩;obtain ⟨kd, qi, qb, bs⟩ := q;have hTl : TL.length = 4 := by rw [hT, List.length_map, ho.len]
 have hiI : IsI inst inst.toNat := ⟨by omega⟩;have hin : A.nneg inst := by subst hA; exact hi.1
 unfold Zcy;dsimp only at hqb hQB ⊢;obtain ⟨N, hN⟩ : ∃ N, N = Z78 ⟨kd, qi, qb, bs⟩ inst of x0 := ⟨_, rfl⟩;have hNb := fun k hk => Zti (q := ⟨kd, qi, qb, bs⟩) hx0 hi ho k hk;rw [<- hN] at hq hNb;have hN0 : N 0 = x0 := by rw [hN]; rfl
 refine Z5 Z0 hA Try.func139 rfl rfl rfl rfl rfl fun S hS => ?_;cbv;refine Zb hS ?_;refine Za (α := Int × Nat × Int) (fun z => { env := [(1, I z.2.2), (2, .sl 1 TL), (3, I inst), (4, .b 0 0), (9, I z.1)], H := [.box (.agg [I kd, I qi, I qb, .sl 1 QB])], nt := 72, dfs := [] })
  (fun z => 4 - z.2.1) (fun z => z.2.1 <= 4 /\ IsI z.1 z.2.1 /\ z.2.2 = N z.2.1) (0, 0, x0) ⟨Nat.zero_le _, ⟨rfl⟩, hN0.symm⟩ ?_ ?_
 ·exact Zf [0] ⟨by decide, Z9, ⟨rfl, trivial⟩, ⟨rfl, rfl, rfl, rfl, rfl, trivial⟩, rfl, rfl⟩
 rintro ⟨i, k, x⟩ ⟨u1, u2, u3⟩;dsimp only at u1 u2 u3;have hyes : A.cmp .lss i (A.oi (A.len TL)) = true -> k < 4 := fun c => Z31 hA hTl u2 c;have hno : A.cmp .lss i (A.oi (A.len TL)) = false -> k = 4 := fun c => by have := Z21 hA hTl u2 c; omega
 refine Zi Z0 hA hS ?_;cbv;refine bm (fun c => ?_) (fun c => ?_)
 ·have hk := hyes c;have hie := u2.eq;obtain ⟨t, ht⟩ : ∃ t, t = of.getD k 0 := ⟨_, rfl⟩;have htb : 0 <= t /\ t <= 5 := by rw [ht]; exact ⟨ho.lo k, ho.hi k⟩
  have gT := Z18 hA u2 (show TL[k]? = some (I t) by rw [hT, List.getElem?_map, Z4q (by rw [ho.len]; omega), ht]; rfl);have iT := Z1b hA hTl u2 hk;have hf1 := Zy hA u2 (by omega);have hu2 := Zz hA u2;have hms : 4 - (k + 1) < 4 - k := by omega
  have hib : A.nneg i := by have := u2.eq; subst hA; show 0 <= i; omega
  have hxb : 0 <= N k /\ N k <= 15 + 5 * (k : Int) /\ (kd ≠ 2 -> N k <= 15) := hNb k (by omega);rw [<- u3] at hxb;have hxt : 0 <= x + t /\ x + t <= 100 := by omega
  have hfx : A.fits .i64 (A.add x t) := Z14 hA (Z58 hA x t) (by omega);have hstep : N (k + 1) = if t = 0 then x else Zm ⟨kd, qi, qb, bs⟩ x inst k t := by rw [u3, ht, hN]; rfl
  have hs0 : A.cmp .eql t 0 = true -> x = N (k + 1) := fun h => by rw [hstep, if_pos (xeq hA h)]
  have hst : A.cmp .eql t 0 = false -> N (k + 1) = Zm ⟨kd, qi, qb, bs⟩ x inst k t := fun h => by rw [hstep, if_neg (Z2o hA h)]
  have ask : Zm ⟨kd, qi, qb, bs⟩ x inst k t = if kd = 1 /\ i ∈ bs then Z2h x inst.toNat else if kd = 2 /\ qb = i /\ qi = inst then x + t else if kd = 3 /\ qi = inst then Z2h x k else x := by rw [hie]; rfl
  have a1 : A.cmp .eql kd 1 = true -> decide (i ∈ bs) = true -> A.bits .or .i64 x (A.shift .shl .i64 1 inst) = Zm ⟨kd, qi, qb, bs⟩ x inst k t := fun h1 h2 => by
   have e := xeq hA h1;rw [ask, if_pos ⟨e, of_decide_eq_true h2⟩];exact yor hA (by omega) hiI (by omega)
  have a1n : A.cmp .eql kd 1 = true -> decide (i ∈ bs) = false -> x = Zm ⟨kd, qi, qb, bs⟩ x inst k t := fun h1 h2 => by
   have e := xeq hA h1;rw [ask, if_neg (fun g => of_decide_eq_false h2 g.2), if_neg (by omega), if_neg (by omega)]
  have a2 : A.cmp .eql kd 2 = true -> A.cmp .eql qb i = true -> A.cmp .eql qi inst = true -> A.add x t = Zm ⟨kd, qi, qb, bs⟩ x inst k t := fun h1 h2 h3 => by
   have e := xeq hA h1;rw [ask, if_neg (by omega), if_pos ⟨e, xeq hA h2, xeq hA h3⟩, Z58 hA]
  have a2n : A.cmp .eql kd 2 = true -> (A.cmp .eql qb i = false ∨ A.cmp .eql qi inst = false) -> x = Zm ⟨kd, qi, qb, bs⟩ x inst k t := fun h1 h2 => by
   have e := xeq hA h1;rw [ask, if_neg (by omega), if_neg (fun g => ?_), if_neg (by omega)];rcases h2 with h2 | h2
   ·exact Z2o hA h2 g.2.1
   ·exact Z2o hA h2 g.2.2
  have a3 : A.cmp .eql kd 3 = true -> A.cmp .eql qi inst = true -> A.bits .or .i64 x (A.shift .shl .i64 1 i) = Zm ⟨kd, qi, qb, bs⟩ x inst k t := fun h1 h2 => by
   have e := xeq hA h1;rw [ask, if_neg (by omega), if_neg (by omega), if_pos ⟨e, xeq hA h2⟩];exact yor hA (by omega) u2 hk
  have a3n : A.cmp .eql kd 3 = true -> A.cmp .eql qi inst = false -> x = Zm ⟨kd, qi, qb, bs⟩ x inst k t := fun h1 h2 => by
   have e := xeq hA h1;rw [ask, if_neg (by omega), if_neg (by omega), if_neg (fun g => Z2o hA h2 g.2)]
  have a4 : A.cmp .eql kd 1 = false -> A.cmp .eql kd 2 = false -> A.cmp .eql kd 3 = false -> x = Zm ⟨kd, qi, qb, bs⟩ x inst k t := fun h1 h2 h3 => by
   rw [ask, if_neg (fun g => Z2o hA h1 g.1), if_neg (fun g => Z2o hA h2 g.1), if_neg (fun g => Z2o hA h3 g.1)]
  have k12 : A.cmp .eql kd 1 = true -> A.cmp .eql kd 2 = false /\ A.cmp .eql kd 3 = false := fun h => by rw [xeq hA h]; subst hA; exact ⟨rfl, rfl⟩
  have k23 : A.cmp .eql kd 2 = true -> A.cmp .eql kd 3 = false := fun h => by rw [xeq hA h]; subst hA; rfl
  have hhas := fun b hb Q h => Zyj bs hqb QB hQB i b hb Q h;obtain ⟨Z, hZ⟩ : ∃ Z, Z = Zm ⟨kd, qi, qb, bs⟩ x inst k t := ⟨_, rfl⟩;rw [<- hZ] at hst a1 a1n a2 a2n a3 a3n a4;cbv;refine ⟨iT, ⟨_, gT, ?_⟩⟩;cbv;refine bm (fun c0 => ?_) (fun c0 => ?_)
  ·have hz : x = N (k + 1) := hs0 c0;cbv;refine ⟨hf1, ?_⟩;refine Z8 (A.add i 1, k + 1, x) [0] ⟨hk, hu2, hz⟩ hms ?_;exact ⟨by decide, Z9, ⟨rfl, trivial⟩, ⟨rfl, rfl, rfl, rfl, rfl, trivial⟩, rfl, rfl⟩
  ·cbv;refine bm (fun c1 => ?_) (fun c1 => ?_)
   ·cbv;obtain ⟨r, hr0⟩ : ∃ r, r = decide (i ∈ bs) := ⟨_, rfl⟩;refine Zg hS (b := true) rfl rfl rfl rfl rfl rfl rfl rfl (fun _ => ⟨[], _, [.sl 1 QB, I i], [], [], rfl, rfl, rfl, by decide, trivial, hhas r hr0 _ ?_⟩) (fun h => absurd rfl h)
    cases r with
    | true =>
     have hr := hr0.symm;refine Z3 Z0 hA hS ?_;have hz : A.bits .or .i64 x (A.shift .shl .i64 1 inst) = N (k + 1) := (a1 c1 hr).trans (hst c0).symm;cbv;refine ⟨hin, hf1, ?_⟩;refine Z8 (A.add i 1, k + 1, A.bits .or .i64 x (A.shift .shl .i64 1 inst)) [0] ⟨hk, hu2, hz⟩ hms ?_;exact ⟨by decide, Z9, ⟨rfl, trivial⟩, ⟨rfl, rfl, rfl, rfl, rfl, trivial⟩, rfl, rfl⟩
    | false =>
     have hr := hr0.symm;refine Z3 Z0 hA hS ?_;obtain ⟨q2, q3⟩ := k12 c1;cbv;refine bmF q2 ?_;cbv;refine bmF q3 ?_;have hz : x = N (k + 1) := (a1n c1 hr).trans (hst c0).symm;cbv;refine ⟨hf1, ?_⟩;refine Z8 (A.add i 1, k + 1, x) [0] ⟨hk, hu2, hz⟩ hms ?_;exact ⟨by decide, Z9, ⟨rfl, trivial⟩, ⟨rfl, rfl, rfl, rfl, rfl, trivial⟩, rfl, rfl⟩
   ·cbv;refine Zg hS (f := 95) (b := false) rfl rfl rfl rfl rfl rfl rfl rfl (fun h => Bool.noConfusion h) (fun _ => ?_);refine Z3 Z0 hA hS ?_;cbv;refine bm (fun c2 => ?_) (fun c2 => ?_)
    ·cbv;refine bm (fun c5 => ?_) (fun c5 => ?_)
     ·cbv;refine bm (fun c6 => ?_) (fun c6 => ?_)
      ·have hz : A.add x t = N (k + 1) := (a2 c2 c5 c6).trans (hst c0).symm;cbv;refine ⟨iT, ⟨_, gT, ?_⟩⟩;cbv;refine ⟨hfx, hf1, ?_⟩;refine Z8 (A.add i 1, k + 1, A.add x t) [0] ⟨hk, hu2, hz⟩ hms ?_;exact ⟨by decide, Z9, ⟨rfl, trivial⟩, ⟨rfl, rfl, rfl, rfl, rfl, trivial⟩, rfl, rfl⟩
      ·have q3 := k23 c2;cbv;refine bmF q3 ?_;have hz : x = N (k + 1) := (a2n c2 (.inr c6)).trans (hst c0).symm;cbv;refine ⟨hf1, ?_⟩;refine Z8 (A.add i 1, k + 1, x) [0] ⟨hk, hu2, hz⟩ hms ?_;exact ⟨by decide, Z9, ⟨rfl, trivial⟩, ⟨rfl, rfl, rfl, rfl, rfl, trivial⟩, rfl, rfl⟩
     ·have q3 := k23 c2;cbv;refine bmF q3 ?_;have hz : x = N (k + 1) := (a2n c2 (.inl c5)).trans (hst c0).symm;cbv;refine ⟨hf1, ?_⟩;refine Z8 (A.add i 1, k + 1, x) [0] ⟨hk, hu2, hz⟩ hms ?_;exact ⟨by decide, Z9, ⟨rfl, trivial⟩, ⟨rfl, rfl, rfl, rfl, rfl, trivial⟩, rfl, rfl⟩
    ·cbv;refine bm (fun c3 => ?_) (fun c3 => ?_)
     ·cbv;refine bm (fun c4 => ?_) (fun c4 => ?_)
      ·have hz : A.bits .or .i64 x (A.shift .shl .i64 1 i) = N (k + 1) := (a3 c3 c4).trans (hst c0).symm;cbv;refine ⟨hib, hf1, ?_⟩;refine Z8 (A.add i 1, k + 1, A.bits .or .i64 x (A.shift .shl .i64 1 i)) [0] ⟨hk, hu2, hz⟩ hms ?_;exact ⟨by decide, Z9, ⟨rfl, trivial⟩, ⟨rfl, rfl, rfl, rfl, rfl, trivial⟩, rfl, rfl⟩
      ·have hz : x = N (k + 1) := (a3n c3 c4).trans (hst c0).symm;cbv;refine ⟨hf1, ?_⟩;refine Z8 (A.add i 1, k + 1, x) [0] ⟨hk, hu2, hz⟩ hms ?_;exact ⟨by decide, Z9, ⟨rfl, trivial⟩, ⟨rfl, rfl, rfl, rfl, rfl, trivial⟩, rfl, rfl⟩
     ·have hz : x = N (k + 1) := (a4 c1 c2 c3).trans (hst c0).symm;cbv;refine ⟨hf1, ?_⟩;refine Z8 (A.add i 1, k + 1, x) [0] ⟨hk, hu2, hz⟩ hms ?_;exact ⟨by decide, Z9, ⟨rfl, trivial⟩, ⟨rfl, rfl, rfl, rfl, rfl, trivial⟩, rfl, rfl⟩
 ·have hk := hno c;have hx4 : x = N 4 := by rw [u3, hk]
  rw [<- hx4] at hq;cbv;refine Z7 ?_;cbv;exact Z2 [] (by decide) Z9 (H' := []) (d' := I x) trivial rfl (Z1 hq)
end Go.Proofs.Ytecfpfhkicapeaa

namespace Go.Proofs.Ytecfpfhkicapeaa
open Go Go.Abs Go.Proofs Go.Batch
def Zcz (L : List Bool) : List D := L.map Zv
structure MarkV (NX : List D) (T : Ste Int -> Prop) : Prop where
 ex : ∃ L, NX = Zcz L /\ Marks L T
theorem MarkV.len {NX T} (h : MarkV NX T) : NX.length = 20736 := by
 obtain ⟨L, rfl, h2⟩ := h.ex;unfold Zcz; rw [List.length_map, Go.Batch.Marks.len h2]
theorem MarkV.get {NX T} (h : MarkV NX T) {n : Nat} (hn : n < 20736) : ∃ b, NX[n]? = some (.v (.bool b)) := by
 obtain ⟨L, rfl, h2⟩ := h.ex;have hl : n < L.length := by rw [Go.Batch.Marks.len h2]; exact hn
 refine ⟨L[n], ?_⟩;unfold Zcz;rw [List.getElem?_map, List.getElem?_eq_getElem hl]; rfl
theorem MarkV.set {NX T} (h : MarkV NX T) {s : Ste Int} (hl : LOk s.1) (h0 : 0 <= s.2) (h15 : s.2 <= 15) : MarkV (NX.set (Z1i s) (.v (.bool true))) fun x => T x ∨ x = s := by
 obtain ⟨L, rfl, h2⟩ := h.ex;exact ⟨L.set (Z1i s) true, by unfold Zcz; rw [List.map_set]; rfl, Go.Batch.Marks.set h2 hl h0 h15⟩
theorem MarkV.congr {NX} {T U : Ste Int -> Prop} (h : MarkV NX T) (e : ∀ x, T x ↔ U x) : MarkV NX U := by
 obtain ⟨L, hL, h2⟩ := h.ex;exact ⟨L, hL, Go.Batch.Marks.congr h2 e⟩
theorem Zdn {A : Ar} (hA : A = ar) {x p : Int} {l : List Int} (hx : 0 <= x /\ x <= 15) (hp : IsI p (Z7h l)) (hl : LOk l) : A.fits .i64 (A.mul x 1296) /\ A.fits .i64 (A.add (A.mul x 1296) p) /\ IsI (A.add (A.mul x 1296) p) (Z1i (l, x)) := by
 have hm : A.mul x 1296 = x * 1296 := by subst hA; rfl
 have hlt := Z9x hl;have e : A.add (A.mul x 1296) p = (Z1i (l, x) : Nat) := by
  rw [Z58 hA, hm, hp.eq];unfold Z1i;simp only;omega
 refine ⟨Z14 hA hm (by omega), Z14 hA e ?_, ⟨e⟩⟩;have := Z4x (s := (l, x)) hl hx.1 hx.2;omega
def mvA (m : Mv) : D := .agg [I m.kind, I m.bin, I m.inst, I m.lo, I m.hi]
set_option maxRecDepth 20000 in
set_option maxHeartbeats 8000000 in
theorem Zx8 (ins : Int) (FL ML : List D) (qD : D) (hqD : ∃ a b c L, qD = .agg [I a, I b, I c, .sl 1 L]) (bs : List Int) (hb4 : bs.length <= 4) (BL : List D) (hB : BL = bs.map I) (nb : Nat) (hnb : nb = bs.length) (m : Mv) (hk : m.kind = 3) (x : Int) (hx : 0 <= x /\ x <= 15) (l : List Int) (hl : LOk l) (LL : List D) (hL : LL = l.map I)
  (NX : List D) (T : Ste Int -> Prop) (hV : MarkV NX T) (Q) (hq : ∀ d NX', MarkV NX' (fun s => T s ∨ s ∈ (if m.lo <= inL m.bin bs l /\ inL m.bin bs l <= m.hi then [(l, x)] else [])) -> Q (RA.ret d) [.els 1 BL, .els 1 NX']) :
  CallA Try.prog 132 [.agg [I ins, .sl 1 FL, .sl 5 ML], qD, .o 0 1 nb, mvA m, I x, .sl 1 LL, .o 1 1 20736] [.els 1 BL, .els 1 NX] Q := by
 obtain ⟨A, hA⟩ : ∃ A, A = ar := ⟨_, rfl⟩;obtain ⟨qa, qb, qc, QB, rfl⟩ := hqD;obtain ⟨kd, bn, it, lo, hi⟩ := m;dsimp only at hk hq;subst hk;have e33 : A.cmp .eql 3 3 = true := by subst hA; rfl
 obtain ⟨n, hn⟩ : ∃ n, n = inL bn bs l := ⟨_, rfl⟩;obtain ⟨b, hb⟩ : ∃ b, b = decide (lo <= n /\ n <= hi) := ⟨_, rfl⟩;rw [<- hn] at hq;unfold mvA;dsimp only;refine Z5 Z0 hA Try.func132 rfl rfl rfl rfl rfl fun S hS => ?_;cbv;refine bmT e33 ?_;cbv;refine Z16 Z0 hA hS [0, 1, 2, 3, 5, 6, 7, 8, 9, 10, 4, 11] rfl rfl fun Dk hD => ?_;cbv;refine Zq hA hD [.sl 1 LL, .o 0 1 nb, I bn] [0] [.els 1 BL] rfl rfl rfl rfl rfl rfl rfl rfl rfl rfl rfl (by decide) ⟨rfl, trivial⟩ (Zx5 bs l hb4 hl bn LL BL hL hB nb hnb n hn _ ⟨by cbv; repeat' (first | exact trivial | exact rfl | refine ⟨?_, ?_⟩), Zx Z0 hA hD ?_⟩);cbv;refine Zq hA hD [I n, I lo, I hi] [] [] rfl rfl rfl rfl rfl rfl rfl rfl rfl rfl rfl (by decide) trivial (Z6f n lo hi b hb _ ⟨by cbv; repeat' (first | exact trivial | exact rfl | refine ⟨?_, ?_⟩), Zx Z0 hA hD ?_⟩);cbv
 cases b with
 | true =>
  have hc : lo <= n /\ n <= hi := of_decide_eq_true hb.symm;rw [if_pos hc] at hq;have hmul : A.mul x 1296 = x * 1296 := by subst hA; rfl
  have hfm : A.fits .i64 (A.mul x 1296) := Z14 hA hmul (by omega);cbv;refine ⟨hfm, ?_⟩;refine Z4 hS [.sl 1 LL] [] [] rfl rfl rfl rfl rfl rfl rfl rfl (by decide) trivial (Zat l hl LL hL _ fun p hp => ?_);obtain ⟨-, hf2, hpl⟩ := Zdn hA hx hp hl;have hlt := Z4x (s := (l, x)) hl hx.1 hx.2;obtain ⟨z, hz⟩ := hV.get hlt;have gN := Z18 hA hpl hz;have iN : A.inb (A.add (A.mul x 1296) p) 20736 := Z4o hA hpl hlt;have hz2 := hV.set (s := (l, x)) hl hx.1 hx.2;rw [<- Z7n hA hpl rfl] at hz2;have hz3 := fun d => hq d _ (hz2.congr fun s => by rw [List.mem_singleton]);refine Z3 Z0 hA hS ?_;cbv;refine ⟨hf2, iN, ⟨_, gN, ?_⟩⟩;cbv;exact Z2 [0, 1] (by decide) Z69 (H' := [.els 1 BL, .els 1 (A.set NX (A.tn (A.add (A.mul x 1296) p)) (.v (.bool true)))]) (d' := .tup []) ⟨rfl, rfl, trivial⟩ rfl (Z1 (hz3 _))
 | false =>
  have hc : ¬ (lo <= n /\ n <= hi) := of_decide_eq_false hb.symm;rw [if_neg hc] at hq;have hz := fun d => hq d NX (hV.congr fun s => by simp);cbv;exact Z2 [0, 1] (by decide) Z69 (H' := [.els 1 BL, .els 1 NX]) (d' := .tup []) ⟨rfl, rfl, trivial⟩ rfl (Z1 (hz _))
set_option maxRecDepth 20000 in
set_option maxHeartbeats 8000000 in
theorem Zx9 (ins : Int) (FL ML : List D) (qD : D) (hqD : ∃ a b c L, qD = .agg [I a, I b, I c, .sl 1 L]) (bs : List Int) (hb4 : bs.length < 4) (BL : List D) (nb : Nat) (hnb : nb = bs.length) (m : Mv) (hk : m.kind = 1) (hm : 0 <= m.lo /\ m.lo <= m.hi /\ m.hi <= 5) (x : Int) (hx : 0 <= x /\ x <= 15) (l : List Int) (hl : LOk l) (LL : List D) (hL : LL = l.map I)
  (NX : List D) (T : Ste Int -> Prop) (hV : MarkV NX T) (Q) (hq : ∀ d NX', MarkV NX' (fun s => T s ∨ s ∈ (upR m.lo m.hi).map fun n => (l.set nb n, x)) -> Q (RA.ret d) [.els 1 BL, .els 1 NX']) :
  CallA Try.prog 132 [.agg [I ins, .sl 1 FL, .sl 5 ML], qD, .o 0 1 nb, mvA m, I x, .sl 1 LL, .o 1 1 20736] [.els 1 BL, .els 1 NX] Q := by
 obtain ⟨A, hA⟩ : ∃ A, A = ar := ⟨_, rfl⟩;obtain ⟨qa, qb, qc, QB, rfl⟩ := hqD;obtain ⟨kd, bn, it, lo, hi⟩ := m;dsimp only at hk hq hm;subst hk;have e13 : A.cmp .eql 1 3 = false := by subst hA; rfl
 have e11 : A.cmp .eql 1 1 = true := by subst hA; rfl
 have hLl : LL.length = 4 := by rw [hL, List.length_map, hl.len]
 have hmul : A.mul x 1296 = x * 1296 := by subst hA; rfl
 have hfm : A.fits .i64 (A.mul x 1296) := Z14 hA hmul (by omega);have hn4 : A.addN 0 (A.len LL) = 4 := by rw [Z2e hA, Z9m hA hLl]
 have hr4 : A.room (A.addN 0 (A.len LL)) 8 := by rw [hn4]; exact Z8w hA
 have hap : A.app [] LL = LL := by rw [Z33 hA, List.nil_append]
 have hnI : IsI (A.oi nb) nb := ⟨xoi hA nb⟩;have iB : A.inb (A.oi nb) (A.addN 0 (A.len LL)) := by rw [hn4]; exact Z4o hA hnI (by omega)
 obtain ⟨z, hz⟩ : ∃ z, z = l.getD nb 0 := ⟨_, rfl⟩;have gB : A.get (A.app [] LL) (A.tn (A.oi nb)) = some (I z) := by rw [hap]; exact Z18 hA hnI (by rw [hL, List.getElem?_map, Z4q (by rw [hl.len]; omega), hz]; rfl)
 unfold mvA;dsimp only;refine Z5 Z0 hA Try.func132 rfl rfl rfl rfl rfl fun S hS => ?_;cbv;refine bmF e13 ?_;cbv;refine Zb hS ?_;refine Za (α := Int × List D) (fun z => { env := [(0, .agg [I ins, .sl 1 FL, .sl 5 ML]), (2, .o 0 1 nb), (4, I x), (5, .sl 1 LL), (6, .o 1 1 20736), (7, .b 2 0), (8, .b 3 0), (10, .b 4 0), (14, I z.1)], H := [.els 1 BL, .els 1 z.2, .box (.agg [I ins, .sl 1 FL, .sl 5 ML]), .box (.agg [I qa, I qb, I qc, .sl 1 QB]), .box (.agg [I 1, I bn, I it, I lo, I hi])], nt := 149, dfs := [] })
  (fun z => (hi + 1 - z.1).toNat) (fun z => (lo <= z.1 /\ z.1 <= hi + 1) /\ MarkV z.2 (fun s => T s ∨ ∃ n, (lo <= n /\ n < z.1) /\ s = (l.set nb n, x))) (lo, NX) ⟨by show lo <= lo /\ lo <= hi + 1; omega, hV.congr fun s => ⟨.inl, fun h => h.elim id fun ⟨n, h1, _⟩ => by omega⟩⟩ ?_ ?_
 ·exact Zf [0, 1, 2, 3, 4] ⟨by decide, Z69, ⟨rfl, rfl, rfl, rfl, rfl, trivial⟩, ⟨rfl, rfl, rfl, rfl, rfl, rfl, rfl, rfl, rfl, trivial⟩, rfl, rfl⟩
 rintro ⟨a, NA⟩ ⟨u1, u2⟩;dsimp only at u1 u2;refine Zi Z0 hA hS ?_;cbv;refine bm (fun c => ?_) (fun c => ?_)
 ·have hah : a <= hi := xle hA c;have hla : lo <= a := u1.1;have ha5 : 0 <= a /\ a <= 5 := by omega
  obtain ⟨OW, hOW⟩ : ∃ OW, OW = (l.set nb a).map I := ⟨_, rfl⟩;have hset : A.set (A.app [] LL) (A.tn (A.oi nb)) (I a) = OW := by rw [hap, Z7n hA hnI rfl, hOW, hL, List.map_set]
  have hOl : OW.length = 4 := by rw [hOW, List.length_map, List.length_set, hl.len]
  have hE : A.eqN (A.addN 0 (A.len LL)) (A.len OW) := Zkd hA (by rw [hn4, Z9m hA hOl]);have hlo : LOk (l.set nb a) := by
   refine ⟨by rw [List.length_set]; exact hl.len, fun k => ?_, fun k => ?_⟩
   ·rw [Z1r _ _ _ _ (by rw [hl.len]; omega)]; split
    ·exact ha5.1
    ·exact hl.lo k
   ·rw [Z1r _ _ _ _ (by rw [hl.len]; omega)]; split
    ·exact ha5.2
    ·exact hl.hi k
  have hlt := Z4x (s := (l.set nb a, x)) hlo hx.1 hx.2;obtain ⟨z0, hz0⟩ := u2.get hlt;have iN : ∀ i, IsI i (Z1i (l.set nb a, x)) -> A.inb i 20736 := fun i h => Z4o hA h hlt;have gN : ∀ i, IsI i (Z1i (l.set nb a, x)) -> A.get NA (A.tn i) = some (.v (.bool z0)) := fun i h => Z18 hA h hz0;have ha1 : A.add a 1 = a + 1 := Z58 hA _ _;have hfa : A.fits .i64 (A.add a 1) := Z14 hA ha1 (by omega);have hst : ∀ i, IsI i (Z1i (l.set nb a, x)) -> MarkV (A.set NA (A.tn i) (.v (.bool true))) (fun s => T s ∨ ∃ n, (lo <= n /\ n < A.add a 1) /\ s = (l.set nb n, x)) := fun i h => by
   rw [Z7n hA h rfl];refine (u2.set (s := (l.set nb a, x)) hlo hx.1 hx.2).congr fun s => ?_;rw [ha1];constructor
   ·rintro ((h | ⟨n, h1, h2⟩) | h)
    ·exact .inl h
    ·exact .inr ⟨n, by omega, h2⟩
    ·exact .inr ⟨a, by omega, h⟩
   ·rintro (h | ⟨n, h1, h2⟩)
    ·exact .inl (.inl h)
    ·by_cases e : n = a
     ·subst e; exact .inr h2
     ·exact .inl (.inr ⟨n, by omega, h2⟩)
  have hin : lo <= A.add a 1 /\ A.add a 1 <= hi + 1 := by rw [ha1]; omega
  have hms : (hi + 1 - A.add a 1).toNat < (hi + 1 - a).toNat := by rw [ha1]; omega
  cbv;refine bmT e11 ?_;cbv;refine ⟨Ze hA rfl, hr4, iB, ⟨_, gB, ?_⟩⟩;cbv;refine ⟨hfm, ?_⟩;refine Z26 hS (Z39 6 rfl hset (Z1a hA [6] ?_));cbv
  repeat (refine And.intro hE ?_)
  refine Z7 ?_;refine Z4 hS [.sl 1 OW] [] [] rfl rfl rfl rfl rfl rfl rfl rfl (by decide) trivial (Zat (l.set nb a) hlo OW hOW _ fun p hp => ?_);obtain ⟨-, hf2, hpl⟩ := Zdn hA hx hp hlo;have gN1 := gN _ hpl;have iN1 := iN _ hpl;have hst1 := hst _ hpl;refine Z3 Z0 hA hS ?_;cbv;refine ⟨hf2, iN1, ⟨_, gN1, ?_⟩⟩;cbv;refine ⟨hfa, ?_⟩;refine Z8 (A.add a 1, A.set NA (A.tn (A.add (A.mul x 1296) p)) (.v (.bool true))) [0, 1, 2, 3, 4] ⟨hin, hst1⟩ hms ?_;exact ⟨by decide, Z69, ⟨rfl, rfl, rfl, rfl, rfl, trivial⟩, ⟨rfl, rfl, rfl, rfl, rfl, rfl, rfl, rfl, rfl, trivial⟩, rfl, rfl⟩
 ·have hah := Zec hA c;have hz := fun d => hq d NA (u2.congr fun s => by
   rw [List.mem_map]
   constructor
   ·rintro (h | ⟨n, h1, h2⟩)
    ·exact .inl h
    ·exact .inr ⟨n, Z2d.2 (by omega), h2.symm⟩
   ·rintro (h | ⟨n, h1, h2⟩)
    ·exact .inl h
    ·exact .inr ⟨n, by have := Z2d.1 h1; omega, h2.symm⟩)
  cbv;refine Z7 ?_;cbv;exact Z2 [0, 1] (by decide) Z69 (H' := [.els 1 BL, .els 1 NA]) (d' := .tup []) ⟨rfl, rfl, trivial⟩ rfl (Z1 (hz _))
end Go.Proofs.Ytecfpfhkicapeaa

namespace Go.Proofs.Ytecfpfhkicapeaa
open Go Go.Abs Go.Proofs Go.Batch
def Zaz (l of : List Int) (s : Nat) : List D := (List.range 4).map fun b => I (l.getD b 0 - if b < s then of.getD b 0 else 0)
theorem Z8a (l of s) : (Zaz l of s).length = 4 := by simp [Zaz]
theorem Za3 (l of : List Int) (s : Nat) {b : Nat} (h : b < 4) : (Zaz l of s)[b]? = some (I (l.getD b 0 - if b < s then of.getD b 0 else 0)) := by
 unfold Zaz; rw [List.getElem?_map, List.getElem?_range h]; rfl
theorem Zht (l of : List Int) {s : Nat} (h : s < 4) : (Zaz l of s).set s (I (l.getD s 0 - of.getD s 0)) = Zaz l of (s + 1) := by
 refine List.ext_getElem? fun i => ?_;rw [List.getElem?_set]
 by_cases hi : i < 4
 ·rw [Za3 l of (s + 1) hi]
  by_cases e : s = i
  ·subst e; rw [if_pos rfl, if_pos (by rw [Z8a]; exact hi), if_pos (Nat.lt_succ_self s)]
  ·rw [if_neg e, Za3 l of s hi]
   by_cases h2 : i < s
   ·rw [if_pos h2, if_pos (by omega)]
   ·rw [if_neg h2, if_neg (by omega)]
 ·rw [List.getElem?_eq_none (by rw [Z8a]; omega)]
  split
  ·omega
  ·rw [List.getElem?_eq_none (by rw [Z8a]; omega)]
theorem Zhu {l : List Int} (hl : l.length = 4) (of : List Int) : Zaz l of 0 = l.map I := by
 refine List.ext_getElem? fun i => ?_
 by_cases hi : i < 4
 ·rw [Za3 l of 0 hi, if_neg (Nat.not_lt_zero i), Int.sub_zero, List.getElem?_map, Z4q (by omega)]; rfl
 ·rw [List.getElem?_eq_none (by rw [Z8a]; omega), List.getElem?_eq_none (by rw [List.length_map]; omega)]
theorem Zhv (l of : List Int) : Zaz l of 4 = (Z2c l of).map I := rfl
set_option maxRecDepth 20000 in
set_option maxHeartbeats 16000000 in
theorem Zxa (ins : Int) (N : Nat) (hN : IsI ins N) (hN4 : N <= 4) (FL ML : List D) (q : Go.Batch.Ask) (hqb : q.batches.length <= 1000000) (QB : List D) (hQB : QB = q.batches.map I) (bs : List Int) (hb4 : bs.length <= 4) (BL : List D) (hB : BL = bs.map I) (nb : Nat) (hnb : nb = bs.length) (m : Mv) (hk : m.kind = 2) (hm : 0 <= m.lo /\ m.lo <= m.hi /\ m.hi <= 5)
  (fifo : Bool) (bk fl : Nat) (hbk : IsI m.bin bk) (hbl : bk < fl) (hFl : FL.length = fl) (hF : FL[bk]? = some (.v (.bool fifo))) (x : Int) (hx : 0 <= x /\ x <= 15) (l : List Int) (hl : LOk l) (LL : List D) (hL : LL = l.map I)
  (hok : ∀ a of k, (m.lo <= a /\ a <= m.hi) -> of ∈ Z5k fifo l bs m.bin a -> Z5b ins m.inst k -> LOk (Z2c l of) /\ 0 <= Z78 q k of x 4 /\ Z78 q k of x 4 <= 15)
  (NX : List D) (T : Ste Int -> Prop) (hV : MarkV NX T) (Q) (hq : ∀ d NX', MarkV NX' (fun s => T s ∨ ∃ a, (m.lo <= a /\ a <= m.hi) /\ ∃ of, of ∈ Z5k fifo l bs m.bin a /\ ∃ k, Z5b ins m.inst k /\ s = Z5l q l of x k) -> Q (RA.ret d) [.els 1 BL, .els 1 NX']) :
  CallA Try.prog 132 [.agg [I ins, .sl 1 FL, .sl 5 ML], Zcy q QB, .o 0 1 nb, mvA m, I x, .sl 1 LL, .o 1 1 20736] [.els 1 BL, .els 1 NX] Q := by
 obtain ⟨A, hA⟩ : ∃ A, A = ar := ⟨_, rfl⟩;obtain ⟨kd, bn, it, lo, hi⟩ := m;dsimp only at hk hq hm hok hbk;subst hk;have e23 : A.cmp .eql 2 3 = false := by subst hA; rfl
 have e21 : A.cmp .eql 2 1 = false := by subst hA; rfl
 have bT : A.bnot true = false := by subst hA; rfl
 have bF : A.bnot false = true := by subst hA; rfl
 have hLl : LL.length = 4 := by rw [hL, List.length_map, hl.len]
 have hn4 : A.addN 0 (A.len LL) = 4 := by rw [Z2e hA, Z9m hA hLl]
 have hr4 : A.room (A.addN 0 (A.len LL)) 8 := by rw [hn4]; exact Z8w hA
 have hap : A.app [] LL = LL := by rw [Z33 hA, List.nil_append]
 have gF := Z18 hA hbk hF;have iF := Z1b hA hFl hbk hbl;have hfst := fun (a : Int) (h : 0 <= a /\ a <= 5) Q hh => Zvx bs l hb4 hl bn a h LL BL hL hB nb hnb Q hh;have hany := fun (a : Int) (h : 0 <= a /\ a <= 5) Q hh => Zwg bs l hb4 hl bn LL BL hL hB nb hnb nb 0 a 0 (Nat.zero_add _) ⟨rfl⟩ h Q hh;have hnot := fun (of : List Int) (ho : LOk of) (PL : List D) (hP : PL = of.map I) (k : Int) (h : 0 <= k /\ k < 4) Q hh => Zx7 q hqb QB hQB x hx of ho PL hP k h Q hh;have hway : ∀ a of, 0 <= a -> of ∈ Z5k fifo l bs bn a -> LOk of := fun a of ha h => Zwp hl ((Zdm hl hb4 ha of).1 h);obtain ⟨kd0, qi, qb, qbs⟩ := q;unfold Zcy at hnot ⊢;unfold mvA;dsimp only at hqb hQB hnot ⊢;refine Z5 Z0 hA Try.func132 rfl rfl rfl rfl rfl fun S hS => ?_;cbv;refine bmF e23 ?_;cbv;refine Zb hS ?_;refine Za (α := Int × List D) (fun z => { env := [(0, .agg [I ins, .sl 1 FL, .sl 5 ML]), (2, .o 0 1 nb), (4, I x), (5, .sl 1 LL), (6, .o 1 1 20736), (7, .b 2 0), (8, .b 3 0), (10, .b 4 0), (14, I z.1)], H := [.els 1 BL, .els 1 z.2, .box (.agg [I ins, .sl 1 FL, .sl 5 ML]), .box (.agg [I kd0, I qi, I qb, .sl 1 QB]), .box (.agg [I 2, I bn, I it, I lo, I hi])], nt := 149, dfs := [] })
  (fun z => (hi + 1 - z.1).toNat) (fun z => (lo <= z.1 /\ z.1 <= hi + 1) /\ MarkV z.2 (fun s => T s ∨ ∃ a', (lo <= a' /\ a' < z.1) /\ ∃ of, of ∈ Z5k fifo l bs bn a' /\ ∃ k, Z5b ins it k /\ s = Z5l ⟨kd0, qi, qb, qbs⟩ l of x k)) (lo, NX) ⟨by show lo <= lo /\ lo <= hi + 1; omega, hV.congr fun s => ⟨.inl, fun h => h.elim id fun ⟨n, h1, _⟩ => by omega⟩⟩ ?_ ?_
 ·exact Zf [0, 1, 2, 3, 4] ⟨by decide, Z69, ⟨rfl, rfl, rfl, rfl, rfl, trivial⟩, ⟨rfl, rfl, rfl, rfl, rfl, rfl, rfl, rfl, rfl, trivial⟩, rfl, rfl⟩
 rintro ⟨a, NA⟩ ⟨u1, u2⟩;dsimp only at u1 u2;refine Zi Z0 hA hS ?_;cbv;refine bm (fun c => ?_) (fun c => ?_)
 ·have hwlim : ∀ w, w = Z5k fifo l bs bn a -> w.length <= 1296 := fun w hw => by
   rw [hw];unfold Z5k
   split
   ·unfold Z7g; split <;> simp
   ·exact Nat.le_trans (Zdl hl bs 0 a) (Nat.le_trans (Nat.pow_le_pow_right (by decide) hb4) (by decide))
  have hah : a <= hi := xle hA c;have ha5 : 0 <= a /\ a <= 5 := by omega
  have ha1 : A.add a 1 = a + 1 := Z58 hA _ _;have hfa : A.fits .i64 (A.add a 1) := Z14 hA ha1 (by omega);have hain : lo <= A.add a 1 /\ A.add a 1 <= hi + 1 := by rw [ha1]; omega
  have hmsa : (hi + 1 - A.add a 1).toNat < (hi + 1 - a).toNat := by rw [ha1]; omega
  have hf1 := hfst a ha5;have hf2 := hany a ha5;cbv;refine bmF e21 ?_;cbv;refine Z4 hS [.sl 1 LL, .o 0 1 nb, I bn, I a] [0] [.els 1 BL] rfl rfl rfl rfl rfl rfl rfl rfl (by decide) ⟨rfl, trivial⟩ (hf1 _ fun WL hWL => ?_)
  cases fifo with
  | true =>
   have hways0 : Z5k true l bs bn a = Z7g l bs bn a := if_pos rfl;refine Z3 Z0 hA hS ?_;cbv;refine ⟨iF, ⟨_, gF, ?_⟩⟩;cbv;refine bmF bT ?_;cbv;obtain ⟨ways, hways⟩ : ∃ w, w = Z5k true l bs bn a := ⟨_, rfl⟩;rw [<- hways0] at hWL;rw [<- hways] at hWL;have hWl : WL.length = ways.length := by rw [hWL, Z89]
   obtain ⟨TA, hTA⟩ : ∃ TA : Ste Int -> Prop, TA = fun s => T s ∨ ∃ a', (lo <= a' /\ a' < a) /\ ∃ of, of ∈ Z5k true l bs bn a' /\ ∃ k, Z5b ins it k /\ s = Z5l ⟨kd0, qi, qb, qbs⟩ l of x k := ⟨_, rfl⟩;have u3 : MarkV NA TA := by rw [hTA]; exact u2
   refine Zb hS ?_;refine Za (α := Int × Nat × List D) (fun z => { env := [(0, .agg [I ins, .sl 1 FL, .sl 5 ML]), (2, .o 0 1 nb), (4, I x), (5, .sl 1 LL), (6, .o 1 1 20736), (7, .b 2 0), (8, .b 3 0), (10, .b 4 0), (14, I a), (16, .sl 1 WL), (17, I z.1)], H := [.els 1 BL, .els 1 z.2.2, .box (.agg [I ins, .sl 1 FL, .sl 5 ML]), .box (.agg [I kd0, I qi, I qb, .sl 1 QB]), .box (.agg [I 2, I bn, I it, I lo, I hi])], nt := 149, dfs := [] })
    (fun z => ways.length - z.2.1) (fun z => z.2.1 <= ways.length /\ IsI z.1 z.2.1 /\ MarkV z.2.2 (fun s => TA s ∨ ∃ t of, t < z.2.1 /\ ways[t]? = some of /\ ∃ k, Z5b ins it k /\ s = Z5l ⟨kd0, qi, qb, qbs⟩ l of x k)) (0, 0, NA) ⟨Nat.zero_le _, ⟨rfl⟩, u3.congr fun s => ⟨.inl, fun h => h.elim id fun ⟨t, of, h1, _⟩ => absurd h1 (Nat.not_lt_zero t)⟩⟩ ?_ ?_
   ·exact Zf [0, 1, 2, 3, 4] ⟨by decide, Z69, ⟨rfl, rfl, rfl, rfl, rfl, trivial⟩, ⟨rfl, rfl, rfl, rfl, rfl, rfl, rfl, rfl, rfl, rfl, rfl, trivial⟩, rfl, rfl⟩
   rintro ⟨wi, w, NW⟩ ⟨v1, v2, v3⟩;dsimp only at v1 v2 v3;have hyes2 : A.cmp .lss wi (A.oi (A.len WL)) = true -> w < ways.length := fun c => Z31 hA hWl v2 c;have hno2 : A.cmp .lss wi (A.oi (A.len WL)) = false -> w = ways.length := fun c => by have := Z21 hA hWl v2 c; omega
   refine Zi Z0 hA hS ?_;cbv;refine bm (fun c2 => ?_) (fun c2 => ?_)
   ·have hw : w < ways.length := hyes2 c2;obtain ⟨of, hof⟩ : ∃ of, ways[w]? = some of := ⟨_, List.getElem?_eq_getElem hw⟩;have hofm : of ∈ Z5k true l bs bn a := by rw [<- hways]; exact List.mem_of_getElem? hof
    have hof4 : LOk of := hway a of ha5.1 hofm;obtain ⟨PL, hPL⟩ : ∃ PL, PL = of.map I := ⟨_, rfl⟩;have hPl : PL.length = 4 := by rw [hPL, List.length_map, hof4.len]
    have gW := Z18 hA v2 (show WL[w]? = some (.sl 1 PL) by rw [hWL, hPL, Z79, List.getElem?_map, hof]; rfl);have iW := Z1b hA hWl v2 hw;have hfw := Zy hA v2 (by have := hwlim ways hways; omega);have hv2 := Zz hA v2;have hms2 : ways.length - (w + 1) < ways.length - w := by omega
    have hl0 : A.app [] LL = Zaz l of 0 := by rw [hap, hL, Zhu hl.len]
    obtain ⟨TB, hTB⟩ : ∃ TB : Ste Int -> Prop, TB = fun s => TA s ∨ ∃ t of, t < w /\ ways[t]? = some of /\ ∃ k, Z5b ins it k /\ s = Z5l ⟨kd0, qi, qb, qbs⟩ l of x k := ⟨_, rfl⟩;have v4 : MarkV NW TB := by rw [hTB]; exact v3
    cbv;refine ⟨Ze hA rfl, hr4, ?_⟩;refine Zb hS ?_;refine Za (α := Int × Nat × List D) (fun z => { env := [(0, .agg [I ins, .sl 1 FL, .sl 5 ML]), (2, .o 0 1 nb), (4, I x), (5, .sl 1 LL), (6, .o 1 1 20736), (7, .b 2 0), (8, .b 3 0), (10, .b 4 0), (14, I a), (16, .sl 1 WL), (17, I wi), (18, .o 5 1 4), (19, I z.1)], H := [.els 1 BL, .els 1 NW, .box (.agg [I ins, .sl 1 FL, .sl 5 ML]), .box (.agg [I kd0, I qi, I qb, .sl 1 QB]), .box (.agg [I 2, I bn, I it, I lo, I hi]), .els 1 z.2.2], nt := 149, dfs := [] })
     (fun z => 4 - z.2.1) (fun z => z.2.1 <= 4 /\ IsI z.1 z.2.1 /\ z.2.2 = Zaz l of z.2.1) (0, 0, Zaz l of 0) ⟨Nat.zero_le _, ⟨rfl⟩, rfl⟩ ?_ ?_
    ·refine Z39 6 rfl hl0 ?_;exact Zf [0, 1, 2, 3, 4, 6] ⟨by decide, Z69, ⟨rfl, rfl, rfl, rfl, rfl, rfl, trivial⟩, ⟨rfl, rfl, rfl, rfl, rfl, rfl, rfl, rfl, rfl, rfl, rfl, congrArg (fun k => some (D.o 6 1 k)) hn4, rfl, trivial⟩, rfl, rfl⟩
    rintro ⟨bi, b, OW⟩ ⟨w1, w2, w3⟩;dsimp only at w1 w2 w3;have hOWl : OW.length = 4 := by rw [w3, Z8a]
    have hyes3 : A.cmp .lss bi (A.oi 4) = true -> b < 4 := fun c => by have := xlt hA c; rw [xoi hA] at this; have := w2.eq; omega
    have hno3 : A.cmp .lss bi (A.oi 4) = false -> b = 4 := fun c => by have := Z7x hA c; rw [xoi hA] at this; have := w2.eq; omega
    refine Zi Z0 hA hS ?_;cbv;refine bm (fun c3 => ?_) (fun c3 => ?_)
    ·have hb : b < 4 := hyes3 c3;obtain ⟨y, hy⟩ : ∃ y, y = l.getD b 0 := ⟨_, rfl⟩;obtain ⟨t, ht⟩ : ∃ t, t = of.getD b 0 := ⟨_, rfl⟩;have hyb : 0 <= y /\ y <= 5 := by rw [hy]; exact ⟨hl.lo b, hl.hi b⟩
     have htb : 0 <= t /\ t <= 5 := by rw [ht]; exact ⟨hof4.lo b, hof4.hi b⟩
     have gO := Z18 hA w2 (show OW[b]? = some (I y) by rw [w3, Za3 l of b hb, if_neg (Nat.lt_irrefl b), Int.sub_zero, hy]);have gP := Z18 hA w2 (show PL[b]? = some (I t) by rw [hPL, List.getElem?_map, Z4q (by rw [hof4.len]; exact hb), ht]; rfl);have iO : A.inb bi 4 := Z4o hA w2 hb;have iP := Z1b hA hPl w2 hb;have hsb : A.sub y t = y - t := Z24 hA _ _;have hfs : A.fits .i64 (A.sub y t) := Z14 hA hsb (by omega);have hfb := Zy hA w2 (by omega);have hw2 := Zz hA w2;have hms3 : 4 - (b + 1) < 4 - b := by omega
     have hnx : A.set OW (A.tn bi) (I (A.sub y t)) = Zaz l of (b + 1) := by rw [Z7n hA w2 rfl, w3, hsb, hy, ht, Zht l of hb]
     have hb1 : b + 1 <= 4 := hb;cbv;refine Z16 Z0 hA hS [0, 1, 2, 3, 4, 5, 6, 7, 8, 9, 10, 11, 12, 13, 14, 15] rfl rfl fun Dk hD => ?_;cbv;refine ⟨iO, ⟨_, gO, ?_⟩⟩;cbv;refine ⟨iW, ⟨_, gW, ?_⟩⟩;cbv;refine ⟨iP, ⟨_, gP, ?_⟩⟩;cbv;refine ⟨hfs, iO, ⟨_, gO, ?_⟩⟩;cbv;refine ⟨hfb, ?_⟩;refine Z8 (A.add bi 1, b + 1, A.set OW (A.tn bi) (I (A.sub y t))) [0, 1, 2, 3, 4, 5] ⟨hb1, hw2, hnx⟩ hms3 ?_;exact ⟨by decide, Z69, ⟨rfl, rfl, rfl, rfl, rfl, rfl, trivial⟩, ⟨rfl, rfl, rfl, rfl, rfl, rfl, rfl, rfl, rfl, rfl, rfl, rfl, rfl, trivial⟩, rfl, rfl⟩
    ·have hb : b = 4 := hno3 c3;have hOW : OW = (Z2c l of).map I := by rw [w3, hb, Zhv]
     have hE : A.eqN 4 (A.len OW) := Zkd hA (by rw [Z9m hA hOWl]);cbv;refine Z7 ?_;cbv;refine Zb hS ?_;refine Za (α := Int × Nat × List D) (fun z => { env := [(0, .agg [I ins, .sl 1 FL, .sl 5 ML]), (2, .o 0 1 nb), (4, I x), (5, .sl 1 LL), (6, .o 1 1 20736), (7, .b 2 0), (8, .b 3 0), (10, .b 4 0), (14, I a), (16, .sl 1 WL), (17, I wi), (18, .sl 1 OW), (20, I z.1)], H := [.els 1 BL, .els 1 z.2.2, .box (.agg [I ins, .sl 1 FL, .sl 5 ML]), .box (.agg [I kd0, I qi, I qb, .sl 1 QB]), .box (.agg [I 2, I bn, I it, I lo, I hi])], nt := 149, dfs := [] })
      (fun z => N - z.2.1) (fun z => z.2.1 <= N /\ IsI z.1 z.2.1 /\ MarkV z.2.2 (fun s => TB s ∨ ∃ k' : Nat, k' < z.2.1 /\ Z5b ins it k' /\ s = Z5l ⟨kd0, qi, qb, qbs⟩ l of x k')) (0, 0, NW) ⟨Nat.zero_le _, ⟨rfl⟩, v4.congr fun s => ⟨.inl, fun h => h.elim id fun ⟨t, h1, _⟩ => absurd h1 (Nat.not_lt_zero t)⟩⟩ ?_ ?_
     ·refine Z1a hA [5] ?_;cbv
      repeat (refine And.intro hE ?_)
      exact Zf [0, 1, 2, 3, 4] ⟨by decide, Z69, ⟨rfl, rfl, rfl, rfl, rfl, trivial⟩, ⟨rfl, rfl, rfl, rfl, rfl, rfl, rfl, rfl, rfl, rfl, rfl, rfl, rfl, trivial⟩, rfl, rfl⟩
     rintro ⟨ki, k, NK⟩ ⟨x1, x2, x3⟩;dsimp only at x1 x2 x3;have hyes4 : A.cmp .lss ki ins = true -> k < N := fun c => by have := xlt hA c; have := hN.eq; have := x2.eq; omega
     have hno4 : A.cmp .lss ki ins = false -> k = N := fun c => by have := Z7x hA c; have := hN.eq; have := x2.eq; omega
     refine Zi Z0 hA hS ?_;cbv;refine bm (fun c4 => ?_) (fun c4 => ?_)
     ·have hkN : k + 1 <= N := hyes4 c4;have hkie := x2.eq;have hfk := Zy hA x2 (by omega);have hk2 := Zz hA x2;have hmsk : N - (k + 1) < N - k := by omega
      have hkr : 0 <= ki /\ ki < ins := by have := hN.eq; omega
      have hst0' : ¬ Z5b ins it ki -> MarkV NK (fun s => TB s ∨ ∃ k' : Nat, k' < k + 1 /\ Z5b ins it k' /\ s = Z5l ⟨kd0, qi, qb, qbs⟩ l of x k') := fun hn => x3.congr fun s => by
       rw [hkie] at hn;constructor
       ·rintro (h | ⟨n, h1, h2⟩)
        ·exact .inl h
        ·exact .inr ⟨n, by omega, h2⟩
       ·rintro (h | ⟨n, h1, h2, h3⟩)
        ·exact .inl h
        ·by_cases e : n = k
         ·subst e; exact absurd h2 hn
         ·exact .inr ⟨n, by omega, h2, h3⟩
      cbv;refine bm (fun c5 => ?_) (fun c5 => ?_)
      ·have hmay : Z5b ins it ki := ⟨hkr, .inl (xlt hA c5)⟩;obtain ⟨hlo, hyA, hyB⟩ := hok a of ki ⟨u1.1, hah⟩ hofm hmay;have hki4 : 0 <= ki /\ ki < 4 := by have := hmay.1; have := hN.eq; omega
       obtain ⟨y, hy⟩ : ∃ y, y = Z78 ⟨kd0, qi, qb, qbs⟩ ki of x 4 := ⟨_, rfl⟩;rw [<- hy] at hyA hyB;have hy15 : 0 <= y /\ y <= 15 := ⟨hyA, hyB⟩;have hmul : A.mul y 1296 = y * 1296 := by subst hA; rfl
       have hfm : A.fits .i64 (A.mul y 1296) := Z14 hA hmul (by omega);have hlt := Z4x (s := (Z2c l of, y)) hlo hyA hyB;obtain ⟨z0, hz0⟩ := x3.get hlt;have iN : ∀ i, IsI i (Z1i (Z2c l of, y)) -> A.inb i 20736 := fun i h => Z4o hA h hlt;have gN : ∀ i, IsI i (Z1i (Z2c l of, y)) -> A.get NK (A.tn i) = some (.v (.bool z0)) := fun i h => Z18 hA h hz0;have hst : ∀ i, IsI i (Z1i (Z2c l of, y)) -> MarkV (A.set NK (A.tn i) (.v (.bool true))) (fun s => TB s ∨ ∃ k' : Nat, k' < k + 1 /\ Z5b ins it k' /\ s = Z5l ⟨kd0, qi, qb, qbs⟩ l of x k') := fun i h => by
        rw [Z7n hA h rfl];refine (x3.set (s := (Z2c l of, y)) hlo hyA hyB).congr fun s => ?_;have hs0 : (Z2c l of, y) = Z5l ⟨kd0, qi, qb, qbs⟩ l of x (k : Int) := by rw [hy, hkie]; rfl
        rw [hkie] at hmay;constructor
        ·rintro ((h | ⟨n, h1, h2⟩) | h)
         ·exact .inl h
         ·exact .inr ⟨n, by omega, h2⟩
         ·exact .inr ⟨k, by omega, hmay, h.trans hs0⟩
        ·rintro (h | ⟨n, h1, h2, h3⟩)
         ·exact .inl (.inl h)
         ·by_cases e : n = k
          ·subst e; exact .inr (h3.trans hs0.symm)
          ·exact .inl (.inr ⟨n, by omega, h2, h3⟩)
       cbv;refine Z16 Z0 hA hS [0, 1, 2, 3, 4, 5, 6, 7, 10, 8, 9, 11, 12, 13, 14] rfl rfl fun Dk hD => ?_;cbv;refine ⟨iW, ⟨_, gW, ?_⟩⟩;cbv;refine Zq hA hD [.agg [I kd0, I qi, I qb, .sl 1 QB], I x, .sl 1 PL, I ki] [] [] rfl rfl rfl rfl rfl rfl rfl rfl rfl rfl rfl (by decide) trivial (hnot of hof4 PL hPL ki hki4 _ ⟨by cbv; repeat' (first | exact trivial | exact rfl | exact ⟨_, gW, rfl⟩ | exact iW | refine ⟨?_, ?_⟩), Zx Z0 hA hD ?_⟩);rw [<- hy];cbv;refine ⟨hfm, ?_⟩;refine Zq hA hD [.sl 1 OW] [] [] rfl rfl rfl rfl rfl rfl rfl rfl rfl rfl rfl (by decide) trivial (Zat (Z2c l of) hlo OW hOW _ fun p hp => ⟨by cbv; repeat' (first | exact trivial | exact rfl | exact ⟨_, gW, rfl⟩ | exact iW | refine ⟨?_, ?_⟩), Zx Z0 hA hD ?_⟩);obtain ⟨-, hf2, hpl⟩ := Zdn hA hy15 hp hlo;have gN1 := gN _ hpl;have iN1 := iN _ hpl;have hst1 := hst _ hpl;cbv;refine ⟨hf2, iN1, ⟨_, gN1, ?_⟩⟩;cbv;refine ⟨hfk, ?_⟩;refine Z8 (A.add ki 1, k + 1, A.set NK (A.tn (A.add (A.mul y 1296) p)) (.v (.bool true))) [0, 1, 2, 3, 4] ⟨hkN, hk2, hst1⟩ hmsk ?_;exact ⟨by decide, Z69, ⟨rfl, rfl, rfl, rfl, rfl, trivial⟩, ⟨rfl, rfl, rfl, rfl, rfl, rfl, rfl, rfl, rfl, rfl, rfl, rfl, rfl, trivial⟩, rfl, rfl⟩
      ·cbv;refine bm (fun c6 => ?_) (fun c6 => ?_)
       ·have hmay : Z5b ins it ki := ⟨hkr, .inr (xeq hA c6)⟩;obtain ⟨hlo, hyA, hyB⟩ := hok a of ki ⟨u1.1, hah⟩ hofm hmay;have hki4 : 0 <= ki /\ ki < 4 := by have := hmay.1; have := hN.eq; omega
        obtain ⟨y, hy⟩ : ∃ y, y = Z78 ⟨kd0, qi, qb, qbs⟩ ki of x 4 := ⟨_, rfl⟩;rw [<- hy] at hyA hyB;have hy15 : 0 <= y /\ y <= 15 := ⟨hyA, hyB⟩;have hmul : A.mul y 1296 = y * 1296 := by subst hA; rfl
        have hfm : A.fits .i64 (A.mul y 1296) := Z14 hA hmul (by omega);have hlt := Z4x (s := (Z2c l of, y)) hlo hyA hyB;obtain ⟨z0, hz0⟩ := x3.get hlt;have iN : ∀ i, IsI i (Z1i (Z2c l of, y)) -> A.inb i 20736 := fun i h => Z4o hA h hlt;have gN : ∀ i, IsI i (Z1i (Z2c l of, y)) -> A.get NK (A.tn i) = some (.v (.bool z0)) := fun i h => Z18 hA h hz0;have hst : ∀ i, IsI i (Z1i (Z2c l of, y)) -> MarkV (A.set NK (A.tn i) (.v (.bool true))) (fun s => TB s ∨ ∃ k' : Nat, k' < k + 1 /\ Z5b ins it k' /\ s = Z5l ⟨kd0, qi, qb, qbs⟩ l of x k') := fun i h => by
         rw [Z7n hA h rfl];refine (x3.set (s := (Z2c l of, y)) hlo hyA hyB).congr fun s => ?_;have hs0 : (Z2c l of, y) = Z5l ⟨kd0, qi, qb, qbs⟩ l of x (k : Int) := by rw [hy, hkie]; rfl
         rw [hkie] at hmay;constructor
         ·rintro ((h | ⟨n, h1, h2⟩) | h)
          ·exact .inl h
          ·exact .inr ⟨n, by omega, h2⟩
          ·exact .inr ⟨k, by omega, hmay, h.trans hs0⟩
         ·rintro (h | ⟨n, h1, h2, h3⟩)
          ·exact .inl (.inl h)
          ·by_cases e : n = k
           ·subst e; exact .inr (h3.trans hs0.symm)
           ·exact .inl (.inr ⟨n, by omega, h2, h3⟩)
        cbv;refine Z16 Z0 hA hS [0, 1, 2, 3, 4, 5, 6, 7, 10, 8, 9, 11, 12, 13, 14] rfl rfl fun Dk hD => ?_;cbv;refine ⟨iW, ⟨_, gW, ?_⟩⟩;cbv;refine Zq hA hD [.agg [I kd0, I qi, I qb, .sl 1 QB], I x, .sl 1 PL, I ki] [] [] rfl rfl rfl rfl rfl rfl rfl rfl rfl rfl rfl (by decide) trivial (hnot of hof4 PL hPL ki hki4 _ ⟨by cbv; repeat' (first | exact trivial | exact rfl | exact ⟨_, gW, rfl⟩ | exact iW | refine ⟨?_, ?_⟩), Zx Z0 hA hD ?_⟩);rw [<- hy];cbv;refine ⟨hfm, ?_⟩;refine Zq hA hD [.sl 1 OW] [] [] rfl rfl rfl rfl rfl rfl rfl rfl rfl rfl rfl (by decide) trivial (Zat (Z2c l of) hlo OW hOW _ fun p hp => ⟨by cbv; repeat' (first | exact trivial | exact rfl | exact ⟨_, gW, rfl⟩ | exact iW | refine ⟨?_, ?_⟩), Zx Z0 hA hD ?_⟩);obtain ⟨-, hf2, hpl⟩ := Zdn hA hy15 hp hlo;have gN1 := gN _ hpl;have iN1 := iN _ hpl;have hst1 := hst _ hpl;cbv;refine ⟨hf2, iN1, ⟨_, gN1, ?_⟩⟩;cbv;refine ⟨hfk, ?_⟩;refine Z8 (A.add ki 1, k + 1, A.set NK (A.tn (A.add (A.mul y 1296) p)) (.v (.bool true))) [0, 1, 2, 3, 4] ⟨hkN, hk2, hst1⟩ hmsk ?_;exact ⟨by decide, Z69, ⟨rfl, rfl, rfl, rfl, rfl, trivial⟩, ⟨rfl, rfl, rfl, rfl, rfl, rfl, rfl, rfl, rfl, rfl, rfl, rfl, rfl, trivial⟩, rfl, rfl⟩
       ·have hst0 := hst0' (fun h => h.2.elim (fun g => by have := Z7x hA c5; omega) (Z2o hA c6));cbv;refine ⟨hfk, ?_⟩;refine Z8 (A.add ki 1, k + 1, NK) [0, 1, 2, 3, 4] ⟨hkN, hk2, hst0⟩ hmsk ?_;exact ⟨by decide, Z69, ⟨rfl, rfl, rfl, rfl, rfl, trivial⟩, ⟨rfl, rfl, rfl, rfl, rfl, rfl, rfl, rfl, rfl, rfl, rfl, rfl, rfl, trivial⟩, rfl, rfl⟩
     ·have hk : k = N := hno4 c4;have hz : MarkV NK (fun s => TA s ∨ ∃ t of, t < w + 1 /\ ways[t]? = some of /\ ∃ k, Z5b ins it k /\ s = Z5l ⟨kd0, qi, qb, qbs⟩ l of x k) := x3.congr fun s => by
       rw [hTB];constructor
       ·rintro ((h | ⟨t, o, h1, h2⟩) | ⟨n, h1, h2, h3⟩)
        ·exact .inl h
        ·exact .inr ⟨t, o, by omega, h2⟩
        ·exact .inr ⟨w, of, by omega, hof, n, h2, h3⟩
       ·rintro (h | ⟨t, o, h1, h2, n, h3, h4⟩)
        ·exact .inl (.inl h)
        ·by_cases e : t = w
         ·subst e;rw [hof] at h2; cases h2;have hn0 := h3.1;have hNe := hN.eq;obtain ⟨n', rfl⟩ : ∃ n' : Nat, n = n' := ⟨n.toNat, by omega⟩;exact .inr ⟨n', by omega, h3, h4⟩
         ·exact .inl (.inr ⟨t, o, by omega, h2, n, h3, h4⟩)
      have hw1 : w + 1 <= ways.length := hw;cbv;refine Z7 ?_;cbv;refine ⟨hfw, ?_⟩;refine Z8 (A.add wi 1, w + 1, NK) [0, 1, 2, 3, 4] ⟨hw1, hv2, hz⟩ hms2 ?_;exact ⟨by decide, Z69, ⟨rfl, rfl, rfl, rfl, rfl, trivial⟩, ⟨rfl, rfl, rfl, rfl, rfl, rfl, rfl, rfl, rfl, rfl, rfl, trivial⟩, rfl, rfl⟩
   ·have hw : w = ways.length := hno2 c2;have hz : MarkV NW (fun s => T s ∨ ∃ a', (lo <= a' /\ a' < A.add a 1) /\ ∃ of, of ∈ Z5k true l bs bn a' /\ ∃ k, Z5b ins it k /\ s = Z5l ⟨kd0, qi, qb, qbs⟩ l of x k) := v3.congr fun s => by
     rw [hTA, ha1];constructor
     ·rintro ((h | ⟨a', h1, h2⟩) | ⟨t, of, h1, h2, h3⟩)
      ·exact .inl h
      ·exact .inr ⟨a', by omega, h2⟩
      ·exact .inr ⟨a, by omega, of, by rw [<- hways]; exact List.mem_of_getElem? h2, h3⟩
     ·rintro (h | ⟨a', h1, of, h2, h3⟩)
      ·exact .inl (.inl h)
      ·by_cases e : a' = a
       ·subst e;rw [<- hways] at h2;obtain ⟨t, ht, e2⟩ := List.getElem_of_mem h2;exact .inr ⟨t, of, by omega, by rw [List.getElem?_eq_getElem ht, e2], h3⟩
       ·exact .inl (.inr ⟨a', by omega, of, h2, h3⟩)
    cbv;refine Z7 ?_;cbv;refine ⟨hfa, ?_⟩;refine Z8 (A.add a 1, NW) [0, 1, 2, 3, 4] ⟨hain, hz⟩ hmsa ?_;exact ⟨by decide, Z69, ⟨rfl, rfl, rfl, rfl, rfl, trivial⟩, ⟨rfl, rfl, rfl, rfl, rfl, rfl, rfl, rfl, rfl, trivial⟩, rfl, rfl⟩
  | false =>
   refine Z3 Z0 hA hS ?_;cbv;refine ⟨iF, ⟨_, gF, ?_⟩⟩;cbv;refine bmT bF ?_;cbv;refine Z4 hS [.sl 1 LL, .o 0 1 nb, I bn, I a, I 0] [0] [.els 1 BL] rfl rfl rfl rfl rfl rfl rfl rfl (by decide) ⟨rfl, trivial⟩ (hf2 _ fun WL hWL => ?_);have hways0 : Z5k false l bs bn a = Z4w l bn (bs.drop 0) 0 a := if_neg Bool.false_ne_true;refine Z3 Z0 hA hS ?_;cbv;obtain ⟨ways, hways⟩ : ∃ w, w = Z5k false l bs bn a := ⟨_, rfl⟩;rw [<- hways0] at hWL;rw [<- hways] at hWL;have hWl : WL.length = ways.length := by rw [hWL, Z89]
   obtain ⟨TA, hTA⟩ : ∃ TA : Ste Int -> Prop, TA = fun s => T s ∨ ∃ a', (lo <= a' /\ a' < a) /\ ∃ of, of ∈ Z5k false l bs bn a' /\ ∃ k, Z5b ins it k /\ s = Z5l ⟨kd0, qi, qb, qbs⟩ l of x k := ⟨_, rfl⟩;have u3 : MarkV NA TA := by rw [hTA]; exact u2
   refine Zb hS ?_;refine Za (α := Int × Nat × List D) (fun z => { env := [(0, .agg [I ins, .sl 1 FL, .sl 5 ML]), (2, .o 0 1 nb), (4, I x), (5, .sl 1 LL), (6, .o 1 1 20736), (7, .b 2 0), (8, .b 3 0), (10, .b 4 0), (14, I a), (16, .sl 1 WL), (17, I z.1)], H := [.els 1 BL, .els 1 z.2.2, .box (.agg [I ins, .sl 1 FL, .sl 5 ML]), .box (.agg [I kd0, I qi, I qb, .sl 1 QB]), .box (.agg [I 2, I bn, I it, I lo, I hi])], nt := 149, dfs := [] })
    (fun z => ways.length - z.2.1) (fun z => z.2.1 <= ways.length /\ IsI z.1 z.2.1 /\ MarkV z.2.2 (fun s => TA s ∨ ∃ t of, t < z.2.1 /\ ways[t]? = some of /\ ∃ k, Z5b ins it k /\ s = Z5l ⟨kd0, qi, qb, qbs⟩ l of x k)) (0, 0, NA) ⟨Nat.zero_le _, ⟨rfl⟩, u3.congr fun s => ⟨.inl, fun h => h.elim id fun ⟨t, of, h1, _⟩ => absurd h1 (Nat.not_lt_zero t)⟩⟩ ?_ ?_
   ·exact Zf [0, 1, 2, 3, 4] ⟨by decide, Z69, ⟨rfl, rfl, rfl, rfl, rfl, trivial⟩, ⟨rfl, rfl, rfl, rfl, rfl, rfl, rfl, rfl, rfl, rfl, rfl, trivial⟩, rfl, rfl⟩
   rintro ⟨wi, w, NW⟩ ⟨v1, v2, v3⟩;dsimp only at v1 v2 v3;have hyes2 : A.cmp .lss wi (A.oi (A.len WL)) = true -> w < ways.length := fun c => Z31 hA hWl v2 c;have hno2 : A.cmp .lss wi (A.oi (A.len WL)) = false -> w = ways.length := fun c => by have := Z21 hA hWl v2 c; omega
   refine Zi Z0 hA hS ?_;cbv;refine bm (fun c2 => ?_) (fun c2 => ?_)
   ·have hw : w < ways.length := hyes2 c2;obtain ⟨of, hof⟩ : ∃ of, ways[w]? = some of := ⟨_, List.getElem?_eq_getElem hw⟩;have hofm : of ∈ Z5k false l bs bn a := by rw [<- hways]; exact List.mem_of_getElem? hof
    have hof4 : LOk of := hway a of ha5.1 hofm;obtain ⟨PL, hPL⟩ : ∃ PL, PL = of.map I := ⟨_, rfl⟩;have hPl : PL.length = 4 := by rw [hPL, List.length_map, hof4.len]
    have gW := Z18 hA v2 (show WL[w]? = some (.sl 1 PL) by rw [hWL, hPL, Z79, List.getElem?_map, hof]; rfl);have iW := Z1b hA hWl v2 hw;have hfw := Zy hA v2 (by have := hwlim ways hways; omega);have hv2 := Zz hA v2;have hms2 : ways.length - (w + 1) < ways.length - w := by omega
    have hl0 : A.app [] LL = Zaz l of 0 := by rw [hap, hL, Zhu hl.len]
    obtain ⟨TB, hTB⟩ : ∃ TB : Ste Int -> Prop, TB = fun s => TA s ∨ ∃ t of, t < w /\ ways[t]? = some of /\ ∃ k, Z5b ins it k /\ s = Z5l ⟨kd0, qi, qb, qbs⟩ l of x k := ⟨_, rfl⟩;have v4 : MarkV NW TB := by rw [hTB]; exact v3
    cbv;refine ⟨Ze hA rfl, hr4, ?_⟩;refine Zb hS ?_;refine Za (α := Int × Nat × List D) (fun z => { env := [(0, .agg [I ins, .sl 1 FL, .sl 5 ML]), (2, .o 0 1 nb), (4, I x), (5, .sl 1 LL), (6, .o 1 1 20736), (7, .b 2 0), (8, .b 3 0), (10, .b 4 0), (14, I a), (16, .sl 1 WL), (17, I wi), (18, .o 5 1 4), (19, I z.1)], H := [.els 1 BL, .els 1 NW, .box (.agg [I ins, .sl 1 FL, .sl 5 ML]), .box (.agg [I kd0, I qi, I qb, .sl 1 QB]), .box (.agg [I 2, I bn, I it, I lo, I hi]), .els 1 z.2.2], nt := 149, dfs := [] })
     (fun z => 4 - z.2.1) (fun z => z.2.1 <= 4 /\ IsI z.1 z.2.1 /\ z.2.2 = Zaz l of z.2.1) (0, 0, Zaz l of 0) ⟨Nat.zero_le _, ⟨rfl⟩, rfl⟩ ?_ ?_
    ·refine Z39 6 rfl hl0 ?_;exact Zf [0, 1, 2, 3, 4, 6] ⟨by decide, Z69, ⟨rfl, rfl, rfl, rfl, rfl, rfl, trivial⟩, ⟨rfl, rfl, rfl, rfl, rfl, rfl, rfl, rfl, rfl, rfl, rfl, congrArg (fun k => some (D.o 6 1 k)) hn4, rfl, trivial⟩, rfl, rfl⟩
    rintro ⟨bi, b, OW⟩ ⟨w1, w2, w3⟩;dsimp only at w1 w2 w3;have hOWl : OW.length = 4 := by rw [w3, Z8a]
    have hyes3 : A.cmp .lss bi (A.oi 4) = true -> b < 4 := fun c => by have := xlt hA c; rw [xoi hA] at this; have := w2.eq; omega
    have hno3 : A.cmp .lss bi (A.oi 4) = false -> b = 4 := fun c => by have := Z7x hA c; rw [xoi hA] at this; have := w2.eq; omega
    refine Zi Z0 hA hS ?_;cbv;refine bm (fun c3 => ?_) (fun c3 => ?_)
    ·have hb : b < 4 := hyes3 c3;obtain ⟨y, hy⟩ : ∃ y, y = l.getD b 0 := ⟨_, rfl⟩;obtain ⟨t, ht⟩ : ∃ t, t = of.getD b 0 := ⟨_, rfl⟩;have hyb : 0 <= y /\ y <= 5 := by rw [hy]; exact ⟨hl.lo b, hl.hi b⟩
     have htb : 0 <= t /\ t <= 5 := by rw [ht]; exact ⟨hof4.lo b, hof4.hi b⟩
     have gO := Z18 hA w2 (show OW[b]? = some (I y) by rw [w3, Za3 l of b hb, if_neg (Nat.lt_irrefl b), Int.sub_zero, hy]);have gP := Z18 hA w2 (show PL[b]? = some (I t) by rw [hPL, List.getElem?_map, Z4q (by rw [hof4.len]; exact hb), ht]; rfl);have iO : A.inb bi 4 := Z4o hA w2 hb;have iP := Z1b hA hPl w2 hb;have hsb : A.sub y t = y - t := Z24 hA _ _;have hfs : A.fits .i64 (A.sub y t) := Z14 hA hsb (by omega);have hfb := Zy hA w2 (by omega);have hw2 := Zz hA w2;have hms3 : 4 - (b + 1) < 4 - b := by omega
     have hnx : A.set OW (A.tn bi) (I (A.sub y t)) = Zaz l of (b + 1) := by rw [Z7n hA w2 rfl, w3, hsb, hy, ht, Zht l of hb]
     have hb1 : b + 1 <= 4 := hb;cbv;refine Z16 Z0 hA hS [0, 1, 2, 3, 4, 5, 6, 7, 8, 9, 10, 11, 12, 13, 14, 15] rfl rfl fun Dk hD => ?_;cbv;refine ⟨iO, ⟨_, gO, ?_⟩⟩;cbv;refine ⟨iW, ⟨_, gW, ?_⟩⟩;cbv;refine ⟨iP, ⟨_, gP, ?_⟩⟩;cbv;refine ⟨hfs, iO, ⟨_, gO, ?_⟩⟩;cbv;refine ⟨hfb, ?_⟩;refine Z8 (A.add bi 1, b + 1, A.set OW (A.tn bi) (I (A.sub y t))) [0, 1, 2, 3, 4, 5] ⟨hb1, hw2, hnx⟩ hms3 ?_;exact ⟨by decide, Z69, ⟨rfl, rfl, rfl, rfl, rfl, rfl, trivial⟩, ⟨rfl, rfl, rfl, rfl, rfl, rfl, rfl, rfl, rfl, rfl, rfl, rfl, rfl, trivial⟩, rfl, rfl⟩
    ·have hb : b = 4 := hno3 c3;have hOW : OW = (Z2c l of).map I := by rw [w3, hb, Zhv]
     have hE : A.eqN 4 (A.len OW) := Zkd hA (by rw [Z9m hA hOWl]);cbv;refine Z7 ?_;cbv;refine Zb hS ?_;refine Za (α := Int × Nat × List D) (fun z => { env := [(0, .agg [I ins, .sl 1 FL, .sl 5 ML]), (2, .o 0 1 nb), (4, I x), (5, .sl 1 LL), (6, .o 1 1 20736), (7, .b 2 0), (8, .b 3 0), (10, .b 4 0), (14, I a), (16, .sl 1 WL), (17, I wi), (18, .sl 1 OW), (20, I z.1)], H := [.els 1 BL, .els 1 z.2.2, .box (.agg [I ins, .sl 1 FL, .sl 5 ML]), .box (.agg [I kd0, I qi, I qb, .sl 1 QB]), .box (.agg [I 2, I bn, I it, I lo, I hi])], nt := 149, dfs := [] })
      (fun z => N - z.2.1) (fun z => z.2.1 <= N /\ IsI z.1 z.2.1 /\ MarkV z.2.2 (fun s => TB s ∨ ∃ k' : Nat, k' < z.2.1 /\ Z5b ins it k' /\ s = Z5l ⟨kd0, qi, qb, qbs⟩ l of x k')) (0, 0, NW) ⟨Nat.zero_le _, ⟨rfl⟩, v4.congr fun s => ⟨.inl, fun h => h.elim id fun ⟨t, h1, _⟩ => absurd h1 (Nat.not_lt_zero t)⟩⟩ ?_ ?_
     ·refine Z1a hA [5] ?_;cbv
      repeat (refine And.intro hE ?_)
      exact Zf [0, 1, 2, 3, 4] ⟨by decide, Z69, ⟨rfl, rfl, rfl, rfl, rfl, trivial⟩, ⟨rfl, rfl, rfl, rfl, rfl, rfl, rfl, rfl, rfl, rfl, rfl, rfl, rfl, trivial⟩, rfl, rfl⟩
     rintro ⟨ki, k, NK⟩ ⟨x1, x2, x3⟩;dsimp only at x1 x2 x3;have hyes4 : A.cmp .lss ki ins = true -> k < N := fun c => by have := xlt hA c; have := hN.eq; have := x2.eq; omega
     have hno4 : A.cmp .lss ki ins = false -> k = N := fun c => by have := Z7x hA c; have := hN.eq; have := x2.eq; omega
     refine Zi Z0 hA hS ?_;cbv;refine bm (fun c4 => ?_) (fun c4 => ?_)
     ·have hkN : k + 1 <= N := hyes4 c4;have hkie := x2.eq;have hfk := Zy hA x2 (by omega);have hk2 := Zz hA x2;have hmsk : N - (k + 1) < N - k := by omega
      have hkr : 0 <= ki /\ ki < ins := by have := hN.eq; omega
      have hst0' : ¬ Z5b ins it ki -> MarkV NK (fun s => TB s ∨ ∃ k' : Nat, k' < k + 1 /\ Z5b ins it k' /\ s = Z5l ⟨kd0, qi, qb, qbs⟩ l of x k') := fun hn => x3.congr fun s => by
       rw [hkie] at hn;constructor
       ·rintro (h | ⟨n, h1, h2⟩)
        ·exact .inl h
        ·exact .inr ⟨n, by omega, h2⟩
       ·rintro (h | ⟨n, h1, h2, h3⟩)
        ·exact .inl h
        ·by_cases e : n = k
         ·subst e; exact absurd h2 hn
         ·exact .inr ⟨n, by omega, h2, h3⟩
      cbv;refine bm (fun c5 => ?_) (fun c5 => ?_)
      ·have hmay : Z5b ins it ki := ⟨hkr, .inl (xlt hA c5)⟩;obtain ⟨hlo, hyA, hyB⟩ := hok a of ki ⟨u1.1, hah⟩ hofm hmay;have hki4 : 0 <= ki /\ ki < 4 := by have := hmay.1; have := hN.eq; omega
       obtain ⟨y, hy⟩ : ∃ y, y = Z78 ⟨kd0, qi, qb, qbs⟩ ki of x 4 := ⟨_, rfl⟩;rw [<- hy] at hyA hyB;have hy15 : 0 <= y /\ y <= 15 := ⟨hyA, hyB⟩;have hmul : A.mul y 1296 = y * 1296 := by subst hA; rfl
       have hfm : A.fits .i64 (A.mul y 1296) := Z14 hA hmul (by omega);have hlt := Z4x (s := (Z2c l of, y)) hlo hyA hyB;obtain ⟨z0, hz0⟩ := x3.get hlt;have iN : ∀ i, IsI i (Z1i (Z2c l of, y)) -> A.inb i 20736 := fun i h => Z4o hA h hlt;have gN : ∀ i, IsI i (Z1i (Z2c l of, y)) -> A.get NK (A.tn i) = some (.v (.bool z0)) := fun i h => Z18 hA h hz0;have hst : ∀ i, IsI i (Z1i (Z2c l of, y)) -> MarkV (A.set NK (A.tn i) (.v (.bool true))) (fun s => TB s ∨ ∃ k' : Nat, k' < k + 1 /\ Z5b ins it k' /\ s = Z5l ⟨kd0, qi, qb, qbs⟩ l of x k') := fun i h => by
        rw [Z7n hA h rfl];refine (x3.set (s := (Z2c l of, y)) hlo hyA hyB).congr fun s => ?_;have hs0 : (Z2c l of, y) = Z5l ⟨kd0, qi, qb, qbs⟩ l of x (k : Int) := by rw [hy, hkie]; rfl
        rw [hkie] at hmay;constructor
        ·rintro ((h | ⟨n, h1, h2⟩) | h)
         ·exact .inl h
         ·exact .inr ⟨n, by omega, h2⟩
         ·exact .inr ⟨k, by omega, hmay, h.trans hs0⟩
        ·rintro (h | ⟨n, h1, h2, h3⟩)
         ·exact .inl (.inl h)
         ·by_cases e : n = k
          ·subst e; exact .inr (h3.trans hs0.symm)
          ·exact .inl (.inr ⟨n, by omega, h2, h3⟩)
       cbv;refine Z16 Z0 hA hS [0, 1, 2, 3, 4, 5, 6, 7, 10, 8, 9, 11, 12, 13, 14] rfl rfl fun Dk hD => ?_;cbv;refine ⟨iW, ⟨_, gW, ?_⟩⟩;cbv;refine Zq hA hD [.agg [I kd0, I qi, I qb, .sl 1 QB], I x, .sl 1 PL, I ki] [] [] rfl rfl rfl rfl rfl rfl rfl rfl rfl rfl rfl (by decide) trivial (hnot of hof4 PL hPL ki hki4 _ ⟨by cbv; repeat' (first | exact trivial | exact rfl | exact ⟨_, gW, rfl⟩ | exact iW | refine ⟨?_, ?_⟩), Zx Z0 hA hD ?_⟩);rw [<- hy];cbv;refine ⟨hfm, ?_⟩;refine Zq hA hD [.sl 1 OW] [] [] rfl rfl rfl rfl rfl rfl rfl rfl rfl rfl rfl (by decide) trivial (Zat (Z2c l of) hlo OW hOW _ fun p hp => ⟨by cbv; repeat' (first | exact trivial | exact rfl | exact ⟨_, gW, rfl⟩ | exact iW | refine ⟨?_, ?_⟩), Zx Z0 hA hD ?_⟩);obtain ⟨-, hf2, hpl⟩ := Zdn hA hy15 hp hlo;have gN1 := gN _ hpl;have iN1 := iN _ hpl;have hst1 := hst _ hpl;cbv;refine ⟨hf2, iN1, ⟨_, gN1, ?_⟩⟩;cbv;refine ⟨hfk, ?_⟩;refine Z8 (A.add ki 1, k + 1, A.set NK (A.tn (A.add (A.mul y 1296) p)) (.v (.bool true))) [0, 1, 2, 3, 4] ⟨hkN, hk2, hst1⟩ hmsk ?_;exact ⟨by decide, Z69, ⟨rfl, rfl, rfl, rfl, rfl, trivial⟩, ⟨rfl, rfl, rfl, rfl, rfl, rfl, rfl, rfl, rfl, rfl, rfl, rfl, rfl, trivial⟩, rfl, rfl⟩
      ·cbv;refine bm (fun c6 => ?_) (fun c6 => ?_)
       ·have hmay : Z5b ins it ki := ⟨hkr, .inr (xeq hA c6)⟩;obtain ⟨hlo, hyA, hyB⟩ := hok a of ki ⟨u1.1, hah⟩ hofm hmay;have hki4 : 0 <= ki /\ ki < 4 := by have := hmay.1; have := hN.eq; omega
        obtain ⟨y, hy⟩ : ∃ y, y = Z78 ⟨kd0, qi, qb, qbs⟩ ki of x 4 := ⟨_, rfl⟩;rw [<- hy] at hyA hyB;have hy15 : 0 <= y /\ y <= 15 := ⟨hyA, hyB⟩;have hmul : A.mul y 1296 = y * 1296 := by subst hA; rfl
        have hfm : A.fits .i64 (A.mul y 1296) := Z14 hA hmul (by omega);have hlt := Z4x (s := (Z2c l of, y)) hlo hyA hyB;obtain ⟨z0, hz0⟩ := x3.get hlt;have iN : ∀ i, IsI i (Z1i (Z2c l of, y)) -> A.inb i 20736 := fun i h => Z4o hA h hlt;have gN : ∀ i, IsI i (Z1i (Z2c l of, y)) -> A.get NK (A.tn i) = some (.v (.bool z0)) := fun i h => Z18 hA h hz0;have hst : ∀ i, IsI i (Z1i (Z2c l of, y)) -> MarkV (A.set NK (A.tn i) (.v (.bool true))) (fun s => TB s ∨ ∃ k' : Nat, k' < k + 1 /\ Z5b ins it k' /\ s = Z5l ⟨kd0, qi, qb, qbs⟩ l of x k') := fun i h => by
         rw [Z7n hA h rfl];refine (x3.set (s := (Z2c l of, y)) hlo hyA hyB).congr fun s => ?_;have hs0 : (Z2c l of, y) = Z5l ⟨kd0, qi, qb, qbs⟩ l of x (k : Int) := by rw [hy, hkie]; rfl
         rw [hkie] at hmay;constructor
         ·rintro ((h | ⟨n, h1, h2⟩) | h)
          ·exact .inl h
          ·exact .inr ⟨n, by omega, h2⟩
          ·exact .inr ⟨k, by omega, hmay, h.trans hs0⟩
         ·rintro (h | ⟨n, h1, h2, h3⟩)
          ·exact .inl (.inl h)
          ·by_cases e : n = k
           ·subst e; exact .inr (h3.trans hs0.symm)
           ·exact .inl (.inr ⟨n, by omega, h2, h3⟩)
        cbv;refine Z16 Z0 hA hS [0, 1, 2, 3, 4, 5, 6, 7, 10, 8, 9, 11, 12, 13, 14] rfl rfl fun Dk hD => ?_;cbv;refine ⟨iW, ⟨_, gW, ?_⟩⟩;cbv;refine Zq hA hD [.agg [I kd0, I qi, I qb, .sl 1 QB], I x, .sl 1 PL, I ki] [] [] rfl rfl rfl rfl rfl rfl rfl rfl rfl rfl rfl (by decide) trivial (hnot of hof4 PL hPL ki hki4 _ ⟨by cbv; repeat' (first | exact trivial | exact rfl | exact ⟨_, gW, rfl⟩ | exact iW | refine ⟨?_, ?_⟩), Zx Z0 hA hD ?_⟩);rw [<- hy];cbv;refine ⟨hfm, ?_⟩;refine Zq hA hD [.sl 1 OW] [] [] rfl rfl rfl rfl rfl rfl rfl rfl rfl rfl rfl (by decide) trivial (Zat (Z2c l of) hlo OW hOW _ fun p hp => ⟨by cbv; repeat' (first | exact trivial | exact rfl | exact ⟨_, gW, rfl⟩ | exact iW | refine ⟨?_, ?_⟩), Zx Z0 hA hD ?_⟩);obtain ⟨-, hf2, hpl⟩ := Zdn hA hy15 hp hlo;have gN1 := gN _ hpl;have iN1 := iN _ hpl;have hst1 := hst _ hpl;cbv;refine ⟨hf2, iN1, ⟨_, gN1, ?_⟩⟩;cbv;refine ⟨hfk, ?_⟩;refine Z8 (A.add ki 1, k + 1, A.set NK (A.tn (A.add (A.mul y 1296) p)) (.v (.bool true))) [0, 1, 2, 3, 4] ⟨hkN, hk2, hst1⟩ hmsk ?_;exact ⟨by decide, Z69, ⟨rfl, rfl, rfl, rfl, rfl, trivial⟩, ⟨rfl, rfl, rfl, rfl, rfl, rfl, rfl, rfl, rfl, rfl, rfl, rfl, rfl, trivial⟩, rfl, rfl⟩
       ·have hst0 := hst0' (fun h => h.2.elim (fun g => by have := Z7x hA c5; omega) (Z2o hA c6));cbv;refine ⟨hfk, ?_⟩;refine Z8 (A.add ki 1, k + 1, NK) [0, 1, 2, 3, 4] ⟨hkN, hk2, hst0⟩ hmsk ?_;exact ⟨by decide, Z69, ⟨rfl, rfl, rfl, rfl, rfl, trivial⟩, ⟨rfl, rfl, rfl, rfl, rfl, rfl, rfl, rfl, rfl, rfl, rfl, rfl, rfl, trivial⟩, rfl, rfl⟩
     ·have hk : k = N := hno4 c4;have hz : MarkV NK (fun s => TA s ∨ ∃ t of, t < w + 1 /\ ways[t]? = some of /\ ∃ k, Z5b ins it k /\ s = Z5l ⟨kd0, qi, qb, qbs⟩ l of x k) := x3.congr fun s => by
       rw [hTB];constructor
       ·rintro ((h | ⟨t, o, h1, h2⟩) | ⟨n, h1, h2, h3⟩)
        ·exact .inl h
        ·exact .inr ⟨t, o, by omega, h2⟩
        ·exact .inr ⟨w, of, by omega, hof, n, h2, h3⟩
       ·rintro (h | ⟨t, o, h1, h2, n, h3, h4⟩)
        ·exact .inl (.inl h)
        ·by_cases e : t = w
         ·subst e;rw [hof] at h2; cases h2;have hn0 := h3.1;have hNe := hN.eq;obtain ⟨n', rfl⟩ : ∃ n' : Nat, n = n' := ⟨n.toNat, by omega⟩;exact .inr ⟨n', by omega, h3, h4⟩
         ·exact .inl (.inr ⟨t, o, by omega, h2, n, h3, h4⟩)
      have hw1 : w + 1 <= ways.length := hw;cbv;refine Z7 ?_;cbv;refine ⟨hfw, ?_⟩;refine Z8 (A.add wi 1, w + 1, NK) [0, 1, 2, 3, 4] ⟨hw1, hv2, hz⟩ hms2 ?_;exact ⟨by decide, Z69, ⟨rfl, rfl, rfl, rfl, rfl, trivial⟩, ⟨rfl, rfl, rfl, rfl, rfl, rfl, rfl, rfl, rfl, rfl, rfl, trivial⟩, rfl, rfl⟩
   ·have hw : w = ways.length := hno2 c2;have hz : MarkV NW (fun s => T s ∨ ∃ a', (lo <= a' /\ a' < A.add a 1) /\ ∃ of, of ∈ Z5k false l bs bn a' /\ ∃ k, Z5b ins it k /\ s = Z5l ⟨kd0, qi, qb, qbs⟩ l of x k) := v3.congr fun s => by
     rw [hTA, ha1];constructor
     ·rintro ((h | ⟨a', h1, h2⟩) | ⟨t, of, h1, h2, h3⟩)
      ·exact .inl h
      ·exact .inr ⟨a', by omega, h2⟩
      ·exact .inr ⟨a, by omega, of, by rw [<- hways]; exact List.mem_of_getElem? h2, h3⟩
     ·rintro (h | ⟨a', h1, of, h2, h3⟩)
      ·exact .inl (.inl h)
      ·by_cases e : a' = a
       ·subst e;rw [<- hways] at h2;obtain ⟨t, ht, e2⟩ := List.getElem_of_mem h2;exact .inr ⟨t, of, by omega, by rw [List.getElem?_eq_getElem ht, e2], h3⟩
       ·exact .inl (.inr ⟨a', by omega, of, h2, h3⟩)
    cbv;refine Z7 ?_;cbv;refine ⟨hfa, ?_⟩;refine Z8 (A.add a 1, NW) [0, 1, 2, 3, 4] ⟨hain, hz⟩ hmsa ?_;exact ⟨by decide, Z69, ⟨rfl, rfl, rfl, rfl, rfl, trivial⟩, ⟨rfl, rfl, rfl, rfl, rfl, rfl, rfl, rfl, rfl, trivial⟩, rfl, rfl⟩
 ·have hah : hi < a := Zec hA c;have hz := fun d => hq d NA (u2.congr fun s => by
   constructor
   ·rintro (h | ⟨n, h1, h2⟩)
    ·exact .inl h
    ·exact .inr ⟨n, by omega, h2⟩
   ·rintro (h | ⟨n, h1, h2⟩)
    ·exact .inl h
    ·exact .inr ⟨n, by omega, h2⟩)
  cbv;refine Z7 ?_;cbv;exact Z2 [0, 1] (by decide) Z69 (H' := [.els 1 BL, .els 1 NA]) (d' := .tup []) ⟨rfl, rfl, trivial⟩ rfl (Z1 (hz _))
end Go.Proofs.Ytecfpfhkicapeaa
