/- Part RunS of the proofs about the benches of the accordion maker: see the last text of the claim for what is proved. -/
import Derived.Test.YthljpccegkmdnaaGreatDoorRunO
import Derived.Test.YthljpccegkmdnaaGreatDoorRunR
import Derived.Test.YthljpccegkmdnaaGreatDoorRunX
import Derived.Test.YthljpccegkmdnaaGreatDoorRunM
import Derived.Test.YthljpccegkmdnaaGreatDoorRunJ
set_option linter.unusedVariables false
set_option linter.unusedSimpArgs false
set_option linter.unnecessarySimpa false
set_option linter.constructorNameAsVariable false

namespace Go.Batch
theorem Zl6 {bin : Int} : ∀ {bs l l' : List Int} {own : Nat}, bs[own]? = some bin -> (∀ k, l'.getD k 0 = if k = own then l.getD own 0 - 1 else l.getD k 0) -> inL bin bs l' = inL bin bs l - 1
 | [], l, l', own, h, _ => by simp at h
 | b :: bs, l, l', 0, h, hl => by
  simp at h; subst h;have e : ∀ l : List Int, l.headD 0 = l.getD 0 0 := fun l => by cases l <;> simp
  have e2 : ∀ (l : List Int) k, l.tail.getD k 0 = l.getD (k + 1) 0 := fun l k => by cases l <;> simp
  have h0 := hl 0;have ht : inL b bs l'.tail = inL b bs l.tail := Zon bs _ _ fun k _ => by rw [e2, e2, hl (k + 1), if_neg (by omega)]
  simp only [inL, e, ht, h0, if_true];omega
 | b :: bs, l, l', own + 1, h, hl => by
  have e : ∀ l : List Int, l.headD 0 = l.getD 0 0 := fun l => by cases l <;> simp
  have e2 : ∀ (l : List Int) k, l.tail.getD k 0 = l.getD (k + 1) 0 := fun l k => by cases l <;> simp
  have := Zl6 (bin := bin) (bs := bs) (l := l.tail) (l' := l'.tail) (own := own) (by simpa using h) (fun k => by
   rw [e2, hl (k + 1), e2, e2]
   by_cases hk : k = own
   ·rw [if_pos hk, if_pos (by omega)]
   ·rw [if_neg hk, if_neg (by omega)])
  have h0 := hl 0;rw [if_neg (by omega)] at h0;simp only [inL, e, this, h0];omega
theorem Zhl {of of' : List Int} {own : Nat} (h : ∀ k, of'.getD k 0 = if k = own then of.getD own 0 + 1 else of.getD k 0) : ∀ (bs : List Int) (i : Nat), i <= own -> own < i + bs.length -> Z32 of' bs i = Z32 of bs i + 1
 | [], i, h1, h2 => by simp at h2; omega
 | b :: bs, i, h1, h2 => by
  have out : ∀ (bs : List Int) (i : Nat), own < i -> Z32 of' bs i = Z32 of bs i := by
   intro bs
   induction bs with
   | nil => intro i _; rfl
   | cons b bs ih => intro i hi; simp only [Z32, ih (i + 1) (by omega), h i, if_neg (show ¬ i = own by omega)]
  by_cases e : i = own
  ·subst e;simp only [Z32, out bs (i + 1) (by omega), h i, if_true];omega
  ·have := Zhl h bs (i + 1) (by omega) (by simp at h2; omega);simp only [Z32, this, h i, if_neg e];omega
end Go.Batch
namespace Go.Proofs.YthljpccegkmdnaaGreatDoor
open Go Go.Abs Go.Proofs Go.Batch
end Go.Proofs.YthljpccegkmdnaaGreatDoor

namespace Go.Abs
open Go
section
variable {P : Program} {T : TT} {r : Option Nat} {m : Nat} {ops : Array Oper} {Q : AX -> St -> Prop} {s : St}
end
end Go.Abs

namespace Go.Proofs.YthljpccegkmdnaaGreatDoor
open Go Go.Abs Go.Proofs Go.Batch
def tkD (t : Int × List Int) : D := .agg [I t.1, if t.2 = [] then .v (.slice none 0 0) else .sl 1 (t.2.map I)]
structure GenI (ins : Int) (first : List Bool) (moves : Int) (cnt : Int) (c : Nat) (ms : List Mv) (lies : List Int) (truth : List (Int × List Int)) (nb nm : Nat) (LL BL ML TL : List D) (wide : Int) : Prop where
 cI : IsI cnt c
 mc : ms.length + c <= 10
 mm : (ms.length : Int) + c <= max moves 0
 g : Gen ins first ms lies truth
 nb : nb = (Z6 ms).length
 nm : nm = ms.length
 L : LL = lies.map I
 B : BL = (Z6 ms).map I
 M : ML = ms.map mvD
 T : TL = truth.map tkD
 W : ∀ m ∈ ms, wide = 0 -> m.lo = m.hi
structure TakI (fifo : Bool) (bin : Int) (bins lies : List Int) (n0 : Int) (nI : Int) (r : Nat) (cur of : List Int) (LL OL : List D) : Prop where
 rI : IsI nI r
 tk : Took fifo bin bins 0 lies of
 cu : ∀ k, cur.getD k 0 = lies.getD k 0 - of.getD k 0
 lo : LOk cur
 ol : of.length = 4
 o5 : ∀ k, of.getD k 0 <= 5
 sm : Z32 of bins 0 + r = n0
 le : (r : Int) <= inL bin bins cur
 L : LL = cur.map I
 O : OL = of.map I
theorem Zhm {l : List Int} (h : l.length = 4) {own : Nat} (ho : own < 4) (x : Int) (k : Nat) : (l.set own x).getD k 0 = if k = own then x else l.getD k 0 := by
 rw [Z1r _ _ _ _ (by omega)]
 by_cases e : own = k
 ·rw [if_pos e, if_pos e.symm]
 ·rw [if_neg e, if_neg (fun h => e h.symm)]
theorem TakI.next {fifo : Bool} {bin : Int} {bins lies : List Int} {n0 nI : Int} {r : Nat} {cur of : List Int} {LL OL : List D} (h : TakI fifo bin bins lies n0 nI (r + 1) cur of LL OL) (hb : bins.length <= 4) (hl : LOk lies) {own : Nat} (h1 : bins[own]? = some bin) (h2 : 0 < cur.getD own 0)
  (h3 : fifo = true -> ∀ k, k < own -> bins[k]? = some bin -> cur.getD k 0 <= 0) {nI' : Int} (hn : IsI nI' r) {LL' OL' : List D} (hL : LL' = LL.set own (I (cur.getD own 0 - 1))) (hO : OL' = OL.set own (I (of.getD own 0 + 1))) :
  TakI fifo bin bins lies n0 nI' r (cur.set own (cur.getD own 0 - 1)) (of.set own (of.getD own 0 + 1)) LL' OL' := by
 have ho : own < bins.length := (List.getElem?_eq_some_iff.1 h1).1;have ho4 : own < 4 := by omega
 have ec := Zhm h.lo.len ho4 (cur.getD own 0 - 1);have eo := Zhm h.ol ho4 (of.getD own 0 + 1);refine ⟨hn, h.tk.unit h.cu h1 h2 h3 (fun k => ?_), fun k => ?_, h.lo.set ho4 (by omega) (by have := h.lo.hi own; omega), by simp [h.ol], fun k => ?_, ?_, ?_, by rw [hL, h.L]; simp, by rw [hO, h.O]; simp⟩
 ·rw [eo]
 ·rw [ec, eo];have := h.cu k
  by_cases e : k = own
  ·subst e; rw [if_pos rfl, if_pos rfl]; omega
  ·rw [if_neg e, if_neg e]; exact this
 ·rw [eo]
  split
  ·rename_i e
   have := h.cu own;have := hl.hi own;omega
  ·exact h.o5 k
 ·have := Zhl (of := of) (of' := of.set own (of.getD own 0 + 1)) (own := own) eo bins 0 (Nat.zero_le _) (by omega);have := h.sm;omega
 ·have := Zl6 (l := cur) (l' := cur.set own (cur.getD own 0 - 1)) h1 ec;have := h.le;omega
end Go.Proofs.YthljpccegkmdnaaGreatDoor

namespace Go.Proofs.YthljpccegkmdnaaGreatDoor
open Go Go.Abs Go.Proofs Go.Batch
end Go.Proofs.YthljpccegkmdnaaGreatDoor

namespace Go.Batch
theorem Zh8 {j : Jn} {x : Ste (List (Int × Nat × Int))} (h : x ∈ Zd j Z1f []) : Zc j = true := by
 unfold Zc;rw [Z1n Zn]
 cases he : Zd j Z1f [] with
 | nil => rw [he] at h; simp at h
 | cons a l => rfl
theorem Z55 {j : Jn} (h : Zc j = true) (tk : Tk Int) : Zd j tk 0 ≠ [] := by
 unfold Zc at h;rw [Z1n Zn] at h;rw [Z1n tk]
 cases he : Zd j Z1f [] with
 | nil => rw [he] at h; simp at h
 | cons a l => simp
end Go.Batch

namespace Go.Proofs.YthljpccegkmdnaaGreatDoor
open Go Go.Abs Go.Proofs Go.Batch
structure MdJ (j : Jn) (ins : Int) (N n m : Nat) (FL ML : List D) : Prop where
 ok : JOk j
 st : Zc j = true
 ie : j.ins = ins
 nI : IsI ins N
 F : FL = j.first.map Zv
 M : ML = j.moves.map mvD
 n : j.first.length = n
 m : j.moves.length = m
section
variable {j : Jn} {ins : Int} {N n m : Nat} {FL ML : List D}
theorem MdJ.n2 (h : MdJ j ins N n m FL ML) : 1 <= n /\ n <= 2 := by have := h.ok.f1; have := h.ok.f2; have := h.n; omega
theorem MdJ.m10 (h : MdJ j ins N n m FL ML) : m <= 10 := by have := h.ok.m10; have := h.m; omega
theorem MdJ.fl (h : MdJ j ins N n m FL ML) : j.first.length <= 1152921504606846976 := lim (by have := h.ok.f2; omega)
theorem MdJ.ml (h : MdJ j ins N n m FL ML) : j.moves.length <= 1152921504606846976 := lim (by have := h.ok.m10; omega)
theorem MdJ.c0 (h : MdJ j ins N n m FL ML) : Zr j = 0 := Z81 h.ok
theorem MdJ.holds (h : MdJ j ins N n m FL ML) (Q) (hq : ∀ L, L = (Z5w j).map (fun l => .sl 1 (l.map I)) -> Q (RA.ret (.tup [.sl 1 L, I 0])) []) : CallA Tryz.prog 15 [.agg [I ins, .sl 1 FL, .sl 5 ML]] [] Q := by
 have e := h.ie;subst e;exact Zsy j h.fl h.ml FL ML h.F h.M Q (fun e h1 h2 => Z77 h.c0 h1 h2) (fun _ g => Z7p h.st g) (fun _ _ L hL => hq L hL)
theorem MdJ.rest (h : MdJ j ins N n m FL ML) (Q) (hq : ∀ L, L = (Z4c j).map rgD -> Q (RA.ret (.tup [.sl 2 L, I 0])) []) : CallA Tryz.prog 13 [.agg [I ins, .sl 1 FL, .sl 5 ML]] [] Q := by
 have e := h.ie;subst e;exact Zst j h.fl h.ml FL ML h.F h.M Q (fun e h1 h2 => Z77 h.c0 h1 h2) (fun _ g => Z7p h.st g) (fun _ _ L hL => hq L hL)
theorem MdJ.mixed (h : MdJ j ins N n m FL ML) (Q) (hq : ∀ L, L = (Z6b j).map I -> Q (RA.ret (.tup [.sl 1 L, I 0])) []) : CallA Tryz.prog 23 [.agg [I ins, .sl 1 FL, .sl 5 ML]] [] Q := by
 have e := h.ie;subst e;exact Zsv j h.fl h.ml FL ML h.F h.M Q (fun e h1 h2 => Z77 h.c0 h1 h2) (fun _ g => Z7p h.st g) (fun _ _ L hL => hq L hL)
end
end Go.Proofs.YthljpccegkmdnaaGreatDoor

namespace Go.Batch
structure RenJ (π : Int -> Int) (x y : Jn) : Prop where
 ins : y.ins = x.ins
 first : y.first = x.first
 bins : Z6 y.moves = Z6 x.moves
 ok : JOk y
 ends : ∀ (tk tk' : Tk Int) (z : Int), Zv2 tk' -> (∀ v i b n, 0 <= i -> i < x.ins -> tk v i b n = tk' v (π i) b n) -> ∀ s, s ∈ Zd y tk' z ↔ s ∈ Zd x tk z
section
variable {π : Int -> Int} {x y : Jn}
theorem RenJ.amt (h : RenJ π x y) (hp : RenOk x.ins π) {i : Int} (h0 : 0 <= i) (h1 : i < x.ins) (b : Nat) : Z4d y (Z2v (π i) b) = Z4d x (Z2v i b) := by
 unfold Z4d;refine Z6l fun v => ?_;have e := h.ends (Z2v i b) (Z2v (π i) b) 0 (Zsh _ _) (fun v i' b' n g0 g1 => by
  unfold Z2v
  by_cases e : i' = i
  ·subst e; simp
  ·have : π i' ≠ π i := fun g => e (hp.inj i' i g0 g1 h0 h1 g)
   rw [if_neg (fun g => e g.1), if_neg (fun g => this g.1)])
 simp only [List.mem_map, e]
theorem RenJ.mix (h : RenJ π x y) (hp : RenOk x.ins π) {i : Int} (h0 : 0 <= i) (h1 : i < x.ins) : Zs ((Zd y (Z29 (π i)) 0).map fun s => Z43 s.2) = Zs ((Zd x (Z29 i) 0).map fun s => Z43 s.2) := by
 refine Z6l fun v => ?_;have e := h.ends (Z29 i) (Z29 (π i)) 0 (Zsi _) (fun v i' b' n g0 g1 => by
  unfold Z29
  by_cases e : i' = i
  ·subst e; simp
  ·have : π i' ≠ π i := fun g => e (hp.inj i' i g0 g1 h0 h1 g)
   rw [if_neg e, if_neg this])
 simp only [List.mem_map, e]
theorem RenJ.none (h : RenJ π x y) (s : Ste Int) : s ∈ Zd y Zn 0 ↔ s ∈ Zd x Zn 0 := h.ends Zn Zn 0 Zq5 (fun _ _ _ _ _ _ => rfl) s
theorem RenJ.rest (h : RenJ π x y) : Z4c y = Z4c x := by
 unfold Z4c;rw [h.bins];refine List.map_congr_left fun i _ => Z6l fun v => ?_;simp only [List.mem_map, h.none]
theorem RenJ.stands (h : RenJ π x y) (hs : Zc x = true) : Zc y = true := by
 unfold Zc at hs ⊢
 cases he : Zd x Zn 0 with
 | nil => rw [he] at hs; cases hs
 | cons a l =>
  have := (h.none a).2 (by rw [he]; simp)
  cases hy : Zd y Zn 0 with
  | nil => rw [hy] at this; simp at this
  | cons b m => rfl
theorem RenJ.holds (h : RenJ π x y) (hp : RenOk x.ins π) {N : Nat} (hN : x.ins = N) {n p : Nat} (hn : n < N) (e : π (n : Int) = (p : Nat)) : ∃ r, (Z5w x)[n]? = some r /\ (Z5w y)[p]? = some r /\ r.length = (Z6 x.moves).length := by
 have hpN : p < N := by have := hp.rng n (by omega) (by omega); omega
 refine ⟨(List.range (Z6 x.moves).length).map fun b => Z2i (Z4d x (Z2v (n : Int) b)), ?_, ?_, by simp⟩
 ·unfold Z5w;rw [hN, Int.toNat_natCast, List.getElem?_map, List.getElem?_range hn]; rfl
 ·unfold Z5w;rw [h.ins, h.bins, hN, Int.toNat_natCast, List.getElem?_map, List.getElem?_range hpN];refine congrArg some (List.map_congr_left fun b _ => ?_);rw [<- e, h.amt hp (by omega) (by omega)]
theorem RenJ.mixed (h : RenJ π x y) (hp : RenOk x.ins π) {N : Nat} (hN : x.ins = N) {n p : Nat} (hn : n < N) (e : π (n : Int) = (p : Nat)) : ∃ v, (Z6b x)[n]? = some v /\ (Z6b y)[p]? = some v := by
 have hpN : p < N := by have := hp.rng n (by omega) (by omega); omega
 refine ⟨Z2i (Zs ((Zd x (Z29 (n : Int)) 0).map fun s => Z43 s.2)), ?_, ?_⟩
 ·unfold Z6b;rw [hN, Int.toNat_natCast, List.getElem?_map, List.getElem?_range hn]; rfl
 ·unfold Z6b;rw [h.ins, hN, Int.toNat_natCast, List.getElem?_map, List.getElem?_range hpN];refine congrArg some ?_;show Z2i _ = Z2i _;rw [<- e, h.mix hp (by omega) (by omega)]
end
end Go.Batch

namespace Go.Batch
def Z8q (b : Nat) : List (Int × Nat × Int) -> Int
 | [] => 0
 | p :: l => (if p.2.1 = b then p.2.2 else 0) + Z8q b l
structure Kept (ins : Int) (D : List Mv) (s : Ste (List (Int × Nat × Int))) : Prop where
 len : s.1.length = 4
 in_ : ∀ k m, D[k]? = some m -> m.lo <= s.1.getD k 0 + Z8q k s.2 /\ s.1.getD k 0 + Z8q k s.2 <= m.hi
 z : ∀ k, D.length <= k -> s.1.getD k 0 = 0 /\ Z8q k s.2 = 0
 by_ : ∀ p ∈ s.2, 0 <= p.1 /\ p.1 < ins
theorem Zv3 {j : Jn} {x : Ste (List (Int × Nat × Int))} (h : x ∈ Zd j Z1f []) (n : Int) (b : Nat) : Z59 n b x.2 ∈ (Zd j (Z2v n b) 0).map (·.2) := by
 rw [Z1n];simp only [List.map_map, List.mem_map, Function.comp_def];exact ⟨x, h, by rw [Zbq]; omega⟩
theorem Zsk {j : Jn} {x : Ste (List (Int × Nat × Int))} (h : x ∈ Zd j Z1f []) (b : Nat) : x.1.getD b 0 ∈ (Zd j Zn 0).map fun s => s.1.getD b 0 := by
 rw [Z1n];simp only [List.map_map, List.mem_map, Function.comp_def];exact ⟨x, h, rfl⟩
theorem Zxn {x : Int × Int} (h : x.1 <= x.2) : Z2i x = 2 ↔ x.2 = 0 := by
 unfold Z2i
 split
 ·simp; omega
 ·split <;> simp_all
end Go.Batch

namespace Go.Batch
theorem Zdd {fifo : Bool} {bin inst : Int} : ∀ (bs : List Int) (i : Nat) (s : Ste (List (Int × Nat × Int))) (a : Int), 0 <= a -> (∀ k, 0 <= s.1.getD k 0) -> ∀ x ∈ Zl fifo Z1f bin inst bs i s a,
  ∀ p ∈ x.2, p ∈ s.2 ∨ p.1 = inst /\ p.2.1 < i + bs.length /\ 1 <= p.2.2
 | [], i, s, a, _, _, x, hx => by
  unfold Zl at hx
  split at hx
  ·simp at hx; subst hx; exact fun p hp => .inl hp
  ·simp at hx
 | c :: bs, i, s, a, ha, hs, x, hx => by
  unfold Zl at hx;rw [List.length_cons]
  split at hx
  ·simp at hx; subst hx; exact fun p hp => .inl hp
  split at hx
  ·rename_i hc
   obtain ⟨n, hn, hx⟩ := List.mem_flatMap.1 hx;rw [Z7z] at hn;have h1 := hs i;have hn0 : 0 <= n := by revert hn; split <;> omega
   have hi : i < s.1.length := by
    rcases Nat.lt_or_ge i s.1.length with h | h
    ·exact h
    ·exact absurd (by simp [List.getD, List.getElem?_eq_none h]) hc.2
   have ih := Zdd bs (i + 1) (Z3n Z1f inst s i n) (a - n) (by omega) (fun k => by
    unfold Z3n
    split
    ·exact hs k
    ·show 0 <= (s.1.set i _).getD k 0
     rw [Z1r _ _ _ _ hi]
     split
     ·omega
     ·exact hs k) x hx
   intro p hp;rcases ih p hp with h | ⟨h1, h2, h3⟩
   ·unfold Z3n at h
    split at h
    ·exact .inl h
    ·have e : (Z1f s.2 inst i n) = s.2 ++ [(inst, i, n)] := rfl;simp only [e, List.mem_append] at h;rcases h with h | h
     ·exact .inl h
     ·simp at h; subst h; exact .inr ⟨rfl, by simp only; omega, by simp only; omega⟩
   ·exact .inr ⟨h1, by omega, h3⟩
  ·intro p hp;rcases Zdd bs (i + 1) s a ha hs x hx p hp with h | ⟨h1, h2, h3⟩
   ·exact .inl h
   ·exact .inr ⟨h1, by omega, h3⟩
structure Pth (ins : Int) (NB : Nat) (s : Ste (List (Int × Nat × Int))) : Prop where
 l : LOk s.1
 all : ∀ p ∈ s.2, 0 <= p.1 /\ p.1 < ins /\ p.2.1 < NB /\ 1 <= p.2.2
theorem Zfr {j : Jn} (h4 : j.ins <= 4) {bins : List Int} (hb : bins.length <= 4) : ∀ (ms : List Mv) (b : Nat) (now : List (Ste (List (Int × Nat × Int)))), (∀ m ∈ ms, MOk j m) -> b + (Z6 ms).length <= 4 -> (∀ s ∈ now, Pth j.ins bins.length s) ->
  ∀ x ∈ Z2u j Z1f bins ms b now, Pth j.ins bins.length x
 | [], b, now, _, _, hn => hn
 | m :: ms, b, now, hm, hl, hn => fun x hx => by
  rw [Z2b] at hl;simp only [Z2u] at hx;have hmm := hm m (by simp);have hlo := hmm.l0;refine Zfr h4 hb ms _ _ (fun y hy => hm y (by simp [hy])) ?_ (fun y hy => ?_) x hx
  ·by_cases hk : m.kind = 1
   ·rw [if_pos hk] at hl ⊢; rw [List.length_cons] at hl; omega
   ·rw [if_neg hk] at hl ⊢; exact hl
  ·obtain ⟨s, hs, hy⟩ := List.mem_flatMap.1 hy;have hps := hn s hs;refine ⟨Zkj hb hmm (fun hk => ?_) hps.l y hy, ?_⟩
   ·rw [if_pos hk, List.length_cons] at hl; omega
   unfold Z22 at hy
   split at hy
   ·obtain ⟨n, -, rfl⟩ := List.mem_map.1 hy;exact hps.all
   split at hy
   ·rename_i hk2
    obtain ⟨i, hi, hy⟩ := List.mem_flatMap.1 hy;obtain ⟨n, hn', hy⟩ := List.mem_flatMap.1 hy;rw [Z2d] at hn';have hii := Zda h4 hmm hk2 hi;intro p hp;rcases Zdd bins 0 s n (by omega) hps.l.lo y hy p hp with h | ⟨h1, h2, h3⟩
    ·exact hps.all p h
    ·rw [h1]; exact ⟨hii.1, hii.2, by omega, h3⟩
   ·split at hy
    ·simp at hy; subst hy; exact hps.all
    ·simp at hy
theorem Z6m {j : Jn} (hj : JOk j) : ∀ x ∈ Zd j Z1f [], Pth j.ins (Z6 j.moves).length x := fun x hx =>
 Zfr hj.i4 hj.b4 j.moves 0 _ hj.mv (by rw [Nat.zero_add]; exact hj.b4) (fun s hs => by simp at hs; subst hs; exact ⟨Zq3, fun p hp => by simp at hp⟩) x hx
theorem Zcn : ∀ (x : Fin 16) (n b : Fin 4), Z2s (Z2h (x.val : Int) n.val) b.val = (Z2s (x.val : Int) b.val || decide (n.val = b.val)) /\ 0 <= Z2h (x.val : Int) n.val /\ Z2h (x.val : Int) n.val <= 15 := by decide +kernel
theorem Zkq : ∀ (l : List Nat) (g : Int), 0 <= g /\ g <= 15 -> (∀ x ∈ l, x < 4) -> ∀ b, b < 4 -> Z2s (l.foldl Z2h g) b = (Z2s g b || decide (b ∈ l))
 | [], g, _, _, b, _ => by simp
 | n :: l, g, hg, hl, b, hb => by
  have h := Zcn ⟨g.toNat, by omega⟩ ⟨n, hl n (by simp)⟩ ⟨b, hb⟩;have e : ((g.toNat : Nat) : Int) = g := by omega
  simp only [e] at h;rw [List.foldl_cons, Zkq l _ h.2 (fun x hx => hl x (by simp [hx])) b hb, h.1, Bool.or_assoc]
  congr 1
  by_cases hn : n = b
  ·subst hn; simp
  ·simp [hn, Ne.symm hn]
theorem Z56 {l : List Nat} (hl : ∀ x ∈ l, x < 4) {b : Nat} (hb : b < 4) : Z2s (Z1p l) b = decide (b ∈ l) := by
 unfold Z1p;rw [Zkq l 0 (by decide) hl b hb];have : Z2s 0 b = false := by unfold Z2s; simp
 rw [this, Bool.false_or]
theorem Z72 (g i : Int) : ∀ (l : List (Int × Nat × Int)) (z : Int), Zt (Z3a g i) z l = if ∃ p ∈ l, p.1 = i /\ Z2s g p.2.1 = true then 1 else z
 | [], z => by simp [Zt]
 | p :: l, z => by
  have := Z72 g i l (Z3a g i z p.1 p.2.1 p.2.2);simp only [Zt, List.foldl_cons] at this ⊢;rw [this]
  by_cases h1 : ∃ q ∈ l, q.1 = i /\ Z2s g q.2.1 = true
  ·rw [if_pos h1, if_pos];obtain ⟨q, hq, h⟩ := h1;exact ⟨q, by simp [hq], h⟩
  ·rw [if_neg h1];unfold Z3a
   by_cases h2 : p.1 = i /\ Z2s g p.2.1 = true
   ·rw [if_pos h2, if_pos ⟨p, by simp, h2⟩]
   ·rw [if_neg h2, if_neg];rintro ⟨q, hq, h⟩;rcases List.mem_cons.1 hq with e | hq
    ·subst e; exact h2 h
    ·exact h1 ⟨q, hq, h⟩
theorem Zco (n : Int) (b : Nat) : ∀ (l : List (Int × Nat × Int)), (∀ p ∈ l, 1 <= p.2.2) -> 0 <= Z59 n b l /\ (0 < Z59 n b l ↔ ∃ p ∈ l, p.1 = n /\ p.2.1 = b)
 | [], _ => by simp [Z59]
 | p :: l, h => by
  obtain ⟨h1, h2⟩ := Zco n b l fun q hq => h q (by simp [hq]);have hp := h p (by simp);simp only [Z59]
  by_cases hc : p.1 = n /\ p.2.1 = b
  ·rw [if_pos hc];exact ⟨by omega, fun _ => ⟨p, by simp, hc⟩, fun _ => by omega⟩
  ·rw [if_neg hc];refine ⟨by omega, fun hx => ?_, fun hx => ?_⟩
   ·obtain ⟨q, hq, h⟩ := h2.1 (by omega);exact ⟨q, by simp [hq], h⟩
   ·obtain ⟨q, hq, hqq⟩ := hx;rcases List.mem_cons.1 hq with e | hq
    ·subst e; exact absurd hqq hc
    ·have := h2.2 ⟨q, hq, hqq⟩; omega
theorem Zoo {j : Jn} (hs : Zc j = true) : Zd j Z1f [] ≠ [] := fun e => by
 have := Z55 hs Zn;rw [Z1n, e] at this;exact this rfl
theorem Zmz {l : List Int} (h : l ≠ []) : Z6a l <= Z80 l := by
 cases l with
 | nil => exact absurd rfl h
 | cons x l => exact Int.le_trans (Z4b (y := x) (by simp)) (Z4k (y := x) (by simp))
theorem Zsl {j : Jn} (hs : Zc j = true) (tk : Tk Int) : (Z4d j tk).1 <= (Z4d j tk).2 := Zmz fun h => Z55 hs tk (List.map_eq_nil_iff.1 h)
theorem Zv4 {j : Jn} (hs : Zc j = true) (i g : Int) : Z2i (Z4d j (Z3a g i)) ≠ 2 ↔ ∃ x ∈ Zd j Z1f [], ∃ p ∈ x.2, p.1 = i /\ Z2s g p.2.1 = true := by
 have hne : (Zd j (Z3a g i) 0).map (·.2) ≠ [] := fun h => Z55 hs (Z3a g i) (List.map_eq_nil_iff.1 h);rw [Ne, Zxn (Zsl hs _)];constructor
 ·intro h;have h2 := Z6v hne;obtain ⟨s, hs1, e⟩ := List.mem_map.1 h2;rw [Z1n] at hs1;obtain ⟨x, hx, rfl⟩ := List.mem_map.1 hs1;rw [Z72] at e;refine ⟨x, hx, Classical.byContradiction fun hc => ?_⟩;rw [if_neg hc] at e;exact h e.symm
 ·rintro ⟨x, hx, h⟩ e;have hm : (1 : Int) ∈ (Zd j (Z3a g i) 0).map (·.2) := by
   rw [Z1n];simp only [List.map_map, List.mem_map, Function.comp_def];exact ⟨x, hx, by rw [Z72, if_pos h]⟩
  have h2 := Z4k hm;have e' : Z80 ((Zd j (Z3a g i) 0).map (·.2)) = 0 := e;omega
def Zkr (j : Jn) (l : List Nat) (i : Nat) : Bool := decide (Z2i (Z4d j (Z3a (Z1p l) i)) ≠ 2)
theorem Zde {j : Jn} (hj : JOk j) (hs : Zc j = true) {l : List Nat} (hl : ∀ x ∈ l, x < 4) (i : Nat) : Zkr j l i = true ↔ ∃ x ∈ Zd j Z1f [], ∃ p ∈ x.2, p.1 = i /\ p.2.1 ∈ l := by
 unfold Zkr;rw [decide_eq_true_eq, Zv4 hs];refine exists_congr fun x => and_congr_right fun hx => exists_congr fun p => and_congr_right fun hp => and_congr_right fun _ => ?_;have := ((Z6m hj x hx).all p hp).2.2.1;have h4 := hj.b4;rw [Z56 hl (by omega), decide_eq_true_eq]
end Go.Batch
