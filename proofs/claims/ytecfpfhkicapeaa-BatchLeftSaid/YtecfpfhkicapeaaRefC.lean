/- Part RefC of the proofs about the benches of the accordion maker: see the last text of the claim for what is proved. -/
import Derived.Test.YtecfpfhkicapeaaRefA
import Derived.Test.YtecfpfhkicapeaaSaysB
import Derived.Test.YtecfpfhkicapeaaBatL
import Derived.Test.YtecfpfhkicapeaaWroA
import Derived.Test.YtecfpfhkicapeaaBatI
import Derived.Test.YtecfpfhkicapeaaFewA
set_option linter.unusedVariables false
set_option linter.unusedSimpArgs false
set_option linter.unnecessarySimpa false
set_option linter.constructorNameAsVariable false

namespace Go.Batch
def Z4u (bs : List Nat) (l : List Int) : Int := (bs.map fun b => l.getD b 0).sum
theorem Ztr (b : Nat) (l : List Int) : Z4u [b] l = l.getD b 0 := by simp [Z4u]
theorem Zhy (bs : List Nat) (b : Nat) (l : List Int) : Z4u (bs ++ [b]) l = Z4u bs l + l.getD b 0 := by simp [Z4u]
theorem Zqs {bs : List Nat} {k b : Nat} (h : bs[k]? = some b) (l : List Int) : Z4u (bs.take (k + 1)) l = Z4u (bs.take k) l + l.getD b 0 := by
 rw [List.take_add_one, h, Option.toList_some, Zhy]
theorem Zts {l : List Int} (hl : LOk l) : ∀ bs : List Nat, 0 <= Z4u bs l /\ Z4u bs l <= 5 * bs.length
 | [] => by simp [Z4u]
 | b :: bs => by
  have ih := Zts hl bs;have h1 := hl.lo b;have h2 := hl.hi b;have e : Z4u (b :: bs) l = l.getD b 0 + Z4u bs l := by simp [Z4u]
  rw [e, List.length_cons];omega
def Zee (bins : List Int) (bin : Int) (k : Nat) : List Nat := (List.range k).filter fun b => decide (bins.getD b 0 = bin)
theorem Zhz (bins : List Int) (bin : Int) (k : Nat) : Zee bins bin (k + 1) = if bins.getD k 0 = bin then Zee bins bin k ++ [k] else Zee bins bin k := by
 unfold Zee;rw [List.range_succ, List.filter_append, List.filter_cons]
 by_cases h : bins.getD k 0 = bin
 ·rw [if_pos h, if_pos (by rw [decide_eq_true_eq]; exact h)]; rfl
 ·rw [if_neg h, if_neg (by rw [decide_eq_true_eq]; exact h)]; simp
theorem Zw4 {bins : List Int} {bin : Int} {k b : Nat} (h : b ∈ Zee bins bin k) : b < k := List.mem_range.1 (List.mem_filter.1 h).1
theorem Zlg (bins : List Int) (bin : Int) (k : Nat) : (Zee bins bin k).length <= k := by
 have := List.length_filter_le (fun b => decide (bins.getD b 0 = bin)) (List.range k)
 rwa [List.length_range] at this
theorem Zlh (bin b : Int) : ∀ bs l : List Int, inL bin (bs ++ [b]) l = inL bin bs l + if b = bin then l.getD bs.length 0 else 0
 | [], l => by
  simp only [List.nil_append, inL, List.length_nil]
  cases l <;> simp
 | c :: bs, l => by
  simp only [List.cons_append, inL, List.length_cons];rw [Zlh bin b bs l.tail];have e : l.tail.getD bs.length 0 = l.getD (bs.length + 1) 0 := by cases l <;> simp
  rw [e];omega
theorem Zp2 (bins : List Int) (bin : Int) (l : List Int) : ∀ k, k <= bins.length -> Z4u (Zee bins bin k) l = inL bin (bins.take k) l
 | 0, _ => by simp [Zee, Z4u, inL]
 | k + 1, h => by
  have ih := Zp2 bins bin l k (by omega);obtain ⟨b, hb⟩ : ∃ b, bins[k]? = some b := ⟨_, List.getElem?_eq_getElem (by omega)⟩;have hg : bins.getD k 0 = b := by rw [List.getD_eq_getElem?_getD, hb]; rfl
  rw [List.take_add_one, hb, Option.toList_some, Zlh, Zhz, hg, List.length_take, Nat.min_eq_left (by omega)]
  by_cases h1 : b = bin
  ·rw [if_pos h1, if_pos h1, Zhy, ih]
  ·rw [if_neg h1, if_neg h1, ih, Int.add_zero]
structure LyI (S : List (Ste Int)) (f : List Int -> Int) (n : Nat) (sm : Bool) (lo hi : Int) : Prop where
 no : sm = false -> ∀ s ∈ S, ¬ Z1i s < n
 lo1 : sm = true -> ∃ s ∈ S, f s.1 = lo
 hi1 : sm = true -> ∃ s ∈ S, f s.1 = hi
 bd : ∀ s ∈ S, Z1i s < n -> lo <= f s.1 /\ f s.1 <= hi
theorem LyI.start (S : List (Ste Int)) (f : List Int -> Int) : LyI S f 0 false 0 0 :=
 ⟨fun _ s _ h => absurd h (Nat.not_lt_zero _), fun h => Bool.noConfusion h, fun h => Bool.noConfusion h, fun s _ h => absurd h (Nat.not_lt_zero _)⟩
theorem LyI.skip {S : List (Ste Int)} {f : List Int -> Int} {n : Nat} {sm : Bool} {lo hi : Int} (h : LyI S f n sm lo hi) (hs : ∀ s ∈ S, LOk s.1 /\ 0 <= s.2) (hn : ¬ Z3o n ∈ S) : LyI S f (n + 1) sm lo hi := by
 have key : ∀ s ∈ S, Z1i s < n + 1 -> Z1i s < n := fun s h1 h2 => by
  rcases Nat.lt_or_eq_of_le (Nat.le_of_lt_succ h2) with g | g
  ·exact g
  ·have := Z57 (hs s h1).1 (hs s h1).2;rw [g] at this;rw [this] at hn;exact absurd h1 hn
 exact ⟨fun h1 s h2 h3 => h.no h1 s h2 (key s h2 h3), h.lo1, h.hi1, fun s h1 h2 => h.bd s h1 (key s h1 h2)⟩
theorem LyI.first {S : List (Ste Int)} {f : List Int -> Int} {n : Nat} {lo hi : Int} (h : LyI S f n false lo hi) (hs : ∀ s ∈ S, LOk s.1 /\ 0 <= s.2) (hn : Z3o n ∈ S) : LyI S f (n + 1) true (f (Z1z (n % 1296))) (f (Z1z (n % 1296))) :=
 ⟨fun h => Bool.noConfusion h, fun _ => ⟨_, hn, rfl⟩, fun _ => ⟨_, hn, rfl⟩, fun s h1 h2 => by
  rcases Nat.lt_or_eq_of_le (Nat.le_of_lt_succ h2) with g | g
  ·exact absurd g (h.no rfl s h1)
  ·have := Z57 (hs s h1).1 (hs s h1).2
   rw [g] at this
   rw [<- this]
   exact ⟨Int.le_refl _, Int.le_refl _⟩⟩
theorem LyI.next {S : List (Ste Int)} {f : List Int -> Int} {n : Nat} {lo hi : Int} (h : LyI S f n true lo hi) (hs : ∀ s ∈ S, LOk s.1 /\ 0 <= s.2) (hn : Z3o n ∈ S) : LyI S f (n + 1) true (min lo (f (Z1z (n % 1296)))) (max hi (f (Z1z (n % 1296)))) := by
 refine ⟨fun h => Bool.noConfusion h, fun _ => ?_, fun _ => ?_, fun s h1 h2 => ?_⟩
 ·by_cases g : lo <= f (Z1z (n % 1296))
  ·rw [Int.min_eq_left g]; exact h.lo1 rfl
  ·rw [Int.min_eq_right (by omega)]; exact ⟨_, hn, rfl⟩
 ·by_cases g : f (Z1z (n % 1296)) <= hi
  ·rw [Int.max_eq_left g]; exact h.hi1 rfl
  ·rw [Int.max_eq_right (by omega)]; exact ⟨_, hn, rfl⟩
 ·rcases Nat.lt_or_eq_of_le (Nat.le_of_lt_succ h2) with g | g
  ·have := h.bd s h1 g; omega
  ·have := Z57 (hs s h1).1 (hs s h1).2;rw [g] at this;have e : f s.1 = f (Z1z (n % 1296)) := by rw [<- this]; rfl
   omega
theorem Zli {L : List Int} {lo hi : Int} (h1 : lo ∈ L) (h2 : hi ∈ L) (h : ∀ x ∈ L, lo <= x /\ x <= hi) : Zs L = (lo, hi) := by
 have hne : L ≠ [] := fun e => by rw [e] at h1; cases h1
 have a1 := Z4b h1;have a2 := (h _ (Z50 hne)).1;have a3 := Z4k h2;have a4 := (h _ (Z6v hne)).2;unfold Zs;rw [Int.le_antisymm a1 a2, Int.le_antisymm a4 a3]
theorem LyI.all {S : List (Ste Int)} {f : List Int -> Int} {sm : Bool} {lo hi : Int} (h : LyI S f 1296 sm lo hi) (hs : ∀ s ∈ S, LOk s.1 /\ s.2 = 0) (hne : S ≠ []) : Zs (S.map fun s => f s.1) = (lo, hi) := by
 have hp : ∀ s ∈ S, Z1i s < 1296 := fun s h1 => by
  have := Z9x (hs s h1).1;unfold Z1i;rw [(hs s h1).2];omega
 cases sm with
 | false =>
  obtain ⟨s, l, e⟩ := List.exists_cons_of_ne_nil hne;have hm : s ∈ S := by rw [e]; exact List.mem_cons_self
  exact absurd (hp s hm) (h.no rfl s hm)
 | true =>
  obtain ⟨s, h1, e1⟩ := h.lo1 rfl;obtain ⟨t, h2, e2⟩ := h.hi1 rfl;exact Zli (List.mem_map.2 ⟨s, h1, e1⟩) (List.mem_map.2 ⟨t, h2, e2⟩) fun x hx => by
   obtain ⟨u, hu, rfl⟩ := List.mem_map.1 hx;exact h.bd u hu (hp u hu)
def Zgh (is no : Bool) : Int := if no = false then 1 else if is = false then 2 else 3
theorem Zg8 {L : List Int} (hne : L ≠ []) (h0 : ∀ x ∈ L, 0 <= x) {is no : Bool} (h1 : is = true ↔ ∃ x ∈ L, 0 < x) (h2 : no = true ↔ ∃ x ∈ L, x = 0) : Z2i (Zs L) = Zgh is no := by
 have a1 := Z50 hne;have a2 := Z6v hne;have e1 : (Zs L).1 = Z6a L := rfl;have e2 : (Zs L).2 = Z80 L := rfl;unfold Z2i Zgh;rw [e1, e2]
 by_cases c : 0 < Z6a L
 ·have : no = false := by
   cases no with
   | false => rfl
   | true =>
    obtain ⟨x, hx, hx0⟩ := h2.1 rfl;have := Z4b hx; omega
  rw [if_pos c, if_pos this]
 ·have z := h0 _ a1;have : no = true := h2.2 ⟨_, a1, by omega⟩;rw [if_neg c, this, if_neg (c := true = false) (by decide)]
  by_cases d : Z80 L = 0
  ·have : is = false := by
    cases is with
    | false => rfl
    | true =>
     obtain ⟨x, hx, hx0⟩ := h1.1 rfl;have := Z4k hx; omega
   rw [if_pos d, if_pos this]
  ·have z2 := h0 _ a2;have : is = true := h1.2 ⟨_, a2, by omega⟩;rw [if_neg d, this, if_neg (by decide)]
def Zg9 (T P : Nat -> Prop) (n : Nat) : Prop := ∃ m, m < n /\ T m /\ P m
theorem Zj9 (T P : Nat -> Prop) : ¬ Zg9 T P 0 := fun ⟨_, h, _⟩ => absurd h (Nat.not_lt_zero _)
theorem Zbw (T P : Nat -> Prop) (n : Nat) : Zg9 T P (n + 1) ↔ Zg9 T P n ∨ T n /\ P n := by
 constructor
 ·rintro ⟨m, h1, h2⟩;rcases Nat.lt_or_eq_of_le (Nat.le_of_lt_succ h1) with g | g
  ·exact .inl ⟨m, g, h2⟩
  ·subst g; exact .inr h2
 ·rintro (⟨m, h1, h2⟩ | h2)
  ·exact ⟨m, by omega, h2⟩
  ·exact ⟨n, by omega, h2⟩
theorem Za6 {S : List (Ste Int)} (hs : ∀ s ∈ S, 0 <= s.2 /\ s.2 <= 15) (P : Nat -> Prop) : Zg9 (fun m => ∃ s ∈ S, s.2 = (m : Int)) P 16 ↔ ∃ s ∈ S, P s.2.toNat := by
 constructor
 ·rintro ⟨m, h1, ⟨s, hs, e⟩, h2⟩;exact ⟨s, hs, by rw [e]; exact h2⟩
 ·rintro ⟨s, h1, h2⟩;have := hs s h1;exact ⟨s.2.toNat, by omega, ⟨s, h1, by omega⟩, h2⟩
theorem Zbx {j : Jn} (hj : JOk j) (q : Ask) : ∀ s ∈ Zd j (Zm q) 0, LOk s.1 /\ 0 <= s.2 /\ s.2 <= 15 := fun s h => by
 rw [<- Zfx (k := j.moves.length) (Nat.le_refl _)] at h;have := Zfz hj q _ s h;exact ⟨this.l, this.n0, this.n15⟩
theorem n12 : ¬ (1 : Int) = 2 := by decide
theorem n13 : ¬ (1 : Int) = 3 := by decide
theorem n21 : ¬ (2 : Int) = 1 := by decide
theorem n23 : ¬ (2 : Int) = 3 := by decide
theorem n31 : ¬ (3 : Int) = 1 := by decide
theorem n32 : ¬ (3 : Int) = 2 := by decide
theorem Zlj {j : Jn} (hj : JOk j) (bl : List Int) (i b : Int) {x : Ste (List (Int × Nat × Int))} (hx : x ∈ Zd j Z1f []) {k : Nat} (hk : k < 4) : Z2s (Zt (Zm ⟨1, i, b, bl⟩) 0 x.2) k = true ↔ ∃ p ∈ x.2, p.1 = k /\ (p.2.1 : Int) ∈ bl := by
 have hp := (Z6m hj x hx).all;have hi4 := hj.i4;have h := (Zaj (fun p => decide ((p.2.1 : Int) ∈ bl)) (fun p => p.1.toNat) (Zm ⟨1, i, b, bl⟩) (fun z p => by
  unfold Zm
  by_cases g : (p.2.1 : Int) ∈ bl
  ·rw [if_pos ⟨rfl, g⟩, if_pos (by rw [decide_eq_true_eq]; exact g)]
  ·rw [if_neg (fun h => g h.2), if_neg (fun h => absurd h.1 n12), if_neg (fun h => absurd h.1 n13), if_neg (by rw [decide_eq_true_eq]; exact g)]) x.2 0 (fun p h _ => by have := hp p h; omega) (by decide)).2 k hk
 rw [h];have hz : Z2s 0 k = false := by unfold Z2s; simp
 rw [hz];simp only [Bool.false_eq_true, false_or, decide_eq_true_eq];refine exists_congr fun p => and_congr_right fun hq => ?_;have := (hp p hq).1;exact ⟨fun ⟨h1, h2⟩ => ⟨by omega, h1⟩, fun ⟨h1, h2⟩ => ⟨h2, by omega⟩⟩
theorem Zlk {j : Jn} (hj : JOk j) (hs : Zc j = true) (bl : List Int) (i b : Int) {k : Nat} (hk : k < 4) (tk : Tk Int) (ht : ∀ x ∈ Zd j Z1f [], 0 <= Zt tk 0 x.2 /\ (0 < Zt tk 0 x.2 ↔ ∃ p ∈ x.2, p.1 = k /\ (p.2.1 : Int) ∈ bl)) {is no : Bool}
  (h1 : is = true ↔ ∃ s ∈ Zd j (Zm ⟨1, i, b, bl⟩) 0, Z2s s.2 k = true) (h2 : no = true ↔ ∃ s ∈ Zd j (Zm ⟨1, i, b, bl⟩) 0, Z2s s.2 k = false) : Z2i (Z4d j tk) = Zgh is no := by
 have e : ∀ P : Int -> Prop, (∃ s ∈ Zd j (Zm ⟨1, i, b, bl⟩) 0, P s.2) ↔ ∃ x ∈ Zd j Z1f [], P (Zt (Zm ⟨1, i, b, bl⟩) 0 x.2) := fun P => by
  rw [Z1n (Zm ⟨1, i, b, bl⟩)];constructor
  ·rintro ⟨s, h, g⟩;obtain ⟨x, hx, rfl⟩ := List.mem_map.1 h;exact ⟨x, hx, g⟩
  ·rintro ⟨x, hx, g⟩;exact ⟨_, List.mem_map.2 ⟨x, hx, rfl⟩, g⟩
 have e' : ∀ P : Int -> Prop, (∃ y ∈ (Zd j tk 0).map (·.2), P y) ↔ ∃ x ∈ Zd j Z1f [], P (Zt tk 0 x.2) := fun P => by
  rw [Z1n tk];constructor
  ·rintro ⟨s, h, g⟩;obtain ⟨x, hx, rfl⟩ := List.mem_map.1 h;obtain ⟨y, hy, rfl⟩ := List.mem_map.1 hx;exact ⟨y, hy, g⟩
  ·rintro ⟨x, hx, g⟩;exact ⟨_, List.mem_map.2 ⟨_, List.mem_map.2 ⟨x, hx, rfl⟩, rfl⟩, g⟩
 have hn : (Zd j tk 0).map (·.2) ≠ [] := fun h => Z55 hs tk (List.map_eq_nil_iff.1 h);refine Zg8 hn (fun y hy => ?_) ?_ ?_
 ·obtain ⟨s, h, rfl⟩ := List.mem_map.1 hy;rw [Z1n tk] at h;obtain ⟨x, hx, rfl⟩ := List.mem_map.1 h;exact (ht x hx).1
 ·rw [h1, e (fun z => Z2s z k = true), e' (fun z => 0 < z)];exact exists_congr fun x => and_congr_right fun hx => (Zlj hj bl i b hx hk).trans (ht x hx).2.symm
 ·rw [h2, e (fun z => Z2s z k = false), e' (fun z => z = 0)];refine exists_congr fun x => and_congr_right fun hx => ?_;have g := (Zlj hj bl i b hx hk).trans (ht x hx).2.symm;have g0 := (ht x hx).1;constructor
  ·intro h;have : ¬ 0 < Zt tk 0 x.2 := fun c => by rw [g.2 c] at h; cases h
   omega
  ·intro h
   cases hb : Z2s (Zt (Zm ⟨1, i, b, bl⟩) 0 x.2) k with
   | false => rfl
   | true => have := g.1 hb; omega
theorem Zqt {j : Jn} (hj : JOk j) (hs : Zc j = true) (b : Nat) (i b0 : Int) {k : Nat} (hk : k < 4) {is no : Bool}
  (h1 : is = true ↔ ∃ s ∈ Zd j (Zm ⟨1, i, b0, [(b : Int)]⟩) 0, Z2s s.2 k = true) (h2 : no = true ↔ ∃ s ∈ Zd j (Zm ⟨1, i, b0, [(b : Int)]⟩) 0, Z2s s.2 k = false) : Z2i (Z4d j (Z2v k b)) = Zgh is no := by
 refine Zlk hj hs [(b : Int)] i b0 hk (Z2v k b) (fun x hx => ?_) h1 h2;have := Zco k b x.2 fun p hp => ((Z6m hj x hx).all p hp).2.2.2;rw [Zbq, Int.zero_add];refine ⟨this.1, this.2.trans (exists_congr fun p => and_congr_right fun hp => and_congr_right fun _ => ?_)⟩;simp only [List.mem_singleton];omega
theorem Zw5 {j : Jn} (hj : JOk j) (hs : Zc j = true) {l : List Nat} (hl : ∀ x ∈ l, x < 4) (i b0 : Int) {k : Nat} (hk : k < 4) {is no : Bool}
  (h1 : is = true ↔ ∃ s ∈ Zd j (Zm ⟨1, i, b0, l.map fun b : Nat => (b : Int)⟩) 0, Z2s s.2 k = true) (h2 : no = true ↔ ∃ s ∈ Zd j (Zm ⟨1, i, b0, l.map fun b : Nat => (b : Int)⟩) 0, Z2s s.2 k = false) : Z2i (Z4d j (Z3a (Z1p l) k)) = Zgh is no := by
 refine Zlk hj hs _ i b0 hk (Z3a (Z1p l) k) (fun x hx => ?_) h1 h2;have hb4 := hj.b4;have e : (∃ p ∈ x.2, p.1 = k /\ Z2s (Z1p l) p.2.1 = true) ↔ ∃ p ∈ x.2, p.1 = k /\ (p.2.1 : Int) ∈ l.map fun b : Nat => (b : Int) :=
  exists_congr fun p => and_congr_right fun hp => and_congr_right fun _ => by
   have := ((Z6m hj x hx).all p hp).2.2.1;rw [Z56 hl (by omega), decide_eq_true_eq, List.mem_map];exact ⟨fun h => ⟨_, h, rfl⟩, fun ⟨b, hb, e⟩ => by rw [<- show b = p.2.1 by omega]; exact hb⟩
 rw [Z72, <- e]
 by_cases c : ∃ p ∈ x.2, p.1 = k /\ Z2s (Z1p l) p.2.1 = true
 ·rw [if_pos c]; exact ⟨by decide, fun _ => c, fun _ => by decide⟩
 ·rw [if_neg c]; exact ⟨by decide, fun h => absurd h (by decide), fun h => absurd h c⟩
theorem Zw6 (i : Int) (b : Nat) : Zm ⟨2, i, b, []⟩ = Z2v i b := by
 funext x i' b' n
 unfold Zm Z2v;rw [if_neg (fun h => absurd h.1 n21)]
 by_cases c : i' = i /\ b' = b
 ·rw [if_pos c, if_pos ⟨rfl, by show (b : Int) = b'; omega, c.1.symm⟩]
 ·rw [if_neg c, if_neg (fun h => c ⟨h.2.2.symm, by have : (b : Int) = b' := h.2.1; omega⟩), if_neg (fun h => absurd h.1 n23)]
theorem Zw7 (i : Int) : Zm ⟨3, i, 0, []⟩ = Z29 i := by
 funext x i' b' n
 unfold Zm Z29;rw [if_neg (fun h => absurd h.1 n31), if_neg (fun h => absurd h.1 n32)]
 by_cases c : i' = i
 ·rw [if_pos c, if_pos ⟨rfl, c.symm⟩]
 ·rw [if_neg c, if_neg (fun h => c h.2.symm)]
theorem Zw8 (b : Nat) : Zm ⟨1, 0, 0, [(b : Int)]⟩ = Z9r b := by
 funext x i' b' n
 unfold Zm Z9r
 by_cases c : b' = b
 ·rw [if_pos c, if_pos ⟨rfl, by rw [c]; exact List.mem_singleton.2 rfl⟩]
 ·rw [if_neg c, if_neg (fun h => c (by have := List.mem_singleton.1 h.2; omega)), if_neg (fun h => absurd h.1 n12), if_neg (fun h => absurd h.1 n13)]
theorem Ztt {j : Jn} (hj : JOk j) (hs : Zc j = true) (k : Int) {is no : Bool}
  (h1 : is = true ↔ ∃ s ∈ Zd j (Zm ⟨3, k, 0, []⟩) 0, Z43 s.2 ≠ 0) (h2 : no = true ↔ ∃ s ∈ Zd j (Zm ⟨3, k, 0, []⟩) 0, Z43 s.2 = 0) : Z2i (Zs ((Zd j (Z29 k) 0).map fun s => Z43 s.2)) = Zgh is no := by
 have hb := Zbx hj ⟨3, k, 0, []⟩;rw [Zw7] at h1 h2 hb;have hn : (Zd j (Z29 k) 0).map (fun s => Z43 s.2) ≠ [] := fun h => Z55 hs (Z29 k) (List.map_eq_nil_iff.1 h);have h0 : ∀ s ∈ Zd j (Z29 k) 0, 0 <= Z43 s.2 := fun s h => by
  have hb := hb s h;have := (Zft ⟨s.2.toNat, by omega⟩).1;have e : ((s.2.toNat : Nat) : Int) = s.2 := by omega
  simp only [e] at this;exact this
 refine Zg8 hn (fun y hy => ?_) ?_ ?_
 ·obtain ⟨s, h, rfl⟩ := List.mem_map.1 hy;exact h0 s h
 ·rw [h1];constructor
  ·rintro ⟨s, h, g⟩;exact ⟨_, List.mem_map.2 ⟨s, h, rfl⟩, by have := h0 s h; omega⟩
  ·rintro ⟨y, hy, g⟩;obtain ⟨s, h, rfl⟩ := List.mem_map.1 hy;exact ⟨s, h, by omega⟩
 ·rw [h2];constructor
  ·rintro ⟨s, h, g⟩;exact ⟨_, List.mem_map.2 ⟨s, h, rfl⟩, g⟩
  ·rintro ⟨y, hy, g⟩;obtain ⟨s, h, rfl⟩ := List.mem_map.1 hy;exact ⟨s, h, g⟩
theorem Zja : ∀ g x : Fin 16, (allB (g.val : Int) (x.val : Int) = true ↔ ∀ k : Fin 4, Z2s (x.val : Int) k.val = true -> Z2s (g.val : Int) k.val = true) := by decide +kernel
theorem Zjb : ∀ g y : Fin 16, (Ziu (g.val : Int) (y.val : Int) = 0 ↔ ∀ k : Fin 4, Z2s (y.val : Int) k.val = true -> Z2s (g.val : Int) k.val = false) := by decide +kernel
theorem Zp3 {l : List Nat} (hl : ∀ x ∈ l, x < 4) : 0 <= Z1p l /\ Z1p l <= 15 := by
 have : ∀ (l : List Nat) (g : Int), (∀ x ∈ l, x < 4) -> 0 <= g /\ g <= 15 -> 0 <= l.foldl Z2h g /\ l.foldl Z2h g <= 15 := fun l => by
  induction l with
  | nil => intro g _ hg; exact hg
  | cons n l ih =>
   intro g hl hg;have w := Zcn ⟨g.toNat, by omega⟩ ⟨n, hl n (by simp)⟩ ⟨0, by decide⟩;have e : ((g.toNat : Nat) : Int) = g := by omega
   simp only [e] at w;exact ih _ (fun x hx => hl x (by simp [hx])) w.2
 exact this l 0 hl (by decide)
def Z7q (n : Nat) (l : List Nat) (one : Bool) : Bool := l.all fun k => Z2s n k == one
theorem Zw9 {l : List Nat} (hl : ∀ x ∈ l, x < 4) {n : Nat} (hn : n < 16) : Z7q n l true = allB (n : Int) (Z1p l) := by
 have hg := Zp3 hl;have h := Zja ⟨n, hn⟩ ⟨(Z1p l).toNat, by omega⟩;have e : (((Z1p l).toNat : Nat) : Int) = Z1p l := by omega
 simp only [e] at h;rw [Bool.eq_iff_iff, h];unfold Z7q;rw [List.all_eq_true];constructor
 ·intro g k hk;rw [Z56 hl k.isLt, decide_eq_true_eq] at hk;have := g k.val hk;simpa using this
 ·intro g k hk;have := g ⟨k, hl k hk⟩ (by rw [Z56 hl (hl k hk), decide_eq_true_eq]; exact hk);simpa using this
theorem Ztu {l : List Nat} (hl : ∀ x ∈ l, x < 4) {n : Nat} (hn : n < 16) : Z7q n l false = (Ziu (n : Int) (Z1p l) == 0) := by
 have hg := Zp3 hl;have h := Zjb ⟨n, hn⟩ ⟨(Z1p l).toNat, by omega⟩;have e : (((Z1p l).toNat : Nat) : Int) = Z1p l := by omega
 simp only [e] at h;rw [Bool.eq_iff_iff, beq_iff_eq, h];unfold Z7q;rw [List.all_eq_true];constructor
 ·intro g k hk;rw [Z56 hl k.isLt, decide_eq_true_eq] at hk;have := g k.val hk;simpa using this
 ·intro g k hk;have := g ⟨k, hl k hk⟩ (by rw [Z56 hl (hl k hk), decide_eq_true_eq]; exact hk);simpa using this
theorem Zqu {j : Jn} (hj : JOk j) {x y : List Nat} (hx : ∀ k ∈ x, k < 4) (hy : ∀ k ∈ y, k < 4) (b : Nat) {ex : Bool} (h : ex = true ↔ ∃ s ∈ Zd j (Zm ⟨1, 0, 0, [(b : Int)]⟩) 0, (Z7q s.2.toNat x true = true /\ Z7q s.2.toNat y false = true)) : Z71 j (Z1p x) (Z1p y) b = ex := by
 have hb := Zbx hj ⟨1, 0, 0, [(b : Int)]⟩;rw [Zw8] at h hb;rw [Bool.eq_iff_iff, h];unfold Z71;rw [List.any_eq_true];refine exists_congr fun s => and_congr_right fun hs => ?_;have hb := hb s hs;have e : ((s.2.toNat : Nat) : Int) = s.2 := by omega
 rw [Zw9 hx (by omega), Ztu hy (by omega), e, Bool.and_eq_true]
end Go.Batch

namespace Go.Proofs.Ytecfpfhkicapeaa
open Go Go.Abs Go.Proofs Go.Batch
def okL {α : Type} (e : Int) (l : List α) : List α := if e = 0 then l else []
theorem Zd1 {α : Type} (l : List α) : okL 0 l = l := if_pos rfl
theorem Ze9 {α : Type} {e : Int} (h : e ≠ 0) (l : List α) : okL e l = [] := if_neg h
theorem Zel {α β : Type} (f : α -> β) (e : Int) (l : List α) : (okL e l).map f = okL e (l.map f) := by unfold okL; split <;> rfl
theorem Zll {j : Jn} {e : Int} (h1 : e = Zr j) (h2 : e ≠ 0) : Za5 j = e := by unfold Za5; rw [if_pos (by rw [<- h1]; exact h2), h1]
theorem Ztv {j : Jn} (h : JOk j) (h2 : Zc j = false) : Za5 j = 9 := by unfold Za5; rw [if_neg (fun g => g (Z81 h)), h2]; rfl
theorem Ztw {j : Jn} (h : JOk j) (h2 : Zc j = true) : Za5 j = 0 := by unfold Za5; rw [if_neg (fun g => g (Z81 h)), h2]; rfl
theorem Zem {j : Jn} (h : Za5 j = 0) : JOk j /\ Zc j = true := by
 unfold Za5 at h
 split at h
 ·rename_i g; exact absurd h g
 ·rename_i g
  have : Zr j = 0 := Classical.byContradiction g
  split at h
  ·rename_i g2; exact ⟨Z2r this, g2⟩
  ·exact absurd h (by decide)
def stV (j : Jn) : Bool := if Zr j ≠ 0 then false else Zc j
def Zjc (j : Jn) (l : List Int) : Int := if Zr j ≠ 0 then Zr j else if Z44 ((Z6 j.moves).length : Int) l ≠ 0 then Z44 ((Z6 j.moves).length : Int) l else if Zc j = true then 0 else 9
def Zlm (j : Jn) (x y : List Int) : Int := if Zr j ≠ 0 then Zr j else if Z44 j.ins x ≠ 0 then Z44 j.ins x else if Z44 j.ins y ≠ 0 then Z44 j.ins y else if Zc j = true then (if Z9s j (Z3z x) (Z3z y) = [] then 11 else 0) else 9
def Zwa (j : Jn) (i b : Int) : Prop := (0 <= i /\ i <= j.ins - 1) /\ 0 <= b /\ b <= ((Z6 j.moves).length : Int) - 1
instance (j : Jn) (i b : Int) : Decidable (Zwa j i b) := by unfold Zwa; infer_instance
def Zjd (j : Jn) (i b : Int) : Int := if Zr j ≠ 0 then Zr j else if ¬ Zwa j i b then 3 else if Zc j = true then 0 else 9
def Zym (j : Jn) (i b : Int) : Int × Int := if Zjd j i b = 0 then Z4d j (Z2v i b.toNat) else (0, 0)
theorem wkE {sz : Nat} {e e' : Int} {L : List D} (h : e' = e) (hne : e ≠ 0) : WkD (.tup [.v (.slice none 0 0), I e]) (.tup [.sl sz (okL e' L), I e']) := by
 subst h; rw [Ze9 hne]; exact WkD.tup ⟨WkD.nil, .rfl, trivial⟩
theorem wkO {sz : Nat} {e' : Int} {L L' : List D} (h : e' = 0) (hL : L' = L) : WkD (.tup [.sl sz L', I 0]) (.tup [.sl sz (okL e' L), I e']) := by
 subst h hL; rw [Zd1]; exact .rfl
section
variable {fn : FuncId} {args : List D} {d0 : D} {Q : RA -> List Blk -> Prop}
def Zyn (d0 : D) (x : RA) (H' : List Blk) : Prop := H' = [] /\ ∃ d, x = RA.ret d /\ WkD d d0
theorem Ztx (h : CallA Try.prog fn args [] (Zyn d0)) (hq : Q (RA.ret d0) []) : CallA Try.prog fn args [] Q :=
 Zqm (Q := Zyn d0) h (fun d H' h => by
  obtain ⟨rfl, d1, h1, h2⟩ := h
  cases h1
  exact ⟨_, h2, hq⟩) (fun d H' h => by
  obtain ⟨-, d1, h1, -⟩ := h
  cases h1)
end
section
variable (j : Jn) (hf : j.first.length <= 1152921504606846976) (hm : j.moves.length <= 1152921504606846976) (FL ML : List D) (hF : FL = j.first.map Zv) (hM : ML = j.moves.map mvD)
include hf hm hF hM
theorem Zxd (e : Int) (he : e = Za5 j) (L0 : List D) (hL : L0 = okL e ((Z6g j).map rgD)) (Q) (hq : Q (RA.ret (.tup [.sl 2 L0, I e])) []) : CallA Try.prog 46 [.agg [I j.ins, .sl 1 FL, .sl 5 ML]] [] Q := by
 subst hL;exact Ztx (Ztc j hf hm FL ML hF hM _ (fun e' h1 h2 => ⟨rfl, _, rfl, wkE (he.trans (Zll h1 h2)) h2⟩) (fun h h2 => ⟨rfl, _, rfl, wkE (he.trans (Ztv h h2)) (by decide)⟩) (fun h h2 L hL => ⟨rfl, _, rfl, wkO (he.trans (Ztw h h2)) hL⟩)) hq
theorem Zxe (e : Int) (he : e = Za5 j) (L0 : List D) (hL : L0 = okL e ((Z4c j).map rgD)) (Q) (hq : Q (RA.ret (.tup [.sl 2 L0, I e])) []) : CallA Try.prog 29 [.agg [I j.ins, .sl 1 FL, .sl 5 ML]] [] Q := by
 subst hL;exact Ztx (Zst j hf hm FL ML hF hM _ (fun e' h1 h2 => ⟨rfl, _, rfl, wkE (he.trans (Zll h1 h2)) h2⟩) (fun h h2 => ⟨rfl, _, rfl, wkE (he.trans (Ztv h h2)) (by decide)⟩) (fun h h2 L hL => ⟨rfl, _, rfl, wkO (he.trans (Ztw h h2)) hL⟩)) hq
theorem Zty (b : Bool) (hb : b = stV j) (e : Int) (he : e = Zr j) (Q) (hq : Q (RA.ret (.tup [.v (.bool b), I e])) []) : CallA Try.prog 35 [.agg [I j.ins, .sl 1 FL, .sl 5 ML]] [] Q := by
 unfold stV at hb;refine Zss j hf hm FL ML hF hM Q (fun e' h1 h2 => ?_) (fun h b' hb' => ?_)
 ·rw [if_pos (by rw [<- h1]; exact h2)] at hb;rw [h1, <- he]; rw [hb] at hq; exact hq
 ·have h0 := Z81 h;rw [if_neg (fun g => g h0), <- hb'] at hb;rw [<- hb, <- h0, <- he]; exact hq
theorem Ztz (b : Bool) (hb : b = stV j) (e : Int) (he : e = Zr j) (Q) (hq : Q (RA.ret (.tup [.v (.bool b), I e])) []) : CallA Try.prog 45 [.agg [I j.ins, .sl 1 FL, .sl 5 ML]] [] Q := by
 unfold stV at hb;refine Ztm j hf hm FL ML hF hM Q (fun e' h1 h2 => ?_) (fun b' h0 hb' => ?_)
 ·rw [if_pos (by rw [<- h1]; exact h2)] at hb;rw [h1, <- he]; rw [hb] at hq; exact hq
 ·rw [if_neg (fun g => g h0), <- hb'] at hb;rw [<- hb, <- h0, <- he]; exact hq
end
end Go.Proofs.Ytecfpfhkicapeaa

namespace Go.Proofs.Ytecfpfhkicapeaa
open Go Go.Abs Go.Proofs Go.Batch
set_option maxRecDepth 40000 in
set_option maxHeartbeats 16000000 in
theorem Zu0 (j : Jn) (hj : JOk j) (hst : Zc j = true) (FL ML : List D) (hF : FL = j.first.map Zv) (hM : ML = j.moves.map mvD) (bs : List Nat) (hbs : ∀ b ∈ bs, b < 4) (hbl : bs.length <= 4) (XL : List D) (hX : XL = Z1y bs) (lo hi : Int) (hr : Zs ((Zd j Zn 0).map fun s => Z4u bs s.1) = (lo, hi)) (Q) (hq : Q (RA.ret (.agg [I lo, I hi])) []) :
  CallA Try.prog 104 [.agg [I j.ins, .sl 1 FL, .sl 5 ML], .sl 1 XL] [] Q := by
 obtain ⟨A, hA⟩ : ∃ A, A = ar := ⟨_, rfl⟩;have hnt : A.bnot true = false := by subst hA; rfl
 have hnf : A.bnot false = true := by subst hA; rfl
 have hXl : XL.length = bs.length := by rw [hX, Z1y, List.length_map]
 obtain ⟨S0, hS0⟩ : ∃ S0 : List (Ste Int), S0 = Zd j Zn 0 := ⟨_, rfl⟩;have hfol := fun Q h => Zp0 j hj ⟨4, 0, 0, []⟩ (by decide) FL ML [] hF hM rfl Q h;have hb0 := Zbx hj ⟨4, 0, 0, []⟩;rw [Zlb rfl, <- hS0] at hfol hb0;have hz0 : ∀ s ∈ S0, s.2 = 0 := fun s h => by rw [hS0] at h; exact Zg7 s h
 have hne : S0 ≠ [] := by rw [hS0]; exact Z55 hst Zn
 have hsok : ∀ s ∈ S0, LOk s.1 /\ 0 <= s.2 := fun s h => ⟨(hb0 s h).1, (hb0 s h).2.1⟩;rw [<- hS0] at hr;unfold Zcy at hfol;dsimp only at hfol;refine Z5 Z0 hA Try.func104 rfl rfl rfl rfl rfl fun S hS => ?_;cbv;refine Z4 hS [.agg [I j.ins, .sl 1 FL, .sl 5 ML], .agg [I 4, I 0, I 0, .v (.slice none 0 0)]] [] [] rfl rfl rfl rfl rfl rfl rfl rfl (by decide) trivial (Z4z (as' := [.agg [I j.ins, .sl 1 FL, .sl 5 ML], .agg [I 4, I 0, I 0, .sl 1 []]]) ⟨.rfl, WkD.agg ⟨.rfl, .rfl, .rfl, WkD.nil, trivial⟩, trivial⟩ (hfol _ fun NX hNX => ?_));have hNl : NX.length = 20736 := hNX.len;refine Z3 Z0 hA hS ?_;cbv;refine Zb hS ?_;refine Za (α := Int × Nat × Bool × Int × Int) (fun z => { env := [(1, .sl 1 XL), (4, .b 0 0), (5, .b 1 0), (6, .v (.bool z.2.2.1)), (7, .sl 1 NX), (8, I z.1)], H := [.box (.agg [I 0, I 0]), .box (.agg [I z.2.2.2.1, I z.2.2.2.2])], nt := 56, dfs := [] })
  (fun z => 1296 - z.2.1) (fun z => z.2.1 <= 1296 /\ IsI z.1 z.2.1 /\ LyI S0 (Z4u bs) z.2.1 z.2.2.1 z.2.2.2.1 z.2.2.2.2) (0, 0, false, 0, 0) ⟨Nat.zero_le _, ⟨rfl⟩, LyI.start _ _⟩ ?_ ?_
 ·exact Zf [1, 2] ⟨by decide, Z9, ⟨rfl, rfl, trivial⟩, ⟨rfl, rfl, rfl, rfl, rfl, rfl, trivial⟩, rfl, rfl⟩
 rintro ⟨i, n, sm, lo0, hi0⟩ ⟨u1, u2, u3⟩;dsimp only at u1 u2 u3;have hyes : A.cmp .lss i 1296 = true -> n < 1296 := fun c => by have := xlt hA c; have := u2.eq; omega
 have hno : A.cmp .lss i 1296 = false -> n = 1296 := fun c => by have := Z7x hA c; have := u2.eq; omega
 refine Zi Z0 hA hS ?_;cbv;refine bm (fun c => ?_) (fun c => ?_)
 ·have hn : n < 1296 := hyes c;obtain ⟨b, hb1, hb2⟩ := hNX.is (n := n) (by omega);have gN := Z18 hA u2 hb1;have iN := Z1b hA hNl u2 (by omega);have hf1 := Zy hA u2 (by omega);have hu2 := Zz hA u2;have hms : 1296 - (n + 1) < 1296 - n := by omega
  have hn1 : n + 1 <= 1296 := hn;have hmod : n % 1296 = n := Nat.mod_eq_of_lt hn;cbv;refine ⟨iN, ⟨_, gN, ?_⟩⟩
  cases b with
  | false =>
   have hz := u3.skip hsok (fun h => Bool.noConfusion (hb2.2 h));cbv;refine bmT hnf ?_;cbv;refine ⟨hf1, ?_⟩;refine Z8 (A.add i 1, n + 1, sm, lo0, hi0) [0, 1] ⟨hn1, hu2, hz⟩ hms ?_;exact ⟨by decide, Z9, ⟨rfl, rfl, trivial⟩, ⟨rfl, rfl, rfl, rfl, rfl, rfl, trivial⟩, rfl, rfl⟩
  | true =>
  have hin : Z3o n ∈ S0 := hb2.1 rfl;obtain ⟨l, hl⟩ : ∃ l, l = Z1z n := ⟨_, rfl⟩;have hlok : LOk l := by rw [hl]; exact Zdg n
  have hsb : ∀ k, 0 <= Z4u (bs.take k) l /\ Z4u (bs.take k) l <= 20 := fun k => by
   have h1 := Zts hlok (bs.take k);have h2 : (bs.take k).length <= 4 := by rw [List.length_take]; omega
   omega
  have hz2 : sm = true -> LyI S0 (Z4u bs) (n + 1) true (A.min lo0 (Z4u bs l)) (A.max hi0 (Z4u bs l)) := fun e => by
   subst e;have := u3.next hsok hin;rw [hmod, <- hl] at this;rw [Zir hA, Zuq hA]; exact this
  have hz1 : sm = false -> LyI S0 (Z4u bs) (n + 1) true (A.min (Z4u bs l) (Z4u bs l)) (A.max (Z4u bs l) (Z4u bs l)) := fun e => by
   subst e;have := u3.first hsok hin;rw [hmod, <- hl] at this;rw [Zir hA, Zuq hA, Int.min_self, Int.max_self]; exact this
  clear u3;cbv;refine bmF hnt ?_;cbv;refine Z4 hS [I i] [] [] rfl rfl rfl rfl rfl rfl rfl rfl (by decide) trivial (Zhs i n u2 hn _ fun LL hLL => ?_);rw [<- hl] at hLL;have hLl : LL.length = 4 := by rw [hLL, List.length_map, hlok.len]
  refine Z3 Z0 hA hS ?_;cbv;refine Zb hS ?_;refine Za (α := Int × Nat × Int) (fun z => { env := [(1, .sl 1 XL), (4, .b 0 0), (5, .b 1 0), (6, .v (.bool sm)), (7, .sl 1 NX), (8, I i), (9, .sl 1 LL), (10, I z.2.2), (11, I z.1)], H := [.box (.agg [I 0, I 0]), .box (.agg [I lo0, I hi0])], nt := 56, dfs := [] })
   (fun z => bs.length - z.2.1) (fun z => z.2.1 <= bs.length /\ IsI z.1 z.2.1 /\ z.2.2 = Z4u (bs.take z.2.1) l) (0, 0, 0) ⟨Nat.zero_le _, ⟨rfl⟩, rfl⟩ ?_ ?_
  ·exact Zf [0, 1] ⟨by decide, Z9, ⟨rfl, rfl, trivial⟩, ⟨rfl, rfl, rfl, rfl, rfl, rfl, rfl, rfl, rfl, trivial⟩, rfl, rfl⟩
  rintro ⟨kI, k, x⟩ ⟨v1, v2, v3⟩;dsimp only at v1 v2 v3;have hyes2 : A.cmp .lss kI (A.oi (A.len XL)) = true -> k < bs.length := fun c => Z31 hA hXl v2 c;have hno2 : A.cmp .lss kI (A.oi (A.len XL)) = false -> k = bs.length := fun c => by have := Z21 hA hXl v2 c; omega
  refine Zi Z0 hA hS ?_;cbv;refine bm (fun c2 => ?_) (fun c2 => ?_)
  ·have hk := hyes2 c2;obtain ⟨b, hbk⟩ : ∃ b, bs[k]? = some b := ⟨_, List.getElem?_eq_getElem hk⟩;have hb4 : b < 4 := hbs b (List.mem_of_getElem? hbk);obtain ⟨bI, hbI⟩ : ∃ bI : Int, bI = (b : Nat) := ⟨_, rfl⟩;have hbI' : IsI bI b := ⟨hbI⟩;have gX := Z18 hA v2 (show XL[k]? = some (I bI) by rw [hX, hbI]; simp [Z1y, hbk]);have iX := Z1b hA hXl v2 hk;obtain ⟨y, hy⟩ : ∃ y, l[b]? = some y := ⟨_, List.getElem?_eq_getElem (by rw [hlok.len]; exact hb4)⟩;have hyd : l.getD b 0 = y := by rw [List.getD_eq_getElem?_getD, hy]; rfl
   have gL := Z18 hA hbI' (show LL[b]? = some (I y) by rw [hLL]; simp [hy]);have iL := Z1b hA hLl hbI' hb4;have hsn := Zqs hbk l;rw [hyd] at hsn;have hx2 : A.add x y = Z4u (bs.take (k + 1)) l := by rw [Z58 hA, v3, hsn]
   have hfx : A.fits .i64 (A.add x y) := Z14 hA hx2 (by have h1 := hsb (k + 1); omega);have hf2 := Zy hA v2 (by omega);have hv2 := Zz hA v2;have hms2 : bs.length - (k + 1) < bs.length - k := by omega
   cbv;refine ⟨iX, ⟨_, gX, ?_⟩⟩;cbv;refine ⟨iL, ⟨_, gL, ?_⟩⟩;cbv;refine ⟨hfx, hf2, ?_⟩;refine Z8 (A.add kI 1, k + 1, A.add x y) [0, 1] ⟨hk, hv2, hx2⟩ hms2 ?_;exact ⟨by decide, Z9, ⟨rfl, rfl, trivial⟩, ⟨rfl, rfl, rfl, rfl, rfl, rfl, rfl, rfl, rfl, trivial⟩, rfl, rfl⟩
  ·have hk := hno2 c2;have hx : x = Z4u bs l := by rw [v3, hk, List.take_length]
   rw [<- hx] at hz1 hz2
   cases sm with
   | true =>
    have hz := hz2 rfl;cbv;refine Z7 ?_;cbv;refine bmF hnt ?_;cbv;refine ⟨hf1, ?_⟩;refine Z8 (A.add i 1, n + 1, true, A.min lo0 x, A.max hi0 x) [0, 1] ⟨hn1, hu2, hz⟩ hms ?_;exact ⟨by decide, Z9, ⟨rfl, rfl, trivial⟩, ⟨rfl, rfl, rfl, rfl, rfl, rfl, trivial⟩, rfl, rfl⟩
   | false =>
    have hz := hz1 rfl;cbv;refine Z7 ?_;cbv;refine bmT hnf ?_;cbv;refine ⟨hf1, ?_⟩;refine Z8 (A.add i 1, n + 1, true, A.min x x, A.max x x) [0, 1] ⟨hn1, hu2, hz⟩ hms ?_;exact ⟨by decide, Z9, ⟨rfl, rfl, trivial⟩, ⟨rfl, rfl, rfl, rfl, rfl, rfl, trivial⟩, rfl, rfl⟩
 ·have hn := hno c;have hz : Zs (S0.map fun s => Z4u bs s.1) = (lo0, hi0) := by
   rw [hn] at u3;exact u3.all (fun s h => ⟨(hb0 s h).1, hz0 s h⟩) hne
  have e1 : lo = lo0 := congrArg Prod.fst (hr.symm.trans hz);have e2 : hi = hi0 := congrArg Prod.snd (hr.symm.trans hz);rw [e1, e2] at hq;cbv;refine Z7 ?_;cbv;exact Z2 [] (by decide) Z9 (H' := []) (d' := .agg [I lo0, I hi0]) trivial rfl (Z1 hq)
theorem Zu1 (j : Jn) (n : Nat) : Zs ((Zd j Zn 0).map fun s => Z4u (Zee (Z6 j.moves) n (Z6 j.moves).length) s.1) = Zs ((Zd j Zn 0).map fun s => inL n (Z6 j.moves) s.1) := by
 congr 1
 refine List.map_congr_left fun s _ => ?_;rw [Zp2 _ _ _ _ (Nat.le_refl _), List.take_length]
theorem Zu2 (j : Jn) (b : Nat) : Zs ((Zd j Zn 0).map fun s => Z4u [b] s.1) = Zs ((Zd j Zn 0).map fun s => s.1.getD b 0) := by
 congr 1
 refine List.map_congr_left fun s _ => ?_;rw [Ztr]
set_option maxRecDepth 40000 in
set_option maxHeartbeats 16000000 in
theorem Zxf (j : Jn) (hf : j.first.length <= 1152921504606846976) (hm : j.moves.length <= 1152921504606846976) (FL ML : List D) (hF : FL = j.first.map Zv) (hM : ML = j.moves.map mvD) (e : Int) (he : e = Za5 j) (L0 : List D) (hL0 : L0 = okL e ((Z4c j).map rgD)) (Q) (hq : Q (RA.ret (.tup [.sl 2 L0, I e])) []) :
  CallA Try.prog 48 [.agg [I j.ins, .sl 1 FL, .sl 5 ML]] [] Q := by
 obtain ⟨A, hA⟩ : ∃ A, A = ar := ⟨_, rfl⟩;refine Z5 Z0 hA Try.func48 rfl rfl rfl rfl rfl fun S hS => ?_;cbv;refine Z4 hS [.agg [I j.ins, .sl 1 FL, .sl 5 ML]] [] [] rfl rfl rfl rfl rfl rfl rfl rfl (by decide) trivial (Zw1 j hf hm FL ML hF hM e he _ ?_);refine Z3 Z0 hA hS ?_;cbv;refine bm (fun c => ?_) (fun c => ?_)
 ·have hne := xne hA c;rw [hL0, Ze9 hne] at hq;cbv;refine Z37 (WkD.tup ⟨WkD.nil, .rfl, trivial⟩ : WkD (.tup [.v (.slice none 0 0), I e]) (.tup [.sl 2 [], I e])) ?_;exact Z2 [] (by decide) Z9 (H' := []) (d' := .tup [.sl 2 [], I e]) trivial rfl (Z1 hq)
 have e0 : e = 0 := by have := Z4t hA c; exact this
 obtain ⟨hj, hst⟩ : JOk j /\ Zc j = true := Zem (he.symm.trans e0);have hb4 := hj.b4;obtain ⟨N, hN⟩ : ∃ N, N = (Z6 j.moves).length := ⟨_, rfl⟩;obtain ⟨g, hg⟩ : ∃ g : Nat -> Int × Int, g = fun i => Zs ((Zd j Zn 0).map fun s => s.1.getD i 0) := ⟨_, rfl⟩;have hrest : Z74 g N = (Z4c j).map rgD := by rw [Z74, hg, hN]; rfl
 rw [<- hN] at hb4;have hly : ∀ k, k < 4 -> ∀ lo hi, lo = (g k).1 -> hi = (g k).2 -> ∀ XL, XL = Z1y [k] -> ∀ Q, Q (RA.ret (.agg [I lo, I hi])) [] -> CallA Try.prog 104 [.agg [I j.ins, .sl 1 FL, .sl 5 ML], .sl 1 XL] [] Q := fun k hk lo hi h1 h2 XL hXL Q h =>
  Zu0 j hj hst FL ML hF hM [k] (fun b hb => by rw [List.mem_singleton.1 hb]; exact hk) (by show 1 <= 4; decide) XL hXL lo hi (by rw [Zu2, h1, h2, hg]) Q h
 have hbins := fun Q h => Zho j (by have := hj.m10; omega) FL ML hM Q h;rw [hL0, e0, Zd1, <- hrest] at hq;clear hL0 hrest;cbv;refine Zb hS ?_;refine Za (α := Int × Nat × List D) (fun q => { env := [(1, .b 0 0), (5, .o 1 2 q.2.1), (6, I q.1)], H := [.box (.agg [I j.ins, .sl 1 FL, .sl 5 ML]), .els 2 q.2.2], nt := 27, dfs := [] })
  (fun q => N - q.2.1) (fun q => q.2.1 <= N /\ IsI q.1 q.2.1 /\ q.2.2 = Z74 g q.2.1) (0, 0, []) ⟨Nat.zero_le _, ⟨rfl⟩, rfl⟩ ?_ ?_
 ·refine Z2a 5 2 rfl ?_;exact Zf [0, 1] ⟨by decide, Z9, ⟨rfl, rfl, trivial⟩, ⟨rfl, rfl, rfl, trivial⟩, rfl, rfl⟩
 rintro ⟨i, k, L⟩ ⟨u1, u2, u3⟩;dsimp only at u1 u2 u3;have hLl : L.length = k := by rw [u3]; simp [Z74]
 have hsu := Zao g k;obtain ⟨lo, hlo⟩ : ∃ lo, lo = (g k).1 := ⟨_, rfl⟩;obtain ⟨hi, hhi⟩ : ∃ hi, hi = (g k).2 := ⟨_, rfl⟩;rw [<- hlo, <- hhi] at hsu;have hk6 : k <= 1000000 := by omega
 have hnum : I i = I ((k : Nat) : Int) := by rw [u2.eq]
 refine Zi Z0 hA hS ?_;cbv;refine Z4 hS [.agg [I j.ins, .sl 1 FL, .sl 5 ML]] [] [] rfl rfl rfl rfl rfl rfl rfl rfl (by decide) trivial (hbins _ fun BL hBL => ?_);have hBl : BL.length = N := by rw [hBL, hN, List.length_map]
 refine Z3 Z0 hA hS ?_;cbv;refine bm (fun c2 => ?_) (fun c2 => ?_)
 ·have hk : k < N := Z31 hA hBl u2 c2;have hf1 := Zy hA u2 (by omega);have hu2 := Zz hA u2;have hms : N - (k + 1) < N - k := by omega
  have hL2 : A.app L [.agg [I lo, I hi]] = Z74 g (k + 1) := by rw [Z33 hA, hsu, u3]
  have hn2 : A.addN k 1 = k + 1 := Z2e hA _ _;have hl1 := fun XL hX Q h => hly k (by omega) lo hi hlo hhi XL hX Q h;have hXi : [I i] = Z1y [k] := by rw [hnum]; rfl
  cbv;refine Z26 hS (Z1a hA [2] ?_);cbv;refine ⟨by subst hA; rfl, Z7 ?_⟩;refine Z4 hS [.agg [I j.ins, .sl 1 FL, .sl 5 ML], .sl 1 [I i]] [] [] rfl rfl rfl rfl rfl rfl rfl rfl (by decide) trivial (hl1 [I i] hXi _ ?_);refine Z3 Z0 hA hS ?_;cbv;refine ⟨Ze hA hLl, Ze hA rfl, Z27 hA hk6 (by decide), hf1, ?_⟩;refine Z8 (A.add i 1, k + 1, A.app L [.agg [I lo, I hi]]) [0, 4] ⟨hk, hu2, hL2⟩ hms ?_;exact ⟨by decide, Z9, ⟨rfl, rfl, trivial⟩, ⟨rfl, by rw [<- hn2]; rfl, rfl, trivial⟩, rfl, rfl⟩
 ·have hk : k = N := by have := Z21 hA hBl u2 c2; omega
  rw [<- hk, <- u3] at hq;cbv;refine Z7 ?_;cbv;refine Z1w [1] ?_;cbv;exact ⟨by cases L <;> exact hLl.symm, Z2 [] (by decide) Z9 (H' := []) (d' := .tup [.sl 2 L, I 0]) trivial rfl (Z1 hq)⟩
set_option maxRecDepth 40000 in
set_option maxHeartbeats 16000000 in
theorem Zxg (j : Jn) (hf : j.first.length <= 1152921504606846976) (hm : j.moves.length <= 1152921504606846976) (FL ML : List D) (hF : FL = j.first.map Zv) (hM : ML = j.moves.map mvD) (e : Int) (he : e = Za5 j) (L0 : List D) (hL0 : L0 = okL e ((Z6g j).map rgD)) (Q) (hq : Q (RA.ret (.tup [.sl 2 L0, I e])) []) :
  CallA Try.prog 47 [.agg [I j.ins, .sl 1 FL, .sl 5 ML]] [] Q := by
 obtain ⟨A, hA⟩ : ∃ A, A = ar := ⟨_, rfl⟩;have hFl : FL.length = j.first.length := by rw [hF, List.length_map]
 refine Z5 Z0 hA Try.func47 rfl rfl rfl rfl rfl fun S hS => ?_;cbv;refine Z4 hS [.agg [I j.ins, .sl 1 FL, .sl 5 ML]] [] [] rfl rfl rfl rfl rfl rfl rfl rfl (by decide) trivial (Zw1 j hf hm FL ML hF hM e he _ ?_);refine Z3 Z0 hA hS ?_;cbv;refine bm (fun c => ?_) (fun c => ?_)
 ·have hne := xne hA c;rw [hL0, Ze9 hne] at hq;cbv;refine Z37 (WkD.tup ⟨WkD.nil, .rfl, trivial⟩ : WkD (.tup [.v (.slice none 0 0), I e]) (.tup [.sl 2 [], I e])) ?_;exact Z2 [] (by decide) Z9 (H' := []) (d' := .tup [.sl 2 [], I e]) trivial rfl (Z1 hq)
 have e0 : e = 0 := by have := Z4t hA c; exact this
 obtain ⟨hj, hst⟩ : JOk j /\ Zc j = true := Zem (he.symm.trans e0);have hb4 := hj.b4;have hf2 := hj.f2;obtain ⟨bins, hbins⟩ : ∃ bins, bins = Z6 j.moves := ⟨_, rfl⟩;obtain ⟨N, hN⟩ : ∃ N, N = bins.length := ⟨_, rfl⟩;obtain ⟨F, hFn⟩ : ∃ F, F = j.first.length := ⟨_, rfl⟩;obtain ⟨g, hg⟩ : ∃ g : Nat -> Int × Int, g = fun n : Nat => Zs ((Zd j Zn 0).map fun s => inL n (Z6 j.moves) s.1) := ⟨_, rfl⟩;have hrest : Z74 g F = (Z6g j).map rgD := by rw [Z74, hg, hFn]; rfl
 rw [<- hbins, <- hN] at hb4;rw [<- hFn] at hFl hf2;have hly : ∀ k lo hi, lo = (g k).1 -> hi = (g k).2 -> ∀ XL, XL = Z1y (Zee bins k N) -> ∀ Q, Q (RA.ret (.agg [I lo, I hi])) [] -> CallA Try.prog 104 [.agg [I j.ins, .sl 1 FL, .sl 5 ML], .sl 1 XL] [] Q := fun k lo hi h1 h2 XL hXL Q h =>
  Zu0 j hj hst FL ML hF hM (Zee bins k N) (fun b hb => by have := Zw4 hb; omega) (by have := Zlg bins k N; omega) XL hXL lo hi (by rw [hN, hbins, Zu1, h1, h2, hg]) Q h
 have hbin := fun Q h => Zho j (by have := hj.m10; omega) FL ML hM Q h;rw [<- hbins] at hbin;rw [hL0, e0, Zd1, <- hrest] at hq;clear hL0 hrest;cbv;refine Z4 hS [.agg [I j.ins, .sl 1 FL, .sl 5 ML]] [] [] rfl rfl rfl rfl rfl rfl rfl rfl (by decide) trivial (hbin _ fun BL hBL => ?_);have hBl : BL.length = N := by rw [hBL, hN, List.length_map]
 refine Z3 Z0 hA hS ?_;cbv;refine Zb hS ?_;refine Za (α := Int × Nat × List D) (fun q => { env := [(1, .b 0 0), (5, .o 1 2 q.2.1), (6, .sl 1 BL), (7, I q.1)], H := [.box (.agg [I j.ins, .sl 1 FL, .sl 5 ML]), .els 2 q.2.2], nt := 47, dfs := [] })
  (fun q => F - q.2.1) (fun q => q.2.1 <= F /\ IsI q.1 q.2.1 /\ q.2.2 = Z74 g q.2.1) (0, 0, []) ⟨Nat.zero_le _, ⟨rfl⟩, rfl⟩ ?_ ?_
 ·refine Z2a 5 2 rfl ?_;exact Zf [0, 1] ⟨by decide, Z9, ⟨rfl, rfl, trivial⟩, ⟨rfl, rfl, rfl, rfl, trivial⟩, rfl, rfl⟩
 rintro ⟨i, k, L⟩ ⟨u1, u2, u3⟩;dsimp only at u1 u2 u3;have hLl : L.length = k := by rw [u3]; simp [Z74]
 have hsu := Zao g k;obtain ⟨lo, hlo⟩ : ∃ lo, lo = (g k).1 := ⟨_, rfl⟩;obtain ⟨hi, hhi⟩ : ∃ hi, hi = (g k).2 := ⟨_, rfl⟩;rw [<- hlo, <- hhi] at hsu;have hk6 : k <= 1000000 := by omega
 have hie := u2.eq;have hl1 := fun XL hX Q h => hly k lo hi hlo hhi XL hX Q h;refine Zi Z0 hA hS ?_;cbv;refine bm (fun c2 => ?_) (fun c2 => ?_)
 ·have hk : k < F := Z31 hA hFl u2 c2;have hf1 := Zy hA u2 (by omega);have hu2 := Zz hA u2;have hms : F - (k + 1) < F - k := by omega
  have hL2 : A.app L [.agg [I lo, I hi]] = Z74 g (k + 1) := by rw [Z33 hA, hsu, u3]
  have hn2 : A.addN k 1 = k + 1 := Z2e hA _ _;obtain ⟨bB, hbB⟩ : ∃ bB : Nat -> List Nat, bB = Zee bins k := ⟨_, rfl⟩;have hb0 : bB 0 = [] := by rw [hbB]; rfl
  have hbs : ∀ t, bB (t + 1) = if bins.getD t 0 = i then bB t ++ [t] else bB t := fun t => by rw [hbB, hie]; exact Zhz bins k t
  have hbl : ∀ t, (bB t).length <= t := fun t => by rw [hbB]; exact Zlg bins k t
  rw [<- hbB] at hl1;clear hbB hie;cbv;refine Zb hS ?_;refine Za (α := Int × Nat × Nat × List D) (fun q => { env := [(1, .b 0 0), (5, .o 1 2 k), (6, .sl 1 BL), (7, I i), (8, .o 2 1 q.2.2.1), (9, I q.1)], H := [.box (.agg [I j.ins, .sl 1 FL, .sl 5 ML]), .els 2 L, .els 1 q.2.2.2], nt := 47, dfs := [] })
   (fun q => N - q.2.1) (fun q => q.2.1 <= N /\ IsI q.1 q.2.1 /\ q.2.2.1 = (bB q.2.1).length /\ q.2.2.2 = Z1y (bB q.2.1)) (0, 0, 0, []) ⟨Nat.zero_le _, ⟨rfl⟩, by rw [hb0]; rfl, by rw [hb0]; rfl⟩ ?_ ?_
  ·refine Z2a 8 1 rfl ?_;exact Zf [0, 1, 2] ⟨by decide, Z9, ⟨rfl, rfl, rfl, trivial⟩, ⟨rfl, rfl, rfl, rfl, rfl, rfl, trivial⟩, rfl, rfl⟩
  rintro ⟨tI, t, m, R⟩ ⟨v1, v2, v3, v4⟩;dsimp only at v1 v2 v3 v4;have hRl : R.length = m := by rw [v4, v3]; simp [Z1y]
  have hbt := hbs t;have hm6 : m <= 1000000 := by have := hbl t; omega
  have hyes : A.cmp .lss tI (A.oi (A.len BL)) = true -> t < N := fun c => Z31 hA hBl v2 c;have hno : A.cmp .lss tI (A.oi (A.len BL)) = false -> t = N := fun c => by have := Z21 hA hBl v2 c; omega
  refine Zi Z0 hA hS ?_;cbv;refine bm (fun c3 => ?_) (fun c3 => ?_)
  ·have ht := hyes c3;obtain ⟨x, hx⟩ : ∃ x, bins[t]? = some x := ⟨_, List.getElem?_eq_getElem (by omega)⟩;have hxd : bins.getD t 0 = x := by rw [List.getD_eq_getElem?_getD, hx]; rfl
   rw [hxd] at hbt;have gB := Z18 hA v2 (show BL[t]? = some (I x) by rw [hBL]; simp [hx]);have iB := Z1b hA hBl v2 ht;have hft := Zy hA v2 (by omega);have hv2 := Zz hA v2;have hms2 : N - (t + 1) < N - t := by omega
   have htI : I tI = I ((t : Nat) : Int) := by rw [v2.eq]
   have hin1 : x = i -> A.addN m 1 = (bB (t + 1)).length := fun h => by rw [hbt, if_pos h, Z2e hA, v3]; simp
   have hin2 : x = i -> A.app R [I tI] = Z1y (bB (t + 1)) := fun h => by rw [hbt, if_pos h, Z33 hA, v4, htI]; simp [Z1y]
   have hou1 : x ≠ i -> m = (bB (t + 1)).length := fun h => by rw [hbt, if_neg h, v3]
   have hou2 : x ≠ i -> R = Z1y (bB (t + 1)) := fun h => by rw [hbt, if_neg h, v4]
   cbv;refine ⟨iB, ⟨_, gB, ?_⟩⟩;cbv;refine bm (fun c4 => ?_) (fun c4 => ?_)
   ·have h1 := hin1 (xeq hA c4);have h2 := hin2 (xeq hA c4);cbv;refine ⟨Ze hA hRl, Ze hA rfl, Z27 hA hm6 (by decide), hft, ?_⟩;refine Z8 (A.add tI 1, t + 1, A.addN m 1, A.app R [I tI]) [0, 1, 4] ⟨ht, hv2, h1, h2⟩ hms2 ?_;exact ⟨by decide, Z9, ⟨rfl, rfl, rfl, trivial⟩, ⟨rfl, rfl, rfl, rfl, rfl, rfl, trivial⟩, rfl, rfl⟩
   ·have h1 := hou1 (Z2o hA c4);have h2 := hou2 (Z2o hA c4);cbv;refine ⟨hft, ?_⟩;refine Z8 (A.add tI 1, t + 1, m, R) [0, 1, 2] ⟨ht, hv2, h1, h2⟩ hms2 ?_;exact ⟨by decide, Z9, ⟨rfl, rfl, rfl, trivial⟩, ⟨rfl, rfl, rfl, rfl, rfl, rfl, trivial⟩, rfl, rfl⟩
  ·have ht := hno c3;have hRE : R = Z1y (bB N) := by rw [v4, ht]
   have hl2 := fun Q h => hl1 R hRE Q h;cbv;refine Z7 ?_;cbv;refine Z26 hS (Z1a hA [2] ?_);cbv;refine ⟨Ze hA hRl, Ze hA hRl, Z7 ?_⟩;refine Z4 hS [.agg [I j.ins, .sl 1 FL, .sl 5 ML], .sl 1 R] [] [] rfl rfl rfl rfl rfl rfl rfl rfl (by decide) trivial (hl2 _ ?_);refine Z3 Z0 hA hS ?_;cbv;refine ⟨Ze hA hLl, Ze hA rfl, Z27 hA hk6 (by decide), hf1, ?_⟩;refine Z8 (A.add i 1, k + 1, A.app L [.agg [I lo, I hi]]) [0, 4] ⟨hk, hu2, hL2⟩ hms ?_;exact ⟨by decide, Z9, ⟨rfl, rfl, trivial⟩, ⟨rfl, by rw [<- hn2]; rfl, rfl, rfl, trivial⟩, rfl, rfl⟩
 ·have hk : k = F := by have := Z21 hA hFl u2 c2; omega
  rw [<- hk, <- u3] at hq;cbv;refine Z7 ?_;cbv;refine Z1w [1] ?_;cbv;exact ⟨by cases L <;> exact hLl.symm, Z2 [] (by decide) Z9 (H' := []) (d' := .tup [.sl 2 L, I 0]) trivial rfl (Z1 hq)⟩
end Go.Proofs.Ytecfpfhkicapeaa
