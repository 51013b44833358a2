/- Part RefC of the proofs about the benches of the accordion maker: see the last text of the claim for what is proved. -/
import Derived.Test.YtecfpfhkicapeaaRefA
import Derived.Test.YtecfpfhkicapeaaSaysB
import Derived.Test.YtecfpfhkicapeaaBatL
import Derived.Test.YtecfpfhkicapeaaWroA
import Derived.Test.YtecfpfhkicapeaaBatI
import Derived.Test.YtecfpfhkicapeaaFewA
set_option linter.unusedVariables false
set_option linter.unusedSimpArgs false
set_option linter.unnecessarySimpa false
set_option linter.constructorNameAsVariable false

namespace Go.Batch
structure LyI (S : List (Ste Int)) (f : List Int -> Int) (n : Nat) (sm : Bool) (lo hi : Int) : Prop where
 no : sm = false -> ∀ s ∈ S, ¬ Z1i s < n
 lo1 : sm = true -> ∃ s ∈ S, f s.1 = lo
 hi1 : sm = true -> ∃ s ∈ S, f s.1 = hi
 bd : ∀ s ∈ S, Z1i s < n -> lo <= f s.1 /\ f s.1 <= hi
theorem LyI.start (S : List (Ste Int)) (f : List Int -> Int) : LyI S f 0 false 0 0 :=
 ⟨fun _ s _ h => absurd h (Nat.not_lt_zero _), fun h => Bool.noConfusion h, fun h => Bool.noConfusion h, fun s _ h => absurd h (Nat.not_lt_zero _)⟩
theorem LyI.skip {S : List (Ste Int)} {f : List Int -> Int} {n : Nat} {sm : Bool} {lo hi : Int} (h : LyI S f n sm lo hi) (hs : ∀ s ∈ S, LOk s.1 /\ 0 <= s.2) (hn : ¬ Z3o n ∈ S) : LyI S f (n + 1) sm lo hi := by
 have key : ∀ s ∈ S, Z1i s < n + 1 -> Z1i s < n := fun s h1 h2 => by
  rcases Nat.lt_or_eq_of_le (Nat.le_of_lt_succ h2) with g | g
  ·exact g
  ·have := Z57 (hs s h1).1 (hs s h1).2;rw [g] at this;rw [this] at hn;exact absurd h1 hn
 exact ⟨fun h1 s h2 h3 => h.no h1 s h2 (key s h2 h3), h.lo1, h.hi1, fun s h1 h2 => h.bd s h1 (key s h1 h2)⟩
theorem LyI.first {S : List (Ste Int)} {f : List Int -> Int} {n : Nat} {lo hi : Int} (h : LyI S f n false lo hi) (hs : ∀ s ∈ S, LOk s.1 /\ 0 <= s.2) (hn : Z3o n ∈ S) : LyI S f (n + 1) true (f (Z1z (n % 1296))) (f (Z1z (n % 1296))) :=
 ⟨fun h => Bool.noConfusion h, fun _ => ⟨_, hn, rfl⟩, fun _ => ⟨_, hn, rfl⟩, fun s h1 h2 => by
  rcases Nat.lt_or_eq_of_le (Nat.le_of_lt_succ h2) with g | g
  ·exact absurd g (h.no rfl s h1)
  ·have := Z57 (hs s h1).1 (hs s h1).2
   rw [g] at this
   rw [<- this]
   exact ⟨Int.le_refl _, Int.le_refl _⟩⟩
theorem LyI.next {S : List (Ste Int)} {f : List Int -> Int} {n : Nat} {lo hi : Int} (h : LyI S f n true lo hi) (hs : ∀ s ∈ S, LOk s.1 /\ 0 <= s.2) (hn : Z3o n ∈ S) : LyI S f (n + 1) true (min lo (f (Z1z (n % 1296)))) (max hi (f (Z1z (n % 1296)))) := by
 refine ⟨fun h => Bool.noConfusion h, fun _ => ?_, fun _ => ?_, fun s h1 h2 => ?_⟩
 ·by_cases g : lo <= f (Z1z (n % 1296))
  ·rw [Int.min_eq_left g]; exact h.lo1 rfl
  ·rw [Int.min_eq_right (by omega)]; exact ⟨_, hn, rfl⟩
 ·by_cases g : f (Z1z (n % 1296)) <= hi
  ·rw [Int.max_eq_left g]; exact h.hi1 rfl
  ·rw [Int.max_eq_right (by omega)]; exact ⟨_, hn, rfl⟩
 ·rcases Nat.lt_or_eq_of_le (Nat.le_of_lt_succ h2) with g | g
  ·have := h.bd s h1 g; omega
  ·have := Z57 (hs s h1).1 (hs s h1).2;rw [g] at this;have e : f s.1 = f (Z1z (n % 1296)) := by rw [<- this]; rfl
   omega
theorem Zli {L : List Int} {lo hi : Int} (h1 : lo ∈ L) (h2 : hi ∈ L) (h : ∀ x ∈ L, lo <= x /\ x <= hi) : Zs L = (lo, hi) := by
 have hne : L ≠ [] := fun e => by rw [e] at h1; cases h1
 have a1 := Z4b h1;have a2 := (h _ (Z50 hne)).1;have a3 := Z4k h2;have a4 := (h _ (Z6v hne)).2;unfold Zs;rw [Int.le_antisymm a1 a2, Int.le_antisymm a4 a3]
theorem LyI.all {S : List (Ste Int)} {f : List Int -> Int} {sm : Bool} {lo hi : Int} (h : LyI S f 1296 sm lo hi) (hs : ∀ s ∈ S, LOk s.1 /\ s.2 = 0) (hne : S ≠ []) : Zs (S.map fun s => f s.1) = (lo, hi) := by
 have hp : ∀ s ∈ S, Z1i s < 1296 := fun s h1 => by
  have := Z9x (hs s h1).1;unfold Z1i;rw [(hs s h1).2];omega
 cases sm with
 | false =>
  obtain ⟨s, l, e⟩ := List.exists_cons_of_ne_nil hne;have hm : s ∈ S := by rw [e]; exact List.mem_cons_self
  exact absurd (hp s hm) (h.no rfl s hm)
 | true =>
  obtain ⟨s, h1, e1⟩ := h.lo1 rfl;obtain ⟨t, h2, e2⟩ := h.hi1 rfl;exact Zli (List.mem_map.2 ⟨s, h1, e1⟩) (List.mem_map.2 ⟨t, h2, e2⟩) fun x hx => by
   obtain ⟨u, hu, rfl⟩ := List.mem_map.1 hx;exact h.bd u hu (hp u hu)
def Zgh (is no : Bool) : Int := if no = false then 1 else if is = false then 2 else 3
theorem Zg8 {L : List Int} (hne : L ≠ []) (h0 : ∀ x ∈ L, 0 <= x) {is no : Bool} (h1 : is = true ↔ ∃ x ∈ L, 0 < x) (h2 : no = true ↔ ∃ x ∈ L, x = 0) : Z2i (Zs L) = Zgh is no := by
 have a1 := Z50 hne;have a2 := Z6v hne;have e1 : (Zs L).1 = Z6a L := rfl;have e2 : (Zs L).2 = Z80 L := rfl;unfold Z2i Zgh;rw [e1, e2]
 by_cases c : 0 < Z6a L
 ·have : no = false := by
   cases no with
   | false => rfl
   | true =>
    obtain ⟨x, hx, hx0⟩ := h2.1 rfl;have := Z4b hx; omega
  rw [if_pos c, if_pos this]
 ·have z := h0 _ a1;have : no = true := h2.2 ⟨_, a1, by omega⟩;rw [if_neg c, this, if_neg (c := true = false) (by decide)]
  by_cases d : Z80 L = 0
  ·have : is = false := by
    cases is with
    | false => rfl
    | true =>
     obtain ⟨x, hx, hx0⟩ := h1.1 rfl;have := Z4k hx; omega
   rw [if_pos d, if_pos this]
  ·have z2 := h0 _ a2;have : is = true := h1.2 ⟨_, a2, by omega⟩;rw [if_neg d, this, if_neg (by decide)]
def Zg9 (T P : Nat -> Prop) (n : Nat) : Prop := ∃ m, m < n /\ T m /\ P m
theorem Zj9 (T P : Nat -> Prop) : ¬ Zg9 T P 0 := fun ⟨_, h, _⟩ => absurd h (Nat.not_lt_zero _)
theorem Zbw (T P : Nat -> Prop) (n : Nat) : Zg9 T P (n + 1) ↔ Zg9 T P n ∨ T n /\ P n := by
 constructor
 ·rintro ⟨m, h1, h2⟩;rcases Nat.lt_or_eq_of_le (Nat.le_of_lt_succ h1) with g | g
  ·exact .inl ⟨m, g, h2⟩
  ·subst g; exact .inr h2
 ·rintro (⟨m, h1, h2⟩ | h2)
  ·exact ⟨m, by omega, h2⟩
  ·exact ⟨n, by omega, h2⟩
theorem Za6 {S : List (Ste Int)} (hs : ∀ s ∈ S, 0 <= s.2 /\ s.2 <= 15) (P : Nat -> Prop) : Zg9 (fun m => ∃ s ∈ S, s.2 = (m : Int)) P 16 ↔ ∃ s ∈ S, P s.2.toNat := by
 constructor
 ·rintro ⟨m, h1, ⟨s, hs, e⟩, h2⟩;exact ⟨s, hs, by rw [e]; exact h2⟩
 ·rintro ⟨s, h1, h2⟩;have := hs s h1;exact ⟨s.2.toNat, by omega, ⟨s, h1, by omega⟩, h2⟩
theorem Zbx {j : Jn} (hj : JOk j) (q : Ask) : ∀ s ∈ Zd j (Zm q) 0, LOk s.1 /\ 0 <= s.2 /\ s.2 <= 15 := fun s h => by
 rw [<- Zfx (k := j.moves.length) (Nat.le_refl _)] at h;have := Zfz hj q _ s h;exact ⟨this.l, this.n0, this.n15⟩
theorem n12 : ¬ (1 : Int) = 2 := by decide
theorem n13 : ¬ (1 : Int) = 3 := by decide
theorem n21 : ¬ (2 : Int) = 1 := by decide
theorem n23 : ¬ (2 : Int) = 3 := by decide
theorem n31 : ¬ (3 : Int) = 1 := by decide
theorem n32 : ¬ (3 : Int) = 2 := by decide
theorem Zlj {j : Jn} (hj : JOk j) (bl : List Int) (i b : Int) {x : Ste (List (Int × Nat × Int))} (hx : x ∈ Zd j Z1f []) {k : Nat} (hk : k < 4) : Z2s (Zt (Zm ⟨1, i, b, bl⟩) 0 x.2) k = true ↔ ∃ p ∈ x.2, p.1 = k /\ (p.2.1 : Int) ∈ bl := by
 have hp := (Z6m hj x hx).all;have hi4 := hj.i4;have h := (Zaj (fun p => decide ((p.2.1 : Int) ∈ bl)) (fun p => p.1.toNat) (Zm ⟨1, i, b, bl⟩) (fun z p => by
  unfold Zm
  by_cases g : (p.2.1 : Int) ∈ bl
  ·rw [if_pos ⟨rfl, g⟩, if_pos (by rw [decide_eq_true_eq]; exact g)]
  ·rw [if_neg (fun h => g h.2), if_neg (fun h => absurd h.1 n12), if_neg (fun h => absurd h.1 n13), if_neg (by rw [decide_eq_true_eq]; exact g)]) x.2 0 (fun p h _ => by have := hp p h; omega) (by decide)).2 k hk
 rw [h];have hz : Z2s 0 k = false := by unfold Z2s; simp
 rw [hz];simp only [Bool.false_eq_true, false_or, decide_eq_true_eq];refine exists_congr fun p => and_congr_right fun hq => ?_;have := (hp p hq).1;exact ⟨fun ⟨h1, h2⟩ => ⟨by omega, h1⟩, fun ⟨h1, h2⟩ => ⟨h2, by omega⟩⟩
theorem Zlk {j : Jn} (hj : JOk j) (hs : Zc j = true) (bl : List Int) (i b : Int) {k : Nat} (hk : k < 4) (tk : Tk Int) (ht : ∀ x ∈ Zd j Z1f [], 0 <= Zt tk 0 x.2 /\ (0 < Zt tk 0 x.2 ↔ ∃ p ∈ x.2, p.1 = k /\ (p.2.1 : Int) ∈ bl)) {is no : Bool}
  (h1 : is = true ↔ ∃ s ∈ Zd j (Zm ⟨1, i, b, bl⟩) 0, Z2s s.2 k = true) (h2 : no = true ↔ ∃ s ∈ Zd j (Zm ⟨1, i, b, bl⟩) 0, Z2s s.2 k = false) : Z2i (Z4d j tk) = Zgh is no := by
 have e : ∀ P : Int -> Prop, (∃ s ∈ Zd j (Zm ⟨1, i, b, bl⟩) 0, P s.2) ↔ ∃ x ∈ Zd j Z1f [], P (Zt (Zm ⟨1, i, b, bl⟩) 0 x.2) := fun P => by
  rw [Z1n (Zm ⟨1, i, b, bl⟩)];constructor
  ·rintro ⟨s, h, g⟩;obtain ⟨x, hx, rfl⟩ := List.mem_map.1 h;exact ⟨x, hx, g⟩
  ·rintro ⟨x, hx, g⟩;exact ⟨_, List.mem_map.2 ⟨x, hx, rfl⟩, g⟩
 have e' : ∀ P : Int -> Prop, (∃ y ∈ (Zd j tk 0).map (·.2), P y) ↔ ∃ x ∈ Zd j Z1f [], P (Zt tk 0 x.2) := fun P => by
  rw [Z1n tk];constructor
  ·rintro ⟨s, h, g⟩;obtain ⟨x, hx, rfl⟩ := List.mem_map.1 h;obtain ⟨y, hy, rfl⟩ := List.mem_map.1 hx;exact ⟨y, hy, g⟩
  ·rintro ⟨x, hx, g⟩;exact ⟨_, List.mem_map.2 ⟨_, List.mem_map.2 ⟨x, hx, rfl⟩, rfl⟩, g⟩
 have hn : (Zd j tk 0).map (·.2) ≠ [] := fun h => Z55 hs tk (List.map_eq_nil_iff.1 h);refine Zg8 hn (fun y hy => ?_) ?_ ?_
 ·obtain ⟨s, h, rfl⟩ := List.mem_map.1 hy;rw [Z1n tk] at h;obtain ⟨x, hx, rfl⟩ := List.mem_map.1 h;exact (ht x hx).1
 ·rw [h1, e (fun z => Z2s z k = true), e' (fun z => 0 < z)];exact exists_congr fun x => and_congr_right fun hx => (Zlj hj bl i b hx hk).trans (ht x hx).2.symm
 ·rw [h2, e (fun z => Z2s z k = false), e' (fun z => z = 0)];refine exists_congr fun x => and_congr_right fun hx => ?_;have g := (Zlj hj bl i b hx hk).trans (ht x hx).2.symm;have g0 := (ht x hx).1;constructor
  ·intro h;have : ¬ 0 < Zt tk 0 x.2 := fun c => by rw [g.2 c] at h; cases h
   omega
  ·intro h
   cases hb : Z2s (Zt (Zm ⟨1, i, b, bl⟩) 0 x.2) k with
   | false => rfl
   | true => have := g.1 hb; omega
theorem Zqt {j : Jn} (hj : JOk j) (hs : Zc j = true) (b : Nat) (i b0 : Int) {k : Nat} (hk : k < 4) {is no : Bool}
  (h1 : is = true ↔ ∃ s ∈ Zd j (Zm ⟨1, i, b0, [(b : Int)]⟩) 0, Z2s s.2 k = true) (h2 : no = true ↔ ∃ s ∈ Zd j (Zm ⟨1, i, b0, [(b : Int)]⟩) 0, Z2s s.2 k = false) : Z2i (Z4d j (Z2v k b)) = Zgh is no := by
 refine Zlk hj hs [(b : Int)] i b0 hk (Z2v k b) (fun x hx => ?_) h1 h2;have := Zco k b x.2 fun p hp => ((Z6m hj x hx).all p hp).2.2.2;rw [Zbq, Int.zero_add];refine ⟨this.1, this.2.trans (exists_congr fun p => and_congr_right fun hp => and_congr_right fun _ => ?_)⟩;simp only [List.mem_singleton];omega
theorem Zw5 {j : Jn} (hj : JOk j) (hs : Zc j = true) {l : List Nat} (hl : ∀ x ∈ l, x < 4) (i b0 : Int) {k : Nat} (hk : k < 4) {is no : Bool}
  (h1 : is = true ↔ ∃ s ∈ Zd j (Zm ⟨1, i, b0, l.map fun b : Nat => (b : Int)⟩) 0, Z2s s.2 k = true) (h2 : no = true ↔ ∃ s ∈ Zd j (Zm ⟨1, i, b0, l.map fun b : Nat => (b : Int)⟩) 0, Z2s s.2 k = false) : Z2i (Z4d j (Z3a (Z1p l) k)) = Zgh is no := by
 refine Zlk hj hs _ i b0 hk (Z3a (Z1p l) k) (fun x hx => ?_) h1 h2;have hb4 := hj.b4;have e : (∃ p ∈ x.2, p.1 = k /\ Z2s (Z1p l) p.2.1 = true) ↔ ∃ p ∈ x.2, p.1 = k /\ (p.2.1 : Int) ∈ l.map fun b : Nat => (b : Int) :=
  exists_congr fun p => and_congr_right fun hp => and_congr_right fun _ => by
   have := ((Z6m hj x hx).all p hp).2.2.1;rw [Z56 hl (by omega), decide_eq_true_eq, List.mem_map];exact ⟨fun h => ⟨_, h, rfl⟩, fun ⟨b, hb, e⟩ => by rw [<- show b = p.2.1 by omega]; exact hb⟩
 rw [Z72, <- e]
 by_cases c : ∃ p ∈ x.2, p.1 = k /\ Z2s (Z1p l) p.2.1 = true
 ·rw [if_pos c]; exact ⟨by decide, fun _ => c, fun _ => by decide⟩
 ·rw [if_neg c]; exact ⟨by decide, fun h => absurd h (by decide), fun h => absurd h c⟩
theorem Zw6 (i : Int) (b : Nat) : Zm ⟨2, i, b, []⟩ = Z2v i b := by
 funext x i' b' n
 unfold Zm Z2v;rw [if_neg (fun h => absurd h.1 n21)]
 by_cases c : i' = i /\ b' = b
 ·rw [if_pos c, if_pos ⟨rfl, by show (b : Int) = b'; omega, c.1.symm⟩]
 ·rw [if_neg c, if_neg (fun h => c ⟨h.2.2.symm, by have : (b : Int) = b' := h.2.1; omega⟩), if_neg (fun h => absurd h.1 n23)]
theorem Zw7 (i : Int) : Zm ⟨3, i, 0, []⟩ = Z29 i := by
 funext x i' b' n
 unfold Zm Z29;rw [if_neg (fun h => absurd h.1 n31), if_neg (fun h => absurd h.1 n32)]
 by_cases c : i' = i
 ·rw [if_pos c, if_pos ⟨rfl, c.symm⟩]
 ·rw [if_neg c, if_neg (fun h => c h.2.symm)]
theorem Zw8 (b : Nat) : Zm ⟨1, 0, 0, [(b : Int)]⟩ = Z9r b := by
 funext x i' b' n
 unfold Zm Z9r
 by_cases c : b' = b
 ·rw [if_pos c, if_pos ⟨rfl, by rw [c]; exact List.mem_singleton.2 rfl⟩]
 ·rw [if_neg c, if_neg (fun h => c (by have := List.mem_singleton.1 h.2; omega)), if_neg (fun h => absurd h.1 n12), if_neg (fun h => absurd h.1 n13)]
theorem Ztt {j : Jn} (hj : JOk j) (hs : Zc j = true) (k : Int) {is no : Bool}
  (h1 : is = true ↔ ∃ s ∈ Zd j (Zm ⟨3, k, 0, []⟩) 0, Z43 s.2 ≠ 0) (h2 : no = true ↔ ∃ s ∈ Zd j (Zm ⟨3, k, 0, []⟩) 0, Z43 s.2 = 0) : Z2i (Zs ((Zd j (Z29 k) 0).map fun s => Z43 s.2)) = Zgh is no := by
 have hb := Zbx hj ⟨3, k, 0, []⟩;rw [Zw7] at h1 h2 hb;have hn : (Zd j (Z29 k) 0).map (fun s => Z43 s.2) ≠ [] := fun h => Z55 hs (Z29 k) (List.map_eq_nil_iff.1 h);have h0 : ∀ s ∈ Zd j (Z29 k) 0, 0 <= Z43 s.2 := fun s h => by
  have hb := hb s h;have := (Zft ⟨s.2.toNat, by omega⟩).1;have e : ((s.2.toNat : Nat) : Int) = s.2 := by omega
  simp only [e] at this;exact this
 refine Zg8 hn (fun y hy => ?_) ?_ ?_
 ·obtain ⟨s, h, rfl⟩ := List.mem_map.1 hy;exact h0 s h
 ·rw [h1];constructor
  ·rintro ⟨s, h, g⟩;exact ⟨_, List.mem_map.2 ⟨s, h, rfl⟩, by have := h0 s h; omega⟩
  ·rintro ⟨y, hy, g⟩;obtain ⟨s, h, rfl⟩ := List.mem_map.1 hy;exact ⟨s, h, by omega⟩
 ·rw [h2];constructor
  ·rintro ⟨s, h, g⟩;exact ⟨_, List.mem_map.2 ⟨s, h, rfl⟩, g⟩
  ·rintro ⟨y, hy, g⟩;obtain ⟨s, h, rfl⟩ := List.mem_map.1 hy;exact ⟨s, h, g⟩
theorem Zja : ∀ g x : Fin 16, (allB (g.val : Int) (x.val : Int) = true ↔ ∀ k : Fin 4, Z2s (x.val : Int) k.val = true -> Z2s (g.val : Int) k.val = true) := by decide +kernel
theorem Zjb : ∀ g y : Fin 16, (Ziu (g.val : Int) (y.val : Int) = 0 ↔ ∀ k : Fin 4, Z2s (y.val : Int) k.val = true -> Z2s (g.val : Int) k.val = false) := by decide +kernel
theorem Zp3 {l : List Nat} (hl : ∀ x ∈ l, x < 4) : 0 <= Z1p l /\ Z1p l <= 15 := by
 have : ∀ (l : List Nat) (g : Int), (∀ x ∈ l, x < 4) -> 0 <= g /\ g <= 15 -> 0 <= l.foldl Z2h g /\ l.foldl Z2h g <= 15 := fun l => by
  induction l with
  | nil => intro g _ hg; exact hg
  | cons n l ih =>
   intro g hl hg;have w := Zcn ⟨g.toNat, by omega⟩ ⟨n, hl n (by simp)⟩ ⟨0, by decide⟩;have e : ((g.toNat : Nat) : Int) = g := by omega
   simp only [e] at w;exact ih _ (fun x hx => hl x (by simp [hx])) w.2
 exact this l 0 hl (by decide)
def Z7q (n : Nat) (l : List Nat) (one : Bool) : Bool := l.all fun k => Z2s n k == one
theorem Zw9 {l : List Nat} (hl : ∀ x ∈ l, x < 4) {n : Nat} (hn : n < 16) : Z7q n l true = allB (n : Int) (Z1p l) := by
 have hg := Zp3 hl;have h := Zja ⟨n, hn⟩ ⟨(Z1p l).toNat, by omega⟩;have e : (((Z1p l).toNat : Nat) : Int) = Z1p l := by omega
 simp only [e] at h;rw [Bool.eq_iff_iff, h];unfold Z7q;rw [List.all_eq_true];constructor
 ·intro g k hk;rw [Z56 hl k.isLt, decide_eq_true_eq] at hk;have := g k.val hk;simpa using this
 ·intro g k hk;have := g ⟨k, hl k hk⟩ (by rw [Z56 hl (hl k hk), decide_eq_true_eq]; exact hk);simpa using this
theorem Ztu {l : List Nat} (hl : ∀ x ∈ l, x < 4) {n : Nat} (hn : n < 16) : Z7q n l false = (Ziu (n : Int) (Z1p l) == 0) := by
 have hg := Zp3 hl;have h := Zjb ⟨n, hn⟩ ⟨(Z1p l).toNat, by omega⟩;have e : (((Z1p l).toNat : Nat) : Int) = Z1p l := by omega
 simp only [e] at h;rw [Bool.eq_iff_iff, beq_iff_eq, h];unfold Z7q;rw [List.all_eq_true];constructor
 ·intro g k hk;rw [Z56 hl k.isLt, decide_eq_true_eq] at hk;have := g k.val hk;simpa using this
 ·intro g k hk;have := g ⟨k, hl k hk⟩ (by rw [Z56 hl (hl k hk), decide_eq_true_eq]; exact hk);simpa using this
theorem Zqu {j : Jn} (hj : JOk j) {x y : List Nat} (hx : ∀ k ∈ x, k < 4) (hy : ∀ k ∈ y, k < 4) (b : Nat) {ex : Bool} (h : ex = true ↔ ∃ s ∈ Zd j (Zm ⟨1, 0, 0, [(b : Int)]⟩) 0, (Z7q s.2.toNat x true = true /\ Z7q s.2.toNat y false = true)) : Z71 j (Z1p x) (Z1p y) b = ex := by
 have hb := Zbx hj ⟨1, 0, 0, [(b : Int)]⟩;rw [Zw8] at h hb;rw [Bool.eq_iff_iff, h];unfold Z71;rw [List.any_eq_true];refine exists_congr fun s => and_congr_right fun hs => ?_;have hb := hb s hs;have e : ((s.2.toNat : Nat) : Int) = s.2 := by omega
 rw [Zw9 hx (by omega), Ztu hy (by omega), e, Bool.and_eq_true]
end Go.Batch

namespace Go.Proofs.Ytecfpfhkicapeaa
open Go Go.Abs Go.Proofs Go.Batch
def okL {α : Type} (e : Int) (l : List α) : List α := if e = 0 then l else []
theorem Zd1 {α : Type} (l : List α) : okL 0 l = l := if_pos rfl
theorem Ze9 {α : Type} {e : Int} (h : e ≠ 0) (l : List α) : okL e l = [] := if_neg h
theorem Zel {α β : Type} (f : α -> β) (e : Int) (l : List α) : (okL e l).map f = okL e (l.map f) := by unfold okL; split <;> rfl
theorem Zll {j : Jn} {e : Int} (h1 : e = Zr j) (h2 : e ≠ 0) : Za5 j = e := by unfold Za5; rw [if_pos (by rw [<- h1]; exact h2), h1]
theorem Ztv {j : Jn} (h : JOk j) (h2 : Zc j = false) : Za5 j = 9 := by unfold Za5; rw [if_neg (fun g => g (Z81 h)), h2]; rfl
theorem Ztw {j : Jn} (h : JOk j) (h2 : Zc j = true) : Za5 j = 0 := by unfold Za5; rw [if_neg (fun g => g (Z81 h)), h2]; rfl
theorem Zem {j : Jn} (h : Za5 j = 0) : JOk j /\ Zc j = true := by
 unfold Za5 at h
 split at h
 ·rename_i g; exact absurd h g
 ·rename_i g
  have : Zr j = 0 := Classical.byContradiction g
  split at h
  ·rename_i g2; exact ⟨Z2r this, g2⟩
  ·exact absurd h (by decide)
def Zjc (j : Jn) (l : List Int) : Int := if Zr j ≠ 0 then Zr j else if Z44 ((Z6 j.moves).length : Int) l ≠ 0 then Z44 ((Z6 j.moves).length : Int) l else if Zc j = true then 0 else 9
def Zlm (j : Jn) (x y : List Int) : Int := if Zr j ≠ 0 then Zr j else if Z44 j.ins x ≠ 0 then Z44 j.ins x else if Z44 j.ins y ≠ 0 then Z44 j.ins y else if Zc j = true then (if Z9s j (Z3z x) (Z3z y) = [] then 11 else 0) else 9
def Zwa (j : Jn) (i b : Int) : Prop := (0 <= i /\ i <= j.ins - 1) /\ 0 <= b /\ b <= ((Z6 j.moves).length : Int) - 1
instance (j : Jn) (i b : Int) : Decidable (Zwa j i b) := by unfold Zwa; infer_instance
def Zjd (j : Jn) (i b : Int) : Int := if Zr j ≠ 0 then Zr j else if ¬ Zwa j i b then 3 else if Zc j = true then 0 else 9
def Zym (j : Jn) (i b : Int) : Int × Int := if Zjd j i b = 0 then Z4d j (Z2v i b.toNat) else (0, 0)
theorem wkE {sz : Nat} {e e' : Int} {L : List D} (h : e' = e) (hne : e ≠ 0) : WkD (.tup [.v (.slice none 0 0), I e]) (.tup [.sl sz (okL e' L), I e']) := by
 subst h; rw [Ze9 hne]; exact WkD.tup ⟨WkD.nil, .rfl, trivial⟩
theorem wkO {sz : Nat} {e' : Int} {L L' : List D} (h : e' = 0) (hL : L' = L) : WkD (.tup [.sl sz L', I 0]) (.tup [.sl sz (okL e' L), I e']) := by
 subst h hL; rw [Zd1]; exact .rfl
section
variable {fn : FuncId} {args : List D} {d0 : D} {Q : RA -> List Blk -> Prop}
def Zyn (d0 : D) (x : RA) (H' : List Blk) : Prop := H' = [] /\ ∃ d, x = RA.ret d /\ WkD d d0
theorem Ztx (h : CallA Try.prog fn args [] (Zyn d0)) (hq : Q (RA.ret d0) []) : CallA Try.prog fn args [] Q :=
 Zqm (Q := Zyn d0) h (fun d H' h => by
  obtain ⟨rfl, d1, h1, h2⟩ := h
  cases h1
  exact ⟨_, h2, hq⟩) (fun d H' h => by
  obtain ⟨-, d1, h1, -⟩ := h
  cases h1)
end
section
variable (j : Jn) (hf : j.first.length <= 1152921504606846976) (hm : j.moves.length <= 1152921504606846976) (FL ML : List D) (hF : FL = j.first.map Zv) (hM : ML = j.moves.map mvD)
include hf hm hF hM
theorem Z10g (e : Int) (he : e = Za5 j) (L0 : List D) (hL : L0 = okL e ((Z5w j).map fun l => .sl 1 (l.map I))) (Q) (hq : Q (RA.ret (.tup [.sl 1 L0, I e])) []) : CallA Try.prog 28 [.agg [I j.ins, .sl 1 FL, .sl 5 ML]] [] Q := by
 subst hL;exact Ztx (Zsy j hf hm FL ML hF hM _ (fun e' h1 h2 => ⟨rfl, _, rfl, wkE (he.trans (Zll h1 h2)) h2⟩) (fun h h2 => ⟨rfl, _, rfl, wkE (he.trans (Ztv h h2)) (by decide)⟩) (fun h h2 L hL => ⟨rfl, _, rfl, wkO (he.trans (Ztw h h2)) hL⟩)) hq
theorem Z10h (e : Int) (he : e = Za5 j) (L0 : List D) (hL : L0 = okL e ((Z6b j).map I)) (Q) (hq : Q (RA.ret (.tup [.sl 1 L0, I e])) []) : CallA Try.prog 30 [.agg [I j.ins, .sl 1 FL, .sl 5 ML]] [] Q := by
 subst hL;exact Ztx (Zsv j hf hm FL ML hF hM _ (fun e' h1 h2 => ⟨rfl, _, rfl, wkE (he.trans (Zll h1 h2)) h2⟩) (fun h h2 => ⟨rfl, _, rfl, wkE (he.trans (Ztv h h2)) (by decide)⟩) (fun h h2 L hL => ⟨rfl, _, rfl, wkO (he.trans (Ztw h h2)) hL⟩)) hq
theorem Z109 (i b : Int) (e : Int) (he : e = Zjd j i b) (lo hi : Int) (hv : (lo, hi) = Zym j i b) (Q) (hq : Q (RA.ret (.tup [.agg [I lo, I hi], I e])) []) : CallA Try.prog 38 [.agg [I j.ins, .sl 1 FL, .sl 5 ML], I i, I b] [] Q := by
 unfold Zym at hv;have hz : ∀ e' : Int, Zjd j i b = e' -> e' ≠ 0 -> e' = e /\ lo = 0 /\ hi = 0 := fun e' h1 h2 => by
  rw [if_neg (by rw [h1]; exact h2)] at hv;exact ⟨by rw [he, h1], (Prod.mk.inj hv).1, (Prod.mk.inj hv).2⟩
 refine Z106 j hf hm i b FL ML hF hM Q (fun e' h1 h2 => ?_) (fun h g => ?_) (fun h g1 g2 g3 => ?_) (fun h g1 g2 g3 lo' hi' h1 h2 => ?_)
 ·obtain ⟨a1, a2, a3⟩ := hz e' (by unfold Zjd; rw [if_pos (by rw [<- h1]; exact h2), h1]) h2;rw [a1]; rw [a2, a3] at hq; exact hq
 ·obtain ⟨a1, a2, a3⟩ := hz 3 (by unfold Zjd; rw [if_neg (fun g => g (Z81 h)), if_pos (show ¬ Zwa j i b from g)]) (by decide);rw [<- a1, a2, a3] at hq; exact hq
 ·obtain ⟨a1, a2, a3⟩ := hz 9 (by unfold Zjd; rw [if_neg (fun g => g (Z81 h)), if_neg (show ¬ ¬ Zwa j i b from fun g => g ⟨g1, g2⟩), g3]; rfl) (by decide);rw [<- a1, a2, a3] at hq; exact hq
 ·have a0 : Zjd j i b = 0 := by unfold Zjd; rw [if_neg (fun g => g (Z81 h)), if_neg (show ¬ ¬ Zwa j i b from fun g => g ⟨g1, g2⟩), g3]; rfl
  rw [if_pos a0, ] at hv;have e0 := he.trans a0;have a2 : lo = lo' := by rw [h1, <- hv]
  have a3 : hi = hi' := by rw [h2, <- hv]
  rw [e0, a2, a3] at hq;exact hq
theorem Z10k (l : List Int) (hl : l.length <= 1152921504606846976) (XL : List D) (hX : XL = l.map I) (e : Int) (he : e = Zjc j l) (L0 : List D) (hL : L0 = okL e ((Zbn j (l.map Int.toNat)).map I)) (Q) (hq : Q (RA.ret (.tup [.sl 1 L0, I e])) []) : CallA Try.prog 55 [.agg [I j.ins, .sl 1 FL, .sl 5 ML], .sl 1 XL] [] Q := by
 subst hL;refine Ztx (Zzv j hf hm l hl FL ML XL hF hM hX _ (fun e' h1 h2 => ⟨rfl, _, rfl, wkE (he.trans ?_) h2⟩) (fun h e' h1 h2 => ⟨rfl, _, rfl, wkE (he.trans ?_) h2⟩) (fun h h1 h2 => ⟨rfl, _, rfl, wkE (he.trans ?_) (by decide)⟩) (fun h h1 h2 L hL => ⟨rfl, _, rfl, wkO (he.trans ?_) hL⟩)) hq
 ·unfold Zjc; rw [if_pos (by rw [<- h1]; exact h2), h1]
 ·unfold Zjc; rw [if_neg (fun g => g (Z81 h)), if_pos (by rw [<- h1]; exact h2), h1]
 ·unfold Zjc; rw [if_neg (fun g => g (Z81 h)), if_neg (fun g => g h1), h2]; rfl
 ·unfold Zjc; rw [if_neg (fun g => g (Z81 h)), if_neg (fun g => g h1), h2]; rfl
theorem Z10a (l : List Int) (hl : l.length <= 1152921504606846976) (XL : List D) (hX : XL = l.map I) (e : Int) (he : e = Zjc j l) (L0 : List D) (hL : L0 = okL e ((Zit j (l.map Int.toNat)).map I)) (Q) (hq : Q (RA.ret (.tup [.sl 1 L0, I e])) []) : CallA Try.prog 57 [.agg [I j.ins, .sl 1 FL, .sl 5 ML], .sl 1 XL] [] Q := by
 subst hL;refine Ztx (Z10f j hf hm l hl FL ML XL hF hM hX _ (fun e' h1 h2 => ⟨rfl, _, rfl, wkE (he.trans ?_) h2⟩) (fun h e' h1 h2 => ⟨rfl, _, rfl, wkE (he.trans ?_) h2⟩) (fun h h1 h2 => ⟨rfl, _, rfl, wkE (he.trans ?_) (by decide)⟩) (fun h h1 h2 L hL => ⟨rfl, _, rfl, wkO (he.trans ?_) hL⟩)) hq
 ·unfold Zjc; rw [if_pos (by rw [<- h1]; exact h2), h1]
 ·unfold Zjc; rw [if_neg (fun g => g (Z81 h)), if_pos (by rw [<- h1]; exact h2), h1]
 ·unfold Zjc; rw [if_neg (fun g => g (Z81 h)), if_neg (fun g => g h1), h2]; rfl
 ·unfold Zjc; rw [if_neg (fun g => g (Z81 h)), if_neg (fun g => g h1), h2]; rfl
theorem Z100 (x y : List Int) (hx : x.length <= 1152921504606846976) (hy : y.length <= 1152921504606846976) (XL YL : List D) (hX : XL = x.map I) (hY : YL = y.map I) (e : Int) (he : e = Zlm j x y) (L0 : List D) (hL : L0 = okL e ((Z9s j (Z3z x) (Z3z y)).map I)) (Q) (hq : Q (RA.ret (.tup [.sl 1 L0, I e])) []) : CallA Try.prog 59 [.agg [I j.ins, .sl 1 FL, .sl 5 ML], .sl 1 XL, .sl 1 YL] [] Q := by
 subst hL;refine Ztx (Zqf j hf hm x y hx hy FL ML XL YL hF hM hX hY _ (fun e' h1 h2 => ⟨rfl, _, rfl, wkE (he.trans ?_) h2⟩) (fun h e' h1 h2 => ⟨rfl, _, rfl, wkE (he.trans ?_) h2⟩) (fun h h0 e' h1 h2 => ⟨rfl, _, rfl, wkE (he.trans ?_) h2⟩) (fun h h0 h1 h2 => ⟨rfl, _, rfl, wkE (he.trans ?_) (by decide)⟩) (fun h h0 h1 h2 h3 => ⟨rfl, _, rfl, wkE (he.trans ?_) (by decide)⟩) (fun h h0 h1 h2 h3 L hL => ⟨rfl, _, rfl, wkO (he.trans ?_) hL⟩)) hq
 ·unfold Zlm; rw [if_pos (by rw [<- h1]; exact h2), h1]
 ·unfold Zlm; rw [if_neg (fun g => g (Z81 h)), if_pos (by rw [<- h1]; exact h2), h1]
 ·unfold Zlm; rw [if_neg (fun g => g (Z81 h)), if_neg (fun g => g h0), if_pos (by rw [<- h1]; exact h2), h1]
 ·unfold Zlm; rw [if_neg (fun g => g (Z81 h)), if_neg (fun g => g h0), if_neg (fun g => g h1), h2]; rfl
 ·unfold Zlm; rw [if_neg (fun g => g (Z81 h)), if_neg (fun g => g h0), if_neg (fun g => g h1), if_pos h2, if_pos h3]
 ·unfold Zlm; rw [if_neg (fun g => g (Z81 h)), if_neg (fun g => g h0), if_neg (fun g => g h1), if_pos h2, if_neg h3]
end
end Go.Proofs.Ytecfpfhkicapeaa

namespace Go.Proofs.Ytecfpfhkicapeaa
open Go Go.Abs Go.Proofs Go.Batch
end Go.Proofs.Ytecfpfhkicapeaa
