/- Part SaysA of the proofs about the benches of the accordion maker: see the last text of the claim for what is proved. -/
import Derived.Test.YtecfpfhkicapeaaMachD
set_option linter.unusedVariables false
set_option linter.unusedSimpArgs false
set_option linter.unnecessarySimpa false
set_option linter.constructorNameAsVariable false

namespace Go.Batch
structure Mv where
 kind : Int
 bin : Int
 inst : Int
 lo : Int
 hi : Int
deriving DecidableEq
structure Jn where
 ins : Int
 first : List Bool
 moves : List Mv
def upR (lo hi : Int) : List Int := (List.range (hi + 1 - lo).toNat).map fun k : Nat => lo + k
def Z9p (hi lo : Int) : List Int := (List.range (hi + 1 - lo).toNat).map fun k : Nat => hi - k
theorem Z2d {lo hi x : Int} : x ∈ upR lo hi ↔ lo <= x /\ x <= hi := by
 simp only [upR, List.mem_map, List.mem_range];constructor
 ·rintro ⟨k, h1, rfl⟩; omega
 ·rintro ⟨h1, h2⟩; exact ⟨(x - lo).toNat, by omega, by omega⟩
theorem Z7z {lo hi x : Int} : x ∈ Z9p hi lo ↔ lo <= x /\ x <= hi := by
 simp only [Z9p, List.mem_map, List.mem_range];constructor
 ·rintro ⟨k, h1, rfl⟩; omega
 ·rintro ⟨h1, h2⟩; exact ⟨(hi - x).toNat, by omega, by omega⟩
section
variable {ν : Type}
abbrev Tk (ν : Type) := ν -> Int -> Nat -> Int -> ν
abbrev Ste (ν : Type) := List Int × ν
def Z3n (tk : Tk ν) (inst : Int) (s : Ste ν) (i : Nat) (n : Int) : Ste ν := if n = 0 then s else (s.1.set i (s.1.getD i 0 - n), tk s.2 inst i n)
def Zl (fifo : Bool) (tk : Tk ν) (bin inst : Int) : List Int -> Nat -> Ste ν -> Int -> List (Ste ν)
 | [], _, s, a => if a = 0 then [s] else []
 | b :: bs, i, s, a => if a = 0 then [s] else
  if b = bin /\ s.1.getD i 0 ≠ 0 then
   (Z9p (min a (s.1.getD i 0)) (if fifo then min a (s.1.getD i 0) else 0)).flatMap fun n => Zl fifo tk bin inst bs (i + 1) (Z3n tk inst s i n) (a - n)
  else Zl fifo tk bin inst bs (i + 1) s a
def Z6 (ms : List Mv) : List Int := (ms.filter fun m => decide (m.kind = 1)).map (·.bin)
def inL (bin : Int) : List Int -> List Int -> Int
 | b :: bs, l => (if b = bin then l.headD 0 else 0) + inL bin bs l.tail
 | [], _ => 0
def Z9q (ins : Int) (m : Mv) : List Int := if m.inst < 0 then upR 0 (ins - 1) else [m.inst]
def Z22 (j : Jn) (tk : Tk ν) (bins : List Int) (m : Mv) (b : Nat) (s : Ste ν) : List (Ste ν) :=
 if m.kind = 1 then (upR m.lo m.hi).map fun n => (s.1.set b n, s.2)
 else if m.kind = 2 then (Z9q j.ins m).flatMap fun i => (upR m.lo m.hi).flatMap fun n => Zl (j.first.getD m.bin.toNat false) tk m.bin i bins 0 s n
 else if m.lo <= inL m.bin bins s.1 /\ inL m.bin bins s.1 <= m.hi then [s] else []
def Z2u (j : Jn) (tk : Tk ν) (bins : List Int) : List Mv -> Nat -> List (Ste ν) -> List (Ste ν)
 | [], _, now => now
 | m :: ms, b, now => Z2u j tk bins ms (if m.kind = 1 then b + 1 else b) (now.flatMap (Z22 j tk bins m b))
def Zd (j : Jn) (tk : Tk ν) (z : ν) : List (Ste ν) := Z2u j tk (Z6 j.moves) j.moves 0 [([0, 0, 0, 0], z)]
end
def Zn : Tk Int := fun _ _ _ _ => 0
def Z2v (i : Int) (b : Nat) : Tk Int := fun x i' b' n => if i' = i /\ b' = b then x + n else x
def Z1f : Tk (List (Int × Nat × Int)) := fun x i b n => x ++ [(i, b, n)]
def Z2h (x : Int) (n : Nat) : Int := ((x.toNat ||| (1 <<< n) : Nat) : Int)
def Z2s (g : Int) (n : Nat) : Bool := (g.toNat >>> n) % 2 == 1
def Z3a (g : Int) (i : Int) : Tk Int := fun x i' b _ => if i' = i /\ Z2s g b = true then 1 else x
def Z29 (i : Int) : Tk Int := fun x i' b _ => if i' = i then Z2h x b else x
def Z9r (b : Nat) : Tk Int := fun x i' b' _ => if b' = b then Z2h x i'.toNat else x
def Z6a : List Int -> Int
 | [] => 0
 | x :: l => l.foldl min x
def Z80 : List Int -> Int
 | [] => 0
 | x :: l => l.foldl max x
def Zs (l : List Int) : Int × Int := (Z6a l, Z80 l)
def Z2i (x : Int × Int) : Int := if 0 < x.1 then 1 else if x.2 = 0 then 2 else 3
def Z2q (j : Jn) (m : Mv) : Int :=
 if ¬ (1 <= m.kind /\ m.kind <= 3) then 8
 else if ¬ (0 <= m.bin /\ m.bin <= (j.first.length : Int) - 1) then 3
 else if m.kind = 2 /\ ¬ (-1 <= m.inst /\ m.inst <= j.ins - 1) then 3
 else if m.kind ≠ 2 /\ m.inst ≠ 0 then 1
 else if ¬ (0 <= m.lo /\ m.lo <= 5) ∨ ¬ (0 <= m.hi /\ m.hi <= 5) then 1
 else if m.hi < m.lo then 5
 else 0
def Z3b (j : Jn) : List Mv -> Nat -> Int
 | [], _ => 0
 | m :: ms, k => if Z2q j m ≠ 0 then Z2q j m else if 4 < (if m.kind = 1 then k + 1 else k) then 6 else Z3b j ms (if m.kind = 1 then k + 1 else k)
def checkJ (j : Jn) : Int :=
 if ¬ (1 <= j.ins /\ j.ins <= 4) then 1
 else if j.first.length = 0 then 7
 else if 2 < j.first.length ∨ 10 < j.moves.length then 6
 else Z3b j j.moves 0
def Zc (j : Jn) : Bool := !(Zd j Zn 0).isEmpty
def Z6g (j : Jn) : List (Int × Int) := (List.range j.first.length).map fun n : Nat => Zs ((Zd j Zn 0).map fun s => inL n (Z6 j.moves) s.1)
def Z4c (j : Jn) : List (Int × Int) := (List.range (Z6 j.moves).length).map fun i => Zs ((Zd j Zn 0).map fun s => s.1.getD i 0)
def Z4d (j : Jn) (tk : Tk Int) : Int × Int := Zs ((Zd j tk 0).map (·.2))
def Z5w (j : Jn) : List (List Int) := (List.range j.ins.toNat).map fun i : Nat => (List.range (Z6 j.moves).length).map fun b => Z2i (Z4d j (Z2v i b))
def Z1p (l : List Nat) : Int := l.foldl Z2h 0
def Zbn (j : Jn) (l : List Nat) : List Int := (List.range j.ins.toNat).map fun i : Nat => Z2i (Z4d j (Z3a (Z1p l) i))
def Ziu (x y : Int) : Int := ((x.toNat &&& y.toNat : Nat) : Int)
def Z43 (x : Int) : Int := if x <= 0 then 0 else ((x.toNat &&& (x.toNat - 1) : Nat) : Int)
def Z6b (j : Jn) : List Int := (List.range j.ins.toNat).map fun i : Nat => Z2i (Zs ((Zd j (Z29 i) 0).map fun s => Z43 s.2))
def allB (g other : Int) : Bool := Ziu g other == other
def Z71 (j : Jn) (x y : Int) (b : Nat) : Bool := (Zd j (Z9r b) 0).any fun s => allB s.2 x && Ziu s.2 y == 0
def Z9s (j : Jn) (x y : Int) : List Int := ((List.range (Z6 j.moves).length).filter (Z71 j x y)).map fun b : Nat => (b : Int)
def Zu (l : List Nat) : List Mv -> Nat -> List Mv
 | [], _ => []
 | m :: ms, i => if i ∈ l then Zu l ms (i + 1) else m :: Zu l ms (i + 1)
def Z12 (j : Jn) (l : List Nat) : Jn := { j with moves := Zu l j.moves 0 }
def Z1h : List Mv -> Nat -> List Nat
 | [], _ => []
 | m :: ms, i => if m.kind = 3 then i :: Z1h ms (i + 1) else Z1h ms (i + 1)
def Zp (j : Jn) : List Nat := Z1h j.moves 0
def Zw {α : Type} : List α -> Nat -> List (List α)
 | _, 0 => [[]]
 | [], _ + 1 => []
 | x :: l, k + 1 => (Zw l k).map (x :: ·) ++ Zw l (k + 1)
def Z9t (j : Jn) : List (List Nat) := (List.range ((Zp j).length + 1)).flatMap (Zw (Zp j))
def Z6c (j : Jn) : Option (List Nat) := (Z9t j).find? fun l => Zc (Z12 j l)
def mIn (b lo hi : Int) : Mv := ⟨1, b, 0, lo, hi⟩
def Zse (b i lo hi : Int) : Mv := ⟨2, b, i, lo, hi⟩
def Zci (b lo hi : Int) : Mv := ⟨3, b, 0, lo, hi⟩
def jnF (l : List Mv) : Jn := ⟨3, [true, false], [mIn 0 2 3, mIn 0 2 2, Zse 0 0 1 1, Zse 0 1 2 2, Zse 0 2 1 1] ++ l⟩
def jnA : Jn := ⟨3, [true, false], [mIn 1 2 2, mIn 1 1 1, Zse 1 0 1 1, Zse 1 (-1) 1 1]⟩
end Go.Batch

namespace Go.Batch
structure MOk (j : Jn) (m : Mv) : Prop where
 k1 : 1 <= m.kind
 k3 : m.kind <= 3
 b0 : 0 <= m.bin
 b1 : m.bin < j.first.length
 i0 : m.kind = 2 -> -1 <= m.inst
 i1 : m.kind = 2 -> m.inst < j.ins
 i2 : m.kind ≠ 2 -> m.inst = 0
 l0 : 0 <= m.lo
 lh : m.lo <= m.hi
 h5 : m.hi <= 5
structure JOk (j : Jn) : Prop where
 i1 : 1 <= j.ins
 i4 : j.ins <= 4
 f1 : 1 <= j.first.length
 f2 : j.first.length <= 2
 m10 : j.moves.length <= 10
 mv : ∀ m ∈ j.moves, MOk j m
 b4 : (Z6 j.moves).length <= 4
theorem Zmw {j : Jn} {m : Mv} (h : Z2q j m = 0) : MOk j m := by
 unfold Z2q at h
 split at h
 ·simp at h
 split at h
 ·simp at h
 split at h
 ·simp at h
 split at h
 ·simp at h
 split at h
 ·simp at h
 split at h
 ·simp at h
 rename_i a b c d e f
 exact ⟨by omega, by omega, by omega, by omega, fun hk => by omega, fun hk => by omega, fun hk => by omega, by omega, by omega, by omega⟩
theorem Zmx {j : Jn} {m : Mv} (h : MOk j m) : Z2q j m = 0 := by
 unfold Z2q;have h1 := h.k1; have h2 := h.k3; have h3 := h.b0; have h4 := h.b1; have h5 := h.i0; have h6 := h.i1; have h7 := h.i2; have h8 := h.l0; have h9 := h.lh; have h10 := h.h5;rw [if_neg (by omega), if_neg (by omega), if_neg (by omega), if_neg (by omega), if_neg (by omega), if_neg (by omega)]
theorem Z2b (m : Mv) (ms : List Mv) : Z6 (m :: ms) = if m.kind = 1 then m.bin :: Z6 ms else Z6 ms := by
 unfold Z6;rw [List.filter_cons]
 by_cases h : m.kind = 1 <;> simp [h]
theorem Zbo {j : Jn} : ∀ {ms : List Mv} {k : Nat}, Z3b j ms k = 0 -> (∀ m ∈ ms, MOk j m) /\ (k <= 4 -> k + (Z6 ms).length <= 4)
 | [], k, _ => ⟨fun m hm => by simp at hm, fun hk => by simpa [Z6] using hk⟩
 | m :: ms, k, h => by
  unfold Z3b at h
  by_cases h1 : Z2q j m = 0
  ·rw [if_neg (by rw [h1]; simp)] at h;rw [Z2b];have mem : (∀ x ∈ ms, MOk j x) -> ∀ x ∈ m :: ms, MOk j x := fun g x hx => by
    rcases List.mem_cons.1 hx with rfl | hx
    ·exact Zmw h1
    ·exact g x hx
   by_cases hk : m.kind = 1
   ·simp only [if_pos hk] at h ⊢
    split at h
    ·simp at h
    ·rename_i h2
     obtain ⟨g1, g2⟩ := Zbo h;exact ⟨mem g1, fun hk => by have := g2 (by omega); simp; omega⟩
   ·simp only [if_neg hk] at h ⊢
    split at h
    ·simp at h
    ·obtain ⟨g1, g2⟩ := Zbo h;exact ⟨mem g1, g2⟩
  ·rw [if_pos h1] at h; exact absurd h h1
theorem Zbp {j : Jn} : ∀ {ms : List Mv} {k : Nat}, (∀ m ∈ ms, MOk j m) -> k + (Z6 ms).length <= 4 -> Z3b j ms k = 0
 | [], k, _, _ => rfl
 | m :: ms, k, h1, h2 => by
  unfold Z3b;have e := Zmx (h1 m (by simp));rw [if_neg (by rw [e]; simp)];rw [Z2b] at h2
  by_cases hk : m.kind = 1
  ·rw [if_pos hk] at h2;simp only [List.length_cons] at h2;rw [if_pos hk, if_neg (by omega)];exact Zbp (fun x hx => h1 x (by simp [hx])) (by omega)
  ·rw [if_neg hk] at h2;rw [if_neg hk, if_neg (by omega)];exact Zbp (fun x hx => h1 x (by simp [hx])) h2
theorem Z2r {j : Jn} (h : checkJ j = 0) : JOk j := by
 unfold checkJ at h
 split at h
 ·simp at h
 split at h
 ·simp at h
 split at h
 ·simp at h
 obtain ⟨g1, g2⟩ := Zbo h;exact ⟨by omega, by omega, by omega, by omega, by omega, g1, by have := g2 (by omega); omega⟩
theorem Z81 {j : Jn} (h : JOk j) : checkJ j = 0 := by
 unfold checkJ;have h1 := h.i1; have h2 := h.i4; have h3 := h.f1; have h4 := h.f2; have h5 := h.m10;rw [if_neg (by omega), if_neg (by omega), if_neg (by omega)];exact Zbp h.mv (by have := h.b4; omega)
structure LOk (l : List Int) : Prop where
 len : l.length = 4
 lo : ∀ i, 0 <= l.getD i 0
 hi : ∀ i, l.getD i 0 <= 5
theorem Z1r (l : List Int) (i j : Nat) (x : Int) (hi : i < l.length) : (l.set i x).getD j 0 = if i = j then x else l.getD j 0 := by
 simp only [List.getD_eq_getElem?_getD, List.getElem?_set]
 by_cases h : i = j
 ·subst h; simp [hi]
 ·simp [h]
theorem LOk.set {l : List Int} (h : LOk l) {i : Nat} {x : Int} (hi : i < 4) (h0 : 0 <= x) (h5 : x <= 5) : LOk (l.set i x) :=
 ⟨by simp [h.len], fun j => by rw [Z1r _ _ _ _ (by rw [h.len]; exact hi)]; split <;> first | exact h0 | exact h.lo j,
  fun j => by rw [Z1r _ _ _ _ (by rw [h.len]; exact hi)]; split <;> first | exact h5 | exact h.hi j⟩
section
variable {ν ν' : Type} {j : Jn} {tk : Tk ν}
theorem Zfn {fifo : Bool} {bin inst : Int} : ∀ (bs : List Int) (i : Nat) (s : Ste ν) (a : Int), i + bs.length <= 4 -> 0 <= a -> LOk s.1 -> ∀ s' ∈ Zl fifo tk bin inst bs i s a, LOk s'.1
 | [], i, s, a, _, _, h, s', hs => by
  unfold Zl at hs
  split at hs
  ·simp at hs; subst hs; exact h
  ·simp at hs
 | b :: bs, i, s, a, hi, ha, h, s', hs => by
  unfold Zl at hs;simp only [List.length_cons] at hi
  split at hs
  ·simp at hs; subst hs; exact h
  ·split at hs
   ·simp only [List.mem_flatMap] at hs;obtain ⟨n, hn, hs⟩ := hs;rw [Z7z] at hn;have h1 := h.lo i;have h2 := h.hi i;have hn0 : 0 <= n := by revert hn; split <;> omega
    refine Zfn bs (i + 1) _ _ (by omega) (by omega) ?_ s' hs;unfold Z3n
    split
    ·exact h
    ·exact h.set (by omega) (by omega) (by omega)
   ·exact Zfn bs (i + 1) s a (by omega) ha h s' hs
theorem Zkj {bins : List Int} (hb : bins.length <= 4) {m : Mv} (hm : MOk j m) {b : Nat} (hb4 : m.kind = 1 -> b < 4) {s : Ste ν} (h : LOk s.1) : ∀ s' ∈ Z22 j tk bins m b s, LOk s'.1 := by
 intro s' hs;have h8 := hm.l0; have h9 := hm.lh; have h10 := hm.h5;unfold Z22 at hs
 split at hs
 ·rename_i hk
  simp only [List.mem_map] at hs;obtain ⟨n, hn, rfl⟩ := hs;rw [Z2d] at hn;exact h.set (hb4 hk) (by omega) (by omega)
 ·split at hs
  ·simp only [List.mem_flatMap] at hs;obtain ⟨i, -, n, hn, hs⟩ := hs;rw [Z2d] at hn;exact Zfn bins 0 s n (by omega) (by omega) h s' hs
  ·split at hs
   ·simp at hs; subst hs; exact h
   ·simp at hs
theorem Zag (tk' : Tk ν') (f : ν -> ν') (hf : ∀ x i b n, f (tk x i b n) = tk' (f x) i b n) {fifo : Bool} {bin inst : Int} : ∀ (bs : List Int) (i : Nat) (s : Ste ν) (a : Int),
  (Zl fifo tk bin inst bs i s a).map (fun s => (s.1, f s.2)) = Zl fifo tk' bin inst bs i (s.1, f s.2) a
 | [], i, s, a => by unfold Zl; split <;> rfl
 | b :: bs, i, s, a => by
  unfold Zl
  split
  ·rfl
  ·split
   ·rw [List.map_flatMap];refine congrArg (fun g => List.flatMap g _) (funext fun n => ?_);rw [Zag tk' f hf bs (i + 1)];unfold Z3n
    split
    ·rfl
    ·simp only [hf]
   ·exact Zag tk' f hf bs (i + 1) s a
theorem Zq0 (tk' : Tk ν') (f : ν -> ν') (hf : ∀ x i b n, f (tk x i b n) = tk' (f x) i b n) (bins : List Int) (m : Mv) (b : Nat) (s : Ste ν) :
  (Z22 j tk bins m b s).map (fun s => (s.1, f s.2)) = Z22 j tk' bins m b (s.1, f s.2) := by
 unfold Z22
 split
 ·rw [List.map_map]; rfl
 ·split
  ·simp only [List.map_flatMap, Zag tk' f hf]
  ·split <;> rfl
theorem Zd9 (tk' : Tk ν') (f : ν -> ν') (hf : ∀ x i b n, f (tk x i b n) = tk' (f x) i b n) (bins : List Int) : ∀ (ms : List Mv) (b : Nat) (now : List (Ste ν)),
  (Z2u j tk bins ms b now).map (fun s => (s.1, f s.2)) = Z2u j tk' bins ms b (now.map fun s => (s.1, f s.2))
 | [], _, _ => rfl
 | m :: ms, b, now => by
  unfold Z2u;rw [Zd9 tk' f hf bins ms]
  congr 1
  rw [List.map_flatMap, List.flatMap_map];exact congrArg (fun g => List.flatMap g now) (funext fun s => Zq0 tk' f hf bins m b s)
theorem Zq1 (tk' : Tk ν') (f : ν -> ν') (hf : ∀ x i b n, f (tk x i b n) = tk' (f x) i b n) (z : ν) : Zd j tk' (f z) = (Zd j tk z).map fun s => (s.1, f s.2) := by
 unfold Zd; rw [Zd9 tk' f hf]; rfl
def Zt (tk : Tk ν) (z : ν) (l : List (Int × Nat × Int)) : ν := l.foldl (fun x p => tk x p.1 p.2.1 p.2.2) z
theorem Z1n (tk : Tk ν) (z : ν) : Zd j tk z = (Zd j Z1f []).map fun s => (s.1, Zt tk z s.2) :=
 Zq1 (tk := Z1f) tk (Zt tk z) (fun x i b n => by simp [Zt, Z1f]) []
end
end Go.Batch

namespace Go.Batch
def Z32 (of : List Int) : List Int -> Nat -> Int
 | [], _ => 0
 | _ :: bs, i => of.getD i 0 + Z32 of bs (i + 1)
def Z1o (inst : Int) (of : List Int) : List Int -> Nat -> List (Int × Nat × Int)
 | [], _ => []
 | _ :: bs, i => if of.getD i 0 = 0 then Z1o inst of bs (i + 1) else (inst, i, of.getD i 0) :: Z1o inst of bs (i + 1)
theorem Z8o {of : List Int} (h : ∀ i, 0 <= of.getD i 0) : ∀ (bs : List Int) (i : Nat), 0 <= Z32 of bs i
 | [], _ => Int.le_refl _
 | _ :: bs, i => by have := Z8o h bs (i + 1); have := h i; simp only [Z32]; omega
theorem Zah {of : List Int} (h : ∀ i, 0 <= of.getD i 0) : ∀ (bs : List Int) (i : Nat), Z32 of bs i = 0 -> ∀ k, i <= k -> k < i + bs.length -> of.getD k 0 = 0
 | [], i, _, k, h1, h2 => by simp at h2; omega
 | b :: bs, i, h0, k, h1, h2 => by
  have g1 := Z8o h bs (i + 1);have g2 := h i;simp only [Z32] at h0
  by_cases e : k = i
  ·subst e; omega
  ·exact Zah h bs (i + 1) (by omega) k (by omega) (by simp at h2; omega)
theorem Z9u {inst : Int} {of : List Int} : ∀ (bs : List Int) (i : Nat), (∀ k, i <= k -> k < i + bs.length -> of.getD k 0 = 0) -> Z1o inst of bs i = []
 | [], _, _ => rfl
 | b :: bs, i, h => by
  simp only [Z1o];rw [if_pos (h i (Nat.le_refl _) (by simp))];exact Z9u bs (i + 1) fun k h1 h2 => h k (by omega) (by simp; omega)
structure Took (fifo : Bool) (bin : Int) (bs : List Int) (i : Nat) (l of : List Int) : Prop where
 nn : ∀ k, 0 <= of.getD k 0
 le : ∀ k, of.getD k 0 <= l.getD k 0
 oth : ∀ (k : Nat) (b : Int), bs[k]? = some b -> b ≠ bin -> of.getD (i + k) 0 = 0
 fst : fifo = true -> ∀ (k k' : Nat) (b : Int), k < k' -> bs[k]? = some b -> b = bin -> 0 < of.getD (i + k') 0 -> k' < bs.length -> of.getD (i + k) 0 = l.getD (i + k) 0
theorem Took.tail {fifo : Bool} {bin b : Int} {bs : List Int} {i : Nat} {l l' of : List Int} (h : Took fifo bin (b :: bs) i l of) (hl : ∀ k, i + 1 <= k -> l'.getD k 0 = l.getD k 0) (hl' : ∀ k, of.getD k 0 <= l'.getD k 0 ∨ k = i) {of' : List Int}
  (ho : ∀ k, i + 1 <= k -> of'.getD k 0 = of.getD k 0) (ho' : ∀ k, 0 <= of'.getD k 0 /\ of'.getD k 0 <= l'.getD k 0) : Took fifo bin bs (i + 1) l' of' :=
 ⟨fun k => (ho' k).1, fun k => (ho' k).2, fun k b' hk hb => by
  rw [ho _ (by omega)]
  have := h.oth (k + 1) b' (by simpa using hk) hb
  rw [show i + (k + 1) = i + 1 + k by omega] at this; exact this, fun hf k k' b' hkk hk hb h0 hlt => by
  rw [ho _ (by omega)] at h0 ⊢
  rw [hl _ (by omega)]
  have := h.fst hf (k + 1) (k' + 1) b' (by omega) (by simpa using hk) hb (by rw [show i + (k' + 1) = i + 1 + k' by omega]; exact h0) (by simp; omega)
  rw [show i + (k + 1) = i + 1 + k by omega] at this; exact this⟩
theorem Z8p {fifo : Bool} {bin inst : Int} : ∀ (bs : List Int) (i : Nat) (l of l2 : List Int) (p : List (Int × Nat × Int)) (a : Int), Took fifo bin bs i l of -> i + bs.length <= l.length -> Z32 of bs i = a ->
  l2.length = l.length -> (∀ k, l2.getD k 0 = if i <= k /\ k < i + bs.length then l.getD k 0 - of.getD k 0 else l.getD k 0) -> (l2, p ++ Z1o inst of bs i) ∈ Zl fifo Z1f bin inst bs i (l, p) a
 | bs, i, l, of, l2, p, a, ht, hi, hs, hl2, h2 => by
  have ext : (∀ k, l2.getD k 0 = l.getD k 0) -> l2 = l := fun h => by
   refine List.ext_getElem hl2 fun k g1 g2 => ?_;have := h k;simpa [List.getD_eq_getElem?_getD, List.getElem?_eq_getElem g1, List.getElem?_eq_getElem g2] using this
  have zero : a = 0 -> (l2, p ++ Z1o inst of bs i) = (l, p) := fun ha => by
   have hz := Zah ht.nn bs i (by omega);rw [Z9u bs i hz, List.append_nil, ext fun k => by
    rw [h2]; split
    ·rename_i hk; rw [hz k hk.1 hk.2]; omega
    ·rfl]
  cases bs with
  | nil =>
   unfold Zl;have ha : a = 0 := by simpa [Z32] using hs.symm
   rw [if_pos ha, zero ha]; simp
  | cons b bs =>
   unfold Zl
   by_cases ha : a = 0
   ·rw [if_pos ha, zero ha]; simp
   ·rw [if_neg ha];simp only [Z32] at hs;simp only [List.length_cons] at hi h2;have hsn := Z8o ht.nn bs (i + 1);have hon := ht.nn i;have hol := ht.le i
    by_cases hc : b = bin /\ l.getD i 0 ≠ 0
    ·rw [if_pos hc];simp only [List.mem_flatMap];refine ⟨of.getD i 0, ?_, ?_⟩
     ·rw [Z7z];have hle : of.getD i 0 <= min a (l.getD i 0) := by omega
      refine ⟨?_, hle⟩
      split
      ·rename_i hf
       apply Int.not_lt.1; intro hlt
       have hpos : 0 < Z32 of bs (i + 1) := by omega
       have hex : ∃ k, k < bs.length /\ 0 < of.getD (i + 1 + k) 0 := by
        have : ∀ (bs : List Int) (j : Nat), 0 < Z32 of bs j -> ∃ k, k < bs.length /\ 0 < of.getD (j + k) 0 := fun bs => by
         induction bs with
         | nil => intro j hj; simp [Z32] at hj
         | cons c cs ih =>
          intro j hj;simp only [Z32] at hj
          by_cases h0 : 0 < of.getD j 0
          ·exact ⟨0, by simp, h0⟩
          ·have := ht.nn j;obtain ⟨k, g1, g2⟩ := ih (j + 1) (by omega);exact ⟨k + 1, by simp; omega, by rw [show j + (k + 1) = j + 1 + k by omega]; exact g2⟩
        exact this bs (i + 1) hpos
       obtain ⟨k, g1, g2⟩ := hex;have := ht.fst hf 0 (k + 1) b (by omega) rfl hc.1 (by rw [show i + (k + 1) = i + 1 + k by omega]; exact g2) (by simp; omega);simp only [Nat.add_zero] at this;omega
      ·omega
     ·have hlen : i < l.length := by omega
      have key : ∀ (l1 : List Int) (p1 : List (Int × Nat × Int)), l1.length = l.length -> (∀ k, l1.getD k 0 = if k = i then l.getD i 0 - of.getD i 0 else l.getD k 0) -> p1 ++ Z1o inst of bs (i + 1) = p ++ Z1o inst of (b :: bs) i ->
        Z3n Z1f inst (l, p) i (of.getD i 0) = (l1, p1) -> (l2, p ++ Z1o inst of (b :: bs) i) ∈ Zl fifo Z1f bin inst bs (i + 1) (Z3n Z1f inst (l, p) i (of.getD i 0)) (a - of.getD i 0) := fun l1 p1 e1 e2 e3 e4 => by
       rw [e4, <- e3]
       let of' : List Int := of.set i 0
       have hof' : ∀ k, of'.getD k 0 = if k = i then 0 else of.getD k 0 := fun k => by
        simp only [of', List.getD_eq_getElem?_getD, List.getElem?_set]
        by_cases e : i = k
        ·subst e; simp; split <;> rfl
        ·simp [e, Ne.symm e]
       have hsame : ∀ (bs : List Int) (j : Nat), i < j -> Z32 of' bs j = Z32 of bs j /\ Z1o inst of' bs j = Z1o inst of bs j := fun bs => by
        induction bs with
        | nil => intro j _; exact ⟨rfl, rfl⟩
        | cons c cs ih =>
         intro j hj;obtain ⟨g1, g2⟩ := ih (j + 1) (by omega);have e : of'.getD j 0 = of.getD j 0 := by rw [hof', if_neg (by omega)]
         simp only [Z32, Z1o, e, g1, g2, and_self]
       obtain ⟨s1, s2⟩ := hsame bs (i + 1) (by omega);rw [<- s2];refine Z8p bs (i + 1) l1 of' l2 p1 (a - of.getD i 0) ?_ (by omega) (by rw [s1]; omega) (by omega) (fun k => ?_)
       ·refine ht.tail (fun k hk => by rw [e2, if_neg (by omega)]) (fun k => ?_) (fun k hk => by rw [hof', if_neg (by omega)]) (fun k => ?_)
        ·by_cases e : k = i
         ·exact .inr e
         ·left; rw [e2, if_neg e]; exact ht.le k
        ·rw [hof', e2]
         by_cases e : k = i
         ·rw [if_pos e, if_pos e]; omega
         ·rw [if_neg e, if_neg e]; exact ⟨ht.nn k, ht.le k⟩
       ·rw [h2, e2, hof']
        by_cases e : k = i
        ·subst e;rw [if_pos ⟨Nat.le_refl _, by omega⟩, if_neg (by omega), if_pos rfl]
        ·rw [if_neg e, if_neg e]
         by_cases g : i <= k /\ k < i + (bs.length + 1)
         ·rw [if_pos g, if_pos (by omega)]
         ·rw [if_neg g, if_neg (by omega)]
      by_cases h0 : of.getD i 0 = 0
      ·exact key l p rfl (fun k => by split <;> simp_all) (by simp only [Z1o]; rw [if_pos h0]) (by unfold Z3n; rw [if_pos h0])
      ·refine key (l.set i (l.getD i 0 - of.getD i 0)) (p ++ [(inst, i, of.getD i 0)]) (by simp) (fun k => by
        rw [Z1r _ _ _ _ hlen]
        by_cases e : i = k
        ·subst e; simp
        ·rw [if_neg e, if_neg (Ne.symm e)]) (by simp only [Z1o]; rw [if_neg h0]; simp) (by unfold Z3n; rw [if_neg h0]; rfl)
    ·rw [if_neg hc];have h0 : of.getD i 0 = 0 := by
      by_cases hb : b = bin
      ·have : l.getD i 0 = 0 := Decidable.byContradiction fun h => hc ⟨hb, h⟩;omega
      ·have := ht.oth 0 b rfl hb; simpa using this
     have e3 : Z1o inst of (b :: bs) i = Z1o inst of bs (i + 1) := by simp only [Z1o]; rw [if_pos h0]
     rw [e3];refine Z8p bs (i + 1) l of l2 p a (ht.tail (fun _ _ => rfl) (fun k => .inl (ht.le k)) (fun _ _ => rfl) (fun k => ⟨ht.nn k, ht.le k⟩)) (by omega) (by omega) hl2 (fun k => ?_);rw [h2]
     by_cases e : k = i
     ·subst e;rw [if_pos ⟨Nat.le_refl _, by omega⟩, if_neg (by omega), h0]; omega
     ·by_cases g : i <= k /\ k < i + (bs.length + 1)
      ·rw [if_pos g, if_pos (by omega)]
      ·rw [if_neg g, if_neg (by omega)]
 termination_by bs => bs.length
section
variable {ν : Type} {j : Jn} {tk : Tk ν}
theorem Z6u {bins : List Int} : ∀ (ms ms' : List Mv) (b : Nat) (now : List (Ste ν)), Z2u j tk bins (ms ++ ms') b now = Z2u j tk bins ms' (b + (Z6 ms).length) (Z2u j tk bins ms b now)
 | [], _, _, _ => rfl
 | m :: ms, ms', b, now => by
  simp only [List.cons_append, Z2u];rw [Z6u ms ms', Z2b]
  congr 1
  split <;> simp <;> omega
theorem Z2t (ms ms' : List Mv) : Z6 (ms ++ ms') = Z6 ms ++ Z6 ms' := by simp [Z6]
theorem Zai {fifo : Bool} {bin inst : Int} : ∀ (bs ext : List Int) (i : Nat) (s : Ste ν) (a : Int), (∀ k, i + bs.length <= k -> s.1.getD k 0 = 0) -> i + bs.length <= s.1.length -> Zl fifo tk bin inst (bs ++ ext) i s a = Zl fifo tk bin inst bs i s a
 | [], [], i, s, a, _, _ => rfl
 | [], e :: ext, i, s, a, h, hl => by
  simp only [List.nil_append];have key : ∀ (ext : List Int) (i : Nat), (∀ k, i <= k -> s.1.getD k 0 = 0) -> Zl fifo tk bin inst ext i s a = Zl fifo tk bin inst [] i s a := fun ext => by
   induction ext with
   | nil => intro i _; rfl
   | cons x xs ihx =>
    intro i hi;unfold Zl
    split
    ·rfl
    ·rw [if_neg (by rw [hi i (Nat.le_refl _)]; simp), ihx (i + 1) (fun k hk => hi k (by omega))]
     rename_i h0
     unfold Zl; rw [if_neg h0]
  exact key (e :: ext) i (fun k hk => h k (by simpa using hk))
 | b :: bs, ext, i, s, a, h, hl => by
  simp only [List.cons_append, Zl];simp only [List.length_cons] at h hl
  split
  ·rfl
  ·split
   ·refine congrArg (fun g => List.flatMap g _) (funext fun n => ?_);refine Zai bs ext (i + 1) _ _ (fun k hk => ?_) ?_
    ·unfold Z3n
     split
     ·exact h k (by omega)
     ·show (s.1.set i _).getD k 0 = 0;rw [Z1r _ _ _ _ (by omega), if_neg (by omega)]; exact h k (by omega)
    ·unfold Z3n
     split
     ·omega
     ·simp; omega
   ·exact Zai bs ext (i + 1) s a (fun k hk => h k (by omega)) (by omega)
end
end Go.Batch

namespace Go.Batch
theorem Zcj (l : List Int) : ∀ (x : Int), l.foldl min x <= x /\ (∀ y ∈ l, l.foldl min x <= y) /\ (l.foldl min x = x ∨ l.foldl min x ∈ l) := by
 induction l with
 | nil => intro x; simp
 | cons a l ih =>
  intro x;obtain ⟨h1, h2, h3⟩ := ih (min x a);simp only [List.foldl_cons];refine ⟨by omega, fun y hy => ?_, ?_⟩
  ·rcases List.mem_cons.1 hy with rfl | hy
   ·omega
   ·exact h2 y hy
  ·rcases h3 with h3 | h3
   ·by_cases h : x <= a
    ·left; rw [h3]; omega
    ·right; rw [h3]; have : min x a = a := by omega
     rw [this]; simp
   ·right; simp [h3]
theorem Zck (l : List Int) : ∀ (x : Int), x <= l.foldl max x /\ (∀ y ∈ l, y <= l.foldl max x) /\ (l.foldl max x = x ∨ l.foldl max x ∈ l) := by
 induction l with
 | nil => intro x; simp
 | cons a l ih =>
  intro x;obtain ⟨h1, h2, h3⟩ := ih (max x a);simp only [List.foldl_cons];refine ⟨by omega, fun y hy => ?_, ?_⟩
  ·rcases List.mem_cons.1 hy with rfl | hy
   ·omega
   ·exact h2 y hy
  ·rcases h3 with h3 | h3
   ·by_cases h : a <= x
    ·left; rw [h3]; omega
    ·right; rw [h3]; have : max x a = a := by omega
     rw [this]; simp
   ·right; simp [h3]
theorem Z4b {l : List Int} {y : Int} (h : y ∈ l) : Z6a l <= y := by
 cases l with
 | nil => simp at h
 | cons a l =>
  obtain ⟨h1, h2, -⟩ := Zcj l a;rcases List.mem_cons.1 h with rfl | h
  ·exact h1
  ·exact h2 y h
theorem Z50 {l : List Int} (h : l ≠ []) : Z6a l ∈ l := by
 cases l with
 | nil => exact absurd rfl h
 | cons a l =>
  obtain ⟨-, -, h3⟩ := Zcj l a;rcases h3 with h3 | h3
  ·show l.foldl min a ∈ a :: l; rw [h3]; simp
  ·exact List.mem_cons.2 (.inr h3)
theorem Z4k {l : List Int} {y : Int} (h : y ∈ l) : y <= Z80 l := by
 cases l with
 | nil => simp at h
 | cons a l =>
  obtain ⟨h1, h2, -⟩ := Zck l a;rcases List.mem_cons.1 h with rfl | h
  ·exact h1
  ·exact h2 y h
theorem Z6v {l : List Int} (h : l ≠ []) : Z80 l ∈ l := by
 cases l with
 | nil => exact absurd rfl h
 | cons a l =>
  obtain ⟨-, -, h3⟩ := Zck l a;rcases h3 with h3 | h3
  ·show l.foldl max a ∈ a :: l; rw [h3]; simp
  ·exact List.mem_cons.2 (.inr h3)
theorem Ziv {l l' : List Int} (h : ∀ x, x ∈ l ↔ x ∈ l') : Z6a l = Z6a l' := by
 by_cases e : l = []
 ·have : l' = [] := by
   cases l' with
   | nil => rfl
   | cons a l' => have := (h a).2 (by simp); rw [e] at this; simp at this
  rw [e, this]
 ·have e' : l' ≠ [] := fun e' => by have := (h _).1 (Z50 e); rw [e'] at this; simp at this
  exact Int.le_antisymm (Z4b ((h _).2 (Z50 e'))) (Z4b ((h _).1 (Z50 e)))
theorem Zkk {l l' : List Int} (h : ∀ x, x ∈ l ↔ x ∈ l') : Z80 l = Z80 l' := by
 by_cases e : l = []
 ·have : l' = [] := by
   cases l' with
   | nil => rfl
   | cons a l' => have := (h a).2 (by simp); rw [e] at this; simp at this
  rw [e, this]
 ·have e' : l' ≠ [] := fun e' => by have := (h _).1 (Z50 e); rw [e'] at this; simp at this
  exact Int.le_antisymm (Z4k ((h _).1 (Z6v e))) (Z4k ((h _).2 (Z6v e')))
theorem Z6l {l l' : List Int} (h : ∀ x, x ∈ l ↔ x ∈ l') : Zs l = Zs l' := by
 unfold Zs; rw [Ziv h, Zkk h]
structure TkB (tk : Tk Int) : Prop where
 out : ∀ (x i : Int) (b : Nat) (n : Int), 0 <= x -> 0 <= i -> i < 4 -> b < 4 -> 1 <= n -> n <= 5 -> 0 <= tk x i b n /\ tk x i b n <= x + 16
theorem Zq2 (a b : Nat) : a ||| b <= a + b := by
 induction a using Nat.strongRecOn generalizing b with
 | _ a ih =>
  by_cases h0 : a = 0
  ·subst h0; simp
  ·have h1 : (a ||| b) = 2 * (a / 2 ||| b / 2) + ((a % 2) ||| (b % 2)) := by
    have e1 : (a ||| b) / 2 = a / 2 ||| b / 2 := Nat.or_div_two
    have e2 : (a ||| b) % 2 = (a % 2) ||| (b % 2) := by
     have := Nat.or_mod_two_pow (a := a) (b := b) (n := 1); simpa using this
    omega
   have h2 := ih (a / 2) (by omega) (b / 2);have h3 : (a % 2) ||| (b % 2) <= a % 2 + b % 2 := by
    rcases Nat.mod_two_eq_zero_or_one a with e | e <;> rcases Nat.mod_two_eq_zero_or_one b with e' | e' <;> rw [e, e'] <;> decide
   omega
theorem Zoj {x : Int} {n : Nat} (h0 : 0 <= x) (hn : n < 4) : 0 <= Z2h x n /\ Z2h x n <= x + 16 := by
 unfold Z2h;have h1 := Zq2 x.toNat (1 <<< n);have h2 : (1 <<< n : Nat) <= 8 := by
  match n, hn with
  | 0, _ => decide
  | 1, _ => decide
  | 2, _ => decide
  | 3, _ => decide
 omega
theorem Zfo : TkB Zn := ⟨fun x i b n h _ _ _ _ _ => ⟨Int.le_refl _, by show (0 : Int) <= _; omega⟩⟩
theorem Zok (i0 : Int) (b0 : Nat) : TkB (Z2v i0 b0) := ⟨fun x i b n h _ _ _ h1 h5 => by unfold Z2v; split <;> omega⟩
theorem Ziw (g i0 : Int) : TkB (Z3a g i0) := ⟨fun x i b n h _ _ _ h1 h5 => by unfold Z3a; split <;> omega⟩
theorem Zol (i0 : Int) : TkB (Z29 i0) := ⟨fun x i b n h _ _ hb h1 h5 => by
 unfold Z29; split
 ·exact Zoj h hb
 ·omega⟩
theorem Zom (b0 : Nat) : TkB (Z9r b0) := ⟨fun x i b n h hi hi4 hb h1 h5 => by
 unfold Z9r; split
 ·exact Zoj h (by omega)
 ·omega⟩
section
variable {j : Jn} {tk : Tk Int}
theorem Zfp (ht : TkB tk) {fifo : Bool} {bin inst : Int} (hi0 : 0 <= inst) (hi4 : inst < 4) : ∀ (bs : List Int) (i : Nat) (s : Ste Int) (a K : Int), i + bs.length <= 4 -> 0 <= a -> a <= 5 -> LOk s.1 -> 0 <= s.2 -> s.2 <= K -> ∀ s' ∈ Zl fifo tk bin inst bs i s a, 0 <= s'.2 /\ s'.2 <= K + 16 * bs.length
 | [], i, s, a, K, _, _, _, _, h0, h1, s', hs => by
  unfold Zl at hs
  split at hs
  ·simp at hs; subst hs; exact ⟨h0, by simpa using h1⟩
  ·simp at hs
 | b :: bs, i, s, a, K, hi, ha, ha5, h, h0, h1, s', hs => by
  unfold Zl at hs;simp only [List.length_cons] at hi ⊢
  split at hs
  ·simp at hs; subst hs; exact ⟨h0, by omega⟩
  ·split at hs
   ·simp only [List.mem_flatMap] at hs;obtain ⟨n, hn, hs⟩ := hs;rw [Z7z] at hn;have g1 := h.lo i;have g2 := h.hi i;have hn0 : 0 <= n := by revert hn; split <;> omega
    have := Zfp ht hi0 hi4 bs (i + 1) (Z3n tk inst s i n) (a - n) (K + 16) (by omega) (by omega) (by omega) ?_ ?_ ?_ s' hs
    ·exact ⟨this.1, by have := this.2; omega⟩
    all_goals
     unfold Z3n
     split
     ·first | exact h | exact h0 | omega
     ·first
       | exact h.set (by omega) (by omega) (by omega)
       | exact (ht.out _ _ _ _ h0 hi0 hi4 (by omega) (by omega) (by omega)).1
       | (have := (ht.out s.2 inst i n h0 hi0 hi4 (by omega) (by omega) (by omega)).2; show tk s.2 inst i n <= _; omega)
   ·have := Zfp ht hi0 hi4 bs (i + 1) s a K (by omega) ha ha5 h h0 h1 s' hs;exact ⟨this.1, by have := this.2; omega⟩
theorem Zda {m : Mv} (hj : j.ins <= 4) (hm : MOk j m) (hk : m.kind = 2) {i : Int} (h : i ∈ Z9q j.ins m) : 0 <= i /\ i < j.ins := by
 unfold Z9q at h
 split at h
 ·rw [Z2d] at h; omega
 ·simp at h; subst h; exact ⟨by omega, hm.i1 hk⟩
theorem Zsf (ht : TkB tk) (hj : j.ins <= 4) {bins : List Int} (hb : bins.length <= 4) {m : Mv} (hm : MOk j m) {b : Nat} {s : Ste Int} {K : Int} (h : LOk s.1) (h0 : 0 <= s.2) (h1 : s.2 <= K) : ∀ s' ∈ Z22 j tk bins m b s, 0 <= s'.2 /\ s'.2 <= K + 64 := by
 intro s' hs;have h8 := hm.l0; have h9 := hm.lh; have h10 := hm.h5;unfold Z22 at hs
 split at hs
 ·simp only [List.mem_map] at hs;obtain ⟨n, hn, rfl⟩ := hs;exact ⟨h0, by show s.2 <= _; omega⟩
 ·split at hs
  ·rename_i hk
   simp only [List.mem_flatMap] at hs;obtain ⟨i, hi, n, hn, hs⟩ := hs;rw [Z2d] at hn;obtain ⟨i1, i2⟩ := Zda hj hm hk hi;have := Zfp ht i1 (by omega) bins 0 s n K (by omega) (by omega) (by omega) h h0 h1 s' hs;exact ⟨this.1, by have := this.2; omega⟩
  ·split at hs
   ·simp at hs; subst hs; exact ⟨h0, by omega⟩
   ·simp at hs
structure SOk (k : Nat) (s : Ste Int) : Prop where
 l : LOk s.1
 n0 : 0 <= s.2
 nk : s.2 <= 64 * k
theorem Zdb (ht : TkB tk) (hj : j.ins <= 4) {bins : List Int} (hb : bins.length <= 4) : ∀ (ms : List Mv) (b k : Nat) (now : List (Ste Int)), (∀ m ∈ ms, MOk j m) -> b + (Z6 ms).length <= 4 -> (∀ s ∈ now, SOk k s) -> ∀ s ∈ Z2u j tk bins ms b now, SOk (k + ms.length) s
 | [], b, k, now, _, _, hn, s, hs => hn s hs
 | m :: ms, b, k, now, hm, hbb, hn, s, hs => by
  unfold Z2u at hs;rw [Z2b] at hbb;have := Zdb ht hj hb ms _ (k + 1) _ (fun x hx => hm x (by simp [hx])) (by split <;> simp_all <;> omega) (fun s' hs' => by
   simp only [List.mem_flatMap] at hs'
   obtain ⟨s0, h0, h1⟩ := hs'
   have g := hn s0 h0
   have := Zsf ht hj hb (hm m (by simp)) g.l g.n0 g.nk s' h1
   exact ⟨Zkj hb (hm m (by simp)) (fun hk => by rw [if_pos hk] at hbb; simp at hbb; omega) g.l s' h1, this.1, by have := this.2; omega⟩) s hs
  rw [show k + (m :: ms).length = k + 1 + ms.length by simp; omega];exact this
theorem Zq3 : LOk [0, 0, 0, 0] := ⟨rfl, fun i => by
 match i with
 | 0 => decide
 | 1 => decide
 | 2 => decide
 | 3 => decide
 | n + 4 => exact Int.le_refl _, fun i => by
 match i with
 | 0 => decide
 | 1 => decide
 | 2 => decide
 | 3 => decide
 | n + 4 => show (0 : Int) <= 5; decide⟩
theorem Zq4 (ht : TkB tk) (hj : JOk j) : ∀ s ∈ Zd j tk 0, SOk j.moves.length s := by
 have := Zdb ht hj.i4 hj.b4 j.moves 0 0 [([0, 0, 0, 0], 0)] hj.mv (by have := hj.b4; omega) (fun s hs => by
  simp at hs; subst hs; exact ⟨Zq3, Int.le_refl _, Int.le_refl _⟩)
 rw [Nat.zero_add] at this;exact this
end
section
variable {ν : Type} {tk : Tk ν}
end
end Go.Batch

namespace Go.Batch
theorem Zix {bin : Int} : ∀ (bs ext l : List Int), (∀ k, bs.length <= k -> l.getD k 0 = 0) -> inL bin (bs ++ ext) l = inL bin bs l
 | [], ext, l, h => by
  have key : ∀ (ext l : List Int), (∀ k, l.getD k 0 = 0) -> inL bin ext l = 0 := fun ext => by
   induction ext with
   | nil => intro l _; rfl
   | cons e ext ih =>
    intro l hl;unfold inL;have h0 : l.headD 0 = 0 := by have := hl 0; cases l <;> simpa using this
    rw [ih l.tail (fun k => by have := hl (k + 1); cases l <;> simpa using this), h0]
    split <;> rfl
  exact key ext l fun k => h k (by simp)
 | b :: bs, ext, l, h => by
  simp only [List.cons_append, inL];rw [Zix bs ext l.tail fun k hk => by have := h (k + 1) (by simp; omega); cases l <;> simpa using this]
def Z59 (n : Int) (b : Nat) : List (Int × Nat × Int) -> Int
 | [] => 0
 | p :: l => (if p.1 = n /\ p.2.1 = b then p.2.2 else 0) + Z59 n b l
def Zed (n : Int) (b : Nat) : List (Int × List Int) -> Int
 | [] => 0
 | t :: l => (if t.1 = n then t.2.getD b 0 else 0) + Zed n b l
theorem Zkl (n : Int) (b : Nat) : ∀ (l l' : List (Int × Nat × Int)), Z59 n b (l ++ l') = Z59 n b l + Z59 n b l'
 | [], l' => by simp [Z59]
 | p :: l, l' => by simp only [List.cons_append, Z59, Zkl n b l l']; omega
theorem Zkm (n : Int) (b : Nat) : ∀ (l l' : List (Int × List Int)), Zed n b (l ++ l') = Zed n b l + Zed n b l'
 | [], l' => by simp [Zed]
 | p :: l, l' => by simp only [List.cons_append, Zed, Zkm n b l l']; omega
theorem Zfq {inst n : Int} {b : Nat} {of : List Int} : ∀ (bs : List Int) (i : Nat), Z59 n b (Z1o inst of bs i) = if inst = n /\ i <= b /\ b < i + bs.length then of.getD b 0 else 0
 | [], i => by simp only [Z1o, Z59, List.length_nil]; rw [if_neg (by omega)]
 | c :: bs, i => by
  have ih := Zfq (inst := inst) (n := n) (b := b) (of := of) bs (i + 1);simp only [Z1o, List.length_cons]
  by_cases hb : b = i
  ·subst hb;rw [if_neg (by omega)] at ih
   split
   ·rename_i h0; rw [ih, h0]; simp
   ·simp only [Z59, ih]
    by_cases hn : inst = n
    ·rw [if_pos ⟨hn, trivial⟩, if_pos ⟨hn, Nat.le_refl _, by omega⟩]; omega
    ·rw [if_neg (fun h => hn h.1), if_neg (fun h => hn h.1)]; rfl
  ·have e : (inst = n /\ i <= b /\ b < i + (bs.length + 1)) ↔ (inst = n /\ i + 1 <= b /\ b < i + 1 + bs.length) := by omega
   split
   ·rw [ih]; simp only [e]
   ·simp only [Z59, ih, e];rw [if_neg (fun h => hb h.2.symm)]; omega
theorem Zbq (n : Int) (b : Nat) : ∀ (l : List (Int × Nat × Int)) (z : Int), Zt (Z2v n b) z l = z + Z59 n b l
 | [], z => by simp [Zt, Z59]
 | p :: l, z => by
  have := Zbq n b l (Z2v n b z p.1 p.2.1 p.2.2);simp only [Zt, List.foldl_cons] at this ⊢;rw [this];simp only [Z2v, Z59]
  split <;> omega
theorem Zv0 {ν : Type} {tk : Tk ν} {j j' : Jn} (h1 : j.ins = j'.ins) (h2 : j.first = j'.first) : Z22 j tk = Z22 j' tk := by
 unfold Z22; rw [h1, h2]
theorem Zcl {ν : Type} {tk : Tk ν} {j j' : Jn} (h1 : j.ins = j'.ins) (h2 : j.first = j'.first) (bins : List Int) : ∀ (ms : List Mv) (b : Nat) (now : List (Ste ν)), Z2u j tk bins ms b now = Z2u j' tk bins ms b now
 | [], _, _ => rfl
 | m :: ms, b, now => by simp only [Z2u]; rw [Zv0 h1 h2, Zcl h1 h2 bins ms]
structure Gen (ins : Int) (first : List Bool) (ms : List Mv) (lies : List Int) (truth : List (Int × List Int)) : Prop where
 ok : ∀ m ∈ ms, MOk ⟨ins, first, []⟩ m
 b4 : (Z6 ms).length <= 4
 bin : ∀ b ∈ Z6 ms, 0 <= b /\ b < first.length
 l : LOk lies
 z : ∀ k, (Z6 ms).length <= k -> lies.getD k 0 = 0
 tl : truth.length = ms.length
 ti : ∀ t ∈ truth, (t.1 = -1 ∨ 0 <= t.1 /\ t.1 < ins) /\ (t.2 = [] ∨ t.2.length = 4) /\ ∀ k, 0 <= t.2.getD k 0 /\ t.2.getD k 0 <= 5
 run : ∃ path, (∀ ext, (lies, path) ∈ Z2u ⟨ins, first, []⟩ Z1f (Z6 ms ++ ext) ms 0 [([0, 0, 0, 0], [])]) /\ ∀ n b, 0 <= n -> Z59 n b path = Zed n b truth
theorem Zv1 (ins : Int) (first : List Bool) : Gen ins first [] [0, 0, 0, 0] [] :=
 ⟨fun m hm => by simp at hm, by simp [Z6], fun b hb => by simp [Z6] at hb, Zq3, fun k _ => by
  match k with
  | 0 => rfl
  | 1 => rfl
  | 2 => rfl
  | 3 => rfl
  | k + 4 => rfl, rfl, fun t h => by simp at h, [], fun ext => by simp [Z2u], fun _ _ _ => rfl⟩
section
variable {ins : Int} {first : List Bool} {ms : List Mv} {lies : List Int} {truth : List (Int × List Int)}
theorem MOk.bins {m : Mv} (h : ∀ x ∈ ms ++ [m], MOk ⟨ins, first, []⟩ x) : ∀ b ∈ Z6 (ms ++ [m]), 0 <= b /\ b < first.length := fun b hb => by
 simp only [Z6, List.mem_map, List.mem_filter] at hb;obtain ⟨x, ⟨hx, -⟩, rfl⟩ := hb;exact ⟨(h x hx).b0, (h x hx).b1⟩
theorem Gen.step (h : Gen ins first ms lies truth) {m : Mv} (hm : MOk ⟨ins, first, []⟩ m) (hb : m.kind = 1 -> (Z6 ms).length < 4) {lies' : List Int} (hl : LOk lies') (hz : ∀ k, (Z6 (ms ++ [m])).length <= k -> lies'.getD k 0 = 0) {t : Int × List Int} {q : List (Int × Nat × Int)} (ht : (t.1 = -1 ∨ 0 <= t.1 /\ t.1 < ins) /\ (t.2 = [] ∨ t.2.length = 4) /\ ∀ k, 0 <= t.2.getD k 0 /\ t.2.getD k 0 <= 5)
  (hq : ∀ n b, 0 <= n -> Z59 n b q = Zed n b [t]) (hs : ∀ path ext, (lies', path ++ q) ∈ Z22 ⟨ins, first, []⟩ Z1f (Z6 (ms ++ [m]) ++ ext) m (Z6 ms).length (lies, path)) : Gen ins first (ms ++ [m]) lies' (truth ++ [t]) := by
 have hok : ∀ x ∈ ms ++ [m], MOk ⟨ins, first, []⟩ x := fun x hx => by
  rcases List.mem_append.1 hx with hx | hx
  ·exact h.ok x hx
  ·simp at hx; subst hx; exact hm
 obtain ⟨path, p1, p2⟩ := h.run;refine ⟨hok, ?_, MOk.bins (ins := ins) hok, hl, hz, by simp [h.tl], fun y hy => (by
  rcases List.mem_append.1 hy with hy | hy
  ·exact h.ti y hy
  ·simp at hy; subst hy; exact ht), path ++ q, fun ext => ?_, fun n b hn => by rw [Zkl, Zkm, p2 n b hn, hq n b hn]⟩
 ·rw [Z2t, List.length_append, Z2b];have := h.b4;have e0 : (Z6 []).length = 0 := rfl
  split
  ·rename_i hk; have := hb hk; rw [List.length_cons, e0]; omega
  ·rw [e0]; exact this
 ·rw [Z6u, Nat.zero_add];simp only [Z2u];rw [List.mem_flatMap];refine ⟨(lies, path), ?_, hs path ext⟩;have := p1 (Z6 [m] ++ ext)
  rwa [<- List.append_assoc, <- Z2t] at this
theorem Gen.in_ (h : Gen ins first ms lies truth) {bin n lo hi : Int} (hm : MOk ⟨ins, first, []⟩ ⟨1, bin, 0, lo, hi⟩) (hb : (Z6 ms).length < 4) (h1 : lo <= n) (h2 : n <= hi) : Gen ins first (ms ++ [⟨1, bin, 0, lo, hi⟩]) (lies.set (Z6 ms).length n) (truth ++ [(-1, [])]) := by
 have h8 := hm.l0; have h10 := hm.h5;simp only at h8 h10;refine h.step hm (fun _ => hb) (h.l.set hb (by omega) (by omega)) (fun k hk => ?_) (q := []) ⟨.inl rfl, .inl rfl, fun k => by simp⟩ (fun n b hn => ?_) (fun path ext => ?_)
 ·rw [Z2t, List.length_append] at hk;simp [Z6] at hk;rw [Z1r _ _ _ _ (by rw [h.l.len]; exact hb), if_neg (by simp [Z6]; omega)];exact h.z k (by simp [Z6]; omega)
 ·simp only [Z59, Zed]; rw [if_neg (by omega)]; rfl
 ·unfold Z22;simp only [if_true, List.append_nil, List.mem_map];exact ⟨n, Z2d.2 ⟨h1, h2⟩, rfl⟩
theorem Gen.cnt (h : Gen ins first ms lies truth) {bin lo hi : Int} (hm : MOk ⟨ins, first, []⟩ ⟨3, bin, 0, lo, hi⟩) (h1 : lo <= inL bin (Z6 ms) lies) (h2 : inL bin (Z6 ms) lies <= hi) : Gen ins first (ms ++ [⟨3, bin, 0, lo, hi⟩]) lies (truth ++ [(-1, [])]) := by
 have e : Z6 (ms ++ [⟨3, bin, 0, lo, hi⟩]) = Z6 ms := by rw [Z2t]; simp [Z6]
 refine h.step hm (fun e => by simp at e) h.l (fun k hk => by rw [e] at hk; exact h.z k hk) (q := []) ⟨.inl rfl, .inl rfl, fun k => by simp⟩ (fun n b hn => ?_) (fun path ext => ?_)
 ·simp only [Z59, Zed]; rw [if_neg (by omega)]; rfl
 ·rw [e];unfold Z22;simp only [List.append_nil];rw [if_neg (by simp), if_neg (by simp), Zix _ _ _ h.z, if_pos ⟨h1, h2⟩];simp
theorem Gen.out (h : Gen ins first ms lies truth) {bin i t n lo hi : Int} {of l2 : List Int} (hm : MOk ⟨ins, first, []⟩ ⟨2, bin, i, lo, hi⟩) (hit : i = t ∨ i = -1) (ht0 : 0 <= t) (ht1 : t < ins) (h1 : lo <= n) (h2 : n <= hi)
  (htk : Took (first.getD bin.toNat false) bin (Z6 ms) 0 lies of) (hsum : Z32 of (Z6 ms) 0 = n) (hl2 : l2.length = 4) (ho4 : of.length = 4) (hl : ∀ k, l2.getD k 0 = lies.getD k 0 - of.getD k 0) :
  Gen ins first (ms ++ [⟨2, bin, i, lo, hi⟩]) l2 (truth ++ [(t, of)]) := by
 have e : Z6 (ms ++ [⟨2, bin, i, lo, hi⟩]) = Z6 ms := by rw [Z2t]; simp [Z6]
 have hof : ∀ k, (Z6 ms).length <= k -> of.getD k 0 = 0 := fun k hk => by
  have g1 := htk.nn k; have g2 := htk.le k; rw [h.z k hk] at g2; omega
 refine h.step hm (fun e => by simp at e) ⟨hl2, fun k => ?_, fun k => ?_⟩ (fun k hk => ?_) (q := Z1o t of (Z6 ms) 0) ⟨.inr ⟨ht0, ht1⟩, .inr ho4, fun k => ⟨htk.nn k, Int.le_trans (htk.le k) (h.l.hi k)⟩⟩ (fun n b hn => ?_) (fun path ext => ?_)
 ·rw [hl]; have := htk.le k; omega
 ·rw [hl]; have := htk.nn k; have := h.l.hi k; omega
 ·rw [e] at hk; rw [hl, h.z k hk, hof k hk]; rfl
 ·rw [Zfq];simp only [Zed]
  by_cases hb : b < (Z6 ms).length
  ·by_cases hn' : t = n
   ·rw [if_pos ⟨hn', Nat.zero_le _, by omega⟩, if_pos hn']; omega
   ·rw [if_neg (fun g => hn' g.1), if_neg hn']; rfl
  ·rw [if_neg (by omega), hof b (by omega)]; split <;> rfl
 ·rw [e];unfold Z22;rw [if_neg (by simp), if_pos rfl];simp only [List.mem_flatMap];refine ⟨t, ?_, n, Z2d.2 ⟨h1, h2⟩, ?_⟩
  ·unfold Z9q;rcases hit with rfl | rfl
   ·rw [if_neg (by show ¬ i < 0; omega)]; simp
   ·rw [if_pos (by simp), Z2d]; omega
  ·have hlen := h.l.len;rw [Zai (Z6 ms) ext 0 (lies, path) n (fun k hk => h.z k (by simpa using hk)) (by rw [Nat.zero_add, hlen]; exact h.b4)];refine Z8p (Z6 ms) 0 lies of l2 path n htk (by rw [Nat.zero_add, hlen]; exact h.b4) hsum (by rw [hl2, hlen]) (fun k => ?_);rw [hl]
   split
   ·rfl
   ·rename_i hk; rw [hof k (by omega)]; omega
theorem Took.unit {fifo : Bool} {bin : Int} {bs lies of cur : List Int} (h : Took fifo bin bs 0 lies of) (hc : ∀ k, cur.getD k 0 = lies.getD k 0 - of.getD k 0) {own : Nat} (ho : bs[own]? = some bin) (hp : 0 < cur.getD own 0)
  (hf : fifo = true -> ∀ k, k < own -> bs[k]? = some bin -> cur.getD k 0 <= 0) {of' : List Int} (hof : ∀ k, of'.getD k 0 = if k = own then of.getD own 0 + 1 else of.getD k 0) : Took fifo bin bs 0 lies of' :=
 ⟨fun k => by rw [hof]; have g1 := h.nn k; have g2 := h.nn own; split <;> omega, fun k => by
  rw [hof]
  split
  ·rename_i e; subst e; have := hc k; omega
  ·exact h.le k, fun k b hk hb => by
  have := h.oth k b hk hb
  rw [hof, if_neg]
  ·exact this
  ·intro e
   rw [Nat.zero_add] at e; subst e
   rw [ho] at hk; cases hk; exact hb rfl, fun hff k k' b hkk hk hb h0 hlt => by
  simp only [Nat.zero_add] at h0 ⊢
  subst hb
  rw [hof] at h0 ⊢
  by_cases e1 : k' = own
  ·subst e1
   rw [if_neg (by omega)]
   have g1 := hf hff k hkk hk
   have g2 := hc k
   have g3 := h.le k
   omega
  ·rw [if_neg e1] at h0
   have := h.fst hff k k' b hkk hk rfl (by simpa using h0) hlt
   simp only [Nat.zero_add] at this
   by_cases e2 : k = own
   ·subst e2
    have := hc k; omega
   ·rw [if_neg e2]; exact this⟩
theorem Zsg {fifo : Bool} {bin : Int} {bs lies : List Int} (hl : ∀ k, 0 <= lies.getD k 0) : Took fifo bin bs 0 lies [0, 0, 0, 0] := by
 have z : ∀ k, ([0, 0, 0, 0] : List Int).getD k 0 = 0 := fun k => by
  match k with
  | 0 => rfl
  | 1 => rfl
  | 2 => rfl
  | 3 => rfl
  | k + 4 => rfl
 exact ⟨fun k => by rw [z]; exact Int.le_refl _, fun k => by rw [z]; exact hl k, fun k b _ _ => z _, fun _ k k' b _ _ _ h0 _ => by rw [z] at h0; omega⟩
theorem Gen.ends (h : Gen ins first ms lies truth) : ∃ path, (lies, path) ∈ Zd ⟨ins, first, ms⟩ Z1f [] /\ ∀ n b, 0 <= n -> Z59 n b path = Zed n b truth := by
 obtain ⟨path, p1, p2⟩ := h.run;refine ⟨path, ?_, p2⟩;have := p1 [];rw [List.append_nil] at this;unfold Zd
 rwa [Zcl (j := ⟨ins, first, ms⟩) (j' := ⟨ins, first, []⟩) rfl rfl]
theorem Gen.jok (h : Gen ins first ms lies truth) (h1 : 1 <= ins) (h4 : ins <= 4) (hf1 : 1 <= first.length) (hf2 : first.length <= 2) (hm : ms.length <= 10) : JOk ⟨ins, first, ms⟩ :=
 ⟨h1, h4, hf1, hf2, hm, fun m hx => by
  have := h.ok m hx
  exact ⟨this.k1, this.k3, this.b0, this.b1, this.i0, this.i1, this.i2, this.l0, this.lh, this.h5⟩, h.b4⟩
end
end Go.Batch

namespace Go.Batch
section
variable {ν : Type}
structure RenOk (ins : Int) (π : Int -> Int) : Prop where
 rng : ∀ i, 0 <= i -> i < ins -> 0 <= π i /\ π i < ins
 inj : ∀ i k, 0 <= i -> i < ins -> 0 <= k -> k < ins -> π i = π k -> i = k
 sur : ∀ k, 0 <= k -> k < ins -> ∃ i, 0 <= i /\ i < ins /\ π i = k
inductive Eff where
 | put (b : Nat) (n : Int)
 | take (b : Nat) (inst n : Int)
def Eff.at : Eff -> Nat
 | .put b _ => b
 | .take b _ _ => b
theorem Zon {bin : Int} : ∀ (bs l l' : List Int), (∀ k, bs[k]? = some bin -> l.getD k 0 = l'.getD k 0) -> inL bin bs l = inL bin bs l'
 | [], _, _, _ => rfl
 | b :: bs, l, l', h => by
  have ih := Zon bs l.tail l'.tail fun k hk => by
   have := h (k + 1) (by simpa using hk)
   cases l <;> cases l' <;> simpa using this
  simp only [inL, ih]
  by_cases hb : b = bin
  ·have := h 0 (by simp [hb]);have e : l.headD 0 = l'.headD 0 := by cases l <;> cases l' <;> simpa using this
   rw [e]
  ·rw [if_neg hb, if_neg hb]
def Zv2 (tk : Tk ν) : Prop := ∀ y i b n i' b' n', b ≠ b' -> tk (tk y i b n) i' b' n' = tk (tk y i' b' n') i b n
end
theorem Zq5 : Zv2 Zn := fun _ _ _ _ _ _ _ _ => rfl
theorem Zsh (i : Int) (b : Nat) : Zv2 (Z2v i b) := fun y i1 b1 n1 i2 b2 n2 h => by
 unfold Z2v
 split <;> split <;> omega
theorem Zsi (i : Int) : Zv2 (Z29 i) := fun y i1 b1 n1 i2 b2 n2 h => by
 unfold Z29
 split <;> split <;> try rfl
 unfold Z2h;simp only [Int.toNat_natCast];rw [Nat.or_assoc, Nat.or_assoc, Nat.or_comm (1 <<< b1)]
end Go.Batch

namespace Go.Batch
open Go Go.Abs
def Z64 (s : Ste Int) : List Int := s.1 ++ [s.2]
def tD : D := .v (.bool true)
structure MapOk (ents : List (List Int × D)) (S : List (Ste Int)) : Prop where
 vals : ∀ e ∈ ents, e.2 = tD
 keys : ∀ k, k ∈ ents.map (·.1) ↔ k ∈ S.map Z64
 nd : (ents.map (·.1)).Nodup
theorem Z82 : MapOk [] [] := ⟨fun _ h => by simp at h, fun _ => by simp, by simp⟩
theorem Zh6 {ents : List (List Int × D)} (k : List Int) : (ar.mput ents k tD).map (·.1) = if k ∈ ents.map (·.1) then ents.map (·.1) else ents.map (·.1) ++ [k] := by
 have e : ar.mput ents k tD = (match ents.findIdx? (·.1 == k) with | some i => ents.set i (k, tD) | none => ents ++ [(k, tD)]) := rfl;rw [e]
 cases h : ents.findIdx? (·.1 == k) with
 | none =>
  rw [List.findIdx?_eq_none_iff] at h;rw [if_neg]
  ·simp
  ·intro hk;obtain ⟨e, h1, h2⟩ := List.mem_map.1 hk;have := h e h1;simp [h2] at this
 | some i =>
  obtain ⟨hi, h1, -⟩ := List.findIdx?_eq_some_iff_getElem.1 h;have h2 : ents[i].1 = k := by simpa using h1
  rw [if_pos (List.mem_map.2 ⟨ents[i], List.getElem_mem hi, h2⟩)];simp only [List.map_set];rw [show k = (ents.map (·.1))[i]'(by simpa using hi) by simp [h2]];exact List.set_getElem_self _
theorem Zq6 {ents : List (List Int × D)} (k : List Int) (h : ∀ e ∈ ents, e.2 = tD) : ∀ e ∈ ar.mput ents k tD, e.2 = tD := by
 intro e he
 replace he : e ∈ (match ents.findIdx? (·.1 == k) with | some i => ents.set i (k, tD) | none => ents ++ [(k, tD)]) := he
 split at he
 ·rcases List.mem_or_eq_of_mem_set he with h1 | h1
  ·exact h e h1
  ·rw [h1]
 ·rcases List.mem_append.1 he with h1 | h1
  ·exact h e h1
  ·simp at h1; rw [h1]
theorem Zh7 {ents : List (List Int × D)} {S : List (Ste Int)} (h : MapOk ents S) (s : Ste Int) : MapOk (ar.mput ents (Z64 s) tD) (S ++ [s]) := by
 refine ⟨Zq6 _ h.vals, fun k => ?_, ?_⟩
 ·rw [Zh6, List.map_append, List.mem_append];have := h.keys k
  split
  ·rename_i hk
   have h2 := h.keys (Z64 s);constructor
   ·intro e; exact .inl (this.1 e)
   ·rintro (e | e)
    ·exact this.2 e
    ·simp at e; rw [e]; exact hk
  ·rw [List.mem_append, this]; simp
 ·rw [Zh6]
  split
  ·exact h.nd
  ·rename_i hk
   rw [List.nodup_append];exact ⟨h.nd, by simp, fun a ha b hb => by simp at hb; subst hb; intro e; exact hk (e ▸ ha)⟩
def Zj (ents : List (List Int × D)) (S : List (Ste Int)) : List (List Int × D) := S.foldl (fun e s => ar.mput e (Z64 s) tD) ents
theorem Zkn (ents : List (List Int × D)) (s : Ste Int) (S : List (Ste Int)) : Zj ents (s :: S) = Zj (ar.mput ents (Z64 s) tD) S := rfl
theorem Z51 (ents : List (List Int × D)) (S S' : List (Ste Int)) : Zj ents (S ++ S') = Zj (Zj ents S) S' := by unfold Zj; rw [List.foldl_append]
theorem Z83 {ents : List (List Int × D)} {S : List (Ste Int)} (h : MapOk ents S) : ∀ S' : List (Ste Int), MapOk (Zj ents S') (S ++ S')
 | [] => by simpa [Zj] using h
 | s :: S' => by
  rw [Zkn, show S ++ s :: S' = (S ++ [s]) ++ S' by simp];exact Z83 (Zh7 h s) S'
theorem MapOk.congr {ents : List (List Int × D)} {S S' : List (Ste Int)} (h : MapOk ents S) (e : ∀ s, s ∈ S ↔ s ∈ S') : MapOk ents S' :=
 ⟨h.vals, fun k => by rw [h.keys]; simp only [List.mem_map, e], h.nd⟩
theorem MapOk.empty {ents : List (List Int × D)} {S : List (Ste Int)} (h : MapOk ents S) : ents = [] ↔ S = [] := by
 constructor
 ·intro e; subst e
  cases S with
  | nil => rfl
  | cons s S => have := (h.keys (Z64 s)).2 (by simp); simp at this
 ·intro e; subst e
  cases ents with
  | nil => rfl
  | cons x l => have := (h.keys x.1).1 (by simp); simp at this
theorem MapOk.at {ents : List (List Int × D)} {S : List (Ste Int)} (h : MapOk ents S) {i : Nat} {e : List Int × D} (he : ents[i]? = some e) : ∃ s ∈ S, e = (Z64 s, tD) := by
 have hm := List.mem_of_getElem? he;obtain ⟨s, hs, hk⟩ := List.mem_map.1 ((h.keys e.1).1 (List.mem_map.2 ⟨e, hm, rfl⟩));exact ⟨s, hs, Prod.ext hk.symm (h.vals e hm)⟩
theorem MapOk.has {ents : List (List Int × D)} {S : List (Ste Int)} (h : MapOk ents S) {s : Ste Int} (hs : s ∈ S) : ∃ i : Nat, ents[i]? = some (Z64 s, tD) := by
 obtain ⟨e, he, hk⟩ := List.mem_map.1 ((h.keys (Z64 s)).2 (List.mem_map.2 ⟨s, hs, rfl⟩));obtain ⟨i, hi⟩ := List.mem_iff_getElem?.1 he;exact ⟨i, by rw [hi]; congr 1; exact Prod.ext hk (h.vals e he)⟩
theorem Zko : ∀ (N : Nat) (l : List Nat), l.Nodup -> (∀ x ∈ l, x < N) -> l.length <= N
 | 0, l, _, h => by
  cases l with
  | nil => exact Nat.le_refl _
  | cons x l => exact absurd (h x (by simp)) (by omega)
 | N + 1, l, hd, h => by
  have h1 := Zko N (l.filter (· ≠ N)) (hd.filter _) (fun x hx => by
   simp at hx
   have := h x hx.1
   omega)
  have h2 : l.length <= (l.filter (· ≠ N)).length + 1 := by
   clear h h1
   induction l with
   | nil => simp
   | cons x l ih =>
    rw [List.nodup_cons] at hd
    by_cases hx : x = N
    ·subst hx;have : l.filter (· ≠ x) = l := List.filter_eq_self.2 fun y hy => by
      simp; intro e; subst e; exact hd.1 hy
     have e2 : (l.filter fun y => !decide (y = x)) = l := by simpa using this
     simp [List.filter_cons, e2]
    ·have := ih hd.2;simp [List.filter_cons, hx] at this ⊢;omega
  omega
def Zwo (l : List Int) : Nat := (((l.getD 0 0 * 6 + l.getD 1 0) * 6 + l.getD 2 0) * 6 + l.getD 3 0).toNat + 1296 * (l.getD 4 0).toNat
theorem Zbr {l : List Int} (h : l.length = 4) : ∃ a b c d, l = [a, b, c, d] := by
 match l, h with
 | [a, b, c, d], _ => exact ⟨a, b, c, d, rfl⟩
theorem MapOk.len {ents : List (List Int × D)} {S : List (Ste Int)} (h : MapOk ents S) (hs : ∀ s ∈ S, LOk s.1 /\ 0 <= s.2 /\ s.2 <= 640) : ents.length <= 831000 := by
 have h1 : ∀ k ∈ ents.map (·.1), ∃ s ∈ S, k = Z64 s := fun k hk => by
  obtain ⟨s, hs, e⟩ := List.mem_map.1 ((h.keys k).1 hk);exact ⟨s, hs, e.symm⟩
 have hb : ∀ k ∈ ents.map (·.1), ∃ a b c d n : Int, k = [a, b, c, d, n] /\ (0 <= a /\ a <= 5) /\ (0 <= b /\ b <= 5) /\ (0 <= c /\ c <= 5) /\ (0 <= d /\ d <= 5) /\ 0 <= n /\ n <= 640 := fun k hk => by
  obtain ⟨s, hm, e⟩ := h1 k hk;obtain ⟨hl, h0, h6⟩ := hs s hm;obtain ⟨a, b, c, d, e4⟩ := Zbr hl.len;have hg := hl.lo;have hh := hl.hi;rw [e4] at hg hh;exact ⟨a, b, c, d, s.2, by rw [e, Z64, e4]; rfl, ⟨hg 0, hh 0⟩, ⟨hg 1, hh 1⟩, ⟨hg 2, hh 2⟩, ⟨hg 3, hh 3⟩, h0, h6⟩
 have hlen := Zko 830736 ((ents.map (·.1)).map Zwo) ?_ ?_
 ·simp at hlen; omega
 ·refine List.pairwise_map.2 (List.Pairwise.imp_of_mem ?_ h.nd);intro k k' hk hk' hne e;obtain ⟨a, b, c, d, n, rfl, p1, p2, p3, p4, p5⟩ := hb k hk;obtain ⟨a', b', c', d', n', rfl, q1, q2, q3, q4, q5⟩ := hb k' hk'
  apply hne
  simp [Zwo] at e;have : a = a' /\ b = b' /\ c = c' /\ d = d' /\ n = n' := by omega
  obtain ⟨rfl, rfl, rfl, rfl, rfl⟩ := this;rfl
 ·intro x hx;obtain ⟨k, hk, rfl⟩ := List.mem_map.1 hx;obtain ⟨a, b, c, d, n, rfl, p1, p2, p3, p4, p5⟩ := hb k hk;simp [Zwo];omega
theorem Zsj {s s' : Ste Int} (h : Z64 s = Z64 s') : s = s' := by
 unfold Z64 at h;obtain ⟨h1, h2⟩ := List.append_inj' h rfl;simp at h2;exact Prod.ext h1 h2
structure Seen (ents : List (List Int × D)) (bs seen : List Nat) (S done : List (Ste Int)) : Prop where
 inS : ∀ s ∈ done, s ∈ S
 got : ∀ (i c : Nat) (s : Ste Int), bs[i]? = some c -> c ∈ seen -> ents[i]? = some (Z64 s, tD) -> s ∈ done
theorem Z84 (ents : List (List Int × D)) (bs : List Nat) (S : List (Ste Int)) : Seen ents bs [] S [] := ⟨fun _ h => by simp at h, fun _ _ _ _ h => by simp at h⟩
theorem Seen.next {ents : List (List Int × D)} {bs seen : List Nat} {S done : List (Ste Int)} (h : Seen ents bs seen S done) (hd : bs.Nodup) {i c : Nat} {s : Ste Int} (hc : bs[i]? = some c) (he : ents[i]? = some (Z64 s, tD)) (hs : s ∈ S) :
  Seen ents bs (seen ++ [c]) S (done ++ [s]) := by
 refine ⟨fun x hx => ?_, fun i' c' s' h1 h2 h3 => ?_⟩
 ·rcases List.mem_append.1 hx with h1 | h1
  ·exact h.inS x h1
  ·simp at h1; rw [h1]; exact hs
 ·rcases List.mem_append.1 h2 with h4 | h4
  ·exact List.mem_append.2 (.inl (h.got i' c' s' h1 h4 h3))
  ·simp at h4; subst h4;have hi : i = i' := by
    obtain ⟨a1, a2⟩ := List.getElem?_eq_some_iff.1 hc;obtain ⟨b1, b2⟩ := List.getElem?_eq_some_iff.1 h1;exact (List.getElem?_inj a1 hd).1 (hc.trans h1.symm)
   subst hi;rw [he] at h3;have : Z64 s = Z64 s' := by injection h3 with h5; exact congrArg Prod.fst h5
   rw [Zsj this]; simp
theorem Seen.all {ents : List (List Int × D)} {bs seen : List Nat} {S done : List (Ste Int)} (h : Seen ents bs seen S done) (hm : MapOk ents S) (hl : bs.length = ents.length) (hall : ∀ c ∈ bs, c ∈ seen) : ∀ s, s ∈ done ↔ s ∈ S := fun s => by
 refine ⟨h.inS s, fun hs => ?_⟩;obtain ⟨i, hi⟩ := hm.has hs;have hlt : i < bs.length := by rw [hl]; exact (List.getElem?_eq_some_iff.1 hi).1
 exact h.got i bs[i] s (List.getElem?_eq_getElem hlt) (hall _ (List.getElem_mem hlt)) hi
def Z8y (bs seen : List Nat) : Nat := (bs.filter fun c => decide (c ∉ seen)).length
theorem Z85 {bs seen : List Nat} {i c : Nat} (hc : bs[i]? = some c) (hn : c ∉ seen) : Z8y bs (seen ++ [c]) < Z8y bs seen := by
 have hm : c ∈ bs := List.mem_of_getElem? hc;unfold Z8y;clear hc
 induction bs with
 | nil => simp at hm
 | cons x bs ih =>
  have le : ∀ l : List Nat, (l.filter fun y => decide (y ∉ seen ++ [c])).length <= (l.filter fun y => decide (y ∉ seen)).length := fun l => by
   induction l with
   | nil => simp
   | cons y l ih2 =>
    simp only [List.filter_cons]
    by_cases h1 : y ∈ seen
    ·have : y ∈ seen ++ [c] := by simp [h1]
     simpa [h1, this] using ih2
    ·by_cases h2 : y ∈ seen ++ [c]
     ·simp [h1, h2]; simp at ih2; omega
     ·simp [h1, h2]; simpa using ih2
  by_cases hx : x = c
  ·subst hx;have := le bs;simp [List.filter_cons, hn] at this ⊢;omega
  ·rcases List.mem_cons.1 hm with h1 | h1
   ·exact absurd h1.symm hx
   ·have h2 := ih h1;simp only [List.filter_cons]
    by_cases h3 : x ∈ seen
    ·have : x ∈ seen ++ [c] := by simp [h3]
     simpa [h3, this] using h2
    ·have : x ∉ seen ++ [c] := by simp [h3, hx]
     simpa [h3, this] using h2
theorem Zmy {S done : List (Ste Int)} (h : ∀ s, s ∈ done ↔ s ∈ S) (f : Ste Int -> Int) : Zs (done.map f) = Zs (S.map f) := Z6l fun x => by simp only [List.mem_map, h]
end Go.Batch

namespace Go.Batch
theorem Zh8 {j : Jn} {x : Ste (List (Int × Nat × Int))} (h : x ∈ Zd j Z1f []) : Zc j = true := by
 unfold Zc;rw [Z1n Zn]
 cases he : Zd j Z1f [] with
 | nil => rw [he] at h; simp at h
 | cons a l => rfl
theorem Z55 {j : Jn} (h : Zc j = true) (tk : Tk Int) : Zd j tk 0 ≠ [] := by
 unfold Zc at h;rw [Z1n Zn] at h;rw [Z1n tk]
 cases he : Zd j Z1f [] with
 | nil => rw [he] at h; simp at h
 | cons a l => simp
end Go.Batch
