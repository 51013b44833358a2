/- Part AllA of the proofs about the benches of the accordion maker: see the last text of the claim for what is proved. -/
import Derived.Test.YtecfpfhkicapeaaFirA
import Derived.Test.YtecfpfhkicapeaaRefA
import Derived.Test.YtecfpfhkicapeaaBatD
import Derived.Test.YtecfpfhkicapeaaBatA
import Derived.Test.YtecfpfhkicapeaaBatE
set_option linter.unusedVariables false
set_option linter.unusedSimpArgs false
set_option linter.unnecessarySimpa false
set_option linter.constructorNameAsVariable false

namespace Go.Abs
open Go
section
variable {m : Nat} {K : St -> Prop} {E : List (Nat × D)} {b0 b3 b4 : Blk} {nt : Nat}
theorem Z130 {xs : List Value} {rows : List (List D)} {c t : Nat} (hx : GridOk xs rows) (ht : t < xs.length) (hc : c <= t) {r : List D} (hr : r = rows.getD t [])
  (h : GS m K { env := E, H := [b0, .elo 1 ((Z3f xs rows c).set t (.o 5 1 r.length)), .ob (.gr 1 ((Z3t xs rows c).set t (xs.getD t Z5t, none))), b3, b4, .els 1 r], nt := nt, dfs := [] }) :
  GS m K { env := E, H := [b0, .els 1 (Z3f xs rows c), .ob (.gr 1 (Z3t xs rows c)), b3, b4], nt := nt, dfs := [] } := by
 have hg := Z5u (rows := rows) (c := c) ht;rw [if_neg (by omega)] at hg;refine Zs8 1 rfl ?_
 by_cases h0 : r = []
 ·have hn : xs.getD t Z5t = Z5t := hx.nil t ht (by rw [<- hr]; exact h0);have hN : (Z3t xs rows c).set t (xs.getD t Z5t, none) = Z3t xs rows c := by
   refine List.ext_getElem? fun j => ?_;rw [List.getElem?_set]
   split
   ·rename_i e; subst e
    rw [Z3m, if_pos ht, Z5v ht, if_pos (.inr (by rw [<- hr, h0]; rfl))]
   ·rfl
  rw [hN] at h;subst h0;rw [hn] at hg;exact Zkf 1 t 0 1 (.o 5 1 0) rfl hg rfl rfl h
 ·have hne : ¬ (t < c ∨ (rows.getD t []).isEmpty = true) := by
   rintro (h1 | h1)
   ·omega
   ·exact h0 (by rw [hr]; exact Ze1 h1)
  have hn := Z5v (rows := rows) (c := c) ht;rw [if_neg hne, <- hr] at hn;exact Zpu 2 1 t t 0 (.o 5 1 r.length) rfl rfl hn hg rfl rfl h
theorem Z145 {xs : List Value} {rows rows' : List (List D)} {t : Nat} (hx : GridOk xs rows) (ht : t < xs.length) {r : List D} (hr0 : 0 < r.length) (hfr : FrL r) (hr : ∀ j, rows'.getD j [] = if j = t then r else rows.getD j [])
  {es : List D} (hes : es = (Z3f xs rows 0).set t (.o 5 1 r.length)) {gn : List Ent} (hgn : gn = (Z3t xs rows 0).set t (xs.getD t Z5t, none))
  (hE : Nm { env := E, H := [b0, .elo 1 es, .ob (.gr 1 gn), b3, b4, .els 1 r], nt := nt, dfs := [] } 1)
  (h : ∀ xs' : List Value, GridOk xs' rows' -> xs'.length = xs.length -> GS m K { env := E, H := [b0, .els 1 (Z3f xs' rows' 0), .ob (.gr 1 (Z3t xs' rows' 0)), b3, b4, .dead], nt := nt, dfs := [] }) :
  GS m K { env := E, H := [b0, .elo 1 es, .ob (.gr 1 gn), b3, b4, .els 1 r], nt := nt, dfs := [] } := by
 subst hgn;have hg : es[t]? = some (.o 5 1 r.length) := by rw [hes, List.getElem?_set_self (by rw [Z4p]; exact ht)]
 refine Zsa 2 1 5 t t 0 (fun x => .v x) rfl rfl rfl hE (by rw [List.length_set, Z3m]; omega) (fun e row' he => ?_) hr0 hg rfl (fun _ => rfl) fun x hx1 => ?_
 ·rw [List.getElem?_set_self (by rw [Z3m]; exact ht)] at he; cases he
 ·have hgd : ∀ j, (xs.set t x).getD j Z5t = if j = t then x else xs.getD j Z5t := fun j => by
   rw [List.getD_eq_getElem?_getD, List.getElem?_set]
   by_cases e : t = j
   ·subst e; rw [if_pos rfl, if_pos ht, if_pos rfl]; rfl
   ·rw [if_neg e, if_neg (fun h => e h.symm), List.getD_eq_getElem?_getD]
  have e1 : es.set t (.v x) = Z3f (xs.set t x) rows' 0 := by
   refine List.ext_getElem? fun j => ?_
   by_cases hj : j < xs.length
   ·rw [Z5u (by simpa using hj), if_neg (by omega), List.getElem?_set, hgd]
    by_cases e : t = j
    ·subst e; rw [if_pos rfl, if_pos rfl, if_pos (by rw [hes]; simpa [Z4p] using ht)]
    ·rw [if_neg e, hes, List.getElem?_set, if_neg e, Z5u hj, if_neg (by omega), if_neg (fun h => e h.symm)]
   ·rw [List.getElem?_eq_none (by rw [List.length_set, hes, List.length_set, Z4p]; omega), List.getElem?_eq_none (by rw [Z4p, List.length_set]; omega)]
  have e2 : Zfl ((Z3t xs rows 0).set t (xs.getD t Z5t, none)) t (x, some r) = Z3t (xs.set t x) rows' 0 := by
   rw [Zpt _ (by rw [List.length_set, Z3m]; exact ht), List.set_set];refine List.ext_getElem? fun j => ?_
   by_cases hj : j < xs.length
   ·rw [Z5v (by simpa using hj), List.getElem?_set, hgd, hr]
    by_cases e : t = j
    ·subst e;rw [if_pos rfl, if_pos rfl, if_pos rfl, if_pos (by rw [Z3m]; exact ht), if_neg];rintro (h1 | h1)
     ·omega
     ·rw [Ze1 h1] at hr0; simp at hr0
    ·have e' : ¬ j = t := fun h => e h.symm;rw [if_neg e, Z5v hj];simp only [if_neg e']
   ·rw [List.getElem?_eq_none (by rw [List.length_set, Z3m]; omega), List.getElem?_eq_none (by rw [Z3m, List.length_set]; omega)]
  have hok : GridOk (xs.set t x) rows' := by
   refine ⟨fun j hj h0 => ?_, fun j => ?_⟩
   ·rw [hr] at h0;rw [hgd]
    by_cases e : j = t
    ·rw [if_pos e] at h0; rw [h0] at hr0; simp at hr0
    ·rw [if_neg e] at h0; rw [if_neg e];exact hx.nil j (by simpa using hj) h0
   ·rw [hr]
    split
    ·exact hfr
    ·exact hx.fr j
  have h2 := h (xs.set t x) hok (by simp);rw [<- e1, <- e2] at h2;refine Zmp 1 rfl ?_ h2;rw [e1]; exact Zkg
theorem Z13u {xs : List Value} {rows : List (List D)} {nd : Nat} (hx : GridOk xs rows) (hl : xs.length = nd)
  (hv2 : ∀ es bg, View m [0, 1, 2, 3, 4] { env := E, H := [b0, .els 1 es, .ob (.gr 1 bg), b3, b4], nt := nt, dfs := [] } { env := E, H := [b0, .els 1 es, .ob (.gr 1 bg), b3, b4, .dead], nt := nt, dfs := [] })
  (h : GS m K { env := E, H := [b0, .els 1 ((List.range nd).map fun j => .sl 1 (rows.getD j [])), .ob (.gr 1 (Z3t xs rows nd)), b3, b4], nt := nt, dfs := [] }) :
  GS m K { env := E, H := [b0, .els 1 (Z3f xs rows 0), .ob (.gr 1 (Z3t xs rows 0)), b3, b4], nt := nt, dfs := [] } := by
 have hend : Z3f xs rows nd = (List.range nd).map fun j => .sl 1 (rows.getD j []) := by
  unfold Z3f;rw [hl];exact List.map_congr_left fun j hj => by rw [if_pos (List.mem_range.1 hj)]
 rw [<- hend] at h;refine Zuv (fun c => { env := E, H := [b0, .els 1 (Z3f xs rows c), .ob (.gr 1 (Z3t xs rows c)), b3, b4], nt := nt, dfs := [] }) nd (fun c hc K h => ?_) h;have hcl : c < xs.length := by omega
 obtain ⟨r, hr⟩ : ∃ r, r = rows.getD c [] := ⟨_, rfl⟩;refine Z130 hx hcl (Nat.le_refl _) hr ?_;have e1 : (Z3f xs rows (c + 1)) = (Z3f xs rows c).set c (.sl 1 r) := by
  refine List.ext_getElem? fun j => ?_
  by_cases hj : j < xs.length
  ·rw [Z5u hj, List.getElem?_set]
   by_cases e : c = j
   ·subst e; rw [if_pos (Nat.lt_succ_self _), if_pos rfl, if_pos (by rw [Z4p]; exact hj), hr]
   ·rw [if_neg e, Z5u hj]
    by_cases h2 : j < c
    ·rw [if_pos (by omega), if_pos h2]
    ·rw [if_neg (by omega), if_neg h2]
  ·rw [List.getElem?_eq_none (by rw [Z4p]; omega), List.getElem?_eq_none (by rw [List.length_set, Z4p]; omega)]
 have e2 : Z3t xs rows (c + 1) = (Z3t xs rows c).set c (xs.getD c Z5t, none) := by
  refine List.ext_getElem? fun j => ?_
  by_cases hj : j < xs.length
  ·rw [Z5v hj, List.getElem?_set]
   by_cases e : c = j
   ·subst e; rw [if_pos (.inl (Nat.lt_succ_self _)), if_pos rfl, if_pos (by rw [Z3m]; exact hj)]
   ·rw [if_neg e, Z5v hj]
    by_cases h2 : j < c
    ·rw [if_pos (.inl (by omega)), if_pos (.inl h2)]
    ·congr 2
     by_cases h3 : (rows.getD j []).isEmpty = true
     ·rw [if_pos (.inr h3), if_pos (.inr h3)]
     ·rw [if_neg (fun h => h.elim (by omega) h3), if_neg (fun h => h.elim h2 h3)]
  ·rw [List.getElem?_eq_none (by rw [Z3m]; omega), List.getElem?_eq_none (by rw [List.length_set, Z3m]; omega)]
 have hgs : (Z3f xs rows c)[c]? = some (.v (xs.getD c Z5t)) := by rw [Z5u hcl, if_neg (Nat.lt_irrefl _)]
 refine Zs9 1 5 (isz := 1) (row := r) (es := (Z3f xs rows c).set c (.o 5 1 r.length)) (es' := (Z3f xs rows c).set c (.sl 1 r)) rfl rfl ⟨by simp, fun j x' hx' => ?_⟩ ?_
 ·rw [List.getElem?_set] at hx'
  split at hx'
  ·rename_i e; subst e
   split at hx'
   ·cases hx'
    rename_i hl2
    refine ⟨.o 5 1 r.length, by rw [List.getElem?_set_self hl2], ⟨rfl, fun q c' hc' => ?_⟩⟩
    match q, hc' with
    | 0, hc' => simp [D.cells] at hc'; subst hc'; exact .inr ⟨rfl, rfl⟩
    | q + 1, hc' => simp [D.cells] at hc'
   ·cases hx'
  ·rename_i e
   exact ⟨x', by rw [List.getElem?_set_ne e]; exact hx', .same _⟩
 ·show GS m K { env := E, H := [b0, .elo 1 ((Z3f xs rows c).set c (.sl 1 r)), .ob (.gr 1 ((Z3t xs rows c).set c (xs.getD c Z5t, none))), b3, b4, .dead], nt := nt, dfs := [] };rw [<- e1, <- e2];refine Zmp 1 rfl Zkg ?_;exact Z60 [0, 1, 2, 3, 4] (hv2 _ _) h
end
end Go.Abs

namespace Go.Batch
def Z12h (fifo : Bool) (lies : List Int) (bin : Int) (of : List Int) : List Int -> Nat -> List (List Int) -> List (List Int)
 | [], _, acc => acc
 | b :: bs, i, acc =>
  if b ≠ bin ∨ lies.getD i 0 <= of.getD i 0 then Z12h fifo lies bin of bs (i + 1) acc
  else if fifo then (if of.set i (of.getD i 0 + 1) ∈ acc then acc else acc ++ [of.set i (of.getD i 0 + 1)])
  else Z12h fifo lies bin of bs (i + 1) (if of.set i (of.getD i 0 + 1) ∈ acc then acc else acc ++ [of.set i (of.getD i 0 + 1)])
def Z12j (fifo : Bool) (bins lies : List Int) (bin : Int) : Nat -> List (List Int)
 | 0 => [[0, 0, 0, 0]]
 | n + 1 => (Z12j fifo bins lies bin n).foldl (fun acc of => Z12h fifo lies bin of bins 0 acc) []
structure Unit1 (fifo : Bool) (lies : List Int) (bin : Int) (of bs : List Int) (i : Nat) (x : List Int) (k : Nat) : Prop where
 at_ : bs[k]? = some bin
 lt : of.getD (i + k) 0 < lies.getD (i + k) 0
 fst : fifo = true -> ∀ k', k' < k -> bs[k']? = some bin -> lies.getD (i + k') 0 <= of.getD (i + k') 0
 eq : x = of.set (i + k) (of.getD (i + k) 0 + 1)
theorem Z13z {x y : List Int} {acc : List (List Int)} : x ∈ (if y ∈ acc then acc else acc ++ [y]) ↔ x ∈ acc ∨ x = y := by
 split
 ·rename_i h
  constructor
  ·exact Or.inl
  ·rintro (h' | rfl)
   ·exact h'
   ·exact h
 ·simp
theorem Z14j {y : List Int} {acc : List (List Int)} : (if y ∈ acc then acc else acc ++ [y]).length <= acc.length + 1 := by
 split <;> simp
theorem Z12u {fifo : Bool} {lies of x : List Int} {bin : Int} : ∀ (bs : List Int) (i : Nat) (acc : List (List Int)), x ∈ Z12h fifo lies bin of bs i acc ↔ x ∈ acc ∨ ∃ k, Unit1 fifo lies bin of bs i x k
 | [], i, acc => by
  unfold Z12h;constructor
  ·exact Or.inl
  ·rintro (h | ⟨k, h⟩)
   ·exact h
   ·have := h.at_; simp at this
 | b :: bs, i, acc => by
  have up : ∀ k, Unit1 fifo lies bin of (b :: bs) i x (k + 1) -> Unit1 fifo lies bin of bs (i + 1) x k := fun k h => by
   have e : i + (k + 1) = i + 1 + k := by omega
   refine ⟨by have := h.at_; simpa using this, by rw [<- e]; exact h.lt, fun hf k' hk' hb => ?_, by rw [<- e]; exact h.eq⟩;have := h.fst hf (k' + 1) (by omega) (by simpa using hb);rw [show i + (k' + 1) = i + 1 + k' by omega] at this;exact this
  have down : ∀ k, (fifo = true -> b = bin -> lies.getD i 0 <= of.getD i 0) -> Unit1 fifo lies bin of bs (i + 1) x k -> Unit1 fifo lies bin of (b :: bs) i x (k + 1) := fun k h0 h => by
   have e : i + (k + 1) = i + 1 + k := by omega
   refine ⟨by have := h.at_; simpa using this, by rw [e]; exact h.lt, fun hf k' hk' hb => ?_, by rw [e]; exact h.eq⟩
   cases k' with
   | zero => exact h0 hf (by simpa using hb)
   | succ k' =>
    have := h.fst hf k' (by omega) (by simpa using hb);rw [show i + (k' + 1) = i + 1 + k' by omega];exact this
  unfold Z12h
  split
  ·rename_i h
   rw [Z12u bs (i + 1) acc];have h0 : b = bin -> lies.getD i 0 <= of.getD i 0 := fun e => h.resolve_left fun g => g e;constructor
   ·rintro (g | ⟨k, g⟩)
    ·exact .inl g
    ·exact .inr ⟨k + 1, down k (fun _ => h0) g⟩
   ·rintro (g | ⟨k, g⟩)
    ·exact .inl g
    ·cases k with
     | zero =>
      have h1 : b = bin := by have := g.at_; simpa using this
      have := g.lt;have := h0 h1;rw [Nat.add_zero] at *;omega
     | succ k => exact .inr ⟨k, up k g⟩
  ·rename_i h
   have h1 : b = bin := Classical.byContradiction fun g => h (.inl g);have h2 : of.getD i 0 < lies.getD i 0 := Int.not_le.1 fun g => h (.inr g);have u0 : ∀ y, y = of.set i (of.getD i 0 + 1) -> x = y -> Unit1 fifo lies bin of (b :: bs) i x 0 := fun y hy hx => ⟨by simp [h1], h2, fun _ k' hk' => absurd hk' (by omega), by rw [hx, hy]; rfl⟩
   split
   ·rename_i hf
    rw [Z13z];constructor
    ·rintro (g | g)
     ·exact .inl g
     ·exact .inr ⟨0, u0 _ rfl g⟩
    ·rintro (g | ⟨k, g⟩)
     ·exact .inl g
     ·cases k with
      | zero => exact .inr g.eq
      | succ k =>
       have := g.fst hf 0 (by omega) (by simp [h1]);rw [Nat.add_zero] at this;omega
   ·rename_i hf
    rw [Z12u bs (i + 1), Z13z];constructor
    ·rintro ((g | g) | ⟨k, g⟩)
     ·exact .inl g
     ·exact .inr ⟨0, u0 _ rfl g⟩
     ·exact .inr ⟨k + 1, down k (fun h => absurd h hf) g⟩
    ·rintro (g | ⟨k, g⟩)
     ·exact .inl (.inl g)
     ·cases k with
      | zero => exact .inl (.inr g.eq)
      | succ k => exact .inr ⟨k, up k g⟩
theorem Z131 {fifo : Bool} {lies of : List Int} {bin : Int} : ∀ (bs : List Int) (i : Nat) (acc : List (List Int)), (Z12h fifo lies bin of bs i acc).length <= acc.length + bs.length
 | [], i, acc => by unfold Z12h; simp
 | b :: bs, i, acc => by
  unfold Z12h;have hp := Z14j (y := of.set i (of.getD i 0 + 1)) (acc := acc);rw [List.length_cons]
  split
  ·have := Z131 (fifo := fifo) (lies := lies) (of := of) (bin := bin) bs (i + 1) acc;omega
  ·split
   ·omega
   ·have := Z131 (fifo := fifo) (lies := lies) (of := of) (bin := bin) bs (i + 1) (if of.set i (of.getD i 0 + 1) ∈ acc then acc else acc ++ [of.set i (of.getD i 0 + 1)]);omega
theorem Z12r {fifo : Bool} {lies x : List Int} {bin : Int} {bs : List Int} : ∀ (l acc : List (List Int)), x ∈ l.foldl (fun acc of => Z12h fifo lies bin of bs 0 acc) acc ↔ x ∈ acc ∨ ∃ of ∈ l, ∃ k, Unit1 fifo lies bin of bs 0 x k
 | [], acc => by simp
 | o :: l, acc => by
  rw [List.foldl_cons, Z12r l, Z12u];constructor
  ·rintro ((h | h) | ⟨of, h1, h2⟩)
   ·exact .inl h
   ·exact .inr ⟨o, List.mem_cons_self, h⟩
   ·exact .inr ⟨of, List.mem_cons_of_mem _ h1, h2⟩
  ·rintro (h | ⟨of, h1, h2⟩)
   ·exact .inl (.inl h)
   ·cases h1 with
    | head => exact .inl (.inr h2)
    | tail _ h1 => exact .inr ⟨of, h1, h2⟩
theorem Z12w {fifo : Bool} {lies : List Int} {bin : Int} {bs : List Int} : ∀ (l acc : List (List Int)), (l.foldl (fun acc of => Z12h fifo lies bin of bs 0 acc) acc).length <= acc.length + l.length * bs.length
 | [], acc => by simp
 | o :: l, acc => by
  rw [List.foldl_cons];have h1 := Z12w (fifo := fifo) (lies := lies) (bin := bin) (bs := bs) l (Z12h fifo lies bin o bs 0 acc);have h2 := Z131 (fifo := fifo) (lies := lies) (of := o) (bin := bin) bs 0 acc;rw [List.length_cons, Nat.succ_mul];omega
theorem Z12s {fifo : Bool} {bins lies : List Int} {bin : Int} : ∀ n, (Z12j fifo bins lies bin n).length <= bins.length ^ n
 | 0 => by simp [Z12j]
 | n + 1 => by
  have h1 := Z12s (fifo := fifo) (bins := bins) (lies := lies) (bin := bin) n;have h2 := Z12w (fifo := fifo) (lies := lies) (bin := bin) (bs := bins) (Z12j fifo bins lies bin n) [];rw [Nat.pow_succ];have h3 := Nat.mul_le_mul_right bins.length h1;simp only [Z12j];simp at h2;omega
theorem Z13l {P : Nat -> Prop} : ∀ L, (∃ k, k < L /\ P k) -> ∃ k, k < L /\ P k /\ ∀ k', k < k' -> k' < L -> ¬ P k'
 | 0, ⟨k, h, _⟩ => absurd h (by omega)
 | L + 1, ⟨k, h, hp⟩ => by
  by_cases e : P L
  ·exact ⟨L, by omega, e, fun k' h1 h2 => absurd h2 (by omega)⟩
  ·have hk : k ≠ L := fun g => e (g ▸ hp);obtain ⟨m, h1, h2, h3⟩ := Z13l L ⟨k, by omega, hp⟩;refine ⟨m, by omega, h2, fun k' h4 h5 => ?_⟩
   by_cases g : k' = L
   ·rw [g]; exact e
   ·exact h3 k' h4 (by omega)
theorem Z12x {of : List Int} {own : Nat} (ho : own < of.length) : ∀ (bs : List Int) (i : Nat), i <= own -> own < i + bs.length -> Z32 (of.set own (of.getD own 0 + 1)) bs i = Z32 of bs i + 1
 | [], i, h1, h2 => by simp at h2; omega
 | b :: bs, i, h1, h2 => by
  have eo : ∀ k, (of.set own (of.getD own 0 + 1)).getD k 0 = if own = k then of.getD own 0 + 1 else of.getD k 0 := fun k => Z1r _ _ _ _ ho
  simp only [Z32];rw [eo]
  by_cases e : own = i
  ·subst e;have e2 : Z32 (of.set own (of.getD own 0 + 1)) bs (own + 1) = Z32 of bs (own + 1) := Zej bs (own + 1) fun k hk => by rw [eo, if_neg (by omega)]
   rw [if_pos rfl, e2];omega
  ·rw [if_neg e, Z12x ho bs (i + 1) (by omega) (by simp at h2; omega)];omega
theorem Z140 {of : List Int} : ∀ (bs : List Int) (i : Nat), (∀ k, i <= k -> k < i + bs.length -> of.getD k 0 <= 0) -> Z32 of bs i <= 0
 | [], i, _ => by simp [Z32]
 | b :: bs, i, h => by
  simp only [Z32];have h1 := h i (Nat.le_refl _) (by simp);have h2 := Z140 bs (i + 1) fun k hk hk' => h k (by omega) (by simp; omega);omega
theorem Z14a {fifo : Bool} {bin : Int} {bins l of x : List Int} (hb : bins.length <= 4) {n : Int} (h : WayO fifo bin bins 0 l n of) {k : Nat} (u : Unit1 fifo l bin of bins 0 x k) : WayO fifo bin bins 0 l (n + 1) x := by
 obtain ⟨h1, h2, h3, h4⟩ := u;rw [Nat.zero_add] at h2 h4;have ho : k < bins.length := (List.getElem?_eq_some_iff.1 h1).1;have hol : k < of.length := by rw [h.len]; omega
 have eo : ∀ i, x.getD i 0 = if k = i then of.getD k 0 + 1 else of.getD i 0 := fun i => by rw [h4]; exact Z1r _ _ _ _ hol
 refine ⟨⟨fun i => ?_, fun i => ?_, fun i b hi hne => ?_, fun hf i i' b hii hi hbb h0 hlt => ?_⟩, ?_, ?_, fun i hi => ?_⟩
 ·have := h.tk.nn i; have := h.tk.nn k; rw [eo]; split <;> omega
 ·have := h.tk.le i; rw [eo]
  by_cases e : k = i
  ·subst e; rw [if_pos rfl]; omega
  ·rw [if_neg e]; exact this
 ·have := h.tk.oth i b hi hne;rw [Nat.zero_add] at this ⊢;rw [eo]
  by_cases e : k = i
  ·subst e; rw [h1] at hi; cases hi; exact absurd rfl hne
  ·rw [if_neg e]; exact this
 ·rw [Nat.zero_add] at h0 ⊢;subst hbb;rw [eo] at h0 ⊢
  by_cases e' : k = i'
  ·subst e';have h5 := h3 hf i hii hi;rw [Nat.zero_add] at h5;rw [if_neg (by omega)];have := h.tk.le i;omega
  ·rw [if_neg e'] at h0;have := h.tk.fst hf i i' b hii hi rfl (by rw [Nat.zero_add]; exact h0) hlt;rw [Nat.zero_add] at this
   by_cases e : k = i
   ·subst e; omega
   ·rw [if_neg e]; exact this
 ·rw [h4, Z12x hol bins 0 (Nat.zero_le _) (by omega), h.sum]
 ·rw [h4, List.length_set, h.len]
 ·rw [eo, if_neg (by omega)];exact h.out i hi
theorem Z14b {fifo : Bool} {bin : Int} {bins l x : List Int} (hb : bins.length <= 4) {n : Int} (hn : 0 <= n) (h : WayO fifo bin bins 0 l (n + 1) x) : ∃ of, WayO fifo bin bins 0 l n of /\ ∃ k, Unit1 fifo l bin of bins 0 x k := by
 have hex : ∃ k, k < bins.length /\ 0 < x.getD k 0 := Classical.byContradiction fun g => by
  have := Z140 (of := x) bins 0 fun k _ hk => Int.not_lt.1 fun g' => g ⟨k, by omega, g'⟩;have := h.sum;omega
 obtain ⟨k, hk, hx, hlast⟩ := Z13l _ hex;have hxl : k < x.length := by rw [h.len]; omega
 have hbk : bins[k]? = some bin := by
  rw [List.getElem?_eq_getElem hk];refine congrArg some (Classical.byContradiction fun g => ?_);have := h.tk.oth k _ (List.getElem?_eq_getElem hk) g;rw [Nat.zero_add] at this;omega
 obtain ⟨of, hof⟩ : ∃ of, of = x.set k (x.getD k 0 - 1) := ⟨_, rfl⟩;have eo : ∀ i, of.getD i 0 = if k = i then x.getD k 0 - 1 else x.getD i 0 := fun i => by rw [hof]; exact Z1r _ _ _ _ hxl
 have hol : of.length = 4 := by rw [hof, List.length_set, h.len]
 have ex : x = of.set k (of.getD k 0 + 1) := by
  rw [eo, if_pos rfl, hof, List.set_set];refine Z86 h.len (by rw [List.length_set, h.len]) fun i => ?_;rw [Z1r _ _ _ _ hxl]
  by_cases e : k = i
  ·subst e; rw [if_pos rfl]; omega
  ·rw [if_neg e]
 have hs : Z32 x bins 0 = Z32 of bins 0 + 1 := by
  have := Z12x (of := of) (own := k) (by omega) bins 0 (Nat.zero_le _) (by omega);rw [<- ex] at this;exact this
 refine ⟨of, ⟨⟨fun i => ?_, fun i => ?_, fun i b hi hne => ?_, fun hf i i' b hii hi hbb h0 hlt => ?_⟩, ?_, hol, fun i hi => ?_⟩, k, hbk, ?_, fun hf i hi hbi => ?_, by rw [Nat.zero_add]; exact ex⟩
 ·have := h.tk.nn i; rw [eo]; split <;> omega
 ·have := h.tk.le i; rw [eo]
  by_cases e : k = i
  ·subst e; rw [if_pos rfl]; omega
  ·rw [if_neg e]; exact this
 ·have := h.tk.oth i b hi hne;rw [Nat.zero_add] at this ⊢;rw [eo]
  by_cases e : k = i
  ·subst e; omega
  ·rw [if_neg e]; exact this
 ·rw [Nat.zero_add] at h0 ⊢;rw [eo] at h0 ⊢;have h0' : 0 < x.getD i' 0 := by
   by_cases e : k = i'
   ·rw [if_pos e] at h0; subst e; omega
   ·rw [if_neg e] at h0; exact h0
  have hle : i' <= k := Nat.not_lt.1 fun g => hlast i' g hlt h0';rw [if_neg (by omega)];have := h.tk.fst hf i i' b hii hi hbb (by rw [Nat.zero_add]; exact h0') hlt;rw [Nat.zero_add] at this;exact this
 ·have := h.sum; omega
 ·have := h.out i hi;rw [eo, if_neg (by omega)]; exact this
 ·rw [Nat.zero_add, eo, if_pos rfl];have := h.tk.le k;omega
 ·rw [Nat.zero_add, eo, if_neg (by omega)];have := h.tk.fst hf i k bin hi hbi rfl (by rw [Nat.zero_add]; exact hx) hk;rw [Nat.zero_add] at this;omega
theorem Z14c {fifo : Bool} {bin : Int} {bins l x : List Int} (h : WayO fifo bin bins 0 l 0 x) : x = [0, 0, 0, 0] := by
 refine Z86 h.len rfl fun k => ?_;rw [Z90];have key : ∀ (bs : List Int) (i : Nat), Z32 x bs i <= 0 -> ∀ k, i <= k -> k < i + bs.length -> x.getD k 0 <= 0 := fun bs => by
  induction bs with
  | nil => intro i _ k h1 h2; simp at h2; omega
  | cons b bs ih =>
   intro i hs k h1 h2;simp only [Z32] at hs;have h3 : 0 <= Z32 x bs (i + 1) := by
    have : ∀ (bs : List Int) (i : Nat), 0 <= Z32 x bs i := fun bs => by
     induction bs with
     | nil => intro i; simp [Z32]
     | cons b bs ih => intro i; simp only [Z32]; have := h.tk.nn i; have := ih (i + 1); omega
    exact this bs (i + 1)
   have h4 := h.tk.nn i
   by_cases e : k = i
   ·rw [e]; omega
   ·exact ih (i + 1) (by omega) k (by omega) (by simp at h2; omega)
 by_cases hk : k < bins.length
 ·have := key bins 0 (by rw [h.sum]; exact Int.le_refl _) k (Nat.zero_le _) (by omega);have := h.tk.nn k;omega
 ·exact h.out k (.inr (by omega))
theorem Z12p {fifo : Bool} {bin : Int} {bins l : List Int} (hb : bins.length <= 4) (hl : ∀ k, 0 <= l.getD k 0) {x : List Int} : ∀ n : Nat, x ∈ Z12j fifo bins l bin n ↔ WayO fifo bin bins 0 l n x
 | 0 => by
  simp only [Z12j, List.mem_singleton];constructor
  ·rintro rfl; exact Zfv hl
  ·exact Z14c
 | n + 1 => by
  simp only [Z12j];rw [Z12r];constructor
  ·rintro (h | ⟨of, h1, k, h2⟩)
   ·simp at h
   ·have := Z14a hb ((Z12p hb hl n).1 h1) h2;rw [Int.natCast_succ]; exact this
  ·intro h;rw [Int.natCast_succ] at h;obtain ⟨of, h1, h2⟩ := Z14b hb (by omega) h;exact .inr ⟨of, (Z12p hb hl n).2 h1, h2⟩
end Go.Batch

namespace Go.Batch
structure Wd where
 lies : List Int
 has : List (List Int)
def addL (l of : List Int) : List Int := [l.getD 0 0 + of.getD 0 0, l.getD 1 0 + of.getD 1 0, l.getD 2 0 + of.getD 2 0, l.getD 3 0 + of.getD 3 0]
theorem Z14d {l of : List Int} (k : Nat) (hk : k < 4) : (addL l of).getD k 0 = l.getD k 0 + of.getD k 0 := by
 match k, hk with
 | 0, _ => rfl
 | 1, _ => rfl
 | 2, _ => rfl
 | 3, _ => rfl
def Z12m (w : Wd) (of : List Int) (n : Nat) : Wd := ⟨Z2c w.lies of, w.has.set n (addL (w.has.getD n []) of)⟩
def whoW (j : Jn) (m : Mv) : List Nat := (List.range j.ins.toNat).filter fun n : Nat => decide (m.inst < 0 ∨ m.inst = (n : Int))
def Z12i (j : Jn) (bs : List Int) (m : Mv) (w : Wd) : List Wd :=
 if m.kind = 1 then (upR m.lo m.hi).map fun n => ⟨w.lies.set bs.length n, w.has⟩
 else if m.kind = 2 then (upR m.lo m.hi).flatMap fun a => (Z12j (j.first.getD m.bin.toNat false) bs w.lies m.bin a.toNat).flatMap fun of => (whoW j m).map (Z12m w of)
 else if m.lo <= inL m.bin bs w.lies /\ inL m.bin bs w.lies <= m.hi then [w] else []
def Z12k (j : Jn) (k : Nat) : List Int := Z6 (j.moves.take k)
def preW (j : Jn) : Nat -> List Wd
 | 0 => [⟨[0, 0, 0, 0], List.replicate j.ins.toNat [0, 0, 0, 0]⟩]
 | k + 1 => match j.moves[k]? with
  | some m => (preW j k).flatMap (Z12i j (Z12k j k) m)
  | none => preW j k
structure Rel (N : Nat) (w : Wd) (s : Ste (List (Int × Nat × Int))) : Prop where
 l : w.lies = s.1
 len : w.has.length = N
 row : ∀ n, n < N -> (w.has.getD n []).length = 4
 h : ∀ n b : Nat, n < N -> b < 4 -> (w.has.getD n []).getD b 0 = Z59 n b s.2
theorem Z13e : ∀ (l p : List (Int × Nat × Int)), Zt Z1f p l = p ++ l := fun l => by
 induction l with
 | nil => intro p; simp [Zt]
 | cons q l ih =>
  intro p;have := ih (Z1f p q.1 q.2.1 q.2.2);show Zt Z1f (Z1f p q.1 q.2.1 q.2.2) l = _;rw [this]; simp [Z1f]
theorem Z133 (l : List (List Int)) (i j : Nat) (x : List Int) (hi : i < l.length) : (l.set i x).getD j [] = if i = j then x else l.getD j [] := by
 simp only [List.getD_eq_getElem?_getD, List.getElem?_set]
 by_cases e : i = j
 ·rw [if_pos e, if_pos hi, if_pos e]; rfl
 ·rw [if_neg e, if_neg e]
theorem Z134 {N : Nat} {w : Wd} {s : Ste (List (Int × Nat × Int))} (r : Rel N w s) {fifo : Bool} {bin a : Int} {bs of : List Int} (hw : WayO fifo bin bs 0 s.1 a of) {n : Nat} (hn : n < N) :
  Rel N (Z12m w of n) (Z2c s.1 of, Zt Z1f s.2 (Z1o n of bs 0)) := by
 have hl : n < w.has.length := by rw [r.len]; exact hn
 refine ⟨?_, ?_, fun i hi => ?_, fun i b hi hb => ?_⟩
 ·show Z2c w.lies of = _; rw [r.l]
 ·show (w.has.set n _).length = _; rw [List.length_set, r.len]
 ·show ((w.has.set n _).getD i []).length = _;rw [Z133 _ _ _ _ hl]
  split
  ·rfl
  ·exact r.row i hi
 ·show ((w.has.set n _).getD i []).getD b 0 = _;rw [Z133 _ _ _ _ hl, Z13e, Zkl, Zfq]
  by_cases e : n = i
  ·subst e;rw [if_pos rfl, Z14d b hb, r.h n b hi hb]
   by_cases hbb : b < bs.length
   ·rw [if_pos ⟨rfl, Nat.zero_le _, by omega⟩]
   ·rw [if_neg (fun g => hbb (by omega)), hw.out b (by omega)]
  ·rw [if_neg e, r.h i b hi hb, if_neg (fun g => e (by omega)), Int.add_zero]
theorem Z13m {j : Jn} (hj : JOk j) {N : Nat} (hN : j.ins.toNat = N) {bs : List Int} (hb : bs.length <= 4) {m : Mv} (hm : MOk j m) {w : Wd} {s : Ste (List (Int × Nat × Int))} (r : Rel N w s) (hl : LOk s.1) :
  (∀ w' ∈ Z12i j bs m w, ∃ s' ∈ Z22 j Z1f bs m bs.length s, Rel N w' s') /\ (∀ s' ∈ Z22 j Z1f bs m bs.length s, ∃ w' ∈ Z12i j bs m w, Rel N w' s') := by
 obtain ⟨sl, sp⟩ := s;have hl0 := hm.l0;have hi1 := hj.i1;have e := r.l;unfold Z12i Z22
 by_cases h1 : m.kind = 1
 ·rw [if_pos h1, if_pos h1];have key : ∀ n, Rel N ⟨w.lies.set bs.length n, w.has⟩ (sl.set bs.length n, sp) := fun n => ⟨by rw [e], r.len, r.row, r.h⟩;constructor
  ·intro w' h;obtain ⟨n, hn, rfl⟩ := List.mem_map.1 h;exact ⟨_, List.mem_map.2 ⟨n, hn, rfl⟩, key n⟩
  ·intro s' h;obtain ⟨n, hn, rfl⟩ := List.mem_map.1 h;exact ⟨_, List.mem_map.2 ⟨n, hn, rfl⟩, key n⟩
 rw [if_neg h1, if_neg h1]
 by_cases h2 : m.kind = 2
 ·rw [if_pos h2, if_pos h2];have hlw : LOk w.lies := by rw [e]; exact hl
  constructor
  ·intro w' h;obtain ⟨a, ha, h⟩ := List.mem_flatMap.1 h;obtain ⟨of, ho, h⟩ := List.mem_flatMap.1 h;obtain ⟨n, hn, rfl⟩ := List.mem_map.1 h;unfold whoW at hn;rw [List.mem_filter, List.mem_range, hN] at hn;obtain ⟨hn1, hn2⟩ := hn;have hn2 := of_decide_eq_true hn2;have ha' := Z2d.1 ha;have hw := (Z12p hb hlw.lo a.toNat).1 ho;rw [show ((a.toNat : Nat) : Int) = a by omega, e] at hw;refine ⟨_, List.mem_flatMap.2 ⟨(n : Int), ?_, List.mem_flatMap.2 ⟨a, ha, (Zks hb hl (by omega) _).2 ⟨of, hw, rfl⟩⟩⟩, Z134 r hw hn1⟩;unfold Z9q
   split
   ·rw [Z2d]; omega
   ·rw [List.mem_singleton]; omega
  ·intro s' h;obtain ⟨i, hi, h⟩ := List.mem_flatMap.1 h;obtain ⟨a, ha, h⟩ := List.mem_flatMap.1 h;have ha' := Z2d.1 ha;obtain ⟨of, hw, rfl⟩ := (Zks hb hl (by omega) _).1 h;have hii : (0 <= i /\ i < j.ins) /\ (m.inst < 0 ∨ m.inst = i) := by
    unfold Z9q at hi
    split at hi
    ·rw [Z2d] at hi; omega
    ·have := List.mem_singleton.1 hi;have := hm.i1 h2;omega
   obtain ⟨n, rfl⟩ : ∃ n : Nat, i = n := ⟨i.toNat, by omega⟩;refine ⟨Z12m w of n, List.mem_flatMap.2 ⟨a, ha, List.mem_flatMap.2 ⟨of, (Z12p hb hlw.lo a.toNat).2 (by rw [show ((a.toNat : Nat) : Int) = a by omega, e]; exact hw), List.mem_map.2 ⟨n, ?_, rfl⟩⟩⟩, Z134 r hw (by omega)⟩;unfold whoW;rw [List.mem_filter, List.mem_range];exact ⟨by omega, decide_eq_true hii.2⟩
 ·rw [if_neg h2, if_neg h2];rw [e];dsimp only
  split
  ·exact ⟨fun w' h => ⟨_, List.mem_singleton.2 rfl, by rw [List.mem_singleton.1 h]; exact r⟩, fun s' h => ⟨_, List.mem_singleton.2 rfl, by rw [List.mem_singleton.1 h]; exact r⟩⟩
  ·exact ⟨fun w' h => by simp at h, fun s' h => by simp at h⟩
theorem Z135 (j : Jn) (k : Nat) : (Z12k j k).length = Z4e j k := rfl
theorem Z146 (j : Jn) (k : Nat) : ∃ ext, Z6 j.moves = Z12k j k ++ ext := by
 refine ⟨Z6 (j.moves.drop k), ?_⟩;unfold Z12k Z6;rw [<- List.map_append, <- List.filter_append, List.take_append_drop]
theorem Z132 {j : Jn} (hj : JOk j) {N : Nat} (hN : j.ins.toNat = N) : ∀ k, k <= j.moves.length ->
  (∀ w ∈ preW j k, ∃ s ∈ Zay j Z1f [] k, Rel N w s) /\ (∀ s ∈ Zay j Z1f [] k, ∃ w ∈ preW j k, Rel N w s)
 | 0, _ => by
  have r : Rel N ⟨[0, 0, 0, 0], List.replicate j.ins.toNat [0, 0, 0, 0]⟩ (([0, 0, 0, 0], []) : Ste (List (Int × Nat × Int))) := by
   have e : ∀ n, n < N -> (List.replicate j.ins.toNat ([0, 0, 0, 0] : List Int)).getD n [] = [0, 0, 0, 0] := fun n hn => by
    rw [List.getD_eq_getElem?_getD, List.getElem?_replicate, if_pos (by omega)]; rfl
   refine ⟨rfl, by simp [hN], fun n hn => ?_, fun n b hn hb => ?_⟩
   ·show ((List.replicate j.ins.toNat ([0, 0, 0, 0] : List Int)).getD n []).length = 4;rw [e n hn]; rfl
   ·show ((List.replicate j.ins.toNat ([0, 0, 0, 0] : List Int)).getD n []).getD b 0 = _;rw [e n hn, Z90]; rfl
  rw [Zwq];refine ⟨fun w h => ⟨_, List.mem_singleton.2 rfl, ?_⟩, fun s h => ⟨_, (show _ ∈ preW j 0 from by unfold preW; exact List.mem_singleton.2 rfl), ?_⟩⟩
  ·unfold preW at h; rw [List.mem_singleton.1 h]; exact r
  ·rw [List.mem_singleton.1 h]; exact r
 | k + 1, hk => by
  obtain ⟨m, hmk⟩ : ∃ m, j.moves[k]? = some m := ⟨_, List.getElem?_eq_getElem (by omega)⟩;have hm := hj.mv m (List.mem_of_getElem? hmk);obtain ⟨i1, i2⟩ := Z132 hj hN k (by omega);obtain ⟨ext, hext⟩ := Z146 j k;have hb4 : (Z12k j k).length <= 4 := by have := hj.b4; rw [hext, List.length_append] at this; omega
  have hst : ∀ s ∈ Zay j Z1f [] k, Z22 j Z1f (Z6 j.moves) m (Z4e j k) s = Z22 j Z1f (Z12k j k) m (Z12k j k).length s := fun s hs => by
   obtain ⟨l, p⟩ := s;rw [hext];have hz := (Zso hj k _ hs).z;exact Zqp (Z12k j k) ext hb4 (Zva hj k _ hs).l.len fun i hi => (hz i (by rw [Zcm]; exact hi)).1
  have e1 : preW j (k + 1) = (preW j k).flatMap (Z12i j (Z12k j k) m) := by simp only [preW, hmk]
  rw [Zhb hmk, e1];constructor
  ·intro w' h;obtain ⟨w, hw, h⟩ := List.mem_flatMap.1 h;obtain ⟨s, hs, r⟩ := i1 w hw;obtain ⟨s', hs', r'⟩ := (Z13m hj hN hb4 hm r (Zva hj k s hs).l).1 w' h;exact ⟨s', List.mem_flatMap.2 ⟨s, hs, by rw [hst s hs]; exact hs'⟩, r'⟩
  ·intro s' h;obtain ⟨s, hs, h⟩ := List.mem_flatMap.1 h;obtain ⟨w, hw, r⟩ := i2 s hs;rw [hst s hs] at h;obtain ⟨w', hw', r'⟩ := (Z13m hj hN hb4 hm r (Zva hj k s hs).l).2 s' h;exact ⟨w', List.mem_flatMap.2 ⟨w, hw, hw'⟩, r'⟩
end Go.Batch

namespace Go.Batch
theorem Z13f {α β : Type} {f : α -> List β} {K : Nat} : ∀ (l : List α), (∀ x ∈ l, (f x).length <= K) -> (l.flatMap f).length <= l.length * K
 | [], _ => by simp
 | x :: l, h => by
  rw [List.flatMap_cons, List.length_append, List.length_cons, Nat.succ_mul];have h1 := h x List.mem_cons_self;have h2 := Z13f l fun y hy => h y (List.mem_cons_of_mem _ hy);omega
theorem Z14e {α β : Type} {f : α -> List β} {l l' : List α} (h : List.Sublist l l') : (l.flatMap f).length <= (l'.flatMap f).length := by
 induction h with
 | slnil => exact Nat.le_refl _
 | cons a _ ih => rw [List.flatMap_cons, List.length_append]; omega
 | cons_cons a _ ih => rw [List.flatMap_cons, List.flatMap_cons, List.length_append, List.length_append]; omega
theorem upR_len (lo hi : Int) : (upR lo hi).length = (hi + 1 - lo).toNat := by simp [upR]
def powS (c : Nat) : Nat := 1 + c + c ^ 2 + c ^ 3 + c ^ 4 + c ^ 5
theorem Z14f {β : Type} {f : Int -> List β} {c K : Nat} {lo hi : Int} (h0 : 0 <= lo) (h5 : hi <= 5) (h : ∀ a : Nat, a <= 5 -> (f a).length <= c ^ a * K) : ((upR lo hi).flatMap f).length <= powS c * K := by
 have key : ∀ n : Nat, n <= 6 -> (((List.range n).map fun k : Nat => (k : Int)).flatMap f).length <= (match n with | 0 => 0 | 1 => 1 | 2 => 1 + c | 3 => 1 + c + c ^ 2 | 4 => 1 + c + c ^ 2 + c ^ 3 | 5 => 1 + c + c ^ 2 + c ^ 3 + c ^ 4 | _ => powS c) * K := fun n hn => by
  have step : ∀ n : Nat, (((List.range (n + 1)).map fun k : Nat => (k : Int)).flatMap f).length = (((List.range n).map fun k : Nat => (k : Int)).flatMap f).length + (f n).length := fun n => by
   rw [List.range_succ, List.map_append, List.flatMap_append, List.length_append]; simp
  have e0 : (((List.range 0).map fun k : Nat => (k : Int)).flatMap f).length = 0 := rfl;have f0 := h 0 (by omega); have f1 := h 1 (by omega); have f2 := h 2 (by omega); have f3 := h 3 (by omega); have f4 := h 4 (by omega); have f5 := h 5 (by omega);have s0 := step 0; have s1 := step 1; have s2 := step 2; have s3 := step 3; have s4 := step 4; have s5 := step 5;have hh : n = 0 ∨ n = 1 ∨ n = 2 ∨ n = 3 ∨ n = 4 ∨ n = 5 ∨ n = 6 := by omega
  unfold powS;rcases hh with rfl | rfl | rfl | rfl | rfl | rfl | rfl <;> simp only [Nat.add_mul, Nat.pow_zero, Nat.pow_one, Nat.one_mul, Nat.zero_mul, Nat.reduceAdd] at * <;> omega
 have hs : List.Sublist (upR lo hi) ((List.range 6).map fun k : Nat => (k : Int)) := by
  have e : (List.range 6).map (fun k : Nat => (k : Int)) = upR 0 5 := by decide
  rw [e];have hlo : lo <= 5 ∨ hi < lo := by omega
  rcases hlo with g | g
  ·by_cases g2 : hi < lo
   ·have : upR lo hi = [] := List.eq_nil_of_length_eq_zero (by rw [upR_len]; omega);rw [this]; exact List.nil_sublist _
   ·have all : ∀ a b : Fin 6, List.Sublist (upR (a.val : Int) (b.val : Int)) (upR 0 5) := by decide +kernel
    have := all ⟨lo.toNat, by omega⟩ ⟨hi.toNat, by omega⟩;simp only at this;rw [show ((lo.toNat : Nat) : Int) = lo by omega, show ((hi.toNat : Nat) : Int) = hi by omega] at this;exact this
  ·have : upR lo hi = [] := List.eq_nil_of_length_eq_zero (by rw [upR_len]; omega);rw [this]; exact List.nil_sublist _
 have h6 := key 6 (by omega);exact Nat.le_trans (Z14e hs) h6
theorem Z147 {c d : Nat} (h : c <= d) : powS c <= powS d := by
 unfold powS;have h2 := Nat.pow_le_pow_left h 2;have h3 := Nat.pow_le_pow_left h 3;have h4 := Nat.pow_le_pow_left h 4;have h5 := Nat.pow_le_pow_left h 5;omega
theorem Z14k {j : Jn} (hj : JOk j) (m : Mv) : (whoW j m).length <= 4 := by
 unfold whoW;have h := List.length_filter_le (fun n : Nat => decide (m.inst < 0 ∨ m.inst = (n : Int))) (List.range j.ins.toNat);rw [List.length_range] at h;have := hj.i4;omega
def Z141 (c : Nat) (m : Mv) : Nat := if m.kind = 1 then 6 else if m.kind = 2 then powS c * 4 else 1
theorem Z14g {j : Jn} (hj : JOk j) {bs : List Int} {m : Mv} (hm : MOk j m) (w : Wd) : (Z12i j bs m w).length <= Z141 bs.length m := by
 have h0 := hm.l0;have h5 := hm.h5;unfold Z12i Z141
 split
 ·rw [List.length_map, upR_len]; omega
 split
 ·refine Z14f h0 h5 fun a _ => ?_;have h1 := Z13f (f := fun of => (whoW j m).map (Z12m w of)) (K := 4) (Z12j (j.first.getD m.bin.toNat false) bs w.lies m.bin ((a : Int)).toNat) fun x _ => by rw [List.length_map]; exact Z14k hj m
  have h2 := Nat.mul_le_mul_right 4 (Z12s (fifo := j.first.getD m.bin.toNat false) (bins := bs) (lies := w.lies) (bin := m.bin) ((a : Int)).toNat);rw [Int.toNat_natCast] at h1 h2 ⊢;exact Nat.le_trans h1 h2
 ·split <;> simp
def outN (j : Jn) (k : Nat) : Nat := ((j.moves.take k).filter fun m => decide (m.kind = 2)).length
theorem Z148 {j : Jn} {k : Nat} {m : Mv} (h : j.moves[k]? = some m) : outN j (k + 1) = outN j k + if m.kind = 2 then 1 else 0 := by
 unfold outN;rw [List.take_add_one, h];simp only [Option.toList, List.filter_append, List.length_append, List.filter_cons, List.filter_nil]
 by_cases e : m.kind = 2 <;> simp [e]
theorem Z136 {j : Jn} {k : Nat} {m : Mv} (h : j.moves[k]? = some m) : preW j (k + 1) = (preW j k).flatMap (Z12i j (Z12k j k) m) := by simp only [preW, h]
theorem Z13n {j : Jn} (hj : JOk j) {C : Nat} (hC : C = (Z6 j.moves).length) : ∀ k, k <= j.moves.length -> (preW j k).length <= 6 ^ Z4e j k * (powS C * 4) ^ outN j k
 | 0, _ => by simp [preW, Zv7, outN]
 | k + 1, hk => by
  obtain ⟨m, hmk⟩ : ∃ m, j.moves[k]? = some m := ⟨_, List.getElem?_eq_getElem (by omega)⟩;have hm := hj.mv m (List.mem_of_getElem? hmk);have ih := Z13n hj hC k (by omega);rw [Z136 hmk, Zn1 hmk, Z148 hmk];have h1 := Z13f (f := Z12i j (Z12k j k) m) (preW j k) fun w _ => Z14g hj hm w;have hc : (Z12k j k).length <= C := by rw [hC]; exact Zcq j k
  have hp := Z147 hc;refine Nat.le_trans h1 ?_;have h2 := Nat.mul_le_mul_right (Z141 (Z12k j k).length m) ih;refine Nat.le_trans h2 ?_;unfold Z141
  by_cases e1 : m.kind = 1
  ·rw [if_pos e1, if_pos e1, if_neg (by omega), Nat.add_zero, Nat.pow_succ, Nat.mul_right_comm];exact Nat.le_refl _
  ·rw [if_neg e1, if_neg e1, Nat.add_zero]
   by_cases e2 : m.kind = 2
   ·rw [if_pos e2, if_pos e2, Nat.pow_succ, Nat.mul_assoc (6 ^ Z4e j k)];exact Nat.mul_le_mul_left _ (Nat.mul_le_mul_left _ (Nat.mul_le_mul_right 4 hp))
   ·rw [if_neg e2, if_neg e2, Nat.add_zero, Nat.mul_one];exact Nat.le_refl _
theorem Z14l (j : Jn) (k : Nat) : outN j k <= (j.moves.filter fun m => decide (m.kind = 2)).length := by
 unfold outN;exact ((List.take_sublist k j.moves).filter _).length_le
theorem most {C o c : Nat} (hC : C <= 4) (hc : c <= C) (ho : C + o <= 5) : 6 ^ c * (powS C * 4) ^ o <= 1000000000 := by
 have h1 := Nat.pow_le_pow_right (n := 6) (by decide) hc;have h2 := Nat.pow_le_pow_right (n := powS C * 4) (by unfold powS; omega) (show o <= 5 - C by omega);refine Nat.le_trans (Nat.mul_le_mul h1 h2) ?_;have h : C = 0 ∨ C = 1 ∨ C = 2 ∨ C = 3 ∨ C = 4 := by omega
 rcases h with rfl | rfl | rfl | rfl | rfl <;> decide
theorem Z12y {j : Jn} (hj : JOk j) (h5 : (Z6 j.moves).length + (j.moves.filter fun m => decide (m.kind = 2)).length <= 5) {k : Nat} (hk : k <= j.moves.length) : (preW j k).length <= 1000000000 := by
 refine Nat.le_trans (Z13n hj rfl k hk) (most hj.b4 (Zcq j k) ?_);have := Z14l j k;omega
theorem Z12n {α β : Type} {f : α -> List β} {l : List α} {i : Nat} {x : α} (h : l[i]? = some x) : (l.take (i + 1)).flatMap f = (l.take i).flatMap f ++ f x := by
 rw [List.take_add_one, h]; simp
end Go.Batch

namespace Go.Batch
def Z12t (so all : Int) : Int := if so = all then 1 else if so = 0 then 2 else 3
theorem Z137 {L L' : List Int} (hne : L ≠ []) (h1 : ∀ x ∈ L, x ∈ L') (h2 : ∀ x ∈ L', x ∈ L) : Zs L = Zs L' := by
 have hne' : L' ≠ [] := fun e => by
  obtain ⟨x, l, e2⟩ := List.exists_cons_of_ne_nil hne;have := h1 x (by rw [e2]; exact List.mem_cons_self);rw [e] at this; cases this
 refine Zli (h2 _ (Z50 hne')) (h2 _ (Z6v hne')) fun x hx => ⟨Z4b (h1 x hx), Z4k (h1 x hx)⟩
theorem Z138 {α : Type} {L : List Int} {W : List α} {p : α -> Bool} (hL : L ≠ []) (h0 : ∀ x ∈ L, 0 <= x) (h1 : ∀ x ∈ L, ∃ w ∈ W, (0 < x ↔ p w = true)) (h2 : ∀ w ∈ W, ∃ x ∈ L, (0 < x ↔ p w = true)) :
  Z2i (Zs L) = Z12t (W.countP p : Nat) (W.length : Nat) := by
 have hW : W ≠ [] := fun e => by
  obtain ⟨w, hw, -⟩ := h1 _ (Z50 hL);rw [e] at hw; cases hw
 have hWl : 0 < W.length := List.length_pos_iff.2 hW;unfold Z2i Z12t
 by_cases ha : ∀ w ∈ W, p w = true
 ·have e : W.countP p = W.length := List.countP_eq_length.2 ha;rw [e, if_pos rfl];obtain ⟨w, hw, h⟩ := h1 _ (Z50 hL);exact if_pos (h.2 (ha w hw))
 ·have e : W.countP p ≠ W.length := fun g => ha (List.countP_eq_length.1 g);have e1 : ¬ 0 < (Zs L).1 := fun g => ha fun w hw => by
   obtain ⟨x, hx, h⟩ := h2 w hw;refine h.1 ?_;have := Z4b hx;have : (Zs L).1 = Z6a L := rfl;omega
  rw [if_neg e1, if_neg (show ¬ ((W.countP p : Nat) : Int) = ((W.length : Nat) : Int) from fun g => e (by omega))]
  by_cases hn : ∀ w ∈ W, p w = false
  ·have e2 : W.countP p = 0 := List.countP_eq_zero.2 fun w hw => by rw [hn w hw]; exact Bool.false_ne_true
   rw [e2, if_pos (show ((0 : Nat) : Int) = 0 from rfl)];obtain ⟨w, hw, h⟩ := h1 _ (Z6v hL);have h3 := h0 _ (Z6v hL);have h4 : ¬ 0 < Z80 L := fun g => by have := h.1 g; rw [hn w hw] at this; cases this
   exact if_pos (by show Z80 L = 0; omega)
  ·have e2 : W.countP p ≠ 0 := fun g => hn fun w hw => by
    have := List.countP_eq_zero.1 g w hw;simpa using this
   rw [if_neg (show ¬ ((W.countP p : Nat) : Int) = 0 from fun g => e2 (by omega))];refine if_neg fun g => ?_;refine hn fun w hw => ?_;obtain ⟨x, hx, h⟩ := h2 w hw;have h3 := Z4k hx;have h4 : Z80 L = 0 := g
   cases hp : p w with
   | false => rfl
   | true => have := h.2 hp; omega
section
variable {j : Jn} {N : Nat} {W : List Wd}
structure AllW (j : Jn) (N : Nat) (W : List Wd) : Prop where
 ok : JOk j
 to : ∀ w ∈ W, ∃ s ∈ Zd j Z1f [], Rel N w s
 of : ∀ s ∈ Zd j Z1f [], ∃ w ∈ W, Rel N w s
theorem allW (hj : JOk j) (hN : j.ins.toNat = N) : AllW j N (preW j j.moves.length) := by
 obtain ⟨h1, h2⟩ := Z132 hj hN j.moves.length (Nat.le_refl _);rw [Zfx (Nat.le_refl _)] at h1 h2;exact ⟨hj, h1, h2⟩
theorem AllW.stands (h : AllW j N W) : Zc j = true ↔ 0 < W.length := by
 unfold Zc;rw [Z1n Zn]
 cases e : Zd j Z1f [] with
 | nil =>
  cases W with
  | nil => simp
  | cons w l => obtain ⟨s, hs, -⟩ := h.to w List.mem_cons_self; rw [e] at hs; cases hs
 | cons s l =>
  obtain ⟨w, hw, -⟩ := h.of s (by rw [e]; exact List.mem_cons_self);have := List.length_pos_of_mem hw;simp [this]
theorem AllW.ne (h : AllW j N W) (hs : Zc j = true) : Zd j Z1f [] ≠ [] := fun e => by
 have hp := h.stands.1 hs;obtain ⟨w, l, e2⟩ := List.exists_cons_of_ne_nil (List.length_pos_iff.1 hp);obtain ⟨s, hs, -⟩ := h.to w (by rw [e2]; exact List.mem_cons_self);rw [e] at hs; cases hs
theorem AllW.rest (h : AllW j N W) (hs : Zc j = true) (b : Nat) : Zs ((Zd j Zn 0).map fun s => s.1.getD b 0) = Zs (W.map fun w => w.lies.getD b 0) := by
 rw [Z1n Zn, List.map_map];refine Z137 (fun e => h.ne hs (List.map_eq_nil_iff.1 e)) (fun x hx => ?_) fun x hx => ?_
 ·obtain ⟨s, hs, rfl⟩ := List.mem_map.1 hx;obtain ⟨w, hw, r⟩ := h.of s hs;exact List.mem_map.2 ⟨w, hw, by rw [r.l]; rfl⟩
 ·obtain ⟨w, hw, rfl⟩ := List.mem_map.1 hx;obtain ⟨s, hs, r⟩ := h.to w hw;exact List.mem_map.2 ⟨s, hs, by rw [r.l]; rfl⟩
theorem AllW.note (h : AllW j N W) (hs : Zc j = true) {n b : Nat} (hn : n < N) (hb : b < 4) : Z4d j (Z2v n b) = Zs (W.map fun w => (w.has.getD n []).getD b 0) := by
 unfold Z4d;rw [Z1n (Z2v n b), List.map_map];refine Z137 (fun e => h.ne hs (List.map_eq_nil_iff.1 e)) (fun x hx => ?_) fun x hx => ?_
 ·obtain ⟨s, hs, rfl⟩ := List.mem_map.1 hx;obtain ⟨w, hw, r⟩ := h.of s hs;refine List.mem_map.2 ⟨w, hw, ?_⟩;show _ = Zt (Z2v n b) 0 s.2;rw [Zbq, Int.zero_add, r.h n b hn hb]
 ·obtain ⟨w, hw, rfl⟩ := List.mem_map.1 hx;obtain ⟨s, hs, r⟩ := h.to w hw;refine List.mem_map.2 ⟨s, hs, ?_⟩;show Zt (Z2v n b) 0 s.2 = _;rw [Zbq, Int.zero_add, r.h n b hn hb]
theorem AllW.nn (h : AllW j N W) {w : Wd} (hw : w ∈ W) {n b : Nat} (hn : n < N) (hb : b < 4) : 0 <= (w.has.getD n []).getD b 0 := by
 obtain ⟨s, hs, r⟩ := h.to w hw;rw [r.h n b hn hb];exact (Zco n b s.2 fun q hq => ((Z6m h.ok s hs).all q hq).2.2.2).1
theorem AllW.holds (h : AllW j N W) (hs : Zc j = true) {n b : Nat} (hn : n < N) (hb : b < 4) :
  Z2i (Z4d j (Z2v n b)) = Z12t (W.countP fun w => decide (0 < (w.has.getD n []).getD b 0) : Nat) (W.length : Nat) := by
 rw [h.note hs hn hb];have hp := h.stands.1 hs;refine Z138 (fun e => ?_) (fun x hx => ?_) (fun x hx => ?_) fun w hw => ⟨_, List.mem_map.2 ⟨w, hw, rfl⟩, by simp⟩
 ·have := List.map_eq_nil_iff.1 e;rw [this] at hp; simp at hp
 ·obtain ⟨w, hw, rfl⟩ := List.mem_map.1 hx;exact h.nn hw hn hb
 ·obtain ⟨w, hw, rfl⟩ := List.mem_map.1 hx;exact ⟨w, hw, by simp⟩
theorem Z13g (hj : JOk j) {s : Ste (List (Int × Nat × Int))} (hs : s ∈ Zd j Z1f []) (n : Nat) :
  0 <= Z43 (Zt (Z29 n) 0 s.2) /\ (0 < Z43 (Zt (Z29 n) 0 s.2) ↔ 1 < Z8z (fun b => Z59 n b s.2) (Z6 j.moves).length) := by
 have h4 := hj.b4;have hp := Z6m hj s hs;obtain ⟨hb, hh⟩ := Zaj (fun x => decide (x.1 = (n : Int))) (fun x => x.2.1) (Z29 n) (fun z x => by simp [Z29]) s.2 0 (fun x hx _ => by have := (hp.all x hx).2.2.1; omega) (by decide);have hm := Zft ⟨(Zt (Z29 n) 0 s.2).toNat, by omega⟩;have e : (((Zt (Z29 n) 0 s.2).toNat : Nat) : Int) = Zt (Z29 n) 0 s.2 := by omega
 simp only [e] at hm;refine ⟨hm.1, ?_⟩;rw [hm.2];have own := fun b : Nat => Zco (n : Int) b s.2 fun q hq => (hp.all q hq).2.2.2;have e4 : Z8z (fun b => Z59 n b s.2) (Z6 j.moves).length = Z8z (fun b => Z59 n b s.2) 4 := by
  have := Zfs (fun b => Z59 n b s.2) (a := (Z6 j.moves).length) (fun b hb => Int.not_lt.1 fun g => by
   obtain ⟨q, hq, -, e⟩ := (own b).2.1 g
   have := (hp.all q hq).2.2.1
   omega) (4 - (Z6 j.moves).length)
  rw [Nat.add_sub_cancel' h4] at this;exact this.symm
 rw [e4];have eq : ∀ k, k <= 4 -> Z8z (fun b => Z59 n b s.2) k = Z8z (fun b => if Z2s (Zt (Z29 n) 0 s.2) b = true then 1 else 0) k := fun k => by
  induction k with
  | zero => intro _; rfl
  | succ k ih =>
   intro hk;unfold Z8z;rw [ih (by omega)]
   congr 1
   have h1 := hh k (by omega);have h2 := (own k).2;have h0 : Z2s 0 k = false := by unfold Z2s; simp
   rw [h0] at h1;simp only [Bool.false_eq_true, false_or, decide_eq_true_eq] at h1
   by_cases hc : 0 < Z59 n k s.2
   ·have := h1.2 (h2.1 hc);rw [if_pos hc, this]; rfl
   ·have : ¬ Z2s (Zt (Z29 n) 0 s.2) k = true := fun g => hc (h2.2 (h1.1 g));rw [if_neg hc, if_neg this]; rfl
 rw [eq 4 (Nat.le_refl _)]
theorem Z13o {f g : Nat -> Int} : ∀ k, (∀ b, b < k -> f b = g b) -> Z8z f k = Z8z g k
 | 0, _ => rfl
 | k + 1, h => by unfold Z8z; rw [Z13o k fun b hb => h b (by omega), h k (by omega)]
theorem AllW.mixed (h : AllW j N W) (hs : Zc j = true) {n : Nat} (hn : n < N) :
  Z2i (Zs ((Zd j (Z29 n) 0).map fun s => Z43 s.2)) = Z12t (W.countP fun w => decide (1 < Z8z (fun b => (w.has.getD n []).getD b 0) (Z6 j.moves).length) : Nat) (W.length : Nat) := by
 have h4 := h.ok.b4;rw [Z1n (Z29 n), List.map_map];have cg : ∀ {w s}, Rel N w s -> Z8z (fun b => (w.has.getD n []).getD b 0) (Z6 j.moves).length = Z8z (fun b => Z59 n b s.2) (Z6 j.moves).length := fun r => Z13o _ fun b hb => r.h n b hn (by omega);refine Z138 (fun e => h.ne hs (List.map_eq_nil_iff.1 e)) (fun x hx => ?_) (fun x hx => ?_) fun w hw => ?_
 ·obtain ⟨s, hs, rfl⟩ := List.mem_map.1 hx;exact (Z13g h.ok hs n).1
 ·obtain ⟨s, hs, rfl⟩ := List.mem_map.1 hx;obtain ⟨w, hw, r⟩ := h.of s hs;refine ⟨w, hw, ?_⟩;rw [decide_eq_true_eq, cg r];exact (Z13g h.ok hs n).2
 ·obtain ⟨s, hs, r⟩ := h.to w hw;refine ⟨_, List.mem_map.2 ⟨s, hs, rfl⟩, ?_⟩;rw [decide_eq_true_eq, cg r];exact (Z13g h.ok hs n).2
end
end Go.Batch

namespace Go.Batch
structure WOk (N : Nat) (w : Wd) : Prop where
 l : LOk w.lies
 len : w.has.length = N
 row : ∀ r ∈ w.has, r.length = 4
 b : ∀ n b : Nat, n < N -> b < 4 -> 0 <= (w.has.getD n []).getD b 0 /\ (w.has.getD n []).getD b 0 <= 15
theorem Z142 {j : Jn} (hj : JOk j) {N : Nat} (hN : j.ins.toNat = N) {k : Nat} (hk : k <= j.moves.length) : ∀ w ∈ preW j k, WOk N w := fun w hw => by
 obtain ⟨s, hs, r⟩ := (Z132 hj hN k hk).1 w hw;refine ⟨by rw [r.l]; exact (Zva hj k s hs).l, r.len, fun x hx => ?_, fun n b hn hb => ?_⟩
 ·obtain ⟨n, hn, rfl⟩ := List.mem_iff_getElem.1 hx;have := r.row n (by rw [<- r.len]; exact hn);rw [List.getD_eq_getElem?_getD, List.getElem?_eq_getElem hn] at this;exact this
 ·have g := Zfz hj ⟨2, n, b, []⟩ k (s.1, Zt (Zm ⟨2, n, b, []⟩) 0 s.2) (by rw [Zsn]; exact List.mem_map.2 ⟨_, hs, rfl⟩);have e : Zt (Zm ⟨2, n, b, []⟩) 0 s.2 = Z59 n b s.2 := by rw [Zw6, Zbq, Int.zero_add]
  have g0 := g.n0;have g1 := g.n15;rw [e] at g0 g1;rw [r.h n b hn hb];exact ⟨g0, g1⟩
theorem WOk.at_ {N : Nat} {w : Wd} (h : WOk N w) {n : Nat} (hn : n < N) : ∃ r, w.has[n]? = some r /\ w.has.getD n [] = r /\ r.length = 4 := by
 have hl : n < w.has.length := by rw [h.len]; exact hn
 refine ⟨w.has[n], List.getElem?_eq_getElem hl, ?_, h.row _ (List.getElem_mem hl)⟩;rw [List.getD_eq_getElem?_getD, List.getElem?_eq_getElem hl]; rfl
def upK (f : Int -> Int -> Int) (l of : List Int) (k : Nat) : List Int := [0, 1, 2, 3].map fun i => if i < k then f (l.getD i 0) (of.getD i 0) else l.getD i 0
theorem Z12o (f : Int -> Int -> Int) (l of : List Int) (k : Nat) : (upK f l of k).length = 4 := rfl
theorem Z12v (f : Int -> Int -> Int) (l of : List Int) (k : Nat) {i : Nat} (hi : i < 4) : (upK f l of k).getD i 0 = if i < k then f (l.getD i 0) (of.getD i 0) else l.getD i 0 := by
 match i, hi with
 | 0, _ => rfl
 | 1, _ => rfl
 | 2, _ => rfl
 | 3, _ => rfl
theorem Z13p (f : Int -> Int -> Int) {l : List Int} (h : l.length = 4) (of : List Int) : upK f l of 0 = l := by
 refine Z86 rfl h fun k => ?_
 by_cases hk : k < 4
 ·rw [Z12v f l of 0 hk, if_neg (Nat.not_lt_zero _)]
 ·rw [List.getD_eq_getElem?_getD, List.getD_eq_getElem?_getD, List.getElem?_eq_none (by rw [Z12o]; omega), List.getElem?_eq_none (by omega)]
theorem Z14m (l of : List Int) : upK (· - ·) l of 4 = Z2c l of := rfl
theorem Z13q (f : Int -> Int -> Int) (l of : List Int) {k : Nat} (hk : k < 4) : (upK f l of k).set k (f (l.getD k 0) (of.getD k 0)) = upK f l of (k + 1) := by
 refine Z86 (by rw [List.length_set, Z12o]) rfl fun i => ?_;rw [Z1r _ _ _ _ (by rw [Z12o]; exact hk)]
 by_cases hi : i < 4
 ·rw [Z12v f l of _ hi, Z12v f l of _ hi]
  by_cases e : k = i
  ·subst e; rw [if_pos rfl, if_pos (Nat.lt_succ_self _)]
  ·rw [if_neg e]
   by_cases h2 : i < k
   ·rw [if_pos h2, if_pos (by omega)]
   ·rw [if_neg h2, if_neg (by omega)]
 ·rw [if_neg (by omega), List.getD_eq_getElem?_getD, List.getD_eq_getElem?_getD, List.getElem?_eq_none (by rw [Z12o]; omega), List.getElem?_eq_none (by rw [Z12o]; omega)]
theorem Z12q {α β : Type} {f : α -> List β} {l : List α} {i : Nat} {x : α} (h : l[i]? = some x) {q : List β} (hq : q <+: f x) : (l.take i).flatMap f ++ q <+: l.flatMap f := by
 obtain ⟨hi, hx⟩ := List.getElem?_eq_some_iff.1 h;have e : l = l.take i ++ x :: l.drop (i + 1) := by rw [<- hx, List.getElem_cons_drop, List.take_append_drop]
 obtain ⟨t, ht⟩ := hq;refine ⟨t ++ (l.drop (i + 1)).flatMap f, ?_⟩
 conv => rhs; rw [e]
 rw [List.flatMap_append, List.flatMap_cons, <- ht];simp only [List.append_assoc]
def whoF (j : Jn) (m : Mv) (w : Wd) (of : List Int) (n : Nat) : List Wd := if m.inst < 0 ∨ m.inst = (n : Int) then [Z12m w of n] else []
theorem Z14n (j : Jn) (m : Mv) (w : Wd) (of : List Int) : (whoW j m).map (Z12m w of) = (List.range j.ins.toNat).flatMap (whoF j m w of) := by
 unfold whoW
 generalize List.range j.ins.toNat = l
 induction l with
 | nil => rfl
 | cons n l ih =>
  rw [List.flatMap_cons, List.filter_cons, <- ih];unfold whoF
  by_cases h : m.inst < 0 ∨ m.inst = (n : Int)
  ·rw [if_pos (decide_eq_true h), if_pos h]; rfl
  ·rw [if_neg (by simpa using h), if_neg h]; rfl
def amtW (j : Jn) (bs : List Int) (m : Mv) (w : Wd) (a : Int) : List Wd :=
 if m.kind = 1 then [⟨w.lies.set bs.length a, w.has⟩] else (Z12j (j.first.getD m.bin.toNat false) bs w.lies m.bin a.toNat).flatMap fun of => (List.range j.ins.toNat).flatMap (whoF j m w of)
theorem Z12z {j : Jn} {bs : List Int} {m : Mv} {w : Wd} (hk : m.kind = 1 ∨ m.kind = 2) : Z12i j bs m w = (upR m.lo m.hi).flatMap (amtW j bs m w) := by
 unfold Z12i
 by_cases h1 : m.kind = 1
 ·rw [if_pos h1];have : amtW j bs m w = fun a => [⟨w.lies.set bs.length a, w.has⟩] := by funext a; unfold amtW; rw [if_pos h1]
  rw [this];exact List.map_eq_flatMap ..
 ·rw [if_neg h1, if_pos (hk.resolve_left h1)];have : amtW j bs m w = fun a => (Z12j (j.first.getD m.bin.toNat false) bs w.lies m.bin a.toNat).flatMap fun of => (whoW j m).map (Z12m w of) := by
   funext a; unfold amtW; rw [if_neg h1]
   congr 1; funext of; exact (Z14n j m w of).symm
  rw [this]
theorem Z13v {j : Jn} {k : Nat} {m : Mv} (h : j.moves[k]? = some m) : Z12k j (k + 1) = if m.kind = 1 then Z12k j k ++ [m.bin] else Z12k j k := by
 unfold Z12k Z6;rw [List.take_add_one, h]
 by_cases e : m.kind = 1 <;> simp [List.filter_append, e]
theorem upR_get {lo hi : Int} {t : Nat} (h : lo + t <= hi) : (upR lo hi)[t]? = some (lo + t) := by
 unfold upR;rw [List.getElem?_map, List.getElem?_range (by omega)]; rfl
end Go.Batch

namespace Go.Proofs.Ytecfpfhkicapeaa
open Go Go.Abs Go.Proofs Go.Batch
theorem Z13h (L : List D) (n : Nat) (hn : L.length = n) (hn6 : n <= 1000) (Q) (hq : Q (RA.ret (.o 0 1 n)) [.els 1 L]) : CallA Try.prog 54 [.sl 1 L] [] Q := by
 obtain ⟨A, hA⟩ : ∃ A, A = ar := ⟨_, rfl⟩;have e1 : A.addN 0 (A.len L) = n := by rw [Z2e hA, Z9m hA hn, Nat.zero_add]
 have a1 : A.app [] L = L := by rw [Z33 hA, List.nil_append]
 have r1 : A.room (A.addN 0 (A.len L)) 8 := by rw [e1]; exact Zj1 hA (by omega) (by decide)
 have wk : WkD (.o 1 1 (A.addN 0 (A.len L))) (.o 1 1 n) := WkD.eq (by rw [e1]);refine Z5 Z0 hA Try.func54 rfl rfl rfl rfl rfl fun S hS => ?_;cbv;refine ⟨Ze hA rfl, r1, ?_⟩;refine Z37 wk ?_;exact Z2 [1] (by decide) Z9 (H' := [.els 1 L]) (d' := .o 0 1 n) ⟨congrArg (fun l => some (Blk.els 1 l)) a1, trivial⟩ rfl (Z1 hq)
end Go.Proofs.Ytecfpfhkicapeaa

namespace Go.Proofs.Ytecfpfhkicapeaa
open Go Go.Abs Go.Proofs Go.Batch
def rowI (x : List Int) : D := .sl 1 (x.map I)
theorem Z12l {l : List Int} {i : Nat} (h : i < l.length) : l[i]? = some (l.getD i 0) := by rw [List.getD_eq_getElem?_getD, List.getElem?_eq_getElem h]; rfl
theorem Z13r {fifo : Bool} {bins l : List Int} {bin : Int} : ∀ (n : Nat), ∀ x ∈ Z12j fifo bins l bin n, x.length = 4
 | 0, x, hx => by simp only [Z12j, List.mem_singleton] at hx; rw [hx]; rfl
 | n + 1, x, hx => by
  simp only [Z12j] at hx;rw [Z12r] at hx;rcases hx with h | ⟨of, h1, k, h2⟩
  ·simp at h
  ·rw [h2.eq, List.length_set]; exact Z13r n of h1
theorem Z13s {xx z : List Int} {l : List (List Int)} {k : Nat} (hz : l[k]? = some z) : decide (xx ∈ l.take (k + 1)) = (decide (xx ∈ l.take k) || decide (z = xx)) := by
 rw [List.take_add_one, hz]
 by_cases h1 : xx ∈ l.take k <;> by_cases h2 : xx = z <;> simp [h1, h2, eq_comm]
theorem Z13i {fifo : Bool} {lies of : List Int} {bin : Int} : ∀ (bs : List Int) (i : Nat) (acc : List (List Int)), acc.length <= (Z12h fifo lies bin of bs i acc).length
 | [], i, acc => by unfold Z12h; exact Nat.le_refl _
 | b :: bs, i, acc => by
  unfold Z12h;have h1 := Z13i (fifo := fifo) (lies := lies) (of := of) (bin := bin) bs (i + 1) acc;have h2 := Z13i (fifo := fifo) (lies := lies) (of := of) (bin := bin) bs (i + 1) (if of.set i (of.getD i 0 + 1) ∈ acc then acc else acc ++ [of.set i (of.getD i 0 + 1)]);have h3 : acc.length <= (if of.set i (of.getD i 0 + 1) ∈ acc then acc else acc ++ [of.set i (of.getD i 0 + 1)]).length := by split <;> simp
  split
  ·exact h1
  ·split
   ·exact h3
   ·exact Nat.le_trans h3 h2
set_option maxRecDepth 40000 in
set_option maxHeartbeats 16000000 in
theorem Z14r (ins : Int) (FL ML : List D) (first : List Bool) (hF : FL = first.map Zv) (bs : List Int) (hb : bs.length <= 4) (NB : Nat) (hNB : NB = bs.length) (BL : List D) (hB : BL = bs.map I) (l : List Int) (hl : LOk l) (LL : List D) (hL : LL = l.map I) (bin : Int) (hb0 : 0 <= bin) (hb1 : bin < first.length) (am : Int) (n : Nat) (ham : IsI am n) (hn : n <= 5) (Q)
  (hq : ∀ PL, PL = (Z12j (first.getD bin.toNat false) bs l bin n).map rowI -> Q (RA.ret (.sl 1 PL)) [.els 1 BL]) : CallA Try.prog 107 [.agg [I ins, .sl 1 FL, .sl 5 ML], .o 0 1 NB, .sl 1 LL, I bin, I am] [.els 1 BL] Q := by
 obtain ⟨A, hA⟩ : ∃ A, A = ar := ⟨_, rfl⟩;have hbI : IsI bin bin.toNat := ⟨by omega⟩;have hbl : bin.toNat < first.length := by omega
 have hBl : BL.length = NB := by rw [hB, hNB, List.length_map]
 have hLl : LL.length = 4 := by rw [hL, List.length_map, hl.len]
 have htn : A.tn (A.oi (A.len LL)) = 4 := by rw [Z5a hA hLl]; subst hA; rfl
 have hnn : A.nneg (A.oi (A.len LL)) := by rw [Z5a hA hLl]; subst hA; show (0 : Int) <= ((4 : Nat) : Int); omega
 have hrm : A.room (A.tn (A.oi (A.len LL))) 8 := by rw [htn]; exact Zj1 hA (by omega) (by decide)
 have hrep : A.rep (A.tn (A.oi (A.len LL))) (I 0) = [I 0, I 0, I 0, I 0] := by rw [htn]; subst hA; rfl
 refine Z38 Z0 hA [1] Try.func107 rfl rfl rfl rfl rfl fun S hS => ?_;cbv;refine Z4j Z0 hA hS [0, 1, 2] [3, 4] rfl ?_;cbv;refine ⟨hnn, hrm, ?_⟩;refine Z26 hS (Z39 2 rfl hrep (Zo7 20 (.o 2 1 4) rfl (WkD.eq (congrArg (fun n => D.o 2 1 n) htn)) (Z1a hA [1, 2] ?_)));cbv;refine ⟨Ze hA rfl, Z7 (Zii hS (Z3 Z0 hA hS ?_))⟩;cbv;obtain ⟨fifo, hfifo⟩ : ∃ fifo, fifo = first.getD bin.toNat false := ⟨_, rfl⟩;have hFl : FL.length = first.length := by rw [hF, List.length_map]
 have iF := Z1b hA hFl hbI hbl;have gF := Z18 hA hbI (show FL[bin.toNat]? = some (.v (.bool fifo)) by rw [hF, List.getElem?_map, List.getElem?_eq_getElem hbl, hfifo, List.getD_eq_getElem?_getD, List.getElem?_eq_getElem hbl]; rfl);rw [<- hfifo] at hq;have hP0 : [D.sl 1 [I 0, I 0, I 0, I 0]] = (Z12j fifo bs l bin (n - n)).map rowI := by rw [Nat.sub_self]; rfl
 refine Zb hS ?_;refine Za (α := Int × Nat × List D) (fun q => { env := [(1, .o 0 1 NB), (2, .sl 1 LL), (3, I bin), (4, I q.1), (5, .cb (.agg [I ins, .sl 1 FL, .sl 5 ML]) 0), (11, .sl 1 q.2.2)], H := [.els 1 BL], nt := 97, dfs := [] })
  (fun q => q.2.1) (fun q => q.2.1 <= n /\ IsI q.1 q.2.1 /\ q.2.2 = (Z12j fifo bs l bin (n - q.2.1)).map rowI) (am, n, [.sl 1 [I 0, I 0, I 0, I 0]]) ⟨Nat.le_refl _, ham, hP0⟩ ?_ ?_
 ·refine Z1a hA [3] ?_;cbv;refine ⟨Ze hA rfl, Ze hA rfl, ?_⟩;exact Zf [0] ⟨by decide, Z2n, ⟨rfl, trivial⟩, ⟨rfl, rfl, rfl, rfl, rfl, rfl, trivial⟩, rfl, rfl⟩
 rintro ⟨am, r, PL⟩ ⟨u1, u2, u3⟩;dsimp only at u1 u2 u3;refine Z2w Z0 hA hS [] ?_;cbv;refine bm (fun c => ?_) (fun c => ?_)
 ·obtain ⟨r', hr'⟩ : ∃ r', r = r' + 1 := ⟨r - 1, by have := u2.eq; subst hA; simp [ar, Z25] at c; omega⟩;have hms : r' < r := by omega
  have hnr : n - r' = (n - r) + 1 := by omega
  obtain ⟨P, hP⟩ : ∃ P, P = Z12j fifo bs l bin (n - r) := ⟨_, rfl⟩;rw [<- hP] at u3;have hP2 : Z12j fifo bs l bin (n - r') = P.foldl (fun acc of => Z12h fifo l bin of bs 0 acc) [] := by rw [hnr, hP]; rfl
  have hPl : PL.length = P.length := by rw [u3, List.length_map]
  have hP4 : ∀ x ∈ P, x.length = 4 := fun x hx => Z13r (n - r) x (by rw [<- hP]; exact hx);have hPn : P.length <= 1024 := by
   rw [hP];refine Nat.le_trans (Z12s (n - r)) (Nat.le_trans (Nat.pow_le_pow_left hb (n - r)) ?_);exact Nat.le_trans (Nat.pow_le_pow_right (by decide) (show n - r <= 5 by omega)) (by decide)
  cbv;refine Zb hS ?_;refine Za (α := Int × Nat × Nat × List (List Int) × List D) (fun q => { env := [(1, .o 0 1 NB), (2, .sl 1 LL), (3, I bin), (4, I am), (5, .cb (.agg [I ins, .sl 1 FL, .sl 5 ML]) 0), (11, .sl 1 PL), (12, .o 1 1 q.2.2.1), (13, I q.1)], H := [.els 1 BL, .els 1 q.2.2.2.2], nt := 97, dfs := [] })
   (fun q => P.length - q.2.1) (fun q => q.2.1 <= P.length /\ IsI q.1 q.2.1 /\ q.2.2.2.1 = (P.take q.2.1).foldl (fun acc of => Z12h fifo l bin of bs 0 acc) [] /\ q.2.2.2.2 = q.2.2.2.1.map rowI /\ q.2.2.2.2.length = q.2.2.1) (0, 0, 0, [], []) ⟨Nat.zero_le _, ⟨rfl⟩, rfl, rfl, rfl⟩ ?_ ?_
  ·refine Z2a 12 1 rfl ?_;exact Zf [0, 1] ⟨by decide, Z2n, ⟨rfl, rfl, trivial⟩, ⟨rfl, rfl, rfl, rfl, rfl, rfl, rfl, rfl, trivial⟩, rfl, rfl⟩
  rintro ⟨i, k, m, N, NL⟩ ⟨v1, v2, v3, v4, hNl⟩;dsimp only at v1 v2 v3 v4 hNl;have en : A.eqN m (A.len NL) := Ze hA hNl;have hfs : A.fits .i64 (A.sub am 1) := Z14 hA (Z24 hA am 1) (by have := u2.eq; omega);have hnI : IsI (A.sub am 1) r' := ⟨by rw [Z24 hA, u2.eq]; omega⟩;have hrn : r' <= n := by omega
  refine Z2w Z0 hA hS [] ?_;cbv;refine bm (fun c => ?_) (fun c => ?_)
  ·have hk := Z31 hA hPl v2 c;obtain ⟨of, hof⟩ : ∃ of, P[k]? = some of := ⟨_, List.getElem?_eq_getElem hk⟩;have hofm := List.mem_of_getElem? hof;have hw := (Z12p hb hl.lo (n - r)).1 (by rw [<- hP]; exact hofm);obtain ⟨OL, hOL⟩ : ∃ OL, OL = of.map I := ⟨_, rfl⟩;have hOl : OL.length = 4 := by rw [hOL, List.length_map, hw.len]
   have iP := Z1b hA hPl v2 hk;have gP := Z18 hA v2 (show PL[k]? = some (.sl 1 OL) by rw [u3, hOL, List.getElem?_map, hof]; rfl);have hfi := Zy hA v2 (by omega);have hv2 := Zz hA v2;have hms2 : P.length - (k + 1) < P.length - k := by omega
   have hnx : (P.take (k + 1)).foldl (fun acc of => Z12h fifo l bin of bs 0 acc) [] = Z12h fifo l bin of bs 0 N := by rw [List.take_add_one, hof, List.foldl_append, <- v3]; rfl
   have hRes4 : ∀ z ∈ Z12h fifo l bin of bs 0 N, z.length = 4 := fun z hz => by
    rw [<- hnx, Z12r] at hz;rcases hz with h | ⟨o, h1, k', h2⟩
    ·cases h
    ·rw [h2.eq, List.length_set]; exact hP4 o (List.mem_of_mem_take h1)
   have hResL : (Z12h fifo l bin of bs 0 N).length <= 4100 := by
    rw [<- hnx];have h1 := Z12w (fifo := fifo) (lies := l) (bin := bin) (bs := bs) (P.take (k + 1)) [];have h2 : (P.take (k + 1)).length * bs.length <= 1024 * 4 := Nat.mul_le_mul (by rw [List.length_take]; omega) hb;simp only [List.length_nil] at h1;omega
   cbv;refine Zb hS ?_;refine Za (α := Int × Nat × Nat × List (List Int) × List D) (fun q => { env := [(1, .o 0 1 NB), (2, .sl 1 LL), (3, I bin), (4, I am), (5, .cb (.agg [I ins, .sl 1 FL, .sl 5 ML]) 0), (11, .sl 1 PL), (12, .o 1 1 q.2.2.1), (13, I i), (14, I q.1)], H := [.els 1 BL, .els 1 q.2.2.2.2], nt := 97, dfs := [] })
    (fun q => bs.length - q.2.1) (fun q => q.2.1 <= bs.length /\ IsI q.1 q.2.1 /\ Z12h fifo l bin of (bs.drop q.2.1) q.2.1 q.2.2.2.1 = Z12h fifo l bin of bs 0 N /\ q.2.2.2.2 = q.2.2.2.1.map rowI /\ q.2.2.2.2.length = q.2.2.1) (0, 0, m, N, NL) ⟨Nat.zero_le _, ⟨rfl⟩, rfl, v4, hNl⟩ ?_ ?_
   ·exact Zf [0, 1] ⟨by decide, Z2n, ⟨rfl, rfl, trivial⟩, ⟨rfl, rfl, rfl, rfl, rfl, rfl, rfl, rfl, rfl, trivial⟩, rfl, rfl⟩
   rintro ⟨bI, b, m3, N3, NL3⟩ ⟨x1, x2, x3, x4, x5⟩;dsimp only at x1 x2 x3 x4 x5;have hyb : A.cmp .lss bI (A.oi NB) = true -> b < bs.length := fun c => by have := xlt hA c; rw [xoi hA, hNB] at this; have := x2.eq; omega
   have hnb : A.cmp .lss bI (A.oi NB) = false -> b = bs.length := fun c => by have := Z7x hA c; rw [xoi hA, hNB] at this; have := x2.eq; omega
   refine Z2w Z0 hA hS [] ?_;cbv;refine bm (fun c2 => ?_) (fun c2 => ?_)
   ·have hbb := hyb c2;obtain ⟨bv, hbv⟩ : ∃ bv, bs[b]? = some bv := ⟨_, List.getElem?_eq_getElem hbb⟩;have iB : A.inb bI NB := Z4o hA x2 (by omega);have gB := Z18 hA x2 (show BL[b]? = some (I bv) by rw [hB, List.getElem?_map, hbv]; rfl);have iO := Z1b hA hOl x2 (show b < 4 by omega);have gO := Z18 hA x2 (show OL[b]? = some (I (of.getD b 0)) by rw [hOL, List.getElem?_map, Z12l (by rw [hw.len]; omega)]; rfl);have iL := Z1b hA hLl x2 (show b < 4 by omega);have gL := Z18 hA x2 (show LL[b]? = some (I (l.getD b 0)) by rw [hL, List.getElem?_map, Z12l (by rw [hl.len]; omega)]; rfl);have hfb := Zy hA x2 (by omega);have hx2 := Zz hA x2;have hms3 : bs.length - (b + 1) < bs.length - b := by omega
    have hdrop : bs.drop b = bv :: bs.drop (b + 1) := by
     obtain ⟨h1, h2⟩ := List.getElem?_eq_some_iff.1 hbv;rw [List.drop_eq_getElem_cons h1, h2]
    have hskip : bv ≠ bin ∨ l.getD b 0 <= of.getD b 0 -> Z12h fifo l bin of (bs.drop (b + 1)) (b + 1) N3 = Z12h fifo l bin of bs 0 N := fun h => by
     rw [<- x3, hdrop]
     conv => rhs; unfold Z12h
     rw [if_pos h]
    obtain ⟨ov, hov⟩ : ∃ ov, ov = of.getD b 0 := ⟨_, rfl⟩;obtain ⟨lv, hlv⟩ : ∃ lv, lv = l.getD b 0 := ⟨_, rfl⟩;rw [<- hov] at gO;rw [<- hlv] at gL;have en3 : A.eqN m3 (A.len NL3) := Ze hA x5;have hgo1 : A.cmp .neq bv bin = false -> A.cmp .geq ov lv = false -> ¬ (bv ≠ bin ∨ lv <= ov) := fun h1 h2 => by
     subst hA; simp [ar, Z25] at h1 h2; omega
    have hov5 : 0 <= ov /\ ov <= 5 := by rw [hov]; have h1 := hw.tk.nn b; have h2 := hw.tk.le b; have h3 := hl.hi b; omega
    have hfo : A.fits .i64 (A.add ov 1) := Z14 hA (Z58 hA ov 1) (by omega);have iX : A.inb bI 4 := Z4o hA x2 (by omega);obtain ⟨xx, hxx⟩ : ∃ xx, xx = of.set b (ov + 1) := ⟨_, rfl⟩;obtain ⟨XL, hXe⟩ : ∃ XL, XL = xx.map I := ⟨_, rfl⟩;have hXL : A.set OL (A.tn bI) (I (A.add ov 1)) = XL := by rw [Z7n hA x2 rfl, Z58 hA, hXe, hxx, hOL, List.map_set]
    have hxl : xx.length = 4 := by rw [hxx, List.length_set, hw.len]
    have exl : A.eqN 4 (A.len XL) := Ze hA (by rw [hXe, List.length_map, hxl]);have hN3l : m3 = N3.length := by rw [<- x5, x4, List.length_map]
    have hN4l : ∀ z ∈ N3, z.length = 4 := fun z hz => hRes4 z (by rw [<- x3]; exact (Z12u _ _ _).2 (.inl hz));have hm3 : m3 <= 4100 := by rw [hN3l]; exact Nat.le_trans (Z13i (bs.drop b) b N3) (by rw [x3]; exact hResL)
    cbv;refine Z16 Z0 hA hS [0, 1, 2, 3, 4, 5, 6, 7, 8, 9, 10, 11, 12, 13, 14, 15, 16, 17, 18, 19] rfl rfl fun Dk hD => ?_;cbv;refine ⟨iB, ⟨_, gB, ?_⟩⟩;cbv;refine bm (fun c3 => ?_) (fun c3 => ?_)
    ·have hs := hskip (.inl (xne hA c3));cbv;refine ⟨hfb, ?_⟩;refine Z8 (A.add bI 1, b + 1, m3, N3, NL3) [0, 1] ⟨hbb, hx2, hs, x4, x5⟩ hms3 ?_;exact ⟨by decide, Z2n, ⟨rfl, rfl, trivial⟩, ⟨rfl, rfl, rfl, rfl, rfl, rfl, rfl, rfl, rfl, trivial⟩, rfl, rfl⟩
    ·cbv;refine ⟨iP, ⟨_, gP, ?_⟩⟩;cbv;refine ⟨iO, ⟨_, gO, ?_⟩⟩;cbv;refine ⟨iL, ⟨_, gL, ?_⟩⟩;cbv;refine bm (fun c4 => ?_) (fun c4 => ?_)
     ·have hs := hskip (.inr (by rw [<- hov, <- hlv]; subst hA; simpa [ar, Z25] using c4));cbv;refine ⟨hfb, ?_⟩;refine Z8 (A.add bI 1, b + 1, m3, N3, NL3) [0, 1] ⟨hbb, hx2, hs, x4, x5⟩ hms3 ?_;exact ⟨by decide, Z2n, ⟨rfl, rfl, trivial⟩, ⟨rfl, rfl, rfl, rfl, rfl, rfl, rfl, rfl, rfl, trivial⟩, rfl, rfl⟩
     ·cbv;refine ⟨iP, ⟨_, gP, ?_⟩⟩;cbv;have hgo0 : ¬ (bv ≠ bin ∨ l.getD b 0 <= of.getD b 0) := by
       rw [<- hov, <- hlv];exact hgo1 c3 c4
      refine Z4 hS [.sl 1 OL] [] [] rfl rfl rfl rfl rfl rfl rfl rfl (by decide) trivial (Z13h OL 4 hOl (by decide) _ ?_);refine Z3 Z0 hA hS ?_;cbv;refine ⟨iX, ⟨_, gO, ?_⟩⟩;cbv;refine ⟨hfo, iX, ⟨⟨_, gO, ?_⟩⟩⟩;cbv;refine Zb hS ?_;refine Za (α := Int × Nat × Bool) (fun q => { env := [(1, .o 0 1 NB), (2, .sl 1 LL), (3, I bin), (4, I am), (5, .cb (.agg [I ins, .sl 1 FL, .sl 5 ML]) 0), (11, .sl 1 PL), (12, .o 1 1 m3), (13, I i), (14, I bI), (15, .sl 1 XL), (16, .v (.bool q.2.2)), (17, I q.1)], H := [.els 1 BL, .els 1 NL3], nt := 97, dfs := [] })
       (fun q => m3 - q.2.1) (fun q => q.2.1 <= m3 /\ IsI q.1 q.2.1 /\ q.2.2 = decide (xx ∈ N3.take q.2.1)) (0, 0, false) ⟨Nat.zero_le _, ⟨rfl⟩, by simp⟩ ?_ ?_
      ·refine Z39 2 rfl hXL ?_;refine Z1a hA [2] ?_;cbv
       repeat refine ⟨exl, ?_⟩
       exact Zf [0, 1] ⟨by decide, Z2n, ⟨rfl, rfl, trivial⟩, ⟨rfl, rfl, rfl, rfl, rfl, rfl, rfl, rfl, rfl, rfl, rfl, rfl, trivial⟩, rfl, rfl⟩
      rintro ⟨kI, k3, met⟩ ⟨y1, y2, y3⟩;dsimp only at y1 y2 y3;have hyk : A.cmp .lss kI (A.oi m3) = true -> k3 < m3 := fun c => by have := xlt hA c; rw [xoi hA] at this; have := y2.eq; omega
      have hnk : A.cmp .lss kI (A.oi m3) = false -> k3 = m3 := fun c => by have := Z7x hA c; rw [xoi hA] at this; have := y2.eq; omega
      by_cases hk3 : k3 < m3
      ·obtain ⟨z, hz⟩ : ∃ z, N3[k3]? = some z := ⟨_, List.getElem?_eq_getElem (by rw [<- hN3l]; exact hk3)⟩;obtain ⟨ZL, hZL⟩ : ∃ ZL, ZL = z.map I := ⟨_, rfl⟩;have gZ := Z18 hA y2 (show NL3[k3]? = some (.sl 1 ZL) by rw [x4, hZL, List.getElem?_map, hz]; rfl);have iZ : A.inb kI m3 := Z4o hA y2 hk3;have hfk := Zy hA y2 (by omega);have hy2 := Zz hA y2;have hms4 : m3 - (k3 + 1) < m3 - k3 := by omega
       have htk : N3.take (k3 + 1) = N3.take k3 ++ [z] := by rw [List.take_add_one, hz]; rfl
       obtain ⟨r2, hr2⟩ : ∃ r2, r2 = decide (z = xx) := ⟨_, rfl⟩;have hsm := fun Q h => Zaq z xx ZL XL hZL hXe (by have := hN4l z (List.mem_of_getElem? hz); omega) r2 hr2 Q h
       cases met with
       | true =>
        have hm2 : true = decide (xx ∈ N3.take (k3 + 1)) := by rw [Z13s hz, <- y3]; rfl
        refine Z2w Z0 hA hS [] ?_;cbv;refine bm (fun _ => ?_) (fun c => absurd (hnk c) (by omega));cbv;refine Zg hS (f := 25) (b := true) rfl rfl rfl rfl rfl rfl rfl rfl (fun h => Bool.noConfusion h) (fun _ => ?_);refine Z3 Z0 hA hS ?_;cbv;refine ⟨hfk, ?_⟩;refine Z8 (A.add kI 1, k3 + 1, true) [0, 1] ⟨hk3, hy2, hm2⟩ hms4 ?_;exact ⟨by decide, Z2n, ⟨rfl, rfl, trivial⟩, ⟨rfl, rfl, rfl, rfl, rfl, rfl, rfl, rfl, rfl, rfl, rfl, rfl, trivial⟩, rfl, rfl⟩
       | false =>
        have hm2 : r2 = decide (xx ∈ N3.take (k3 + 1)) := by rw [Z13s hz, <- y3, hr2]; rfl
        refine Z2w Z0 hA hS [] ?_;cbv;refine bm (fun _ => ?_) (fun c => absurd (hnk c) (by omega));cbv;refine ⟨iZ, ⟨_, gZ, ?_⟩⟩;cbv;refine Zg hS (b := false) rfl rfl rfl rfl rfl rfl rfl rfl (fun _ => ⟨_, _, [.sl 1 ZL, .sl 1 XL], [], [], rfl, rfl, rfl, by decide, trivial, hsm _ ?_⟩) (fun h => absurd rfl h);refine Z3 Z0 hA hS ?_;cbv;refine ⟨hfk, ?_⟩;refine Z8 (A.add kI 1, k3 + 1, r2) [0, 1] ⟨hk3, hy2, hm2⟩ hms4 ?_;exact ⟨by decide, Z2n, ⟨rfl, rfl, trivial⟩, ⟨rfl, rfl, rfl, rfl, rfl, rfl, rfl, rfl, rfl, rfl, rfl, rfl, trivial⟩, rfl, rfl⟩
      ·have hk3e : k3 = m3 := by omega
       have hme : met = decide (xx ∈ N3) := by rw [y3, hk3e, hN3l, List.take_length]
       obtain ⟨N4, hN4⟩ : ∃ N4, N4 = if xx ∈ N3 then N3 else N3 ++ [xx] := ⟨_, rfl⟩
       have hgo : Z12h fifo l bin of (bs.drop b) b N3 = if fifo then N4 else Z12h fifo l bin of (bs.drop (b + 1)) (b + 1) N4 := by
        rw [hN4, hxx, hov, hdrop]
        conv => lhs; unfold Z12h
        rw [if_neg hgo0]
       rw [x3, <- hnx] at hgo;have hxr : A.app NL3 [.sl 1 XL] = (N3 ++ [xx]).map rowI := by rw [Z33 hA, x4, hXe, List.map_append]; rfl
       have hrm1 : A.room (A.addN m3 1) 24 := Z27 hA (by omega) (by decide);have hm1 : A.addN m3 1 = m3 + 1 := Z2e hA _ _;have hxl2 : (A.app NL3 [.sl 1 XL]).length = A.addN m3 1 := by rw [hm1, Z33 hA, List.length_append, x5]; rfl
       have hb1 : b + 1 <= bs.length := by omega
       by_cases hin : xx ∈ N3
       ·have hmt : met = true := by rw [hme]; exact decide_eq_true hin
        rw [if_pos hin] at hN4;rw [hN4] at hgo;have hbn : A.bnot met = false := by rw [hmt]; subst hA; rfl
        cases hf : fifo with
        | true =>
         rw [hf] at hgo gF hP2 hq hnx x3;have hgo2 : N3 = (P.take (k + 1)).foldl (fun acc of => Z12h true l bin of bs 0 acc) [] := hgo.symm;refine Z2w Z0 hA hS [] ?_;cbv;refine bm (fun c => absurd (hyk c) hk3) (fun _ => ?_);cbv;refine Z7 ?_;cbv;refine bmF hbn ?_;cbv;refine ⟨iF, ⟨_, gF, ?_⟩⟩;cbv;refine Z7 ?_;cbv;refine ⟨hfi, ?_⟩;refine Z8 (A.add i 1, k + 1, m3, N3, NL3) [0, 1] ⟨hk, hv2, hgo2, x4, x5⟩ hms2 ?_;exact ⟨by decide, Z2n, ⟨rfl, rfl, trivial⟩, ⟨rfl, rfl, rfl, rfl, rfl, rfl, rfl, rfl, trivial⟩, rfl, rfl⟩
        | false =>
         rw [hf] at hgo gF hP2 hq hnx x3;have hgo2 : Z12h false l bin of (bs.drop (b + 1)) (b + 1) (N3) = Z12h false l bin of bs 0 N := by rw [<- hnx]; exact hgo.symm
         refine Z2w Z0 hA hS [] ?_;cbv;refine bm (fun c => absurd (hyk c) hk3) (fun _ => ?_);cbv;refine Z7 ?_;cbv;refine bmF hbn ?_;cbv;refine ⟨iF, ⟨_, gF, ?_⟩⟩;cbv;refine ⟨hfb, ?_⟩;refine Z8 (A.add bI 1, b + 1, m3, N3, NL3) [0, 1] ⟨hbb, hx2, hgo2, x4, x5⟩ hms3 ?_;exact ⟨by decide, Z2n, ⟨rfl, rfl, trivial⟩, ⟨rfl, rfl, rfl, rfl, rfl, rfl, rfl, rfl, rfl, trivial⟩, rfl, rfl⟩
       ·have hmt : met = false := by rw [hme]; exact decide_eq_false hin
        rw [if_neg hin] at hN4;rw [hN4] at hgo;have hbn : A.bnot met = true := by rw [hmt]; subst hA; rfl
        cases hf : fifo with
        | true =>
         rw [hf] at hgo gF hP2 hq hnx x3;have hgo2 : N3 ++ [xx] = (P.take (k + 1)).foldl (fun acc of => Z12h true l bin of bs 0 acc) [] := hgo.symm;refine Z2w Z0 hA hS [] ?_;cbv;refine bm (fun c => absurd (hyk c) hk3) (fun _ => ?_);cbv;refine Z7 ?_;cbv;refine bmT hbn ?_;cbv;refine ⟨en3, Ze hA rfl, hrm1, ?_⟩;cbv;refine ⟨iF, ⟨_, gF, ?_⟩⟩;cbv;refine Z7 ?_;cbv;refine ⟨hfi, ?_⟩;refine Z8 (A.add i 1, k + 1, A.addN m3 1, N3 ++ [xx], A.app NL3 [.sl 1 XL]) [0, 3] ⟨hk, hv2, hgo2, hxr, hxl2⟩ hms2 ?_;exact ⟨by decide, Z2n, ⟨rfl, rfl, trivial⟩, ⟨rfl, rfl, rfl, rfl, rfl, rfl, rfl, rfl, trivial⟩, rfl, rfl⟩
        | false =>
         rw [hf] at hgo gF hP2 hq hnx x3;have hgo2 : Z12h false l bin of (bs.drop (b + 1)) (b + 1) (N3 ++ [xx]) = Z12h false l bin of bs 0 N := by rw [<- hnx]; exact hgo.symm
         refine Z2w Z0 hA hS [] ?_;cbv;refine bm (fun c => absurd (hyk c) hk3) (fun _ => ?_);cbv;refine Z7 ?_;cbv;refine bmT hbn ?_;cbv;refine ⟨en3, Ze hA rfl, hrm1, ?_⟩;cbv;refine ⟨iF, ⟨_, gF, ?_⟩⟩;cbv;refine ⟨hfb, ?_⟩;refine Z8 (A.add bI 1, b + 1, A.addN m3 1, N3 ++ [xx], A.app NL3 [.sl 1 XL]) [0, 3] ⟨hbb, hx2, hgo2, hxr, hxl2⟩ hms3 ?_;exact ⟨by decide, Z2n, ⟨rfl, rfl, trivial⟩, ⟨rfl, rfl, rfl, rfl, rfl, rfl, rfl, rfl, rfl, trivial⟩, rfl, rfl⟩
   ·have hb2 := hnb c2;have hN3 : N3 = (P.take (k + 1)).foldl (fun acc of => Z12h fifo l bin of bs 0 acc) [] := by rw [hnx, <- x3, hb2, List.drop_length]; rfl
    cbv;refine Z7 ?_;cbv;refine ⟨hfi, ?_⟩;refine Z8 (A.add i 1, k + 1, m3, N3, NL3) [0, 1] ⟨hk, hv2, hN3, x4, x5⟩ hms2 ?_;exact ⟨by decide, Z2n, ⟨rfl, rfl, trivial⟩, ⟨rfl, rfl, rfl, rfl, rfl, rfl, rfl, rfl, trivial⟩, rfl, rfl⟩
  ·have hk : k = P.length := by have := Z21 hA hPl v2 c; omega
   have hN2 : NL = (Z12j fifo bs l bin (n - r')).map rowI := by rw [v4, v3, hP2, hk, List.take_length]
   cbv;refine Z7 ?_;cbv;refine ⟨hfs, ?_⟩;refine Z1a hA [1] ?_;cbv;refine ⟨en, en, en, ?_⟩;refine Z8 (A.sub am 1, r', NL) [0] ⟨hrn, hnI, hN2⟩ hms ?_;exact ⟨by decide, Z2n, ⟨rfl, trivial⟩, ⟨rfl, rfl, rfl, rfl, rfl, rfl, trivial⟩, rfl, rfl⟩
 ·have hr0 : r = 0 := by have := u2.eq; subst hA; simp [ar, Z25] at c; omega
  rw [hr0] at u3;have hend := hq PL u3;cbv;refine Z7 ?_;cbv;exact Z2 [0] (by decide) Z2n (H' := [.els 1 BL]) (d' := .sl 1 PL) ⟨rfl, trivial⟩ rfl (Z1 hend)
end Go.Proofs.Ytecfpfhkicapeaa

namespace Go.Proofs.Ytecfpfhkicapeaa
open Go Go.Abs Go.Proofs Go.Batch
def Z12g (tb : List (List Int)) : List (List D) := tb.map fun r => r.map I
theorem Z139 {tb : List (List Int)} {k : Nat} {r : List Int} (h : tb[k]? = some r) : (Z12g tb).getD k [] = r.map I := by
 rw [List.getD_eq_getElem?_getD, Z12g, List.getElem?_map, h]; rfl
theorem Z13w {tb : List (List Int)} {k : Nat} {l : List Int} (hl : tb[k]? = some l) (j : Nat) : (Z12g (tb.take (k + 1))).getD j [] = if j = k then l.map I else (Z12g (tb.take k)).getD j [] := by
 have htk : tb.take (k + 1) = tb.take k ++ [l] := by rw [List.take_add_one, hl]; rfl
 have hk : k < tb.length := (List.getElem?_eq_some_iff.1 hl).1;rw [htk, Z12g, List.map_append, List.getD_eq_getElem?_getD];have hlen : ((tb.take k).map fun r => r.map I).length = k := by simp; omega
 by_cases e : j = k
 ·rw [if_pos e, List.getElem?_append_right (by omega), hlen, e]; simp
 ·rw [if_neg e]
  by_cases h2 : j < k
  ·rw [List.getElem?_append_left (by omega), List.getD_eq_getElem?_getD]; rfl
  ·rw [List.getElem?_append_right (by omega), hlen, List.getElem?_eq_none (by simp; omega), List.getD_eq_getElem?_getD, List.getElem?_eq_none (by simp [Z12g]; omega)]
theorem Z13a {tb : List (List Int)} {n : Nat} {r : List Int} (hn : n < tb.length) (j : Nat) : (Z12g (tb.set n r)).getD j [] = if j = n then r.map I else (Z12g tb).getD j [] := by
 rw [List.getD_eq_getElem?_getD, List.getD_eq_getElem?_getD, Z12g, Z12g, List.getElem?_map, List.getElem?_map, List.getElem?_set]
 by_cases e : n = j
 ·subst e; rw [if_pos rfl, if_pos hn, if_pos rfl]; rfl
 ·rw [if_neg e, if_neg (fun h => e h.symm)]
set_option maxRecDepth 20000 in
set_option maxHeartbeats 8000000 in
theorem Z14o (tb : List (List Int)) (N : Nat) (hN : N = tb.length) (hN20 : N <= 20) (h4 : ∀ l ∈ tb, l.length = 4) (BL : List D) (hB : BL = tb.map rowI) (Q)
  (hq : ∀ xs, GridOk xs (Z12g tb) -> xs.length = N -> Q (RA.ret (.o 0 1 N)) [.els 1 (Z3f xs (Z12g tb) 0), .ob (.gr 1 (Z3t xs (Z12g tb) 0))]) : CallA Try.prog 126 [.sl 1 BL] [] Q := by
 obtain ⟨A, hA⟩ : ∃ A, A = ar := ⟨_, rfl⟩;have hBl : BL.length = N := by rw [hB, hN]; simp
 have hok0 : GridOk [] (Z12g (tb.take 0)) := ⟨fun j hj => by simp at hj, fun j => by simp [Z12g]; exact .nil⟩;refine Z38 Z0 hA [] Try.func126 rfl rfl rfl rfl rfl fun S hS => ?_;cbv;refine Zb hS ?_;refine Za (α := Int × Nat × List Value) (fun q => { env := [(0, .sl 1 BL), (3, .o 0 1 q.2.1), (4, I q.1)], H := [.els 1 (Z3f q.2.2 (Z12g (tb.take q.2.1)) 0), .ob (.gr 1 (Z3t q.2.2 (Z12g (tb.take q.2.1)) 0))], nt := 20, dfs := [] })
  (fun q => N - q.2.1) (fun q => IsI q.1 q.2.1 /\ q.2.1 <= N /\ q.2.2.length = q.2.1 /\ GridOk q.2.2 (Z12g (tb.take q.2.1))) (0, 0, []) ⟨⟨rfl⟩, Nat.zero_le _, rfl, hok0⟩ ?_ ?_
 ·refine Z2a 3 1 rfl ?_;refine Zpw 1 [] (fun j e row h => by simp at h) ?_;exact Zf [0, 1] ⟨by decide, Z9, ⟨rfl, rfl, trivial⟩, ⟨rfl, rfl, rfl, trivial⟩, rfl, rfl⟩
 rintro ⟨i, k, xs⟩ ⟨u1, u2, u3, u4⟩;dsimp only at u1 u2 u3 u4;have hmk1 : A.cmp .lss i (A.oi (A.len BL)) = false -> N <= k := fun h => Z21 hA hBl u1 h;have hmk2 : A.cmp .lss i (A.oi (A.len BL)) = true -> k < N := fun h => Z31 hA hBl u1 h
 by_cases hk : k < N
 ·obtain ⟨l, hl⟩ : ∃ l, tb[k]? = some l := ⟨_, List.getElem?_eq_getElem (by omega)⟩;obtain ⟨r, hr⟩ : ∃ r, r = l.map I := ⟨_, rfl⟩;have hr4 : r.length = 4 := by rw [hr, List.length_map]; exact h4 l (List.mem_of_getElem? hl)
  have hr0 : 0 < r.length := by omega
  have hBk : BL[k]? = some (.sl 1 r) := by rw [hB, List.getElem?_map, hl, hr]; rfl
  have hfr : FrL r := by rw [hr]; exact ⟨fun d hd => by obtain ⟨x, -, rfl⟩ := List.mem_map.1 hd; rfl⟩
  obtain ⟨rows, hrows⟩ : ∃ rows, rows = Z12g (tb.take k) := ⟨_, rfl⟩;obtain ⟨rows', hrows'⟩ : ∃ rows', rows' = Z12g (tb.take (k + 1)) := ⟨_, rfl⟩;have hstep : ∀ j, rows'.getD j [] = if j = k then r else rows.getD j [] := fun j => by rw [hrows', hrows, hr]; exact Z13w hl j
  have i1 := Z1b hA hBl u1 hk;have g1 := Z18 hA u1 hBk;have hf1 := Zy hA u1 (by omega);have hu1 := Zz hA u1;have hms : N - (k + 1) < N - k := by omega
  rw [<- hrows] at u4 ⊢;obtain ⟨es, hes⟩ : ∃ es, es = Z3f xs rows 0 := ⟨_, rfl⟩;obtain ⟨gn, hgn⟩ : ∃ gn, gn = Z3t xs rows 0 := ⟨_, rfl⟩;have hel : es.length = k := by rw [hes, Z4p, u3]
  have hgl : gn.length = k := by rw [hgn, Z3m, u3]
  rw [<- hes, <- hgn];have hroom : A.room (A.addN k 1) 24 := by rw [Z2e hA]; exact Zj1 hA (by omega) (by decide)
  refine Z2w Z0 hA hS [] ?_;cbv;refine bm (fun _ => ?_) (fun c => absurd (hmk1 c) (by omega));cbv;refine ⟨i1, ⟨_, g1, ?_⟩⟩;cbv;refine Z4 hS [.sl 1 r] [] [] rfl rfl rfl rfl rfl rfl rfl rfl (by decide) trivial (Z13h r 4 hr4 (by decide) _ ?_);refine Zuo (Z11p (ents := gn) (row := r) 1 2 k 16 hr4.symm rfl rfl rfl (Nat.le_of_eq hgl.symm) (fun e row' he => by rw [List.getElem?_eq_none (Nat.le_of_eq hgl)] at he; cases he) hr0 fun x hx1 => ?_);have hap := Z120 (x := x) u4 u3 hr0 hfr hstep;rw [<- hes, <- hgn] at hap;obtain ⟨hap1, hap2, hap3⟩ := hap;obtain ⟨gn2, hgn2⟩ : ∃ gn2, gn2 = Z3t (xs ++ [x]) rows' 0 := ⟨_, rfl⟩;rw [<- hgn2] at hap2;refine Zog 1 rfl (congrArg (fun g => Blk.ob (.gr 1 g)) hap2) (Z7 ?_);have hnx1 : A.app es [.v x] = Z3f (xs ++ [x]) rows' 0 := by rw [Z33 hA]; exact hap1
  rw [hrows'] at hap3;have hxl : (xs ++ [x]).length = k + 1 := by rw [List.length_append, u3]; rfl
  have en : A.eqN k (A.len es) := Ze hA hel;have ekk : A.addN k 1 = k + 1 := Z2e hA _ _;refine Z3 Z0 hA hS ?_;cbv;refine ⟨en, Ze hA rfl, hroom, hf1, ?_⟩;refine Z8 (A.add i 1, k + 1, xs ++ [x]) [4, 1] ⟨hu1, hk, hxl, hap3⟩ hms ?_;exact ⟨by decide, Z9, ⟨by rw [<- hrows', <- hnx1]; rfl, by rw [<- hrows', <- hgn2]; rfl, trivial⟩, ⟨rfl, by rw [<- ekk]; rfl, rfl, trivial⟩, rfl, rfl⟩
 ·have hkN : k = N := by omega
  have htk : tb.take k = tb := List.take_of_length_le (by omega);rw [htk] at u4 ⊢;have hq' := hq xs u4 (by rw [u3, hkN]);rw [<- hkN] at hq';obtain ⟨es, hes⟩ : ∃ es, es = Z3f xs (Z12g tb) 0 := ⟨_, rfl⟩;obtain ⟨gn, hgn⟩ : ∃ gn, gn = Z3t xs (Z12g tb) 0 := ⟨_, rfl⟩;rw [<- hes, <- hgn] at hq' ⊢;refine Z2w Z0 hA hS [] ?_;cbv;refine bm (fun c => absurd (hmk2 c) hk) (fun _ => ?_);cbv;refine Z7 ?_;cbv;exact Z2 [0, 1] (by decide) Z9 (H' := [.els 1 es, .ob (.gr 1 gn)]) (d' := .o 0 1 k) ⟨rfl, rfl, trivial⟩ rfl (Z1 hq')
def GI (tb : List (List Int)) (N : Nat) (GE : List D) (GN : List Ent) : Prop := ∃ xs : List Value, xs.length = N /\ GridOk xs (Z12g tb) /\ GE = Z3f xs (Z12g tb) 0 /\ GN = Z3t xs (Z12g tb) 0
set_option maxRecDepth 40000 in
set_option maxHeartbeats 16000000 in
theorem Z14s (N : Nat) (hN4 : N <= 4) (w : Wd) (hw : WOk N w) (of : List Int) (hof : of.length = 4) (hofb : ∀ b, 0 <= of.getD b 0 /\ of.getD b 0 <= 1000) (n : Nat) (hn : n < N) (inst : Int) (hi : IsI inst n) (HL OL : List D) (hHL : HL = w.has.map rowI) (hOL : OL = of.map I) (Q)
  (hq : ∀ GL, GL = (Z12m w of n).has.map rowI -> Q (RA.ret (.agg [rowI (Z2c w.lies of), .sl 1 GL])) []) : CallA Try.prog 108 [.agg [rowI w.lies, .sl 1 HL], .sl 1 OL, I inst] [] Q := by
 obtain ⟨A, hA⟩ : ∃ A, A = ar := ⟨_, rfl⟩;obtain ⟨LL, hLL⟩ : ∃ LL, LL = w.lies.map I := ⟨_, rfl⟩;have hLe : rowI w.lies = .sl 1 LL := by rw [hLL]; rfl
 have hLl : LL.length = 4 := by rw [hLL, List.length_map, hw.l.len]
 have hOl : OL.length = 4 := by rw [hOL, List.length_map, hof]
 have hHl : HL.length = N := by rw [hHL, List.length_map, hw.len]
 obtain ⟨hr, hr1, hr2, hr3⟩ := hw.at_ hn;rw [hLe];have hgr : Z12m w of n = ⟨Z2c w.lies of, w.has.set n (upK (· + ·) hr of 4)⟩ := by unfold Z12m; rw [hr2]; rfl
 have hrows := fun Q h => Z14o w.has N hw.len.symm (by omega) hw.row HL hHL Q h;refine Z38 Z0 hA [] Try.func108 rfl rfl rfl rfl rfl fun S hS => ?_;cbv;refine Z16 Z0 hA hS [7, 0, 3, 1, 4, 2, 5, 6, 8] rfl rfl fun Dk hD => ?_;cbv;refine Zq hA hD [.sl 1 LL] [] [] rfl rfl rfl rfl rfl rfl rfl rfl rfl rfl rfl (by decide) trivial (Z13h LL 4 hLl (by decide) _ ⟨by cbv, Zx Z0 hA hD ?_⟩);cbv;refine Zq hA hD [.sl 1 HL] [] [] rfl rfl rfl rfl rfl rfl rfl rfl rfl rfl rfl (by decide) trivial (hrows _ fun xs0 hxo hxl => ?_);obtain ⟨GE0, hGE0⟩ : ∃ GE0, GE0 = Z3f xs0 (Z12g w.has) 0 := ⟨_, rfl⟩;obtain ⟨GN0, hGN0⟩ : ∃ GN0, GN0 = Z3t xs0 (Z12g w.has) 0 := ⟨_, rfl⟩;rw [<- hGE0, <- hGN0];refine ⟨by cbv, Zx Z0 hA hD ?_⟩;cbv;have hset0 : w.has.set n (upK (· + ·) hr of 0) = w.has := by
  rw [Z13p _ hr3];obtain ⟨h1, h2⟩ := List.getElem?_eq_some_iff.1 hr1;rw [<- h2]; exact List.set_getElem_self h1
 have hG0 : GI (w.has.set n (upK (· + ·) hr of 0)) N GE0 GN0 := by rw [hset0]; exact ⟨xs0, hxl, hxo, hGE0, hGN0⟩
 have hL0 : LL = (upK (· - ·) w.lies of 0).map I := by rw [Z13p _ hw.l.len]; exact hLL
 clear hset0 hrows hLL hHL hHl;refine Zb hS ?_;refine Za (α := Int × Nat × List D × List D × List Ent) (fun q => { env := [(1, .sl 1 OL), (2, I inst), (6, .b 4 0), (7, .b 3 0), (8, I q.1)], H := [.els 1 q.2.2.1, .els 1 q.2.2.2.1, .ob (.gr 1 q.2.2.2.2), .box (.agg [.o 0 1 4, .o 1 1 N]), .box (.agg [.v (.slice none 0 0), .v (.slice none 0 0)])], nt := 57, dfs := [] })
  (fun q => 4 - q.2.1) (fun q => q.2.1 <= 4 /\ IsI q.1 q.2.1 /\ q.2.2.1 = (upK (· - ·) w.lies of q.2.1).map I /\ GI (w.has.set n (upK (· + ·) hr of q.2.1)) N q.2.2.2.1 q.2.2.2.2) (0, 0, LL, GE0, GN0) ⟨Nat.zero_le _, ⟨rfl⟩, hL0, hG0⟩ ?_ ?_
 ·exact Zf [3, 4, 5, 2, 1] ⟨by decide, Z9, ⟨rfl, rfl, rfl, rfl, rfl, trivial⟩, ⟨rfl, rfl, rfl, rfl, rfl, trivial⟩, rfl, rfl⟩
 rintro ⟨bI, k, LLc, GE, GN⟩ ⟨u1, u2, u3, u4⟩;dsimp only at u1 u2 u3 u4;have hyes : A.cmp .lss bI (A.oi (A.len OL)) = true -> k < 4 := fun c => Z31 hA hOl u2 c;have hno : A.cmp .lss bI (A.oi (A.len OL)) = false -> 4 <= k := fun c => Z21 hA hOl u2 c;obtain ⟨xs, x1, x2, x3, x4⟩ := u4
 by_cases hk : k < 4
 ·obtain ⟨lv, hlv⟩ : ∃ lv, lv = w.lies.getD k 0 := ⟨_, rfl⟩;obtain ⟨ov, hov⟩ : ∃ ov, ov = of.getD k 0 := ⟨_, rfl⟩;obtain ⟨hv, hhv⟩ : ∃ hv, hv = hr.getD k 0 := ⟨_, rfl⟩;have hlb : 0 <= lv /\ lv <= 5 := by rw [hlv]; exact ⟨hw.l.lo k, hw.l.hi k⟩
  have hob : 0 <= ov /\ ov <= 1000 := by rw [hov]; exact hofb k
  have hhb : 0 <= hv /\ hv <= 15 := by rw [hhv, <- hr2]; exact hw.b n k hn hk
  have iO := Z1b hA hOl u2 hk;have gO := Z18 hA u2 (show OL[k]? = some (I ov) by rw [hOL, List.getElem?_map, Z12l (by omega), hov]; rfl);have iL : A.inb bI 4 := Z4o hA u2 hk;have gL := Z18 hA u2 (show LLc[k]? = some (I lv) by rw [u3, List.getElem?_map, Z12l (by rw [Z12o]; exact hk), Z12v _ _ _ _ hk, if_neg (Nat.lt_irrefl _), hlv]; rfl);have fs : A.fits .i64 (A.sub lv ov) := Z14 hA (Z24 hA lv ov) (by omega);have fa : A.fits .i64 (A.add hv ov) := Z14 hA (Z58 hA hv ov) (by omega);have hf1 := Zy hA u2 (by omega);have hu2 := Zz hA u2;have hms : 4 - (k + 1) < 4 - k := by omega
  have hL2 : A.set LLc (A.tn bI) (I (A.sub lv ov)) = (upK (· - ·) w.lies of (k + 1)).map I := by
   rw [Z7n hA u2 rfl, Z24 hA, u3, <- Z13q (· - ·) w.lies of hk, List.map_set, <- hlv, <- hov]
  obtain ⟨tb, htb⟩ : ∃ tb, tb = w.has.set n (upK (· + ·) hr of k) := ⟨_, rfl⟩;rw [<- htb] at x2 x3 x4;have htl : n < w.has.length := by rw [hw.len]; exact hn
  have htn : tb[n]? = some (upK (· + ·) hr of k) := by rw [htb]; exact List.getElem?_set_self htl
  obtain ⟨row, hrow⟩ : ∃ row, row = (Z12g tb).getD n [] := ⟨_, rfl⟩;have hrF : row = (upK (· + ·) hr of k).map I := by rw [hrow]; exact Z139 htn
  have hrl : 4 = row.length := by rw [hrF, List.length_map, Z12o]
  have gR := Z18 hA u2 (show row[k]? = some (I hv) by rw [hrF, List.getElem?_map, Z12l (by rw [Z12o]; exact hk), Z12v _ _ _ _ hk, if_neg (Nat.lt_irrefl _), hhv]; rfl);obtain ⟨es, hes⟩ : ∃ es, es = (Z3f xs (Z12g tb) 0).set n (.o 5 1 4) := ⟨_, rfl⟩;obtain ⟨gn, hgn⟩ : ∃ gn, gn = (Z3t xs (Z12g tb) 0).set n (xs.getD n Z5t, none) := ⟨_, rfl⟩;have het : es[n]? = some (.o 5 1 4) := by rw [hes, List.getElem?_set_self (by rw [Z4p, x1]; exact hn)]
  have iE : A.inb inst N := Z4o hA hi hn;have gE := Z18 hA hi het;obtain ⟨row2, hrow2'⟩ : ∃ row2, row2 = A.set row (A.tn bI) (I (A.add hv ov)) := ⟨_, rfl⟩;have hrow2 := hrow2'.symm;have hrow3 : row2 = (upK (· + ·) hr of (k + 1)).map I := by rw [hrow2', Z7n hA u2 rfl, Z58 hA, hrF, <- Z13q (· + ·) hr of hk, List.map_set, <- hhv, <- hov]
  have hr2l : row2.length = 4 := by rw [hrow3, List.length_map, Z12o]
  have hr0 : 0 < row2.length := by omega
  have hfr : FrL row2 := by rw [hrow3]; exact ⟨fun d hd => by obtain ⟨x, -, rfl⟩ := List.mem_map.1 hd; rfl⟩
  have hst : ∀ j, (Z12g (w.has.set n (upK (· + ·) hr of (k + 1)))).getD j [] = if j = n then row2 else (Z12g tb).getD j [] := fun j => by
   rw [Z13a htl, htb, Z13a htl, hrow3]
   by_cases e : j = n
   ·rw [if_pos e, if_pos e]
   ·rw [if_neg e, if_neg e, if_neg e]
  have hes2 : es = (Z3f xs (Z12g tb) 0).set n (.o 5 1 row2.length) := by rw [hr2l]; exact hes
  rw [x3, x4];refine Ziq (Z130 x2 (by rw [x1]; exact hn) (Nat.zero_le _) hrow ?_);rw [<- hrl, <- hes, <- hgn];refine Z7 ?_;refine Z2w Z0 hA hS [] ?_;cbv;refine bm (fun _ => ?_) (fun c => absurd (hno c) (by omega));cbv;refine Z16 Z0 hA hS [0, 1, 2, 3, 4, 5, 6, 7, 8, 9, 10, 11, 12, 13, 14] rfl rfl fun Dk hD => ?_;cbv;refine ⟨iL, ⟨_, gL, ?_⟩⟩;cbv;refine ⟨iO, ⟨_, gO, ?_⟩⟩;cbv;refine ⟨fs, iL, ⟨⟨_, gL, ?_⟩⟩⟩;cbv;refine Z16 Z0 hA hS [0, 1, 2, 3, 4, 5, 6, 7, 8, 9, 10, 11, 12, 13, 14, 15, 16, 17, 18, 19, 20] rfl rfl fun Dk2 hD2 => ?_;cbv;refine ⟨iE, ⟨_, gE, ?_⟩⟩;cbv;refine ⟨iE, ⟨_, gE, ?_⟩⟩;cbv;refine ⟨iL, ⟨_, gR, ?_⟩⟩;cbv;refine ⟨iO, ⟨_, gO, ?_⟩⟩;cbv;refine ⟨fa, iL, ⟨⟨_, gR, ?_⟩⟩⟩;cbv;refine ⟨hf1, ?_⟩;refine Z39 5 rfl hrow2 ?_;refine Z145 x2 (by rw [x1]; exact hn) hr0 hfr hst hes2 hgn (.inr ⟨7, 3, 0, .agg [.o 0 1 4, .o 1 1 N], 1, 1, N, rfl, rfl, rfl⟩) fun xs' hok' hl' => ?_;have hG2 : GI (w.has.set n (upK (· + ·) hr of (k + 1))) N (Z3f xs' (Z12g (w.has.set n (upK (· + ·) hr of (k + 1)))) 0) (Z3t xs' (Z12g (w.has.set n (upK (· + ·) hr of (k + 1)))) 0) := ⟨xs', hl'.trans x1, hok', rfl, rfl⟩;obtain ⟨GE', hGE'⟩ : ∃ GE', GE' = Z3f xs' (Z12g (w.has.set n (upK (· + ·) hr of (k + 1)))) 0 := ⟨_, rfl⟩;obtain ⟨GN', hGN'⟩ : ∃ GN', GN' = Z3t xs' (Z12g (w.has.set n (upK (· + ·) hr of (k + 1)))) 0 := ⟨_, rfl⟩;rw [<- hGE', <- hGN'] at hG2 ⊢;refine Z8 (A.add bI 1, k + 1, A.set LLc (A.tn bI) (I (A.sub lv ov)), GE', GN') [0, 1, 2, 3, 4] ⟨hk, hu2, hL2, hG2⟩ hms ?_;exact ⟨by decide, Z9, ⟨rfl, rfl, rfl, rfl, rfl, trivial⟩, ⟨rfl, rfl, rfl, rfl, rfl, trivial⟩, rfl, rfl⟩
 ·have hk4 : k = 4 := by omega
  rw [hk4] at u3 x2 x3 x4;rw [Z14m] at u3;obtain ⟨tb, htb⟩ : ∃ tb, tb = w.has.set n (upK (· + ·) hr of 4) := ⟨_, rfl⟩;rw [<- htb] at x2 x3 x4;have hend := hq ((List.range N).map fun j => .sl 1 ((Z12g tb).getD j [])) (by
   rw [hgr, <- htb]
   refine List.ext_getElem? fun i => ?_
   have htl : tb.length = N := by rw [htb, List.length_set, hw.len]
   by_cases hi : i < N
   ·obtain ⟨r, hr⟩ : ∃ r, tb[i]? = some r := ⟨_, List.getElem?_eq_getElem (by omega)⟩
    rw [List.getElem?_map, List.getElem?_range hi, List.getElem?_map, hr]
    show some (D.sl 1 ((Z12g tb).getD i [])) = some (D.sl 1 (r.map I))
    rw [Z139 hr]
   ·rw [List.getElem?_eq_none (by simp; omega), List.getElem?_eq_none (by simp; omega)])
  have hre : rowI (Z2c w.lies of) = .sl 1 LLc := by rw [u3]; rfl
  rw [hre] at hend;have eL : A.eqN 4 (A.len LLc) := Ze hA (by rw [u3]; rfl);have eG : A.eqN N (A.len ((List.range N).map fun j => D.sl 1 ((Z12g tb).getD j []))) := Ze hA (by simp);refine Z2w Z0 hA hS [] ?_;cbv;refine bm (fun c => absurd (hyes c) hk) (fun _ => ?_);cbv;refine Z60 (a := { env := [(6, .b 4 0), (7, .b 3 0)], H := [.els 1 LLc, .els 1 GE, .ob (.gr 1 GN), .box (.agg [.o 0 1 4, .o 1 1 N]), .box (.agg [.v (.slice none 0 0), .v (.slice none 0 0)])], nt := 57, dfs := [] }) [0, 1, 2, 3, 4] ⟨by decide, Z9, ⟨rfl, rfl, rfl, rfl, rfl, trivial⟩, ⟨rfl, rfl, trivial⟩, rfl, rfl⟩ ?_;rw [x3, x4];refine Z13u x2 x1 (fun es bg => ⟨by decide, Z9, ⟨rfl, rfl, rfl, rfl, rfl, trivial⟩, ⟨rfl, rfl, trivial⟩, rfl, rfl⟩) ?_;obtain ⟨GL, hGL⟩ : ∃ GL, GL = (List.range N).map fun j => D.sl 1 ((Z12g tb).getD j []) := ⟨_, rfl⟩;obtain ⟨GX, hGX⟩ : ∃ GX, GX = Z3t xs (Z12g tb) N := ⟨_, rfl⟩;rw [<- hGL] at eG hend ⊢;rw [<- hGX];refine Z1a hA [0, 1] ?_;cbv;refine ⟨eL, eG, ?_⟩;refine Z7 ?_;cbv;exact Z2 [] (by decide) Z9 (H' := []) (d' := .agg [.sl 1 LLc, .sl 1 GL]) trivial rfl (Z1 hend)
end Go.Proofs.Ytecfpfhkicapeaa
