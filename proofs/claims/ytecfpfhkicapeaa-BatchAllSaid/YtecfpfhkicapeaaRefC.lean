/- Part RefC of the proofs about the benches of the accordion maker: see the last text of the claim for what is proved. -/
import Derived.Test.YtecfpfhkicapeaaRefA
import Derived.Test.YtecfpfhkicapeaaSaysB
import Derived.Test.YtecfpfhkicapeaaBatL
import Derived.Test.YtecfpfhkicapeaaWroA
import Derived.Test.YtecfpfhkicapeaaBatI
set_option linter.unusedVariables false
set_option linter.unusedSimpArgs false
set_option linter.unnecessarySimpa false
set_option linter.constructorNameAsVariable false

namespace Go.Batch
structure LyI (S : List (Ste Int)) (f : List Int -> Int) (n : Nat) (sm : Bool) (lo hi : Int) : Prop where
 no : sm = false -> ∀ s ∈ S, ¬ Z1i s < n
 lo1 : sm = true -> ∃ s ∈ S, f s.1 = lo
 hi1 : sm = true -> ∃ s ∈ S, f s.1 = hi
 bd : ∀ s ∈ S, Z1i s < n -> lo <= f s.1 /\ f s.1 <= hi
theorem LyI.start (S : List (Ste Int)) (f : List Int -> Int) : LyI S f 0 false 0 0 :=
 ⟨fun _ s _ h => absurd h (Nat.not_lt_zero _), fun h => Bool.noConfusion h, fun h => Bool.noConfusion h, fun s _ h => absurd h (Nat.not_lt_zero _)⟩
theorem LyI.skip {S : List (Ste Int)} {f : List Int -> Int} {n : Nat} {sm : Bool} {lo hi : Int} (h : LyI S f n sm lo hi) (hs : ∀ s ∈ S, LOk s.1 /\ 0 <= s.2) (hn : ¬ Z3o n ∈ S) : LyI S f (n + 1) sm lo hi := by
 have key : ∀ s ∈ S, Z1i s < n + 1 -> Z1i s < n := fun s h1 h2 => by
  rcases Nat.lt_or_eq_of_le (Nat.le_of_lt_succ h2) with g | g
  ·exact g
  ·have := Z57 (hs s h1).1 (hs s h1).2;rw [g] at this;rw [this] at hn;exact absurd h1 hn
 exact ⟨fun h1 s h2 h3 => h.no h1 s h2 (key s h2 h3), h.lo1, h.hi1, fun s h1 h2 => h.bd s h1 (key s h1 h2)⟩
theorem LyI.first {S : List (Ste Int)} {f : List Int -> Int} {n : Nat} {lo hi : Int} (h : LyI S f n false lo hi) (hs : ∀ s ∈ S, LOk s.1 /\ 0 <= s.2) (hn : Z3o n ∈ S) : LyI S f (n + 1) true (f (Z1z (n % 1296))) (f (Z1z (n % 1296))) :=
 ⟨fun h => Bool.noConfusion h, fun _ => ⟨_, hn, rfl⟩, fun _ => ⟨_, hn, rfl⟩, fun s h1 h2 => by
  rcases Nat.lt_or_eq_of_le (Nat.le_of_lt_succ h2) with g | g
  ·exact absurd g (h.no rfl s h1)
  ·have := Z57 (hs s h1).1 (hs s h1).2
   rw [g] at this
   rw [<- this]
   exact ⟨Int.le_refl _, Int.le_refl _⟩⟩
theorem LyI.next {S : List (Ste Int)} {f : List Int -> Int} {n : Nat} {lo hi : Int} (h : LyI S f n true lo hi) (hs : ∀ s ∈ S, LOk s.1 /\ 0 <= s.2) (hn : Z3o n ∈ S) : LyI S f (n + 1) true (min lo (f (Z1z (n % 1296)))) (max hi (f (Z1z (n % 1296)))) := by
 refine ⟨fun h => Bool.noConfusion h, fun _ => ?_, fun _ => ?_, fun s h1 h2 => ?_⟩
 ·by_cases g : lo <= f (Z1z (n % 1296))
  ·rw [Int.min_eq_left g]; exact h.lo1 rfl
  ·rw [Int.min_eq_right (by omega)]; exact ⟨_, hn, rfl⟩
 ·by_cases g : f (Z1z (n % 1296)) <= hi
  ·rw [Int.max_eq_left g]; exact h.hi1 rfl
  ·rw [Int.max_eq_right (by omega)]; exact ⟨_, hn, rfl⟩
 ·rcases Nat.lt_or_eq_of_le (Nat.le_of_lt_succ h2) with g | g
  ·have := h.bd s h1 g; omega
  ·have := Z57 (hs s h1).1 (hs s h1).2;rw [g] at this;have e : f s.1 = f (Z1z (n % 1296)) := by rw [<- this]; rfl
   omega
theorem Zli {L : List Int} {lo hi : Int} (h1 : lo ∈ L) (h2 : hi ∈ L) (h : ∀ x ∈ L, lo <= x /\ x <= hi) : Zs L = (lo, hi) := by
 have hne : L ≠ [] := fun e => by rw [e] at h1; cases h1
 have a1 := Z4b h1;have a2 := (h _ (Z50 hne)).1;have a3 := Z4k h2;have a4 := (h _ (Z6v hne)).2;unfold Zs;rw [Int.le_antisymm a1 a2, Int.le_antisymm a4 a3]
theorem LyI.all {S : List (Ste Int)} {f : List Int -> Int} {sm : Bool} {lo hi : Int} (h : LyI S f 1296 sm lo hi) (hs : ∀ s ∈ S, LOk s.1 /\ s.2 = 0) (hne : S ≠ []) : Zs (S.map fun s => f s.1) = (lo, hi) := by
 have hp : ∀ s ∈ S, Z1i s < 1296 := fun s h1 => by
  have := Z9x (hs s h1).1;unfold Z1i;rw [(hs s h1).2];omega
 cases sm with
 | false =>
  obtain ⟨s, l, e⟩ := List.exists_cons_of_ne_nil hne;have hm : s ∈ S := by rw [e]; exact List.mem_cons_self
  exact absurd (hp s hm) (h.no rfl s hm)
 | true =>
  obtain ⟨s, h1, e1⟩ := h.lo1 rfl;obtain ⟨t, h2, e2⟩ := h.hi1 rfl;exact Zli (List.mem_map.2 ⟨s, h1, e1⟩) (List.mem_map.2 ⟨t, h2, e2⟩) fun x hx => by
   obtain ⟨u, hu, rfl⟩ := List.mem_map.1 hx;exact h.bd u hu (hp u hu)
theorem n21 : ¬ (2 : Int) = 1 := by decide
theorem n23 : ¬ (2 : Int) = 3 := by decide
theorem Zw6 (i : Int) (b : Nat) : Zm ⟨2, i, b, []⟩ = Z2v i b := by
 funext x i' b' n
 unfold Zm Z2v;rw [if_neg (fun h => absurd h.1 n21)]
 by_cases c : i' = i /\ b' = b
 ·rw [if_pos c, if_pos ⟨rfl, by show (b : Int) = b'; omega, c.1.symm⟩]
 ·rw [if_neg c, if_neg (fun h => c ⟨h.2.2.symm, by have : (b : Int) = b' := h.2.1; omega⟩), if_neg (fun h => absurd h.1 n23)]
end Go.Batch

namespace Go.Proofs.Ytecfpfhkicapeaa
open Go Go.Abs Go.Proofs Go.Batch
def okL {α : Type} (e : Int) (l : List α) : List α := if e = 0 then l else []
theorem Zd1 {α : Type} (l : List α) : okL 0 l = l := if_pos rfl
theorem Ze9 {α : Type} {e : Int} (h : e ≠ 0) (l : List α) : okL e l = [] := if_neg h
theorem Zll {j : Jn} {e : Int} (h1 : e = checkJ j) (h2 : e ≠ 0) : Za5 j = e := by unfold Za5; rw [if_pos (by rw [<- h1]; exact h2), h1]
theorem Ztv {j : Jn} (h : JOk j) (h2 : Zc j = false) : Za5 j = 9 := by unfold Za5; rw [if_neg (fun g => g (Z81 h)), h2]; rfl
theorem Ztw {j : Jn} (h : JOk j) (h2 : Zc j = true) : Za5 j = 0 := by unfold Za5; rw [if_neg (fun g => g (Z81 h)), h2]; rfl
def stV (j : Jn) : Bool := if checkJ j ≠ 0 then false else Zc j
def Zwa (j : Jn) (i b : Int) : Prop := (0 <= i /\ i <= j.ins - 1) /\ 0 <= b /\ b <= ((Z6 j.moves).length : Int) - 1
instance (j : Jn) (i b : Int) : Decidable (Zwa j i b) := by unfold Zwa; infer_instance
def Zjd (j : Jn) (i b : Int) : Int := if checkJ j ≠ 0 then checkJ j else if ¬ Zwa j i b then 3 else if Zc j = true then 0 else 9
def Zym (j : Jn) (i b : Int) : Int × Int := if Zjd j i b = 0 then Z4d j (Z2v i b.toNat) else (0, 0)
theorem wkE {sz : Nat} {e e' : Int} {L : List D} (h : e' = e) (hne : e ≠ 0) : WkD (.tup [.v (.slice none 0 0), I e]) (.tup [.sl sz (okL e' L), I e']) := by
 subst h; rw [Ze9 hne]; exact WkD.tup ⟨WkD.nil, .rfl, trivial⟩
theorem wkO {sz : Nat} {e' : Int} {L L' : List D} (h : e' = 0) (hL : L' = L) : WkD (.tup [.sl sz L', I 0]) (.tup [.sl sz (okL e' L), I e']) := by
 subst h hL; rw [Zd1]; exact .rfl
section
variable {fn : FuncId} {args : List D} {d0 : D} {Q : RA -> List Blk -> Prop}
def Zyn (d0 : D) (x : RA) (H' : List Blk) : Prop := H' = [] /\ ∃ d, x = RA.ret d /\ WkD d d0
theorem Ztx (h : CallA Try.prog fn args [] (Zyn d0)) (hq : Q (RA.ret d0) []) : CallA Try.prog fn args [] Q :=
 Zqm (Q := Zyn d0) h (fun d H' h => by
  obtain ⟨rfl, d1, h1, h2⟩ := h
  cases h1
  exact ⟨_, h2, hq⟩) (fun d H' h => by
  obtain ⟨-, d1, h1, -⟩ := h
  cases h1)
end
section
variable (j : Jn) (hf : j.first.length <= 1152921504606846976) (hm : j.moves.length <= 1152921504606846976) (FL ML : List D) (hF : FL = j.first.map Zv) (hM : ML = j.moves.map mvD)
include hf hm hF hM
theorem Zxe (e : Int) (he : e = Za5 j) (L0 : List D) (hL : L0 = okL e ((Z4c j).map rgD)) (Q) (hq : Q (RA.ret (.tup [.sl 2 L0, I e])) []) : CallA Try.prog 29 [.agg [I j.ins, .sl 1 FL, .sl 5 ML]] [] Q := by
 subst hL;exact Ztx (Zst j hf hm FL ML hF hM _ (fun e' h1 h2 => ⟨rfl, _, rfl, wkE (he.trans (Zll h1 h2)) h2⟩) (fun h h2 => ⟨rfl, _, rfl, wkE (he.trans (Ztv h h2)) (by decide)⟩) (fun h h2 L hL => ⟨rfl, _, rfl, wkO (he.trans (Ztw h h2)) hL⟩)) hq
theorem Z10g (e : Int) (he : e = Za5 j) (L0 : List D) (hL : L0 = okL e ((Z5w j).map fun l => .sl 1 (l.map I))) (Q) (hq : Q (RA.ret (.tup [.sl 1 L0, I e])) []) : CallA Try.prog 28 [.agg [I j.ins, .sl 1 FL, .sl 5 ML]] [] Q := by
 subst hL;exact Ztx (Zsy j hf hm FL ML hF hM _ (fun e' h1 h2 => ⟨rfl, _, rfl, wkE (he.trans (Zll h1 h2)) h2⟩) (fun h h2 => ⟨rfl, _, rfl, wkE (he.trans (Ztv h h2)) (by decide)⟩) (fun h h2 L hL => ⟨rfl, _, rfl, wkO (he.trans (Ztw h h2)) hL⟩)) hq
theorem Z10h (e : Int) (he : e = Za5 j) (L0 : List D) (hL : L0 = okL e ((Z6b j).map I)) (Q) (hq : Q (RA.ret (.tup [.sl 1 L0, I e])) []) : CallA Try.prog 30 [.agg [I j.ins, .sl 1 FL, .sl 5 ML]] [] Q := by
 subst hL;exact Ztx (Zsv j hf hm FL ML hF hM _ (fun e' h1 h2 => ⟨rfl, _, rfl, wkE (he.trans (Zll h1 h2)) h2⟩) (fun h h2 => ⟨rfl, _, rfl, wkE (he.trans (Ztv h h2)) (by decide)⟩) (fun h h2 L hL => ⟨rfl, _, rfl, wkO (he.trans (Ztw h h2)) hL⟩)) hq
theorem Z109 (i b : Int) (e : Int) (he : e = Zjd j i b) (lo hi : Int) (hv : (lo, hi) = Zym j i b) (Q) (hq : Q (RA.ret (.tup [.agg [I lo, I hi], I e])) []) : CallA Try.prog 38 [.agg [I j.ins, .sl 1 FL, .sl 5 ML], I i, I b] [] Q := by
 unfold Zym at hv;have hz : ∀ e' : Int, Zjd j i b = e' -> e' ≠ 0 -> e' = e /\ lo = 0 /\ hi = 0 := fun e' h1 h2 => by
  rw [if_neg (by rw [h1]; exact h2)] at hv;exact ⟨by rw [he, h1], (Prod.mk.inj hv).1, (Prod.mk.inj hv).2⟩
 refine Z106 j hf hm i b FL ML hF hM Q (fun e' h1 h2 => ?_) (fun h g => ?_) (fun h g1 g2 g3 => ?_) (fun h g1 g2 g3 lo' hi' h1 h2 => ?_)
 ·obtain ⟨a1, a2, a3⟩ := hz e' (by unfold Zjd; rw [if_pos (by rw [<- h1]; exact h2), h1]) h2;rw [a1]; rw [a2, a3] at hq; exact hq
 ·obtain ⟨a1, a2, a3⟩ := hz 3 (by unfold Zjd; rw [if_neg (fun g => g (Z81 h)), if_pos (show ¬ Zwa j i b from g)]) (by decide);rw [<- a1, a2, a3] at hq; exact hq
 ·obtain ⟨a1, a2, a3⟩ := hz 9 (by unfold Zjd; rw [if_neg (fun g => g (Z81 h)), if_neg (show ¬ ¬ Zwa j i b from fun g => g ⟨g1, g2⟩), g3]; rfl) (by decide);rw [<- a1, a2, a3] at hq; exact hq
 ·have a0 : Zjd j i b = 0 := by unfold Zjd; rw [if_neg (fun g => g (Z81 h)), if_neg (show ¬ ¬ Zwa j i b from fun g => g ⟨g1, g2⟩), g3]; rfl
  rw [if_pos a0, ] at hv;have e0 := he.trans a0;have a2 : lo = lo' := by rw [h1, <- hv]
  have a3 : hi = hi' := by rw [h2, <- hv]
  rw [e0, a2, a3] at hq;exact hq
theorem Zty (b : Bool) (hb : b = stV j) (e : Int) (he : e = checkJ j) (Q) (hq : Q (RA.ret (.tup [.v (.bool b), I e])) []) : CallA Try.prog 35 [.agg [I j.ins, .sl 1 FL, .sl 5 ML]] [] Q := by
 unfold stV at hb;refine Zss j hf hm FL ML hF hM Q (fun e' h1 h2 => ?_) (fun h b' hb' => ?_)
 ·rw [if_pos (by rw [<- h1]; exact h2)] at hb;rw [h1, <- he]; rw [hb] at hq; exact hq
 ·have h0 := Z81 h;rw [if_neg (fun g => g h0), <- hb'] at hb;rw [<- hb, <- h0, <- he]; exact hq
end
end Go.Proofs.Ytecfpfhkicapeaa
