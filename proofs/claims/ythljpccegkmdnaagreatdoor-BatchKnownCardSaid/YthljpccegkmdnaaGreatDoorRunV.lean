/- Part RunV of the proofs about the benches of the accordion maker: see the last text of the claim for what is proved. -/
import Derived.Test.YthljpccegkmdnaaGreatDoorRunT
set_option linter.unusedVariables false
set_option linter.unusedSimpArgs false
set_option linter.unnecessarySimpa false
set_option linter.constructorNameAsVariable false

namespace Go.Batch
structure WayO (fifo : Bool) (bin : Int) (bs : List Int) (i : Nat) (l : List Int) (a : Int) (of : List Int) : Prop where
 tk : Took fifo bin bs i l of
 sum : Z32 of bs i = a
 len : of.length = 4
 out : ∀ k, k < i ∨ i + bs.length <= k -> of.getD k 0 = 0
end Go.Batch

namespace Go.Batch
structure FirR (bin : Int) (bs : List Int) (i : Nat) (l out : List Int) (a : Int) (p : List Int × Int) : Prop where
 len : p.1.length = 4
 nn : 0 <= p.2
 le : p.2 <= a
 lt : ∀ k, k < i -> p.1.getD k 0 = out.getD k 0
 way : p.2 = 0 -> ∀ of, of.length = 4 -> (∀ k, k < i -> of.getD k 0 = 0) -> (∀ k, i <= k -> of.getD k 0 = p.1.getD k 0) -> WayO true bin bs i l a of
 one : ∀ of, WayO true bin bs i l a of -> p.2 = 0 /\ ∀ k, i <= k -> of.getD k 0 = p.1.getD k 0
end Go.Batch

namespace Go.Batch
structure Ask where
 kind : Int
 inst : Int
 batch : Int
 batches : List Int
structure FOk (come : Nat) (s : Ste Int) : Prop where
 l : LOk s.1
 n0 : 0 <= s.2
 n15 : s.2 <= 15
 z : ∀ k, come <= k -> s.1.getD k 0 = 0
def Z7h (l : List Int) : Nat := (l.getD 0 0 + 6 * (l.getD 1 0 + 6 * (l.getD 2 0 + 6 * l.getD 3 0))).toNat
def Z1i (s : Ste Int) : Nat := s.2.toNat * 1296 + Z7h s.1
def Z1z (n : Nat) : List Int := [((n % 6 : Nat) : Int), ((n / 6 % 6 : Nat) : Int), ((n / 36 % 6 : Nat) : Int), ((n / 216 % 6 : Nat) : Int)]
theorem Z9x {l : List Int} (h : LOk l) : Z7h l < 1296 := by
 have a0 := h.lo 0; have a1 := h.lo 1; have a2 := h.lo 2; have a3 := h.lo 3;have b0 := h.hi 0; have b1 := h.hi 1; have b2 := h.hi 2; have b3 := h.hi 3;unfold Z7h; omega
theorem Zkt {l : List Int} (h : LOk l) : Z1z (Z7h l) = l := by
 have a0 := h.lo 0; have a1 := h.lo 1; have a2 := h.lo 2; have a3 := h.lo 3;have b0 := h.hi 0; have b1 := h.hi 1; have b2 := h.hi 2; have b3 := h.hi 3;obtain ⟨a, b, c, d, e⟩ : ∃ a b c d, l = [a, b, c, d] := by
  have := h.len
  match l, this with
  | [a, b, c, d], _ => exact ⟨a, b, c, d, rfl⟩
 subst e;simp only [List.getD_cons_zero, List.getD_cons_succ] at a0 a1 a2 a3 b0 b1 b2 b3;unfold Z7h Z1z;simp only [List.getD_cons_zero, List.getD_cons_succ]
 congr 1
 ·omega
 congr 1
 ·omega
 congr 1
 ·omega
 congr 1
 omega
theorem Zku {n : Nat} (h : n < 1296) : Z7h (Z1z n) = n := by
 unfold Z7h Z1z;simp only [List.getD_cons_zero, List.getD_cons_succ];omega
def Z3o (n : Nat) : Ste Int := (Z1z (n % 1296), ((n / 1296 : Nat) : Int))
theorem Ze3 {n : Nat} : Z1i (Z3o n) = n := by
 unfold Z1i Z3o;simp only;rw [Zku (by omega)];omega
theorem Z57 {s : Ste Int} (h : LOk s.1) (h0 : 0 <= s.2) : Z3o (Z1i s) = s := by
 have := Z9x h;unfold Z3o Z1i;rw [show (s.2.toNat * 1296 + Z7h s.1) % 1296 = Z7h s.1 by omega, show (s.2.toNat * 1296 + Z7h s.1) / 1296 = s.2.toNat by omega, Zkt h];exact Prod.ext rfl (by simp only; omega)
theorem Z4x {s : Ste Int} (h : LOk s.1) (h0 : 0 <= s.2) (h15 : s.2 <= 15) : Z1i s < 20736 := by
 have := Z9x h;unfold Z1i; omega
structure Marks (L : List Bool) (S : Ste Int -> Prop) : Prop where
 len : L.length = 20736
 at_ : ∀ n, n < 20736 -> (L[n]? = some true ↔ S (Z3o n))
theorem Marks.set {L : List Bool} {S : Ste Int -> Prop} (h : Marks L S) {s : Ste Int} (hl : LOk s.1) (h0 : 0 <= s.2) (h15 : s.2 <= 15) : Marks (L.set (Z1i s) true) fun x => S x ∨ x = s := by
 have hp := Z4x hl h0 h15;refine ⟨by rw [List.length_set]; exact h.len, fun n hn => ?_⟩;rw [List.getElem?_set]
 by_cases e : Z1i s = n
 ·subst e;rw [if_pos rfl, if_pos (by rw [h.len]; exact hp), Z57 hl h0];simp
 ·rw [if_neg e, h.at_ n hn];constructor
  ·exact .inl
  ·rintro (g | g)
   ·exact g
   ·exact absurd (by rw [<- g, Ze3]) e
theorem Marks.congr {L : List Bool} {S T : Ste Int -> Prop} (h : Marks L S) (e : ∀ x, S x ↔ T x) : Marks L T := ⟨h.len, fun n hn => by rw [h.at_ n hn, e]⟩
def Z7o (S : List (Ste Int)) (n : Nat) (s : Ste Int) : Prop := s ∈ S /\ Z1i s < n
end Go.Batch
