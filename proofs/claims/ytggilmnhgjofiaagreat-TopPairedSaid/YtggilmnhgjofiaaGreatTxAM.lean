/- Part TxAM of the proofs about the benches of the accordion maker: see the last text of the claim for what is proved. -/
import Derived.Test.YtggilmnhgjofiaaGreatTxAL
set_option linter.unusedVariables false
set_option linter.unusedSimpArgs false
set_option linter.unnecessarySimpa false
set_option linter.constructorNameAsVariable false

namespace Go.Abs
open Go
def Z9f : List Nat -> Nat -> Option Nat
 | [], _ => none
 | d :: _, 0 => some d
 | _ :: r, n + 1 => Z9f r n
theorem Z8i : ∀ (l : List Nat) (n : Nat), Z9f l n = l[n]?
 | [], n => by simp [Z9f]
 | d :: _, 0 => by simp [Z9f]
 | _ :: r, n + 1 => by simp [Z9f, Z8i r n]
def rho (ix : List Nat) (n : Nat) (i : Nat) : Nat :=
 match Z9f ix i with
 | some k => k
 | none => n + (i - ix.length)
def Z8j : List Blk -> List Nat -> List Blk -> List Blk
 | H, k :: ix, x :: xs => Z8j (H.set k x) ix xs
 | H, _, _ => H
def Zr6 (ρ : Nat -> Nat) : List Blk -> List Blk
 | [] => []
 | x :: r => Z68 ρ x :: Zr6 ρ r
theorem Zca (ρ : Nat -> Nat) : ∀ l : List Blk, Zr6 ρ l = l.map (Z68 ρ)
 | [] => rfl
 | d :: r => by simp [Zr6, Zca ρ r]
def Z10 (H : List Blk) (ix : List Nat) (H' : List Blk) : List Blk := Z8j H ix (Zr6 (rho ix H.length) H') ++ Zr6 (rho ix H.length) (H'.drop ix.length)
theorem Z49 : ∀ (ix : List Nat) (H xs : List Blk), (Z8j H ix xs).length = H.length
 | [], H, xs => by cases xs <;> rfl
 | k :: ix, H, [] => rfl
 | k :: ix, H, x :: xs => by simp only [Z8j, Z49 ix]; simp
theorem Z8k : ∀ (ix : List Nat) (H xs : List Blk) (j : Nat), j ∉ ix -> (Z8j H ix xs)[j]? = H[j]?
 | [], H, xs, j, _ => by cases xs <;> rfl
 | k :: ix, H, [], j, _ => rfl
 | k :: ix, H, x :: xs, j, hj => by
  simp only [List.mem_cons, not_or] at hj;simp only [Z8j];rw [Z8k ix _ _ _ hj.2, List.getElem?_set, if_neg (fun e => hj.1 e.symm)]
theorem Zgv : ∀ (ix : List Nat) (H xs : List Blk) (i k : Nat), ix.Nodup -> ix[i]? = some k -> k < H.length -> i < xs.length -> (Z8j H ix xs)[k]? = xs[i]?
 | [], H, xs, i, k, _, hi, _, _ => by simp at hi
 | k0 :: ix, H, [], i, k, _, _, _, h => by simp at h
 | k0 :: ix, H, x :: xs, 0, k, hn, hi, hk, _ => by
  simp at hi; subst hi;simp only [Z8j];rw [Z8k ix _ _ _ (List.nodup_cons.1 hn).1];simp [hk]
 | k0 :: ix, H, x :: xs, i + 1, k, hn, hi, hk, h => by
  simp only [Z8j];rw [Zgv ix _ xs i k (List.nodup_cons.1 hn).2 (by simpa using hi) (by simpa using hk) (by simpa using h)];simp
section
variable {F F' : Fz} {μ : Mu} {w w' : World} {H Hf Hf' : List Blk} {ix : List Nat}
theorem Z4r {n i k : Nat} (h : ix[i]? = some k) : rho ix n i = k := by unfold rho; rw [Z8i, h]
theorem Zf7 {n i : Nat} (h : ix.length <= i) : rho ix n i = n + (i - ix.length) := by unfold rho; rw [Z8i, List.getElem?_eq_none h]
structure Lent (H : List Blk) (ix : List Nat) (Hf : List Blk) : Prop where
 nd : ix.Nodup
 len : Hf.length = ix.length
 sits : ∀ (i k : Nat), ix[i]? = some k -> ∃ x, Hf[i]? = some x /\ H[k]? = some (Z68 (rho ix H.length) x)
 fr : ∀ (i : Nat) (x : Blk), Hf[i]? = some x -> BFr x
theorem Zab (hlen : Hf.length = ix.length) (sits : ∀ (i k : Nat), ix[i]? = some k -> ∃ x, Hf[i]? = some x /\ H[k]? = some (Z68 (rho ix H.length) x)) (hr : HR F μ H w) : ∀ (i : Nat) (x : Blk), Hf[i]? = some x -> BFr x := fun i x hx => by
 have hlt : i < ix.length := by rw [<- hlen]; exact (List.getElem?_eq_some_iff.1 hx).1
 obtain ⟨y, h1, h2⟩ := sits i ix[i] (List.getElem?_eq_getElem hlt);rw [hx] at h1; cases h1;exact (hr.fr _ _ h2).of_ren
theorem Lent.lt (h : Lent H ix Hf) {i k : Nat} (hk : ix[i]? = some k) : k < H.length := by
 obtain ⟨x, -, h2⟩ := h.sits i k hk;exact (List.getElem?_eq_some_iff.1 h2).1
theorem Lent.blk (h : Lent H ix Hf) {i : Nat} {sz : Nat} {es : List D} (hb : Z17 Hf i = some (sz, es)) : ∃ k, ix[i]? = some k /\ Z17 H k = some (sz, renL (rho ix H.length) es) := by
 have hlt : i < ix.length := by rw [<- h.len]; exact Z7k hb
 obtain ⟨x, h1, h2⟩ := h.sits i ix[i] (List.getElem?_eq_getElem hlt);refine ⟨ix[i], List.getElem?_eq_getElem hlt, ?_⟩;simp only [Z17, h1, Option.bind_some] at hb;simp only [Z17, h2, Option.bind_some, Znw _ x (h.fr i x h1), hb, Option.map_some]
theorem Lent.at_ (h : Lent H ix Hf) {i : Nat} {x : Blk} (hx : Hf[i]? = some x) : ∃ k, ix[i]? = some k /\ H[k]? = some (Z68 (rho ix H.length) x) := by
 have hlt : i < ix.length := by rw [<- h.len]; exact (List.getElem?_eq_some_iff.1 hx).1
 obtain ⟨y, h1, h2⟩ := h.sits i ix[i] (List.getElem?_eq_getElem hlt);rw [hx] at h1; cases h1;exact ⟨ix[i], List.getElem?_eq_getElem hlt, h2⟩
theorem Lent.ob (h : Lent H ix Hf) {i : Nat} {x : OB} (hb : Z13 Hf i = some x) : ∃ k, ix[i]? = some k /\ Z13 H k = some (Zig (rho ix H.length) x) := by
 obtain ⟨y, hy, hx⟩ := Option.bind_eq_some_iff.1 hb;obtain ⟨k, hk, g⟩ := h.at_ hy;exact ⟨k, hk, by rw [Z19 g, Z9e, hx]; rfl⟩
theorem Lent.live (h : Lent H ix Hf) {i : Nat} (hb : Z20 Hf i = true) : ∃ k, ix[i]? = some k /\ Z20 H k = true := by
 unfold Z20 at hb
 cases hy : Hf[i]? with
 | none => rw [hy] at hb; cases hb
 | some y =>
  rw [hy] at hb;obtain ⟨k, hk, g⟩ := h.at_ hy;exact ⟨k, hk, by rw [Z6x g, Zgu]; exact hb⟩
theorem Zf8 {n i k b : Nat} (hk : ix[i]? = some k) : Z40 (μ.ren (rho ix n)) i b ↔ Z40 μ k b := by
 unfold Z40; simp only [Mu.ren_loc, Mu.ren_inn, Z4r hk]
theorem Lent.own (h : Lent H ix Hf) {b : Nat} (ho : Own (μ.ren (rho ix H.length)) Hf b) : ∃ (i k : Nat), ix[i]? = some k /\ Z20 H k = true /\ Z40 μ k b := by
 obtain ⟨i, h1, h2⟩ := ho;obtain ⟨k, hk, hl⟩ := h.live h1;exact ⟨i, k, hk, hl, (Zf8 hk).1 h2⟩
theorem Lent.own_up (h : Lent H ix Hf) {b : Nat} (ho : Own (μ.ren (rho ix H.length)) Hf b) : Own μ H b :=
 let ⟨_, k, _, h2, h3⟩ := h.own ho; ⟨k, h2, h3⟩
theorem Zac (h : Lent H ix Hf) (hr : HR F μ H w) : HR F (μ.ren (rho ix H.length)) Hf w := by
 refine ⟨fun i hi => ?_, fun i sz es hb hne => ?_, fun i y hb b => ?_, fun i x hx hne => ?_, fun i hi b => hr.non _ hi b, fun i i' b hl hl' hm hm' => ?_, fun b ho => hr.lt b (h.own_up ho), fun b o v hv => ⟨(hr.frz b o v hv).1, fun ho => (hr.frz b o v hv).2 (h.own_up ho)⟩, h.fr, fun b p hp => ⟨(hr.kb b p hp).1, fun ho => (hr.kb b p hp).2 (h.own_up ho)⟩⟩
 ·rw [h.len] at hi;simp only [Mu.ren_loc, Zf7 hi];exact hr.dom _ (by omega)
 ·obtain ⟨k, hk, hb'⟩ := h.blk hb;simp only [Mu.ren_loc, Z4r hk] at hne ⊢;rcases hr.row k _ _ hb' hne with ⟨e1, e2⟩ | ⟨b, m, c, t, e1, e2, e3, e4, e5⟩
  ·refine .inl ⟨e1, ?_⟩
   cases es with
   | nil => rfl
   | cons => simp [renL] at e2
  ·exact .inr ⟨b, m, c, t, e1, e2, e3, by rw [Zk] at e4; exact e4, Z9d e5⟩
 ·obtain ⟨sz, es⟩ := y;obtain ⟨k, hk, hb'⟩ := h.blk hb;simp only [Mu.ren_inn, Z4r hk];exact hr.plain k _ hb' b
 ·obtain ⟨k, hk, hb'⟩ := h.ob hx;simp only [Mu.ren_loc, Z4r hk] at hne;refine OBR.down ?_;rw [Z4r hk];exact hr.obj k _ hb' (by rw [Zr5]; exact hne)
 ·obtain ⟨k, hk, g⟩ := h.live hl;obtain ⟨k', hk', g'⟩ := h.live hl';have := hr.inj k k' b g g' ((Zf8 hk).1 hm) ((Zf8 hk').1 hm');subst this;have h1 := (List.getElem?_eq_some_iff.1 hk).1;have h2 := (List.getElem?_eq_some_iff.1 hk').1;exact (List.getElem?_inj h1 h.nd).1 (hk.trans hk'.symm)
theorem Zdv {j : Nat} (hj : j ∉ ix) (hlt : j < H.length) : (Z10 H ix Hf')[j]? = H[j]? := by
 unfold Z10;rw [List.getElem?_append_left (by rw [Z49]; exact hlt), Z8k _ _ _ _ hj]
theorem Zk0 (h : Lent H ix Hf) (hl : Hf.length <= Hf'.length) {i k : Nat} (hk : ix[i]? = some k) : (Z10 H ix Hf')[k]? = (Hf'[i]?).map (Z68 (rho ix H.length)) := by
 unfold Z10;have hi := (List.getElem?_eq_some_iff.1 hk).1;have := h.len;rw [List.getElem?_append_left (by rw [Z49]; exact h.lt hk), Zgv ix H _ i k h.nd hk (h.lt hk) (by rw [Zca, List.length_map]; omega), Zca, List.getElem?_map]
theorem Zph {j : Nat} (hj : H.length <= j) : (Z10 H ix Hf')[j]? = (Hf'[ix.length + (j - H.length)]?).map (Z68 (rho ix H.length)) := by
 unfold Z10;rw [List.getElem?_append_right (by rw [Z49]; exact hj), Z49, Zca, List.getElem?_map, List.getElem?_drop]
def Z1v (μ : Mu) (ix : List Nat) (n : Nat) (μ' : Mu) : Mu := ⟨fun j => if j < n then μ j else μ' (ix.length + (j - n)), fun j b => if j < n then (if j ∈ ix then ∃ i, ix[i]? = some j /\ μ'.inn i b else μ.inn j b) else μ'.inn (ix.length + (j - n)) b⟩
theorem Zd5 {μ' : Mu} (h : Lent H ix Hf) (i b : Nat) : (Z1v μ ix H.length μ').inn (rho ix H.length i) b ↔ μ'.inn i b := by
 by_cases hi : i < ix.length
 ·have hk := List.getElem?_eq_getElem hi;have hlt := h.lt hk;rw [Z4r hk];simp only [Z1v, if_pos hlt, if_pos (List.getElem_mem hi)];constructor
  ·rintro ⟨i', h1, h2⟩;have e := (List.getElem?_eq_some_iff.1 h1).1;have : i' = i := (List.getElem?_inj e h.nd).1 (h1.trans hk.symm);subst this; exact h2
  ·exact fun hb => ⟨i, hk, hb⟩
 ·rw [Zf7 (Nat.le_of_not_lt hi)];simp only [Z1v];rw [if_neg (by omega), show ix.length + (H.length + (i - ix.length) - H.length) = i by omega]
theorem Z9g {μ' : Mu} (h : Lent H ix Hf) (hs : ∀ j, j < Hf.length -> μ' j = μ (rho ix H.length j)) : (Z1v μ ix H.length μ').ren (rho ix H.length) = μ' := by
 have h1 : ((Z1v μ ix H.length μ').ren (rho ix H.length)).loc = μ'.loc := by
  funext i
  by_cases hi : i < ix.length
  ·have hk := List.getElem?_eq_getElem hi;have hlt := h.lt hk;have := hs i (by rw [h.len]; exact hi);rw [Z4r hk] at this;simp only [Mu.ren_loc, Z4r hk, Z1v, if_pos hlt];exact this.symm
  ·simp only [Mu.ren_loc, Zf7 (Nat.le_of_not_lt hi), Z1v];rw [if_neg (by omega)]
   congr 1; omega
 have h2 : ((Z1v μ ix H.length μ').ren (rho ix H.length)).inn = μ'.inn := by
  funext i b
  exact propext (Zd5 h i b)
 cases μ'; simp only [Mu.ren] at h1 h2 ⊢; exact congr (congrArg Mu.mk h1) h2
theorem Z6q {μ' : Mu} (h : Lent H ix Hf) (hr : HR F μ H w) (hs : Stp F (μ.ren (rho ix H.length)) Hf w F' μ' Hf' w') :
  Stp F μ H w F' (Z1v μ ix H.length μ') (Z10 H ix Hf') w' := by
 have hmu := Z9g h hs.same;have hmlt : ∀ j, j < H.length -> Z1v μ ix H.length μ' j = μ j := fun j hj => by simp only [Z1v, if_pos hj]
 have hmge : ∀ j, H.length <= j -> Z1v μ ix H.length μ' j = μ' (ix.length + (j - H.length)) := fun j hj => by simp only [Z1v]; rw [if_neg (by omega)]
 have hige : ∀ j b, H.length <= j -> ((Z1v μ ix H.length μ').inn j b ↔ μ'.inn (ix.length + (j - H.length)) b) := fun j b hj => by simp only [Z1v]; rw [if_neg (by omega)]
 have hlen : (Z10 H ix Hf').length = H.length + (Hf'.length - ix.length) := by unfold Z10; rw [List.length_append, Z49, Zca]; simp
 have hmono : ∀ k x, μ k = some x -> Z1v μ ix H.length μ' k = some x := fun k x hk => by
  rw [hmlt k]; exact hk
  apply Nat.lt_of_not_le; intro hle
  rw [hr.dom k hle] at hk; cases hk
 have cases3 : ∀ j, (∃ i, (ix[i]? = some j ∨ (H.length <= j /\ i = ix.length + (j - H.length))) /\ rho ix H.length i = j /\ Z1v μ ix H.length μ' j = μ' i /\ (∀ b, (Z1v μ ix H.length μ').inn j b ↔ μ'.inn i b) /\ (Z10 H ix Hf')[j]? = (Hf'[i]?).map (Z68 (rho ix H.length))) ∨
   (j < H.length /\ j ∉ ix /\ Z1v μ ix H.length μ' j = μ j /\ (∀ b, (Z1v μ ix H.length μ').inn j b ↔ μ.inn j b) /\ (Z10 H ix Hf')[j]? = H[j]?) := fun j => by
  by_cases hj : j < H.length
  ·by_cases hm : j ∈ ix
   ·obtain ⟨i, hi⟩ := List.mem_iff_getElem?.1 hm;have hil := (List.getElem?_eq_some_iff.1 hi).1;refine .inl ⟨i, .inl hi, Z4r hi, ?_, fun b => ?_, Zk0 h hs.len hi⟩
    ·rw [hmlt j hj, hs.same i (by rw [h.len]; exact hil), Mu.ren_loc, Z4r hi]
    ·have := Zd5 (μ := μ) (μ' := μ') h i b; rwa [Z4r hi] at this
   ·exact .inr ⟨hj, hm, hmlt j hj, fun b => by simp only [Z1v, if_pos hj, if_neg hm], Zdv hm hj⟩
  ·have hj := Nat.le_of_not_lt hj;refine .inl ⟨_, .inr ⟨hj, rfl⟩, ?_, hmge j hj, fun b => hige j b hj, Zph hj⟩;rw [Zf7 (by omega)]; omega
 have foot1 : ∀ {i j b : Nat}, Z1v μ ix H.length μ' j = μ' i -> (∀ b, (Z1v μ ix H.length μ').inn j b ↔ μ'.inn i b) -> (Z40 (Z1v μ ix H.length μ') j b ↔ Z40 μ' i b) := fun {i j b} h1 h2 => by unfold Z40; rw [h1, h2]
 have foot2 : ∀ {j b : Nat}, Z1v μ ix H.length μ' j = μ j -> (∀ b, (Z1v μ ix H.length μ').inn j b ↔ μ.inn j b) -> (Z40 (Z1v μ ix H.length μ') j b ↔ Z40 μ j b) := fun {j b} h1 h2 => by unfold Z40; rw [h1, h2]
 have blk1 : ∀ {i j : Nat} {sz : Nat} {es : List D}, (Z10 H ix Hf')[j]? = (Hf'[i]?).map (Z68 (rho ix H.length)) -> Z17 (Z10 H ix Hf') j = some (sz, es) -> ∃ es0, Z17 Hf' i = some (sz, es0) /\ es = renL (rho ix H.length) es0 := fun {i j sz es} h1 hb => by
  simp only [Z17, h1] at hb
  cases hx : Hf'[i]? with
  | none => rw [hx] at hb; simp at hb
  | some x =>
   rw [hx] at hb;simp only [Option.map_some, Option.bind_some, Znw _ x (hs.hr.fr i x hx), Option.map_eq_some_iff] at hb;obtain ⟨⟨sz0, es0⟩, g1, g2⟩ := hb
   cases g2
   exact ⟨es0, by simp only [Z17, hx, Option.bind_some]; exact g1, rfl⟩
 have ob1 : ∀ {i j : Nat} {x : OB}, (Z10 H ix Hf')[j]? = (Hf'[i]?).map (Z68 (rho ix H.length)) -> Z13 (Z10 H ix Hf') j = some x -> ∃ x0, Z13 Hf' i = some x0 /\ x = Zig (rho ix H.length) x0 := fun {i j x} h1 hb => by
  cases hx : Hf'[i]? with
  | none => rw [hx] at h1; unfold Z13 at hb; rw [h1] at hb; cases hb
  | some y =>
   rw [hx] at h1;rw [Z19 h1, Z9e] at hb;obtain ⟨x0, g1, g2⟩ := Option.map_eq_some_iff.1 hb;exact ⟨x0, by rw [Z19 hx]; exact g1, g2.symm⟩
 have liv1 : ∀ {i j : Nat}, (Z10 H ix Hf')[j]? = (Hf'[i]?).map (Z68 (rho ix H.length)) -> Z20 (Z10 H ix Hf') j = true -> Z20 Hf' i = true := fun {i j} h1 hb => by
  cases hx : Hf'[i]? with
  | none => rw [hx] at h1; unfold Z20 at hb; rw [h1] at hb; cases hb
  | some y => rw [hx] at h1; rw [Z6x h1, Zgu] at hb; rw [Z6x hx]; exact hb
 have blk2 : ∀ {j : Nat}, (Z10 H ix Hf')[j]? = H[j]? -> Z17 (Z10 H ix Hf') j = Z17 H j := fun {j} h1 => by simp only [Z17, h1]
 have ob2 : ∀ {j : Nat}, (Z10 H ix Hf')[j]? = H[j]? -> Z13 (Z10 H ix Hf') j = Z13 H j := fun {j} h1 => by simp only [Z13, h1]
 have liv2 : ∀ {j : Nat}, (Z10 H ix Hf')[j]? = H[j]? -> Z20 (Z10 H ix Hf') j = Z20 H j := fun {j} h1 => by simp only [Z20, h1]
 have apart : ∀ {j b : Nat}, j ∉ ix -> Z20 H j = true -> Z40 μ j b -> b < w.heap.size /\ ¬ Own (μ.ren (rho ix H.length)) Hf b := fun {j b} hm hb hmu => by
  refine ⟨hr.block_lt ⟨j, hb, hmu⟩, fun ho => ?_⟩;obtain ⟨i, k, h1, h2, h3⟩ := h.own ho;have := hr.inj j k b hb h2 hmu h3;subst this;exact hm (List.mem_iff_getElem?.2 ⟨i, h1⟩)
 have ownc : ∀ b, Own (Z1v μ ix H.length μ') (Z10 H ix Hf') b -> Own μ' Hf' b ∨ ∃ j, j < H.length /\ j ∉ ix /\ Z20 H j = true /\ Z40 μ j b := fun b ⟨j, hb, hm⟩ => by
  rcases cases3 j with ⟨i, -, -, g1, gi, g2⟩ | ⟨g1, g2, g3, gi, g4⟩
  ·exact .inl ⟨i, liv1 g2 hb, (foot1 g1 gi).1 hm⟩
  ·exact .inr ⟨j, g1, g2, by rw [<- liv2 g4]; exact hb, (foot2 g3 gi).1 hm⟩
 refine ⟨⟨hs.post.mono, fun b o v hv => ?_, hs.post.size, hs.post.tape, hs.post.os, hs.post.output, fun b hb ho => ?_⟩, ⟨fun j hj => ?_, fun j sz es hb hne => ?_, fun j y hb b => ?_, fun j x hb hne => ?_, fun j hj b => ?_, fun j j' b hb hb' hm hm' => ?_, fun b ho => ?_, fun b o v hv => ?_, fun j x hx => ?_, fun b p hp => ?_⟩, ?_, hmlt, fun k hk => ?_⟩
 ·rcases hs.post.back b o v hv with e | e | e
  ·exact .inl e
  ·exact .inr (.inl (h.own_up e))
  ·exact .inr (.inr e)
 ·obtain ⟨e1, e2⟩ := hs.post.keep b hb (fun e => ho (h.own_up e));refine ⟨e1, fun e => ?_⟩;rcases ownc b e with e | ⟨j, g1, g2, g3, g4⟩
  ·exact e2 e
  ·exact ho ⟨j, g3, g4⟩
 ·rw [hlen] at hj;rw [hmge j (by omega)];exact hs.hr.dom _ (by omega)
 ·rcases cases3 j with ⟨i, -, -, g1, -, g2⟩ | ⟨g1, g2, g3, -, g4⟩
  ·obtain ⟨es0, hb0, rfl⟩ := blk1 g2 hb;rw [g1] at hne ⊢;rcases hs.hr.row i sz es0 hb0 hne with ⟨e1, rfl⟩ | ⟨b, m, c, t, e1, e2, e3, e4, e5⟩
   ·exact .inl ⟨e1, rfl⟩
   ·refine .inr ⟨b, m, c, t, e1, e2, e3, by rw [Zk]; exact e4, ?_⟩;rw [<- hmu] at e5;exact Zc9 e5
  ·rw [blk2 g4] at hb;rw [g3] at hne ⊢;rcases hr.row j sz es hb hne with hnil | ⟨b, m, c, t, e1, e2, e3, e4, e5⟩
   ·exact .inl hnil
   ·obtain ⟨a1, a2⟩ := apart g2 (Z15 hb) (.inl ⟨m, e1⟩);exact .inr ⟨b, m, c, t, e1, by rw [(hs.post.keep b a1 a2).1]; exact e2, e3, e4, e5.mono hs.post.mono hmono⟩
 ·rcases cases3 j with ⟨i, -, -, g1, gi, g2⟩ | ⟨g1, g2, g3, gi, g4⟩
  ·obtain ⟨sz, es⟩ := y;obtain ⟨es0, hb0, -⟩ := blk1 g2 hb;exact fun hb => hs.hr.plain i _ hb0 b ((gi b).1 hb)
  ·rw [blk2 g4] at hb;exact fun hi => hr.plain j _ hb b ((gi b).1 hi)
 ·rcases cases3 j with ⟨i, -, ge, g1, gi, g2⟩ | ⟨g1, g2, g3, gi, g4⟩
  ·obtain ⟨x0, hb0, rfl⟩ := ob1 g2 hb;rw [g1, Zr5] at hne;have := hs.hr.obj i x0 hb0 hne;rw [<- hmu] at this;have := this.up
   rwa [ge] at this
  ·rw [ob2 g4] at hb;rw [g3] at hne;refine (hr.obj j x hb hne).frame hs.post.mono hmono gi fun b hf => ?_;obtain ⟨a1, a2⟩ := apart g2 (Z2j hb) hf;exact (hs.post.keep b a1 a2).1
 ·rcases cases3 j with ⟨i, -, -, g1, gi, -⟩ | ⟨-, -, g3, gi, -⟩
  ·rw [g1] at hj; exact fun hi => hs.hr.non i hj b ((gi b).1 hi)
  ·rw [g3] at hj; exact fun hi => hr.non j hj b ((gi b).1 hi)
 ·rcases cases3 j with ⟨i, gi, -, g1, gn, g2⟩ | ⟨g1, g2, g3, gn, g4⟩ <;> rcases cases3 j' with ⟨i', gi', -, g1', gn', g2'⟩ | ⟨g1', g2', g3', gn', g4'⟩
  ·have := hs.hr.inj i i' b (liv1 g2 hb) (liv1 g2' hb') ((foot1 g1 gn).1 hm) ((foot1 g1' gn').1 hm');subst this;rcases gi with gi | ⟨gi, hi⟩ <;> rcases gi' with gi' | ⟨gi', hi'⟩
   ·rw [gi] at gi'; cases gi'; rfl
   ·have := (List.getElem?_eq_some_iff.1 gi).1; omega
   ·have := (List.getElem?_eq_some_iff.1 gi').1; omega
   ·omega
  ·exfalso
   rw [liv2 g4'] at hb';obtain ⟨a1, a2⟩ := apart g2' hb' ((foot2 g3' gn').1 hm');exact (hs.post.keep b a1 a2).2 ⟨i, liv1 g2 hb, (foot1 g1 gn).1 hm⟩
  ·exfalso
   rw [liv2 g4] at hb;obtain ⟨a1, a2⟩ := apart g2 hb ((foot2 g3 gn).1 hm);exact (hs.post.keep b a1 a2).2 ⟨i', liv1 g2' hb', (foot1 g1' gn').1 hm'⟩
  ·rw [liv2 g4] at hb;rw [liv2 g4'] at hb';exact hr.inj j j' b hb hb' ((foot2 g3 gn).1 hm) ((foot2 g3' gn').1 hm')
 ·rcases ownc b ho with g | ⟨j, g1, g2, g3, g4⟩
  ·exact hs.hr.lt b g
  ·exact Nat.lt_of_lt_of_le (hr.lt b ⟨j, g3, g4⟩) hs.post.size
 ·obtain ⟨hcell, hno⟩ := hs.hr.frz b o v hv;refine ⟨hcell, fun ho => ?_⟩;rcases ownc b ho with e | ⟨j, g1, g2, g3, g4⟩
  ·exact hno e
  ·obtain ⟨a1, a2⟩ := apart g2 g3 g4;rcases hs.post.back b o v hv with e | e | e
   ·exact (hr.frz b o v e).2 ⟨j, g3, g4⟩
   ·exact a2 e
   ·omega
 ·rcases cases3 j with ⟨i, -, -, -, -, g2⟩ | ⟨-, -, -, -, g4⟩
  ·rw [g2] at hx;obtain ⟨y, hy, rfl⟩ := Option.map_eq_some_iff.1 hx;exact (hs.hr.fr i y hy).ren
  ·rw [g4] at hx; exact hr.fr j x hx
 ·obtain ⟨hob, hno⟩ := hs.hr.kb b p hp;refine ⟨hob, fun ho => ?_⟩;rcases ownc b ho with e | ⟨j, g1, g2, g3, g4⟩
  ·exact hno e
  ·exact (hr.kb b p hp).2 ⟨j, g3, g4⟩
 ·rw [hlen]; omega
 ·have hlt := Z2p hk
  by_cases hm : k ∈ ix
  ·obtain ⟨i, hi⟩ := List.mem_iff_getElem?.1 hm;obtain ⟨x, hx1, hx2⟩ := h.sits i k hi;have hxo : Z13 Hf i = some .mk := by
    rw [Z19 hx2, Z9e] at hk;obtain ⟨x0, g1, g2⟩ := Option.map_eq_some_iff.1 hk;rw [Z19 hx1, g1]
    cases x0 <;> simp [Zig] at g2 ⊢
   obtain ⟨a1, a2⟩ := hs.mks i hxo;constructor
   ·have := Zk0 (Hf' := Hf') h hs.len hi;obtain ⟨y, hy, hyo⟩ := Option.bind_eq_some_iff.1 a1;rw [hy] at this;rw [Z19 this, Z9e, hyo]; rfl
   ·intro c hc;have := (Zd5 (μ := μ) (μ' := μ') h i c).2 (a2 c (by simp only [Mu.ren_inn, Z4r hi]; exact hc))
    rwa [Z4r hi] at this
  ·refine ⟨by rw [ob2 (Zdv hm hlt)]; exact hk, fun c hc => ?_⟩;simp only [Z1v, if_pos hlt, if_neg hm]; exact hc
def Zuf (ρ : Nat -> Nat) : List AD -> List AD
 | [] => []
 | .mk k :: r => .mk (ρ k) :: Zuf ρ r
 | .fn f caps as :: r => .fn f (renL ρ caps) (renL ρ as) :: Zuf ρ r
 | .lit d :: r => .lit d :: Zuf ρ r
theorem Lent.ob_up (h : Lent H ix Hf) {i : Nat} (hk : Z13 H (rho ix H.length i) = some .mk) : Z13 Hf i = some .mk := by
 by_cases hi : i < ix.length
 ·obtain ⟨x, hx1, hx2⟩ := h.sits i ix[i] (List.getElem?_eq_getElem hi);rw [Z4r (List.getElem?_eq_getElem hi), Z19 hx2, Z9e] at hk;obtain ⟨x0, g1, g2⟩ := Option.map_eq_some_iff.1 hk;rw [Z19 hx1, g1]
  cases x0 <;> simp [Zig] at g2 ⊢
 ·rw [Zf7 (Nat.le_of_not_lt hi)] at hk;have := Z2p hk; omega
theorem Lent.adr (h : Lent H ix Hf) : ∀ {l : List AD} {ds : List Deferred}, ADR F μ H (Zuf (rho ix H.length) l) ds -> ADR F (μ.ren (rho ix H.length)) Hf l ds
 | [], _, e => e
 | .mk k :: r, _, ⟨cs, ds', h1, h2, h3, hn, h4, h5⟩ => ⟨cs, ds', h1, h2, h.ob_up h3, hn, h4, h.adr h5⟩
 | .fn f caps as :: r, _, ⟨cv, av, ds', h1, ⟨h2, h2'⟩, ⟨h3, h3'⟩, h4⟩ => ⟨cv, av, ds', h1,
   ⟨by rw [Zk] at h2; exact h2, fun i c v a b => Z2x (h2' i (renD _ c) v (by rw [Z1g, a]; rfl) b) c rfl⟩,
   ⟨by rw [Zk] at h3; exact h3, fun i c v a b => Z2x (h3' i (renD _ c) v (by rw [Z1g, a]; rfl) b) c rfl⟩, h.adr h4⟩
 | .lit d :: r, _, ⟨ds', h1, h2⟩ => ⟨ds', h1, h.adr h2⟩
theorem Lent.kp {m : Nat} (h : Lent H ix Hf) (pre : ∀ i, i < m -> Z9f ix i = some i) : Kp m μ H (μ.ren (rho ix H.length)) Hf := by
 have e : ∀ i, i < m -> rho ix H.length i = i := fun i hi => by
  have := pre i hi;rw [Z8i] at this;exact Z4r this
 exact ⟨fun i hi => by rw [Mu.ren_loc, e i hi], fun i hi hk => ⟨h.ob_up (by rw [e i hi]; exact hk), fun c hc => by rw [Mu.ren_inn, e i hi]; exact hc⟩⟩
end
end Go.Abs

namespace Go.Abs
open Go
inductive RA where
 | ret (d : D)
 | pan (d : D)
def Zb7 (F : Fz) (μ : Mu) (H : List Blk) (w : World) (Q : RA -> List Blk -> Prop) : Ending -> World -> Prop
 | .returned v, w' => ∃ F' μ' H' d, Stp F μ H w F' μ' H' w' /\ VR F' μ' d v /\ Q (.ret d) H'
 | .panicked ch, w' => ∃ F' μ' H' d v, Stp F μ H w F' μ' H' w' /\ ch = [{ v := v, recovered := false }] /\ VR F' μ' d v /\ Q (.pan d) H'
 | .outgrown, _ => False
structure CallA (P : Program) (f : FuncId) (as : List D) (H : List Blk) (Q : RA -> List Blk -> Prop) : Prop where
 fn : ∃ fn, P.funcs[f]? = some fn /\ fn.body.isSome = true /\ (fn.name == "runtime.NumGoroutine") = false
 out : ∀ F μ (vs : Array Value) w, HR F μ H w -> as.length = vs.size -> (∀ (i : Nat) (d : D) (v : Value), as[i]? = some d -> vs[i]? = some v -> VR F μ d v) -> Z1vt P f vs w (Zb7 F μ H w Q)
def Zd6 : Nat -> List D -> List (Nat × D)
 | _, [] => []
 | n, d :: r => (n, d) :: Zd6 (n + 1) r
theorem Z9h : ∀ (n : Nat) (as : List D) (t : Nat) (d : D), Z1c (Zd6 n as) t = some d -> n <= t /\ as[t - n]? = some d
 | n, [], t, d, h => by cases h
 | n, x :: r, t, d, h => by
  simp only [Zd6, Z1c] at h
  split at h
  ·rename_i e; subst e; cases h; simp
  ·obtain ⟨h1, h2⟩ := Z9h (n + 1) r t d h;have : t - n = (t - (n + 1)) + 1 := by omega
   rw [this]; exact ⟨by omega, by simpa using h2⟩
def Z7m (A : Ar) (T : TT) (s : St) : List ResultVar -> (List D -> Prop) -> Prop
 | [], K => K []
 | .tmp t :: r, K => opt (Z1c s.env t) fun d => Z7m A T s r fun ds => K (d :: ds)
 | .cell a t :: r, K => (match Z1d T t, Z1c s.env a with | some e, some p => ldP A s.H e.agg e.size (fun d => Z7m A T s r fun ds => K (d :: ds)) p | _, _ => False)
def Zih (A : Ar) (T : TT) (s : St) (K : D -> Prop) (rs : List ResultVar) : Prop := Z7m A T s rs fun ds => match ds with | [d] => K d | ds => K (.tup ds)
section
variable {P : Program} {T : TT} {F : Fz} {μ : Mu} {w : World}
def Zf9 (tmps : Array Value) : ResultVar -> Sem Value
 | .tmp t => pure (tmps.getD t undef)
 | .cell a t => do loadVar t (<- asAddr (tmps.getD a undef))
theorem Zmg (fn : Func) (tmps : Array Value) : results fn tmps = (do
  let vs <- fn.results.mapM (Zf9 tmps)
  pure (if h : vs.size = 1 then vs[0] else .tuple vs)) := by
 unfold results
 congr 1
theorem Zk1 {s : St} {a : Act} (he : ER F μ s a) {t : Nat} {d : D} (h : Z1c s.env t = some d) : VR F μ d (a.tmps.getD t undef) := by
 obtain ⟨v, h1, h2⟩ := he.env t d h;rw [Array.getD_eq_getD_getElem?, h1]; exact h2
theorem Zfa {t : TypeId} {v y : Value} (h : (Instr.loadAt t v).run P w = .ok y w) : (do loadVar t (<- asAddr v) : Sem Value).run P w = .ok y w := by
 unfold Instr.loadAt Instr.sureAddr at h
 split at h
 ·simpa [asAddr] using h
 ·simp [Sem.run_bind] at h
theorem Z8l (hT : TOK P T) {s : St} {a : Act} (hr : HR F μ s.H w) (he : ER F μ s a) : ∀ (rs : List ResultVar) (K : List D -> Prop), Z7m ar T s rs K -> ∃ ds vs, (rs.mapM (Zf9 a.tmps)).run P w = .ok vs w /\ VRL F μ ds vs /\ K ds
 | [], K, h => ⟨[], [], by simp, trivial, h⟩
 | .tmp t :: r, K, h => by
  simp only [Z7m, opt] at h
  split at h
  ·rename_i d hd
   obtain ⟨ds, vs, h1, h2, h3⟩ := Z8l hT hr he r _ h;exact ⟨d :: ds, _ :: vs, by simp [List.mapM_cons, Zf9, h1], ⟨Zk1 he hd, h2⟩, h3⟩
  ·exact h.elim
 | .cell c t :: r, K, h => by
  simp only [Z7m] at h
  split at h
  ·rename_i e p h1 h2
   obtain ⟨x, y, g1, g2, g3⟩ := Zgk hT h1 hr (Zk1 he h2) h;obtain ⟨ds, vs, k1, k2, k3⟩ := Z8l hT hr he r _ g3;exact ⟨x :: ds, y :: vs, by simp only [List.mapM_cons, Zf9, Sem.run_bind]; rw [<- Sem.run_bind, Zfa g1]; simp [k1], ⟨g2, k2⟩, k3⟩
  ·exact h.elim
theorem Zbi (hT : TOK P T) {s : St} {a : Act} (hr : HR F μ s.H w) (he : ER F μ s a) {fn : Func} {K : D -> Prop} (h : Zih ar T s K fn.results.toList) : ∃ d v, (results fn a.tmps).run P w = .ok v w /\ VR F μ d v /\ K d := by
 obtain ⟨ds, vs, h1, h2, h3⟩ := Z8l hT hr he _ _ h;rw [Zmg];have e : (fn.results.mapM (Zf9 a.tmps)).run P w = .ok vs.toArray w := by
  rw [Array.mapM_eq_mapM_toList]; simp [h1]
 simp only [Sem.run_bind, e, Result.andThen_ok, Sem.run_pure];have tupv : ∀ {ds : List D} {vs : List Value}, VRL F μ ds vs -> VR F μ (.tup ds) (.tuple vs.toArray) := fun {ds vs} h => .tup _ _ (by simpa using h.len) (fun i c v hc hv => h.get i _ _ (by simpa using hc) (by simpa using hv))
 cases ds with
 | nil =>
  cases vs with
  | nil => exact ⟨_, _, rfl, tupv h2, h3⟩
  | cons => exact h2.elim
 | cons d ds =>
  cases vs with
  | nil => exact h2.elim
  | cons v vs =>
   cases ds with
   | nil =>
    cases vs with
    | nil => exact ⟨d, v, by simp, h2.1, h3⟩
    | cons => exact h2.2.elim
   | cons d2 ds =>
    cases vs with
    | nil => exact h2.2.elim
    | cons v2 vs => exact ⟨_, _, rfl, by rw [dif_neg (by simp)]; exact tupv h2, h3⟩
end
end Go.Abs

namespace Go.Abs
open Go
def Znx (A : Ar) (T : TT) (rs : List ResultVar) (Q : RA -> List Blk -> Prop) : AX -> St -> Prop
 | .normal, s => s.dfs = [] /\ Zih A T s (fun d => Q (.ret d) s.H) rs
 | .ret, s => s.dfs = [] /\ Zih A T s (fun d => Q (.ret d) s.H) rs
 | .pan d, s => s.dfs = [] /\ Q (.pan d) s.H
 | _, _ => False
section
variable {P : Program} {T : TT} {F : Fz} {μ : Mu} {w : World} {r : Option Nat}
theorem Zfb (hT : TOK P T) {f : FuncId} {fn : Func} {c : Code} (hf : P.funcs[f]? = some fn) (hb : fn.body = some c) (hnm : (fn.name == "runtime.NumGoroutine") = false) {as : List D} {H : List Blk} {Q : RA -> List Blk -> Prop} (hnt : Nat.ble as.length fn.ntmps = true)
  (h : WpA P none H.length c (Znx ar T fn.results.toList Q) { env := Zd6 0 as, H := H, nt := fn.ntmps, dfs := [] }) : CallA P f as H Q := by
 refine ⟨⟨fn, hf, by rw [hb]; rfl, hnm⟩, fun F μ vs w hr hl hv => ?_⟩;have hle := Nat.le_of_ble_eq_true hnt;refine Z1yg hf hb (Z1us (h.out F μ _ w ⟨hr, ⟨fun t d ht => ?_, ?_, rfl⟩, Nat.le_refl _⟩) fun e a' w' hp => ?_)
 ·obtain ⟨-, h2⟩ := Z9h 0 as t d ht;rw [Nat.sub_zero] at h2;have hlt : t < vs.size := by rw [<- hl]; exact (List.getElem?_eq_some_iff.1 h2).1
  refine ⟨vs[t], ?_, hv t d _ h2 (Array.getElem?_eq_getElem hlt)⟩;rw [Array.getElem?_append_left hlt, Array.getElem?_eq_getElem hlt]
 ·simp; omega
 ·obtain ⟨F', μ', s', x, p1, p2, p3, p4, p5⟩ := hp;have hs : Stp F μ H w F' μ' s'.H w' := ⟨p1, p3.hr, p3.len, p2.same, fun k hk => p2.mks k (Z2p hk) hk⟩;have fin : s'.dfs = [] /\ Zih ar T s' (fun d => Q (.ret d) s'.H) fn.results.toList -> Z1vn P fn a'.tmps (Zb7 F μ H w Q) a'.defers .returning w' := fun ⟨h1, h2⟩ => by
   have hd : a'.defers = [] := by have := p3.er.dfs; rw [h1] at this; exact this
   rw [hd];intro n;obtain ⟨d, v, g1, g2, g3⟩ := Zbi hT (p3.hr.at n) p3.er h2;exact ⟨v, g1, F', μ', s'.H, d, hs, g2, g3⟩
  cases e <;> cases x <;> try exact p4.elim
  case normal.normal => exact fin p5
  case ret.ret => exact fin p5
  case panic.pan ch d =>
   obtain ⟨v, g1, g2⟩ := p4;have hd : a'.defers = [] := by have := p3.er.dfs; rw [p5.1] at this; exact this
   show Z1vn P fn a'.tmps (Zb7 F μ H w Q) a'.defers (.panicking ch) w';rw [hd];exact ⟨F', μ', s'.H, d, v, hs, g1, g2, p5.2⟩
  all_goals exact p5.elim
def Z62 (ρ : Nat -> Nat) (H : List Blk) : List Nat -> List Blk -> Prop
 | [], [] => True
 | k :: ix, x :: Hf => Z1m H k = some (Z68 ρ x) /\ Z62 ρ H ix Hf
 | _, _ => False
theorem Z11 {ρ : Nat -> Nat} {H : List Blk} : ∀ {ix : List Nat} {Hf : List Blk}, Z62 ρ H ix Hf -> Hf.length = ix.length /\ ∀ (i k : Nat), ix[i]? = some k -> ∃ x, Hf[i]? = some x /\ H[k]? = some (Z68 ρ x)
 | [], [], _ => ⟨rfl, fun i k h => by simp at h⟩
 | k0 :: ix, x :: Hf, h => by
  obtain ⟨h1, h2⟩ := Z11 h.2;refine ⟨by simp [h1], fun i k hk => ?_⟩
  match i, hk with
  | 0, hk => simp at hk; subst hk; exact ⟨x, rfl, by rw [<- Z1u]; exact h.1⟩
  | i + 1, hk => exact h2 i k (by simpa using hk)
 | [], _ :: _, h => h.elim
 | _ :: _, [], h => h.elim
theorem Z8m {f : FuncId} {fn : Func} (hf : P.funcs[f]? = some fn) (hb : fn.body.isSome = true) (hnm : (fn.name == "runtime.NumGoroutine") = false) (args : Array Value) (w : World) : (callFunc f args).run P w = .ok (.enter f args) w := by
 obtain ⟨c, hc⟩ := Option.isSome_iff_exists.1 hb;have hnm2 : ¬ fn.name = "runtime.NumGoroutine" := by simpa using hnm
 unfold callFunc;rw [Sem.run_bind];have : (program : Sem Program).run P w = .ok P w := rfl;rw [this];simp [hf, hc, hnm2]
theorem Z7t {o : Oper} {s : St} {K : D -> List Blk -> List AD -> Prop} {X : D -> List Blk -> Prop} {c : Call} {fo : Operand} {f : FuncId} {caps as0 as' : List D} {ix : List Nat} {Hf : List Blk}
  (ho : o.op = .call c) (hc : c.callee = .value fo) (hfo : evo s.env fo = some (.fn f caps)) (has : Z34 (c.args.toList.map (evo s.env)) = some as0) (hren : renL (rho ix s.H.length) as' = as0 ++ caps)
  (hnd : ix.Nodup) (hl : Z62 (rho ix s.H.length) s.H ix Hf)
  (h : CallA P f as' Hf (fun x Hf' => match x with | .ret d => K (renD (rho ix s.H.length) d) (Z10 s.H ix Hf') s.dfs | .pan d => X (renD (rho ix s.H.length) d) (Z10 s.H ix Hf'))) : OpA P r o s K X := by
 refine ⟨fun F μ a w hr he next Q hn hp => ?_⟩;have hlent : Lent s.H ix Hf := ⟨hnd, (Z11 hl).1, (Z11 hl).2, Zab (Z11 hl).1 (Z11 hl).2 hr⟩;obtain ⟨fn, hf, hb, hnm⟩ := h.fn;have hfv := he.evo hfo;have fnv : ∀ y, VR F μ (.fn f caps) y -> ∃ caps' : Array Value, y = .func (.func f) #[] caps' /\ caps.length = caps'.size /\ ∀ (i : Nat) (c : D) (v : Value), caps[i]? = some c -> caps'[i]? = some v -> VR F μ c v := fun y hfv => by
  cases hfv with
  | cl _ _ hc => cases hc with | fn _ _ vs hl h => exact ⟨vs, rfl, hl, fun i c v h1 h2 => .cl _ _ (h i c v h1 h2)⟩
  | fn _ _ vs hl h => exact ⟨vs, rfl, hl, h⟩
 obtain ⟨caps', hfe, hcl, hcv⟩ : ∃ caps' : Array Value, a.eval fo = .func (.func f) #[] caps' /\ caps.length = caps'.size /\ ∀ (i : Nat) (c : D) (v : Value), caps[i]? = some c -> caps'[i]? = some v -> VR F μ c v := fnv _ hfv;have hav := Zjr he has;have hrun : (o.semAt r a.eval).run P w = .ok (.enter f (c.args.map a.eval ++ caps')) w := by
  rw [Oper.semAt_eq r a.eval o (fun c e => by rw [ho] at e; cases e)];unfold execOp;rw [ho];simp only [resolve, hc, hfe, Deferred.ofValue, Sem.run_bind, Sem.run_pure, Result.andThen_ok, invoke, Array.empty_append];exact Z8m hf hb hnm _ _
 refine ⟨?_, ?_⟩
 ·rw [Oper.semAt_eq r a.eval o (fun c e => by rw [ho] at e; cases e)];unfold execOp;rw [ho];simp only [resolve, hc, hfe, Deferred.ofValue, Sem.events_bind, Sem.run_pure, Sem.events_pure, Result.evThen_ok, invoke, Array.empty_append];rw [Z1w4 hf hb hnm];exact .nil
 rw [hrun, Z1yf];have hcall : Z1vt P f (c.args.map a.eval ++ caps') w (Zb7 F (μ.ren (rho ix s.H.length)) Hf w _) := h.out F _ _ w (Zac hlent hr) (by
   have h1 := congrArg List.length hren
   rw [Zk] at h1
   have h2 := hav.len
   rw [h1]; simp; simp at h2; omega) (fun i d v hd hv => by
   have h1 : (as0 ++ caps)[i]? = some (renD (rho ix s.H.length) d) := by rw [<- hren, Z1g, hd]; rfl
   refine Z2x ?_ d rfl
   have h2 := hav.len
   simp at h2
   by_cases hi : i < as0.length
   ·rw [List.getElem?_append_left hi] at h1
    rw [Array.getElem?_append_left (by simp; omega)] at hv
    exact hav.get i _ v h1 (by simpa using hv)
   ·rw [List.getElem?_append_right (by omega)] at h1
    rw [Array.getElem?_append_right (by simp; omega)] at hv
    refine hcv (i - as0.length) _ v h1 ?_
    rw [<- hv]; congr 1; simp; omega)
 refine Z1vt.mono hcall fun e w' he' => ?_
 cases e with
 | returned v =>
  obtain ⟨F', μ', H', d, hs, hv, hq⟩ := he';have hst := Z6q hlent hr hs;have hmu := Z9g (μ := μ) hlent hs.same;exact hn F' _ _ w' s.dfs _ _ v hst (hst.adr hr he.dfs) (Z6p (by rw [hmu]; exact hv)) hq
 | panicked ch =>
  obtain ⟨F', μ', H', d, v, hs, rfl, hv, hq⟩ := he';have hst := Z6q hlent hr hs;have hmu := Z9g (μ := μ) hlent hs.same;exact hp F' _ _ w' _ v hst (Z6p (by rw [hmu]; exact hv)) hq
 | outgrown => exact he'.elim
end
end Go.Abs

namespace Go.Abs
open Go
def Zfc (s : St) (c : Operand) (Kt Kf : St -> Prop) : Prop :=
 match evo s.env c with
 | some (.v (.bool b)) =>
  match c with
  | .tmp t => (match b with | true => Kt { s with env := Z6j s.env t (.v (.bool true)) } | false => Kf { s with env := Z6j s.env t (.v (.bool false)) })
  | _ => (match b with | true => Kt s | false => Kf s)
 | _ => False
structure Stop where
 code : Code -> (AX -> St -> Prop) -> St -> Prop
 ops : Array Oper -> (AX -> St -> Prop) -> List Nat -> St -> Prop
def vcC (A : Ar) (T : TT) (S : Stop) : Code -> (AX -> St -> Prop) -> St -> Prop
 | .seq x y, Q, s => vcC A T S x (Zb1 (vcC A T S y Q) Q) s
 | .skip, Q, s => Q .normal s
 | .label _, Q, s => Q .normal s
 | .ret, Q, s => Q .ret s
 | .exit id, Q, s => Q (.exit id) s
 | .block id c, Q, s => vcC A T S c (Zi3 id Q) s
 | .region _ ops false, Q, s => Z4h A T ops (fun l s => match l with | [] => Q .normal s | i :: l => S.ops ops Q (i :: l) s) (List.range ops.size) s
 | .cond c x y, Q, s => Zfc s c (vcC A T S x Q) (vcC A T S y Q)
 | c, Q, s => S.code c Q s
section
variable {P : Program} {T : TT} {r : Option Nat} {m : Nat}
theorem Zdw {s : St} {c : Operand} {x y : Code} {Q : AX -> St -> Prop} (h : Zfc s c (WpA P r m x Q) (WpA P r m y Q)) : WpA P r m (.cond c x y) Q s := by
 unfold Zfc at h
 split at h
 ·rename_i b hb
  have key : ∀ (e : List (Nat × D)), (∀ n d, Z1c e n = some d -> Z1c s.env n = some d) -> ∀ {c : Code}, WpA P r m c Q { s with env := e } -> WpA P r m c Q s := fun e he c hw => ⟨fun F μ a w h1 => hw.out F μ a w (h1.env he)⟩
  split at h
  ·rename_i t
   have hb' : Z1c s.env t = some (.v (.bool b)) := hb;refine Zjg hb (fun e => ?_) (fun e => ?_)
   ·subst e; exact key _ (fun n d hn => Zaa hb' n d hn) h
   ·subst e; exact key _ (fun n d hn => Zaa hb' n d hn) h
  ·refine Zjg hb (fun e => ?_) (fun e => ?_)
   ·subst e; exact h
   ·subst e; exact h
 ·exact h.elim
theorem Zfd {s : St} {c : Operand} {Kt Kf Kt' Kf' : St -> Prop} (h : Zfc s c Kt Kf) (h1 : ∀ s, Kt s -> Kt' s) (h2 : ∀ s, Kf s -> Kf' s) : Zfc s c Kt' Kf' := by
 unfold Zfc at h ⊢
 split at h
 ·split at h
  ·split at h
   ·exact h1 _ h
   ·exact h2 _ h
  ·split at h
   ·exact h1 _ h
   ·exact h2 _ h
 ·exact h.elim
def Zo (P : Program) (r : Option Nat) (m : Nat) : Stop := { code := WpA P r m, ops := OpsA P r m }
theorem Z3v (hT : TOK P T) {ops : Array Oper} {Q : AX -> St -> Prop} {K : List Nat -> St -> Prop} (hK : ∀ l s, K l s -> OpsA P r m ops Q l s) : ∀ (l : List Nat) (s : St), Z4h ar T ops K l s -> OpsA P r m ops Q l s
 | [], s, h => hK _ _ h
 | i :: l, s, h => by
  simp only [Z4h] at h
  split at h
  ·exact h.elim
  ·rename_i o ho
   split at h
   ·rename_i hd
    refine Z3k ho hd (Z53 h (fun e hk => ?_) (fun e hk => Z3v hT hK l _ hk));have := Zeg (P := P) (r := r) (o := o) (s := { s with env := e }) (K := fun d H' ds => Z4h ar T ops K l (St.step { s with env := e } o.dst d H' ds)) (X := fun _ _ => False) hT hk;exact this.mono (fun d H ds hk => Z3v hT hK l _ hk) (fun _ _ h => h.elim)
   ·rename_i hd
    refine Z3k ho hd (Z53 h (fun e hk => ?_) (fun e hk => Z3v hT hK l _ hk));have := Znv (P := P) (r := r) (o := o) (s := { s with env := e }) (K := fun d H' ds => Z4h ar T ops K l (St.step { s with env := e } o.dst d H' ds)) (X := fun _ _ => False) hT hk;exact this.mono (fun d H ds hk => Z3v hT hK l _ hk) (fun _ _ h => h.elim)
   ·rename_i hd
    refine Z3k ho hd (Z53 h (fun e hk => ?_) (fun e hk => Z3v hT hK l _ hk));have := Zgs (P := P) (r := r) (o := o) (s := { s with env := e }) (K := fun d H' ds => Z4h ar T ops K l (St.step { s with env := e } o.dst d H' ds)) (X := fun _ _ => False) hT hk;exact this.mono (fun d H ds hk => Z3v hT hK l _ hk) (fun _ _ h => h.elim)
   ·exact hK _ _ h
theorem Z4a (hT : TOK P T) : ∀ (c : Code) (Q : AX -> St -> Prop) (s : St), vcC ar T (Zo P r m) c Q s -> WpA P r m c Q s
 | .seq x y, Q, s, h => by
  simp only [vcC] at h;refine Znq (Z94 (Z4a hT x _ s h) fun a s hq => ?_)
  cases a <;> first | exact Z4a hT y Q _ hq | exact hq
 | .skip, Q, s, h => Zje (by simpa only [vcC] using h)
 | .label l, Q, s, h => Zgi (by simpa only [vcC] using h)
 | .ret, Q, s, h => Znr (by simpa only [vcC] using h)
 | .exit id, Q, s, h => Zjf (by simpa only [vcC] using h)
 | .block id c, Q, s, h => Zgj (Z4a hT c _ s (by simpa only [vcC] using h))
 | .region id ops false, Q, s, h => by
  simp only [vcC] at h;refine Zbh (Z3v hT (fun l s hk => ?_) _ _ h)
  cases l with
  | nil => exact Zf6 hk
  | cons i l => exact hk
 | .region id ops true, Q, s, h => by simpa only [vcC, Zo] using h
 | .cond c x y, Q, s, h => by
  simp only [vcC] at h;exact Zdw (Zfd h (fun s h => Z4a hT x Q s h) (fun s h => Z4a hT y Q s h))
 | .loop c, Q, s, h => by simpa only [vcC, Zo] using h
 | .scope c, Q, s, h => by simpa only [vcC, Zo] using h
 | .goto l, Q, s, h => by simpa only [vcC, Zo] using h
 | .refuse w, Q, s, h => by simpa only [vcC, Zo] using h
 | .rangeFunc a b c d, Q, s, h => by simpa only [vcC, Zo] using h
theorem Z1ya (hT : TOK P T) {c : Code} {Q : AX -> St -> Prop} {s : St} (h : ∀ (A : Ar) (S : Stop), A = ar -> S = Zo P r m -> vcC A T S c Q s) : WpA P r m c Q s :=
 Z4a hT c Q s (h _ _ rfl rfl)
end
end Go.Abs
