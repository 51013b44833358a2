/- Part DrnA of the proofs about the benches of the accordion maker: see the last text of the claim for what is proved. -/
import Derived.Test.YtegjabljeepbdaaGreatDoorRunL
import Derived.Test.YtegjabljeepbdaaGreatDoorRunO
import Derived.Test.YtegjabljeepbdaaGreatDoorRunV
import Derived.Test.YtegjabljeepbdaaGreatDoorRunR
import Derived.Test.YtegjabljeepbdaaGreatDoorRunS
import Derived.Test.YtegjabljeepbdaaGreatDoorRunW
import Derived.Test.YtegjabljeepbdaaGreatDoorRunT
set_option linter.unusedVariables false
set_option linter.unusedSimpArgs false
set_option linter.unnecessarySimpa false
set_option linter.constructorNameAsVariable false

namespace Go.Proofs.YtegjabljeepbdaaGreatDoor.Bn
open Go Go.Abs Go.Proofs
theorem Z1c9 {q : Sl -> Bool} {l : List Sl} {j : Nat} {x y : Sl} (hx : l[j + 1]? = some x) (hy : l[j]? = some y) (h : x.bh < y.bh) (hs : Z1ay (l.filter q)) : (swpB l (j + 1)).filter q = l.filter q := by
 obtain ⟨A, B, e1, -, e2⟩ := Z16e hx hy;rw [e2];rw [e1] at hs ⊢
 cases hqx : q x <;> cases hqy : q y <;> simp only [List.filter_append, List.filter_cons, hqx, hqy, if_true, if_false, Bool.false_eq_true]
 exfalso
 unfold Z1ay at hs;simp only [List.filter_append, List.filter_cons, hqx, hqy, ite_true] at hs;have := (List.pairwise_append.1 hs).2.1;have := (List.pairwise_cons.1 this).1 x (by simp);omega
theorem Z1bq {q : Sl -> Bool} : ∀ (j : Nat) (l : List Sl), Z1ay (l.filter q) -> (bubB l j).filter q = l.filter q
 | 0, _, _ => rfl
 | j + 1, l, hs => by
  unfold bubB
  split
  ·rename_i x y hx hy
   split
   ·rename_i h
    have e := Z1c9 hx hy h hs;rw [Z1bq j _ (by rw [e]; exact hs), e]
   ·rfl
  ·rfl
theorem Z1br {q : Sl -> Bool} : ∀ (n i : Nat) (l : List Sl), Z1ay (l.filter q) -> (insB l i n).filter q = l.filter q
 | 0, _, _, _ => rfl
 | n + 1, i, l, hs => by
  show (insB (bubB l i) (i + 1) n).filter q = _;have e := Z1bq i l hs;rw [Z1br n (i + 1) _ (by rw [e]; exact hs), e]
theorem Z1c1 {q : Sl -> Bool} {l : List Sl} (hs : Z1ay (l.filter q)) : (Z151 l).filter q = l.filter q := Z1br _ _ _ hs
section
variable {s : Sh} {p : List Nat}
def bnT (s : Sh) (p : List Nat) (c n : Nat) : Int := (ckT s p true n).bn.getD c 0
def wbT (s : Sh) (p : List Nat) (i n : Nat) : Int := (Z14w true s (ckT s p true n) i 0).b
theorem Z1b3 (i n : Nat) : bnT s p (wbT s p i n).toNat n <= begT s p i n := by
 show _ <= max _ _;exact Int.le_max_right _ _
theorem Z1bs (hv : Val s) (hp : PlanLe s p) {n i : Nat} (h : p[n]? = some i) : wbT s p i n = (Z150 s i ((p.take n).count i)).b /\ 0 <= wbT s p i n /\ wbT s p i n < 3 := by
 have hn := (List.getElem?_eq_some_iff.1 h).1;have hc := Z16m hv hp true (Nat.le_of_lt hn);obtain ⟨hi, hk, hk2, -, -, -⟩ := Z15g (sd := true) hv hp (Int.le_refl _) Z178 h hc 0;have hk' : (ckT s p true n).dn.getD i 0 = (p.take n).count i := hk;obtain ⟨w1, w2, w3, w4, -⟩ := Z15n hv hi hk2;have h3 := hv.b1;have e : wbT s p i n = (Z150 s i ((p.take n).count i)).b := by
  unfold wbT Z14w;rw [hk']
 rw [e];exact ⟨rfl, w1, by omega⟩
theorem Z1bh (hv : Val s) (hp : PlanLe s p) {n i : Nat} (h : p[n]? = some i) (c : Nat) : bnT s p c (n + 1) = if c = (wbT s p i n).toNat then (Z14w true s (ckT s p true n) i 0).en else bnT s p c n := by
 have hn := (List.getElem?_eq_some_iff.1 h).1;have hc := Z16m hv hp true (Nat.le_of_lt hn);obtain ⟨-, h0, h3⟩ := Z1bs hv hp h;unfold bnT;rw [Z18f true h];show ((ckT s p true n).bn.set (wbT s p i n).toNat _).getD c 0 = _;rw [Z15f _ _ _ _ _ (by rw [hc.bn]; omega)]
theorem Z1bi (hv : Val s) (hp : PlanLe s p) {c a : Nat} : ∀ d, a + d <= p.length -> bnT s p c a <= bnT s p c (a + d)
 | 0, _ => Int.le_refl _
 | d + 1, h => by
  have ih := Z1bi hv hp (c := c) (a := a) d (by omega);obtain ⟨i, hi⟩ : ∃ i, p[a + d]? = some i := ⟨_, List.getElem?_eq_getElem (by omega)⟩;have e := Z1bh hv hp hi c;rw [show a + (d + 1) = a + d + 1 by omega, e]
  split
  ·rename_i hji
   subst hji;have h1 := Z1b3 (s := s) (p := p) i (a + d);have h2 := Z170 hv hp hi;omega
  ·exact ih
theorem Z1bn (hv : Val s) (hp : PlanLe s p) {a b i j : Nat} (ha : p[a]? = some i) (hb : p[b]? = some j) (h : a < b) (he : wbT s p i a = wbT s p j b) : begT s p i a <= begT s p j b := by
 have hbl := (List.getElem?_eq_some_iff.1 hb).1;have h1 := Z170 hv hp ha;have h2 := Z1bh hv hp ha (wbT s p i a).toNat;rw [if_pos rfl] at h2;have h3 := Z1bi hv hp (c := (wbT s p i a).toNat) (a := a + 1) (b - (a + 1)) (by omega);rw [show a + 1 + (b - (a + 1)) = b by omega] at h3;have h4 := Z1b3 (s := s) (p := p) j b;rw [<- he] at h4;omega
theorem Z1b7 (hv : Val s) (hp : PlanLe s p) (c : Int) : Z1ay ((runS s mo0 p).filter fun x => decide (x.b = c)) := by
 unfold Z1ay;rw [List.pairwise_filter, List.pairwise_iff_getElem];intro a b ha hb hab h1 h2;have fa := run_slot hv hp (List.getElem?_eq_getElem ha);have fb := run_slot hv hp (List.getElem?_eq_getElem hb);have e1 := of_decide_eq_true h1;have e2 := of_decide_eq_true h2;have g1 := fa.b; have g2 := fb.b;rw [fa.k, Int.toNat_natCast, e1] at g1;rw [fb.k, Int.toNat_natCast, e2] at g2;rw [fa.g, fb.g];exact Z1bn hv hp fa.i fb.i hab (by rw [(Z1bs hv hp fa.i).1, (Z1bs hv hp fb.i).1, <- g1, <- g2])
end
def ofBn (c : Nat) (L : List Sl) : List Sl := L.filter fun x => decide (x.b = (c : Int))
def frB (fs : Nat -> Nat) (L : List Sl) (n b : Nat) : Nat :=
 (if b % 2 = 0 then (ofBn (b / 2) L).take (fs (b / 2)) else (ofBn (b / 2) L).drop (fs (b / 2))).countP fun x => decide (x.t = (n : Int))
theorem frB_nil (fs : Nat -> Nat) (n b : Nat) : frB fs [] n b = 0 := by
 unfold frB ofBn
 split <;> simp
theorem ofBn_snoc (c : Nat) (L : List Sl) (x : Sl) : ofBn c (L ++ [x]) = ofBn c L ++ if x.b = (c : Int) then [x] else [] := by
 unfold ofBn;rw [List.filter_append]
 congr 1
 by_cases h : x.b = (c : Int) <;> simp [h]
theorem frB_snoc (fs : Nat -> Nat) (L : List Sl) (x : Sl) (n b : Nat) :
  frB fs (L ++ [x]) n b = frB fs L n b + if x.t = (n : Int) /\ x.b = ((b / 2 : Nat) : Int) /\ (b % 2 = 0 ↔ (ofBn (b / 2) L).length < fs (b / 2)) then 1 else 0 := by
 unfold frB;rw [ofBn_snoc]
 by_cases hb : x.b = ((b / 2 : Nat) : Int)
 ·rw [if_pos hb]
  by_cases hp : b % 2 = 0
  ·rw [if_pos hp, if_pos hp, List.take_append, List.countP_append]
   congr 1
   by_cases hl : (ofBn (b / 2) L).length < fs (b / 2)
   ·rw [List.take_of_length_le (by simp; omega)]
    by_cases ht : x.t = (n : Int) <;> simp [ht, hb, hp, hl]
   ·rw [show fs (b / 2) - (ofBn (b / 2) L).length = 0 by omega];simp [hp, hl]
  ·rw [if_neg hp, if_neg hp, List.drop_append, List.countP_append]
   congr 1
   by_cases hl : (ofBn (b / 2) L).length < fs (b / 2)
   ·rw [List.drop_eq_nil_of_le (by simp; omega)];simp [hp, hl]
   ·rw [show fs (b / 2) - (ofBn (b / 2) L).length = 0 by omega]
    by_cases ht : x.t = (n : Int) <;> simp [ht, hb, hp, hl]
 ·rw [if_neg hb, List.append_nil, if_neg (c := x.t = (n : Int) /\ _) (fun h => hb h.2.1), Nat.add_zero]
theorem Z1ca {fs : Nat -> Nat} {L L' : List Sl} (h : ∀ c : Nat, ofBn c L = ofBn c L') (n b : Nat) : frB fs L n b = frB fs L' n b := by
 unfold frB;rw [h]
theorem frB_le (fs : Nat -> Nat) (L : List Sl) (n b : Nat) : frB fs L n b <= L.length := by
 unfold frB ofBn;refine Nat.le_trans List.countP_le_length ?_
 split
 ·exact Nat.le_trans (List.length_take_le' _ _) (List.length_filter_le _ _)
 ·rw [List.length_drop]; exact Nat.le_trans (Nat.sub_le _ _) (List.length_filter_le _ _)
def bnL (L : List Sl) : List D := (List.range 2).map fun c => I ((ofBn c L).length : Nat)
theorem bnL_get (L : List Sl) {c : Nat} (h : c < 2) : (bnL L)[c]? = some (I ((ofBn c L).length : Nat)) := by simp [bnL, h]
theorem bnL_next (L : List Sl) (x : Sl) {c : Nat} (h : c < 2) (hx : x.b = (c : Int)) : (bnL L).set c (I (((ofBn c L).length : Nat) + 1 : Int)) = bnL (L ++ [x]) := by
 refine List.ext_getElem? fun d => ?_;have hl : (bnL L).length = 2 := by simp [bnL]
 rw [List.getElem?_set, hl]
 by_cases hd : d < 2
 ·rw [bnL_get _ hd, bnL_get _ hd, ofBn_snoc, hx, List.length_append]
  by_cases e : c = d
  ·subst e; rw [if_pos rfl, if_pos h, if_pos rfl]; rfl
  ·rw [if_neg e, if_neg (by omega)]; rfl
 ·rw [if_neg (by omega), List.getElem?_eq_none (by omega), List.getElem?_eq_none (by simp [bnL]; omega)]
theorem frB_sort {s : Sh} {p : List Nat} (hv : Val s) (hp : PlanLe s p) (fs : Nat -> Nat) (n b : Nat) : frB fs (Z151 (runS s mo0 p)) n b = frB fs (runS s mo0 p) n b :=
 Z1ca (fun c => Z1c1 (Z1b7 hv hp c)) n b
end Go.Proofs.YtegjabljeepbdaaGreatDoor.Bn

namespace Go.Proofs.YtegjabljeepbdaaGreatDoor
open Go Go.Abs Go.Proofs Go.Batch
open Bn (Sl Sh Tk Wk Z14v Z14z runS Z151 ShopOk PlanOk PlanLe Val mo0 ofBn frB)
def insX (n0 n1 : Nat) : List Mv := [mIn 0 n0 n0, mIn 0 5 5, mIn 1 n1 n1, mIn 1 5 5]
def jX (n0 n1 : Nat) (L : List Sl) : Jn := ⟨4, [true, true], insX n0 n1 ++ L.map outM⟩
def fs2 (n0 n1 c : Nat) : Nat := if c = 0 then n0 else n1
def Z1aq (n0 n1 : Nat) (L : List Sl) : List Int := [((n0 - (ofBn 0 L).length : Nat) : Int), ((5 - ((ofBn 0 L).length - n0) : Nat) : Int), ((n1 - (ofBn 1 L).length : Nat) : Int), ((5 - ((ofBn 1 L).length - n1) : Nat) : Int)]
structure InX (n0 n1 : Nat) (L : List Sl) : Prop where
 a0 : 1 <= n0 /\ n0 <= 3
 a1 : 1 <= n1 /\ n1 <= 3
 l6 : L.length <= 6
 b : ∀ x ∈ L, x.b = 0 ∨ x.b = 1
 t : ∀ x ∈ L, 0 <= x.t /\ x.t < 4
theorem Z1b8 (L : List Sl) : Z6 (L.map outM) = [] := by
 induction L with
 | nil => rfl
 | cons x L ih => rw [List.map_cons, Z2b, ih]; rfl
theorem Z1aw (n0 n1 : Nat) (L : List Sl) : Z6 (jX n0 n1 L).moves = [0, 0, 1, 1] := by
 show Z6 (insX n0 n1 ++ L.map outM) = _;rw [Z2t, Z1b8]; rfl
section
variable {n0 n1 : Nat} {L : List Sl}
theorem InX.ok (h : InX n0 n1 L) : JOk (jX n0 n1 L) where
 i1 := by show (1 : Int) <= 4; decide
 i4 := by show (4 : Int) <= 4; decide
 f1 := by show 1 <= 2; decide
 f2 := by show 2 <= 2; decide
 m10 := by show (insX n0 n1 ++ L.map outM).length <= 10; rw [List.length_append, List.length_map]; have := h.l6; show 4 + _ <= 10; omega
 b4 := by rw [Z1aw]; decide
 mv := fun m hm => by
  have h0 := h.a0;have h1 := h.a1;have key : ∀ b n : Int, 0 <= b -> b < 2 -> 0 <= n -> n <= 5 -> MOk (jX n0 n1 L) (mIn b n n) := fun b n h0 h1 h2 h3 => ⟨by show (1 : Int) <= 1; decide, by show (1 : Int) <= 3; decide, h0, h1, fun h => absurd h (by show ¬ (1 : Int) = 2; decide), fun h => absurd h (by show ¬ (1 : Int) = 2; decide), fun _ => rfl, h2, Int.le_refl _, h3⟩;rcases List.mem_append.1 hm with hm | hm
  ·simp only [insX, List.mem_cons, List.not_mem_nil, or_false] at hm;rcases hm with rfl | rfl | rfl | rfl
   ·exact key 0 n0 (by decide) (by decide) (by omega) (by omega)
   ·exact key 0 5 (by decide) (by decide) (by decide) (by decide)
   ·exact key 1 n1 (by decide) (by decide) (by omega) (by omega)
   ·exact key 1 5 (by decide) (by decide) (by decide) (by decide)
  ·obtain ⟨x, hx, rfl⟩ := List.mem_map.1 hm;have hb := h.b x hx;have ht := h.t x hx;exact ⟨by show (1 : Int) <= 2; decide, by show (2 : Int) <= 3; decide, by show 0 <= x.b; omega, by show x.b < 2; omega, fun _ => by show -1 <= x.t; omega, fun _ => ht.2, fun h => absurd rfl h, by show (0 : Int) <= 1; decide, by show (1 : Int) <= 1; decide, by show (1 : Int) <= 5; decide⟩
theorem InX.start (h : InX n0 n1 L) : DetS (jX n0 n1 L) 4 (Z1aq n0 n1 []) fun n b => (frB (fs2 n0 n1) [] n b : Nat) := by
 have hm : ∀ (k : Nat) (m : Mv), (insX n0 n1)[k]? = some m -> (jX n0 n1 L).moves[k]? = some m := fun k m e => by
  show (insX n0 n1 ++ L.map outM)[k]? = some m;rw [List.getElem?_append_left (List.getElem?_eq_some_iff.1 e).1]; exact e
 have hc : ∀ k : Nat, k <= 4 -> Z4e (jX n0 n1 L) k = (Z6 ((insX n0 n1).take k)).length := fun k hk => by
  unfold Z4e;show (Z6 ((insX n0 n1 ++ L.map outM).take k)).length = _;rw [List.take_append_of_le_length (by show k <= 4; exact hk)]
 have s1 := (DetS.start (jX n0 n1 L)).in2 (hm 0 _ rfl) rfl rfl;have s2 := s1.in2 (hm 1 _ rfl) rfl rfl;have s3 := s2.in2 (hm 2 _ rfl) rfl rfl;have s4 := s3.in2 (hm 3 _ rfl) rfl rfl;rw [hc 0 (by decide), hc 1 (by decide), hc 2 (by decide), hc 3 (by decide)] at s4;refine s4.cg ?_ fun n b => by rw [Bn.frB_nil]; rfl
 unfold Z1aq;simp [ofBn, insX, mIn, Z6]
theorem Z1as (n0 n1 : Nat) (L : List Sl) (c : Nat) (hc : c < 2) : (Z1aq n0 n1 L).getD (2 * c) 0 = ((fs2 n0 n1 c - (ofBn c L).length : Nat) : Int) /\ (Z1aq n0 n1 L).getD (2 * c + 1) 0 = ((5 - ((ofBn c L).length - fs2 n0 n1 c) : Nat) : Int) := by
 match c with
 | 0 => exact ⟨rfl, rfl⟩
 | 1 => exact ⟨rfl, rfl⟩
 | c + 2 => omega
theorem list4_ext {l l' : List Int} (h : l.length = 4) (h' : l'.length = 4) (e : ∀ k, k < 4 -> l.getD k 0 = l'.getD k 0) : l = l' := by
 refine List.ext_getElem? fun k => ?_
 by_cases hk : k < 4
 ·have := e k hk;rw [List.getD_eq_getElem?_getD, List.getD_eq_getElem?_getD, List.getElem?_eq_getElem (by omega), List.getElem?_eq_getElem (by omega)] at this;rw [List.getElem?_eq_getElem (by omega), List.getElem?_eq_getElem (by omega)];exact congrArg some this
 ·rw [List.getElem?_eq_none (by omega), List.getElem?_eq_none (by omega)]
theorem InX.step (h : InX n0 n1 L) {k : Nat} {x : Sl} (hx : L[k]? = some x) (hd : DetS (jX n0 n1 L) (4 + k) (Z1aq n0 n1 (L.take k)) fun n b => (frB (fs2 n0 n1) (L.take k) n b : Nat)) :
  DetS (jX n0 n1 L) (4 + (k + 1)) (Z1aq n0 n1 (L.take (k + 1))) fun n b => (frB (fs2 n0 n1) (L.take (k + 1)) n b : Nat) := by
 have hm : (jX n0 n1 L).moves[4 + k]? = some (outM x) := by
  show (insX n0 n1 ++ L.map outM)[4 + k]? = some (outM x);rw [List.getElem?_append_right (by show 4 <= 4 + k; omega)];show (L.map outM)[4 + k - 4]? = _;rw [show 4 + k - 4 = k by omega, List.getElem?_map, hx]; rfl
 have hxm := List.mem_of_getElem? hx;have hlk : k < L.length := (List.getElem?_eq_some_iff.1 hx).1;have ht : L.take (k + 1) = L.take k ++ [x] := by rw [List.take_add_one, hx]; rfl
 obtain ⟨c, hc, hcb⟩ : ∃ c : Nat, c < 2 /\ x.b = (c : Int) := by
  rcases h.b x hxm with e | e
  ·exact ⟨0, by decide, e⟩
  ·exact ⟨1, by decide, e⟩
 obtain ⟨N, hN⟩ : ∃ N, N = (ofBn c (L.take k)).length := ⟨_, rfl⟩;obtain ⟨F, hF⟩ : ∃ F, F = fs2 n0 n1 c := ⟨_, rfl⟩;have hN6 : N <= 5 := by
  have h1 : N <= (L.take k).length := by rw [hN]; exact List.length_filter_le _ _
  rw [List.length_take] at h1;have := h.l6;omega
 have hF1 : 1 <= F /\ F <= 3 := by rw [hF]; unfold fs2; split <;> first | exact h.a0 | exact h.a1
 obtain ⟨g0, g1⟩ := Z1as n0 n1 (L.take k) c hc;rw [<- hN, <- hF] at g0 g1;obtain ⟨l, hl⟩ : ∃ l, l = Z1aq n0 n1 (L.take k) := ⟨_, rfl⟩;have hlo := (hd.ok h.ok).1;rw [<- hl] at g0 g1 hd hlo;have hbins := Z1aw n0 n1 L;obtain ⟨own, hown⟩ : ∃ own, own = 2 * c + (if N < F then 0 else 1) := ⟨_, rfl⟩;have hb1 : ([0, 0, 1, 1] : List Int)[own]? = some (c : Int) := by
  rw [hown]
  match c, hc with
  | 0, _ => split <;> rfl
  | 1, _ => split <;> rfl
  | c + 2, h => exact absurd h (by omega)
 have hne : ∀ k, k < own -> ([0, 0, 1, 1] : List Int)[k]? = some (c : Int) -> k = 2 * c /\ own = 2 * c + 1 := fun k hk hkb => by
  have ho : own = 2 * c ∨ own = 2 * c + 1 := by rw [hown]; split <;> omega
  have hc2 : c = 0 ∨ c = 1 := by omega
  have hk4 : k < 4 := (List.getElem?_eq_some_iff.1 hkb).1;rcases hc2 with rfl | rfl
  ·exact ⟨by omega, by omega⟩
  ·have hk2 : k = 2 := by
    match k with
    | 0 => simp at hkb
    | 1 => simp at hkb
    | 2 => rfl
    | k + 3 => omega
   exact ⟨hk2, by omega⟩
 have hw : WayO true (outM x).bin (Z6 (jX n0 n1 L).moves) 0 l (outM x).lo ([0, 0, 0, 0].set own (([0, 0, 0, 0] : List Int).getD own 0 + 1)) := by
  rw [hbins];show WayO true x.b _ 0 l 1 _;rw [hcb];refine Z116 (by decide) (n := 0) (Zfv hlo.lo) hb1 ?_ fun k hk hkb => ?_
  ·rw [Z90, hown]
   split
   ·rw [Nat.add_zero, g0]; omega
   ·rw [g1]; omega
  ·obtain ⟨e, eo⟩ := hne k hk hkb;rw [hown] at eo;rw [Z90, e, g0]
   split at eo <;> omega
 have hi : (outM x).inst = ((x.t.toNat : Nat) : Int) := by
  have := (h.t x hxm).1;show x.t = _;omega
 have hfst : (jX n0 n1 L).first.getD (outM x).bin.toNat false = true := by
  show ([true, true] : List Bool).getD x.b.toNat false = true;rw [hcb, Int.toNat_natCast]
  match c, hc with
  | 0, _ => rfl
  | 1, _ => rfl
  | c + 2, h => exact absurd h (by omega)
 have hof : ∀ b, (([0, 0, 0, 0] : List Int).set own (([0, 0, 0, 0] : List Int).getD own 0 + 1)).getD b 0 = if own = b then 1 else 0 := fun b => by
  rw [Z1r _ _ _ _ (by rw [hown]; show _ < 4; split <;> omega), Z90, Z90]; rfl
 have hst := hd.out2 h.ok hm rfl rfl hfst hi hw;refine hst.cg ?_ fun n b => ?_
 ·refine list4_ext rfl rfl fun k' hk' => ?_;rw [Zha hlo.len (by simp), hof, hl];have hcc : ∀ c', c' < 2 -> ofBn c' (L.take (k + 1)) = ofBn c' (L.take k) ++ if c = c' then [x] else [] := fun c' _ => by
   rw [ht, Bn.ofBn_snoc, hcb]
   congr 1
   by_cases e : c = c'
   ·rw [if_pos e, if_pos (by omega)]
   ·rw [if_neg e, if_neg (by omega)]
  obtain ⟨d, q, hd2, hq, hk2⟩ : ∃ d q, d < 2 /\ q < 2 /\ k' = 2 * d + q := ⟨k' / 2, k' % 2, by omega, by omega, by omega⟩;obtain ⟨a0, a1⟩ := Z1as n0 n1 (L.take k) d hd2;obtain ⟨b0, b1⟩ := Z1as n0 n1 (L.take (k + 1)) d hd2;rw [hcc d hd2, List.length_append] at b0 b1;have e1 : ((if c = d then [x] else []) : List Sl).length = if c = d then 1 else 0 := by split <;> rfl
  rw [e1] at b0 b1
  by_cases hcd : c = d
  ·subst hcd;rw [if_pos rfl, <- hN, <- hF] at b0 b1;rw [<- hN, <- hF] at a0 a1;have hq2 : q = 0 ∨ q = 1 := by omega
   rcases hq2 with rfl | rfl
   ·rw [hk2, Nat.add_zero, a0, b0, hown]
    split <;> split <;> omega
   ·rw [hk2, a1, b1, hown]
    split <;> split <;> omega
  ·rw [if_neg hcd, Nat.add_zero] at b0 b1;have hno : ¬ own = k' := fun e => by
    rw [hown, hk2] at e
    split at e <;> omega
   rw [if_neg hno];have hq2 : q = 0 ∨ q = 1 := by omega
   rcases hq2 with rfl | rfl
   ·rw [hk2, Nat.add_zero, a0, b0]; omega
   ·rw [hk2, a1, b1]; omega
 ·rw [hof, ht, Bn.frB_snoc, Int.natCast_add]
  congr 1
  have ht0 := (h.t x hxm).1
  by_cases hn : n = x.t.toNat
  ·rw [if_pos hn];have hxt : x.t = (n : Int) := by omega
   have hiff : own = b ↔ (x.t = (n : Int) /\ x.b = ((b / 2 : Nat) : Int) /\ (b % 2 = 0 ↔ (ofBn (b / 2) (L.take k)).length < fs2 n0 n1 (b / 2))) := by
    rw [hcb];constructor
    ·intro e;have hb2 : b / 2 = c := by rw [<- e, hown]; split <;> omega
     refine ⟨hxt, by omega, ?_⟩;rw [hb2, <- hN, <- hF, <- e, hown]
     split <;> omega
    ·rintro ⟨-, e1, e2⟩;have hb2 : b / 2 = c := by omega
     rw [hb2, <- hN, <- hF] at e2;rw [hown]
     split <;> omega
   by_cases e : own = b
   ·rw [if_pos e, if_pos (hiff.1 e)]; rfl
   ·rw [if_neg e, if_neg (fun g => e (hiff.2 g))]; rfl
  ·rw [if_neg hn, if_neg (fun g => hn (by omega))]; rfl
theorem InX.det (h : InX n0 n1 L) : ∀ k, k <= L.length -> DetS (jX n0 n1 L) (4 + k) (Z1aq n0 n1 (L.take k)) fun n b => (frB (fs2 n0 n1) (L.take k) n b : Nat)
 | 0, _ => by rw [List.take_zero]; exact h.start
 | k + 1, hk => h.step (List.getElem?_eq_getElem (by omega)) (h.det k (by omega))
theorem InX.all (h : InX n0 n1 L) : DetS (jX n0 n1 L) (jX n0 n1 L).moves.length (Z1aq n0 n1 L) fun n b => (frB (fs2 n0 n1) L n b : Nat) := by
 have := h.det L.length (Nat.le_refl _);rw [List.take_length] at this;have e : (jX n0 n1 L).moves.length = 4 + L.length := by
  show (insX n0 n1 ++ L.map outM).length = _;rw [List.length_append, List.length_map]; rfl
 rw [e]; exact this
end
end Go.Proofs.YtegjabljeepbdaaGreatDoor

namespace Go.Proofs.YtegjabljeepbdaaGreatDoor
open Go Go.Abs Go.Proofs Go.Batch
open Bn (Sl Sh Tk Wk Z14v Z14z Z14x runS Z151 ShopOk PlanOk PlanLe Val mo0 OkS ff ownE ownN elT tkZ Cl clWs clW Z15w)
set_option maxRecDepth 40000 in
set_option maxHeartbeats 16000000 in
theorem Z1bt (x0 : Int) (Q) (hq : ∀ b ts TL x', OkS 4 6 ⟨b, ts⟩ -> b <= 2 -> TL = ts.map Z14z -> Q (RA.ret (.agg [I b, .sl 3 TL])) [pot x']) : CallA Tryz.prog 22 [.b 0 0] [pot x0] Q := by
 obtain ⟨A, hA⟩ : ∃ A, A = ar := ⟨_, rfl⟩;refine Z38 Z0 hA [10] Tryz.func22 rfl rfl rfl rfl rfl fun S hS => ?_;cbv;refine Z4 hS [.b 0 0, I 4, I 6] [0] [pot x0] rfl rfl rfl rfl rfl rfl rfl rfl (by decide) ⟨rfl, trivial⟩ (Bn.shopOfG x0 4 6 (by decide) (by decide) _ fun s xs0 es0 gn0 N x1 hok hxl hN hes0 hgn0 => ?_);obtain ⟨bn, hbn⟩ : ∃ bn, bn = s.benches := ⟨_, rfl⟩;rw [<- hbn];obtain ⟨b2, hb2⟩ : ∃ b2, b2 = A.min bn 2 := ⟨_, rfl⟩;have hb2e : b2 = min s.benches 2 := by rw [hb2, Zir hA, hbn]
 have hN3 : N <= 4 := by rw [hN]; exact hok.len
 refine Z3 Z0 hA hS ?_;cbv;refine Zb hS ?_;refine Za (α := Int × Nat × List Tk × List Value × List D × List Ent) (fun q => { env := [(0, .b 0 0), (2, .b 4 0), (3, .b 1 0), (4, I q.1)], H := [pot x1, .box (.agg [I b2, .o 2 3 N]), .els 3 q.2.2.2.2.1, .ob (.gr 3 q.2.2.2.2.2), .box (.agg [I 0, .v (.slice none 0 0)])], nt := 54, dfs := [] })
  (fun q => N - q.2.1) (fun q => q.2.1 <= N /\ IsI q.1 q.2.1 /\ Cl b2 s.tasks q.2.2.1 q.2.1 0 /\ q.2.2.2.1.length = N /\ q.2.2.2.2.1 = ownE q.2.2.1 q.2.2.2.1 ff /\ q.2.2.2.2.2 = ownN q.2.2.1 q.2.2.2.1 ff) (0, 0, s.tasks, xs0, es0, gn0) ⟨Nat.zero_le _, ⟨rfl⟩, Cl.zero b2 s.tasks, hxl.trans hN.symm, hes0, hgn0⟩ ?_ ?_
 ·refine Zog 4 rfl (congrArg (fun z => Blk.box (.agg [I z, .o 2 3 N])) hb2.symm) ?_;exact Zf [0, 4, 2, 3, 1] ⟨by decide, Z2n, ⟨rfl, rfl, rfl, rfl, rfl, trivial⟩, ⟨rfl, rfl, rfl, rfl, trivial⟩, rfl, rfl⟩
 rintro ⟨i, k, TS, xs, es, gn⟩ ⟨u1, u2, u3, u4, u5, u6⟩;dsimp only at u1 u2 u3 u4 u5 u6;have hyes : A.cmp .lss i (A.oi N) = true -> k < N := fun c => by have := xlt hA c; rw [xoi hA] at this; have := u2.eq; omega
 have hno : A.cmp .lss i (A.oi N) = false -> k = N := fun c => by have := Z7x hA c; rw [xoi hA] at this; have := u2.eq; omega
 refine Z2w Z0 hA hS [] ?_;cbv;refine bm (fun c => ?_) (fun c => ?_)
 ·have hk := hyes c;obtain ⟨t, ht⟩ : ∃ t, s.tasks[k]? = some t := ⟨_, List.getElem?_eq_getElem (by omega)⟩;have hoT := hok.tk t (List.mem_of_getElem? ht);have hw3 := hoT.w1;have hw1 := hoT.w0;have hf1 := Zy hA u2 (by omega);have hu2 := Zz hA u2;have hms : N - (k + 1) < N - k := by omega
  cbv;refine Zb hS ?_;refine Za (α := Int × Nat × List Tk × List Value × List D × List Ent) (fun q => { env := [(0, .b 0 0), (2, .b 4 0), (3, .b 1 0), (4, I i), (5, I q.1)], H := [pot x1, .box (.agg [I b2, .o 2 3 N]), .els 3 q.2.2.2.2.1, .ob (.gr 3 q.2.2.2.2.2), .box (.agg [I 0, .v (.slice none 0 0)])], nt := 54, dfs := [] })
   (fun q => t.works.length - q.2.1) (fun q => q.2.1 <= t.works.length /\ IsI q.1 q.2.1 /\ Cl b2 s.tasks q.2.2.1 k q.2.1 /\ q.2.2.2.1.length = N /\ q.2.2.2.2.1 = ownE q.2.2.1 q.2.2.2.1 ff /\ q.2.2.2.2.2 = ownN q.2.2.1 q.2.2.2.1 ff) (0, 0, TS, xs, es, gn) ⟨Nat.zero_le _, ⟨rfl⟩, u3, u4, u5, u6⟩ ?_ ?_
  ·exact Zf [0, 1, 2, 3, 4] ⟨by decide, Z2n, ⟨rfl, rfl, rfl, rfl, rfl, trivial⟩, ⟨rfl, rfl, rfl, rfl, rfl, trivial⟩, rfl, rfl⟩
  rintro ⟨m, n, TS1, xs1, es0', gn0'⟩ ⟨v1, v2, v3, v4, v5, v6⟩;dsimp only at v1 v2 v3 v4 v5 v6;obtain ⟨row, hrow⟩ : ∃ row, row = (clWs b2 t.works n).map Z14x := ⟨_, rfl⟩;obtain ⟨M, hM⟩ : ∃ M, M = t.works.length := ⟨_, rfl⟩;have hrl : M = row.length := by rw [hrow, List.length_map, Bn.clWs_len, hM]
  have hTk := v3.get ht;have hrT : row = (TS1.getD k tkZ).works.map Z14x := by rw [hTk]; exact hrow
  have hM0 : 0 < M := by omega
  have iE : A.inb i N := Z4o hA u2 hk;have hym : A.cmp .lss m (A.oi M) = true -> n < M := fun c => by have := xlt hA c; rw [xoi hA] at this; have := v2.eq; omega
  have hnm : A.cmp .lss m (A.oi M) = false -> M <= n := fun c => by have := Z7x hA c; rw [xoi hA] at this; have := v2.eq; omega
  refine Ziq (Bn.own_take 2 3 k 5 (n := M) v5 v6 rfl rfl rfl (by decide) (by rw [v4]; exact hk) rfl hrT hrl fun es1 gn1 h1 h2 => ?_);have he1 : elT TS1 k (.o 5 3 M) = .agg [I t.ready, I t.due, .o 5 3 M] := by unfold elT; rw [hTk]
  have gE := Z18 hA u2 (show es1[k]? = some (.agg [I t.ready, I t.due, .o 5 3 M]) by rw [h1, List.getElem?_set_self (by rw [Bn.ownE_len, v4]; exact hk), he1]);refine Z7 ?_
  by_cases hnM : n < M
  ·obtain ⟨w, hw⟩ : ∃ w, t.works[n]? = some w := ⟨_, List.getElem?_eq_getElem (by omega)⟩;have how := hoT.wk w (List.mem_of_getElem? hw);have hst := v3.step ht hw;obtain ⟨wb, wlo, whi⟩ := w;have hwb0 : 0 <= wb := how.b0;have hwb1 : wb < s.benches := how.b1;have gW := Z18 hA v2 (show row[n]? = some (.agg [I wb, I wlo, I whi]) by rw [hrow, List.getElem?_map, Bn.clWs_get b2 hw]; rfl);have iW : A.inb m M := Z4o hA v2 hnM;have fs : A.fits .i64 (A.sub b2 1) := Z14 hA (Z24 hA b2 1) (by have := hok.b0; have := hok.b1; omega);obtain ⟨row2, hrow2⟩ : ∃ row2, row2 = A.set row (A.tn m) (.agg [I (A.min wb (A.sub b2 1)), I wlo, I whi]) := ⟨_, rfl⟩;obtain ⟨TS2, hTS2⟩ : ∃ TS2, TS2 = TS1.set k ⟨t.ready, t.due, (clWs b2 t.works n).set n (clW b2 ⟨wb, wlo, whi⟩)⟩ := ⟨_, rfl⟩;rw [<- hTS2] at hst;have hTS2k : TS2.getD k tkZ = ⟨t.ready, t.due, (clWs b2 t.works n).set n (clW b2 ⟨wb, wlo, whi⟩)⟩ := by
    rw [hTS2]; exact Bn.tkD_get (List.getElem?_set_self (by rw [v3.len]; omega))
   have hTS2o : ∀ j, j ≠ k -> TS2.getD j tkZ = TS1.getD j tkZ := fun j hj => by
    rw [hTS2, List.getD_eq_getElem?_getD, List.getElem?_set_ne (fun g => hj g.symm), List.getD_eq_getElem?_getD]
   have hr2 : row2 = (TS2.getD k tkZ).works.map Z14x := by
    rw [hTS2k, hrow2, Z7n hA v2 rfl, hrow, List.map_set];show _ = List.set _ n (Z14x (clW b2 ⟨wb, wlo, whi⟩));rw [Zir hA, Z24 hA]; rfl
   have hr2l : M = row2.length := by rw [hrow2, Z7n hA v2 rfl, List.length_set]; exact hrl
   have h1' : es1 = (ownE TS1 xs1 ff).set k (elT TS2 k (.o 5 3 M)) := by
    rw [h1]; unfold elT; rw [hTk, hTS2k]
   have hn1 : n + 1 <= t.works.length := by omega
   have hfm := Zy hA v2 (by omega);have hv2 := Zz hA v2;have hms2 : t.works.length - (n + 1) < t.works.length - n := by omega
   refine Z2w Z0 hA hS [] ?_;cbv;refine ⟨iE, ⟨_, gE, ?_⟩⟩;cbv;refine bm (fun _ => ?_) (fun c => absurd (hnm c) (by omega));cbv;refine Z16 Z0 hA hS [0, 1, 2, 3, 4, 5, 6, 7, 8, 9, 10, 11, 12, 13, 14, 15, 16, 17, 18, 19, 20, 21, 22, 23] rfl rfl fun Dk hD => ?_;cbv;refine ⟨iE, ⟨_, gE, ?_⟩⟩;cbv;refine ⟨iE, ⟨_, gE, ?_⟩⟩;cbv;refine ⟨iW, ⟨_, gW, ?_⟩⟩;cbv;refine ⟨fs, iW, ⟨⟨_, gW, ?_⟩⟩⟩;cbv;refine ⟨hfm, ?_⟩;refine Z39 5 rfl hrow2.symm ?_;refine Bn.own_put (n := M) (fz' := ff) (ts' := TS2) 2 3 k 5 h1' h2 rfl rfl rfl (.inr ⟨3, 1, 0, .agg [I b2, .o 2 3 N], 1, 3, N, rfl, rfl, rfl⟩) (by rw [v4]; exact hk) hTS2o (fun _ _ => rfl) rfl hr2 hr2l hM0 fun xs2 es2 gn2 g1 g2 g3 => ?_;refine Z8 (A.add m 1, n + 1, TS2, xs2, es2, gn2) [0, 1, 2, 3, 4] ⟨hn1, hv2, hst, g1.trans v4, g2, g3⟩ hms2 ?_;exact ⟨by decide, Z2n, ⟨rfl, rfl, rfl, rfl, rfl, trivial⟩, ⟨rfl, rfl, rfl, rfl, rfl, trivial⟩, rfl, rfl⟩
  ·have hrw := v3.row ht (by omega);refine Z2w Z0 hA hS [] ?_;cbv;refine ⟨iE, ⟨_, gE, ?_⟩⟩;cbv;refine bm (fun c => absurd (hym c) hnM) (fun _ => ?_);cbv;refine Bn.own_put (n := M) (fz' := ff) (ts' := TS1) 2 3 k 5 h1 h2 rfl rfl rfl (.inr ⟨3, 1, 0, .agg [I b2, .o 2 3 N], 1, 3, N, rfl, rfl, rfl⟩) (by rw [v4]; exact hk) (fun _ _ => rfl) (fun _ _ => rfl) rfl hrT hrl hM0 fun xs2 es2 gn2 g1 g2 g3 => ?_;refine Z7 ?_;cbv;refine ⟨hf1, ?_⟩;refine Z8 (A.add i 1, k + 1, TS1, xs2, es2, gn2) [0, 1, 2, 3, 4] ⟨hk, hu2, hrw, g1.trans v4, g2, g3⟩ hms ?_;exact ⟨by decide, Z2n, ⟨rfl, rfl, rfl, rfl, rfl, trivial⟩, ⟨rfl, rfl, rfl, rfl, trivial⟩, rfl, rfl⟩
 have hkN := hno c;have hall := u3.all (by omega);have hok2 := Bn.okS_cl hok;rw [<- hb2e] at hok2;rw [<- hall] at hok2;have hTSl : TS.length = N := by rw [hall, List.length_map, hN]
 obtain ⟨TL, hTL⟩ : ∃ TL, TL = TS.map Z14z := ⟨_, rfl⟩;have hTLl : TL.length = N := by rw [hTL, List.length_map, hTSl]
 have eT : A.eqN N (A.len TL) := Ze hA hTLl;cbv;refine Z60 (a := { env := [(0, .b 0 0), (2, .b 4 0), (3, .b 1 0)], H := [pot x1, .box (.agg [I b2, .o 2 3 N]), .els 3 es, .ob (.gr 3 gn), .box (.agg [I 0, .v (.slice none 0 0)])], nt := 54, dfs := [] }) [0, 1, 2, 3, 4] ⟨by decide, Z2n, ⟨rfl, rfl, rfl, rfl, rfl, trivial⟩, ⟨rfl, rfl, rfl, trivial⟩, rfl, rfl⟩ ?_;refine Bn.own_melt 2 3 [0, 1, 2, 3, 4] (fun es' gn' => { env := [(0, .b 0 0), (2, .b 4 0), (3, .b 1 0)], H := [pot x1, .box (.agg [I b2, .o 2 3 N]), .els 3 es', .ob (.gr 3 gn'), .box (.agg [I 0, .v (.slice none 0 0)])], nt := 54, dfs := [] }) (by decide) u5 u6 (by rw [u4, hTSl]) (fun _ _ => rfl) (fun _ _ => rfl) (fun _ _ _ _ => rfl) (fun _ _ _ _ => rfl) (fun _ _ => ⟨by decide, Z2n, ⟨rfl, rfl, rfl, rfl, rfl, trivial⟩, ⟨rfl, rfl, rfl, trivial⟩, rfl, rfl⟩) fun gn' => ?_;rw [<- hTL];refine Z1a hA [2] ?_;cbv;refine ⟨eT, ?_⟩;refine Z7 ?_;refine Zb hS (Zi Z0 hA hS ?_);cbv;exact Z2 [0] (by decide) Z2n (H' := [pot x1]) (d' := .agg [I b2, .sl 3 TL]) ⟨rfl, trivial⟩ rfl (Z1 (hq b2 TS TL x1 hok2 (by rw [hb2e]; omega) hTL))
end Go.Proofs.YtegjabljeepbdaaGreatDoor

namespace Go.Proofs.YtegjabljeepbdaaGreatDoor
open Go Go.Abs Go.Proofs Go.Batch
open Bn (Sl Sh Tk Wk Z14v Z14z runS Z151 ShopOk PlanOk PlanLe Val mo0 Z15w Z1bg)
def shA : Sh := ⟨1, [⟨3, 0, [⟨0, 1, 1⟩]⟩, ⟨0, 0, [⟨0, 1, 1⟩]⟩]⟩
def jnD : Jn := ⟨2, [true], [mIn 0 1 1, mIn 0 1 1]⟩
theorem Z1bu : ShopOk shA := ⟨by decide, by decide, ⟨by decide, by decide⟩⟩
theorem Z1bv : PlanOk shA [1, 0] := ⟨by decide, by decide, by decide⟩
theorem Z1bw : (Z1bg shA).2 = ([1, 0], 4) := by decide +kernel
theorem Z1bj : ∀ x ∈ runS shA mo0 [1, 0], (0 <= x.b /\ x.b < jnD.first.length /\ 0 <= x.t /\ x.t < jnD.ins) /\ 0 <= x.bh /\ x.bh <= 1000 := by decide +kernel
theorem Z1bx : (Z151 (runS shA mo0 [1, 0])).map outM = [⟨2, 0, 1, 1, 1⟩, ⟨2, 0, 0, 1, 1⟩] := by decide +kernel
def jnD2 : Jn := ⟨2, [true], [mIn 0 1 1, mIn 0 1 1, ⟨2, 0, 1, 1, 1⟩, ⟨2, 0, 0, 1, 1⟩]⟩
theorem Z1cb : JOk jnD := Z2r (by decide +kernel)
theorem Z1c2 : JOk jnD2 := Z2r (by decide +kernel)
theorem Z1c3 : Zc jnD2 = true := by decide +kernel
theorem Z1be : holdsJ jnD2 = [[2, 1], [1, 2]] := by decide +kernel
set_option maxRecDepth 40000 in
set_option maxHeartbeats 8000000 in
theorem Z1b9 (Q) (hq : Q (RA.ret (.v (.bool true))) []) : CallA Tryz.prog 21 [] [] Q := by
 obtain ⟨TL, hTL⟩ : ∃ TL, TL = shA.tasks.map Z14z := ⟨_, rfl⟩;have hTL' : TL = [.agg [I 3, I 0, .sl 3 [.agg [I 0, I 1, I 1]]], .agg [I 0, I 0, .sl 3 [.agg [I 0, I 1, I 1]]]] := hTL;have cB := fun Q h => Bn.bBest shA Z1bu TL hTL Q h;have md : MdJ jnD2 2 2 1 4 [Zv true] (jnD2.moves.map mvD) := ⟨Z1c2, Z1c3, rfl, ⟨rfl⟩, rfl, rfl, rfl, rfl⟩;have e2 : jnD2.moves.map mvD = (jnD.moves ++ [(⟨2, 0, 1, 1, 1⟩ : Mv), ⟨2, 0, 0, 1, 1⟩]).map mvD := rfl;rw [e2] at md;obtain ⟨ML, hML⟩ : ∃ ML, ML = jnD.moves.map mvD := ⟨_, rfl⟩;have cW := fun PL (hPL : PL = Z15w [1, 0]) Q h => Z19g jnD Z1cb 2 rfl [Zv true] ML rfl hML shA Z1bu 1 rfl [1, 0] Z1bv TL PL hTL hPL (fun x hx => (Z1bj x hx).1) (fun x hx => (Z1bj x hx).2) (by decide) Q h;rw [Z1bx] at cW;obtain ⟨MZ, hMZ⟩ : ∃ MZ, MZ = (jnD.moves ++ [(⟨2, 0, 1, 1, 1⟩ : Mv), ⟨2, 0, 0, 1, 1⟩]).map mvD := ⟨_, rfl⟩;rw [<- hMZ] at cW md;have cH := fun Q h => md.holds Q h;rw [Z1be] at cH;refine Z38 (A := ar) Z0 rfl [2, 3, 4, 7] Tryz.func21 rfl rfl rfl rfl rfl fun S hS => ?_;cbv;refine Z4j (A := ar) Z0 rfl hS [0, 1, 2, 3, 4, 5, 6, 7] [8, 9, 10, 11] rfl ?_;cbv;refine Z26 hS (Z1a rfl [1, 2] ?_);cbv;refine Z7 (Zii hS (Z3 (A := ar) Z0 rfl hS ?_));cbv;refine Z4j (A := ar) Z0 rfl hS [0, 1, 2, 3, 4, 5, 6, 7] [8] rfl ?_;cbv;refine Z26 hS (Z1a rfl [3, 5, 6] ?_);cbv;refine Z7 (Zii hS (Z3 (A := ar) Z0 rfl hS ?_));cbv;refine Z3h hS (Z1a rfl [4, 7] ?_);cbv;refine Z60 (a := { env := [(2, .cb (.agg [I 1, .sl 3 TL]) 0), (3, .cb (.agg [I 2, .sl 1 [Zv true], .sl 5 ML]) 0)], H := [], nt := 73, dfs := [] }) [] ⟨by decide, Z9, trivial, ⟨by rw [hTL']; rfl, by rw [hML]; rfl, trivial⟩, rfl, rfl⟩ ?_;refine Z7 (Zb hS (Z2w (A := ar) Z0 rfl hS [7] ?_));cbv;refine Z4 hS [.agg [I 1, .sl 3 TL]] [] [] rfl rfl rfl rfl rfl rfl rfl rfl (by decide) trivial (cB _ fun PL n hPL hn => ?_);rw [Z1bw] at hPL hn;refine Z3 (A := ar) Z0 rfl hS ?_;cbv;refine Z4 hS [.agg [I 2, .sl 1 [Zv true], .sl 5 ML], .agg [I 1, .sl 3 TL], .sl 1 PL] [] [] rfl rfl rfl rfl rfl rfl rfl rfl (by decide) trivial (cW PL hPL _ fun MX hMX => ?_);rw [hMX];refine Z3 (A := ar) Z0 rfl hS ?_;cbv;refine Z4 hS [.agg [I 2, .sl 1 [Zv true], .sl 5 MZ]] [] [] rfl rfl rfl rfl rfl rfl rfl rfl (by decide) trivial (cH _ fun HL hHL => ?_);have hn : n = 4 := hn;subst hn;refine Z3 (A := ar) Z0 rfl hS ?_;cbv;refine Z4j (A := ar) Z0 rfl hS [0, 1, 2, 3, 4, 5, 6, 7, 8, 9, 10, 11, 12, 13, 14, 15, 16] [17, 18, 19, 20, 21, 22, 23, 24, 25, 26] rfl ?_;cbv;refine Z26 hS (Z1a rfl [1] ?_);cbv;refine Z7 (Zii hS (Z3 (A := ar) Z0 rfl hS ?_));cbv;refine Zg hS (b := true) rfl rfl rfl rfl rfl rfl rfl rfl (fun _ => ⟨_, _, [.sl 1 PL, .sl 1 [I 1, I 0]], [], [], rfl, rfl, rfl, by decide, trivial, Zaq [1, 0] [1, 0] PL _ hPL rfl (by decide) true rfl _ ?_⟩) (fun h => absurd rfl h);refine Zke (A := ar) Z0 rfl hS [18, 19, 20, 21, 22] [23, 24, 25, 26] ?_;cbv;refine Z26 hS (Z1a rfl [2, 3] ?_);cbv;refine Z7 (Zii hS (Z3 (A := ar) Z0 rfl hS ?_));cbv;refine Z26 hS (Z1a rfl [4] ?_);cbv;refine Z7 ?_;refine Zg hS (b := true) rfl rfl rfl rfl rfl rfl rfl rfl (fun _ => ⟨_, _, [.sl 1 HL, .sl 1 [.sl 1 [I 2, I 1], .sl 1 [I 1, I 2]]], [], [], rfl, rfl, rfl, by decide, trivial, Znb [[2, 1], [1, 2]] [[2, 1], [1, 2]] HL _ hHL rfl (lim (n := 2) (by omega)) (fun l hl => by simp at hl; rcases hl with rfl | rfl <;> exact lim (n := 2) (by omega)) true rfl _ ?_⟩) (fun h => absurd rfl h);refine Z3 (A := ar) Z0 rfl hS ?_;cbv;exact Z2 [] (by decide) Z9 (H' := []) (d' := .v (.bool true)) trivial rfl (Z1 hq)
end Go.Proofs.YtegjabljeepbdaaGreatDoor

namespace Go.Proofs.YtegjabljeepbdaaGreatDoor
open Go Go.Abs Go.Proofs Go.Batch
structure SumI (r1 : Int) (f : Nat -> Int) (t : Nat) (x : Int) : Prop where
 eq : x = r1 + sumR f t
theorem MdJ.amount {j : Jn} {ins : Int} {N n m : Nat} {FL ML : List D} (h : MdJ j ins N n m FL ML) {NB : Nat} (hNB : NB = (Z6 j.moves).length) {t b : Nat} {ti bi : Int} (ht : IsI ti t) (hb : IsI bi b) (htN : t < N) (hbN : b < NB) (Q)
  (hq : ∀ lo hi, lo = (Z4d j (Z2v (t : Int) b)).1 -> hi = (Z4d j (Z2v (t : Int) b)).2 -> 0 <= lo /\ lo <= hi /\ hi <= 640 -> Q (RA.ret (.tup [.agg [I lo, I hi], I 0])) []) : CallA Tryz.prog 24 [.agg [I ins, .sl 1 FL, .sl 5 ML], I ti, I bi] [] Q := by
 have e := h.ie;have hI := h.nI.eq;have e1 := ht.eq;have e2 := hb.eq;have hy1 : 0 <= ti /\ ti <= j.ins - 1 := by omega
 have hy2 : 0 <= bi /\ bi <= ((Z6 j.moves).length : Int) - 1 := by omega
 subst e1;subst e;have hbn : bi.toNat = b := by omega
 have hnb := Z12a h.ok h.st (Zok (t : Int) b);refine Z106 j h.fl h.ml _ bi FL ML h.F h.M Q (fun e h1 h2 => Z77 h.c0 h1 h2) (fun _ g => absurd ⟨hy1, hy2⟩ g) (fun _ _ _ g => Z7p h.st g) (fun _ _ _ _ lo hi h1 h2 => ?_);rw [hbn] at h1 h2;refine hq lo hi h1 h2 ?_;rw [h1, h2]; exact hnb
end Go.Proofs.YtegjabljeepbdaaGreatDoor
