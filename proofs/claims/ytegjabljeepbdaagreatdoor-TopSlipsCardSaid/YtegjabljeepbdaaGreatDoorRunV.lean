/- Part RunV of the proofs about the benches of the accordion maker: see the last text of the claim for what is proved. -/
import Derived.Test.YtegjabljeepbdaaGreatDoorRunT
set_option linter.unusedVariables false
set_option linter.unusedSimpArgs false
set_option linter.unnecessarySimpa false
set_option linter.constructorNameAsVariable false

namespace Go.Batch
theorem Zej {of of' : List Int} : ∀ (bs : List Int) (i : Nat), (∀ k, i <= k -> of.getD k 0 = of'.getD k 0) -> Z32 of bs i = Z32 of' bs i
 | [], _, _ => rfl
 | b :: bs, i, h => by simp only [Z32]; rw [h i (Nat.le_refl _), Zej bs (i + 1) fun k hk => h k (by omega)]
theorem Zh9 {inst : Int} {of of' : List Int} : ∀ (bs : List Int) (i : Nat), (∀ k, i <= k -> of.getD k 0 = of'.getD k 0) -> Z1o inst of bs i = Z1o inst of' bs i
 | [], _, _ => rfl
 | b :: bs, i, h => by simp only [Z1o]; rw [h i (Nat.le_refl _), Zh9 bs (i + 1) fun k hk => h k (by omega)]
theorem Z90 (k : Nat) : ([0, 0, 0, 0] : List Int).getD k 0 = 0 := by
 match k with
 | 0 => rfl
 | 1 => rfl
 | 2 => rfl
 | 3 => rfl
 | k + 4 => rfl
structure WayO (fifo : Bool) (bin : Int) (bs : List Int) (i : Nat) (l : List Int) (a : Int) (of : List Int) : Prop where
 tk : Took fifo bin bs i l of
 sum : Z32 of bs i = a
 len : of.length = 4
 out : ∀ k, k < i ∨ i + bs.length <= k -> of.getD k 0 = 0
theorem Zfv {fifo : Bool} {bin : Int} {bs : List Int} {i : Nat} {l : List Int} (hl : ∀ k, 0 <= l.getD k 0) : WayO fifo bin bs i l 0 [0, 0, 0, 0] := by
 refine ⟨⟨fun k => by rw [Z90]; exact Int.le_refl _, fun k => by rw [Z90]; exact hl k, fun k b _ _ => Z90 _, fun _ k k' b _ _ _ h0 _ => by rw [Z90] at h0; omega⟩, ?_, rfl, fun k _ => Z90 k⟩;have : ∀ (bs : List Int) (i : Nat), Z32 [0, 0, 0, 0] bs i = 0 := fun bs => by
  induction bs with
  | nil => intro i; rfl
  | cons b bs ih => intro i; simp only [Z32, ih, Z90]; rfl
 exact this bs i
theorem Zdf {fifo : Bool} {bin inst : Int} : ∀ (bs : List Int) (i : Nat) (s : Ste (List (Int × Nat × Int))) (a : Int), 0 <= a -> LOk s.1 -> i + bs.length <= 4 -> ∀ x ∈ Zl fifo Z1f bin inst bs i s a,
  ∃ of, WayO fifo bin bs i s.1 a of /\ (∀ k, x.1.getD k 0 = s.1.getD k 0 - of.getD k 0) /\ x.2 = s.2 ++ Z1o inst of bs i /\ x.1.length = 4
 | bs, i, s, a, ha, hl, hi, x, hx => by
  have z0 : a = 0 -> x = s -> ∃ of, WayO fifo bin bs i s.1 a of /\ (∀ k, x.1.getD k 0 = s.1.getD k 0 - of.getD k 0) /\ x.2 = s.2 ++ Z1o inst of bs i /\ x.1.length = 4 := fun h0 hxs => by
   subst h0 hxs;exact ⟨[0, 0, 0, 0], Zfv hl.lo, fun k => by rw [Z90]; omega, by rw [Z9u bs i fun k _ _ => Z90 k, List.append_nil], hl.len⟩
  match bs, hx, z0, hi with
  | [], hx, z0, _ =>
   unfold Zl at hx
   split at hx
   ·rename_i h0; simp at hx; exact z0 h0 hx
   ·simp at hx
  | b :: bs, hx, z0, hi =>
   unfold Zl at hx;rw [List.length_cons] at hi
   split at hx
   ·rename_i h0; simp at hx; exact z0 h0 hx
   split at hx
   ·rename_i h0 hc
    obtain ⟨n, hn, hx⟩ := List.mem_flatMap.1 hx;rw [Z7z] at hn;have hs0 := hl.lo i;have hs5 := hl.hi i;have hn0 : 0 <= n := by revert hn; split <;> omega
    have hil : i < s.1.length := by rw [hl.len]; omega
    have hl1 : (Z3n Z1f inst s i n).1 = s.1.set i (s.1.getD i 0 - n) := by
     unfold Z3n
     split
     ·rename_i hz
      rw [hz, Int.sub_zero];refine (List.ext_getElem (by simp) fun k g1 g2 => ?_).symm;rw [List.getElem_set]
      split
      ·rename_i e; subst e; simp [List.getD_eq_getElem?_getD, List.getElem?_eq_getElem g2]
      ·rfl
     ·rfl
    have hlt : LOk (Z3n Z1f inst s i n).1 := by rw [hl1]; exact hl.set (by omega) (by omega) (by omega)
    obtain ⟨of, hw, h1, h2, h3⟩ := Zdf bs (i + 1) _ (a - n) (by omega) hlt (by omega) x hx;have e1 : ∀ k, (Z3n Z1f inst s i n).1.getD k 0 = if i = k then s.1.getD i 0 - n else s.1.getD k 0 := fun k => by rw [hl1, Z1r _ _ _ _ hil]
    have hofi : of.getD i 0 = 0 := hw.out i (.inl (by omega));have e2 : ∀ k, (of.set i n).getD k 0 = if i = k then n else of.getD k 0 := fun k => Z1r _ _ _ _ (by rw [hw.len]; omega)
    have e3 : ∀ k, i + 1 <= k -> (of.set i n).getD k 0 = of.getD k 0 := fun k hk => by rw [e2, if_neg (by omega)]
    refine ⟨of.set i n, ⟨⟨fun k => ?_, fun k => ?_, fun k b' hk hb => ?_, fun hf k k' b' hkk hk hb h0' hlt' => ?_⟩, ?_, by simp [hw.len], fun k hk => ?_⟩, fun k => ?_, ?_, h3⟩
    ·rw [e2]; split
     ·exact hn0
     ·exact hw.tk.nn k
    ·rw [e2];have g := hw.tk.le k;rw [e1] at g
     by_cases e : i = k
     ·subst e; rw [if_pos rfl]; omega
     ·rw [if_neg e] at g ⊢; exact g
    ·cases k with
     | zero => simp at hk; exact absurd (hk.symm.trans hc.1) hb
     | succ k =>
      have := hw.tk.oth k b' (by simpa using hk) hb;rw [show i + (k + 1) = i + 1 + k by omega, e3 _ (by omega)]; exact this
    ·cases k' with
     | zero => omega
     | succ k' =>
      rw [show i + (k' + 1) = i + 1 + k' by omega, e3 _ (by omega)] at h0';rw [List.length_cons] at hlt'
      cases k with
      | zero =>
       rw [Nat.add_zero, e2, if_pos rfl];rw [hf] at hn;simp only [if_true] at hn;have hmin : n = min a (s.1.getD i 0) := by omega
       by_cases hna : n = a
       ·have hz := Zah hw.tk.nn bs (i + 1) (by have := hw.sum; omega) (i + 1 + k') (by omega) (by omega);omega
       ·omega
      | succ k =>
       have := hw.tk.fst hf k k' b' (by omega) (by simpa using hk) hb h0' (by omega);rw [e1, if_neg (by omega)] at this;rw [show i + (k + 1) = i + 1 + k by omega, e3 _ (by omega)]; exact this
    ·simp only [Z32];rw [e2, if_pos rfl, Zej bs (i + 1) e3];have := hw.sum; omega
    ·rw [List.length_cons] at hk;rw [e2, if_neg (by omega)];exact hw.out k (by omega)
    ·rw [h1, e1, e2]
     by_cases e : i = k
     ·subst e; rw [if_pos rfl, if_pos rfl, hofi]; omega
     ·rw [if_neg e, if_neg e]
    ·rw [h2];simp only [Z1o];rw [e2, if_pos rfl, Zh9 bs (i + 1) e3];unfold Z3n
     by_cases hz : n = 0
     ·rw [if_pos hz, if_pos hz]
     ·rw [if_neg hz, if_neg hz];simp [Z1f]
   ·rename_i h0 hc
    obtain ⟨of, hw, h1, h2, h3⟩ := Zdf bs (i + 1) s a ha hl (by omega) x hx;have hofi : of.getD i 0 = 0 := hw.out i (.inl (by omega));refine ⟨of, ⟨⟨hw.tk.nn, hw.tk.le, fun k b' hk hb => ?_, fun hf k k' b' hkk hk hb h0' hlt' => ?_⟩, ?_, hw.len, fun k hk => ?_⟩, h1, ?_, h3⟩
    ·cases k with
     | zero => exact hofi
     | succ k =>
      have := hw.tk.oth k b' (by simpa using hk) hb;rw [show i + (k + 1) = i + 1 + k by omega]; exact this
    ·cases k' with
     | zero => omega
     | succ k' =>
      rw [List.length_cons] at hlt'
      cases k with
      | zero =>
       simp at hk;have : s.1.getD i 0 = 0 := Classical.byContradiction fun g => hc ⟨hk.trans hb, g⟩;rw [Nat.add_zero, hofi, this]
      | succ k =>
       have := hw.tk.fst hf k k' b' (by omega) (by simpa using hk) hb (by rw [show i + 1 + k' = i + (k' + 1) by omega]; exact h0') (by omega);rw [show i + (k + 1) = i + 1 + k by omega]; exact this
    ·simp only [Z32]; rw [hofi, hw.sum]; omega
    ·rw [List.length_cons] at hk;exact hw.out k (by omega)
    ·rw [h2];simp only [Z1o];rw [if_pos hofi]
termination_by bs => bs.length
theorem Z86 {l l' : List Int} (h : l.length = 4) (h' : l'.length = 4) (e : ∀ k, l.getD k 0 = l'.getD k 0) : l = l' := by
 refine List.ext_getElem (by omega) fun k g1 g2 => ?_;have := e k;simpa [List.getD_eq_getElem?_getD, List.getElem?_eq_getElem g1, List.getElem?_eq_getElem g2] using this
def Z2c (l of : List Int) : List Int := [l.getD 0 0 - of.getD 0 0, l.getD 1 0 - of.getD 1 0, l.getD 2 0 - of.getD 2 0, l.getD 3 0 - of.getD 3 0]
theorem Zha {l of : List Int} (h : l.length = 4) (h' : of.length = 4) (k : Nat) : (Z2c l of).getD k 0 = l.getD k 0 - of.getD k 0 := by
 match k with
 | 0 => rfl
 | 1 => rfl
 | 2 => rfl
 | 3 => rfl
 | k + 4 =>
  have e1 : l.getD (k + 4) 0 = 0 := by rw [List.getD_eq_getElem?_getD, List.getElem?_eq_none (by omega)]; rfl
  have e2 : of.getD (k + 4) 0 = 0 := by rw [List.getD_eq_getElem?_getD, List.getElem?_eq_none (by omega)]; rfl
  rw [e1, e2]; rfl
theorem Zks {ν : Type} {tk : Tk ν} {fifo : Bool} {bin inst : Int} {bins : List Int} (hb : bins.length <= 4) {l : List Int} (hl : LOk l) {z : ν} {a : Int} (ha : 0 <= a) (x : Ste ν) :
  x ∈ Zl fifo tk bin inst bins 0 (l, z) a ↔ ∃ of, WayO fifo bin bins 0 l a of /\ x = (Z2c l of, Zt tk z (Z1o inst of bins 0)) := by
 have e : Zl fifo tk bin inst bins 0 (l, z) a = (Zl fifo Z1f bin inst bins 0 (l, []) a).map fun s => (s.1, Zt tk z s.2) := by
  have := Zag (tk := Z1f) tk (Zt tk z) (fun x i b n => by simp [Zt, Z1f]) (fifo := fifo) (bin := bin) (inst := inst) bins 0 (l, []) a;rw [this]; rfl
 rw [e, List.mem_map];constructor
 ·rintro ⟨s, hs, rfl⟩;obtain ⟨of, hw, h1, h2, h3⟩ := Zdf bins 0 (l, []) a ha hl (by omega) s hs;refine ⟨of, hw, ?_⟩;have e1 : s.1 = Z2c l of := Z86 h3 rfl fun k => by rw [Zha hl.len hw.len]; exact h1 k
  rw [e1, h2]; rfl
 ·rintro ⟨of, hw, rfl⟩;refine ⟨(Z2c l of, [] ++ Z1o inst of bins 0), Z8p bins 0 l of (Z2c l of) [] a hw.tk (by rw [hl.len]; omega) hw.sum (by rw [hl.len]; rfl) (fun k => ?_), rfl⟩;rw [Zha hl.len hw.len]
  split
  ·rfl
  ·rename_i hk
   rw [hw.out k (by omega)]; omega
end Go.Batch

namespace Go.Batch
theorem Zfw {fifo : Bool} {bin b : Int} {bs : List Int} {i : Nat} {l of' of : List Int} {a n : Int} (h : WayO fifo bin bs (i + 1) l (a - n) of') (hb : b = bin ∨ n = 0) (h0 : 0 <= n) (h1 : n <= l.getD i 0) (hf : fifo = true -> b = bin -> n = a ∨ n = l.getD i 0)
  (hl : of.length = 4) (e : ∀ k, of.getD k 0 = if i = k then n else of'.getD k 0) : WayO fifo bin (b :: bs) i l a of := by
 have e3 : ∀ k, i + 1 <= k -> of.getD k 0 = of'.getD k 0 := fun k hk => by rw [e, if_neg (by omega)]
 have ei : of.getD i 0 = n := by rw [e, if_pos rfl]
 refine ⟨⟨fun k => ?_, fun k => ?_, fun k b' hk hb' => ?_, fun hff k k' b' hkk hk hb' h0' hlt' => ?_⟩, ?_, hl, fun k hk => ?_⟩
 ·rw [e]; split
  ·exact h0
  ·exact h.tk.nn k
 ·rw [e]
  by_cases g : i = k
  ·subst g; rw [if_pos rfl]; exact h1
  ·rw [if_neg g]; exact h.tk.le k
 ·cases k with
  | zero =>
   simp at hk;rw [Nat.add_zero, ei];rcases hb with g | g
   ·exact absurd (hk.symm.trans g) hb'
   ·exact g
  | succ k =>
   have := h.tk.oth k b' (by simpa using hk) hb';rw [show i + (k + 1) = i + 1 + k by omega, e3 _ (by omega)]; exact this
 ·cases k' with
  | zero => omega
  | succ k' =>
   rw [show i + (k' + 1) = i + 1 + k' by omega, e3 _ (by omega)] at h0';rw [List.length_cons] at hlt'
   cases k with
   | zero =>
    simp at hk;rw [Nat.add_zero, ei];rcases hf hff (hk.trans hb') with g | g
    ·have hz := Zah h.tk.nn bs (i + 1) (by have := h.sum; omega) (i + 1 + k') (by omega) (by omega);omega
    ·exact g
   | succ k =>
    have := h.tk.fst hff k k' b' (by omega) (by simpa using hk) hb' h0' (by omega);rw [show i + (k + 1) = i + 1 + k by omega, e3 _ (by omega)]; exact this
 ·simp only [Z32];rw [ei, Zej bs (i + 1) e3];have := h.sum; omega
 ·rw [List.length_cons] at hk;rw [e, if_neg (by omega)];exact h.out k (by omega)
theorem Zbt {fifo : Bool} {bin b : Int} {bs : List Int} {i : Nat} {l of' of : List Int} {a : Int} (h : WayO fifo bin (b :: bs) i l a of) (hl : of'.length = 4) (e : ∀ k, of'.getD k 0 = if i = k then 0 else of.getD k 0) :
  WayO fifo bin bs (i + 1) l (a - of.getD i 0) of' /\ (b = bin ∨ of.getD i 0 = 0) := by
 have e3 : ∀ k, i + 1 <= k -> of'.getD k 0 = of.getD k 0 := fun k hk => by rw [e, if_neg (by omega)]
 refine ⟨⟨⟨fun k => ?_, fun k => ?_, fun k b' hk hb' => ?_, fun hff k k' b' hkk hk hb' h0' hlt' => ?_⟩, ?_, hl, fun k hk => ?_⟩, ?_⟩
 ·rw [e]; split
  ·exact Int.le_refl _
  ·exact h.tk.nn k
 ·rw [e];have g1 := h.tk.le k;have g2 := h.tk.nn k
  split <;> omega
 ·rw [e3 _ (by omega)];have := h.tk.oth (k + 1) b' (by simpa using hk) hb';rw [show i + (k + 1) = i + 1 + k by omega] at this; exact this
 ·rw [e3 _ (by omega)] at h0' ⊢;have := h.tk.fst hff (k + 1) (k' + 1) b' (by omega) (by simpa using hk) hb' (by rw [show i + (k' + 1) = i + 1 + k' by omega]; exact h0') (by rw [List.length_cons]; omega);rw [show i + (k + 1) = i + 1 + k by omega] at this; exact this
 ·rw [Zej bs (i + 1) e3];have := h.sum;simp only [Z32] at this;omega
 ·by_cases g : i = k
  ·rw [e, if_pos g]
  ·rw [e, if_neg g]; exact h.out k (by rw [List.length_cons]; omega)
 ·by_cases g : b = bin
  ·exact .inl g
  ·have := h.tk.oth 0 b rfl g;rw [Nat.add_zero] at this; exact .inr this
def Z3i (lies : List Int) (bin : Int) : List Int -> Nat -> List Int -> Int -> List Int × Int
 | [], _, out, a => (out, a)
 | b :: bs, i, out, a => if b = bin then Z3i lies bin bs (i + 1) (out.set i (min (lies.getD i 0) a)) (a - min (lies.getD i 0) a) else Z3i lies bin bs (i + 1) out a
structure FirR (bin : Int) (bs : List Int) (i : Nat) (l out : List Int) (a : Int) (p : List Int × Int) : Prop where
 len : p.1.length = 4
 nn : 0 <= p.2
 le : p.2 <= a
 lt : ∀ k, k < i -> p.1.getD k 0 = out.getD k 0
 way : p.2 = 0 -> ∀ of, of.length = 4 -> (∀ k, k < i -> of.getD k 0 = 0) -> (∀ k, i <= k -> of.getD k 0 = p.1.getD k 0) -> WayO true bin bs i l a of
 one : ∀ of, WayO true bin bs i l a of -> p.2 = 0 /\ ∀ k, i <= k -> of.getD k 0 = p.1.getD k 0
theorem Z9w {lies : List Int} (hl : LOk lies) {bin : Int} : ∀ (bs : List Int) (i : Nat) (out : List Int) (a : Int), 0 <= a -> out.length = 4 -> (∀ k, i <= k -> out.getD k 0 = 0) -> i + bs.length <= 4 -> FirR bin bs i lies out a (Z3i lies bin bs i out a)
 | [], i, out, a, ha, h4, hz, _ => by
  refine ⟨h4, ha, Int.le_refl _, fun k _ => rfl, fun h0 of g1 g2 g3 => ?_, fun of h => ?_⟩
  ·simp only [Z3i] at h0 g3;subst h0;have : of = [0, 0, 0, 0] := Z86 g1 rfl fun k => by
    rw [Z90]
    by_cases g : k < i
    ·exact g2 k g
    ·rw [g3 k (by omega), hz k (by omega)]
   rw [this];exact Zfv hl.lo
  ·have := h.sum;simp only [Z32] at this;refine ⟨this.symm, fun k hk => ?_⟩;show of.getD k 0 = out.getD k 0;rw [hz k hk, h.out k (by simp; omega)]
 | b :: bs, i, out, a, ha, h4, hz, hi => by
  rw [List.length_cons] at hi;have hs0 := hl.lo i;unfold Z3i
  by_cases hb : b = bin
  ·rw [if_pos hb];obtain ⟨n, hn⟩ : ∃ n, n = min (lies.getD i 0) a := ⟨_, rfl⟩;rw [<- hn];have e0 : ∀ k, (out.set i n).getD k 0 = if i = k then n else out.getD k 0 := fun k => Z1r _ _ _ _ (by omega)
   have ih := Z9w hl (bin := bin) bs (i + 1) (out.set i n) (a - n) (by omega) (by simp [h4]) (fun k hk => by rw [e0, if_neg (by omega)]; exact hz k (by omega)) (by omega);obtain ⟨p, hp⟩ : ∃ p, p = Z3i lies bin bs (i + 1) (out.set i n) (a - n) := ⟨_, rfl⟩;rw [<- hp] at ih ⊢;have hpi : p.1.getD i 0 = n := by rw [ih.lt i (by omega), e0, if_pos rfl]
   refine ⟨ih.len, ih.nn, by have := ih.le; omega, fun k hk => by rw [ih.lt k (by omega), e0, if_neg (by omega)], fun h0 of g1 g2 g3 => ?_, fun of h => ?_⟩
   ·have e1 : ∀ k, (of.set i 0).getD k 0 = if i = k then 0 else of.getD k 0 := fun k => Z1r _ _ _ _ (by omega)
    have hw := ih.way h0 (of.set i 0) (by simp [g1]) (fun k hk => by
     rw [e1]; split
     ·rfl
     ·exact g2 k (by omega)) (fun k hk => by rw [e1, if_neg (by omega)]; exact g3 k (by omega))
    refine Zfw hw (.inl hb) (by omega) (by omega) (fun _ _ => by omega) g1 fun k => ?_;rw [e1]
    by_cases g : i = k
    ·subst g; rw [if_pos rfl, g3 i (Nat.le_refl _), hpi]
    ·rw [if_neg g, if_neg g]
   ·have h4' := h.len;have e1 : ∀ k, (of.set i 0).getD k 0 = if i = k then 0 else of.getD k 0 := fun k => Z1r _ _ _ _ (by omega)
    obtain ⟨h1, -⟩ := Zbt (of' := of.set i 0) h (by simp [h4']) e1;have g1 := h.tk.nn i;have g2 := h.tk.le i;have hsum := h.sum;simp only [Z32] at hsum;have hnn := Z8o h.tk.nn bs (i + 1);have hofn : of.getD i 0 = n := by
     by_cases hc : of.getD i 0 = lies.getD i 0
     ·omega
     ·have hz' : ∀ k, k < bs.length -> of.getD (i + 1 + k) 0 = 0 := fun k hk => by
       refine Classical.byContradiction fun hne => ?_;have hpos : 0 < of.getD (i + 1 + k) 0 := by have := h.tk.nn (i + 1 + k); omega
       have := h.tk.fst rfl 0 (k + 1) b (by omega) rfl hb (by rw [show i + (k + 1) = i + 1 + k by omega]; exact hpos) (by rw [List.length_cons]; omega);rw [Nat.add_zero] at this;exact hc this
      have : Z32 of bs (i + 1) = 0 := by
       have key : ∀ (bs : List Int) (i : Nat), (∀ k, k < bs.length -> of.getD (i + k) 0 = 0) -> Z32 of bs i = 0 := fun bs => by
        induction bs with
        | nil => intro i _; rfl
        | cons c bs ih =>
         intro i hk;simp only [Z32];have a1 := hk 0 (by simp);rw [Nat.add_zero] at a1;rw [a1, ih (i + 1) fun k hk' => by have := hk (k + 1) (by simp; omega); rwa [show i + (k + 1) = i + 1 + k by omega] at this]; rfl
       exact key bs (i + 1) hz'
      omega
    rw [hofn] at h1;obtain ⟨r1, r2⟩ := ih.one _ h1;refine ⟨r1, fun k hk => ?_⟩
    by_cases g : i = k
    ·subst g; rw [hofn, hpi]
    ·have := r2 k (by omega);rw [e1, if_neg g] at this; exact this
  ·rw [if_neg hb];have ih := Z9w hl (bin := bin) bs (i + 1) out a ha h4 (fun k hk => hz k (by omega)) (by omega);obtain ⟨p, hp⟩ : ∃ p, p = Z3i lies bin bs (i + 1) out a := ⟨_, rfl⟩;rw [<- hp] at ih ⊢;have hpi : p.1.getD i 0 = 0 := by rw [ih.lt i (by omega), hz i (Nat.le_refl _)]
   refine ⟨ih.len, ih.nn, ih.le, fun k hk => ih.lt k (by omega), fun h0 of g1 g2 g3 => ?_, fun of h => ?_⟩
   ·have hofi : of.getD i 0 = 0 := by rw [g3 i (Nat.le_refl _), hpi]
    have hw := ih.way h0 of g1 (fun k hk => by
     by_cases g : k = i
     ·rw [g]; exact hofi
     ·exact g2 k (by omega)) (fun k hk => g3 k (by omega))
    refine Zfw (n := 0) (by rw [Int.sub_zero]; exact hw) (.inr rfl) (Int.le_refl _) hs0 (fun _ g => absurd g hb) g1 fun k => ?_
    split
    ·rename_i g; rw [<- g]; exact hofi
    ·rfl
   ·have hofi : of.getD i 0 = 0 := by
     have := h.tk.oth 0 b rfl hb
     rwa [Nat.add_zero] at this
    obtain ⟨h1, -⟩ := Zbt (of' := of) h h.len fun k => by
     split
     ·rename_i g; rw [<- g]; exact hofi
     ·rfl
    rw [hofi, Int.sub_zero] at h1;obtain ⟨r1, r2⟩ := ih.one _ h1;refine ⟨r1, fun k hk => ?_⟩
    by_cases g : i = k
    ·subst g; rw [hofi, hpi]
    ·exact r2 k (by omega)
def Z7g (lies bins : List Int) (bin a : Int) : List (List Int) := if 0 < (Z3i lies bin bins 0 [0, 0, 0, 0] a).2 then [] else [(Z3i lies bin bins 0 [0, 0, 0, 0] a).1]
theorem Zn0 {lies : List Int} (hl : LOk lies) {bin : Int} {bins : List Int} (hb : bins.length <= 4) {a : Int} (ha : 0 <= a) (of : List Int) : of ∈ Z7g lies bins bin a ↔ WayO true bin bins 0 lies a of := by
 have h := Z9w hl (bin := bin) bins 0 [0, 0, 0, 0] a ha rfl (fun k _ => Z90 k) (by omega);unfold Z7g;obtain ⟨p, hp⟩ : ∃ p, p = Z3i lies bin bins 0 [0, 0, 0, 0] a := ⟨_, rfl⟩;rw [<- hp] at h ⊢;constructor
 ·intro hm
  split at hm
  ·simp at hm
  ·simp at hm; subst hm;exact h.way (by have := h.nn; omega) _ h.len (fun k hk => by omega) (fun k _ => rfl)
 ·intro hw;obtain ⟨r1, r2⟩ := h.one of hw;rw [if_neg (by omega)];simp;exact Z86 hw.len h.len fun k => r2 k (Nat.zero_le _)
end Go.Batch

namespace Go.Batch
structure Ask where
 kind : Int
 inst : Int
 batch : Int
 batches : List Int
def Zm (q : Ask) : Tk Int := fun x i b n =>
 if q.kind = 1 /\ (b : Int) ∈ q.batches then Z2h x i.toNat
 else if q.kind = 2 /\ q.batch = b /\ q.inst = i then x + n
 else if q.kind = 3 /\ q.inst = i then Z2h x b
 else x
def Zay {ν : Type} (j : Jn) (tk : Tk ν) (z : ν) (k : Nat) : List (Ste ν) := Z2u j tk (Z6 j.moves) (j.moves.take k) 0 [([0, 0, 0, 0], z)]
def Z4e (j : Jn) (k : Nat) : Nat := (Z6 (j.moves.take k)).length
theorem Zwq {ν : Type} (j : Jn) (tk : Tk ν) (z : ν) : Zay j tk z 0 = [([0, 0, 0, 0], z)] := by simp [Zay, Z2u]
theorem Zhb {ν : Type} {j : Jn} {tk : Tk ν} {z : ν} {k : Nat} {m : Mv} (h : j.moves[k]? = some m) : Zay j tk z (k + 1) = (Zay j tk z k).flatMap (Z22 j tk (Z6 j.moves) m (Z4e j k)) := by
 unfold Zay Z4e;rw [List.take_add_one, h];simp only [Option.toList];rw [Z6u, Nat.zero_add];rfl
theorem Zfx {ν : Type} {j : Jn} {tk : Tk ν} {z : ν} {k : Nat} (h : j.moves.length <= k) : Zay j tk z k = Zd j tk z := by
 unfold Zay Zd;rw [List.take_of_length_le h]
theorem Zhc (j : Jn) (k : Nat) : ∃ ext, Z6 j.moves = Z6 (j.moves.take k) ++ ext := ⟨Z6 (j.moves.drop k), by rw [<- Z2t, List.take_append_drop]⟩
theorem Zcq (j : Jn) (k : Nat) : Z4e j k <= (Z6 j.moves).length := by
 obtain ⟨ext, e⟩ := Zhc j k;rw [e, List.length_append]; unfold Z4e; omega
theorem Zv8 {j : Jn} {k : Nat} {m : Mv} (h : j.moves[k]? = some m) (hk : m.kind = 1) : (Z92 j.moves)[Z4e j k]? = some m := by
 obtain ⟨hl, he⟩ := List.getElem?_eq_some_iff.1 h;have e : j.moves = j.moves.take k ++ m :: j.moves.drop (k + 1) := by
  conv => lhs; rw [<- List.take_append_drop k j.moves]
  rw [List.drop_eq_getElem_cons hl, he]
 have e2 : Z92 j.moves = Z92 (j.moves.take k) ++ m :: Z92 (j.moves.drop (k + 1)) := by
  conv => lhs; rw [e]
  unfold Z92;rw [List.filter_append, List.filter_cons, if_pos (by simp [hk])]
 rw [e2, List.getElem?_append_right (by rw [Zcm]; exact Nat.le_refl _), Zcm];show (m :: _)[Z4e j k - Z4e j k]? = _;rw [Nat.sub_self]; rfl
theorem Zsn {ν : Type} (j : Jn) (tk : Tk ν) (z : ν) (k : Nat) : Zay j tk z k = (Zay j Z1f [] k).map fun s => (s.1, Zt tk z s.2) := by
 unfold Zay;rw [Zd9 tk (Zt tk z) (fun x i b n => by simp [Zt, Z1f])];rfl
theorem Zak (j : Jn) (k : Nat) : (Z92 (j.moves.take k)).length = Z4e j k := Zcm _
theorem Zso {j : Jn} (hj : JOk j) (k : Nat) : ∀ x ∈ Zay j Z1f [] k, Kept j.ins (Z92 (j.moves.take k)) x := fun x hx => by
 refine Zdc (D := []) hj.i4 (j.moves.take k) _ (fun m hm => hj.mv m (List.mem_of_mem_take hm)) (by rw [Zak, List.length_nil, Nat.zero_add]; exact Nat.le_trans (Zcq j k) hj.b4) (fun s hs => ?_) x hx;simp at hs; subst hs;exact ⟨rfl, fun k m h => by simp at h, fun k _ => ⟨Z90 k, rfl⟩, fun p hp => by simp at hp⟩
theorem Zva {j : Jn} (hj : JOk j) (k : Nat) : ∀ x ∈ Zay j Z1f [] k, Pth j.ins (Z6 j.moves).length x := fun x hx =>
 Zfr hj.i4 hj.b4 (j.moves.take k) 0 _ (fun m hm => hj.mv m (List.mem_of_mem_take hm)) (by rw [Nat.zero_add]; exact Nat.le_trans (Zcq j k) hj.b4) (fun s hs => by simp at hs; subst hs; exact ⟨Zq3, fun p hp => by simp at hp⟩) x hx
theorem Zfy (n : Int) (b : Nat) : ∀ l : List (Int × Nat × Int), (∀ p ∈ l, 1 <= p.2.2) -> Z59 n b l <= Z8q b l
 | [], _ => Int.le_refl _
 | p :: l, h => by
  have ih := Zfy n b l fun q hq => h q (by simp [hq]);have hp := h p (by simp);simp only [Z59, Z8q]
  by_cases hb : p.2.1 = b
  ·by_cases hn : p.1 = n
   ·rw [if_pos ⟨hn, hb⟩, if_pos hb]; omega
   ·rw [if_neg (fun g => hn g.1), if_pos hb]; omega
  ·rw [if_neg (fun g => hb g.2), if_neg hb]; omega
theorem Zwr (q : Ask) {path : List (Int × Nat × Int)} (hp : ∀ p ∈ path, 0 <= p.1 /\ p.1 < 4 /\ p.2.1 < 4 /\ 1 <= p.2.2) (ht : ∀ b, 0 <= Z8q b path /\ Z8q b path <= 15) : 0 <= Zt (Zm q) 0 path /\ Zt (Zm q) 0 path <= 15 := by
 have wb : ∀ (z : Int) (n : Nat), 0 <= z /\ z <= 15 -> n < 4 -> 0 <= Z2h z n /\ Z2h z n <= 15 := fun z n hz hn => by
  have w := Zcn ⟨z.toNat, by omega⟩ ⟨n, hn⟩ ⟨0, by decide⟩;have e : ((z.toNat : Nat) : Int) = z := by omega
  simp only [e] at w;exact w.2
 by_cases h1 : q.kind = 1
 ·have key : ∀ (l : List (Int × Nat × Int)) (z : Int), (∀ p ∈ l, p ∈ path) -> 0 <= z /\ z <= 15 -> 0 <= Zt (Zm q) z l /\ Zt (Zm q) z l <= 15 := fun l => by
   induction l with
   | nil => intro z _ hz; exact hz
   | cons p l ih =>
    intro z hl hz;refine ih _ (fun x hx => hl x (by simp [hx])) ?_;have := hp p (hl p (by simp));show 0 <= Zm q z p.1 p.2.1 p.2.2 /\ Zm q z p.1 p.2.1 p.2.2 <= 15;unfold Zm
    split
    ·exact wb _ _ hz (by omega)
    ·rw [if_neg (by omega), if_neg (by omega)]; exact hz
  exact key path 0 (fun p h => h) (by decide)
 by_cases h2 : q.kind = 2
 ·have key : ∀ (l : List (Int × Nat × Int)) (z : Int), Zt (Zm q) z l = z + if 0 <= q.batch then Z59 q.inst q.batch.toNat l else 0 := fun l => by
   induction l with
   | nil => intro z; simp [Zt, Z59]
   | cons p l ih =>
    intro z;have e : Zt (Zm q) z (p :: l) = Zt (Zm q) (Zm q z p.1 p.2.1 p.2.2) l := rfl;rw [e, ih];unfold Zm;rw [if_neg (by omega)]
    by_cases h0 : 0 <= q.batch
    ·rw [if_pos h0, if_pos h0];simp only [Z59]
     by_cases hc : p.1 = q.inst /\ p.2.1 = q.batch.toNat
     ·rw [if_pos hc, if_pos ⟨h2, by omega, hc.1.symm⟩]; omega
     ·rw [if_neg hc, if_neg (fun g => hc ⟨g.2.2.symm, by omega⟩), if_neg (by omega)]; omega
    ·rw [if_neg h0, if_neg h0, if_neg (by omega), if_neg (by omega)]
  rw [key]
  split
  ·have g1 := Zfy q.inst q.batch.toNat path fun p h => (hp p h).2.2.2;have g2 := (Zco q.inst q.batch.toNat path fun p h => (hp p h).2.2.2).1;have g3 := ht q.batch.toNat;omega
  ·decide
 ·have key : ∀ (l : List (Int × Nat × Int)) (z : Int), (∀ p ∈ l, p ∈ path) -> 0 <= z /\ z <= 15 -> 0 <= Zt (Zm q) z l /\ Zt (Zm q) z l <= 15 := fun l => by
   induction l with
   | nil => intro z _ hz; exact hz
   | cons p l ih =>
    intro z hl hz;refine ih _ (fun x hx => hl x (by simp [hx])) ?_;have := hp p (hl p (by simp));show 0 <= Zm q z p.1 p.2.1 p.2.2 /\ Zm q z p.1 p.2.1 p.2.2 <= 15;unfold Zm;rw [if_neg (by omega), if_neg (by omega)]
    split
    ·exact wb _ _ hz (by omega)
    ·exact hz
  exact key path 0 (fun p h => h) (by decide)
structure FOk (come : Nat) (s : Ste Int) : Prop where
 l : LOk s.1
 n0 : 0 <= s.2
 n15 : s.2 <= 15
 z : ∀ k, come <= k -> s.1.getD k 0 = 0
theorem Zfz {j : Jn} (hj : JOk j) (q : Ask) (k : Nat) : ∀ s ∈ Zay j (Zm q) 0 k, FOk (Z4e j k) s := fun s hs => by
 rw [Zsn] at hs;obtain ⟨x, hx, rfl⟩ := List.mem_map.1 hs;have h1 := Zso hj k x hx;have h2 := Zva hj k x hx;have hi4 := hj.i4;have hb4 := hj.b4;have hb := Zwr q (path := x.2) (fun p hp => by have := h2.all p hp; omega) (fun b => ?_)
 ·exact ⟨h2.l, hb.1, hb.2, fun k hk => (h1.z k (by rw [Zak]; exact hk)).1⟩
 ·by_cases hbk : b < Z4e j k
  ·have hlt : b < (Z92 (j.moves.take k)).length := by rw [Zak]; exact hbk
   have := h1.in_ b _ (List.getElem?_eq_getElem hlt);have hm : (Z92 (j.moves.take k))[b] ∈ j.moves := List.mem_of_mem_take (List.mem_filter.1 (List.getElem_mem hlt)).1;have hmo := (hj.mv _ hm).h5;have g1 := h2.l.lo b;have h0 : 0 <= Z8q b x.2 := by
    have : ∀ l : List (Int × Nat × Int), (∀ p ∈ l, 1 <= p.2.2) -> 0 <= Z8q b l := fun l => by
     induction l with
     | nil => intro _; exact Int.le_refl _
     | cons p l ih =>
      intro h;have a1 := ih fun q hq => h q (by simp [hq]);have a2 := h p (by simp);simp only [Z8q]; split <;> omega
    exact this x.2 fun p hp => (h2.all p hp).2.2.2
   omega
  ·have := (h1.z b (by rw [Zak]; omega)).2;omega
def Z7h (l : List Int) : Nat := (l.getD 0 0 + 6 * (l.getD 1 0 + 6 * (l.getD 2 0 + 6 * l.getD 3 0))).toNat
def Z1i (s : Ste Int) : Nat := s.2.toNat * 1296 + Z7h s.1
def Z1z (n : Nat) : List Int := [((n % 6 : Nat) : Int), ((n / 6 % 6 : Nat) : Int), ((n / 36 % 6 : Nat) : Int), ((n / 216 % 6 : Nat) : Int)]
theorem Z9x {l : List Int} (h : LOk l) : Z7h l < 1296 := by
 have a0 := h.lo 0; have a1 := h.lo 1; have a2 := h.lo 2; have a3 := h.lo 3;have b0 := h.hi 0; have b1 := h.hi 1; have b2 := h.hi 2; have b3 := h.hi 3;unfold Z7h; omega
theorem Zkt {l : List Int} (h : LOk l) : Z1z (Z7h l) = l := by
 have a0 := h.lo 0; have a1 := h.lo 1; have a2 := h.lo 2; have a3 := h.lo 3;have b0 := h.hi 0; have b1 := h.hi 1; have b2 := h.hi 2; have b3 := h.hi 3;obtain ⟨a, b, c, d, e⟩ : ∃ a b c d, l = [a, b, c, d] := by
  have := h.len
  match l, this with
  | [a, b, c, d], _ => exact ⟨a, b, c, d, rfl⟩
 subst e;simp only [List.getD_cons_zero, List.getD_cons_succ] at a0 a1 a2 a3 b0 b1 b2 b3;unfold Z7h Z1z;simp only [List.getD_cons_zero, List.getD_cons_succ]
 congr 1
 ·omega
 congr 1
 ·omega
 congr 1
 ·omega
 congr 1
 omega
theorem Zku {n : Nat} (h : n < 1296) : Z7h (Z1z n) = n := by
 unfold Z7h Z1z;simp only [List.getD_cons_zero, List.getD_cons_succ];omega
def Z3o (n : Nat) : Ste Int := (Z1z (n % 1296), ((n / 1296 : Nat) : Int))
theorem Ze3 {n : Nat} : Z1i (Z3o n) = n := by
 unfold Z1i Z3o;simp only;rw [Zku (by omega)];omega
theorem Z57 {s : Ste Int} (h : LOk s.1) (h0 : 0 <= s.2) : Z3o (Z1i s) = s := by
 have := Z9x h;unfold Z3o Z1i;rw [show (s.2.toNat * 1296 + Z7h s.1) % 1296 = Z7h s.1 by omega, show (s.2.toNat * 1296 + Z7h s.1) / 1296 = s.2.toNat by omega, Zkt h];exact Prod.ext rfl (by simp only; omega)
theorem Z4x {s : Ste Int} (h : LOk s.1) (h0 : 0 <= s.2) (h15 : s.2 <= 15) : Z1i s < 20736 := by
 have := Z9x h;unfold Z1i; omega
structure Marks (L : List Bool) (S : Ste Int -> Prop) : Prop where
 len : L.length = 20736
 at_ : ∀ n, n < 20736 -> (L[n]? = some true ↔ S (Z3o n))
theorem Marks.set {L : List Bool} {S : Ste Int -> Prop} (h : Marks L S) {s : Ste Int} (hl : LOk s.1) (h0 : 0 <= s.2) (h15 : s.2 <= 15) : Marks (L.set (Z1i s) true) fun x => S x ∨ x = s := by
 have hp := Z4x hl h0 h15;refine ⟨by rw [List.length_set]; exact h.len, fun n hn => ?_⟩;rw [List.getElem?_set]
 by_cases e : Z1i s = n
 ·subst e;rw [if_pos rfl, if_pos (by rw [h.len]; exact hp), Z57 hl h0];simp
 ·rw [if_neg e, h.at_ n hn];constructor
  ·exact .inl
  ·rintro (g | g)
   ·exact g
   ·exact absurd (by rw [<- g, Ze3]) e
theorem Marks.congr {L : List Bool} {S T : Ste Int -> Prop} (h : Marks L S) (e : ∀ x, S x ↔ T x) : Marks L T := ⟨h.len, fun n hn => by rw [h.at_ n hn, e]⟩
def before (S : List (Ste Int)) (n : Nat) (s : Ste Int) : Prop := s ∈ S /\ Z1i s < n
end Go.Batch

namespace Go.Batch
end Go.Batch

namespace Go.Batch
end Go.Batch

namespace Go.Batch
structure LyI (S : List (Ste Int)) (f : List Int -> Int) (n : Nat) (sm : Bool) (lo hi : Int) : Prop where
 no : sm = false -> ∀ s ∈ S, ¬ Z1i s < n
 lo1 : sm = true -> ∃ s ∈ S, f s.1 = lo
 hi1 : sm = true -> ∃ s ∈ S, f s.1 = hi
 bd : ∀ s ∈ S, Z1i s < n -> lo <= f s.1 /\ f s.1 <= hi
theorem LyI.start (S : List (Ste Int)) (f : List Int -> Int) : LyI S f 0 false 0 0 :=
 ⟨fun _ s _ h => absurd h (Nat.not_lt_zero _), fun h => Bool.noConfusion h, fun h => Bool.noConfusion h, fun s _ h => absurd h (Nat.not_lt_zero _)⟩
theorem LyI.skip {S : List (Ste Int)} {f : List Int -> Int} {n : Nat} {sm : Bool} {lo hi : Int} (h : LyI S f n sm lo hi) (hs : ∀ s ∈ S, LOk s.1 /\ 0 <= s.2) (hn : ¬ Z3o n ∈ S) : LyI S f (n + 1) sm lo hi := by
 have key : ∀ s ∈ S, Z1i s < n + 1 -> Z1i s < n := fun s h1 h2 => by
  rcases Nat.lt_or_eq_of_le (Nat.le_of_lt_succ h2) with g | g
  ·exact g
  ·have := Z57 (hs s h1).1 (hs s h1).2;rw [g] at this;rw [this] at hn;exact absurd h1 hn
 exact ⟨fun h1 s h2 h3 => h.no h1 s h2 (key s h2 h3), h.lo1, h.hi1, fun s h1 h2 => h.bd s h1 (key s h1 h2)⟩
theorem LyI.first {S : List (Ste Int)} {f : List Int -> Int} {n : Nat} {lo hi : Int} (h : LyI S f n false lo hi) (hs : ∀ s ∈ S, LOk s.1 /\ 0 <= s.2) (hn : Z3o n ∈ S) : LyI S f (n + 1) true (f (Z1z (n % 1296))) (f (Z1z (n % 1296))) :=
 ⟨fun h => Bool.noConfusion h, fun _ => ⟨_, hn, rfl⟩, fun _ => ⟨_, hn, rfl⟩, fun s h1 h2 => by
  rcases Nat.lt_or_eq_of_le (Nat.le_of_lt_succ h2) with g | g
  ·exact absurd g (h.no rfl s h1)
  ·have := Z57 (hs s h1).1 (hs s h1).2
   rw [g] at this
   rw [<- this]
   exact ⟨Int.le_refl _, Int.le_refl _⟩⟩
theorem LyI.next {S : List (Ste Int)} {f : List Int -> Int} {n : Nat} {lo hi : Int} (h : LyI S f n true lo hi) (hs : ∀ s ∈ S, LOk s.1 /\ 0 <= s.2) (hn : Z3o n ∈ S) : LyI S f (n + 1) true (min lo (f (Z1z (n % 1296)))) (max hi (f (Z1z (n % 1296)))) := by
 refine ⟨fun h => Bool.noConfusion h, fun _ => ?_, fun _ => ?_, fun s h1 h2 => ?_⟩
 ·by_cases g : lo <= f (Z1z (n % 1296))
  ·rw [Int.min_eq_left g]; exact h.lo1 rfl
  ·rw [Int.min_eq_right (by omega)]; exact ⟨_, hn, rfl⟩
 ·by_cases g : f (Z1z (n % 1296)) <= hi
  ·rw [Int.max_eq_left g]; exact h.hi1 rfl
  ·rw [Int.max_eq_right (by omega)]; exact ⟨_, hn, rfl⟩
 ·rcases Nat.lt_or_eq_of_le (Nat.le_of_lt_succ h2) with g | g
  ·have := h.bd s h1 g; omega
  ·have := Z57 (hs s h1).1 (hs s h1).2;rw [g] at this;have e : f s.1 = f (Z1z (n % 1296)) := by rw [<- this]; rfl
   omega
theorem Zli {L : List Int} {lo hi : Int} (h1 : lo ∈ L) (h2 : hi ∈ L) (h : ∀ x ∈ L, lo <= x /\ x <= hi) : Zs L = (lo, hi) := by
 have hne : L ≠ [] := fun e => by rw [e] at h1; cases h1
 have a1 := Z4b h1;have a2 := (h _ (Z50 hne)).1;have a3 := Z4k h2;have a4 := (h _ (Z6v hne)).2;unfold Zs;rw [Int.le_antisymm a1 a2, Int.le_antisymm a4 a3]
theorem LyI.all {S : List (Ste Int)} {f : List Int -> Int} {sm : Bool} {lo hi : Int} (h : LyI S f 1296 sm lo hi) (hs : ∀ s ∈ S, LOk s.1 /\ s.2 = 0) (hne : S ≠ []) : Zs (S.map fun s => f s.1) = (lo, hi) := by
 have hp : ∀ s ∈ S, Z1i s < 1296 := fun s h1 => by
  have := Z9x (hs s h1).1;unfold Z1i;rw [(hs s h1).2];omega
 cases sm with
 | false =>
  obtain ⟨s, l, e⟩ := List.exists_cons_of_ne_nil hne;have hm : s ∈ S := by rw [e]; exact List.mem_cons_self
  exact absurd (hp s hm) (h.no rfl s hm)
 | true =>
  obtain ⟨s, h1, e1⟩ := h.lo1 rfl;obtain ⟨t, h2, e2⟩ := h.hi1 rfl;exact Zli (List.mem_map.2 ⟨s, h1, e1⟩) (List.mem_map.2 ⟨t, h2, e2⟩) fun x hx => by
   obtain ⟨u, hu, rfl⟩ := List.mem_map.1 hx;exact h.bd u hu (hp u hu)
theorem n21 : ¬ (2 : Int) = 1 := by decide
theorem n23 : ¬ (2 : Int) = 3 := by decide
theorem Zw6 (i : Int) (b : Nat) : Zm ⟨2, i, b, []⟩ = Z2v i b := by
 funext x i' b' n
 unfold Zm Z2v;rw [if_neg (fun h => absurd h.1 n21)]
 by_cases c : i' = i /\ b' = b
 ·rw [if_pos c, if_pos ⟨rfl, by show (b : Int) = b'; omega, c.1.symm⟩]
 ·rw [if_neg c, if_neg (fun h => c ⟨h.2.2.symm, by have : (b : Int) = b' := h.2.1; omega⟩), if_neg (fun h => absurd h.1 n23)]
end Go.Batch

namespace Go.Batch
theorem Z11i {c bin : Int} {of : List Int} : ∀ (bs : List Int) (i : Nat) (l l' : List Int), (∀ k, l'.getD k 0 = l.getD k 0 - of.getD (i + k) 0) -> (∀ (k : Nat) (b : Int), bs[k]? = some b -> b ≠ bin -> of.getD (i + k) 0 = 0) ->
  inL c bs l' = inL c bs l - if c = bin then Z32 of bs i else 0
 | [], i, l, l', _, _ => by simp [inL, Z32]
 | b :: bs, i, l, l', h, ho => by
  have ih := Z11i (c := c) (bin := bin) (of := of) bs (i + 1) l.tail l'.tail (fun k => by
   have := h (k + 1)
   have e1 : l'.tail.getD k 0 = l'.getD (k + 1) 0 := by cases l' <;> simp
   have e2 : l.tail.getD k 0 = l.getD (k + 1) 0 := by cases l <;> simp
   rw [e1, e2, this, show i + (k + 1) = i + 1 + k by omega]) (fun k b' hk hb => by
   have := ho (k + 1) b' (by simpa using hk) hb
   rw [show i + (k + 1) = i + 1 + k by omega] at this; exact this)
  have h0 := h 0;have e1 : l'.headD 0 = l'.getD 0 0 := by cases l' <;> simp
  have e2 : l.headD 0 = l.getD 0 0 := by cases l <;> simp
  simp only [inL, Z32];rw [ih, e1, e2, h0, Nat.add_zero];have hob := ho 0 b (by simp);rw [Nat.add_zero] at hob
  by_cases hc : c = bin
  ·subst hc;rw [if_pos rfl, if_pos rfl]
   by_cases hb : b = c
   ·rw [if_pos hb, if_pos hb]; omega
   ·rw [if_neg hb, if_neg hb, hob hb]; omega
  ·rw [if_neg hc, if_neg hc]
   by_cases hb : b = c
   ·rw [if_pos hb, if_pos hb, hob (fun e => hc (hb.symm.trans e))]; omega
   ·rw [if_neg hb, if_neg hb]; omega
theorem Z11j {c : Int} : ∀ (bs : List Int) (b : Nat) (l l' : List Int) (a x : Int), bs[b]? = some x -> (∀ k, l'.getD k 0 = if k = b then a else l.getD k 0) -> inL c bs l' = inL c bs l + if x = c then a - l.getD b 0 else 0
 | [], b, l, l', a, x, h, _ => by simp at h
 | y :: bs, b, l, l', a, x, h, h' => by
  have e1 : l'.headD 0 = l'.getD 0 0 := by cases l' <;> simp
  have e2 : l.headD 0 = l.getD 0 0 := by cases l <;> simp
  simp only [inL];have h0 := h' 0;have et : ∀ (z : List Int) (k : Nat), z.tail.getD k 0 = z.getD (k + 1) 0 := fun z k => by cases z <;> simp
  cases b with
  | zero =>
   have hx : y = x := by simpa using h
   subst hx;have e3 : inL c bs l'.tail = inL c bs l.tail := Zon bs _ _ fun k _ => by rw [et, et, h' (k + 1), if_neg (by omega)]
   rw [e1, e2, e3, h0, if_pos rfl]
   by_cases hc : y = c
   ·rw [if_pos hc, if_pos hc, if_pos hc]; omega
   ·rw [if_neg hc, if_neg hc, if_neg hc]; omega
  | succ b =>
   have ih := Z11j (c := c) bs b l.tail l'.tail a x (by simpa using h) (fun k => by
    rw [et, et, h' (k + 1)]
    by_cases e : k = b
    ·rw [if_pos e, if_pos (by omega)]
    ·rw [if_neg e, if_neg (by omega)])
   have h0' : l'.getD 0 0 = l.getD 0 0 := by rw [h0, if_neg (by omega)]
   rw [ih, e1, e2, h0', et];omega
theorem Z116 {bin : Int} {bins l of : List Int} (hb : bins.length <= 4) {n : Int} (h : WayO true bin bins 0 l n of) {own : Nat} (h1 : bins[own]? = some bin) (h2 : 0 < l.getD own 0 - of.getD own 0)
  (h3 : ∀ k, k < own -> bins[k]? = some bin -> l.getD k 0 - of.getD k 0 <= 0) : WayO true bin bins 0 l (n + 1) (of.set own (of.getD own 0 + 1)) := by
 have ho : own < bins.length := (List.getElem?_eq_some_iff.1 h1).1;have eo : ∀ k, (of.set own (of.getD own 0 + 1)).getD k 0 = if k = own then of.getD own 0 + 1 else of.getD k 0 := fun k => by
  rw [Z1r _ _ _ _ (by rw [h.len]; omega)]
  by_cases e : own = k
  ·rw [if_pos e, if_pos e.symm]
  ·rw [if_neg e, if_neg (fun h => e h.symm)]
 have tk : Took true bin bins 0 l (of.set own (of.getD own 0 + 1)) := by
  refine ⟨fun k => ?_, fun k => ?_, fun k b hk hne => ?_, fun _ k k' b hkk hk hbb h0 hlt => ?_⟩
  ·have := h.tk.nn k; have := h.tk.nn own; rw [eo]; split <;> omega
  ·have := h.tk.le k; rw [eo]
   by_cases e : k = own
   ·rw [if_pos e, e]; omega
   ·rw [if_neg e]; exact this
  ·have := h.tk.oth k b hk hne;rw [Nat.zero_add] at this ⊢;rw [eo]
   by_cases e : k = own
   ·subst e; rw [h1] at hk; cases hk; exact absurd rfl hne
   ·rw [if_neg e]; exact this
  ·rw [Nat.zero_add] at h0 ⊢;subst hbb;rw [eo] at h0 ⊢;have h3' : k < own -> of.getD k 0 = l.getD k 0 := fun g => by
    have := h3 k g hk;have := h.tk.le k;omega
   by_cases e : k = own
   ·subst e;rw [if_neg (by omega)] at h0;have := h.tk.fst rfl k k' b hkk hk rfl (by rw [Nat.zero_add]; exact h0) hlt;rw [Nat.zero_add] at this;omega
   ·rw [if_neg e]
    by_cases e' : k' = own
    ·exact h3' (by omega)
    ·rw [if_neg e'] at h0;have := h.tk.fst rfl k k' b hkk hk rfl (by rw [Nat.zero_add]; exact h0) hlt;rw [Nat.zero_add] at this;exact this
 have sm : ∀ (bs : List Int) (i : Nat), i <= own -> own < i + bs.length -> Z32 (of.set own (of.getD own 0 + 1)) bs i = Z32 of bs i + 1 := fun bs => by
  induction bs with
  | nil => intro i h1 h2; simp at h2; omega
  | cons b bs ih =>
   intro i h1 h2;simp only [Z32];rw [eo]
   by_cases e : i = own
   ·subst e;have e2 : Z32 (of.set i (of.getD i 0 + 1)) bs (i + 1) = Z32 of bs (i + 1) := Zej bs (i + 1) fun k hk => by rw [eo, if_neg (by omega)]
    rw [if_pos rfl, e2];omega
   ·rw [if_neg e, ih (i + 1) (by omega) (by simp at h2; omega)];omega
 refine ⟨tk, by rw [sm bins 0 (Nat.zero_le _) (by omega), h.sum], by rw [List.length_set, h.len], fun k hk => ?_⟩;rw [eo, if_neg (by omega)];exact h.out k hk
theorem Z114 {bin : Int} : ∀ {bs l : List Int}, 0 < inL bin bs l -> ∃ k : Nat, bs[k]? = some bin /\ 0 < l.getD k 0
 | [], l, h => by simp [inL] at h
 | b :: bs, l, h => by
  simp only [inL] at h;have e2 : l.headD 0 = l.getD 0 0 := by cases l <;> simp
  by_cases hb : b = bin /\ 0 < l.getD 0 0
  ·exact ⟨0, by simp [hb.1], hb.2⟩
  ·have : 0 < inL bin bs l.tail := by
    by_cases e : b = bin
    ·rw [if_pos e, e2] at h;have : ¬ 0 < l.getD 0 0 := fun g => hb ⟨e, g⟩;omega
    ·rw [if_neg e] at h; omega
   obtain ⟨k, h1, h2⟩ := Z114 this;refine ⟨k + 1, by simpa using h1, ?_⟩;have et : l.tail.getD k 0 = l.getD (k + 1) 0 := by cases l <;> simp
   rw [<- et]; exact h2
theorem Z115 {fifo : Bool} {bin c : Int} {bins l of : List Int} (hl : LOk l) {n : Int} (h : WayO fifo bin bins 0 l n of) : inL c bins (Z2c l of) = inL c bins l - if c = bin then n else 0 := by
 have := Z11i (c := c) (bin := bin) (of := of) bins 0 l (Z2c l of) (fun k => by rw [Zha hl.len h.len, Nat.zero_add]) h.tk.oth;rw [this, h.sum]
theorem Z124 {bin : Int} : ∀ {bs l : List Int}, (∀ k, 0 <= l.getD k 0) -> 0 <= inL bin bs l
 | [], _, _ => Int.le_refl _
 | b :: bs, l, h => by
  have ih := Z124 (bin := bin) (bs := bs) (l := l.tail) fun k => by
   have : l.tail.getD k 0 = l.getD (k + 1) 0 := by cases l <;> simp
   rw [this]; exact h (k + 1)
  have e2 : l.headD 0 = l.getD 0 0 := by cases l <;> simp
  have := h 0;simp only [inL]
  split <;> omega
theorem Z110 {fifo : Bool} {bin : Int} {bins l of : List Int} (hl : LOk l) {n : Int} (h : WayO fifo bin bins 0 l n of) : n <= inL bin bins l := by
 have h1 := Z115 (c := bin) hl h;rw [if_pos rfl] at h1;have h2 := Z124 (bin := bin) (bs := bins) (l := Z2c l of) fun k => by
  have := h.tk.le k;rw [Zha hl.len h.len]; omega
 omega
theorem least_nat {P : Nat -> Prop} : ∀ k, P k -> ∃ m, P m /\ ∀ x, x < m -> ¬ P x := fun k => by
 induction k using Nat.strongRecOn with
 | ind k ih =>
  intro h
  by_cases g : ∃ x, x < k /\ P x
  ·obtain ⟨x, h1, h2⟩ := g;exact ih x h1 h2
  ·exact ⟨k, h, fun x h1 h2 => g ⟨x, h1, h2⟩⟩
theorem Z125 {bin : Int} {bins l : List Int} (hb : bins.length <= 4) (hl : LOk l) : ∀ n : Nat, (n : Int) <= inL bin bins l -> ∃ of, WayO true bin bins 0 l n of
 | 0, _ => ⟨_, Zfv hl.lo⟩
 | n + 1, h => by
  obtain ⟨of, hw⟩ := Z125 (bin := bin) hb hl n (by omega);have h1 := Z115 (c := bin) hl hw;rw [if_pos rfl] at h1;obtain ⟨k, hk⟩ := Z114 (bin := bin) (bs := bins) (l := Z2c l of) (by omega);obtain ⟨m, ⟨hm1, hm2⟩, hm3⟩ := least_nat (P := fun k => bins[k]? = some bin /\ 0 < (Z2c l of).getD k 0) k hk;rw [Zha hl.len hw.len] at hm2;refine ⟨_, Z116 hb hw hm1 hm2 fun x hx hxb => ?_⟩;have := hm3 x hx;rw [Zha hl.len hw.len] at this;have : ¬ 0 < l.getD x 0 - of.getD x 0 := fun g => this ⟨hxb, g⟩;omega
theorem Z12b {bin : Int} {bins l of of' : List Int} (hb : bins.length <= 4) (hl : LOk l) {n : Int} (hn : 0 <= n) (h : WayO true bin bins 0 l n of) (h' : WayO true bin bins 0 l n of') : of = of' := by
 have g := (Zn0 hl hb hn of).2 h;have g' := (Zn0 hl hb hn of').2 h';unfold Z7g at g g'
 split at g
 ·cases g
 ·rename_i hc
  rw [if_neg hc] at g';rw [List.mem_singleton.1 g, List.mem_singleton.1 g']
theorem Z11l {j : Jn} {k : Nat} {m : Mv} (h : j.moves[k]? = some m) (hk : m.kind = 1) : (Z6 j.moves)[Z4e j k]? = some m.bin := by
 have := Zv8 h hk;unfold Z6;rw [List.getElem?_map];show (Option.map _ (Z92 j.moves)[Z4e j k]?) = _;rw [this]; rfl
structure DetS (j : Jn) (k : Nat) (lies : List Int) (has : Nat -> Nat -> Int) : Prop where
 ex : Zay j Z1f [] k ≠ []
 is : ∀ s ∈ Zay j Z1f [] k, s.1 = lies /\ ∀ n b : Nat, Z59 n b s.2 = has n b
section
variable {j : Jn} {k : Nat} {lies : List Int} {has : Nat -> Nat -> Int}
theorem DetS.start (j : Jn) : DetS j 0 [0, 0, 0, 0] fun _ _ => 0 := ⟨by rw [Zwq]; simp, fun s h => by rw [Zwq] at h; rw [List.mem_singleton.1 h]; exact ⟨rfl, fun _ _ => rfl⟩⟩
theorem DetS.one (h : DetS j k lies has) : ∃ p, (lies, p) ∈ Zay j Z1f [] k /\ ∀ n b : Nat, Z59 n b p = has n b := by
 obtain ⟨s, l, e⟩ := List.exists_cons_of_ne_nil h.ex;have hm : s ∈ Zay j Z1f [] k := by rw [e]; exact List.mem_cons_self
 obtain ⟨h1, h2⟩ := h.is s hm;exact ⟨s.2, by rw [<- h1]; exact hm, h2⟩
theorem DetS.ok (h : DetS j k lies has) (hj : JOk j) : LOk lies /\ (∀ b, Z4e j k <= b -> lies.getD b 0 = 0) /\ (∀ n b : Nat, 0 <= has n b /\ has n b <= 15) := by
 obtain ⟨p, hp, hh⟩ := h.one;refine ⟨(Zva hj k _ hp).l, fun b hb => ((Zso hj k _ hp).z b (by rw [Zak]; exact hb)).1, fun n b => ?_⟩;have g := Zfz hj ⟨2, n, b, []⟩ k (lies, Zt (Zm ⟨2, n, b, []⟩) 0 p) (by rw [Zsn]; exact List.mem_map.2 ⟨_, hp, rfl⟩);have e : Zt (Zm ⟨2, n, b, []⟩) 0 p = has n b := by rw [Zw6, Zbq, Int.zero_add]; exact hh n b
 have g0 := g.n0;have g1 := g.n15;rw [e] at g0 g1;exact ⟨g0, g1⟩
theorem Z10r (hs : Zc j = true) (k : Nat) : Zay j Z1f [] k ≠ [] := fun e => by
 have key : ∀ d, Zay j Z1f [] (k + d) = [] := fun d => by
  induction d with
  | zero => exact e
  | succ d ih =>
   by_cases g : k + d < j.moves.length
   ·rw [show k + (d + 1) = (k + d) + 1 by omega, Zhb (List.getElem?_eq_getElem g), ih]; rfl
   ·rw [Zfx (by omega)]; rw [Zfx (by omega)] at ih; exact ih
 have := key j.moves.length;rw [Zfx (by omega)] at this;exact Zoo hs this
theorem DetS.in_ (h : DetS j k lies has) (hs : Zc j = true) {m : Mv} (hm : j.moves[k]? = some m) (h1 : m.kind = 1) (he : m.lo = m.hi) : DetS j (k + 1) (lies.set (Z4e j k) m.lo) has := by
 refine ⟨Z10r hs _, fun s hs => ?_⟩;rw [Zhb hm] at hs;obtain ⟨x, hx, hs⟩ := List.mem_flatMap.1 hs;unfold Z22 at hs;rw [if_pos h1] at hs;obtain ⟨n, hn, rfl⟩ := List.mem_map.1 hs;rw [Z2d] at hn;obtain ⟨e1, e2⟩ := h.is x hx;exact ⟨by rw [e1, show n = m.lo by omega], e2⟩
theorem DetS.cnt (h : DetS j k lies has) (hs : Zc j = true) {m : Mv} (hm : j.moves[k]? = some m) (h1 : m.kind ≠ 1) (h2 : m.kind ≠ 2) : DetS j (k + 1) lies has := by
 refine ⟨Z10r hs _, fun s hs => ?_⟩;rw [Zhb hm] at hs;obtain ⟨x, hx, hs⟩ := List.mem_flatMap.1 hs;unfold Z22 at hs;rw [if_neg h1, if_neg h2] at hs
 split at hs
 ·rw [List.mem_singleton.1 hs]; exact h.is x hx
 ·cases hs
theorem DetS.enough (h : DetS j k lies has) (hj : JOk j) (hs : Zc j = true) {m : Mv} (hm : j.moves[k]? = some m) (h2 : m.kind = 2) (he : m.lo = m.hi) : m.lo <= inL m.bin (Z6 j.moves) lies := by
 have hne := Z10r hs (k + 1);rw [Zhb hm] at hne;obtain ⟨x, l, e⟩ := List.exists_cons_of_ne_nil hne;have hx : x ∈ (Zay j Z1f [] k).flatMap (Z22 j Z1f (Z6 j.moves) m (Z4e j k)) := by rw [e]; exact List.mem_cons_self
 obtain ⟨s, hs1, hs2⟩ := List.mem_flatMap.1 hx;unfold Z22 at hs2;rw [if_neg (by omega), if_pos h2] at hs2;obtain ⟨i, hi, hx⟩ := List.mem_flatMap.1 hs2;obtain ⟨n, hn, hx⟩ := List.mem_flatMap.1 hx;rw [Z2d] at hn;have hl0 := (hj.mv m (List.mem_of_getElem? hm)).l0;obtain ⟨of, hw, -⟩ := (Zks hj.b4 (Zva hj k s hs1).l (by omega) x).1 hx;have := Z110 (Zva hj k s hs1).l hw;rw [(h.is s hs1).1] at this;omega
theorem DetS.out (h : DetS j k lies has) (hj : JOk j) (hs : Zc j = true) {m : Mv} (hm : j.moves[k]? = some m) (h2 : m.kind = 2) (he : m.lo = m.hi) (hf : j.first.getD m.bin.toNat false = true) {i : Nat} (hi : m.inst = i) {of : List Int} (hw : WayO true m.bin (Z6 j.moves) 0 lies m.lo of) :
  DetS j (k + 1) (Z2c lies of) fun n b => has n b + if n = i then of.getD b 0 else 0 := by
 have hl0 := (hj.mv m (List.mem_of_getElem? hm)).l0;have hlok := (h.ok hj).1;refine ⟨Z10r hs _, fun s hs => ?_⟩;rw [Zhb hm] at hs;obtain ⟨x, hx, hs⟩ := List.mem_flatMap.1 hs;obtain ⟨e1, e2⟩ := h.is x hx;unfold Z22 at hs;rw [if_neg (by omega), if_pos h2] at hs;obtain ⟨i', hi', hs⟩ := List.mem_flatMap.1 hs;obtain ⟨n, hn, hs⟩ := List.mem_flatMap.1 hs;rw [Z2d] at hn;have hii : i' = m.inst := by
  unfold Z9q at hi';rw [if_neg (by omega)] at hi';exact List.mem_singleton.1 hi'
 have hnn : n = m.lo := by omega
 subst hii hnn;rw [hf] at hs;obtain ⟨xl, xp⟩ := x;dsimp only at e1 e2;subst e1;obtain ⟨of', hw', rfl⟩ := (Zks hj.b4 hlok (by omega) s).1 hs;have eo := Z12b hj.b4 hlok (by omega) hw hw';subst eo;refine ⟨rfl, fun n b => ?_⟩;have ef : ∀ (l p : List (Int × Nat × Int)), Zt Z1f p l = p ++ l := fun l => by
  induction l with
  | nil => intro p; simp [Zt]
  | cons q l ih =>
   intro p;have := ih (Z1f p q.1 q.2.1 q.2.2);show Zt Z1f (Z1f p q.1 q.2.1 q.2.2) l = _;rw [this]; simp [Z1f]
 show Z59 n b (Zt Z1f xp _) = _;rw [ef, Zkl, e2, Zfq, hi]
 by_cases c : n = i
 ·subst c;rw [if_pos rfl]
  by_cases cb : b < (Z6 j.moves).length
  ·rw [if_pos ⟨rfl, Nat.zero_le _, by omega⟩]
  ·rw [if_neg (fun g => cb (by omega)), hw.out b (by omega)]
 ·rw [if_neg c, if_neg (fun g => c (by omega))]
theorem DetS.rest (h : DetS j j.moves.length lies has) (b : Nat) : Zs ((Zd j Zn 0).map fun s => s.1.getD b 0) = (lies.getD b 0, lies.getD b 0) := by
 obtain ⟨p, hp, hh⟩ := h.one;have hi := h.is;rw [Zfx (Nat.le_refl _)] at hp hi;have e : ∀ x ∈ (Zd j Zn 0).map (fun s => s.1.getD b 0), x = lies.getD b 0 := fun x hx => by
  rw [Z1n Zn] at hx;obtain ⟨s, hs, rfl⟩ := List.mem_map.1 hx;obtain ⟨y, hy, rfl⟩ := List.mem_map.1 hs;show y.1.getD b 0 = _;rw [(hi y hy).1]
 have hm := Zsk hp b;exact Zli hm hm fun x hx => by rw [e x hx]; exact ⟨Int.le_refl _, Int.le_refl _⟩
theorem DetS.note (h : DetS j j.moves.length lies has) (n b : Nat) : Z4d j (Z2v n b) = (has n b, has n b) := by
 obtain ⟨p, hp, hh⟩ := h.one;have hi := h.is;rw [Zfx (Nat.le_refl _)] at hp hi;have e : ∀ x ∈ (Zd j (Z2v n b) 0).map (·.2), x = has n b := fun x hx => by
  rw [Z1n (Z2v n b)] at hx;obtain ⟨s, hs, rfl⟩ := List.mem_map.1 hx;obtain ⟨y, hy, rfl⟩ := List.mem_map.1 hs;show Zt (Z2v n b) 0 y.2 = _;rw [Zbq, Int.zero_add];exact (hi y hy).2 n b
 have hm := Zv3 hp n b;have hm2 : has n b ∈ (Zd j (Z2v n b) 0).map (·.2) := by rw [<- hh n b]; exact hm
 exact Zli hm2 hm2 fun x hx => by rw [e x hx]; exact ⟨Int.le_refl _, Int.le_refl _⟩
end
end Go.Batch

namespace Go.Batch
section
variable {j : Jn} {k : Nat} {lies : List Int} {has : Nat -> Nat -> Int}
theorem DetS.stands (h : DetS j j.moves.length lies has) : Zc j = true := by
 obtain ⟨p, hp, -⟩ := h.one;rw [Zfx (Nat.le_refl _)] at hp;exact Zh8 hp
theorem DetS.holdsJ (h : DetS j j.moves.length lies has) : holdsJ j = (List.range j.ins.toNat).map fun n : Nat => (List.range (Z6 j.moves).length).map fun b => Z2i (has n b, has n b) := by
 unfold Batch.holdsJ;refine List.map_congr_left fun n _ => List.map_congr_left fun b _ => ?_;rw [h.note n b]
theorem DetS.call (h : DetS j j.moves.length lies has) (hj : JOk j) {b : Nat} (hb : b < 4) (n : Nat) : Zkr j [b] n = true ↔ 0 < has n b := by
 rw [Zde hj h.stands (fun x hx => by rw [List.mem_singleton.1 hx]; exact hb)];have := Z1by hj h.stands n b;rw [h.note n b] at this;rw [this];simp only [List.mem_singleton]
theorem DetS.recallJ (h : DetS j j.moves.length lies has) (hj : JOk j) {b : Nat} (hb : b < 4) : recallJ j [b] = ((List.range j.ins.toNat).filter fun n => decide (0 < has n b)).map fun n : Nat => (n : Int) := by
 rw [Z1az]
 congr 1
 refine List.filter_congr fun n _ => ?_;have := h.call hj hb n
 cases hc : Zkr j [b] n
 ·rw [hc] at this;exact (decide_eq_false fun g => by have := this.2 g; cases this).symm
 ·exact (decide_eq_true (this.1 hc)).symm
end
end Go.Batch
