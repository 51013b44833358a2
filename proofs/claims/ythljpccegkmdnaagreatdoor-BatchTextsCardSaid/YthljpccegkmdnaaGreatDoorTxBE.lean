/- Part TxBE of the proofs about the benches of the accordion maker: see the last text of the claim for what is proved. -/
import Derived.Test.YthljpccegkmdnaaGreatDoorTxBD
import Derived.Test.YthljpccegkmdnaaGreatDoorTxBA
set_option linter.unusedVariables false
set_option linter.unusedSimpArgs false
set_option linter.unnecessarySimpa false
set_option linter.constructorNameAsVariable false

namespace Go.Batch
structure RenJ (π : Int -> Int) (x y : Jn) : Prop where
 ins : y.ins = x.ins
 first : y.first = x.first
 bins : Z6 y.moves = Z6 x.moves
 ok : JOk y
 ends : ∀ (tk tk' : Tk Int) (z : Int), Zv2 tk' -> (∀ v i b n, 0 <= i -> i < x.ins -> tk v i b n = tk' v (π i) b n) -> ∀ s, s ∈ Zd y tk' z ↔ s ∈ Zd x tk z
section
variable {π : Int -> Int} {x y : Jn}
theorem RenJ.amt (h : RenJ π x y) (hp : RenOk x.ins π) {i : Int} (h0 : 0 <= i) (h1 : i < x.ins) (b : Nat) : Z4d y (Z2v (π i) b) = Z4d x (Z2v i b) := by
 unfold Z4d;refine Z6l fun v => ?_;have e := h.ends (Z2v i b) (Z2v (π i) b) 0 (Zsh _ _) (fun v i' b' n g0 g1 => by
  unfold Z2v
  by_cases e : i' = i
  ·subst e; simp
  ·have : π i' ≠ π i := fun g => e (hp.inj i' i g0 g1 h0 h1 g)
   rw [if_neg (fun g => e g.1), if_neg (fun g => this g.1)])
 simp only [List.mem_map, e]
theorem RenJ.mix (h : RenJ π x y) (hp : RenOk x.ins π) {i : Int} (h0 : 0 <= i) (h1 : i < x.ins) : Zs ((Zd y (Z29 (π i)) 0).map fun s => Z43 s.2) = Zs ((Zd x (Z29 i) 0).map fun s => Z43 s.2) := by
 refine Z6l fun v => ?_;have e := h.ends (Z29 i) (Z29 (π i)) 0 (Zsi _) (fun v i' b' n g0 g1 => by
  unfold Z29
  by_cases e : i' = i
  ·subst e; simp
  ·have : π i' ≠ π i := fun g => e (hp.inj i' i g0 g1 h0 h1 g)
   rw [if_neg e, if_neg this])
 simp only [List.mem_map, e]
theorem RenJ.none (h : RenJ π x y) (s : Ste Int) : s ∈ Zd y Zn 0 ↔ s ∈ Zd x Zn 0 := h.ends Zn Zn 0 Zq5 (fun _ _ _ _ _ _ => rfl) s
theorem RenJ.rest (h : RenJ π x y) : Z4c y = Z4c x := by
 unfold Z4c;rw [h.bins];refine List.map_congr_left fun i _ => Z6l fun v => ?_;simp only [List.mem_map, h.none]
theorem RenJ.stands (h : RenJ π x y) (hs : Zc x = true) : Zc y = true := by
 unfold Zc at hs ⊢
 cases he : Zd x Zn 0 with
 | nil => rw [he] at hs; cases hs
 | cons a l =>
  have := (h.none a).2 (by rw [he]; simp)
  cases hy : Zd y Zn 0 with
  | nil => rw [hy] at this; simp at this
  | cons b m => rfl
theorem RenJ.holds (h : RenJ π x y) (hp : RenOk x.ins π) {N : Nat} (hN : x.ins = N) {n p : Nat} (hn : n < N) (e : π (n : Int) = (p : Nat)) : ∃ r, (Z5w x)[n]? = some r /\ (Z5w y)[p]? = some r /\ r.length = (Z6 x.moves).length := by
 have hpN : p < N := by have := hp.rng n (by omega) (by omega); omega
 refine ⟨(List.range (Z6 x.moves).length).map fun b => Z2i (Z4d x (Z2v (n : Int) b)), ?_, ?_, by simp⟩
 ·unfold Z5w;rw [hN, Int.toNat_natCast, List.getElem?_map, List.getElem?_range hn]; rfl
 ·unfold Z5w;rw [h.ins, h.bins, hN, Int.toNat_natCast, List.getElem?_map, List.getElem?_range hpN];refine congrArg some (List.map_congr_left fun b _ => ?_);rw [<- e, h.amt hp (by omega) (by omega)]
theorem RenJ.mixed (h : RenJ π x y) (hp : RenOk x.ins π) {N : Nat} (hN : x.ins = N) {n p : Nat} (hn : n < N) (e : π (n : Int) = (p : Nat)) : ∃ v, (Z6b x)[n]? = some v /\ (Z6b y)[p]? = some v := by
 have hpN : p < N := by have := hp.rng n (by omega) (by omega); omega
 refine ⟨Z2i (Zs ((Zd x (Z29 (n : Int)) 0).map fun s => Z43 s.2)), ?_, ?_⟩
 ·unfold Z6b;rw [hN, Int.toNat_natCast, List.getElem?_map, List.getElem?_range hn]; rfl
 ·unfold Z6b;rw [h.ins, hN, Int.toNat_natCast, List.getElem?_map, List.getElem?_range hpN];refine congrArg some ?_;show Z2i _ = Z2i _;rw [<- e, h.mix hp (by omega) (by omega)]
end
end Go.Batch

namespace Go.Batch
def Z8q (b : Nat) : List (Int × Nat × Int) -> Int
 | [] => 0
 | p :: l => (if p.2.1 = b then p.2.2 else 0) + Z8q b l
structure Kept (ins : Int) (D : List Mv) (s : Ste (List (Int × Nat × Int))) : Prop where
 len : s.1.length = 4
 in_ : ∀ k m, D[k]? = some m -> m.lo <= s.1.getD k 0 + Z8q k s.2 /\ s.1.getD k 0 + Z8q k s.2 <= m.hi
 z : ∀ k, D.length <= k -> s.1.getD k 0 = 0 /\ Z8q k s.2 = 0
 by_ : ∀ p ∈ s.2, 0 <= p.1 /\ p.1 < ins
theorem Zv3 {j : Jn} {x : Ste (List (Int × Nat × Int))} (h : x ∈ Zd j Z1f []) (n : Int) (b : Nat) : Z59 n b x.2 ∈ (Zd j (Z2v n b) 0).map (·.2) := by
 rw [Z1n];simp only [List.map_map, List.mem_map, Function.comp_def];exact ⟨x, h, by rw [Zbq]; omega⟩
theorem Zsk {j : Jn} {x : Ste (List (Int × Nat × Int))} (h : x ∈ Zd j Z1f []) (b : Nat) : x.1.getD b 0 ∈ (Zd j Zn 0).map fun s => s.1.getD b 0 := by
 rw [Z1n];simp only [List.map_map, List.mem_map, Function.comp_def];exact ⟨x, h, rfl⟩
theorem Zxn {x : Int × Int} (h : x.1 <= x.2) : Z2i x = 2 ↔ x.2 = 0 := by
 unfold Z2i
 split
 ·simp; omega
 ·split <;> simp_all
end Go.Batch

namespace Go.Batch
theorem Zdd {fifo : Bool} {bin inst : Int} : ∀ (bs : List Int) (i : Nat) (s : Ste (List (Int × Nat × Int))) (a : Int), 0 <= a -> (∀ k, 0 <= s.1.getD k 0) -> ∀ x ∈ Zl fifo Z1f bin inst bs i s a,
  ∀ p ∈ x.2, p ∈ s.2 ∨ p.1 = inst /\ p.2.1 < i + bs.length /\ 1 <= p.2.2
 | [], i, s, a, _, _, x, hx => by
  unfold Zl at hx
  split at hx
  ·simp at hx; subst hx; exact fun p hp => .inl hp
  ·simp at hx
 | c :: bs, i, s, a, ha, hs, x, hx => by
  unfold Zl at hx;rw [List.length_cons]
  split at hx
  ·simp at hx; subst hx; exact fun p hp => .inl hp
  split at hx
  ·rename_i hc
   obtain ⟨n, hn, hx⟩ := List.mem_flatMap.1 hx;rw [Z7z] at hn;have h1 := hs i;have hn0 : 0 <= n := by revert hn; split <;> omega
   have hi : i < s.1.length := by
    rcases Nat.lt_or_ge i s.1.length with h | h
    ·exact h
    ·exact absurd (by simp [List.getD, List.getElem?_eq_none h]) hc.2
   have ih := Zdd bs (i + 1) (Z3n Z1f inst s i n) (a - n) (by omega) (fun k => by
    unfold Z3n
    split
    ·exact hs k
    ·show 0 <= (s.1.set i _).getD k 0
     rw [Z1r _ _ _ _ hi]
     split
     ·omega
     ·exact hs k) x hx
   intro p hp;rcases ih p hp with h | ⟨h1, h2, h3⟩
   ·unfold Z3n at h
    split at h
    ·exact .inl h
    ·have e : (Z1f s.2 inst i n) = s.2 ++ [(inst, i, n)] := rfl;simp only [e, List.mem_append] at h;rcases h with h | h
     ·exact .inl h
     ·simp at h; subst h; exact .inr ⟨rfl, by simp only; omega, by simp only; omega⟩
   ·exact .inr ⟨h1, by omega, h3⟩
  ·intro p hp;rcases Zdd bs (i + 1) s a ha hs x hx p hp with h | ⟨h1, h2, h3⟩
   ·exact .inl h
   ·exact .inr ⟨h1, by omega, h3⟩
structure Pth (ins : Int) (NB : Nat) (s : Ste (List (Int × Nat × Int))) : Prop where
 l : LOk s.1
 all : ∀ p ∈ s.2, 0 <= p.1 /\ p.1 < ins /\ p.2.1 < NB /\ 1 <= p.2.2
theorem Zfr {j : Jn} (h4 : j.ins <= 4) {bins : List Int} (hb : bins.length <= 4) : ∀ (ms : List Mv) (b : Nat) (now : List (Ste (List (Int × Nat × Int)))), (∀ m ∈ ms, MOk j m) -> b + (Z6 ms).length <= 4 -> (∀ s ∈ now, Pth j.ins bins.length s) ->
  ∀ x ∈ Z2u j Z1f bins ms b now, Pth j.ins bins.length x
 | [], b, now, _, _, hn => hn
 | m :: ms, b, now, hm, hl, hn => fun x hx => by
  rw [Z2b] at hl;simp only [Z2u] at hx;have hmm := hm m (by simp);have hlo := hmm.l0;refine Zfr h4 hb ms _ _ (fun y hy => hm y (by simp [hy])) ?_ (fun y hy => ?_) x hx
  ·by_cases hk : m.kind = 1
   ·rw [if_pos hk] at hl ⊢; rw [List.length_cons] at hl; omega
   ·rw [if_neg hk] at hl ⊢; exact hl
  ·obtain ⟨s, hs, hy⟩ := List.mem_flatMap.1 hy;have hps := hn s hs;refine ⟨Zkj hb hmm (fun hk => ?_) hps.l y hy, ?_⟩
   ·rw [if_pos hk, List.length_cons] at hl; omega
   unfold Z22 at hy
   split at hy
   ·obtain ⟨n, -, rfl⟩ := List.mem_map.1 hy;exact hps.all
   split at hy
   ·rename_i hk2
    obtain ⟨i, hi, hy⟩ := List.mem_flatMap.1 hy;obtain ⟨n, hn', hy⟩ := List.mem_flatMap.1 hy;rw [Z2d] at hn';have hii := Zda h4 hmm hk2 hi;intro p hp;rcases Zdd bins 0 s n (by omega) hps.l.lo y hy p hp with h | ⟨h1, h2, h3⟩
    ·exact hps.all p h
    ·rw [h1]; exact ⟨hii.1, hii.2, by omega, h3⟩
   ·split at hy
    ·simp at hy; subst hy; exact hps.all
    ·simp at hy
theorem Z6m {j : Jn} (hj : JOk j) : ∀ x ∈ Zd j Z1f [], Pth j.ins (Z6 j.moves).length x := fun x hx =>
 Zfr hj.i4 hj.b4 j.moves 0 _ hj.mv (by rw [Nat.zero_add]; exact hj.b4) (fun s hs => by simp at hs; subst hs; exact ⟨Zq3, fun p hp => by simp at hp⟩) x hx
theorem Zcn : ∀ (x : Fin 16) (n b : Fin 4), Z2s (Z2h (x.val : Int) n.val) b.val = (Z2s (x.val : Int) b.val || decide (n.val = b.val)) /\ 0 <= Z2h (x.val : Int) n.val /\ Z2h (x.val : Int) n.val <= 15 := by decide +kernel
theorem Zkq : ∀ (l : List Nat) (g : Int), 0 <= g /\ g <= 15 -> (∀ x ∈ l, x < 4) -> ∀ b, b < 4 -> Z2s (l.foldl Z2h g) b = (Z2s g b || decide (b ∈ l))
 | [], g, _, _, b, _ => by simp
 | n :: l, g, hg, hl, b, hb => by
  have h := Zcn ⟨g.toNat, by omega⟩ ⟨n, hl n (by simp)⟩ ⟨b, hb⟩;have e : ((g.toNat : Nat) : Int) = g := by omega
  simp only [e] at h;rw [List.foldl_cons, Zkq l _ h.2 (fun x hx => hl x (by simp [hx])) b hb, h.1, Bool.or_assoc]
  congr 1
  by_cases hn : n = b
  ·subst hn; simp
  ·simp [hn, Ne.symm hn]
theorem Z56 {l : List Nat} (hl : ∀ x ∈ l, x < 4) {b : Nat} (hb : b < 4) : Z2s (Z1p l) b = decide (b ∈ l) := by
 unfold Z1p;rw [Zkq l 0 (by decide) hl b hb];have : Z2s 0 b = false := by unfold Z2s; simp
 rw [this, Bool.false_or]
theorem Z72 (g i : Int) : ∀ (l : List (Int × Nat × Int)) (z : Int), Zt (Z3a g i) z l = if ∃ p ∈ l, p.1 = i /\ Z2s g p.2.1 = true then 1 else z
 | [], z => by simp [Zt]
 | p :: l, z => by
  have := Z72 g i l (Z3a g i z p.1 p.2.1 p.2.2);simp only [Zt, List.foldl_cons] at this ⊢;rw [this]
  by_cases h1 : ∃ q ∈ l, q.1 = i /\ Z2s g q.2.1 = true
  ·rw [if_pos h1, if_pos];obtain ⟨q, hq, h⟩ := h1;exact ⟨q, by simp [hq], h⟩
  ·rw [if_neg h1];unfold Z3a
   by_cases h2 : p.1 = i /\ Z2s g p.2.1 = true
   ·rw [if_pos h2, if_pos ⟨p, by simp, h2⟩]
   ·rw [if_neg h2, if_neg];rintro ⟨q, hq, h⟩;rcases List.mem_cons.1 hq with e | hq
    ·subst e; exact h2 h
    ·exact h1 ⟨q, hq, h⟩
theorem Zco (n : Int) (b : Nat) : ∀ (l : List (Int × Nat × Int)), (∀ p ∈ l, 1 <= p.2.2) -> 0 <= Z59 n b l /\ (0 < Z59 n b l ↔ ∃ p ∈ l, p.1 = n /\ p.2.1 = b)
 | [], _ => by simp [Z59]
 | p :: l, h => by
  obtain ⟨h1, h2⟩ := Zco n b l fun q hq => h q (by simp [hq]);have hp := h p (by simp);simp only [Z59]
  by_cases hc : p.1 = n /\ p.2.1 = b
  ·rw [if_pos hc];exact ⟨by omega, fun _ => ⟨p, by simp, hc⟩, fun _ => by omega⟩
  ·rw [if_neg hc];refine ⟨by omega, fun hx => ?_, fun hx => ?_⟩
   ·obtain ⟨q, hq, h⟩ := h2.1 (by omega);exact ⟨q, by simp [hq], h⟩
   ·obtain ⟨q, hq, hqq⟩ := hx;rcases List.mem_cons.1 hq with e | hq
    ·subst e; exact absurd hqq hc
    ·have := h2.2 ⟨q, hq, hqq⟩; omega
theorem Zoo {j : Jn} (hs : Zc j = true) : Zd j Z1f [] ≠ [] := fun e => by
 have := Z55 hs Zn;rw [Z1n, e] at this;exact this rfl
theorem Zmz {l : List Int} (h : l ≠ []) : Z6a l <= Z80 l := by
 cases l with
 | nil => exact absurd rfl h
 | cons x l => exact Int.le_trans (Z4b (y := x) (by simp)) (Z4k (y := x) (by simp))
theorem Zsl {j : Jn} (hs : Zc j = true) (tk : Tk Int) : (Z4d j tk).1 <= (Z4d j tk).2 := Zmz fun h => Z55 hs tk (List.map_eq_nil_iff.1 h)
theorem Zv4 {j : Jn} (hs : Zc j = true) (i g : Int) : Z2i (Z4d j (Z3a g i)) ≠ 2 ↔ ∃ x ∈ Zd j Z1f [], ∃ p ∈ x.2, p.1 = i /\ Z2s g p.2.1 = true := by
 have hne : (Zd j (Z3a g i) 0).map (·.2) ≠ [] := fun h => Z55 hs (Z3a g i) (List.map_eq_nil_iff.1 h);rw [Ne, Zxn (Zsl hs _)];constructor
 ·intro h;have h2 := Z6v hne;obtain ⟨s, hs1, e⟩ := List.mem_map.1 h2;rw [Z1n] at hs1;obtain ⟨x, hx, rfl⟩ := List.mem_map.1 hs1;rw [Z72] at e;refine ⟨x, hx, Classical.byContradiction fun hc => ?_⟩;rw [if_neg hc] at e;exact h e.symm
 ·rintro ⟨x, hx, h⟩ e;have hm : (1 : Int) ∈ (Zd j (Z3a g i) 0).map (·.2) := by
   rw [Z1n];simp only [List.map_map, List.mem_map, Function.comp_def];exact ⟨x, hx, by rw [Z72, if_pos h]⟩
  have h2 := Z4k hm;have e' : Z80 ((Zd j (Z3a g i) 0).map (·.2)) = 0 := e;omega
def Zkr (j : Jn) (l : List Nat) (i : Nat) : Bool := decide (Z2i (Z4d j (Z3a (Z1p l) i)) ≠ 2)
theorem Zde {j : Jn} (hj : JOk j) (hs : Zc j = true) {l : List Nat} (hl : ∀ x ∈ l, x < 4) (i : Nat) : Zkr j l i = true ↔ ∃ x ∈ Zd j Z1f [], ∃ p ∈ x.2, p.1 = i /\ p.2.1 ∈ l := by
 unfold Zkr;rw [decide_eq_true_eq, Zv4 hs];refine exists_congr fun x => and_congr_right fun hx => exists_congr fun p => and_congr_right fun hp => and_congr_right fun _ => ?_;have := ((Z6m hj x hx).all p hp).2.2.1;have h4 := hj.b4;rw [Z56 hl (by omega), decide_eq_true_eq]
end Go.Batch

namespace Go.Proofs.YthljpccegkmdnaaGreatDoor
open Go Go.Abs Go.Proofs Go.Batch
structure HoldT (j : Jn) (N NB : Nat) (L : List D) : Prop where
 len : L.length = N
 row : ∀ n, n < N -> ∃ R : List D, L[n]? = some (.sl 1 R) /\ R.length = NB /\ ∀ q, q < NB -> R[q]? = some (I (Z2i (Z4d j (Z2v (n : Int) q))))
structure RestT (j : Jn) (NB : Nat) (L : List D) : Prop where
 len : L.length = NB
 row : ∀ b, b < NB -> ∃ r : Int × Int, (Z4c j)[b]? = some r /\ L[b]? = some (.agg [I r.1, I r.2])
end Go.Proofs.YthljpccegkmdnaaGreatDoor

namespace Go.Proofs.YthljpccegkmdnaaGreatDoor
open Go Go.Abs Go.Proofs Go.Batch
end Go.Proofs.YthljpccegkmdnaaGreatDoor
