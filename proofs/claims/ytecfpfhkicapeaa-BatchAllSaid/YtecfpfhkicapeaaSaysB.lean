/- Part SaysB of the proofs about the benches of the accordion maker: see the last text of the claim for what is proved. -/
import Derived.Test.YtecfpfhkicapeaaSaysA
set_option linter.unusedVariables false
set_option linter.unusedSimpArgs false
set_option linter.unnecessarySimpa false
set_option linter.constructorNameAsVariable false

namespace Go.Batch
structure RenJ (π : Int -> Int) (x y : Jn) : Prop where
 ins : y.ins = x.ins
 first : y.first = x.first
 bins : Z6 y.moves = Z6 x.moves
 ok : JOk y
 ends : ∀ (tk tk' : Tk Int) (z : Int), Zv2 tk' -> (∀ v i b n, 0 <= i -> i < x.ins -> tk v i b n = tk' v (π i) b n) -> ∀ s, s ∈ Zd y tk' z ↔ s ∈ Zd x tk z
section
variable {π : Int -> Int} {x y : Jn}
theorem RenJ.amt (h : RenJ π x y) (hp : RenOk x.ins π) {i : Int} (h0 : 0 <= i) (h1 : i < x.ins) (b : Nat) : Z4d y (Z2v (π i) b) = Z4d x (Z2v i b) := by
 unfold Z4d;refine Z6l fun v => ?_;have e := h.ends (Z2v i b) (Z2v (π i) b) 0 (Zsh _ _) (fun v i' b' n g0 g1 => by
  unfold Z2v
  by_cases e : i' = i
  ·subst e; simp
  ·have : π i' ≠ π i := fun g => e (hp.inj i' i g0 g1 h0 h1 g)
   rw [if_neg (fun g => e g.1), if_neg (fun g => this g.1)])
 simp only [List.mem_map, e]
theorem RenJ.mix (h : RenJ π x y) (hp : RenOk x.ins π) {i : Int} (h0 : 0 <= i) (h1 : i < x.ins) : Zs ((Zd y (Z29 (π i)) 0).map fun s => Z43 s.2) = Zs ((Zd x (Z29 i) 0).map fun s => Z43 s.2) := by
 refine Z6l fun v => ?_;have e := h.ends (Z29 i) (Z29 (π i)) 0 (Zsi _) (fun v i' b' n g0 g1 => by
  unfold Z29
  by_cases e : i' = i
  ·subst e; simp
  ·have : π i' ≠ π i := fun g => e (hp.inj i' i g0 g1 h0 h1 g)
   rw [if_neg e, if_neg this])
 simp only [List.mem_map, e]
theorem RenJ.none (h : RenJ π x y) (s : Ste Int) : s ∈ Zd y Zn 0 ↔ s ∈ Zd x Zn 0 := h.ends Zn Zn 0 Zq5 (fun _ _ _ _ _ _ => rfl) s
theorem RenJ.rest (h : RenJ π x y) : Z4c y = Z4c x := by
 unfold Z4c;rw [h.bins];refine List.map_congr_left fun i _ => Z6l fun v => ?_;simp only [List.mem_map, h.none]
theorem RenJ.stands (h : RenJ π x y) (hs : Zc x = true) : Zc y = true := by
 unfold Zc at hs ⊢
 cases he : Zd x Zn 0 with
 | nil => rw [he] at hs; cases hs
 | cons a l =>
  have := (h.none a).2 (by rw [he]; simp)
  cases hy : Zd y Zn 0 with
  | nil => rw [hy] at this; simp at this
  | cons b m => rfl
theorem RenJ.holds (h : RenJ π x y) (hp : RenOk x.ins π) {N : Nat} (hN : x.ins = N) {n p : Nat} (hn : n < N) (e : π (n : Int) = (p : Nat)) : ∃ r, (Z5w x)[n]? = some r /\ (Z5w y)[p]? = some r /\ r.length = (Z6 x.moves).length := by
 have hpN : p < N := by have := hp.rng n (by omega) (by omega); omega
 refine ⟨(List.range (Z6 x.moves).length).map fun b => Z2i (Z4d x (Z2v (n : Int) b)), ?_, ?_, by simp⟩
 ·unfold Z5w;rw [hN, Int.toNat_natCast, List.getElem?_map, List.getElem?_range hn]; rfl
 ·unfold Z5w;rw [h.ins, h.bins, hN, Int.toNat_natCast, List.getElem?_map, List.getElem?_range hpN];refine congrArg some (List.map_congr_left fun b _ => ?_);rw [<- e, h.amt hp (by omega) (by omega)]
theorem RenJ.mixed (h : RenJ π x y) (hp : RenOk x.ins π) {N : Nat} (hN : x.ins = N) {n p : Nat} (hn : n < N) (e : π (n : Int) = (p : Nat)) : ∃ v, (Z6b x)[n]? = some v /\ (Z6b y)[p]? = some v := by
 have hpN : p < N := by have := hp.rng n (by omega) (by omega); omega
 refine ⟨Z2i (Zs ((Zd x (Z29 (n : Int)) 0).map fun s => Z43 s.2)), ?_, ?_⟩
 ·unfold Z6b;rw [hN, Int.toNat_natCast, List.getElem?_map, List.getElem?_range hn]; rfl
 ·unfold Z6b;rw [h.ins, hN, Int.toNat_natCast, List.getElem?_map, List.getElem?_range hpN];refine congrArg some ?_;show Z2i _ = Z2i _;rw [<- e, h.mix hp (by omega) (by omega)]
end
end Go.Batch

namespace Go.Batch
def Z8q (b : Nat) : List (Int × Nat × Int) -> Int
 | [] => 0
 | p :: l => (if p.2.1 = b then p.2.2 else 0) + Z8q b l
theorem Zkp (b : Nat) : ∀ l l' : List (Int × Nat × Int), Z8q b (l ++ l') = Z8q b l + Z8q b l'
 | [], l' => by simp [Z8q]
 | p :: l, l' => by simp only [List.cons_append, Z8q, Zkp b l l']; omega
theorem Zbs {fifo : Bool} {bin inst : Int} : ∀ (bs : List Int) (i : Nat) (s : Ste (List (Int × Nat × Int))) (a : Int), ∀ x ∈ Zl fifo Z1f bin inst bs i s a,
  (∀ k, x.1.getD k 0 + Z8q k x.2 = s.1.getD k 0 + Z8q k s.2) /\ (∀ p ∈ x.2, p ∈ s.2 ∨ p.1 = inst) /\ (∀ k, s.1.getD k 0 = 0 -> x.1.getD k 0 = 0) /\ x.1.length = s.1.length
 | [], i, s, a => fun x hx => by
  unfold Zl at hx
  split at hx
  ·simp at hx; subst hx; exact ⟨fun _ => rfl, fun p hp => .inl hp, fun _ h => h, rfl⟩
  ·simp at hx
 | c :: bs, i, s, a => fun x hx => by
  unfold Zl at hx
  split at hx
  ·simp at hx; subst hx; exact ⟨fun _ => rfl, fun p hp => .inl hp, fun _ h => h, rfl⟩
  split at hx
  ·rename_i hc
   obtain ⟨n, -, hx⟩ := List.mem_flatMap.1 hx;obtain ⟨h1, h2, h3, h4⟩ := Zbs bs (i + 1) _ _ x hx;have hi : i < s.1.length := by
    rcases Nat.lt_or_ge i s.1.length with h | h
    ·exact h
    ·exact absurd (by simp [List.getD, List.getElem?_eq_none h]) hc.2
   unfold Z3n at h1 h2 h3 h4
   split at h1
   ·rename_i hn
    rw [if_pos hn] at h2 h3 h4;exact ⟨h1, h2, h3, h4⟩
   ·rename_i hn
    rw [if_neg hn] at h2 h3 h4;simp only at h1 h2 h3 h4;refine ⟨fun k => ?_, fun p hp => ?_, fun k hk => ?_, by rw [h4, List.length_set]⟩
    ·have e : (Z1f s.2 inst i n) = s.2 ++ [(inst, i, n)] := rfl;rw [h1 k, e, Zkp, Z1r _ _ _ _ hi];simp only [Z8q]
     by_cases hk : i = k
     ·subst hk; rw [if_pos rfl, if_pos rfl]; omega
     ·rw [if_neg hk, if_neg hk]; omega
    ·rcases h2 p hp with h | h
     ·have e : (Z1f s.2 inst i n) = s.2 ++ [(inst, i, n)] := rfl;rw [e, List.mem_append] at h;rcases h with h | h
      ·exact .inl h
      ·simp at h; subst h; exact .inr rfl
     ·exact .inr h
    ·refine h3 k ?_;rw [Z1r _ _ _ _ hi, if_neg (fun e => ?_)]
     ·exact hk
     ·subst e; exact hc.2 hk
  ·exact Zbs bs (i + 1) s a x hx
def Z92 (ms : List Mv) : List Mv := ms.filter fun m => decide (m.kind = 1)
theorem Zq7 (m : Mv) (ms : List Mv) : Z92 (m :: ms) = if m.kind = 1 then m :: Z92 ms else Z92 ms := by
 unfold Z92; rw [List.filter_cons]; simp only [decide_eq_true_eq]
theorem Zcm (ms : List Mv) : (Z92 ms).length = (Z6 ms).length := by simp [Z92, Z6]
structure Kept (ins : Int) (D : List Mv) (s : Ste (List (Int × Nat × Int))) : Prop where
 len : s.1.length = 4
 in_ : ∀ k m, D[k]? = some m -> m.lo <= s.1.getD k 0 + Z8q k s.2 /\ s.1.getD k 0 + Z8q k s.2 <= m.hi
 z : ∀ k, D.length <= k -> s.1.getD k 0 = 0 /\ Z8q k s.2 = 0
 by_ : ∀ p ∈ s.2, 0 <= p.1 /\ p.1 < ins
theorem Zq8 {j : Jn} (h4 : j.ins <= 4) {bins : List Int} {m : Mv} (hm : MOk j m) {D : List Mv} (hb : m.kind = 1 -> D.length < 4) {s : Ste (List (Int × Nat × Int))} (h : Kept j.ins D s) : ∀ x ∈ Z22 j Z1f bins m D.length s, Kept j.ins (if m.kind = 1 then D ++ [m] else D) x := fun x hx => by
 unfold Z22 at hx
 split at hx
 ·rename_i hk
  rw [if_pos hk];obtain ⟨n, hn, rfl⟩ := List.mem_map.1 hx;rw [Z2d] at hn;have hD := hb hk;have e : ∀ k, (s.1.set D.length n).getD k 0 = if D.length = k then n else s.1.getD k 0 := fun k => Z1r _ _ _ _ (by rw [h.len]; exact hD)
  refine ⟨by simp only [List.length_set, h.len], fun k y hy => ?_, fun k hk' => ?_, h.by_⟩
  ·simp only [e]
   by_cases hkD : D.length = k
   ·subst hkD;rw [List.getElem?_append_right (Nat.le_refl _), Nat.sub_self] at hy;simp at hy; subst hy;rw [if_pos rfl, (h.z _ (Nat.le_refl _)).2]; omega
   ·rw [if_neg hkD];have : k < D.length := by
     have := (List.getElem?_eq_some_iff.1 hy).1;simp at this; omega
    rw [List.getElem?_append_left this] at hy;exact h.in_ k y hy
  ·simp only [e];rw [List.length_append] at hk';simp at hk';rw [if_neg (by omega)];exact h.z k (by omega)
 split at hx
 ·rename_i hk1 hk2
  rw [if_neg hk1];obtain ⟨i, hi, hx⟩ := List.mem_flatMap.1 hx;obtain ⟨n, hn, hx⟩ := List.mem_flatMap.1 hx;obtain ⟨g1, g2, g3, g4⟩ := Zbs _ _ _ _ x hx;have hii := Zda h4 hm hk2 hi;refine ⟨by rw [g4, h.len], fun k y hy => by rw [g1]; exact h.in_ k y hy, fun k hk => ?_, fun p hp => ?_⟩
  ·have := h.z k hk;have e := g3 k this.1;have := g1 k;refine ⟨e, by omega⟩
  ·rcases g2 p hp with g | g
   ·exact h.by_ p g
   ·rw [g]; exact hii
 ·rename_i hk1 hk2
  rw [if_neg hk1]
  split at hx
  ·simp at hx; subst hx; exact h
  ·simp at hx
theorem Zdc {j : Jn} (h4 : j.ins <= 4) {bins : List Int} : ∀ (ms D : List Mv) (now : List (Ste (List (Int × Nat × Int)))), (∀ m ∈ ms, MOk j m) -> D.length + (Z92 ms).length <= 4 -> (∀ s ∈ now, Kept j.ins D s) ->
  ∀ x ∈ Z2u j Z1f bins ms D.length now, Kept j.ins (D ++ Z92 ms) x
 | [], D, now, _, _, hn => fun x hx => by simp only [Z92, List.filter_nil, List.append_nil]; exact hn x hx
 | m :: ms, D, now, hm, hl, hn => fun x hx => by
  rw [Zq7] at hl ⊢;simp only [Z2u] at hx;have hs : ∀ y ∈ now.flatMap (Z22 j Z1f bins m D.length), Kept j.ins (if m.kind = 1 then D ++ [m] else D) y := fun y hy => by
   obtain ⟨s, hs, hy⟩ := List.mem_flatMap.1 hy;refine Zq8 h4 (hm m (by simp)) (fun hk => ?_) (hn s hs) y hy;rw [if_pos hk, List.length_cons] at hl; omega
  by_cases hk : m.kind = 1
  ·rw [if_pos hk] at hl hx hs ⊢;rw [List.length_cons] at hl;have := Zdc h4 ms (D ++ [m]) _ (fun y hy => hm y (by simp [hy])) (by rw [List.length_append, List.length_singleton]; omega) hs x (by rw [List.length_append, List.length_singleton]; exact hx)
   rwa [List.append_assoc] at this
  ·rw [if_neg hk] at hl hx hs ⊢;exact Zdc h4 ms D _ (fun y hy => hm y (by simp [hy])) hl hs x hx
def sumR (f : Nat -> Int) : Nat -> Int
 | 0 => 0
 | n + 1 => sumR f n + f n
theorem Zv3 {j : Jn} {x : Ste (List (Int × Nat × Int))} (h : x ∈ Zd j Z1f []) (n : Int) (b : Nat) : Z59 n b x.2 ∈ (Zd j (Z2v n b) 0).map (·.2) := by
 rw [Z1n];simp only [List.map_map, List.mem_map, Function.comp_def];exact ⟨x, h, by rw [Zbq]; omega⟩
theorem Zsk {j : Jn} {x : Ste (List (Int × Nat × Int))} (h : x ∈ Zd j Z1f []) (b : Nat) : x.1.getD b 0 ∈ (Zd j Zn 0).map fun s => s.1.getD b 0 := by
 rw [Z1n];simp only [List.map_map, List.mem_map, Function.comp_def];exact ⟨x, h, rfl⟩
theorem Zxn {x : Int × Int} (h : x.1 <= x.2) : Z2i x = 2 ↔ x.2 = 0 := by
 unfold Z2i
 split
 ·simp; omega
 ·split <;> simp_all
end Go.Batch

namespace Go.Batch
theorem Zdd {fifo : Bool} {bin inst : Int} : ∀ (bs : List Int) (i : Nat) (s : Ste (List (Int × Nat × Int))) (a : Int), 0 <= a -> (∀ k, 0 <= s.1.getD k 0) -> ∀ x ∈ Zl fifo Z1f bin inst bs i s a,
  ∀ p ∈ x.2, p ∈ s.2 ∨ p.1 = inst /\ p.2.1 < i + bs.length /\ 1 <= p.2.2
 | [], i, s, a, _, _, x, hx => by
  unfold Zl at hx
  split at hx
  ·simp at hx; subst hx; exact fun p hp => .inl hp
  ·simp at hx
 | c :: bs, i, s, a, ha, hs, x, hx => by
  unfold Zl at hx;rw [List.length_cons]
  split at hx
  ·simp at hx; subst hx; exact fun p hp => .inl hp
  split at hx
  ·rename_i hc
   obtain ⟨n, hn, hx⟩ := List.mem_flatMap.1 hx;rw [Z7z] at hn;have h1 := hs i;have hn0 : 0 <= n := by revert hn; split <;> omega
   have hi : i < s.1.length := by
    rcases Nat.lt_or_ge i s.1.length with h | h
    ·exact h
    ·exact absurd (by simp [List.getD, List.getElem?_eq_none h]) hc.2
   have ih := Zdd bs (i + 1) (Z3n Z1f inst s i n) (a - n) (by omega) (fun k => by
    unfold Z3n
    split
    ·exact hs k
    ·show 0 <= (s.1.set i _).getD k 0
     rw [Z1r _ _ _ _ hi]
     split
     ·omega
     ·exact hs k) x hx
   intro p hp;rcases ih p hp with h | ⟨h1, h2, h3⟩
   ·unfold Z3n at h
    split at h
    ·exact .inl h
    ·have e : (Z1f s.2 inst i n) = s.2 ++ [(inst, i, n)] := rfl;simp only [e, List.mem_append] at h;rcases h with h | h
     ·exact .inl h
     ·simp at h; subst h; exact .inr ⟨rfl, by simp only; omega, by simp only; omega⟩
   ·exact .inr ⟨h1, by omega, h3⟩
  ·intro p hp;rcases Zdd bs (i + 1) s a ha hs x hx p hp with h | ⟨h1, h2, h3⟩
   ·exact .inl h
   ·exact .inr ⟨h1, by omega, h3⟩
structure Pth (ins : Int) (NB : Nat) (s : Ste (List (Int × Nat × Int))) : Prop where
 l : LOk s.1
 all : ∀ p ∈ s.2, 0 <= p.1 /\ p.1 < ins /\ p.2.1 < NB /\ 1 <= p.2.2
theorem Zfr {j : Jn} (h4 : j.ins <= 4) {bins : List Int} (hb : bins.length <= 4) : ∀ (ms : List Mv) (b : Nat) (now : List (Ste (List (Int × Nat × Int)))), (∀ m ∈ ms, MOk j m) -> b + (Z6 ms).length <= 4 -> (∀ s ∈ now, Pth j.ins bins.length s) ->
  ∀ x ∈ Z2u j Z1f bins ms b now, Pth j.ins bins.length x
 | [], b, now, _, _, hn => hn
 | m :: ms, b, now, hm, hl, hn => fun x hx => by
  rw [Z2b] at hl;simp only [Z2u] at hx;have hmm := hm m (by simp);have hlo := hmm.l0;refine Zfr h4 hb ms _ _ (fun y hy => hm y (by simp [hy])) ?_ (fun y hy => ?_) x hx
  ·by_cases hk : m.kind = 1
   ·rw [if_pos hk] at hl ⊢; rw [List.length_cons] at hl; omega
   ·rw [if_neg hk] at hl ⊢; exact hl
  ·obtain ⟨s, hs, hy⟩ := List.mem_flatMap.1 hy;have hps := hn s hs;refine ⟨Zkj hb hmm (fun hk => ?_) hps.l y hy, ?_⟩
   ·rw [if_pos hk, List.length_cons] at hl; omega
   unfold Z22 at hy
   split at hy
   ·obtain ⟨n, -, rfl⟩ := List.mem_map.1 hy;exact hps.all
   split at hy
   ·rename_i hk2
    obtain ⟨i, hi, hy⟩ := List.mem_flatMap.1 hy;obtain ⟨n, hn', hy⟩ := List.mem_flatMap.1 hy;rw [Z2d] at hn';have hii := Zda h4 hmm hk2 hi;intro p hp;rcases Zdd bins 0 s n (by omega) hps.l.lo y hy p hp with h | ⟨h1, h2, h3⟩
    ·exact hps.all p h
    ·rw [h1]; exact ⟨hii.1, hii.2, by omega, h3⟩
   ·split at hy
    ·simp at hy; subst hy; exact hps.all
    ·simp at hy
theorem Z6m {j : Jn} (hj : JOk j) : ∀ x ∈ Zd j Z1f [], Pth j.ins (Z6 j.moves).length x := fun x hx =>
 Zfr hj.i4 hj.b4 j.moves 0 _ hj.mv (by rw [Nat.zero_add]; exact hj.b4) (fun s hs => by simp at hs; subst hs; exact ⟨Zq3, fun p hp => by simp at hp⟩) x hx
theorem Zcn : ∀ (x : Fin 16) (n b : Fin 4), Z2s (Z2h (x.val : Int) n.val) b.val = (Z2s (x.val : Int) b.val || decide (n.val = b.val)) /\ 0 <= Z2h (x.val : Int) n.val /\ Z2h (x.val : Int) n.val <= 15 := by decide +kernel
theorem Zkq : ∀ (l : List Nat) (g : Int), 0 <= g /\ g <= 15 -> (∀ x ∈ l, x < 4) -> ∀ b, b < 4 -> Z2s (l.foldl Z2h g) b = (Z2s g b || decide (b ∈ l))
 | [], g, _, _, b, _ => by simp
 | n :: l, g, hg, hl, b, hb => by
  have h := Zcn ⟨g.toNat, by omega⟩ ⟨n, hl n (by simp)⟩ ⟨b, hb⟩;have e : ((g.toNat : Nat) : Int) = g := by omega
  simp only [e] at h;rw [List.foldl_cons, Zkq l _ h.2 (fun x hx => hl x (by simp [hx])) b hb, h.1, Bool.or_assoc]
  congr 1
  by_cases hn : n = b
  ·subst hn; simp
  ·simp [hn, Ne.symm hn]
theorem Z56 {l : List Nat} (hl : ∀ x ∈ l, x < 4) {b : Nat} (hb : b < 4) : Z2s (Z1p l) b = decide (b ∈ l) := by
 unfold Z1p;rw [Zkq l 0 (by decide) hl b hb];have : Z2s 0 b = false := by unfold Z2s; simp
 rw [this, Bool.false_or]
theorem Z72 (g i : Int) : ∀ (l : List (Int × Nat × Int)) (z : Int), Zt (Z3a g i) z l = if ∃ p ∈ l, p.1 = i /\ Z2s g p.2.1 = true then 1 else z
 | [], z => by simp [Zt]
 | p :: l, z => by
  have := Z72 g i l (Z3a g i z p.1 p.2.1 p.2.2);simp only [Zt, List.foldl_cons] at this ⊢;rw [this]
  by_cases h1 : ∃ q ∈ l, q.1 = i /\ Z2s g q.2.1 = true
  ·rw [if_pos h1, if_pos];obtain ⟨q, hq, h⟩ := h1;exact ⟨q, by simp [hq], h⟩
  ·rw [if_neg h1];unfold Z3a
   by_cases h2 : p.1 = i /\ Z2s g p.2.1 = true
   ·rw [if_pos h2, if_pos ⟨p, by simp, h2⟩]
   ·rw [if_neg h2, if_neg];rintro ⟨q, hq, h⟩;rcases List.mem_cons.1 hq with e | hq
    ·subst e; exact h2 h
    ·exact h1 ⟨q, hq, h⟩
theorem Zco (n : Int) (b : Nat) : ∀ (l : List (Int × Nat × Int)), (∀ p ∈ l, 1 <= p.2.2) -> 0 <= Z59 n b l /\ (0 < Z59 n b l ↔ ∃ p ∈ l, p.1 = n /\ p.2.1 = b)
 | [], _ => by simp [Z59]
 | p :: l, h => by
  obtain ⟨h1, h2⟩ := Zco n b l fun q hq => h q (by simp [hq]);have hp := h p (by simp);simp only [Z59]
  by_cases hc : p.1 = n /\ p.2.1 = b
  ·rw [if_pos hc];exact ⟨by omega, fun _ => ⟨p, by simp, hc⟩, fun _ => by omega⟩
  ·rw [if_neg hc];refine ⟨by omega, fun hx => ?_, fun hx => ?_⟩
   ·obtain ⟨q, hq, h⟩ := h2.1 (by omega);exact ⟨q, by simp [hq], h⟩
   ·obtain ⟨q, hq, hqq⟩ := hx;rcases List.mem_cons.1 hq with e | hq
    ·subst e; exact absurd hqq hc
    ·have := h2.2 ⟨q, hq, hqq⟩; omega
theorem Zoo {j : Jn} (hs : Zc j = true) : Zd j Z1f [] ≠ [] := fun e => by
 have := Z55 hs Zn;rw [Z1n, e] at this;exact this rfl
theorem Zmz {l : List Int} (h : l ≠ []) : Z6a l <= Z80 l := by
 cases l with
 | nil => exact absurd rfl h
 | cons x l => exact Int.le_trans (Z4b (y := x) (by simp)) (Z4k (y := x) (by simp))
theorem Zsl {j : Jn} (hs : Zc j = true) (tk : Tk Int) : (Z4d j tk).1 <= (Z4d j tk).2 := Zmz fun h => Z55 hs tk (List.map_eq_nil_iff.1 h)
theorem Z12a {j : Jn} (hj : JOk j) (hs : Zc j = true) {tk : Tk Int} (ht : TkB tk) : 0 <= (Z4d j tk).1 /\ (Z4d j tk).1 <= (Z4d j tk).2 /\ (Z4d j tk).2 <= 640 := by
 have hne : (Zd j tk 0).map (·.2) ≠ [] := fun h => Z55 hs tk (List.map_eq_nil_iff.1 h);have h1 := Z50 hne;have h2 := Z6v hne;obtain ⟨s, hs1, e1⟩ := List.mem_map.1 h1;obtain ⟨t, ht1, e2⟩ := List.mem_map.1 h2;have g1 := Zq4 ht hj s hs1;have g2 := Zq4 ht hj t ht1;have g3 := g1.n0;have g4 := g2.nk;have := hj.m10;refine ⟨?_, Zsl hs tk, ?_⟩
 ·show 0 <= Z6a _; omega
 ·show Z80 _ <= 640; omega
theorem Zv4 {j : Jn} (hs : Zc j = true) (i g : Int) : Z2i (Z4d j (Z3a g i)) ≠ 2 ↔ ∃ x ∈ Zd j Z1f [], ∃ p ∈ x.2, p.1 = i /\ Z2s g p.2.1 = true := by
 have hne : (Zd j (Z3a g i) 0).map (·.2) ≠ [] := fun h => Z55 hs (Z3a g i) (List.map_eq_nil_iff.1 h);rw [Ne, Zxn (Zsl hs _)];constructor
 ·intro h;have h2 := Z6v hne;obtain ⟨s, hs1, e⟩ := List.mem_map.1 h2;rw [Z1n] at hs1;obtain ⟨x, hx, rfl⟩ := List.mem_map.1 hs1;rw [Z72] at e;refine ⟨x, hx, Classical.byContradiction fun hc => ?_⟩;rw [if_neg hc] at e;exact h e.symm
 ·rintro ⟨x, hx, h⟩ e;have hm : (1 : Int) ∈ (Zd j (Z3a g i) 0).map (·.2) := by
   rw [Z1n];simp only [List.map_map, List.mem_map, Function.comp_def];exact ⟨x, hx, by rw [Z72, if_pos h]⟩
  have h2 := Z4k hm;have e' : Z80 ((Zd j (Z3a g i) 0).map (·.2)) = 0 := e;omega
def Zkr (j : Jn) (l : List Nat) (i : Nat) : Bool := decide (Z2i (Z4d j (Z3a (Z1p l) i)) ≠ 2)
theorem Zde {j : Jn} (hj : JOk j) (hs : Zc j = true) {l : List Nat} (hl : ∀ x ∈ l, x < 4) (i : Nat) : Zkr j l i = true ↔ ∃ x ∈ Zd j Z1f [], ∃ p ∈ x.2, p.1 = i /\ p.2.1 ∈ l := by
 unfold Zkr;rw [decide_eq_true_eq, Zv4 hs];refine exists_congr fun x => and_congr_right fun hx => exists_congr fun p => and_congr_right fun hp => and_congr_right fun _ => ?_;have := ((Z6m hj x hx).all p hp).2.2.1;have h4 := hj.b4;rw [Z56 hl (by omega), decide_eq_true_eq]
end Go.Batch

namespace Go.Batch
structure NarM (ins : Int) (m x : Mv) : Prop where
 kind : x.kind = m.kind
 bin : x.bin = m.bin
 lo : m.lo <= x.lo
 lh : x.lo <= x.hi
 hi : x.hi <= m.hi
 inst : x.inst = m.inst ∨ m.inst < 0 /\ -1 <= x.inst /\ x.inst < ins
theorem NarM.rfl {ins : Int} {m : Mv} (h : m.lo <= m.hi) : NarM ins m m := ⟨Eq.refl _, Eq.refl _, Int.le_refl _, h, Int.le_refl _, .inl (Eq.refl _)⟩
theorem NarM.ok {j j' : Jn} (hi : j'.ins = j.ins) (hf : j'.first = j.first) {m x : Mv} (h : NarM j.ins m x) (hm : MOk j m) : MOk j' x := by
 have e1 := h.kind; have e2 := h.bin; have e3 := h.lo; have e4 := h.lh; have e5 := h.hi;have g1 := hm.k1; have g2 := hm.k3; have g3 := hm.b0; have g4 := hm.b1; have g5 := hm.l0; have g6 := hm.h5;refine ⟨by omega, by omega, by omega, by rw [hf, e2]; exact g4, fun hk => ?_, fun hk => ?_, fun hk => ?_, by omega, e4, by omega⟩
 ·rcases h.inst with e | ⟨-, e, -⟩
  ·rw [e]; exact hm.i0 (by omega)
  ·exact e
 ·rw [hi];rcases h.inst with e | ⟨-, -, e⟩
  ·rw [e]; exact hm.i1 (by omega)
  ·exact e
 ·rcases h.inst with e | ⟨e, -, -⟩
  ·rw [e]; exact hm.i2 (by omega)
  ·have := hm.i2 (by omega); omega
theorem NarM.step {ν : Type} {j j' : Jn} {tk : Tk ν} (hi : j'.ins = j.ins) (hf : j'.first = j.first) {bins : List Int} {m x : Mv} (h : NarM j.ins m x) (hm : MOk j m) (b : Nat) (s : Ste ν) : ∀ y ∈ Z22 j' tk bins x b s, y ∈ Z22 j tk bins m b s := fun y hy => by
 have e1 := h.kind; have e2 := h.bin; have e3 := h.lo; have e5 := h.hi;unfold Z22 at hy ⊢;rw [e1, e2, hi, hf] at hy
 split at hy
 ·rename_i hk
  rw [if_pos hk];obtain ⟨n, hn, e⟩ := List.mem_map.1 hy;rw [Z2d] at hn;exact List.mem_map.2 ⟨n, Z2d.2 (by omega), e⟩
 split at hy
 ·rename_i hk1 hk
  rw [if_neg hk1, if_pos hk];obtain ⟨i, hii, hy⟩ := List.mem_flatMap.1 hy;obtain ⟨n, hn, hy⟩ := List.mem_flatMap.1 hy;rw [Z2d] at hn;refine List.mem_flatMap.2 ⟨i, ?_, List.mem_flatMap.2 ⟨n, Z2d.2 (by omega), hy⟩⟩;unfold Z9q at hii ⊢;rcases h.inst with e | ⟨g1, g2, g3⟩
  ·rw [e] at hii; exact hii
  ·rw [if_pos g1, Z2d]
   split at hii
   ·rw [Z2d] at hii; exact hii
   ·simp at hii; omega
 ·rename_i hk1 hk
  rw [if_neg hk1, if_neg hk]
  split at hy
  ·rename_i hc
   rw [if_pos (by omega)]; exact hy
  ·simp at hy
structure Sub (x j : Jn) : Prop where
 ins : x.ins = j.ins
 bins : Z6 x.moves = Z6 j.moves
 ok : JOk j
 ok' : JOk x
 sub : ∀ s ∈ Zd x Z1f [], s ∈ Zd j Z1f []
theorem Sub.cnt {x j : Jn} (h : Sub x j) {bin lo hi : Int} (hm : MOk x ⟨3, bin, 0, lo, hi⟩) (hl : x.moves.length < 10) : Sub ⟨x.ins, x.first, x.moves ++ [⟨3, bin, 0, lo, hi⟩]⟩ j := by
 have hb : Z6 (x.moves ++ [⟨3, bin, 0, lo, hi⟩]) = Z6 x.moves := by rw [Z2t]; simp [Z6]
 have hx := h.ok';refine ⟨h.ins, hb.trans h.bins, h.ok, ⟨hx.i1, hx.i4, hx.f1, hx.f2, by simp; omega, fun m hm' => ?_, by rw [hb]; exact hx.b4⟩, fun s hs => h.sub s ?_⟩
 ·have key : MOk x m := by
   rcases List.mem_append.1 hm' with h | h
   ·exact hx.mv m h
   ·simp at h; subst h; exact hm
  exact ⟨key.k1, key.k3, key.b0, key.b1, key.i0, key.i1, key.i2, key.l0, key.lh, key.h5⟩
 ·unfold Zd at hs ⊢;rw [hb, Z6u, Zcl (tk := Z1f) (j := Jn.mk x.ins x.first (x.moves ++ [Mv.mk 3 bin 0 lo hi])) (j' := x) rfl rfl (Z6 x.moves) x.moves 0 [([0, 0, 0, 0], [])]] at hs;simp only [Z2u] at hs;obtain ⟨s0, h0, hs⟩ := List.mem_flatMap.1 hs;unfold Z22 at hs;rw [if_neg (by simp), if_neg (by simp)] at hs
  split at hs
  ·simp at hs; subst hs; exact h0
  ·simp at hs
theorem Sub.ends {x j : Jn} (h : Sub x j) {ν : Type} (tk : Tk ν) (z : ν) : ∀ s ∈ Zd x tk z, s ∈ Zd j tk z := fun s hs => by
 rw [Z1n] at hs ⊢;obtain ⟨y, hy, e⟩ := List.mem_map.1 hs;exact List.mem_map.2 ⟨y, h.sub y hy, e⟩
theorem Sub.stands {x j : Jn} (h : Sub x j) (hs : Zc x = true) : Zc j = true := by
 have h1 := Zoo hs
 cases e : Zd x Z1f [] with
 | nil => exact absurd e h1
 | cons y l => exact Zh8 (h.sub y (by rw [e]; simp))
theorem Zq9 {l l' : List Int} (hne : l' ≠ []) (h : ∀ x ∈ l', x ∈ l) : (Zs l).1 <= (Zs l').1 /\ (Zs l').2 <= (Zs l).2 :=
 ⟨Z4b (h _ (Z50 hne)), Z4k (h _ (Z6v hne))⟩
theorem Sub.rest {x j : Jn} (h : Sub x j) (hs : Zc x = true) {b : Nat} {r r' : Int × Int} (hr : (Z4c j)[b]? = some r) (hr' : (Z4c x)[b]? = some r') : r.1 <= r'.1 /\ r'.2 <= r.2 := by
 have key : ∀ (y : Jn) (r : Int × Int), (Z4c y)[b]? = some r -> r = Zs ((Zd y Zn 0).map fun s => s.1.getD b 0) := fun y r hr => by
  unfold Z4c at hr;rw [List.getElem?_map] at hr
  cases e : (List.range (Z6 y.moves).length)[b]? with
  | none => rw [e] at hr; simp at hr
  | some c =>
   rw [e] at hr;obtain ⟨g1, g2⟩ := List.getElem?_eq_some_iff.1 e;simp at g2 hr; subst g2; exact hr.symm
 rw [key j r hr, key x r' hr'];refine Zq9 (fun e => Z55 hs Zn (List.map_eq_nil_iff.1 e)) fun y hy => ?_;obtain ⟨s, hs', e⟩ := List.mem_map.1 hy;exact List.mem_map.2 ⟨s, h.ends _ _ s hs', e⟩
theorem Sub.call {x j : Jn} (h : Sub x j) (hs : Zc x = true) {l : List Nat} (hl : ∀ y ∈ l, y < 4) {i : Nat} (hc : Zkr x l i = true) : Zkr j l i = true := by
 rw [Zde h.ok' hs hl] at hc;rw [Zde h.ok (h.stands hs) hl];obtain ⟨y, hy, p⟩ := hc;exact ⟨y, h.sub y hy, p⟩
end Go.Batch

namespace Go.Batch
def Ziy (v : Int) (is : Bool) : Bool := decide (v = 3) || (decide (v = 1) && is) || (decide (v = 2) && !is)
theorem Ze2 {l : List Int} {x : Int} (hx : x ∈ l) (hnn : ∀ y ∈ l, 0 <= y) {is : Bool} (h : is = true ↔ 0 < x) : Ziy (Z2i (Zs l)) is = true := by
 have h1 := Z4b hx;have h2 := Z4k hx;have e1 : (Zs l).1 = Z6a l := rfl;have e2 : (Zs l).2 = Z80 l := rfl;have h0 := hnn x hx;unfold Z2i Ziy
 split
 ·have : is = true := h.2 (by omega);simp [this]
 ·split
  ·have : is = false := by
    cases is with
    | false => rfl
    | true => have := h.1 rfl; omega
   simp [this]
  ·simp
def Z8z (f : Nat -> Int) : Nat -> Nat
 | 0 => 0
 | b + 1 => Z8z f b + if 0 < f b then 1 else 0
theorem Z13k (f : Nat -> Int) : ∀ b, Z8z f b <= b
 | 0 => Nat.le_refl _
 | b + 1 => by have := Z13k f b; unfold Z8z; split <;> omega
theorem Zfs (f : Nat -> Int) {a : Nat} (h : ∀ b, a <= b -> f b <= 0) : ∀ k, Z8z f (a + k) = Z8z f a
 | 0 => rfl
 | k + 1 => by
  show Z8z f (a + k) + (if 0 < f (a + k) then 1 else 0) = Z8z f a;rw [Zfs f h k, if_neg (by have := h (a + k) (by omega); omega), Nat.add_zero]
theorem Zft : ∀ S : Fin 16, 0 <= Z43 (S.val : Int) /\ (0 < Z43 (S.val : Int) ↔ 1 < Z8z (fun b => if Z2s (S.val : Int) b = true then 1 else 0) 4) := by decide +kernel
theorem Zaj (f : Int × Nat × Int -> Bool) (g : Int × Nat × Int -> Nat) (tk : Tk Int) (ht : ∀ z p, tk z p.1 p.2.1 p.2.2 = if f p = true then Z2h z (g p) else z) : ∀ (l : List (Int × Nat × Int)) (z : Int), (∀ p ∈ l, f p = true -> g p < 4) -> 0 <= z /\ z <= 15 ->
  (0 <= Zt tk z l /\ Zt tk z l <= 15) /\ ∀ b, b < 4 -> (Z2s (Zt tk z l) b = true ↔ Z2s z b = true ∨ ∃ p ∈ l, f p = true /\ g p = b)
 | [], z, _, hz => ⟨hz, fun b _ => by simp [Zt]⟩
 | p :: l, z, hg, hz => by
  have e : Zt tk z (p :: l) = Zt tk (tk z p.1 p.2.1 p.2.2) l := rfl;rw [e, ht]
  by_cases hf : f p = true
  ·rw [if_pos hf];have hgp := hg p (by simp) hf;have e2 : ((z.toNat : Nat) : Int) = z := by omega
   have w := fun b : Fin 4 => Zcn ⟨z.toNat, by omega⟩ ⟨g p, hgp⟩ b;simp only [e2] at w;obtain ⟨h1, h2⟩ := Zaj f g tk ht l (Z2h z (g p)) (fun q hq => hg q (by simp [hq])) (w ⟨0, by decide⟩).2;refine ⟨h1, fun b hb => ?_⟩;rw [h2 b hb, (w ⟨b, hb⟩).1, Bool.or_eq_true, decide_eq_true_eq];constructor
   ·rintro ((h | h) | ⟨q, hq, h⟩)
    ·exact .inl h
    ·exact .inr ⟨p, by simp, hf, h⟩
    ·exact .inr ⟨q, by simp [hq], h⟩
   ·rintro (h | ⟨q, hq, h, h'⟩)
    ·exact .inl (.inl h)
    ·rcases List.mem_cons.1 hq with e | hq
     ·subst e; exact .inl (.inr h')
     ·exact .inr ⟨q, hq, h, h'⟩
  ·rw [if_neg hf];obtain ⟨h1, h2⟩ := Zaj f g tk ht l z (fun q hq => hg q (by simp [hq])) hz;refine ⟨h1, fun b hb => ?_⟩;rw [h2 b hb];constructor
   ·rintro (h | ⟨q, hq, h⟩)
    ·exact .inl h
    ·exact .inr ⟨q, by simp [hq], h⟩
   ·rintro (h | ⟨q, hq, h, h'⟩)
    ·exact .inl h
    ·rcases List.mem_cons.1 hq with e | hq
     ·subst e; exact absurd h hf
     ·exact .inr ⟨q, hq, h, h'⟩
structure Tru (j : Jn) (own : Int -> Nat -> Int) (lies : List Int) : Prop where
 path : ∃ p, (lies, p) ∈ Zd j Z1f [] /\ ∀ n b, 0 <= n -> Z59 n b p = own n b
section
variable {j : Jn} {own : Int -> Nat -> Int} {lies : List Int}
theorem Tru.own_iff (hj : JOk j) {p : List (Int × Nat × Int)} (hp : (lies, p) ∈ Zd j Z1f []) (ho : ∀ n b, 0 <= n -> Z59 n b p = own n b) {n : Int} (hn : 0 <= n) (b : Nat) : 0 <= own n b /\ (0 < own n b ↔ ∃ q ∈ p, q.1 = n /\ q.2.1 = b) := by
 rw [<- ho n b hn];exact Zco n b p fun q hq => ((Z6m hj _ hp).all q hq).2.2.2
theorem Tru.zero (h : Tru j own lies) (hj : JOk j) {n : Int} (hn : 0 <= n) {b : Nat} (hb : (Z6 j.moves).length <= b) : own n b = 0 := by
 obtain ⟨p, hp, ho⟩ := h.path;obtain ⟨h1, h2⟩ := Tru.own_iff hj hp ho hn b;rcases Int.lt_or_eq_of_le h1 with g | g
 ·obtain ⟨q, hq, -, e⟩ := h2.1 g;have := ((Z6m hj _ hp).all q hq).2.2.1;omega
 ·exact g.symm
theorem Tru.amt (h : Tru j own lies) {n : Int} (hn : 0 <= n) (b : Nat) : (Z4d j (Z2v n b)).1 <= own n b /\ own n b <= (Z4d j (Z2v n b)).2 := by
 obtain ⟨p, hp, ho⟩ := h.path;have := Zv3 hp n b;simp only [ho n b hn] at this;exact ⟨Z4b this, Z4k this⟩
theorem Tru.has (h : Tru j own lies) (hj : JOk j) {n : Int} (hn : 0 <= n) {l : List Nat} (hl : ∀ x ∈ l, x < 4) : Ziy (Z2i (Z4d j (Z3a (Z1p l) n))) (decide (∃ b ∈ l, 0 < own n b)) = true := by
 obtain ⟨p, hp, ho⟩ := h.path;have hm : Zt (Z3a (Z1p l) n) 0 p ∈ (Zd j (Z3a (Z1p l) n) 0).map (·.2) := by
  rw [Z1n];simp only [List.map_map, List.mem_map, Function.comp_def];exact ⟨_, hp, rfl⟩
 refine Ze2 hm (fun y hy => ?_) ?_
 ·obtain ⟨s, hs, rfl⟩ := List.mem_map.1 hy;exact (Zq4 (Ziw _ n) hj s hs).n0
 rw [decide_eq_true_eq, Z72];have key : (∃ b ∈ l, 0 < own n b) ↔ ∃ q ∈ p, q.1 = n /\ Z2s (Z1p l) q.2.1 = true := by
  have h4 := hj.b4;constructor
  ·rintro ⟨b, hb, h⟩;obtain ⟨q, hq, e1, e2⟩ := (Tru.own_iff hj hp ho hn b).2.1 h;refine ⟨q, hq, e1, ?_⟩;rw [e2, Z56 hl (hl b hb), decide_eq_true_eq]; exact hb
  ·rintro ⟨q, hq, e1, e2⟩;have hb := ((Z6m hj _ hp).all q hq).2.2.1;rw [Z56 hl (by omega), decide_eq_true_eq] at e2;exact ⟨q.2.1, e2, (Tru.own_iff hj hp ho hn q.2.1).2.2 ⟨q, hq, e1, rfl⟩⟩
 rw [key]
 by_cases hc : ∃ q ∈ p, q.1 = n /\ Z2s (Z1p l) q.2.1 = true
 ·rw [if_pos hc]; simp [hc]
 ·rw [if_neg hc]; simp [hc]
theorem Tru.call (h : Tru j own lies) (hj : JOk j) (hs : Zc j = true) {n : Nat} {l : List Nat} (hl : ∀ x ∈ l, x < 4) {b : Nat} (hb : b ∈ l) (h0 : 0 < own n b) : Zkr j l n = true := by
 obtain ⟨p, hp, ho⟩ := h.path;obtain ⟨q, hq, e1, e2⟩ := (Tru.own_iff hj hp ho (Int.natCast_nonneg n) b).2.1 h0;exact (Zde hj hs hl n).2 ⟨_, hp, q, hq, e1, by rw [e2]; exact hb⟩
theorem Tru.mixed (h : Tru j own lies) (hj : JOk j) {n : Int} (hn : 0 <= n) : Ziy (Z2i (Zs ((Zd j (Z29 n) 0).map fun s => Z43 s.2))) (decide (1 < Z8z (own n) (Z6 j.moves).length)) = true := by
 obtain ⟨p, hp, ho⟩ := h.path;have h4 := hj.b4;have hm : Z43 (Zt (Z29 n) 0 p) ∈ (Zd j (Z29 n) 0).map (fun s => Z43 s.2) := by
  rw [Z1n];simp only [List.map_map, List.mem_map, Function.comp_def];exact ⟨_, hp, rfl⟩
 have bits : ∀ q : List (Int × Nat × Int), (∀ x ∈ q, x.2.1 < 4) -> _ := fun q hq => Zaj (fun x => decide (x.1 = n)) (fun x => x.2.1) (Z29 n) (fun z x => by simp [Z29]) q 0 (fun x hx _ => hq x hx) (by decide);refine Ze2 hm (fun y hy => ?_) ?_
 ·rw [Z1n] at hy;simp only [List.map_map, List.mem_map, Function.comp_def] at hy;obtain ⟨s, hs, rfl⟩ := hy;have hb := (bits s.2 fun x hx => by have := ((Z6m hj _ hs).all x hx).2.2.1; omega).1;have := (Zft ⟨(Zt (Z29 n) 0 s.2).toNat, by omega⟩).1;have e : (((Zt (Z29 n) 0 s.2).toNat : Nat) : Int) = Zt (Z29 n) 0 s.2 := by omega
  simp only [e] at this;exact this
 ·obtain ⟨hb, hh⟩ := bits p fun x hx => by have := ((Z6m hj _ hp).all x hx).2.2.1; omega
  have := (Zft ⟨(Zt (Z29 n) 0 p).toNat, by omega⟩).2;have e : (((Zt (Z29 n) 0 p).toNat : Nat) : Int) = Zt (Z29 n) 0 p := by omega
  simp only [e] at this;rw [this, decide_eq_true_eq];have e4 : Z8z (own n) (Z6 j.moves).length = Z8z (own n) 4 := by
   have := Zfs (own n) (a := (Z6 j.moves).length) (fun b hb => Int.le_of_eq (h.zero hj hn hb)) (4 - (Z6 j.moves).length);rw [Nat.add_sub_cancel' h4] at this;exact this.symm
  rw [e4];have eq : ∀ k, k <= 4 -> Z8z (own n) k = Z8z (fun b => if Z2s (Zt (Z29 n) 0 p) b = true then 1 else 0) k := fun k => by
   induction k with
   | zero => intro _; rfl
   | succ k ih =>
    intro hk;unfold Z8z;rw [ih (by omega)]
    congr 1
    have h1 := hh k (by omega);have h2 := (Tru.own_iff hj hp ho hn k).2;have h0 : Z2s 0 k = false := by unfold Z2s; simp
    rw [h0] at h1;simp only [Bool.false_eq_true, false_or, decide_eq_true_eq] at h1
    by_cases hc : 0 < own n k
    ·have := h1.2 (h2.1 hc);rw [if_pos hc, this]; rfl
    ·have : ¬ Z2s (Zt (Z29 n) 0 p) k = true := fun g => hc (h2.2 (h1.1 g));rw [if_neg hc, if_neg this]; rfl
  rw [eq 4 (Nat.le_refl _)]
theorem Tru.rest (h : Tru j own lies) {b : Nat} {r : Int × Int} (hr : (Z4c j)[b]? = some r) : r.1 <= lies.getD b 0 /\ lies.getD b 0 <= r.2 := by
 obtain ⟨p, hp, -⟩ := h.path;have hm := Zsk hp b;have e : r = Zs ((Zd j Zn 0).map fun s => s.1.getD b 0) := by
  unfold Z4c at hr;rw [List.getElem?_map] at hr
  cases e : (List.range (Z6 j.moves).length)[b]? with
  | none => rw [e] at hr; simp at hr
  | some c =>
   rw [e] at hr;obtain ⟨g1, g2⟩ := List.getElem?_eq_some_iff.1 e;simp at g2 hr; subst g2; exact hr.symm
 rw [e];exact ⟨Z4b hm, Z4k hm⟩
theorem Tru.left (h : Tru j own lies) {n : Nat} {r : Int × Int} (hr : (Z6g j)[n]? = some r) : r.1 <= inL n (Z6 j.moves) lies /\ inL n (Z6 j.moves) lies <= r.2 := by
 obtain ⟨p, hp, -⟩ := h.path;have hm : inL n (Z6 j.moves) lies ∈ (Zd j Zn 0).map fun s => inL n (Z6 j.moves) s.1 := by
  rw [Z1n];simp only [List.map_map, List.mem_map, Function.comp_def];exact ⟨_, hp, rfl⟩
 have e : r = Zs ((Zd j Zn 0).map fun s => inL n (Z6 j.moves) s.1) := by
  unfold Z6g at hr;rw [List.getElem?_map] at hr
  cases e : (List.range j.first.length)[n]? with
  | none => rw [e] at hr; simp at hr
  | some c =>
   rw [e] at hr;obtain ⟨g1, g2⟩ := List.getElem?_eq_some_iff.1 e;simp at g2 hr; subst g2; exact hr.symm
 rw [e];exact ⟨Z4b hm, Z4k hm⟩
end
end Go.Batch

namespace Go.Batch
theorem find_at {α : Type} {P : α -> Bool} {l pre post : List α} {y : α} (e : l = pre ++ y :: post) (h : ∀ x ∈ pre, P x = false) (hy : P y = true) : l.find? P = some y := by
 subst e;rw [List.find?_append];have : pre.find? P = none := List.find?_eq_none.2 fun x hx => by rw [h x hx]; exact Bool.false_ne_true
 rw [this];simp [hy]
def Z9v (j : Jn) (k : Nat) : List (List Nat) := (List.range k).flatMap (Zw (Zp j))
theorem Zfu (j : Jn) (k : Nat) : Z9v j (k + 1) = Z9v j k ++ Zw (Zp j) k := by
 unfold Z9v; rw [List.range_succ, List.flatMap_append]; simp
theorem Zv5 (j : Jn) : Z9t j = Z9v j ((Zp j).length + 1) := rfl
theorem Zv6 {j : Jn} : ∀ {k : Nat}, k <= (Zp j).length + 1 -> ∃ post, Z9t j = Z9v j k ++ post := fun {k} h => by
 refine ⟨((List.range ((Zp j).length + 1 - k)).map (k + ·)).flatMap (Zw (Zp j)), ?_⟩;have e : List.range ((Zp j).length + 1) = List.range k ++ (List.range ((Zp j).length + 1 - k)).map (k + ·) := by
  have := List.range_add (n := k) (m := (Zp j).length + 1 - k)
  rwa [Nat.add_sub_cancel' h] at this
 unfold Z9t Z9v;rw [e, List.flatMap_append]
def Z6d (j : Jn) (k i : Nat) : Prop := (∀ x ∈ Z9v j k, Zc (Z12 j x) = false) /\ ∀ x ∈ (Zw (Zp j) k).take i, Zc (Z12 j x) = false
theorem Zsm (j : Jn) : Z6d j 0 0 := ⟨fun x h => by simp [Z9v] at h, fun x h => by simp at h⟩
theorem Z6d.next {j : Jn} {k i : Nat} (h : Z6d j k i) {x : List Nat} (hx : (Zw (Zp j) k)[i]? = some x) (hs : Zc (Z12 j x) = false) : Z6d j k (i + 1) := ⟨h.1, fun y hy => by
 rw [List.take_add_one, hx] at hy
 rcases List.mem_append.1 hy with hy | hy
 ·exact h.2 y hy
 ·simp at hy; subst hy; exact hs⟩
theorem Z6d.more {j : Jn} {k i : Nat} (h : Z6d j k i) (hi : (Zw (Zp j) k).length <= i) : Z6d j (k + 1) 0 := ⟨fun y hy => by
 rw [Zfu] at hy
 rcases List.mem_append.1 hy with hy | hy
 ·exact h.1 y hy
 ·exact h.2 y (by rw [List.take_of_length_le hi]; exact hy), fun y hy => by simp at hy⟩
theorem Z6d.hit {j : Jn} {k i : Nat} (h : Z6d j k i) (hk : k <= (Zp j).length) {x : List Nat} (hx : (Zw (Zp j) k)[i]? = some x) (hs : Zc (Z12 j x) = true) : Z6c j = some x := by
 obtain ⟨post, e⟩ := Zv6 (j := j) (k := k + 1) (by omega);rw [Zfu] at e;have hi := (List.getElem?_eq_some_iff.1 hx);obtain ⟨hil, hie⟩ := hi;have e2 : Zw (Zp j) k = (Zw (Zp j) k).take i ++ x :: (Zw (Zp j) k).drop (i + 1) := by
  conv => lhs; rw [<- List.take_append_drop i (Zw (Zp j) k)]
  rw [List.drop_eq_getElem_cons hil, hie]
 rw [e2] at e;unfold Z6c;refine find_at (pre := Z9v j k ++ (Zw (Zp j) k).take i) (y := x) (post := (Zw (Zp j) k).drop (i + 1) ++ post) (by rw [e]; simp) (fun y hy => ?_) hs;rcases List.mem_append.1 hy with hy | hy
 ·exact h.1 y hy
 ·exact h.2 y hy
theorem Z6d.all {j : Jn} {k : Nat} (h : Z6d j k 0) (hk : (Zp j).length < k) : Z6c j = none := by
 unfold Z6c;rw [List.find?_eq_none];intro x hx;rw [Zv5] at hx;have : x ∈ Z9v j k := by
  unfold Z9v at hx ⊢;obtain ⟨i, hi, hx⟩ := List.mem_flatMap.1 hx;rw [List.mem_range] at hi;exact List.mem_flatMap.2 ⟨i, List.mem_range.2 (by omega), hx⟩
 rw [h.1 x this];exact Bool.false_ne_true
end Go.Batch

namespace Go.Batch
structure Asc (n : Nat) (l : List Nat) : Prop where
 lt : ∀ x ∈ l, x < n
 pw : l.Pairwise (· < ·)
theorem Asc.filter {n : Nat} {l : List Nat} (h : Asc n l) (P : Nat -> Bool) : Asc n (l.filter P) := ⟨fun x hx => h.lt x (List.mem_filter.1 hx).1, h.pw.filter P⟩
theorem Asc.mono {n m : Nat} {l : List Nat} (h : Asc n l) (hm : n <= m) : Asc m l := ⟨fun x hx => by have := h.lt x hx; omega, h.pw⟩
theorem Zop {n : Nat} : ∀ (l : List Nat) (a : Nat), (∀ x ∈ l, a <= x /\ x < n) -> l.Pairwise (· < ·) -> l ≠ [] -> l.length + a <= n
 | [x], a, h, _, _ => by have := h x (by simp); simp only [List.length_singleton]; omega
 | x :: y :: l, a, h, hp, _ => by
  have hx := h x (by simp);have hc := List.pairwise_cons.1 hp;have := Zop (y :: l) (x + 1) (fun z hz => ⟨hc.1 z hz, (h z (by simp [hz])).2⟩) hc.2 (by simp);rw [List.length_cons]; omega
theorem Asc.len {n : Nat} {l : List Nat} (h : Asc n l) : l.length <= n := by
 rcases List.eq_nil_or_concat l with e | e
 ·rw [e]; exact Nat.zero_le _
 ·exact Zop l 0 (fun x hx => ⟨Nat.zero_le _, h.lt x hx⟩) h.pw (by rintro rfl; obtain ⟨_, _, h⟩ := e; simp at h)
theorem Asc.sub {n : Nat} {l l' : List Nat} (h : Asc n l) (hs : l'.Sublist l) : Asc n l' := ⟨fun x hx => h.lt x (hs.subset hx), h.pw.sublist hs⟩
end Go.Batch
