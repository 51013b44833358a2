/- Part TxBC of the proofs about the benches of the accordion maker: see the last text of the claim for what is proved. -/
import Derived.Test.YthljpccegkmdnaaGreatDoorTxBB
import Derived.Test.YthljpccegkmdnaaGreatDoorTxBA
set_option linter.unusedVariables false
set_option linter.unusedSimpArgs false
set_option linter.unnecessarySimpa false
set_option linter.constructorNameAsVariable false

namespace Go.Batch
section
variable {ν : Type}
structure RenOk (ins : Int) (π : Int -> Int) : Prop where
 rng : ∀ i, 0 <= i -> i < ins -> 0 <= π i /\ π i < ins
 inj : ∀ i k, 0 <= i -> i < ins -> 0 <= k -> k < ins -> π i = π k -> i = k
 sur : ∀ k, 0 <= k -> k < ins -> ∃ i, 0 <= i /\ i < ins /\ π i = k
inductive Eff where
 | put (b : Nat) (n : Int)
 | take (b : Nat) (inst n : Int)
def Eff.at : Eff -> Nat
 | .put b _ => b
 | .take b _ _ => b
theorem Zon {bin : Int} : ∀ (bs l l' : List Int), (∀ k, bs[k]? = some bin -> l.getD k 0 = l'.getD k 0) -> inL bin bs l = inL bin bs l'
 | [], _, _, _ => rfl
 | b :: bs, l, l', h => by
  have ih := Zon bs l.tail l'.tail fun k hk => by
   have := h (k + 1) (by simpa using hk)
   cases l <;> cases l' <;> simpa using this
  simp only [inL, ih]
  by_cases hb : b = bin
  ·have := h 0 (by simp [hb]);have e : l.headD 0 = l'.headD 0 := by cases l <;> cases l' <;> simpa using this
   rw [e]
  ·rw [if_neg hb, if_neg hb]
def Zv2 (tk : Tk ν) : Prop := ∀ y i b n i' b' n', b ≠ b' -> tk (tk y i b n) i' b' n' = tk (tk y i' b' n') i b n
end
theorem Zq5 : Zv2 Zn := fun _ _ _ _ _ _ _ _ => rfl
theorem Zsh (i : Int) (b : Nat) : Zv2 (Z2v i b) := fun y i1 b1 n1 i2 b2 n2 h => by
 unfold Z2v
 split <;> split <;> omega
theorem Zsi (i : Int) : Zv2 (Z29 i) := fun y i1 b1 n1 i2 b2 n2 h => by
 unfold Z29
 split <;> split <;> try rfl
 unfold Z2h;simp only [Int.toNat_natCast];rw [Nat.or_assoc, Nat.or_assoc, Nat.or_comm (1 <<< b1)]
end Go.Batch

namespace Go.Batch
theorem Zow {bin : Int} : ∀ {bs l : List Int}, (∀ k, 0 <= l.getD k 0) -> 0 < inL bin bs l -> ∃ k : Nat, bs[k]? = some bin /\ 0 < l.getD k 0
 | [], l, _, h => by simp [inL] at h
 | b :: bs, l, hn, h => by
  have e : l.headD 0 = l.getD 0 0 := by cases l <;> simp
  have e2 : ∀ k, l.tail.getD k 0 = l.getD (k + 1) 0 := fun k => by cases l <;> simp
  simp only [inL, e] at h
  by_cases h1 : b = bin /\ 0 < l.getD 0 0
  ·exact ⟨0, by simp [h1.1], h1.2⟩
  ·have h2 : 0 < inL bin bs l.tail := by
    have := hn 0
    split at h
    ·rename_i hb
     have : ¬ 0 < l.getD 0 0 := fun h3 => h1 ⟨hb, h3⟩;omega
    ·omega
   obtain ⟨k, k1, k2⟩ := Zow (bs := bs) (l := l.tail) (fun k => by rw [e2]; exact hn _) h2;exact ⟨k + 1, by simpa using k1, by rw [<- e2]; exact k2⟩
theorem Zl6 {bin : Int} : ∀ {bs l l' : List Int} {own : Nat}, bs[own]? = some bin -> (∀ k, l'.getD k 0 = if k = own then l.getD own 0 - 1 else l.getD k 0) -> inL bin bs l' = inL bin bs l - 1
 | [], l, l', own, h, _ => by simp at h
 | b :: bs, l, l', 0, h, hl => by
  simp at h; subst h;have e : ∀ l : List Int, l.headD 0 = l.getD 0 0 := fun l => by cases l <;> simp
  have e2 : ∀ (l : List Int) k, l.tail.getD k 0 = l.getD (k + 1) 0 := fun l k => by cases l <;> simp
  have h0 := hl 0;have ht : inL b bs l'.tail = inL b bs l.tail := Zon bs _ _ fun k _ => by rw [e2, e2, hl (k + 1), if_neg (by omega)]
  simp only [inL, e, ht, h0, if_true];omega
 | b :: bs, l, l', own + 1, h, hl => by
  have e : ∀ l : List Int, l.headD 0 = l.getD 0 0 := fun l => by cases l <;> simp
  have e2 : ∀ (l : List Int) k, l.tail.getD k 0 = l.getD (k + 1) 0 := fun l k => by cases l <;> simp
  have := Zl6 (bin := bin) (bs := bs) (l := l.tail) (l' := l'.tail) (own := own) (by simpa using h) (fun k => by
   rw [e2, hl (k + 1), e2, e2]
   by_cases hk : k = own
   ·rw [if_pos hk, if_pos (by omega)]
   ·rw [if_neg hk, if_neg (by omega)])
  have h0 := hl 0;rw [if_neg (by omega)] at h0;simp only [inL, e, this, h0];omega
theorem Zhl {of of' : List Int} {own : Nat} (h : ∀ k, of'.getD k 0 = if k = own then of.getD own 0 + 1 else of.getD k 0) : ∀ (bs : List Int) (i : Nat), i <= own -> own < i + bs.length -> Z32 of' bs i = Z32 of bs i + 1
 | [], i, h1, h2 => by simp at h2; omega
 | b :: bs, i, h1, h2 => by
  have out : ∀ (bs : List Int) (i : Nat), own < i -> Z32 of' bs i = Z32 of bs i := by
   intro bs
   induction bs with
   | nil => intro i _; rfl
   | cons b bs ih => intro i hi; simp only [Z32, ih (i + 1) (by omega), h i, if_neg (show ¬ i = own by omega)]
  by_cases e : i = own
  ·subst e;simp only [Z32, out bs (i + 1) (by omega), h i, if_true];omega
  ·have := Zhl h bs (i + 1) (by omega) (by simp at h2; omega);simp only [Z32, this, h i, if_neg e];omega
def Z4y (bins lies : List Int) (bin : Int) (k : Nat) : List Nat := (List.range k).filter fun b => decide (bins.getD b 0 = bin /\ 0 < lies.getD b 0)
theorem Znc (bins lies : List Int) (bin : Int) (k : Nat) : Z4y bins lies bin (k + 1) = if bins.getD k 0 = bin /\ 0 < lies.getD k 0 then Z4y bins lies bin k ++ [k] else Z4y bins lies bin k := by
 unfold Z4y;rw [List.range_succ, List.filter_append]
 by_cases h : bins.getD k 0 = bin /\ 0 < lies.getD k 0
 ·have e : [k].filter (fun b => decide (bins.getD b 0 = bin /\ 0 < lies.getD b 0)) = [k] := List.filter_eq_self.2 fun b hb => by rw [List.mem_singleton.1 hb]; exact decide_eq_true h
  rw [if_pos h, e]
 ·have e : [k].filter (fun b => decide (bins.getD b 0 = bin /\ 0 < lies.getD b 0)) = [] := List.filter_eq_nil_iff.2 fun b hb => by rw [List.mem_singleton.1 hb, decide_eq_false h]; exact Bool.false_ne_true
  rw [if_neg h, e, List.append_nil]
theorem Zas {bins lies : List Int} {bin : Int} {n k : Nat} : k ∈ Z4y bins lies bin n ↔ k < n /\ bins.getD k 0 = bin /\ 0 < lies.getD k 0 := by simp [Z4y]
theorem Zqj (bins lies : List Int) (bin : Int) (n : Nat) : (Z4y bins lies bin n).length <= n := by
 have := List.length_filter_le (fun b => decide (bins.getD b 0 = bin /\ 0 < lies.getD b 0)) (List.range n);rw [List.length_range] at this; exact this
theorem Zl7 {bins lies : List Int} {bin : Int} {n k0 : Nat} (h : (Z4y bins lies bin n)[0]? = some k0) : ∀ k, k < k0 -> ¬ (bins.getD k 0 = bin /\ 0 < lies.getD k 0) := by
 intro k hk hc;have hm := List.mem_of_getElem? h;have hkm : k ∈ Z4y bins lies bin n := Zas.2 ⟨by have := (Zas.1 hm).1; omega, hc⟩;have hp : (Z4y bins lies bin n).Pairwise (· < ·) := (List.pairwise_lt_range).filter _
 cases hl : Z4y bins lies bin n with
 | nil => rw [hl] at h; simp at h
 | cons a r =>
  rw [hl] at h hkm hp;simp at h; subst h;rcases List.mem_cons.1 hkm with e | e
  ·omega
  ·have := (List.pairwise_cons.1 hp).1 k e; omega
end Go.Batch
namespace Go.Proofs.YthljpccegkmdnaaGreatDoor
open Go Go.Abs Go.Proofs Go.Batch
set_option maxRecDepth 20000 in
set_option maxHeartbeats 4000000 in
theorem Zt8 (x : Int) (bins lies : List Int) (hb4 : bins.length <= 4) (hl : LOk lies) (bin : Int) (hpos : 0 < inL bin bins lies) (fifo : Bool) (LL BL : List D) (hL : LL = lies.map I) (hB : BL = bins.map I) (nb : Nat) (hnb : nb = bins.length) (Q)
  (hq : ∀ (oI : Int) (own : Nat) x', IsI oI own -> bins[own]? = some bin -> 0 < lies.getD own 0 -> (fifo = true -> ∀ k, k < own -> bins[k]? = some bin -> lies.getD k 0 <= 0) -> Q (RA.ret (I oI)) [pot x', .els 1 LL, .els 1 BL]) :
  CallA Tryz.prog 105 [.b 0 0, .o 1 1 4, .o 2 1 nb, I bin, .v (.bool fifo)] [pot x, .els 1 LL, .els 1 BL] Q := by
 obtain ⟨A, hA⟩ : ∃ A, A = ar := ⟨_, rfl⟩;have hBl : BL.length = nb := by rw [hB, hnb]; simp
 have hLl : LL.length = 4 := by rw [hL]; simp [hl.len]
 have hgd : ∀ k, k < nb -> bins[k]? = some (bins.getD k 0) := fun k h => by rw [List.getD_eq_getElem?_getD, List.getElem?_eq_getElem (by omega)]; rfl
 have hgl : ∀ k, k < 4 -> lies[k]? = some (lies.getD k 0) := fun k h => by rw [List.getD_eq_getElem?_getD, List.getElem?_eq_getElem (by rw [hl.len]; exact h)]; rfl
 have hne : Z4y bins lies bin nb ≠ [] := fun h => by
  obtain ⟨k, k1, k2⟩ := Zow (fun k => hl.lo k) hpos;have hk : k < bins.length := (List.getElem?_eq_some_iff.1 k1).1;have : k ∈ Z4y bins lies bin nb := Zas.2 ⟨by omega, by rw [List.getD_eq_getElem?_getD, k1]; rfl, k2⟩;rw [h] at this; simp at this
 have hout : ∀ k0, k0 ∈ Z4y bins lies bin nb -> bins[k0]? = some bin /\ 0 < lies.getD k0 0 := fun k0 h => by
  obtain ⟨h1, h2, h3⟩ := Zas.1 h;exact ⟨by rw [hgd k0 h1, h2], h3⟩
 refine Z5 Z0 hA Tryz.func105 rfl rfl rfl rfl rfl fun S hS => ?_;cbv;refine Zb hS ?_;refine Za (α := Int × Nat × Nat × List D) (fun q => { env := [(0, .b 0 0), (1, .o 1 1 4), (2, .o 2 1 nb), (3, I bin), (4, .v (.bool fifo)), (11, .o 3 1 q.2.2.1), (12, I q.1)], H := [pot x, .els 1 LL, .els 1 BL, .els 1 q.2.2.2], nt := 48, dfs := [] })
  (fun q => nb - q.2.1) (fun q => q.2.1 <= nb /\ IsI q.1 q.2.1 /\ q.2.2.1 = (Z4y bins lies bin q.2.1).length /\ q.2.2.2 = Z1y (Z4y bins lies bin q.2.1)) (0, 0, 0, []) ⟨Nat.zero_le _, ⟨rfl⟩, rfl, rfl⟩ ?_ ?_
 ·refine Z2a 11 1 rfl ?_;exact Zf [0, 1, 2, 3] ⟨by decide, Zeb, ⟨rfl, rfl, rfl, rfl, trivial⟩, ⟨rfl, rfl, rfl, rfl, rfl, rfl, rfl, trivial⟩, rfl, rfl⟩
 rintro ⟨i, k, n0, R⟩ ⟨u1, u2, u3, u4⟩;dsimp only at u1 u2 u3 u4;have hRl : R.length = n0 := by rw [u4, u3]; simp [Z1y]
 have hn6 : n0 <= 1000000 := by have := Zqj bins lies bin k; omega
 have hyes : A.cmp .lss i (A.oi nb) = true -> k < nb := fun c => by have := xlt hA c; rw [xoi hA] at this; have := u2.eq; omega
 have hno : A.cmp .lss i (A.oi nb) = false -> k = nb := fun c => by have := Z7x hA c; rw [xoi hA] at this; have := u2.eq; omega
 have hsu := Znc bins lies bin k;have hie := u2.eq;refine Zi Z0 hA hS ?_;cbv;refine bm (fun c => ?_) (fun c => ?_)
 ·have hk := hyes c;have hk4 : k < 4 := by omega
  obtain ⟨b, hbe⟩ : ∃ b, b = bins.getD k 0 := ⟨_, rfl⟩;obtain ⟨l, hle⟩ : ∃ l, l = lies.getD k 0 := ⟨_, rfl⟩;have hBk : BL[k]? = some (I b) := by rw [hB, List.getElem?_map, hgd k hk, hbe]; rfl
  have hLk : LL[k]? = some (I l) := by rw [hL, List.getElem?_map, hgl k hk4, hle]; rfl
  rw [<- hbe, <- hle] at hsu;have i1 : A.inb i nb := Z4o hA u2 hk;have i2 : A.inb i 4 := Z4o hA u2 hk4;have g1 := Z18 hA u2 hBk;have g2 := Z18 hA u2 hLk;have hf := Zy hA u2 (by omega);have hu2 := Zz hA u2;have hms : nb - (k + 1) < nb - k := by omega
  have hn1 : b = bin -> 0 < l -> A.addN n0 1 = (Z4y bins lies bin (k + 1)).length := fun h h' => by rw [hsu, if_pos ⟨h, h'⟩, Z2e hA, u3]; simp
  have hr1 : b = bin -> 0 < l -> A.app R [I i] = Z1y (Z4y bins lies bin (k + 1)) := fun h h' => by rw [hsu, if_pos ⟨h, h'⟩, Z33 hA, u4, hie]; simp [Z1y]
  have hn2 : ¬ (b = bin /\ 0 < l) -> n0 = (Z4y bins lies bin (k + 1)).length := fun h => by rw [hsu, if_neg h, u3]
  have hr2 : ¬ (b = bin /\ 0 < l) -> R = Z1y (Z4y bins lies bin (k + 1)) := fun h => by rw [hsu, if_neg h, u4]
  cbv;refine ⟨i1, ⟨_, g1, ?_⟩⟩;cbv;refine bm (fun c1 => ?_) (fun c1 => ?_)
  ·cbv;refine ⟨i2, ⟨_, g2, ?_⟩⟩;cbv;refine bm (fun c2 => ?_) (fun c2 => ?_)
   ·have h1 := hn1 (xeq hA c1) (xgt hA c2);have h2 := hr1 (xeq hA c1) (xgt hA c2);cbv;refine ⟨Ze hA hRl, Ze hA rfl, Z27 hA hn6 (by decide), hf, ?_⟩;refine Z8 (A.add i 1, k + 1, A.addN n0 1, A.app R [I i]) [0, 1, 2, 5] ⟨hk, hu2, h1, h2⟩ hms ?_;exact ⟨by decide, Zeb, ⟨rfl, rfl, rfl, rfl, trivial⟩, ⟨rfl, rfl, rfl, rfl, rfl, rfl, rfl, trivial⟩, rfl, rfl⟩
   ·have hn3 : ¬ (b = bin /\ 0 < l) := fun h => absurd (Zax hA c2) (Int.not_le.2 h.2);have h1 := hn2 hn3;have h2 := hr2 hn3;cbv;refine ⟨hf, ?_⟩;refine Z8 (A.add i 1, k + 1, n0, R) [0, 1, 2, 3] ⟨hk, hu2, h1, h2⟩ hms ?_;exact ⟨by decide, Zeb, ⟨rfl, rfl, rfl, rfl, trivial⟩, ⟨rfl, rfl, rfl, rfl, rfl, rfl, rfl, trivial⟩, rfl, rfl⟩
  ·have hn3 : ¬ (b = bin /\ 0 < l) := fun h => Z2o hA c1 h.1;have h1 := hn2 hn3;have h2 := hr2 hn3;cbv;refine ⟨hf, ?_⟩;refine Z8 (A.add i 1, k + 1, n0, R) [0, 1, 2, 3] ⟨hk, hu2, h1, h2⟩ hms ?_;exact ⟨by decide, Zeb, ⟨rfl, rfl, rfl, rfl, trivial⟩, ⟨rfl, rfl, rfl, rfl, rfl, rfl, rfl, trivial⟩, rfl, rfl⟩
 ·have hk := hno c;rw [hk] at u3 u4;have hn0p : 0 < n0 := by rw [u3]; exact List.length_pos_iff.2 hne
  obtain ⟨HN, hHN⟩ : ∃ HN, HN = Z4y bins lies bin nb := ⟨_, rfl⟩;rw [<- hHN] at u3 u4 hout;have hH0 : ∃ k0, HN[0]? = some k0 := ⟨_, List.getElem?_eq_getElem (by omega)⟩;obtain ⟨k0, hk0⟩ := hH0;obtain ⟨k0I, hk0I⟩ : ∃ z : Int, z = (k0 : Nat) := ⟨_, rfl⟩;have hR0 : R[0]? = some (I k0I) := by rw [u4, hk0I]; simp [Z1y, hk0]
  have i0 : A.inb 0 n0 := Z4o hA (k := 0) ⟨rfl⟩ hn0p;have g0 := Z18 hA (i := 0) (k := 0) ⟨rfl⟩ hR0;have hf1 : A.fits .i64 (A.sub (A.oi n0) 1) := Z14 hA (by rw [Z24 hA, xoi hA]) (by omega);have hse : A.sub (A.oi n0) 1 = (n0 : Int) - 1 := by rw [Z24 hA, xoi hA]
  have hq1 : fifo = true -> Q (RA.ret (I k0I)) [pot x, .els 1 LL, .els 1 BL] := fun h => by
   obtain ⟨h1, h2⟩ := hout k0 (List.mem_of_getElem? hk0);refine hq k0I k0 x ⟨hk0I⟩ h1 h2 fun _ k' hk' hb' => ?_;rw [hHN] at hk0;have := Zl7 hk0 k' hk';have e : bins.getD k' 0 = bin := by rw [List.getD_eq_getElem?_getD, hb']; rfl
   exact Int.not_lt.1 fun h3 => this ⟨e, h3⟩
  have hq2 : fifo = false -> ∀ (n x' : Int), 0 <= n -> (n <= A.sub (A.oi n0) 1 ∨ n = 0) -> ∃ oI, A.inb n n0 /\ A.get R (A.tn n) = some (I oI) /\ Q (RA.ret (I oI)) [pot x', .els 1 LL, .els 1 BL] := fun hf n x' h1 h2 => by
   have hnt : n.toNat < n0 := by rw [hse] at h2; omega
   have hI : IsI n n.toNat := ⟨by omega⟩;obtain ⟨kk, hkk⟩ : ∃ kk, HN[n.toNat]? = some kk := ⟨_, List.getElem?_eq_getElem (by omega)⟩;obtain ⟨h3, h4⟩ := hout kk (List.mem_of_getElem? hkk);exact ⟨(kk : Nat), Z4o hA hI hnt, Z18 hA hI (by rw [u4]; simp [Z1y, hkk]), hq _ kk x' ⟨rfl⟩ h3 h4 fun h => by rw [hf] at h; cases h⟩
  have hupto : A.sub (A.oi n0) 1 <= 1000000000000 := by rw [hse]; omega
  cbv;refine Z7 ?_;cbv;refine bm (fun c2 => ?_) (fun c2 => ?_)
  ·have hz := hq1 c2;cbv;refine ⟨i0, ⟨_, g0, ?_⟩⟩;cbv;exact Z2 [0, 1, 2] (by decide) Zeb (H' := [pot x, .els 1 LL, .els 1 BL]) (d' := I k0I) ⟨rfl, rfl, rfl, trivial⟩ rfl (Z1 hz)
  ·have hz := hq2 c2;cbv;refine ⟨hf1, ?_⟩;refine Z4 hS [.b 0 0, I (A.sub (A.oi n0) 1)] [0] [pot x] rfl rfl rfl rfl rfl rfl rfl rfl (by decide) ⟨rfl, trivial⟩ (Zj0 x _ hupto _ fun n x' h1 h2 => ?_);obtain ⟨oI, o1, o2, o3⟩ := hz n x' h1 h2;refine Z3 Z0 hA hS ?_;cbv;refine ⟨o1, ⟨_, o2, ?_⟩⟩;cbv;exact Z2 [0, 1, 2] (by decide) Zeb (H' := [pot x', .els 1 LL, .els 1 BL]) (d' := I oI) ⟨rfl, rfl, rfl, trivial⟩ rfl (Z1 o3)
end Go.Proofs.YthljpccegkmdnaaGreatDoor
