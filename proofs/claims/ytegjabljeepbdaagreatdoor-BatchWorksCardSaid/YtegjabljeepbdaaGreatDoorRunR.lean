/- Part RunR of the proofs about the benches of the accordion maker: see the last text of the claim for what is proved. -/
import Derived.Test.YtegjabljeepbdaaGreatDoorRunJ
import Derived.Test.YtegjabljeepbdaaGreatDoorRunL
import Derived.Test.YtegjabljeepbdaaGreatDoorRunQ
import Derived.Test.YtegjabljeepbdaaGreatDoorRunO
set_option linter.unusedVariables false
set_option linter.unusedSimpArgs false
set_option linter.unnecessarySimpa false
set_option linter.constructorNameAsVariable false

namespace Go.Proofs.YtegjabljeepbdaaGreatDoor
open Go Go.Abs Go.Proofs
def natL (l : List Nat) : List D := l.map fun j => I (j : Nat)
theorem Zvp (L : List D) (nums : List Int) (hL : L = nums.map I) (hl : L.length <= 9223372036854775807) (Q) (hq : ∀ x, Q (RA.ret (.b 0 0)) [.box (.agg [U x])]) :
  CallA Tryz.prog 7 [.sl 1 L] [] Q := by
 obtain ⟨A, hA⟩ : ∃ A, A = ar := ⟨_, rfl⟩;refine Z5 Z0 hA Tryz.func7 rfl rfl rfl rfl rfl fun S hS => ?_;cbv;refine Zb hS ?_;refine Zgw (α := Int × Nat × Int) (fun x => { env := [(0, .sl 1 L), (3, .b 0 0), (4, .v (.int .i64 x.1))], H := [.box (.agg [U x.2.2])], nt := 41, dfs := [] }) (fun x => L.length - x.2.1) (fun x => x.2.1 <= L.length /\ x.1 = x.2.1) (0, 0, 2611923443488327891) ⟨Nat.zero_le _, rfl⟩ [0] ?_ ?_
 ·exact ⟨by decide, fun i hi => absurd hi (by simp), ⟨rfl, trivial⟩, ⟨rfl, rfl, rfl, trivial⟩, rfl, rfl⟩
 rintro ⟨i, k, x⟩ ⟨hk, hi⟩
 replace hk : k <= L.length := hk
 replace hi : i = (k : Int) := hi
 refine Zi Z0 hA hS ?_;cbv
 split
 ·rename_i hc
  cbv
  replace hi : i = (k : Int) := hi
  have hlt : k < L.length := by subst hA; simp [ar, Z25] at hc; omega
  refine Z16 Z0 hA hS [0, 1, 2, 3, 4, 5, 6, 7, 8, 9, 10, 11, 12, 13, 14] rfl rfl fun Dk hD => ?_;cbv
  replace hi : i = (k : Int) := hi
  obtain ⟨y, hy⟩ : ∃ y, y = nums[k]'(by rw [hL] at hlt; simpa using hlt) := ⟨_, rfl⟩;refine ⟨by subst hA; simp [ar]; omega, ⟨.v (.int .i64 y), by subst hA; simp [ar, hL, hi, hy, I], ?_⟩⟩;cbv;refine Z16 Z0 hA hS [0, 1, 2, 3, 4, 5, 6, 7, 8, 9, 10, 11, 12, 13] rfl rfl fun Dk hD2 => ?_;cbv
  replace hi : i = (k : Int) := hi
  subst hA;refine ⟨by simp [ar], Zdh (by simp [ar]; omega), (i + 1, k + 1, _), [0], ⟨by simp; omega, by simp; omega⟩, by simp; omega, by decide, fun i hi => absurd hi (by simp), ⟨rfl, trivial⟩, ⟨rfl, rfl, rfl, trivial⟩, rfl, rfl⟩
 ·rename_i hc
  cbv;refine Z1 (hq x)
end Go.Proofs.YtegjabljeepbdaaGreatDoor

namespace Go.Proofs.YtegjabljeepbdaaGreatDoor
open Go Go.Abs Go.Proofs
theorem Z18t {l : List Nat} {k x y : Nat} (h : l[k]? = some y) : (l.set k x ++ [y]).Perm (l ++ [x]) := by
 induction l generalizing k with
 | nil => simp at h
 | cons a l ih =>
  cases k with
  | zero =>
   simp at h; subst h;simp only [List.set_cons_zero, List.cons_append];refine (List.perm_append_comm (l₁ := x :: l) (l₂ := [a])).trans ?_;simp only [List.cons_append, List.nil_append];refine List.Perm.cons _ ?_;exact (List.perm_append_comm (l₁ := [x]) (l₂ := l))
  | succ k =>
   simp only [List.set_cons_succ, List.cons_append];exact (ih (by simpa using h)).cons a
set_option maxRecDepth 20000 in
set_option maxHeartbeats 2000000 in
theorem mix (x n : Int) (m : Nat) (hn : IsI n m) (hm : m <= 1000) (Q) (hq : ∀ (q : List Nat) (QL : List D) x', q.Perm (List.range m) -> QL = natL q -> Q (RA.ret (.sl 1 QL)) [pot x']) :
  CallA Tryz.prog 48 [.b 0 0, I n] [pot x] Q := by
 obtain ⟨A, hA⟩ : ∃ A, A = ar := ⟨_, rfl⟩;have hmx : IsI (A.max 0 n) m := ⟨by rw [Zuq hA]; have := hn.eq; omega⟩;have hr0 : A.nneg (A.max 0 n) := by have := hmx.eq; subst hA; exact (show (0 : Int) <= ar.max 0 n by omega)
 have htn : A.tn (A.max 0 n) = m := ytn hA hmx;have hr1 : A.room (A.tn (A.max 0 n)) 8 := by rw [htn]; subst hA; exact ⟨show m * 8 <= 140737488355328 by omega, show m <= 4611686018427387904 by omega⟩
 have hrep : A.rep (A.tn (A.max 0 n)) (I 0) = natL (List.replicate m 0) := by rw [htn]; subst hA; simp [natL, ar]
 refine Z5 Z0 hA Tryz.func48 rfl rfl rfl rfl rfl fun S hS => ?_;cbv;refine ⟨hr0, hr1, ?_⟩;refine Zb hS ?_;refine Za (α := Int × Nat × Int × List Nat × List D) (fun q => { env := [(0, .b 0 0), (1, I n), (5, .o 1 1 m), (6, I q.1)], H := [pot q.2.2.1, .els 1 q.2.2.2.2], nt := 31, dfs := [] })
  (fun q => m - q.2.1) (fun q => IsI q.1 q.2.1 /\ q.2.1 <= m /\ q.2.2.2.1.length = m /\ (q.2.2.2.1.take q.2.1).Perm (List.range q.2.1) /\ q.2.2.2.2 = natL q.2.2.2.1) (0, 0, x, List.replicate m 0, A.rep (A.tn (A.max 0 n)) (I 0)) ⟨⟨rfl⟩, Nat.zero_le _, by simp, by simp, hrep⟩ ?_ ?_
 ·exact Zf [0, 1] ⟨by decide, Z2n, ⟨rfl, rfl, trivial⟩, ⟨rfl, rfl, by rw [<- htn]; rfl, rfl, trivial⟩, rfl, rfl⟩
 rintro ⟨i, j, y, l, L⟩ ⟨u1, u2, u3, u4, u5⟩;dsimp only at u1 u2 u3 u4 u5;have hLl : L.length = m := by rw [u5]; simp [natL, u3]
 refine Zi Z0 hA hS ?_;cbv;refine bm (fun c => ?_) (fun c => ?_)
 ·have hj : j < m := by have := xlt hA c; have := u1.eq; have := hn.eq; omega
  have hb : i <= 1000000000000 := by have := u1.eq; omega
  have hki : ∀ k : Int, 0 <= k -> (k <= i ∨ k = 0) -> k.toNat <= j := fun k h1 h2 => by have := u1.eq; omega
  have hin1 := Z4o hA u1 hj;have hf1 := Zy hA u1 (by omega);have hu1 := Zz hA u1;have hms : m - (j + 1) < m - j := by omega
  obtain ⟨lj, hlj⟩ : ∃ lj, lj = l[j] := ⟨_, rfl⟩;have hlj' : l[j]? = some lj := by rw [hlj]; exact List.getElem?_eq_getElem (by omega)
  have hLj : L[j]? = some (I (lj : Nat)) := by rw [u5]; simp [natL, hlj']
  cbv;refine Z4 hS [.b 0 0, I i] [0] [pot y] rfl rfl rfl rfl rfl rfl rfl rfl (by decide) ⟨rfl, trivial⟩ (Zj0 y i hb _ fun k y' hk1 hk2 => ?_);have hkj := hki k hk1 hk2;have hkI : IsI k k.toNat := ⟨by omega⟩;obtain ⟨lk, hlk⟩ : ∃ lk, lk = l[k.toNat] := ⟨_, rfl⟩;have hlk' : l[k.toNat]? = some lk := by rw [hlk]; exact List.getElem?_eq_getElem (by omega)
  have hLk : L[k.toNat]? = some (I (lk : Nat)) := by rw [u5]; simp [natL, hlk']
  have hin2 := Z4o hA hkI (show k.toNat < m by omega);obtain ⟨l1, hl1⟩ : ∃ l1, l1 = l.set j lk := ⟨_, rfl⟩;obtain ⟨l2, hl2⟩ : ∃ l2, l2 = l1.set k.toNat j := ⟨_, rfl⟩;obtain ⟨lkI, hlkI⟩ : ∃ z : Int, z = (lk : Nat) := ⟨_, rfl⟩;rw [<- hlkI] at hLk;have hs1 : A.set L (A.tn i) (I lkI) = natL l1 := Z7n hA u1 (by rw [hl1, u5, hlkI]; simp [natL]);have hg2 : ∃ z, (natL l1)[k.toNat]? = some (I z) := by
   refine ⟨(l1[k.toNat]'(by rw [hl1]; simp; omega) : Nat), ?_⟩;simp [natL, List.getElem?_eq_getElem (show k.toNat < l1.length by rw [hl1]; simp; omega)]
  obtain ⟨z, hz⟩ := hg2;have hg3 : A.get (A.set L (A.tn i) (I lkI)) (A.tn k) = some (I z) := by rw [hs1]; exact Z18 hA hkI hz
  have hs2 : A.set (A.set L (A.tn i) (I lkI)) (A.tn k) (I i) = natL l2 := by
   rw [hs1]; exact Z7n hA hkI (by rw [hl2, u1.eq]; simp [natL])
  have hlen2 : l2.length = m := by rw [hl2, hl1]; simp [u3]
  have hper : (l2.take (j + 1)).Perm (List.range (j + 1)) := by
   rw [List.range_succ];refine List.Perm.trans ?_ (u4.append_right [j]);have e1 : l.take (j + 1) = l.take j ++ [lj] := by rw [List.take_add_one, hlj']; rfl
   have hll : l.take j ++ [lj] = l.take (j + 1) := e1.symm;have ht : (l.take j).length = j := by simp; omega
   have e3 : l2.take (j + 1) = ((l.take j ++ [lj]).set j lk).set k.toNat j := by rw [hl2, hl1, List.take_set, List.take_set, e1]
   have e4 : (l.take j ++ [lj]).set j lk = l.take j ++ [lk] := by
    rw [List.set_append_right _ _ (by omega), ht, Nat.sub_self, List.set_cons_zero]
   rw [e3, e4]
   by_cases hkk : k.toNat = j
   ·rw [hkk, List.set_append_right _ _ (by omega), ht, Nat.sub_self, List.set_cons_zero]
   ·have hlt : k.toNat < j := by omega
    rw [List.set_append_left _ _ (by omega)];exact Z18t (by rw [List.getElem?_take, if_pos hlt]; exact hlk')
  refine Z3 Z0 hA hS ?_;cbv;refine ⟨hin2, ⟨_, Z18 hA hkI hLk, ?_⟩⟩;cbv;refine ⟨hin1, ⟨_, Z18 hA u1 hLj, ?_⟩⟩;cbv;refine ⟨hin2, ⟨_, hg3, ?_⟩⟩;cbv;refine ⟨hf1, ?_⟩;refine Z8 (A.add i 1, j + 1, y', l2, A.set (A.set L (A.tn i) (I lkI)) (A.tn k) (I i)) [0, 1] ⟨hu1, hj, hlen2, hper, hs2⟩ hms ?_;exact ⟨by decide, Z2n, ⟨rfl, rfl, trivial⟩, ⟨rfl, rfl, rfl, rfl, trivial⟩, rfl, rfl⟩
 ·have hj : j = m := by have := Z7x hA c; have := u1.eq; have := hn.eq; omega
  have hper : l.Perm (List.range m) := by rw [hj, List.take_of_length_le (by omega)] at u4; exact u4
  cbv;refine Z7 ?_;cbv;refine Z1w [1] ?_;cbv;exact ⟨by cases L <;> exact hLl.symm, Z2 [0] (by decide) Z2n (H' := [pot y]) (d' := .sl 1 L) ⟨rfl, trivial⟩ rfl (Z1 (hq l L y hper u5))⟩
end Go.Proofs.YtegjabljeepbdaaGreatDoor

namespace Go.Proofs.YtegjabljeepbdaaGreatDoor.Bn
open Go Go.Abs Go.Proofs
def lkS (s : Sh) (k : Nat) : List Nat := (List.range k).flatMap fun i => List.replicate (s.tasks.getD i default).works.length i
theorem Z16s (s : Sh) (k : Nat) : lkS s (k + 1) = lkS s k ++ List.replicate (s.tasks.getD k default).works.length k := by
 simp [lkS, List.range_succ]
theorem Z17o (s : Sh) (k : Nat) (hk : k <= s.tasks.length) : (lkS s k).length = Z1cw (s.tasks.take k) := by
 induction k with
 | zero => rfl
 | succ k ih =>
  rw [Z16s, List.length_append, ih (by omega), List.length_replicate, List.take_add_one, List.getElem?_eq_getElem (show k < s.tasks.length by omega)];simp only [Z1cw, List.map_append, List.sum_append, Option.toList_some, List.map_cons, List.map_nil, List.sum_cons, List.sum_nil, Nat.add_zero, List.getD_eq_getElem?_getD, List.getElem?_eq_getElem (show k < s.tasks.length by omega), Option.getD_some]
theorem Z16t (l : List Tk) (k : Nat) : Z1cw (l.take k) <= Z1cw l := by
 conv => rhs; rw [<- List.take_append_drop k l]
 simp only [Z1cw, List.map_append, List.sum_append]; omega
theorem Z195 {s : Sh} {k x : Nat} (h : x ∈ lkS s k) : x < k := by
 simp only [lkS, List.mem_flatMap, List.mem_range, List.mem_replicate] at h;obtain ⟨i, h1, -, rfl⟩ := h;exact h1
theorem Z186 (s : Sh) (k i : Nat) : (lkS s k).count i = if i < k then (s.tasks.getD i default).works.length else 0 := by
 induction k with
 | zero => simp [lkS]
 | succ k ih =>
  rw [Z16s, List.count_append, ih, List.count_replicate]
  by_cases e : k = i
  ·subst e; simp
  ·rw [if_neg (show ¬ (k == i) = true by simpa using e), Nat.add_zero]
   by_cases h : i < k
   ·rw [if_pos h, if_pos (by omega)]
   ·rw [if_neg h, if_neg (by omega)]
theorem Z16u (l : List Nat) : (List.range l.length).map (l.getD · 0) = l := by
 refine List.ext_getElem? fun i => ?_
 by_cases hi : i < l.length
 ·rw [List.getElem?_map, List.getElem?_range hi, Option.map_some, List.getD_eq_getElem?_getD, List.getElem?_eq_getElem hi]; rfl
 ·rw [List.getElem?_eq_none (by simp; omega), List.getElem?_eq_none (by omega)]
theorem Z187 {s : Sh} {p : List Nat} (h : p.Perm (lkS s s.tasks.length)) : PlanOk s p := by
 refine ⟨fun i hi => Z195 (h.mem_iff.1 hi), fun i hi => ?_, ?_⟩
 ·rw [h.count_eq, Z186, if_pos hi]
 ·rw [h.length_eq, Z17o _ _ (Nat.le_refl _), List.take_length]
set_option maxRecDepth 20000 in
set_option maxHeartbeats 2000000 in
theorem planOf (x : Int) (s : Sh) (hsum : Z1cw s.tasks <= 1000) (hsl : s.tasks.length <= 1000) (TL : List D) (hT : TL = s.tasks.map Z14z) (Q) (hq : ∀ p PL x', PlanOk s p -> PL = Z15w p -> Q (RA.ret (.sl 1 PL)) [pot x']) :
  CallA Tryz.prog 13 [.b 0 0, .agg [I s.benches, .sl 3 TL]] [pot x] Q := by
 obtain ⟨A, hA⟩ : ∃ A, A = ar := ⟨_, rfl⟩;obtain ⟨N, hN⟩ : ∃ N, N = s.tasks.length := ⟨_, rfl⟩;have hTl : TL.length = N := by rw [hT, hN]; simp
 have hlb : ∀ k, k <= N -> (lkS s k).length <= 1000 := fun k hk => by
  rw [Z17o _ _ (by omega)]; exact Nat.le_trans (Z16t _ _) hsum
 refine Z5 Z0 hA Tryz.func13 rfl rfl rfl rfl rfl fun S hS => ?_;cbv;refine Zb hS ?_;refine Za (α := Int × Nat × Nat × List D) (fun q => { env := [(0, .b 0 0), (3, .b 1 0), (5, .o 2 1 q.2.2.1), (6, I q.1)], H := [pot x, .box (.agg [I s.benches, .sl 3 TL]), .els 1 q.2.2.2], nt := 54, dfs := [] })
  (fun q => N - q.2.1) (fun q => IsI q.1 q.2.1 /\ q.2.1 <= N /\ q.2.2.1 = (lkS s q.2.1).length /\ q.2.2.2 = natL (lkS s q.2.1)) (0, 0, 0, []) ⟨⟨rfl⟩, Nat.zero_le _, rfl, rfl⟩ ?_ ?_
 ·refine Z2a 5 1 rfl ?_;exact Zf [0, 1, 2] ⟨by decide, Z2n, ⟨rfl, rfl, rfl, trivial⟩, ⟨rfl, rfl, rfl, rfl, trivial⟩, rfl, rfl⟩
 rintro ⟨i, k, c0, L0⟩ ⟨u1, u2, u3, u4⟩;dsimp only at u1 u2 u3 u4;refine Zi Z0 hA hS ?_;cbv;refine bm (fun c => ?_) (fun c => ?_)
 ·have hk : k < N := Z31 hA hTl u1 c;obtain ⟨t, ht⟩ : ∃ t, t = s.tasks[k] := ⟨_, rfl⟩;have htk : s.tasks[k]? = some t := by rw [ht]; exact List.getElem?_eq_getElem (by omega)
  have htd : s.tasks.getD k default = t := by rw [List.getD_eq_getElem?_getD, htk]; rfl
  obtain ⟨WL, hWL⟩ : ∃ WL, WL = t.works.map Z14x := ⟨_, rfl⟩;obtain ⟨wn, hwn⟩ : ∃ wn, wn = t.works.length := ⟨_, rfl⟩;have hWl : WL.length = wn := by rw [hWL, hwn]; simp
  have hTk : TL[k]? = some (.agg [I t.ready, I t.due, .sl 3 WL]) := by rw [hT]; simp [htk, hWL, Z14z]
  have hls : lkS s (k + 1) = lkS s k ++ List.replicate wn k := by rw [Z16s, htd, hwn]
  have hlb1 := hlb (k + 1) hk;rw [hls] at hlb1;have hcb : c0 + wn <= 1000 := by simp at hlb1; omega
  have hin := Z1b hA hTl u1 hk;have hgt := Z18 hA u1 hTk;have hf1 := Zy hA u1 (by omega);have hu1 := Zz hA u1;have hms : N - (k + 1) < N - k := by omega
  cbv;refine Zb hS ?_;refine Za (α := Int × Nat × Nat × List D) (fun q => { env := [(0, .b 0 0), (3, .b 1 0), (5, .o 2 1 q.2.2.1), (6, I i), (7, I q.1)], H := [pot x, .box (.agg [I s.benches, .sl 3 TL]), .els 1 q.2.2.2], nt := 54, dfs := [] })
   (fun q => wn - q.2.1) (fun q => IsI q.1 q.2.1 /\ q.2.1 <= wn /\ q.2.2.1 = c0 + q.2.1 /\ q.2.2.2 = natL (lkS s k ++ List.replicate q.2.1 k)) (0, 0, c0, L0) ⟨⟨rfl⟩, Nat.zero_le _, rfl, by rw [u4]; simp⟩ ?_ ?_
  ·exact Zf [0, 1, 2] ⟨by decide, Z2n, ⟨rfl, rfl, rfl, trivial⟩, ⟨rfl, rfl, rfl, rfl, rfl, trivial⟩, rfl, rfl⟩
  rintro ⟨j, m, c1, L1⟩ ⟨v1, v2, v3, v4⟩;dsimp only at v1 v2 v3 v4;have hLl : L1.length = c1 := by rw [v4, v3, u3]; simp [natL]
  have hf2 := Zy hA v1 (by omega);have hv1 := Zz hA v1;have hc1b : c1 <= 1000000 := by omega
  refine Zi Z0 hA hS ?_;cbv;refine ⟨hin, ⟨_, hgt, ?_⟩⟩;cbv;refine bm (fun c2 => ?_) (fun c2 => ?_)
  ·have hm : m < wn := Z31 hA hWl v1 c2;have hms2 : wn - (m + 1) < wn - m := by omega
   have hLn : A.app L1 [I i] = natL (lkS s k ++ List.replicate (m + 1) k) := by
    rw [Z33 hA, v4, u1.eq, List.replicate_succ']; simp [natL]
   have hcn : A.addN c1 1 = c0 + (m + 1) := by rw [Z2e hA]; omega
   cbv;refine ⟨Ze hA hLl, Ze hA rfl, Z27 hA hc1b (by decide), hf2, ?_⟩;refine Z8 (A.add j 1, m + 1, A.addN c1 1, A.app L1 [I i]) [0, 1, 4] ⟨hv1, hm, hcn, hLn⟩ hms2 ?_;exact ⟨by decide, Z2n, ⟨rfl, rfl, rfl, trivial⟩, ⟨rfl, rfl, rfl, rfl, rfl, trivial⟩, rfl, rfl⟩
  ·have hm : m = wn := by have := Z21 hA hWl v1 c2; omega
   have hLe : L1 = natL (lkS s (k + 1)) := by rw [v4, hm, hls]
   have hce : c1 = (lkS s (k + 1)).length := by rw [v3, hm, hls, u3]; simp
   cbv;refine Z7 ?_;cbv;refine ⟨hf1, ?_⟩;refine Z8 (A.add i 1, k + 1, c1, L1) [0, 1, 2] ⟨hu1, hk, hce, hLe⟩ hms ?_;exact ⟨by decide, Z2n, ⟨rfl, rfl, rfl, trivial⟩, ⟨rfl, rfl, rfl, rfl, trivial⟩, rfl, rfl⟩
 ·have hk : k = N := by have := Z21 hA hTl u1 c; omega
  obtain ⟨l, hl⟩ : ∃ l, l = lkS s N := ⟨_, rfl⟩;have hL0 : L0 = natL l := by rw [u4, hk, hl]
  have hc0 : c0 = l.length := by rw [u3, hk, hl]
  have hlen1 : l.length <= 1000 := by rw [hl]; exact hlb N (Nat.le_refl _)
  have hL0l : L0.length = c0 := by rw [hL0, hc0]; simp [natL]
  have hcI : IsI (A.oi c0) c0 := ⟨xoi hA c0⟩;cbv;refine Z7 ?_;cbv;refine Z4 hS [.b 0 0, I (A.oi c0)] [0] [pot x] rfl rfl rfl rfl rfl rfl rfl rfl (by decide) ⟨rfl, trivial⟩ (mix x (A.oi c0) c0 hcI (by omega) _ fun q QL x' hqp hQL => ?_);have hql : q.length = c0 := by rw [hqp.length_eq]; simp
  have hQl : QL.length = c0 := by rw [hQL]; simp [natL, hql]
  refine Z3 Z0 hA hS ?_;cbv;refine Zb hS ?_;refine Za (α := Int × Nat × List D) (fun q' => { env := [(5, .o 2 1 c0), (8, .sl 1 QL), (9, .o 3 1 q'.2.1), (10, I q'.1)], H := [pot x', .box (.agg [I s.benches, .sl 3 TL]), .els 1 L0, .els 1 q'.2.2], nt := 54, dfs := [] })
   (fun q' => c0 - q'.2.1) (fun q' => IsI q'.1 q'.2.1 /\ q'.2.1 <= c0 /\ q'.2.2 = natL ((q.take q'.2.1).map (l.getD · 0))) (0, 0, []) ⟨⟨rfl⟩, Nat.zero_le _, rfl⟩ ?_ ?_
  ·refine Z2a 9 1 rfl ?_;exact Zf [0, 1, 2, 3] ⟨by decide, Z2n, ⟨rfl, rfl, rfl, rfl, trivial⟩, ⟨rfl, rfl, rfl, rfl, trivial⟩, rfl, rfl⟩
  rintro ⟨j, m, OL⟩ ⟨v1, v2, v3⟩;dsimp only at v1 v2 v3;have hOl : OL.length = m := by rw [v3]; simp [natL]; omega
  refine Zi Z0 hA hS ?_;cbv;refine bm (fun c2 => ?_) (fun c2 => ?_)
  ·have hm : m < c0 := Z31 hA hQl v1 c2;obtain ⟨a, ha⟩ : ∃ a, a = q[m] := ⟨_, rfl⟩;have hqa : q[m]? = some a := by rw [ha]; exact List.getElem?_eq_getElem (by omega)
   have hac : a < c0 := by have := hqp.mem_iff.1 (List.mem_of_getElem? hqa); simpa using this
   obtain ⟨aI, haI⟩ : ∃ aI, IsI aI a := ⟨_, ⟨rfl⟩⟩;have hQa : QL[m]? = some (I aI) := by rw [hQL, haI.eq]; simp [natL, hqa]
   obtain ⟨v, hv⟩ : ∃ v : Int, v = (l.getD a 0 : Nat) := ⟨_, rfl⟩;have hLa : L0[a]? = some (I v) := by rw [hL0, hv]; simp [natL, List.getD_eq_getElem?_getD, List.getElem?_eq_getElem (show a < l.length by omega)]
   have hOn : A.app OL [I v] = natL ((q.take (m + 1)).map (l.getD · 0)) := by rw [Z33 hA, v3, List.take_add_one, hqa, hv]; simp [natL]
   have hin1 := Z1b hA hQl v1 hm;have hin2 := Z4o hA haI hac;have hf2 := Zy hA v1 (by omega);have hv1 := Zz hA v1;have hms2 : c0 - (m + 1) < c0 - m := by omega
   have hmb : m <= 1000000 := by omega
   cbv;refine ⟨hin1, ⟨_, Z18 hA v1 hQa, ?_⟩⟩;cbv;refine ⟨hin2, ⟨_, Z18 hA haI hLa, ?_⟩⟩;cbv;refine ⟨Ze hA hOl, Ze hA rfl, Z27 hA hmb (by decide), hf2, ?_⟩;refine Z8 (A.add j 1, m + 1, A.app OL [I v]) [0, 1, 2, 5] ⟨hv1, hm, hOn⟩ hms2 ?_;exact ⟨by decide, Z2n, ⟨rfl, rfl, rfl, rfl, trivial⟩, ⟨rfl, rfl, by subst hA; rfl, rfl, trivial⟩, rfl, rfl⟩
  ·have hm : m = c0 := by have := Z21 hA hQl v1 c2; omega
   obtain ⟨p, hp⟩ : ∃ p, p = q.map (l.getD · 0) := ⟨_, rfl⟩;have hOp : OL = Z15w p := by rw [v3, hm, List.take_of_length_le (by omega), hp]; rfl
   have hpo : PlanOk s p := Z187 (by
    rw [hp, <- hN, <- hl]
    refine (hqp.map _).trans ?_
    rw [hc0, Z16u])
   cbv;refine Z7 ?_;cbv;refine Z1w [3] ?_;cbv;exact ⟨by cases OL <;> exact hOl.symm, Z2 [0] (by decide) Z2n (H' := [pot x']) (d' := .sl 1 OL) ⟨rfl, trivial⟩ rfl (Z1 (hq p OL x' hpo hOp))⟩
end Go.Proofs.YtegjabljeepbdaaGreatDoor.Bn

namespace Go.Batch
def Z6o (j : Jn) (l : List Nat) : Bool := Zc (Z12 j l)
def Z46 (cs l : List Nat) (k left : Nat) : List (List Nat) := (Zw (cs.drop k) left).map (l ++ ·)
theorem Zhk (cs l : List Nat) (k : Nat) : Z46 cs l k 0 = [l] := by
 unfold Z46
 cases cs.drop k <;> simp [Zw]
theorem Zt0 {cs : List Nat} (l : List Nat) {k left : Nat} (h : cs.length <= k) : Z46 cs l k (left + 1) = [] := by
 unfold Z46;rw [List.drop_eq_nil_of_le h]; rfl
theorem Zqh {cs : List Nat} (l : List Nat) {k left x : Nat} (h : cs[k]? = some x) : Z46 cs l k (left + 1) = Z46 cs (l ++ [x]) (k + 1) left ++ Z46 cs l (k + 1) (left + 1) := by
 unfold Z46;obtain ⟨h1, h2⟩ := List.getElem?_eq_some_iff.1 h;rw [List.drop_eq_getElem_cons h1, h2, Zw, List.map_append, List.map_map]
 congr 1
 exact List.map_congr_left fun y _ => by simp
theorem Ze6 {α : Type} : ∀ l : List α, Zw l l.length = [l]
 | [] => rfl
 | x :: l => by
  have h : ∀ (l : List α) (n : Nat), l.length < n -> Zw l n = [] := by
   intro l
   induction l with
   | nil => intro n h; cases n with | zero => exact absurd h (Nat.not_lt_zero _) | succ n => rfl
   | cons y l ih =>
    intro n h
    cases n with
    | zero => exact absurd h (by simp)
    | succ n => simp only [List.length_cons] at h; rw [Zw, ih n (by omega), ih (n + 1) (by omega)]; rfl
  rw [List.length_cons, Zw, Ze6 l, h l _ (Nat.lt_succ_self _)]; rfl
theorem Zt1 {j : Jn} {s : Nat} {c : List Nat} (hs : s <= (Zp j).length) (h0 : ∀ t, t < s -> (Zw (Zp j) t).find? (Z6o j) = none) (h : (Zw (Zp j) s).find? (Z6o j) = some c) : Z6c j = some c := by
 have e : (List.range ((Zp j).length + 1)) = List.range s ++ ([s] ++ (List.range ((Zp j).length - s)).map (s + 1 + ·)) := by
  rw [show (Zp j).length + 1 = (s + 1) + ((Zp j).length - s) by omega, List.range_add, List.range_succ, List.append_assoc]
 unfold Z6c Z9t;rw [e, List.flatMap_append, List.find?_append];have : ((List.range s).flatMap (Zw (Zp j))).find? (fun l => Zc (Z12 j l)) = none := by
  rw [List.find?_eq_none];intro x hx;obtain ⟨t, ht, hxt⟩ := List.mem_flatMap.1 hx;exact List.find?_eq_none.1 (h0 t (List.mem_range.1 ht)) x hxt
 rw [this, Option.none_or, List.flatMap_append, List.find?_append];have h2 : ([s].flatMap (Zw (Zp j))).find? (fun l => Zc (Z12 j l)) = some c := by
  have e2 : [s].flatMap (Zw (Zp j)) = Zw (Zp j) s := by simp
  rw [e2]; exact h
 rw [h2]; rfl
end Go.Batch
namespace Go.Proofs.YtegjabljeepbdaaGreatDoor
open Go Go.Abs Go.Proofs Go.Batch
def grH (j : Jn) (FL ML CL : List D) (fd : D) : List Blk :=
 [.box fd, .box (.agg [.fn 105 [.cb (.agg [I j.ins, .sl 1 FL, .sl 5 ML]) 0], .v (.bool true), .sl 1 CL]), .box (.fn 108 [.cb (.agg [I j.ins, .sl 1 FL, .sl 5 ML]) 0, .b 0 0, .b 1 0, .b 2 0])]
set_option maxRecDepth 20000 in
set_option maxHeartbeats 8000000 in
theorem Zyc (j : Jn) (hj : JOk j) (FL ML : List D) (hF : FL = j.first.map Zv) (hM : ML = j.moves.map mvD) (cs : List Nat) (hcs : cs.length <= 10) (CL : List D) (hCL : CL = Z1y cs) :
  ∀ (left : Nat) (l : List Nat) (from_ : Nat) (X L : List D) (fI lI : Int), L = Z1y l -> from_ <= cs.length -> l.length + left <= 100 -> IsI fI from_ -> IsI lI left -> ∀ Q,
  (∀ c, (Z46 cs l from_ left).find? (Z6o j) = some c -> ∀ NC, NC = Z1y c -> Q (RA.ret (.v (.bool true))) (grH j FL ML CL (.sl 1 NC))) ->
  ((Z46 cs l from_ left).find? (Z6o j) = none -> ∀ X', Q (RA.ret (.v (.bool false))) (grH j FL ML CL (.sl 1 X'))) ->
  CallA Tryz.prog 108 [.sl 1 L, I fI, I lI, .cb (.agg [I j.ins, .sl 1 FL, .sl 5 ML]) 0, .b 0 0, .b 1 0, .b 2 0] (grH j FL ML CL (.sl 1 X)) Q := by
 obtain ⟨A, hA⟩ : ∃ A, A = ar := ⟨_, rfl⟩;have hm10 := hj.m10;have hCl : CL.length = cs.length := by rw [hCL]; simp [Z1y]
 intro left
 induction left with
 | zero =>
  intro l from_ X L fI lI hL hfl hll hfi hli Q hq1 hq0;have hll6 : l.length <= 1000000 := by omega
  have hwo := fun Q => Zl4 j (by omega) l hll6 FL ML L hM hL Q;have hst := fun ML' hM' Q => Zan (Z12 j l) (hj.without l) Zn 50 [] Z73 FL ML' (show FL = (Z12 j l).first.map Zv from hF) hM' Q;have hc0 : A.cmp .eql lI 0 = true := by have := hli.eq; subst hA; simp [ar, Z25, this]
  have hy : Zc (Z12 j l) = true -> (Z46 cs l from_ 0).find? (Z6o j) = some l := fun h => by rw [Zhk]; simp [List.find?, Z6o, h]
  have hn : Zc (Z12 j l) = false -> (Z46 cs l from_ 0).find? (Z6o j) = none := fun h => by rw [Zhk]; simp [List.find?, Z6o, h]
  refine Z5 Z0 hA Tryz.func108 rfl rfl rfl rfl rfl fun S hS => ?_;cbv;refine bm (fun _ => ?_) (fun c => Bool.noConfusion (hc0.symm.trans c));cbv;refine Z4 hS [.agg [I j.ins, .sl 1 FL, .sl 5 ML], .sl 1 L] [] [] rfl rfl rfl rfl rfl rfl rfl rfl (by decide) trivial (hwo _ fun ML' hML' => ?_);refine Z3 Z0 hA hS ?_;cbv;refine Z4 hS [.agg [I j.ins, .sl 1 FL, .sl 5 ML'], .fn 50 []] [] [] rfl rfl rfl rfl rfl rfl rfl rfl (by decide) trivial (hst ML' hML' _ (fun ents hme hne => ?_) (fun h0 => ?_))
  ·have hz := hq1 l (hy ((Z28 _ Zn).2 hne)) L hL;refine Z3 Z0 hA hS ?_;cbv;exact Z2 [0, 1, 2] (by decide) Zeb (H' := grH j FL ML CL (.sl 1 L)) (d' := .v (.bool true)) ⟨rfl, rfl, rfl, trivial⟩ rfl (Z1 hz)
  ·have hz := hq0 (hn (Z3y h0)) L;refine Z3 Z0 hA hS ?_;cbv;exact Z2 [0, 1, 2] (by decide) Zeb (H' := grH j FL ML CL (.sl 1 L)) (d' := .v (.bool false)) ⟨rfl, rfl, rfl, trivial⟩ rfl (Z1 hz)
 | succ left ih =>
  intro l from_ X L fI lI hL hfl hll hfi hli Q hq1 hq0;have hLl : L.length = l.length := by rw [hL]; simp [Z1y]
  obtain ⟨n, hn⟩ : ∃ n, n = l.length := ⟨_, rfl⟩;rw [<- hn] at hLl;have hn6 : n <= 1000000 := by omega
  have hc0 : A.cmp .eql lI 0 = false := by have := hli.eq; subst hA; simp [ar, Z25, this]; omega
  have hfl1 : A.fits .i64 (A.sub lI 1) := Z14 hA (Z24 hA lI 1) (by have := hli.eq; omega);have hli1 : IsI (A.sub lI 1) left := ⟨by rw [Z24 hA]; have := hli.eq; omega⟩;refine Z5 Z0 hA Tryz.func108 rfl rfl rfl rfl rfl fun S hS => ?_;cbv;refine bm (fun c => Bool.noConfusion (hc0.symm.trans c)) (fun _ => ?_);cbv;refine Zb hS ?_;refine Za (α := Int × Nat × List D) (fun q => { env := [(0, .sl 1 L), (2, I lI), (3, .cb (.agg [I j.ins, .sl 1 FL, .sl 5 ML]) 0), (4, .b 0 0), (5, .b 1 0), (6, .b 2 0), (13, I q.1)], H := grH j FL ML CL (.sl 1 q.2.2), nt := 46, dfs := [] })
   (fun q => cs.length - q.2.1) (fun q => q.2.1 <= cs.length /\ IsI q.1 q.2.1 /\ (Z46 cs l from_ (left + 1)).find? (Z6o j) = (Z46 cs l q.2.1 (left + 1)).find? (Z6o j)) (fI, from_, X) ⟨hfl, hfi, rfl⟩ ?_ ?_
  ·exact Zf [0, 1, 2] ⟨by decide, Zeb, ⟨rfl, rfl, rfl, trivial⟩, ⟨rfl, rfl, rfl, rfl, rfl, rfl, rfl, trivial⟩, rfl, rfl⟩
  rintro ⟨i, k, X1⟩ ⟨u1, u2, u3⟩;dsimp only at u1 u2 u3;have hyes : A.cmp .lss i (A.oi (A.len CL)) = true -> k < cs.length := fun c => Z31 hA hCl u2 c;have hno : A.cmp .lss i (A.oi (A.len CL)) = false -> cs.length <= k := fun c => Z21 hA hCl u2 c;have hend : cs.length <= k -> (Z46 cs l from_ (left + 1)).find? (Z6o j) = none := fun h => by rw [u3, Zt0 l h]; rfl
  refine Zi Z0 hA hS ?_;cbv;refine Z4 hS [.b 0 0] [1] [.box (.agg [.fn 105 [.cb (.agg [I j.ins, .sl 1 FL, .sl 5 ML]) 0], .v (.bool true), .sl 1 CL])] rfl rfl rfl rfl rfl rfl rfl rfl (by decide) ⟨rfl, trivial⟩ (Zsz _ CL _ ?_);refine Z3 Z0 hA hS ?_;cbv;refine bm (fun c => ?_) (fun c => ?_)
  ·have hk := hyes c;obtain ⟨x, hx⟩ : ∃ x, cs[k]? = some x := ⟨_, List.getElem?_eq_getElem hk⟩;obtain ⟨xI, hxI⟩ : ∃ z : Int, z = (x : Nat) := ⟨_, rfl⟩;have hCk : CL[k]? = some (I xI) := by rw [hCL, hxI]; simp [Z1y, hx]
   have hin := Z1b hA hCl u2 hk;have hg := Z18 hA u2 hCk;have hf1 := Zy hA u2 (by omega);have hu2 := Zz hA u2;have hms : cs.length - (k + 1) < cs.length - k := by omega
   have hcn := Zqh l (left := left) hx;have hfa : (Z46 cs l k (left + 1)).find? (Z6o j) = ((Z46 cs (l ++ [x]) (k + 1) left).find? (Z6o j)).or ((Z46 cs l (k + 1) (left + 1)).find? (Z6o j)) := by rw [hcn, List.find?_append]
   have hyy : ∀ c, (Z46 cs (l ++ [x]) (k + 1) left).find? (Z6o j) = some c -> (Z46 cs l from_ (left + 1)).find? (Z6o j) = some c := fun c h => by rw [u3, hfa, h]; rfl
   have hnn : (Z46 cs (l ++ [x]) (k + 1) left).find? (Z6o j) = none -> (Z46 cs l from_ (left + 1)).find? (Z6o j) = (Z46 cs l (k + 1) (left + 1)).find? (Z6o j) := fun h => by rw [u3, hfa, h]; rfl
   have hL2 : A.app L [I xI] = Z1y (l ++ [x]) := by rw [Z33 hA, hL, hxI]; simp [Z1y]
   have hapl : A.addN n 1 = A.len (A.app L [I xI]) := by subst hA; show n + 1 = (L ++ [I xI]).length; simp [hLl]
   have hrec := ih (l ++ [x]) (k + 1) X1 (A.app L [I xI]) (A.add i 1) (A.sub lI 1) hL2 hk (by simp; omega) hu2 hli1;cbv;refine Z16 Z0 hA hS [0, 1, 4, 9, 10, 11, 12, 2, 3, 5, 6, 7, 8, 13] rfl rfl fun Dk hD => ?_;cbv;refine ⟨hf1, hfl1, ?_⟩;refine Zq hA hD [.sl 1 L] [] [] rfl rfl rfl rfl rfl rfl rfl rfl rfl rfl rfl (by decide) trivial (Zvn L n hLl hn6 _ ⟨by cbv, Zx Z0 hA hD ?_⟩);cbv;refine Zq hA hD [.b 0 0] [1] [.box (.agg [.fn 105 [.cb (.agg [I j.ins, .sl 1 FL, .sl 5 ML]) 0], .v (.bool true), .sl 1 CL])] rfl rfl rfl rfl rfl rfl rfl rfl rfl rfl rfl (by decide) ⟨rfl, trivial⟩ (Zsz _ CL _ ⟨by cbv, Zx Z0 hA hD ?_⟩);cbv;refine ⟨hin, ⟨_, hg, ?_⟩⟩;cbv;refine ⟨Ze hA hLl, Ze hA rfl, Z27 hA hn6 (by decide), (by repeat' (first | exact trivial | exact Need.mk ⟨_, hg, rfl⟩ | exact hin | refine ⟨?_, ?_⟩)), ?_⟩;refine Zmn hA hD [5] rfl rfl rfl rfl rfl rfl fun CG hC => ?_;cbv;refine ⟨Zkd hA hapl, ?_⟩;rw [hC];refine Zs5 [.sl 1 (A.app L [I xI]), I (A.add i 1), I (A.sub lI 1), .cb (.agg [I j.ins, .sl 1 FL, .sl 5 ML]) 0, .b 0 0, .b 1 0, .b 2 0] [0, 1, 2] (grH j FL ML CL (.sl 1 X1)) rfl rfl rfl rfl rfl (by decide) ⟨rfl, rfl, rfl, trivial⟩
    (hrec _ (fun c hc NC hNC => Zo8 hA Z0 hD ?_ ?_) (fun h0 X' => Zo8 hA Z0 hD ?_ ?_))
   ·cbv; repeat' (first | exact trivial | exact Need.mk ⟨_, hg, rfl⟩ | exact hin | refine ⟨?_, ?_⟩)
   ·have hz := hq1 c (hyy c hc) NC hNC;cbv;refine Z7 ?_;cbv;exact Z2 [0, 1, 2] (by decide) Zeb (H' := grH j FL ML CL (.sl 1 NC)) (d' := .v (.bool true)) ⟨rfl, rfl, rfl, trivial⟩ rfl (Z1 hz)
   ·cbv; repeat' (first | exact trivial | exact Need.mk ⟨_, hg, rfl⟩ | exact hin | refine ⟨?_, ?_⟩)
   ·have hz := hnn h0;cbv;refine ⟨hf1, ?_⟩;refine Z8 (A.add i 1, k + 1, X') [0, 1, 2] ⟨hk, hu2, hz⟩ hms ?_;exact ⟨by decide, Zeb, ⟨rfl, rfl, rfl, trivial⟩, ⟨rfl, rfl, rfl, rfl, rfl, rfl, rfl, trivial⟩, rfl, rfl⟩
  ·have hz := hq0 (hend (hno c)) X1;cbv;refine Z7 ?_;cbv;exact Z2 [0, 1, 2] (by decide) Zeb (H' := grH j FL ML CL (.sl 1 X1)) (d' := .v (.bool false)) ⟨rfl, rfl, rfl, trivial⟩ rfl (Z1 hz)
set_option maxRecDepth 20000 in
set_option maxHeartbeats 8000000 in
theorem Zt2 (j : Jn) (hf : j.first.length <= 1152921504606846976) (hm : j.moves.length <= 1152921504606846976) (FL ML : List D) (hF : FL = j.first.map Zv) (hM : ML = j.moves.map mvD) (Q)
  (he : ∀ e, e = Zr j -> e ≠ 0 -> Q (RA.ret (.tup [.v (.slice none 0 0), I e])) []) (hp : JOk j -> Zc (Z12 j (Zp j)) = false -> Q (RA.ret (.tup [.v (.slice none 0 0), I 9])) [])
  (hq : JOk j -> Zc (Z12 j (Zp j)) = true -> ∀ c, Z6c j = some c -> ∀ L, L = Z1y c -> Q (RA.ret (.tup [.sl 1 L, I 0])) []) :
  CallA Tryz.prog 71 [.agg [I j.ins, .sl 1 FL, .sl 5 ML]] [] Q := by
 obtain ⟨A, hA⟩ : ∃ A, A = ar := ⟨_, rfl⟩;obtain ⟨e1, he1⟩ : ∃ e1, e1 = Zr j := ⟨_, rfl⟩;have hb1 : A.bnot true = false := by subst hA; rfl
 have hb0 : A.bnot false = true := by subst hA; rfl
 refine Z5 Z0 hA Tryz.func71 rfl rfl rfl rfl rfl fun S hS => ?_;cbv;refine Z4 hS [.agg [I j.ins, .sl 1 FL, .sl 5 ML]] [] [] rfl rfl rfl rfl rfl rfl rfl rfl (by decide) trivial (bCheck j hf hm FL ML hF hM e1 he1 _ ?_);refine Z3 Z0 hA hS ?_;cbv;refine bm (fun c => ?_) (fun c => ?_)
 ·have hz := he e1 he1 (xne hA c);cbv;exact Z2 [] (by decide) Z9 (H' := []) (d' := .tup [.v (.slice none 0 0), I e1]) trivial rfl (Z1 hz)
 have hc0 : Zr j = 0 := he1.symm.trans (Z4t hA c);have hj : JOk j := Z2r hc0;have hm10 := hj.m10;obtain ⟨cs, hcs⟩ : ∃ cs, cs = Zp j := ⟨_, rfl⟩;have hcl : cs.length <= 10 := by rw [hcs]; exact Nat.le_trans (Z7j _ _) hm10
 obtain ⟨n, hn⟩ : ∃ n, n = cs.length := ⟨_, rfl⟩;have hg0 := fun Q => Zyb j (by omega) FL ML hM Q;have hwo := fun CL (h : CL = Z1y cs) Q => Zl4 j (by omega) cs (by omega) FL ML CL hM h Q;have hst := fun ML' hM' Q => Zan (Z12 j cs) (hj.without cs) Zn 50 [] Z73 FL ML' (show FL = (Z12 j cs).first.map Zv from hF) hM' Q;rw [<- hcs] at hg0;have hp0 := fun (h : Zc (Z12 j cs) = false) => hp hj (by rw [<- hcs]; exact h);have hq0 := fun (h : Zc (Z12 j cs) = true) c hc L hL => hq hj (by rw [<- hcs]; exact h) c hc L hL;cbv;refine Z3h hS (Z1a hA [0] ?_);cbv;refine Z7 ?_;refine Z16 Z0 hA hS [0, 1, 2, 3, 4, 5, 6, 7, 8] rfl rfl fun Dk hD => ?_;cbv;refine Zq hA hD [.b 0 0] [1] [.box (.agg [.fn 105 [.cb (.agg [I j.ins, .sl 1 FL, .sl 5 ML]) 0], .v (.bool false), .v (.slice none 0 0)])] rfl rfl rfl rfl rfl rfl rfl rfl rfl rfl rfl (by decide) ⟨rfl, trivial⟩ (hg0 _ fun CL hCL => ⟨by cbv, Zx Z0 hA hD ?_⟩);have hCl : CL.length = n := by rw [hCL, hn]; simp [Z1y]
 have hwo' := hwo CL hCL;cbv;refine Zq hA hD [.agg [I j.ins, .sl 1 FL, .sl 5 ML], .sl 1 CL] [] [] rfl rfl rfl rfl rfl rfl rfl rfl rfl rfl rfl (by decide) trivial (hwo' _ fun ML' hML' => ⟨by cbv, Zx Z0 hA hD ?_⟩);cbv;refine Zq hA hD [.agg [I j.ins, .sl 1 FL, .sl 5 ML'], .fn 50 []] [] [] rfl rfl rfl rfl rfl rfl rfl rfl rfl rfl rfl (by decide) trivial (hst ML' hML' _ (fun ents hme hne => ⟨by cbv, Zx Z0 hA hD ?_⟩) (fun h0 => ⟨by cbv, Zx Z0 hA hD ?_⟩))
 ·have hs : Zc (Z12 j cs) = true := (Z28 _ Zn).2 hne;have hall : Z6o j cs = true := hs;have hq1 := hq0 hs;have hfits : A.fits .i64 (A.add (A.oi (A.len CL)) 1) := Z14 hA (by rw [Z58 hA, yoiL hA hCl]) (by omega);have hn1 : IsI (A.add (A.oi (A.len CL)) 1) (n + 1) := ⟨by rw [Z58 hA, yoiL hA hCl]; omega⟩;obtain ⟨n1, hn1E⟩ : ∃ n1, n1 = A.add (A.oi (A.len CL)) 1 := ⟨_, rfl⟩;rw [<- hn1E] at hn1;cbv;refine bm (fun c => Bool.noConfusion (hb1.symm.trans c)) (fun _ => ?_);cbv;refine Z4 hS [.b 0 0] [1] [.box (.agg [.fn 105 [.cb (.agg [I j.ins, .sl 1 FL, .sl 5 ML]) 0], .v (.bool true), .sl 1 CL])] rfl rfl rfl rfl rfl rfl rfl rfl (by decide) ⟨rfl, trivial⟩ (Zsz _ CL _ ?_);refine Z3 Z0 hA hS ?_;cbv;refine ⟨hfits, ?_⟩;refine Zb hS ?_;refine Za (α := Int × Nat × List D) (fun q => { env := [(8, .b 0 0), (9, .b 2 0), (30, I n1), (31, I q.1)], H := grH j FL ML CL (.sl 1 q.2.2), nt := 39, dfs := [] })
   (fun q => n + 1 - q.2.1) (fun q => q.2.1 <= n + 1 /\ IsI q.1 q.2.1 /\ ∀ t, t < q.2.1 -> (Zw cs t).find? (Z6o j) = none) (0, 0, []) ⟨Nat.zero_le _, ⟨rfl⟩, fun t h => absurd h (Nat.not_lt_zero t)⟩ ?_ ?_
  ·rw [hn1E];refine Z7w 3 (.sl 1 []) rfl ⟨WkD.nil, trivial⟩ ?_;exact Zf [3, 1, 4] ⟨by decide, Z9, ⟨rfl, rfl, rfl, trivial⟩, ⟨rfl, rfl, rfl, rfl, trivial⟩, rfl, rfl⟩
  rintro ⟨i, k, X⟩ ⟨u1, u2, u3⟩;dsimp only at u1 u2 u3;have hyes : A.cmp .lss i n1 = true -> k < n + 1 := fun c => by have := xlt hA c; have := hn1.eq; have := u2.eq; omega
  have hno : A.cmp .lss i n1 = false -> k = n + 1 := fun c => by have := Z7x hA c; have := hn1.eq; have := u2.eq; omega
  have hend : k = n + 1 -> False := fun h => by
   have := u3 n (by omega);rw [hn, Ze6] at this;simp [List.find?, hall] at this
  have hz0 : IsI 0 0 := ⟨rfl⟩;have hf1 : k < n + 1 -> A.fits .i64 (A.add i 1) := fun h => Zy hA u2 (by omega);have hu2 := Zz hA u2;have hms : k < n + 1 -> n + 1 - (k + 1) < n + 1 - k := fun h => by omega
  have hgr := fun (h : k < n + 1) Q => Zyc j hj FL ML hF hM cs hcl CL hCL k [] 0 X [] 0 i rfl (Nat.zero_le _) (by simp; omega) hz0 u2 Q;have hcand : Z46 cs [] 0 k = Zw cs k := by unfold Z46; simp
  rw [hcand] at hgr;have hnext : (Zw cs k).find? (Z6o j) = none -> ∀ t, t < k + 1 -> (Zw cs t).find? (Z6o j) = none := fun h t ht => by
   by_cases e : t = k
   ·rw [e]; exact h
   ·exact u3 t (by omega)
  have hfound : k < n + 1 -> ∀ c, (Zw cs k).find? (Z6o j) = some c -> Z6c j = some c := fun h c hc => by
   subst hcs;exact Zt1 (by omega) u3 hc
  refine Zi Z0 hA hS ?_;cbv;refine bm (fun c => ?_) (fun c => ?_)
  ·have hk := hyes c;have hf2 := hf1 hk;have hm2 := hms hk;have hfo := hfound hk;have hg2 := hgr hk;cbv;refine Z4 hS [.v (.slice none 0 0), I 0, I i, .cb (.agg [I j.ins, .sl 1 FL, .sl 5 ML]) 0, .b 0 0, .b 1 0, .b 2 0] [0, 1, 2] (grH j FL ML CL (.sl 1 X)) rfl rfl rfl rfl rfl rfl rfl rfl (by decide) ⟨rfl, rfl, rfl, trivial⟩
    (Z4z (as' := [.sl 1 [], I 0, I i, .cb (.agg [I j.ins, .sl 1 FL, .sl 5 ML]) 0, .b 0 0, .b 1 0, .b 2 0]) ⟨WkD.nil, WkL.rfl⟩ (hg2 _ (fun c hc NC hNC => ?_) (fun h0 X' => ?_)))
   ·have hz := hq1 c (hfo c hc) NC hNC;refine Z3 Z0 hA hS ?_;cbv;refine Z7 ?_;cbv;exact Z2 [] (by decide) Z9 (H' := []) (d' := .tup [.sl 1 NC, I 0]) trivial rfl (Z1 hz)
   ·have hz := hnext h0;refine Z3 Z0 hA hS ?_;cbv;refine ⟨hf2, ?_⟩;refine Z8 (A.add i 1, k + 1, X') [0, 1, 2] ⟨hk, hu2, hz⟩ hm2 ?_;exact ⟨by decide, Z9, ⟨rfl, rfl, rfl, trivial⟩, ⟨rfl, rfl, rfl, rfl, trivial⟩, rfl, rfl⟩
  ·exact (hend (hno c)).elim
 ·have hz := hp0 (Z3y h0);cbv;refine bm (fun _ => ?_) (fun c => Bool.noConfusion (hb0.symm.trans c));cbv;exact Z2 [] (by decide) Z9 (H' := []) (d' := .tup [.v (.slice none 0 0), I 9]) trivial rfl (Z1 hz)
end Go.Proofs.YtegjabljeepbdaaGreatDoor

namespace Go.Proofs.YtegjabljeepbdaaGreatDoor
open Go Go.Abs Go.Proofs Go.Batch
def Zt4 (l : List Int) : D := .sl 1 (l.map I)
set_option maxRecDepth 20000 in
set_option maxHeartbeats 4000000 in
theorem Znb (a b : List (List Int)) (LA LB : List D) (hLA : LA = a.map Zt4) (hLB : LB = b.map Zt4) (hl : a.length <= 1152921504606846976) (hl2 : ∀ l ∈ a, l.length <= 1152921504606846976) (r : Bool) (hr : r = decide (a = b)) (Q) (hq : Q (RA.ret (.v (.bool r))) []) :
  CallA Tryz.prog 61 [.sl 1 LA, .sl 1 LB] [] Q := by
 obtain ⟨A, hA⟩ : ∃ A, A = ar := ⟨_, rfl⟩;have hAl : LA.length = a.length := by rw [hLA]; simp
 have hBl : LB.length = b.length := by rw [hLB]; simp
 obtain ⟨s0, hs0⟩ : ∃ s0, s0 = A.cmp .eql (A.oi (A.len LA)) (A.oi (A.len LB)) := ⟨_, rfl⟩;have hs1 : s0 = decide (a.length = b.length) := by
  rw [hs0, yoiL hA hAl, yoiL hA hBl, Zx0 hA]
  by_cases h : a.length = b.length
  ·rw [decide_eq_true h, decide_eq_true (by omega)]
  ·rw [decide_eq_false h, decide_eq_false (by omega)]
 refine Z5 Z0 hA Tryz.func61 rfl rfl rfl rfl rfl fun S hS => ?_;cbv;refine Zb hS ?_;refine Za (α := Int × Nat × Bool) (fun q => { env := [(0, .sl 1 LA), (1, .sl 1 LB), (5, .v (.bool q.2.2)), (6, I q.1)], H := [], nt := 31, dfs := [] })
  (fun q => a.length + 1 - q.2.1) (fun q => IsI q.1 q.2.1 /\ q.2.1 <= a.length /\ (q.2.2 = true -> a.length = b.length /\ a.take q.2.1 = b.take q.2.1) /\ (q.2.2 = false -> a ≠ b)) (0, 0, A.cmp .eql (A.oi (A.len LA)) (A.oi (A.len LB))) ⟨⟨rfl⟩, Nat.zero_le _, ?_, ?_⟩ ?_ ?_
 ·exact fun h => ⟨of_decide_eq_true (hs1.symm.trans (hs0.trans h)), rfl⟩
 ·exact fun h e => of_decide_eq_false (hs1.symm.trans (hs0.trans h)) (by rw [e])
 ·exact Zf [] ⟨by decide, Z9, trivial, ⟨rfl, rfl, rfl, rfl, trivial⟩, rfl, rfl⟩
 rintro ⟨i, k, sm⟩ ⟨u1, u2, u3, u4⟩;dsimp only at u1 u2 u3 u4
 cases sm
 ·have hr0 : r = false := by rw [hr]; exact decide_eq_false (u4 rfl)
  rw [hr0] at hq;refine Zi Z0 hA hS ?_;cbv;refine Z7 ?_;cbv;exact Z1 hq
 ·obtain ⟨e1, e2⟩ := u3 rfl;have hend : a.length <= k -> r = true := fun h => by
   rw [hr]; refine decide_eq_true ?_;rw [List.take_of_length_le h, List.take_of_length_le (by omega)] at e2; exact e2
  have hget : k < a.length -> ∃ x y, a[k]? = some x /\ b[k]? = some y := fun h => ⟨_, _, List.getElem?_eq_getElem h, List.getElem?_eq_getElem (by omega)⟩;have hgt : k < a.length -> k < b.length := fun h => by omega
  have hms : k < a.length -> a.length + 1 - (k + 1) < a.length + 1 - k := fun h => by omega
  refine Zi Z0 hA hS ?_;cbv;refine bm (fun c => ?_) (fun c => ?_)
  ·have hk := Z31 hA hAl u1 c;obtain ⟨x, y, hx, hy⟩ := hget hk;obtain ⟨XL, hXL⟩ : ∃ XL, XL = x.map I := ⟨_, rfl⟩;obtain ⟨YL, hYL⟩ : ∃ YL, YL = y.map I := ⟨_, rfl⟩;have hLx : LA[k]? = some (.sl 1 XL) := by rw [hLA, hXL]; simp [hx, Zt4]
   have hLy : LB[k]? = some (.sl 1 YL) := by rw [hLB, hYL]; simp [hy, Zt4]
   obtain ⟨r1, hr1⟩ : ∃ r1, r1 = decide (x = y) := ⟨_, rfl⟩;have hn1 : r1 = true -> a.length = b.length /\ a.take (k + 1) = b.take (k + 1) := fun h => ⟨e1, (Zdk hx hy e2).2 (of_decide_eq_true (hr1.symm.trans h))⟩;have hn2 : r1 = false -> a ≠ b := fun h => Zg4 hx hy (of_decide_eq_false (hr1.symm.trans h));have hsm := fun Q => Zaq x y XL YL hXL hYL (hl2 x (List.mem_of_getElem? hx)) r1 hr1 Q;have i1 := Z1b hA hAl u1 hk;have i2 := Z1b hA hBl u1 (hgt hk);have g1 := Z18 hA u1 hLx;have g2 := Z18 hA u1 hLy;have hf := Zy hA u1 (by omega);have hu1 := Zz hA u1;have hm1 := hms hk;cbv;refine Z16 Z0 hA hS [0, 1, 2, 3, 4, 5, 6, 7, 8, 9] rfl rfl fun Dk hD => ?_;cbv;refine ⟨i1, ⟨_, g1, ?_⟩⟩;cbv;refine ⟨i2, ⟨_, g2, ?_⟩⟩;cbv;refine Zq hA hD [.sl 1 XL, .sl 1 YL] [] [] rfl rfl rfl rfl rfl rfl rfl rfl rfl rfl rfl (by decide) trivial (hsm _ ⟨by cbv; repeat' (first | exact trivial | exact Need.mk ⟨_, g1, rfl⟩ | exact Need.mk ⟨_, g2, rfl⟩ | refine ⟨?_, ?_⟩), Zx Z0 hA hD ?_⟩);cbv;refine ⟨hf, ?_⟩;refine Z8 (A.add i 1, k + 1, r1) [] ⟨hu1, hk, hn1, hn2⟩ hm1 ?_;exact ⟨by decide, Z9, trivial, ⟨rfl, rfl, rfl, rfl, trivial⟩, rfl, rfl⟩
  ·have hk := Z21 hA hAl u1 c;have hr1 := hend hk;rw [hr1] at hq;cbv;refine Z7 ?_;cbv;exact Z1 hq
theorem lTo (lo hi : Int) (Q) (hq : Q (RA.ret (.agg [I lo, I hi])) []) : CallA Tryz.prog 38 [I lo, I hi] [] Q := by
 obtain ⟨A, hA⟩ : ∃ A, A = ar := ⟨_, rfl⟩;refine Z5 Z0 hA Tryz.func38 rfl rfl rfl rfl rfl fun S hS => ?_;cbv;exact Z2 [] (by decide) Z9 (H' := []) (d' := .agg [I lo, I hi]) trivial rfl (Z1 hq)
theorem lIn (b lo hi : Int) (Q) (hq : Q (RA.ret (.agg [I 1, I b, I 0, I lo, I hi])) []) : CallA Tryz.prog 34 [I b, I lo, I hi] [] Q := by
 obtain ⟨A, hA⟩ : ∃ A, A = ar := ⟨_, rfl⟩;refine Z5 Z0 hA Tryz.func34 rfl rfl rfl rfl rfl fun S hS => ?_;cbv;refine Z4 hS [I lo, I hi] [] [] rfl rfl rfl rfl rfl rfl rfl rfl (by decide) trivial (lTo lo hi _ ?_);refine Z3 Z0 hA hS ?_;cbv;exact Z2 [] (by decide) Z9 (H' := []) (d' := .agg [I 1, I b, I 0, I lo, I hi]) trivial rfl (Z1 hq)
theorem Zt5 (b i lo hi : Int) (Q) (hq : Q (RA.ret (.agg [I 2, I b, I i, I lo, I hi])) []) : CallA Tryz.prog 98 [I b, I i, I lo, I hi] [] Q := by
 obtain ⟨A, hA⟩ : ∃ A, A = ar := ⟨_, rfl⟩;refine Z5 Z0 hA Tryz.func98 rfl rfl rfl rfl rfl fun S hS => ?_;cbv;refine Z4 hS [I lo, I hi] [] [] rfl rfl rfl rfl rfl rfl rfl rfl (by decide) trivial (lTo lo hi _ ?_);refine Z3 Z0 hA hS ?_;cbv;exact Z2 [] (by decide) Z9 (H' := []) (d' := .agg [I 2, I b, I i, I lo, I hi]) trivial rfl (Z1 hq)
theorem Zt6 (b lo hi : Int) (Q) (hq : Q (RA.ret (.agg [I 3, I b, I 0, I lo, I hi])) []) : CallA Tryz.prog 72 [I b, I lo, I hi] [] Q := by
 obtain ⟨A, hA⟩ : ∃ A, A = ar := ⟨_, rfl⟩;refine Z5 Z0 hA Tryz.func72 rfl rfl rfl rfl rfl fun S hS => ?_;cbv;refine Z4 hS [I lo, I hi] [] [] rfl rfl rfl rfl rfl rfl rfl rfl (by decide) trivial (lTo lo hi _ ?_);refine Z3 Z0 hA hS ?_;cbv;exact Z2 [] (by decide) Z9 (H' := []) (d' := .agg [I 3, I b, I 0, I lo, I hi]) trivial rfl (Z1 hq)
theorem Zl5 (ML : List D) (Q) (hq : Q (RA.ret (.agg [I 3, .sl 1 [Zv true, Zv false], .sl 5 ML])) []) : CallA Tryz.prog 97 [.sl 5 ML] [] Q := by
 obtain ⟨A, hA⟩ : ∃ A, A = ar := ⟨_, rfl⟩;have hl2 : A.eqN 2 (A.len [Zv true, Zv false]) := by subst hA; rfl
 refine Z5 Z0 hA Tryz.func97 rfl rfl rfl rfl rfl fun S hS => ?_;cbv;refine Z1w [1] ?_;cbv
 repeat' (first | exact rfl | exact Z2 [] (by decide) Z9 (H' := []) (d' := .agg [I 3, .sl 1 [Zv true, Zv false], .sl 5 ML]) trivial rfl (Z1 hq) | refine ⟨?_, ?_⟩)
def Zj3 (ML : List D) : List D := [.agg [I 1, I 0, I 0, I 2, I 3], .agg [I 1, I 0, I 0, I 2, I 2], .agg [I 2, I 0, I 0, I 1, I 1], .agg [I 2, I 0, I 1, I 2, I 2], .agg [I 2, I 0, I 2, I 1, I 1]] ++ ML
theorem Zar (ms : List Mv) (ML : List D) (h : ML = ms.map mvD) : Zj3 ML = (jnF ms).moves.map mvD := by rw [h]; rfl
set_option maxRecDepth 20000 in
set_option maxHeartbeats 4000000 in
theorem Zj4 (ML : List D) (n : Nat) (hn : ML.length = n) (hn6 : n <= 1000) (Q) (hq : ∀ FM, FM = Zj3 ML -> Q (RA.ret (.agg [I 3, .sl 1 [Zv true, Zv false], .sl 5 FM])) []) : CallA Tryz.prog 65 [.sl 5 ML] [] Q := by
 obtain ⟨A, hA⟩ : ∃ A, A = ar := ⟨_, rfl⟩;obtain ⟨FM, hFM⟩ : ∃ FM, FM = A.app [.agg [I 1, I 0, I 0, I 2, I 3], .agg [I 1, I 0, I 0, I 2, I 2], .agg [I 2, I 0, I 0, I 1, I 1], .agg [I 2, I 0, I 1, I 2, I 2], .agg [I 2, I 0, I 2, I 1, I 1]] ML := ⟨_, rfl⟩;have hFE : FM = Zj3 ML := by rw [hFM, Z33 hA]; rfl
 have hz := hq FM hFE;have hfl : FM.length = A.addN 5 (A.len ML) := by rw [hFE, Zj3, Z2e hA, Z9m hA hn]; simp; omega
 have hen : A.eqN (A.addN 5 (A.len ML)) (A.len FM) := Ze hA hfl;have hrm : A.room (A.addN 5 (A.len ML)) 40 := by rw [Z2e hA, Z9m hA hn]; exact Zj1 hA (by omega) (by decide)
 refine Z5 Z0 hA Tryz.func65 rfl rfl rfl rfl rfl fun S hS => ?_;cbv;refine Z4 hS [I 0, I 2, I 3] [] [] rfl rfl rfl rfl rfl rfl rfl rfl (by decide) trivial (lIn 0 2 3 _ ?_);refine Z3 Z0 hA hS ?_;cbv;refine Z4 hS [I 0, I 2, I 2] [] [] rfl rfl rfl rfl rfl rfl rfl rfl (by decide) trivial (lIn 0 2 2 _ ?_);refine Z3 Z0 hA hS ?_;cbv;refine Z4 hS [I 0, I 0, I 1, I 1] [] [] rfl rfl rfl rfl rfl rfl rfl rfl (by decide) trivial (Zt5 0 0 1 1 _ ?_);refine Z3 Z0 hA hS ?_;cbv;refine Z4 hS [I 0, I 1, I 2, I 2] [] [] rfl rfl rfl rfl rfl rfl rfl rfl (by decide) trivial (Zt5 0 1 2 2 _ ?_);refine Z3 Z0 hA hS ?_;cbv;refine Z4 hS [I 0, I 2, I 1, I 1] [] [] rfl rfl rfl rfl rfl rfl rfl rfl (by decide) trivial (Zt5 0 2 1 1 _ ?_);refine Z3 Z0 hA hS ?_;cbv;refine ⟨Ze hA rfl, hrm, ?_⟩;refine Z26 hS (Z39 2 rfl hFM.symm (Z1a hA [2] ?_));cbv;refine ⟨hen, Z7 ?_⟩;refine Z4 hS [.sl 5 FM] [] [] rfl rfl rfl rfl rfl rfl rfl rfl (by decide) trivial (Zl5 FM _ ?_);refine Z3 Z0 hA hS ?_;cbv;exact Z2 [] (by decide) Z9 (H' := []) (d' := .agg [I 3, .sl 1 [Zv true, Zv false], .sl 5 FM]) trivial rfl (Z1 hz)
set_option maxRecDepth 20000 in
theorem Zt7 (Q) (hq : ∀ FM, FM = (jnF [Zci 0 1 1]).moves.map mvD -> Q (RA.ret (.agg [I 3, .sl 1 [Zv true, Zv false], .sl 5 FM])) []) : CallA Tryz.prog 67 [] [] Q := by
 obtain ⟨A, hA⟩ : ∃ A, A = ar := ⟨_, rfl⟩;refine Z5 Z0 hA Tryz.func67 rfl rfl rfl rfl rfl fun S hS => ?_;cbv;refine Z4 hS [I 0, I 1, I 1] [] [] rfl rfl rfl rfl rfl rfl rfl rfl (by decide) trivial (Zt6 0 1 1 _ ?_);refine Z3 Z0 hA hS ?_;cbv;refine Z26 hS (Z1a hA [1] ?_);cbv;refine ⟨by subst hA; rfl, Z7 ?_⟩;refine Z4 hS [.sl 5 [.agg [I 3, I 0, I 0, I 1, I 1]]] [] [] rfl rfl rfl rfl rfl rfl rfl rfl (by decide) trivial (Zj4 _ 1 rfl (by decide) _ fun FM hFM => ?_);have hz := hq FM (hFM.trans (Zar [Zci 0 1 1] _ rfl));refine Z3 Z0 hA hS ?_;cbv;exact Z2 [] (by decide) Z9 (H' := []) (d' := .agg [I 3, .sl 1 [Zv true, Zv false], .sl 5 FM]) trivial rfl (Z1 hz)
set_option maxRecDepth 20000 in
theorem Zzm (Q) (hq : ∀ FM, FM = jnA.moves.map mvD -> Q (RA.ret (.agg [I 3, .sl 1 [Zv true, Zv false], .sl 5 FM])) []) : CallA Tryz.prog 69 [] [] Q := by
 obtain ⟨A, hA⟩ : ∃ A, A = ar := ⟨_, rfl⟩;have hz := hq _ rfl;refine Z5 Z0 hA Tryz.func69 rfl rfl rfl rfl rfl fun S hS => ?_;cbv;refine Z4 hS [I 1, I 2, I 2] [] [] rfl rfl rfl rfl rfl rfl rfl rfl (by decide) trivial (lIn 1 2 2 _ ?_);refine Z3 Z0 hA hS ?_;cbv;refine Z4 hS [I 1, I 1, I 1] [] [] rfl rfl rfl rfl rfl rfl rfl rfl (by decide) trivial (lIn 1 1 1 _ ?_);refine Z3 Z0 hA hS ?_;cbv;refine Z4 hS [I 1, I 0, I 1, I 1] [] [] rfl rfl rfl rfl rfl rfl rfl rfl (by decide) trivial (Zt5 1 0 1 1 _ ?_);refine Z3 Z0 hA hS ?_;cbv;refine Z4 hS [I 1, I (-1), I 1, I 1] [] [] rfl rfl rfl rfl rfl rfl rfl rfl (by decide) trivial (Zt5 1 (-1) 1 1 _ ?_);refine Z3 Z0 hA hS ?_;cbv;refine Z26 hS (Z1a hA [1] ?_);cbv;refine ⟨by subst hA; rfl, Z7 ?_⟩;refine Z4 hS [.sl 5 [.agg [I 1, I 1, I 0, I 2, I 2], .agg [I 1, I 1, I 0, I 1, I 1], .agg [I 2, I 1, I 0, I 1, I 1], .agg [I 2, I 1, I (-1), I 1, I 1]]] [] [] rfl rfl rfl rfl rfl rfl rfl rfl (by decide) trivial (Zl5 _ _ ?_);refine Z3 Z0 hA hS ?_;cbv;exact Z2 [] (by decide) Z9 (H' := []) (d' := .agg [I 3, .sl 1 [Zv true, Zv false], .sl 5 [.agg [I 1, I 1, I 0, I 2, I 2], .agg [I 1, I 1, I 0, I 1, I 1], .agg [I 2, I 1, I 0, I 1, I 1], .agg [I 2, I 1, I (-1), I 1, I 1]]]) trivial rfl (Z1 hz)
end Go.Proofs.YtegjabljeepbdaaGreatDoor

namespace Go.Proofs.YtegjabljeepbdaaGreatDoor.Bn
open Go Go.Abs Go.Proofs
def clW (b : Int) (w : Wk) : Wk := ⟨min w.b (b - 1), w.lo, w.hi⟩
def clT (b : Int) (t : Tk) : Tk := ⟨t.ready, t.due, t.works.map (clW b)⟩
def clWs (b : Int) (ws : List Wk) (k : Nat) : List Wk := (ws.take k).map (clW b) ++ ws.drop k
theorem clWs_len (b : Int) (ws : List Wk) (k : Nat) : (clWs b ws k).length = ws.length := by simp [clWs]; omega
theorem Z177 (b : Int) (ws : List Wk) : clWs b ws 0 = ws := by simp [clWs]
theorem Z18u (b : Int) {ws : List Wk} {k : Nat} (h : ws.length <= k) : clWs b ws k = ws.map (clW b) := by
 unfold clWs; rw [List.take_of_length_le h, List.drop_eq_nil_of_le h, List.append_nil]
theorem clWs_get (b : Int) {ws : List Wk} {k : Nat} {w : Wk} (h : ws[k]? = some w) : (clWs b ws k)[k]? = some w := by
 have hk := (List.getElem?_eq_some_iff.1 h).1;unfold clWs;rw [List.getElem?_append_right (by simp; omega)];have : k - ((ws.take k).map (clW b)).length = 0 := by simp; omega
 rw [this, List.getElem?_drop, Nat.add_zero, h]
theorem Z188 (b : Int) {ws : List Wk} {k : Nat} {w : Wk} (h : ws[k]? = some w) : (clWs b ws k).set k (clW b w) = clWs b ws (k + 1) := by
 obtain ⟨hk, hw⟩ := List.getElem?_eq_some_iff.1 h;have e1 : ws.drop k = w :: ws.drop (k + 1) := by rw [List.drop_eq_getElem_cons hk, hw]
 unfold clWs;rw [List.set_append, if_neg (by simp; omega), List.take_add_one, h, e1];have : k - ((ws.take k).map (clW b)).length = 0 := by simp; omega
 rw [this];simp
structure Cl (b : Int) (ts TS : List Tk) (i k : Nat) : Prop where
 len : TS.length = ts.length
 at_ : ∀ (j : Nat) (t : Tk), ts[j]? = some t -> TS[j]? = some ⟨t.ready, t.due, if j < i then t.works.map (clW b) else if j = i then clWs b t.works k else t.works⟩
theorem Cl.zero (b : Int) (ts : List Tk) : Cl b ts ts 0 0 := ⟨rfl, fun j t h => by
 rw [if_neg (Nat.not_lt_zero _)]
 split
 ·rw [Z177]; exact h
 ·exact h⟩
theorem Cl.step {b : Int} {ts TS : List Tk} {i k : Nat} (h : Cl b ts TS i k) {t : Tk} (ht : ts[i]? = some t) {w : Wk} (hw : t.works[k]? = some w) : Cl b ts (TS.set i ⟨t.ready, t.due, (clWs b t.works k).set k (clW b w)⟩) i (k + 1) := ⟨by rw [List.length_set]; exact h.len, fun j x hx => by
 have hi : i < TS.length := by rw [h.len]; exact (List.getElem?_eq_some_iff.1 ht).1
 rw [List.getElem?_set]
 by_cases e : i = j
 ·subst e
  rw [ht] at hx; cases hx
  rw [if_pos rfl, if_pos hi, if_neg (Nat.lt_irrefl _), if_pos rfl, Z188 b hw]
 ·have e' : ¬ j = i := fun g => e g.symm
  rw [if_neg e, h.at_ j x hx, if_neg e', if_neg e']⟩
theorem Cl.row {b : Int} {ts TS : List Tk} {i k : Nat} (h : Cl b ts TS i k) {t : Tk} (ht : ts[i]? = some t) (hk : t.works.length <= k) : Cl b ts TS (i + 1) 0 := ⟨h.len, fun j x hx => by
 rw [h.at_ j x hx]
 by_cases e : j = i
 ·subst e
  rw [ht] at hx; cases hx
  rw [if_neg (Nat.lt_irrefl _), if_pos rfl, if_pos (Nat.lt_succ_self _), Z18u b hk]
 ·by_cases e2 : j < i
  ·rw [if_pos e2, if_pos (by omega)]
  ·rw [if_neg e2, if_neg e, if_neg (by omega)]
   split
   ·rw [Z177]
   ·rfl⟩
theorem Cl.all {b : Int} {ts TS : List Tk} {i k : Nat} (h : Cl b ts TS i k) (hi : ts.length <= i) : TS = ts.map (clT b) := by
 refine List.ext_getElem? fun j => ?_
 by_cases hj : j < ts.length
 ·obtain ⟨t, ht⟩ : ∃ t, ts[j]? = some t := ⟨_, List.getElem?_eq_getElem hj⟩;rw [h.at_ j t ht, if_pos (by omega), List.getElem?_map, ht]; rfl
 ·rw [List.getElem?_eq_none (by rw [h.len]; omega), List.getElem?_eq_none (by simp; omega)]
theorem Cl.get {b : Int} {ts TS : List Tk} {i k : Nat} (h : Cl b ts TS i k) {t : Tk} (ht : ts[i]? = some t) : TS.getD i tkZ = ⟨t.ready, t.due, clWs b t.works k⟩ := by
 have := h.at_ i t ht;rw [if_neg (Nat.lt_irrefl _), if_pos rfl] at this;exact tkD_get this
end Go.Proofs.YtegjabljeepbdaaGreatDoor.Bn

namespace Go.Proofs.YtegjabljeepbdaaGreatDoor.Bn
open Go Go.Abs Go.Proofs
theorem run_bnd {s : Sh} {p : List Nat} (hv : Val s) (hp : PlanLe s p) (hl : p.length <= 20) : ∀ x ∈ runS s mo0 p, (0 <= x.b /\ x.b < s.benches) /\ (0 <= x.t /\ x.t < (s.tasks.length : Int)) /\ 0 <= x.bh /\ x.bh <= 1000 := fun x hx => by
 obtain ⟨n, hn⟩ := List.mem_iff_getElem?.1 hx;have f := Z159 hv hp hn;have fi := f.i;have hnl : n < p.length := (List.getElem?_eq_some_iff.1 fi).1;have hlt := hp.lt _ (List.mem_of_getElem? fi);obtain ⟨-, -, hk2, -, -, -⟩ := Z15g (sd := false) hv hp (Int.le_refl _) Z178 fi (Z16m hv hp false (Nat.le_of_lt hnl)) 0;obtain ⟨w1, w2, -, -, -⟩ := Z15n hv hlt hk2;obtain ⟨-, -, -, g1, g2, -⟩ := Z15g (sd := true) hv hp (Int.le_refl _) Z178 fi (Z16m hv hp true (Nat.le_of_lt hnl)) 0;have hb := f.b;rw [f.k, Int.toNat_natCast] at hb;have ht := f.t;have hg : x.bh = (Z14w true s (ckT s p true n) x.t.toNat 0).bg := f.g;have g1' : 0 <= (Z14w true s (ckT s p true n) x.t.toNat 0).bg := g1;have g2' : (Z14w true s (ckT s p true n) x.t.toNat 0).bg <= 200 + n * (20 + 0) := g2;refine ⟨⟨by rw [hb]; exact w1, by rw [hb]; exact w2⟩, ⟨by omega, by omega⟩, by rw [hg]; exact g1', by rw [hg]; omega⟩
end Go.Proofs.YtegjabljeepbdaaGreatDoor.Bn

namespace Go.Proofs.YtegjabljeepbdaaGreatDoor
open Go Go.Abs Go.Proofs Go.Batch
theorem ex0 : Zr (jnF []) = 0 := by decide +kernel
theorem Zzn : Zr (jnF [Zci 0 1 1]) = 0 := by decide +kernel
theorem Zzo : Zr jnA = 0 := by decide +kernel
theorem Zzp : Zr (jnF [Zci 0 3 3]) = 0 := by decide +kernel
theorem Zye : Zc (jnF []) = true := by decide +kernel
theorem Zzq : Zc (jnF [Zci 0 1 1]) = true := by decide +kernel
theorem Zzr : Zc jnA = true := by decide +kernel
theorem Zzs : Zc (Z12 (jnF [Zci 0 3 3]) (Zp (jnF [Zci 0 3 3]))) = true := by decide +kernel
theorem ex1 : Z5w (jnF []) = [[1, 2], [1, 3], [2, 1]] := by decide +kernel
theorem ex2 : Z4c (jnF [Zci 0 1 1]) = [(0, 0), (1, 1)] := by decide +kernel
theorem ex3 : Z6b jnA = [3, 2, 2] := by decide +kernel
theorem ex4 : Z9s (jnF []) (Z3z [1, 2]) (Z3z [0]) = [1] := by decide +kernel
theorem Zzt : Z44 3 [1, 2] = 0 := by decide +kernel
theorem Zzu : Z44 3 [0] = 0 := by decide +kernel
theorem ex5 : Z6c (jnF [Zci 0 3 3]) = some [5] := by decide +kernel
theorem Z77 {j : Jn} (h : Zr j = 0) {P : Prop} {e : Int} (h1 : e = Zr j) (h2 : e ≠ 0) : P := absurd (h1.trans h) h2
theorem Z7p {b : Bool} (h : b = true) {P : Prop} (h1 : b = false) : P := by rw [h] at h1; cases h1
theorem lim {n : Nat} (h : n <= 1000) : n <= 1152921504606846976 := by omega
theorem fl2 (ms : List Mv) : (jnF ms).first.length <= 1152921504606846976 := lim (n := 2) (by omega)
theorem ml5 : (jnF []).moves.length <= 1152921504606846976 := lim (n := 5) (by omega)
theorem ml6 (m : Mv) : (jnF [m]).moves.length <= 1152921504606846976 := lim (n := 6) (by omega)
theorem flA : jnA.first.length <= 1152921504606846976 := lim (n := 2) (by omega)
theorem mlA : jnA.moves.length <= 1152921504606846976 := lim (n := 4) (by omega)
theorem Zx1 (FM : List D) (hM : FM = (jnF []).moves.map mvD) (Q) (hq : ∀ HL, HL = ([[1, 2], [1, 3], [2, 1]] : List (List Int)).map Zt4 -> Q (RA.ret (.tup [.sl 1 HL, I 0])) []) : CallA Tryz.prog 16 [.agg [I 3, .sl 1 [Zv true, Zv false], .sl 5 FM]] [] Q :=
 Zsy (jnF []) (fl2 _) ml5 [Zv true, Zv false] FM rfl hM _ (fun e h1 h2 => Z77 ex0 h1 h2) (fun _ h => Z7p Zye h) (fun _ _ HL hHL => hq HL (by rw [hHL, ex1]; rfl))
theorem Zyf (FM : List D) (hM : FM = (jnF [Zci 0 1 1]).moves.map mvD) (Q) (hq : ∀ RL, RL = ([(0, 0), (1, 1)] : List (Int × Int)).map Zt3 -> Q (RA.ret (.tup [.sl 2 RL, I 0])) []) : CallA Tryz.prog 66 [.agg [I 3, .sl 1 [Zv true, Zv false], .sl 5 FM]] [] Q :=
 Zst (jnF [Zci 0 1 1]) (fl2 _) (ml6 _) [Zv true, Zv false] FM rfl hM _ (fun e h1 h2 => Z77 Zzn h1 h2) (fun _ h => Z7p Zzq h) (fun _ _ L hL => hq L (by rw [hL, ex2]; rfl))
theorem Zx2 (FM : List D) (hM : FM = jnA.moves.map mvD) (Q) (hq : ∀ L, L = ([3, 2, 2] : List Int).map I -> Q (RA.ret (.tup [.sl 1 L, I 0])) []) : CallA Tryz.prog 68 [.agg [I 3, .sl 1 [Zv true, Zv false], .sl 5 FM]] [] Q :=
 Zsv jnA flA mlA [Zv true, Zv false] FM rfl hM _ (fun e h1 h2 => Z77 Zzo h1 h2) (fun _ h => Z7p Zzr h) (fun _ _ L hL => hq L (by rw [hL, ex3]))
theorem Zqi (FM : List D) (hM : FM = (jnF []).moves.map mvD) (Q) (hq : ∀ L, L = ([1] : List Int).map I -> Q (RA.ret (.tup [.sl 1 L, I 0])) []) : CallA Tryz.prog 70 [.agg [I 3, .sl 1 [Zv true, Zv false], .sl 5 FM], .sl 1 [I 1, I 2], .sl 1 [I 0]] [] Q :=
 Zqf (jnF []) (fl2 _) ml5 [1, 2] [0] (lim (n := 2) (by omega)) (lim (n := 1) (by omega)) [Zv true, Zv false] FM [I 1, I 2] [I 0] rfl hM rfl rfl _ (fun e h1 h2 => Z77 ex0 h1 h2) (fun _ e h1 h2 => absurd (h1.trans Zzt) h2) (fun _ _ e h1 h2 => absurd (h1.trans Zzu) h2) (fun _ _ _ h => Z7p Zye h) (fun _ _ _ _ h => by rw [ex4] at h; cases h) (fun _ _ _ _ _ L hL => hq L (by rw [hL, ex4]))
theorem Zx3 (FM : List D) (hM : FM = (jnF [Zci 0 3 3]).moves.map mvD) (Q) (hq : ∀ L, L = ([5] : List Int).map I -> Q (RA.ret (.tup [.sl 1 L, I 0])) []) : CallA Tryz.prog 71 [.agg [I 3, .sl 1 [Zv true, Zv false], .sl 5 FM]] [] Q :=
 Zt2 (jnF [Zci 0 3 3]) (fl2 _) (ml6 _) [Zv true, Zv false] FM rfl hM _ (fun e h1 h2 => Z77 Zzp h1 h2) (fun _ h => Z7p Zzs h) (fun _ _ c hc L hL => hq L (by
  rw [ex5] at hc
  rw [hL, <- Option.some.inj hc]; rfl))
set_option maxRecDepth 20000 in
set_option maxHeartbeats 1000000 in
theorem Zov (Q) (hq : Q (RA.ret (.v (.bool true))) []) : CallA Tryz.prog 26 [] [] Q := by
 obtain ⟨A, hA⟩ : ∃ A, A = ar := ⟨_, rfl⟩;have c00 : A.cmp .eql 0 0 = true := by subst hA; rfl
 refine Z38 Z0 hA [6] Tryz.func26 rfl rfl rfl rfl rfl fun S hS => ?_;cbv;refine Z4 hS [.v (.slice none 0 0)] [] [] rfl rfl rfl rfl rfl rfl rfl rfl (by decide) trivial (Z4z (as' := [.sl 5 []]) ⟨WkD.nil, trivial⟩ (Zj4 [] 0 rfl (by decide) _ fun FM hFM => ?_));have hM := hFM.trans (Zar [] [] rfl);refine Z3 Z0 hA hS ?_;cbv;refine Z4 hS [.agg [I 3, .sl 1 [Zv true, Zv false], .sl 5 FM]] [] [] rfl rfl rfl rfl rfl rfl rfl rfl (by decide) trivial
  (Zx1 FM hM _ fun HL hHL => ?_)
 refine Z3 Z0 hA hS ?_;cbv;refine Z4 hS [] [] [] rfl rfl rfl rfl rfl rfl rfl rfl (by decide) trivial (Zt7 _ fun FC hFC => ?_);refine Z3 Z0 hA hS ?_;cbv;refine Z4 hS [.agg [I 3, .sl 1 [Zv true, Zv false], .sl 5 FC]] [] [] rfl rfl rfl rfl rfl rfl rfl rfl (by decide) trivial
  (Zyf FC hFC _ fun RL hRL => ?_)
 refine Z3 Z0 hA hS ?_;cbv;refine Z4 hS [] [] [] rfl rfl rfl rfl rfl rfl rfl rfl (by decide) trivial (Zzm _ fun FA hFA => ?_);refine Z3 Z0 hA hS ?_;cbv;refine Z4 hS [.agg [I 3, .sl 1 [Zv true, Zv false], .sl 5 FA]] [] [] rfl rfl rfl rfl rfl rfl rfl rfl (by decide) trivial
  (Zx2 FA hFA _ fun XL hXL => ?_)
 refine Z3 Z0 hA hS ?_;cbv;refine Z4 hS [.v (.slice none 0 0)] [] [] rfl rfl rfl rfl rfl rfl rfl rfl (by decide) trivial (Z4z (as' := [.sl 5 []]) ⟨WkD.nil, trivial⟩ (Zj4 [] 0 rfl (by decide) _ fun FM2 hFM2 => ?_));have hM2 := hFM2.trans (Zar [] [] rfl);refine Z3 Z0 hA hS ?_;cbv;refine Z26 hS (Z1a hA [0, 1] ?_);cbv;refine ⟨by subst hA; rfl, by subst hA; rfl, Z7 ?_⟩;refine Z4 hS [.agg [I 3, .sl 1 [Zv true, Zv false], .sl 5 FM2], .sl 1 [I 1, I 2], .sl 1 [I 0]] [] [] rfl rfl rfl rfl rfl rfl rfl rfl (by decide) trivial
  (Zqi FM2 hM2 _ fun SL hSL => ?_)
 refine Z3 Z0 hA hS ?_;cbv;refine Z4 hS [I 0, I 3, I 3] [] [] rfl rfl rfl rfl rfl rfl rfl rfl (by decide) trivial (Zt6 0 3 3 _ ?_);refine Z3 Z0 hA hS ?_;cbv;refine Z26 hS (Z1a hA [2] ?_);cbv;refine ⟨by subst hA; rfl, Z7 ?_⟩;refine Z4 hS [.sl 5 [.agg [I 3, I 0, I 0, I 3, I 3]]] [] [] rfl rfl rfl rfl rfl rfl rfl rfl (by decide) trivial (Zj4 _ 1 rfl (by decide) _ fun FW hFW => ?_);have hMW := hFW.trans (Zar [Zci 0 3 3] _ rfl);refine Z3 Z0 hA hS ?_;cbv;refine Z4 hS [.agg [I 3, .sl 1 [Zv true, Zv false], .sl 5 FW]] [] [] rfl rfl rfl rfl rfl rfl rfl rfl (by decide) trivial
  (Zx3 FW hMW _ fun WL hWL => ?_)
 refine Z3 Z0 hA hS ?_;cbv;refine Z3h hS (Z60 (a := { env := [(1, .sl 1 HL), (2, I 0), (3, .sl 2 RL), (4, I 0), (5, .sl 1 XL), (6, I 0), (7, .sl 1 SL), (8, I 0), (9, .sl 1 WL), (10, I 0)], H := [], nt := 88, dfs := [] }) [] ⟨by decide, Z9, trivial, ⟨rfl, rfl, rfl, rfl, rfl, rfl, rfl, rfl, rfl, rfl, trivial⟩, rfl, rfl⟩ (Z7 ?_));refine Z4j Z0 hA hS [0, 1, 2, 3, 4, 5, 6, 7, 8, 9, 10, 11, 12, 13, 14, 15, 16, 17, 18, 19, 20, 21, 22] [23, 24, 25, 26, 27, 28, 29, 30, 31, 32, 33, 34, 35, 36, 37, 38, 39, 40, 41, 42, 43, 44, 45, 46, 47, 48] rfl ?_;cbv;refine bmT c00 ?_;cbv;refine bmT c00 ?_;cbv;refine bmT c00 ?_;cbv;refine bmT c00 ?_;cbv;refine bmT c00 ?_;cbv;refine Z26 hS (Z1a hA [0, 1, 2] ?_);cbv;refine ⟨by subst hA; rfl, by subst hA; rfl, by subst hA; rfl, Z7 ?_⟩;refine Zii hS (Z3 Z0 hA hS ?_);cbv;refine Z26 hS (Z1a hA [3] ?_);cbv;refine ⟨by subst hA; rfl, Z7 ?_⟩;refine Zg hS (b := true) rfl rfl rfl rfl rfl rfl rfl rfl (fun _ => ⟨_, _, [.sl 1 HL, .sl 1 [.sl 1 [I 1, I 2], .sl 1 [I 1, I 3], .sl 1 [I 2, I 1]]], [], [], rfl, rfl, rfl, by decide, trivial, Znb [[1, 2], [1, 3], [2, 1]] [[1, 2], [1, 3], [2, 1]] HL _ hHL rfl (lim (n := 3) (by omega)) (fun l hl => by simp at hl; rcases hl with rfl | rfl | rfl <;> exact lim (n := 2) (by omega)) true rfl _ ?_⟩) (fun h => absurd rfl h);refine Z3 Z0 hA hS ?_;cbv;refine Zg hS (b := true) rfl rfl rfl rfl rfl rfl rfl rfl (fun _ => ⟨_, _, [I 0, I 0], [], [], rfl, rfl, rfl, by decide, trivial, lTo 0 0 _ ?_⟩) (fun h => absurd rfl h);refine Z3 Z0 hA hS ?_;cbv;refine Zg hS (b := true) rfl rfl rfl rfl rfl rfl rfl rfl (fun _ => ⟨_, _, [I 1, I 1], [], [], rfl, rfl, rfl, by decide, trivial, lTo 1 1 _ ?_⟩) (fun h => absurd rfl h);refine Z3 Z0 hA hS ?_;cbv;refine Z26 hS (Z1a hA [4] ?_);cbv;refine ⟨by subst hA; rfl, Z7 ?_⟩;refine Zg hS (b := true) rfl rfl rfl rfl rfl rfl rfl rfl (fun _ => ⟨_, _, [.sl 2 RL, .sl 2 [.agg [I 0, I 0], .agg [I 1, I 1]]], [], [], rfl, rfl, rfl, by decide, trivial, Za2 [(0, 0), (1, 1)] [(0, 0), (1, 1)] RL _ hRL rfl (lim (n := 2) (by omega)) true rfl _ ?_⟩) (fun h => absurd rfl h);refine Z3 Z0 hA hS ?_;cbv;refine Z26 hS (Z1a hA [5] ?_);cbv;refine ⟨by subst hA; rfl, Z7 ?_⟩;refine Zg hS (b := true) rfl rfl rfl rfl rfl rfl rfl rfl (fun _ => ⟨_, _, [.sl 1 XL, .sl 1 [I 3, I 2, I 2]], [], [], rfl, rfl, rfl, by decide, trivial, Zaq [3, 2, 2] [3, 2, 2] XL _ hXL rfl (lim (n := 3) (by omega)) true rfl _ ?_⟩) (fun h => absurd rfl h);refine Z3 Z0 hA hS ?_;cbv;refine Z26 hS (Z1a hA [6] ?_);cbv;refine ⟨by subst hA; rfl, Z7 ?_⟩;refine Zg hS (b := true) rfl rfl rfl rfl rfl rfl rfl rfl (fun _ => ⟨_, _, [.sl 1 SL, .sl 1 [I 1]], [], [], rfl, rfl, rfl, by decide, trivial, Zaq [1] [1] SL _ hSL rfl (lim (n := 1) (by omega)) true rfl _ ?_⟩) (fun h => absurd rfl h);refine Z3 Z0 hA hS ?_;cbv;refine Z26 hS (Z1a hA [7] ?_);cbv;refine ⟨by subst hA; rfl, Z7 ?_⟩;refine Zg hS (b := true) rfl rfl rfl rfl rfl rfl rfl rfl (fun _ => ⟨_, _, [.sl 1 WL, .sl 1 [I 5]], [], [], rfl, rfl, rfl, by decide, trivial, Zaq [5] [5] WL _ hWL rfl (lim (n := 1) (by omega)) true rfl _ ?_⟩) (fun h => absurd rfl h);refine Z3 Z0 hA hS ?_;cbv;exact Z2 [] (by decide) Z9 (H' := []) (d' := .v (.bool true)) trivial rfl (Z1 hq)
end Go.Proofs.YtegjabljeepbdaaGreatDoor

namespace Go.Batch
theorem Zix {bin : Int} : ∀ (bs ext l : List Int), (∀ k, bs.length <= k -> l.getD k 0 = 0) -> inL bin (bs ++ ext) l = inL bin bs l
 | [], ext, l, h => by
  have key : ∀ (ext l : List Int), (∀ k, l.getD k 0 = 0) -> inL bin ext l = 0 := fun ext => by
   induction ext with
   | nil => intro l _; rfl
   | cons e ext ih =>
    intro l hl;unfold inL;have h0 : l.headD 0 = 0 := by have := hl 0; cases l <;> simpa using this
    rw [ih l.tail (fun k => by have := hl (k + 1); cases l <;> simpa using this), h0]
    split <;> rfl
  exact key ext l fun k => h k (by simp)
 | b :: bs, ext, l, h => by
  simp only [List.cons_append, inL];rw [Zix bs ext l.tail fun k hk => by have := h (k + 1) (by simp; omega); cases l <;> simpa using this]
def Z59 (n : Int) (b : Nat) : List (Int × Nat × Int) -> Int
 | [] => 0
 | p :: l => (if p.1 = n /\ p.2.1 = b then p.2.2 else 0) + Z59 n b l
def Zed (n : Int) (b : Nat) : List (Int × List Int) -> Int
 | [] => 0
 | t :: l => (if t.1 = n then t.2.getD b 0 else 0) + Zed n b l
theorem Zkl (n : Int) (b : Nat) : ∀ (l l' : List (Int × Nat × Int)), Z59 n b (l ++ l') = Z59 n b l + Z59 n b l'
 | [], l' => by simp [Z59]
 | p :: l, l' => by simp only [List.cons_append, Z59, Zkl n b l l']; omega
theorem Zkm (n : Int) (b : Nat) : ∀ (l l' : List (Int × List Int)), Zed n b (l ++ l') = Zed n b l + Zed n b l'
 | [], l' => by simp [Zed]
 | p :: l, l' => by simp only [List.cons_append, Zed, Zkm n b l l']; omega
theorem Zfq {inst n : Int} {b : Nat} {of : List Int} : ∀ (bs : List Int) (i : Nat), Z59 n b (Z1o inst of bs i) = if inst = n /\ i <= b /\ b < i + bs.length then of.getD b 0 else 0
 | [], i => by simp only [Z1o, Z59, List.length_nil]; rw [if_neg (by omega)]
 | c :: bs, i => by
  have ih := Zfq (inst := inst) (n := n) (b := b) (of := of) bs (i + 1);simp only [Z1o, List.length_cons]
  by_cases hb : b = i
  ·subst hb;rw [if_neg (by omega)] at ih
   split
   ·rename_i h0; rw [ih, h0]; simp
   ·simp only [Z59, ih]
    by_cases hn : inst = n
    ·rw [if_pos ⟨hn, trivial⟩, if_pos ⟨hn, Nat.le_refl _, by omega⟩]; omega
    ·rw [if_neg (fun h => hn h.1), if_neg (fun h => hn h.1)]; rfl
  ·have e : (inst = n /\ i <= b /\ b < i + (bs.length + 1)) ↔ (inst = n /\ i + 1 <= b /\ b < i + 1 + bs.length) := by omega
   split
   ·rw [ih]; simp only [e]
   ·simp only [Z59, ih, e];rw [if_neg (fun h => hb h.2.symm)]; omega
theorem Zbq (n : Int) (b : Nat) : ∀ (l : List (Int × Nat × Int)) (z : Int), Zt (Z2v n b) z l = z + Z59 n b l
 | [], z => by simp [Zt, Z59]
 | p :: l, z => by
  have := Zbq n b l (Z2v n b z p.1 p.2.1 p.2.2);simp only [Zt, List.foldl_cons] at this ⊢;rw [this];simp only [Z2v, Z59]
  split <;> omega
theorem Zv0 {ν : Type} {tk : Tk ν} {j j' : Jn} (h1 : j.ins = j'.ins) (h2 : j.first = j'.first) : Z22 j tk = Z22 j' tk := by
 unfold Z22; rw [h1, h2]
theorem Zcl {ν : Type} {tk : Tk ν} {j j' : Jn} (h1 : j.ins = j'.ins) (h2 : j.first = j'.first) (bins : List Int) : ∀ (ms : List Mv) (b : Nat) (now : List (Ste ν)), Z2u j tk bins ms b now = Z2u j' tk bins ms b now
 | [], _, _ => rfl
 | m :: ms, b, now => by simp only [Z2u]; rw [Zv0 h1 h2, Zcl h1 h2 bins ms]
structure Gen (ins : Int) (first : List Bool) (ms : List Mv) (lies : List Int) (truth : List (Int × List Int)) : Prop where
 ok : ∀ m ∈ ms, MOk ⟨ins, first, []⟩ m
 b4 : (Z6 ms).length <= 4
 bin : ∀ b ∈ Z6 ms, 0 <= b /\ b < first.length
 l : LOk lies
 z : ∀ k, (Z6 ms).length <= k -> lies.getD k 0 = 0
 tl : truth.length = ms.length
 ti : ∀ t ∈ truth, (t.1 = -1 ∨ 0 <= t.1 /\ t.1 < ins) /\ (t.2 = [] ∨ t.2.length = 4) /\ ∀ k, 0 <= t.2.getD k 0 /\ t.2.getD k 0 <= 5
 run : ∃ path, (∀ ext, (lies, path) ∈ Z2u ⟨ins, first, []⟩ Z1f (Z6 ms ++ ext) ms 0 [([0, 0, 0, 0], [])]) /\ ∀ n b, 0 <= n -> Z59 n b path = Zed n b truth
theorem Zv1 (ins : Int) (first : List Bool) : Gen ins first [] [0, 0, 0, 0] [] :=
 ⟨fun m hm => by simp at hm, by simp [Z6], fun b hb => by simp [Z6] at hb, Zq3, fun k _ => by
  match k with
  | 0 => rfl
  | 1 => rfl
  | 2 => rfl
  | 3 => rfl
  | k + 4 => rfl, rfl, fun t h => by simp at h, [], fun ext => by simp [Z2u], fun _ _ _ => rfl⟩
section
variable {ins : Int} {first : List Bool} {ms : List Mv} {lies : List Int} {truth : List (Int × List Int)}
theorem MOk.bins {m : Mv} (h : ∀ x ∈ ms ++ [m], MOk ⟨ins, first, []⟩ x) : ∀ b ∈ Z6 (ms ++ [m]), 0 <= b /\ b < first.length := fun b hb => by
 simp only [Z6, List.mem_map, List.mem_filter] at hb;obtain ⟨x, ⟨hx, -⟩, rfl⟩ := hb;exact ⟨(h x hx).b0, (h x hx).b1⟩
theorem Gen.step (h : Gen ins first ms lies truth) {m : Mv} (hm : MOk ⟨ins, first, []⟩ m) (hb : m.kind = 1 -> (Z6 ms).length < 4) {lies' : List Int} (hl : LOk lies') (hz : ∀ k, (Z6 (ms ++ [m])).length <= k -> lies'.getD k 0 = 0) {t : Int × List Int} {q : List (Int × Nat × Int)} (ht : (t.1 = -1 ∨ 0 <= t.1 /\ t.1 < ins) /\ (t.2 = [] ∨ t.2.length = 4) /\ ∀ k, 0 <= t.2.getD k 0 /\ t.2.getD k 0 <= 5)
  (hq : ∀ n b, 0 <= n -> Z59 n b q = Zed n b [t]) (hs : ∀ path ext, (lies', path ++ q) ∈ Z22 ⟨ins, first, []⟩ Z1f (Z6 (ms ++ [m]) ++ ext) m (Z6 ms).length (lies, path)) : Gen ins first (ms ++ [m]) lies' (truth ++ [t]) := by
 have hok : ∀ x ∈ ms ++ [m], MOk ⟨ins, first, []⟩ x := fun x hx => by
  rcases List.mem_append.1 hx with hx | hx
  ·exact h.ok x hx
  ·simp at hx; subst hx; exact hm
 obtain ⟨path, p1, p2⟩ := h.run;refine ⟨hok, ?_, MOk.bins (ins := ins) hok, hl, hz, by simp [h.tl], fun y hy => (by
  rcases List.mem_append.1 hy with hy | hy
  ·exact h.ti y hy
  ·simp at hy; subst hy; exact ht), path ++ q, fun ext => ?_, fun n b hn => by rw [Zkl, Zkm, p2 n b hn, hq n b hn]⟩
 ·rw [Z2t, List.length_append, Z2b];have := h.b4;have e0 : (Z6 []).length = 0 := rfl
  split
  ·rename_i hk; have := hb hk; rw [List.length_cons, e0]; omega
  ·rw [e0]; exact this
 ·rw [Z6u, Nat.zero_add];simp only [Z2u];rw [List.mem_flatMap];refine ⟨(lies, path), ?_, hs path ext⟩;have := p1 (Z6 [m] ++ ext)
  rwa [<- List.append_assoc, <- Z2t] at this
theorem Gen.in_ (h : Gen ins first ms lies truth) {bin n lo hi : Int} (hm : MOk ⟨ins, first, []⟩ ⟨1, bin, 0, lo, hi⟩) (hb : (Z6 ms).length < 4) (h1 : lo <= n) (h2 : n <= hi) : Gen ins first (ms ++ [⟨1, bin, 0, lo, hi⟩]) (lies.set (Z6 ms).length n) (truth ++ [(-1, [])]) := by
 have h8 := hm.l0; have h10 := hm.h5;simp only at h8 h10;refine h.step hm (fun _ => hb) (h.l.set hb (by omega) (by omega)) (fun k hk => ?_) (q := []) ⟨.inl rfl, .inl rfl, fun k => by simp⟩ (fun n b hn => ?_) (fun path ext => ?_)
 ·rw [Z2t, List.length_append] at hk;simp [Z6] at hk;rw [Z1r _ _ _ _ (by rw [h.l.len]; exact hb), if_neg (by simp [Z6]; omega)];exact h.z k (by simp [Z6]; omega)
 ·simp only [Z59, Zed]; rw [if_neg (by omega)]; rfl
 ·unfold Z22;simp only [if_true, List.append_nil, List.mem_map];exact ⟨n, Z2d.2 ⟨h1, h2⟩, rfl⟩
theorem Gen.cnt (h : Gen ins first ms lies truth) {bin lo hi : Int} (hm : MOk ⟨ins, first, []⟩ ⟨3, bin, 0, lo, hi⟩) (h1 : lo <= inL bin (Z6 ms) lies) (h2 : inL bin (Z6 ms) lies <= hi) : Gen ins first (ms ++ [⟨3, bin, 0, lo, hi⟩]) lies (truth ++ [(-1, [])]) := by
 have e : Z6 (ms ++ [⟨3, bin, 0, lo, hi⟩]) = Z6 ms := by rw [Z2t]; simp [Z6]
 refine h.step hm (fun e => by simp at e) h.l (fun k hk => by rw [e] at hk; exact h.z k hk) (q := []) ⟨.inl rfl, .inl rfl, fun k => by simp⟩ (fun n b hn => ?_) (fun path ext => ?_)
 ·simp only [Z59, Zed]; rw [if_neg (by omega)]; rfl
 ·rw [e];unfold Z22;simp only [List.append_nil];rw [if_neg (by simp), if_neg (by simp), Zix _ _ _ h.z, if_pos ⟨h1, h2⟩];simp
theorem Gen.out (h : Gen ins first ms lies truth) {bin i t n lo hi : Int} {of l2 : List Int} (hm : MOk ⟨ins, first, []⟩ ⟨2, bin, i, lo, hi⟩) (hit : i = t ∨ i = -1) (ht0 : 0 <= t) (ht1 : t < ins) (h1 : lo <= n) (h2 : n <= hi)
  (htk : Took (first.getD bin.toNat false) bin (Z6 ms) 0 lies of) (hsum : Z32 of (Z6 ms) 0 = n) (hl2 : l2.length = 4) (ho4 : of.length = 4) (hl : ∀ k, l2.getD k 0 = lies.getD k 0 - of.getD k 0) :
  Gen ins first (ms ++ [⟨2, bin, i, lo, hi⟩]) l2 (truth ++ [(t, of)]) := by
 have e : Z6 (ms ++ [⟨2, bin, i, lo, hi⟩]) = Z6 ms := by rw [Z2t]; simp [Z6]
 have hof : ∀ k, (Z6 ms).length <= k -> of.getD k 0 = 0 := fun k hk => by
  have g1 := htk.nn k; have g2 := htk.le k; rw [h.z k hk] at g2; omega
 refine h.step hm (fun e => by simp at e) ⟨hl2, fun k => ?_, fun k => ?_⟩ (fun k hk => ?_) (q := Z1o t of (Z6 ms) 0) ⟨.inr ⟨ht0, ht1⟩, .inr ho4, fun k => ⟨htk.nn k, Int.le_trans (htk.le k) (h.l.hi k)⟩⟩ (fun n b hn => ?_) (fun path ext => ?_)
 ·rw [hl]; have := htk.le k; omega
 ·rw [hl]; have := htk.nn k; have := h.l.hi k; omega
 ·rw [e] at hk; rw [hl, h.z k hk, hof k hk]; rfl
 ·rw [Zfq];simp only [Zed]
  by_cases hb : b < (Z6 ms).length
  ·by_cases hn' : t = n
   ·rw [if_pos ⟨hn', Nat.zero_le _, by omega⟩, if_pos hn']; omega
   ·rw [if_neg (fun g => hn' g.1), if_neg hn']; rfl
  ·rw [if_neg (by omega), hof b (by omega)]; split <;> rfl
 ·rw [e];unfold Z22;rw [if_neg (by simp), if_pos rfl];simp only [List.mem_flatMap];refine ⟨t, ?_, n, Z2d.2 ⟨h1, h2⟩, ?_⟩
  ·unfold Z9q;rcases hit with rfl | rfl
   ·rw [if_neg (by show ¬ i < 0; omega)]; simp
   ·rw [if_pos (by simp), Z2d]; omega
  ·have hlen := h.l.len;rw [Zai (Z6 ms) ext 0 (lies, path) n (fun k hk => h.z k (by simpa using hk)) (by rw [Nat.zero_add, hlen]; exact h.b4)];refine Z8p (Z6 ms) 0 lies of l2 path n htk (by rw [Nat.zero_add, hlen]; exact h.b4) hsum (by rw [hl2, hlen]) (fun k => ?_);rw [hl]
   split
   ·rfl
   ·rename_i hk; rw [hof k (by omega)]; omega
theorem Took.unit {fifo : Bool} {bin : Int} {bs lies of cur : List Int} (h : Took fifo bin bs 0 lies of) (hc : ∀ k, cur.getD k 0 = lies.getD k 0 - of.getD k 0) {own : Nat} (ho : bs[own]? = some bin) (hp : 0 < cur.getD own 0)
  (hf : fifo = true -> ∀ k, k < own -> bs[k]? = some bin -> cur.getD k 0 <= 0) {of' : List Int} (hof : ∀ k, of'.getD k 0 = if k = own then of.getD own 0 + 1 else of.getD k 0) : Took fifo bin bs 0 lies of' :=
 ⟨fun k => by rw [hof]; have g1 := h.nn k; have g2 := h.nn own; split <;> omega, fun k => by
  rw [hof]
  split
  ·rename_i e; subst e; have := hc k; omega
  ·exact h.le k, fun k b hk hb => by
  have := h.oth k b hk hb
  rw [hof, if_neg]
  ·exact this
  ·intro e
   rw [Nat.zero_add] at e; subst e
   rw [ho] at hk; cases hk; exact hb rfl, fun hff k k' b hkk hk hb h0 hlt => by
  simp only [Nat.zero_add] at h0 ⊢
  subst hb
  rw [hof] at h0 ⊢
  by_cases e1 : k' = own
  ·subst e1
   rw [if_neg (by omega)]
   have g1 := hf hff k hkk hk
   have g2 := hc k
   have g3 := h.le k
   omega
  ·rw [if_neg e1] at h0
   have := h.fst hff k k' b hkk hk rfl (by simpa using h0) hlt
   simp only [Nat.zero_add] at this
   by_cases e2 : k = own
   ·subst e2
    have := hc k; omega
   ·rw [if_neg e2]; exact this⟩
theorem Zsg {fifo : Bool} {bin : Int} {bs lies : List Int} (hl : ∀ k, 0 <= lies.getD k 0) : Took fifo bin bs 0 lies [0, 0, 0, 0] := by
 have z : ∀ k, ([0, 0, 0, 0] : List Int).getD k 0 = 0 := fun k => by
  match k with
  | 0 => rfl
  | 1 => rfl
  | 2 => rfl
  | 3 => rfl
  | k + 4 => rfl
 exact ⟨fun k => by rw [z]; exact Int.le_refl _, fun k => by rw [z]; exact hl k, fun k b _ _ => z _, fun _ k k' b _ _ _ h0 _ => by rw [z] at h0; omega⟩
theorem Gen.ends (h : Gen ins first ms lies truth) : ∃ path, (lies, path) ∈ Zd ⟨ins, first, ms⟩ Z1f [] /\ ∀ n b, 0 <= n -> Z59 n b path = Zed n b truth := by
 obtain ⟨path, p1, p2⟩ := h.run;refine ⟨path, ?_, p2⟩;have := p1 [];rw [List.append_nil] at this;unfold Zd
 rwa [Zcl (j := ⟨ins, first, ms⟩) (j' := ⟨ins, first, []⟩) rfl rfl]
end
end Go.Batch

namespace Go.Batch
section
variable {ν : Type}
structure RenOk (ins : Int) (π : Int -> Int) : Prop where
 rng : ∀ i, 0 <= i -> i < ins -> 0 <= π i /\ π i < ins
 inj : ∀ i k, 0 <= i -> i < ins -> 0 <= k -> k < ins -> π i = π k -> i = k
 sur : ∀ k, 0 <= k -> k < ins -> ∃ i, 0 <= i /\ i < ins /\ π i = k
inductive Eff where
 | put (b : Nat) (n : Int)
 | take (b : Nat) (inst n : Int)
def Eff.at : Eff -> Nat
 | .put b _ => b
 | .take b _ _ => b
theorem Zon {bin : Int} : ∀ (bs l l' : List Int), (∀ k, bs[k]? = some bin -> l.getD k 0 = l'.getD k 0) -> inL bin bs l = inL bin bs l'
 | [], _, _, _ => rfl
 | b :: bs, l, l', h => by
  have ih := Zon bs l.tail l'.tail fun k hk => by
   have := h (k + 1) (by simpa using hk)
   cases l <;> cases l' <;> simpa using this
  simp only [inL, ih]
  by_cases hb : b = bin
  ·have := h 0 (by simp [hb]);have e : l.headD 0 = l'.headD 0 := by cases l <;> cases l' <;> simpa using this
   rw [e]
  ·rw [if_neg hb, if_neg hb]
def Zv2 (tk : Tk ν) : Prop := ∀ y i b n i' b' n', b ≠ b' -> tk (tk y i b n) i' b' n' = tk (tk y i' b' n') i b n
end
theorem Zq5 : Zv2 Zn := fun _ _ _ _ _ _ _ _ => rfl
theorem Zsh (i : Int) (b : Nat) : Zv2 (Z2v i b) := fun y i1 b1 n1 i2 b2 n2 h => by
 unfold Z2v
 split <;> split <;> omega
theorem Zsi (i : Int) : Zv2 (Z29 i) := fun y i1 b1 n1 i2 b2 n2 h => by
 unfold Z29
 split <;> split <;> try rfl
 unfold Z2h;simp only [Int.toNat_natCast];rw [Nat.or_assoc, Nat.or_assoc, Nat.or_comm (1 <<< b1)]
end Go.Batch
