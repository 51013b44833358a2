/- Part TxBB of the proofs about the benches of the accordion maker: see the last text of the claim for what is proved. -/
import Derived.Test.YthljpccegkmdnaaGreatDoorTxAQ
import Derived.Test.YthljpccegkmdnaaGreatDoorTxAL
import Derived.Test.YthljpccegkmdnaaGreatDoorTxBA
import Derived.Test.YthljpccegkmdnaaGreatDoorTxAV
set_option linter.unusedVariables false
set_option linter.unusedSimpArgs false
set_option linter.unnecessarySimpa false
set_option linter.constructorNameAsVariable false

namespace Go.Proofs.YthljpccegkmdnaaGreatDoor
open Go Go.Abs Go.Proofs
theorem Zdk {α : Type} {a b : List α} {k : Nat} {x y : α} (ha : a[k]? = some x) (hb : b[k]? = some y) (h : a.take k = b.take k) : (a.take (k + 1) = b.take (k + 1)) ↔ x = y := by
 rw [List.take_add_one, List.take_add_one, ha, hb, h]; simp
theorem Zg4 {α : Type} {a b : List α} {k : Nat} {x y : α} (ha : a[k]? = some x) (hb : b[k]? = some y) (h : x ≠ y) : a ≠ b := fun e => by
 subst e; rw [ha] at hb; exact h (Option.some.inj hb)
theorem Zx0 {A : Ar} (hA : A = ar) (x y : Int) : A.cmp .eql x y = decide (x = y) := by subst hA; rfl
set_option maxRecDepth 20000 in
set_option maxHeartbeats 2000000 in
theorem Zaq (a b : List Int) (LA LB : List D) (hLA : LA = a.map I) (hLB : LB = b.map I) (hl : a.length <= 1152921504606846976) (r : Bool) (hr : r = decide (a = b)) (Q) (hq : Q (RA.ret (.v (.bool r))) []) :
  CallA Tryz.prog 21 [.sl 1 LA, .sl 1 LB] [] Q := by
 obtain ⟨A, hA⟩ : ∃ A, A = ar := ⟨_, rfl⟩;have hAl : LA.length = a.length := by rw [hLA]; simp
 have hBl : LB.length = b.length := by rw [hLB]; simp
 obtain ⟨s0, hs0⟩ : ∃ s0, s0 = A.cmp .eql (A.oi (A.len LA)) (A.oi (A.len LB)) := ⟨_, rfl⟩;have hs1 : s0 = decide (a.length = b.length) := by
  rw [hs0, yoiL hA hAl, yoiL hA hBl, Zx0 hA]
  by_cases h : a.length = b.length
  ·rw [decide_eq_true h, decide_eq_true (by omega)]
  ·rw [decide_eq_false h, decide_eq_false (by omega)]
 refine Z5 Z0 hA Tryz.func21 rfl rfl rfl rfl rfl fun S hS => ?_;cbv;refine Zb hS ?_;refine Za (α := Int × Nat × Bool) (fun q => { env := [(0, .sl 1 LA), (1, .sl 1 LB), (5, .v (.bool q.2.2)), (6, I q.1)], H := [], nt := 31, dfs := [] })
  (fun q => a.length + 1 - q.2.1) (fun q => IsI q.1 q.2.1 /\ q.2.1 <= a.length /\ (q.2.2 = true -> a.length = b.length /\ a.take q.2.1 = b.take q.2.1) /\ (q.2.2 = false -> a ≠ b)) (0, 0, A.cmp .eql (A.oi (A.len LA)) (A.oi (A.len LB))) ⟨⟨rfl⟩, Nat.zero_le _, ?_, ?_⟩ ?_ ?_
 ·exact fun h => ⟨of_decide_eq_true (hs1.symm.trans (hs0.trans h)), rfl⟩
 ·exact fun h e => of_decide_eq_false (hs1.symm.trans (hs0.trans h)) (by rw [e])
 ·exact Zf [] ⟨by decide, Z9, trivial, ⟨rfl, rfl, rfl, rfl, trivial⟩, rfl, rfl⟩
 rintro ⟨i, k, sm⟩ ⟨u1, u2, u3, u4⟩;dsimp only at u1 u2 u3 u4
 cases sm
 ·have hr0 : r = false := by rw [hr]; exact decide_eq_false (u4 rfl)
  rw [hr0] at hq;refine Zi Z0 hA hS ?_;cbv;refine Z7 ?_;cbv;exact Z1 hq
 ·obtain ⟨e1, e2⟩ := u3 rfl;have hend : a.length <= k -> r = true := fun h => by
   rw [hr]; refine decide_eq_true ?_;rw [List.take_of_length_le h, List.take_of_length_le (by omega)] at e2; exact e2
  have hget : k < a.length -> ∃ x y, a[k]? = some x /\ b[k]? = some y := fun h => ⟨_, _, List.getElem?_eq_getElem h, List.getElem?_eq_getElem (by omega)⟩;have hlt : k < b.length -> k < a.length := fun h => by omega
  have hgt : k < a.length -> k < b.length := fun h => by omega
  have hms : k < a.length -> a.length + 1 - (k + 1) < a.length + 1 - k := fun h => by omega
  refine Zi Z0 hA hS ?_;cbv
  split
  ·rename_i c
   have hk := Z31 hA hAl u1 c;obtain ⟨x, y, hx, hy⟩ := hget hk;have hLx : LA[k]? = some (I x) := by rw [hLA]; simp [hx]
   have hLy : LB[k]? = some (I y) := by rw [hLB]; simp [hy]
   have hn1 : A.cmp .eql x y = true -> a.length = b.length /\ a.take (k + 1) = b.take (k + 1) := fun h => ⟨e1, (Zdk hx hy e2).2 (xeq hA h)⟩;have hn2 : A.cmp .eql x y = false -> a ≠ b := fun h => Zg4 hx hy (Z2o hA h);cbv;refine Z16 Z0 hA hS [0, 1, 2, 3, 4, 5, 6, 7, 8, 9] rfl rfl fun Dk hD => ?_;cbv;refine ⟨Z1b hA hAl u1 hk, ⟨_, Z18 hA u1 hLx, ?_⟩⟩;cbv;refine ⟨Z1b hA hBl u1 (hgt hk), ⟨_, Z18 hA u1 hLy, ?_⟩⟩;cbv;refine ⟨Zy hA u1 (by omega), ?_⟩;refine Z8 (A.add i 1, k + 1, A.cmp .eql x y) [] ⟨Zz hA u1, hk, hn1, hn2⟩ (hms hk) ?_;exact ⟨by decide, Z9, trivial, ⟨rfl, rfl, rfl, rfl, trivial⟩, rfl, rfl⟩
  ·rename_i c
   have hk := Z21 hA hAl u1 c;have hr1 := hend hk;rw [hr1] at hq;cbv;refine Z7 ?_;cbv;exact Z1 hq
theorem Zzl {A : Ar} (hA : A = ar) {x y : List Int} (h : A.leq x y = true) : x = y := by subst hA; simpa [ar] using h
theorem Zyd {A : Ar} (hA : A = ar) {x y : List Int} (h : A.leq x y = false) : x ≠ y := by subst hA; simpa [ar] using h
def Zt3 (x : Int × Int) : D := .agg [I x.1, I x.2]
set_option maxRecDepth 20000 in
set_option maxHeartbeats 2000000 in
theorem Za2 (a b : List (Int × Int)) (LA LB : List D) (hLA : LA = a.map Zt3) (hLB : LB = b.map Zt3) (hl : a.length <= 1152921504606846976) (r : Bool) (hr : r = decide (a = b)) (Q) (hq : Q (RA.ret (.v (.bool r))) []) :
  CallA Tryz.prog 17 [.sl 2 LA, .sl 2 LB] [] Q := by
 obtain ⟨A, hA⟩ : ∃ A, A = ar := ⟨_, rfl⟩;have hAl : LA.length = a.length := by rw [hLA]; simp
 have hBl : LB.length = b.length := by rw [hLB]; simp
 obtain ⟨s0, hs0⟩ : ∃ s0, s0 = A.cmp .eql (A.oi (A.len LA)) (A.oi (A.len LB)) := ⟨_, rfl⟩;have hs1 : s0 = decide (a.length = b.length) := by
  rw [hs0, yoiL hA hAl, yoiL hA hBl, Zx0 hA]
  by_cases h : a.length = b.length
  ·rw [decide_eq_true h, decide_eq_true (by omega)]
  ·rw [decide_eq_false h, decide_eq_false (by omega)]
 refine Z5 Z0 hA Tryz.func17 rfl rfl rfl rfl rfl fun S hS => ?_;cbv;refine Zb hS ?_;refine Za (α := Int × Nat × Bool) (fun q => { env := [(0, .sl 2 LA), (1, .sl 2 LB), (5, .v (.bool q.2.2)), (6, I q.1)], H := [], nt := 31, dfs := [] })
  (fun q => a.length + 1 - q.2.1) (fun q => IsI q.1 q.2.1 /\ q.2.1 <= a.length /\ (q.2.2 = true -> a.length = b.length /\ a.take q.2.1 = b.take q.2.1) /\ (q.2.2 = false -> a ≠ b)) (0, 0, A.cmp .eql (A.oi (A.len LA)) (A.oi (A.len LB))) ⟨⟨rfl⟩, Nat.zero_le _, ?_, ?_⟩ ?_ ?_
 ·exact fun h => ⟨of_decide_eq_true (hs1.symm.trans (hs0.trans h)), rfl⟩
 ·exact fun h e => of_decide_eq_false (hs1.symm.trans (hs0.trans h)) (by rw [e])
 ·exact Zf [] ⟨by decide, Z9, trivial, ⟨rfl, rfl, rfl, rfl, trivial⟩, rfl, rfl⟩
 rintro ⟨i, k, sm⟩ ⟨u1, u2, u3, u4⟩;dsimp only at u1 u2 u3 u4
 cases sm
 ·have hr0 : r = false := by rw [hr]; exact decide_eq_false (u4 rfl)
  rw [hr0] at hq;refine Zi Z0 hA hS ?_;cbv;refine Z7 ?_;cbv;exact Z1 hq
 ·obtain ⟨e1, e2⟩ := u3 rfl;have hend : a.length <= k -> r = true := fun h => by
   rw [hr]; refine decide_eq_true ?_;rw [List.take_of_length_le h, List.take_of_length_le (by omega)] at e2; exact e2
  have hget : k < a.length -> ∃ x1 x2 y1 y2, a[k]? = some (x1, x2) /\ b[k]? = some (y1, y2) := fun h => ⟨_, _, _, _, List.getElem?_eq_getElem h, List.getElem?_eq_getElem (by omega)⟩;have hgt : k < a.length -> k < b.length := fun h => by omega
  have hms : k < a.length -> a.length + 1 - (k + 1) < a.length + 1 - k := fun h => by omega
  refine Zi Z0 hA hS ?_;cbv
  split
  ·rename_i c
   have hk := Z31 hA hAl u1 c;obtain ⟨x1, x2, y1, y2, hx, hy⟩ := hget hk;have hLx : LA[k]? = some (.agg [I x1, I x2]) := by rw [hLA]; simp [hx, Zt3]
   have hLy : LB[k]? = some (.agg [I y1, I y2]) := by rw [hLB]; simp [hy, Zt3]
   have hn1 : A.leq [x1, x2] [y1, y2] = true -> a.length = b.length /\ a.take (k + 1) = b.take (k + 1) := fun h => ⟨e1, (Zdk hx hy e2).2 (by have := Zzl hA h; simp only [List.cons.injEq, and_true] at this; rw [this.1, this.2])⟩;have hn2 : A.leq [x1, x2] [y1, y2] = false -> a ≠ b := fun h => Zg4 hx hy (fun e => by cases e; exact Zyd hA h rfl);cbv;refine Z16 Z0 hA hS [0, 1, 2, 3, 4, 5, 6, 7, 8, 9] rfl rfl fun Dk hD => ?_;cbv;refine ⟨Z1b hA hAl u1 hk, ⟨_, Z18 hA u1 hLx, ?_⟩⟩;cbv;refine ⟨Z1b hA hBl u1 (hgt hk), ⟨_, Z18 hA u1 hLy, ?_⟩⟩;cbv;refine ⟨[x1, x2], [y1, y2], rfl, rfl, rfl, rfl, ?_⟩;cbv;refine ⟨Zy hA u1 (by omega), ?_⟩;refine Z8 (A.add i 1, k + 1, A.leq [x1, x2] [y1, y2]) [] ⟨Zz hA u1, hk, hn1, hn2⟩ (hms hk) ?_;exact ⟨by decide, Z9, trivial, ⟨rfl, rfl, rfl, rfl, trivial⟩, rfl, rfl⟩
  ·rename_i c
   have hk := Z21 hA hAl u1 c;have hr1 := hend hk;rw [hr1] at hq;cbv;refine Z7 ?_;cbv;exact Z1 hq
end Go.Proofs.YthljpccegkmdnaaGreatDoor

namespace Go.Proofs.YthljpccegkmdnaaGreatDoor
open Go Go.Abs Go.Proofs Go.Batch
def Zt4 (l : List Int) : D := .sl 1 (l.map I)
set_option maxRecDepth 20000 in
set_option maxHeartbeats 4000000 in
theorem Znb (a b : List (List Int)) (LA LB : List D) (hLA : LA = a.map Zt4) (hLB : LB = b.map Zt4) (hl : a.length <= 1152921504606846976) (hl2 : ∀ l ∈ a, l.length <= 1152921504606846976) (r : Bool) (hr : r = decide (a = b)) (Q) (hq : Q (RA.ret (.v (.bool r))) []) :
  CallA Tryz.prog 18 [.sl 1 LA, .sl 1 LB] [] Q := by
 obtain ⟨A, hA⟩ : ∃ A, A = ar := ⟨_, rfl⟩;have hAl : LA.length = a.length := by rw [hLA]; simp
 have hBl : LB.length = b.length := by rw [hLB]; simp
 obtain ⟨s0, hs0⟩ : ∃ s0, s0 = A.cmp .eql (A.oi (A.len LA)) (A.oi (A.len LB)) := ⟨_, rfl⟩;have hs1 : s0 = decide (a.length = b.length) := by
  rw [hs0, yoiL hA hAl, yoiL hA hBl, Zx0 hA]
  by_cases h : a.length = b.length
  ·rw [decide_eq_true h, decide_eq_true (by omega)]
  ·rw [decide_eq_false h, decide_eq_false (by omega)]
 refine Z5 Z0 hA Tryz.func18 rfl rfl rfl rfl rfl fun S hS => ?_;cbv;refine Zb hS ?_;refine Za (α := Int × Nat × Bool) (fun q => { env := [(0, .sl 1 LA), (1, .sl 1 LB), (5, .v (.bool q.2.2)), (6, I q.1)], H := [], nt := 31, dfs := [] })
  (fun q => a.length + 1 - q.2.1) (fun q => IsI q.1 q.2.1 /\ q.2.1 <= a.length /\ (q.2.2 = true -> a.length = b.length /\ a.take q.2.1 = b.take q.2.1) /\ (q.2.2 = false -> a ≠ b)) (0, 0, A.cmp .eql (A.oi (A.len LA)) (A.oi (A.len LB))) ⟨⟨rfl⟩, Nat.zero_le _, ?_, ?_⟩ ?_ ?_
 ·exact fun h => ⟨of_decide_eq_true (hs1.symm.trans (hs0.trans h)), rfl⟩
 ·exact fun h e => of_decide_eq_false (hs1.symm.trans (hs0.trans h)) (by rw [e])
 ·exact Zf [] ⟨by decide, Z9, trivial, ⟨rfl, rfl, rfl, rfl, trivial⟩, rfl, rfl⟩
 rintro ⟨i, k, sm⟩ ⟨u1, u2, u3, u4⟩;dsimp only at u1 u2 u3 u4
 cases sm
 ·have hr0 : r = false := by rw [hr]; exact decide_eq_false (u4 rfl)
  rw [hr0] at hq;refine Zi Z0 hA hS ?_;cbv;refine Z7 ?_;cbv;exact Z1 hq
 ·obtain ⟨e1, e2⟩ := u3 rfl;have hend : a.length <= k -> r = true := fun h => by
   rw [hr]; refine decide_eq_true ?_;rw [List.take_of_length_le h, List.take_of_length_le (by omega)] at e2; exact e2
  have hget : k < a.length -> ∃ x y, a[k]? = some x /\ b[k]? = some y := fun h => ⟨_, _, List.getElem?_eq_getElem h, List.getElem?_eq_getElem (by omega)⟩;have hgt : k < a.length -> k < b.length := fun h => by omega
  have hms : k < a.length -> a.length + 1 - (k + 1) < a.length + 1 - k := fun h => by omega
  refine Zi Z0 hA hS ?_;cbv;refine bm (fun c => ?_) (fun c => ?_)
  ·have hk := Z31 hA hAl u1 c;obtain ⟨x, y, hx, hy⟩ := hget hk;obtain ⟨XL, hXL⟩ : ∃ XL, XL = x.map I := ⟨_, rfl⟩;obtain ⟨YL, hYL⟩ : ∃ YL, YL = y.map I := ⟨_, rfl⟩;have hLx : LA[k]? = some (.sl 1 XL) := by rw [hLA, hXL]; simp [hx, Zt4]
   have hLy : LB[k]? = some (.sl 1 YL) := by rw [hLB, hYL]; simp [hy, Zt4]
   obtain ⟨r1, hr1⟩ : ∃ r1, r1 = decide (x = y) := ⟨_, rfl⟩;have hn1 : r1 = true -> a.length = b.length /\ a.take (k + 1) = b.take (k + 1) := fun h => ⟨e1, (Zdk hx hy e2).2 (of_decide_eq_true (hr1.symm.trans h))⟩;have hn2 : r1 = false -> a ≠ b := fun h => Zg4 hx hy (of_decide_eq_false (hr1.symm.trans h));have hsm := fun Q => Zaq x y XL YL hXL hYL (hl2 x (List.mem_of_getElem? hx)) r1 hr1 Q;have i1 := Z1b hA hAl u1 hk;have i2 := Z1b hA hBl u1 (hgt hk);have g1 := Z18 hA u1 hLx;have g2 := Z18 hA u1 hLy;have hf := Zy hA u1 (by omega);have hu1 := Zz hA u1;have hm1 := hms hk;cbv;refine Z16 Z0 hA hS [0, 1, 2, 3, 4, 5, 6, 7, 8, 9] rfl rfl fun Dk hD => ?_;cbv;refine ⟨i1, ⟨_, g1, ?_⟩⟩;cbv;refine ⟨i2, ⟨_, g2, ?_⟩⟩;cbv;refine Zq hA hD [.sl 1 XL, .sl 1 YL] [] [] rfl rfl rfl rfl rfl rfl rfl rfl rfl rfl rfl (by decide) trivial (hsm _ ⟨by cbv; repeat' (first | exact trivial | exact Need.mk ⟨_, g1, rfl⟩ | exact Need.mk ⟨_, g2, rfl⟩ | refine ⟨?_, ?_⟩), Zx Z0 hA hD ?_⟩);cbv;refine ⟨hf, ?_⟩;refine Z8 (A.add i 1, k + 1, r1) [] ⟨hu1, hk, hn1, hn2⟩ hm1 ?_;exact ⟨by decide, Z9, trivial, ⟨rfl, rfl, rfl, rfl, trivial⟩, rfl, rfl⟩
  ·have hk := Z21 hA hAl u1 c;have hr1 := hend hk;rw [hr1] at hq;cbv;refine Z7 ?_;cbv;exact Z1 hq
theorem lTo (lo hi : Int) (Q) (hq : Q (RA.ret (.agg [I lo, I hi])) []) : CallA Tryz.prog 9 [I lo, I hi] [] Q := by
 obtain ⟨A, hA⟩ : ∃ A, A = ar := ⟨_, rfl⟩;refine Z5 Z0 hA Tryz.func9 rfl rfl rfl rfl rfl fun S hS => ?_;cbv;exact Z2 [] (by decide) Z9 (H' := []) (d' := .agg [I lo, I hi]) trivial rfl (Z1 hq)
theorem lIn (b lo hi : Int) (Q) (hq : Q (RA.ret (.agg [I 1, I b, I 0, I lo, I hi])) []) : CallA Tryz.prog 47 [I b, I lo, I hi] [] Q := by
 obtain ⟨A, hA⟩ : ∃ A, A = ar := ⟨_, rfl⟩;refine Z5 Z0 hA Tryz.func47 rfl rfl rfl rfl rfl fun S hS => ?_;cbv;refine Z4 hS [I lo, I hi] [] [] rfl rfl rfl rfl rfl rfl rfl rfl (by decide) trivial (lTo lo hi _ ?_);refine Z3 Z0 hA hS ?_;cbv;exact Z2 [] (by decide) Z9 (H' := []) (d' := .agg [I 1, I b, I 0, I lo, I hi]) trivial rfl (Z1 hq)
theorem Zt5 (b i lo hi : Int) (Q) (hq : Q (RA.ret (.agg [I 2, I b, I i, I lo, I hi])) []) : CallA Tryz.prog 31 [I b, I i, I lo, I hi] [] Q := by
 obtain ⟨A, hA⟩ : ∃ A, A = ar := ⟨_, rfl⟩;refine Z5 Z0 hA Tryz.func31 rfl rfl rfl rfl rfl fun S hS => ?_;cbv;refine Z4 hS [I lo, I hi] [] [] rfl rfl rfl rfl rfl rfl rfl rfl (by decide) trivial (lTo lo hi _ ?_);refine Z3 Z0 hA hS ?_;cbv;exact Z2 [] (by decide) Z9 (H' := []) (d' := .agg [I 2, I b, I i, I lo, I hi]) trivial rfl (Z1 hq)
theorem Zt6 (b lo hi : Int) (Q) (hq : Q (RA.ret (.agg [I 3, I b, I 0, I lo, I hi])) []) : CallA Tryz.prog 27 [I b, I lo, I hi] [] Q := by
 obtain ⟨A, hA⟩ : ∃ A, A = ar := ⟨_, rfl⟩;refine Z5 Z0 hA Tryz.func27 rfl rfl rfl rfl rfl fun S hS => ?_;cbv;refine Z4 hS [I lo, I hi] [] [] rfl rfl rfl rfl rfl rfl rfl rfl (by decide) trivial (lTo lo hi _ ?_);refine Z3 Z0 hA hS ?_;cbv;exact Z2 [] (by decide) Z9 (H' := []) (d' := .agg [I 3, I b, I 0, I lo, I hi]) trivial rfl (Z1 hq)
theorem Zl5 (ML : List D) (Q) (hq : Q (RA.ret (.agg [I 3, .sl 1 [Zv true, Zv false], .sl 5 ML])) []) : CallA Tryz.prog 30 [.sl 5 ML] [] Q := by
 obtain ⟨A, hA⟩ : ∃ A, A = ar := ⟨_, rfl⟩;have hl2 : A.eqN 2 (A.len [Zv true, Zv false]) := by subst hA; rfl
 refine Z5 Z0 hA Tryz.func30 rfl rfl rfl rfl rfl fun S hS => ?_;cbv;refine Z1w [1] ?_;cbv
 repeat' (first | exact rfl | exact Z2 [] (by decide) Z9 (H' := []) (d' := .agg [I 3, .sl 1 [Zv true, Zv false], .sl 5 ML]) trivial rfl (Z1 hq) | refine ⟨?_, ?_⟩)
def Zj3 (ML : List D) : List D := [.agg [I 1, I 0, I 0, I 2, I 3], .agg [I 1, I 0, I 0, I 2, I 2], .agg [I 2, I 0, I 0, I 1, I 1], .agg [I 2, I 0, I 1, I 2, I 2], .agg [I 2, I 0, I 2, I 1, I 1]] ++ ML
theorem Zar (ms : List Mv) (ML : List D) (h : ML = ms.map mvD) : Zj3 ML = (jnF ms).moves.map mvD := by rw [h]; rfl
set_option maxRecDepth 20000 in
set_option maxHeartbeats 4000000 in
theorem Zj4 (ML : List D) (n : Nat) (hn : ML.length = n) (hn6 : n <= 1000) (Q) (hq : ∀ FM, FM = Zj3 ML -> Q (RA.ret (.agg [I 3, .sl 1 [Zv true, Zv false], .sl 5 FM])) []) : CallA Tryz.prog 8 [.sl 5 ML] [] Q := by
 obtain ⟨A, hA⟩ : ∃ A, A = ar := ⟨_, rfl⟩;obtain ⟨FM, hFM⟩ : ∃ FM, FM = A.app [.agg [I 1, I 0, I 0, I 2, I 3], .agg [I 1, I 0, I 0, I 2, I 2], .agg [I 2, I 0, I 0, I 1, I 1], .agg [I 2, I 0, I 1, I 2, I 2], .agg [I 2, I 0, I 2, I 1, I 1]] ML := ⟨_, rfl⟩;have hFE : FM = Zj3 ML := by rw [hFM, Z33 hA]; rfl
 have hz := hq FM hFE;have hfl : FM.length = A.addN 5 (A.len ML) := by rw [hFE, Zj3, Z2e hA, Z9m hA hn]; simp; omega
 have hen : A.eqN (A.addN 5 (A.len ML)) (A.len FM) := Ze hA hfl;have hrm : A.room (A.addN 5 (A.len ML)) 40 := by rw [Z2e hA, Z9m hA hn]; exact Zj1 hA (by omega) (by decide)
 refine Z5 Z0 hA Tryz.func8 rfl rfl rfl rfl rfl fun S hS => ?_;cbv;refine Z4 hS [I 0, I 2, I 3] [] [] rfl rfl rfl rfl rfl rfl rfl rfl (by decide) trivial (lIn 0 2 3 _ ?_);refine Z3 Z0 hA hS ?_;cbv;refine Z4 hS [I 0, I 2, I 2] [] [] rfl rfl rfl rfl rfl rfl rfl rfl (by decide) trivial (lIn 0 2 2 _ ?_);refine Z3 Z0 hA hS ?_;cbv;refine Z4 hS [I 0, I 0, I 1, I 1] [] [] rfl rfl rfl rfl rfl rfl rfl rfl (by decide) trivial (Zt5 0 0 1 1 _ ?_);refine Z3 Z0 hA hS ?_;cbv;refine Z4 hS [I 0, I 1, I 2, I 2] [] [] rfl rfl rfl rfl rfl rfl rfl rfl (by decide) trivial (Zt5 0 1 2 2 _ ?_);refine Z3 Z0 hA hS ?_;cbv;refine Z4 hS [I 0, I 2, I 1, I 1] [] [] rfl rfl rfl rfl rfl rfl rfl rfl (by decide) trivial (Zt5 0 2 1 1 _ ?_);refine Z3 Z0 hA hS ?_;cbv;refine ⟨Ze hA rfl, hrm, ?_⟩;refine Z26 hS (Z39 2 rfl hFM.symm (Z1a hA [2] ?_));cbv;refine ⟨hen, Z7 ?_⟩;refine Z4 hS [.sl 5 FM] [] [] rfl rfl rfl rfl rfl rfl rfl rfl (by decide) trivial (Zl5 FM _ ?_);refine Z3 Z0 hA hS ?_;cbv;exact Z2 [] (by decide) Z9 (H' := []) (d' := .agg [I 3, .sl 1 [Zv true, Zv false], .sl 5 FM]) trivial rfl (Z1 hz)
set_option maxRecDepth 20000 in
theorem Zt7 (Q) (hq : ∀ FM, FM = (jnF [Zci 0 1 1]).moves.map mvD -> Q (RA.ret (.agg [I 3, .sl 1 [Zv true, Zv false], .sl 5 FM])) []) : CallA Tryz.prog 14 [] [] Q := by
 obtain ⟨A, hA⟩ : ∃ A, A = ar := ⟨_, rfl⟩;refine Z5 Z0 hA Tryz.func14 rfl rfl rfl rfl rfl fun S hS => ?_;cbv;refine Z4 hS [I 0, I 1, I 1] [] [] rfl rfl rfl rfl rfl rfl rfl rfl (by decide) trivial (Zt6 0 1 1 _ ?_);refine Z3 Z0 hA hS ?_;cbv;refine Z26 hS (Z1a hA [1] ?_);cbv;refine ⟨by subst hA; rfl, Z7 ?_⟩;refine Z4 hS [.sl 5 [.agg [I 3, I 0, I 0, I 1, I 1]]] [] [] rfl rfl rfl rfl rfl rfl rfl rfl (by decide) trivial (Zj4 _ 1 rfl (by decide) _ fun FM hFM => ?_);have hz := hq FM (hFM.trans (Zar [Zci 0 1 1] _ rfl));refine Z3 Z0 hA hS ?_;cbv;exact Z2 [] (by decide) Z9 (H' := []) (d' := .agg [I 3, .sl 1 [Zv true, Zv false], .sl 5 FM]) trivial rfl (Z1 hz)
set_option maxRecDepth 20000 in
theorem Zzm (Q) (hq : ∀ FM, FM = jnA.moves.map mvD -> Q (RA.ret (.agg [I 3, .sl 1 [Zv true, Zv false], .sl 5 FM])) []) : CallA Tryz.prog 16 [] [] Q := by
 obtain ⟨A, hA⟩ : ∃ A, A = ar := ⟨_, rfl⟩;have hz := hq _ rfl;refine Z5 Z0 hA Tryz.func16 rfl rfl rfl rfl rfl fun S hS => ?_;cbv;refine Z4 hS [I 1, I 2, I 2] [] [] rfl rfl rfl rfl rfl rfl rfl rfl (by decide) trivial (lIn 1 2 2 _ ?_);refine Z3 Z0 hA hS ?_;cbv;refine Z4 hS [I 1, I 1, I 1] [] [] rfl rfl rfl rfl rfl rfl rfl rfl (by decide) trivial (lIn 1 1 1 _ ?_);refine Z3 Z0 hA hS ?_;cbv;refine Z4 hS [I 1, I 0, I 1, I 1] [] [] rfl rfl rfl rfl rfl rfl rfl rfl (by decide) trivial (Zt5 1 0 1 1 _ ?_);refine Z3 Z0 hA hS ?_;cbv;refine Z4 hS [I 1, I (-1), I 1, I 1] [] [] rfl rfl rfl rfl rfl rfl rfl rfl (by decide) trivial (Zt5 1 (-1) 1 1 _ ?_);refine Z3 Z0 hA hS ?_;cbv;refine Z26 hS (Z1a hA [1] ?_);cbv;refine ⟨by subst hA; rfl, Z7 ?_⟩;refine Z4 hS [.sl 5 [.agg [I 1, I 1, I 0, I 2, I 2], .agg [I 1, I 1, I 0, I 1, I 1], .agg [I 2, I 1, I 0, I 1, I 1], .agg [I 2, I 1, I (-1), I 1, I 1]]] [] [] rfl rfl rfl rfl rfl rfl rfl rfl (by decide) trivial (Zl5 _ _ ?_);refine Z3 Z0 hA hS ?_;cbv;exact Z2 [] (by decide) Z9 (H' := []) (d' := .agg [I 3, .sl 1 [Zv true, Zv false], .sl 5 [.agg [I 1, I 1, I 0, I 2, I 2], .agg [I 1, I 1, I 0, I 1, I 1], .agg [I 2, I 1, I 0, I 1, I 1], .agg [I 2, I 1, I (-1), I 1, I 1]]]) trivial rfl (Z1 hz)
end Go.Proofs.YthljpccegkmdnaaGreatDoor

namespace Go.Proofs.YthljpccegkmdnaaGreatDoor
open Go Go.Abs Go.Proofs Go.Batch
theorem ex0 : Zr (jnF []) = 0 := by decide +kernel
theorem Zzn : Zr (jnF [Zci 0 1 1]) = 0 := by decide +kernel
theorem Zzo : Zr jnA = 0 := by decide +kernel
theorem Zzp : Zr (jnF [Zci 0 3 3]) = 0 := by decide +kernel
theorem Zye : Zc (jnF []) = true := by decide +kernel
theorem Zzq : Zc (jnF [Zci 0 1 1]) = true := by decide +kernel
theorem Zzr : Zc jnA = true := by decide +kernel
theorem Zzs : Zc (Z12 (jnF [Zci 0 3 3]) (Zp (jnF [Zci 0 3 3]))) = true := by decide +kernel
theorem ex1 : Z5w (jnF []) = [[1, 2], [1, 3], [2, 1]] := by decide +kernel
theorem ex2 : Z4c (jnF [Zci 0 1 1]) = [(0, 0), (1, 1)] := by decide +kernel
theorem ex3 : Z6b jnA = [3, 2, 2] := by decide +kernel
theorem ex4 : Z9s (jnF []) (Z3z [1, 2]) (Z3z [0]) = [1] := by decide +kernel
theorem Zzt : Z44 3 [1, 2] = 0 := by decide +kernel
theorem Zzu : Z44 3 [0] = 0 := by decide +kernel
theorem ex5 : Z6c (jnF [Zci 0 3 3]) = some [5] := by decide +kernel
theorem Z77 {j : Jn} (h : Zr j = 0) {P : Prop} {e : Int} (h1 : e = Zr j) (h2 : e ≠ 0) : P := absurd (h1.trans h) h2
theorem Z7p {b : Bool} (h : b = true) {P : Prop} (h1 : b = false) : P := by rw [h] at h1; cases h1
theorem lim {n : Nat} (h : n <= 1000) : n <= 1152921504606846976 := by omega
theorem fl2 (ms : List Mv) : (jnF ms).first.length <= 1152921504606846976 := lim (n := 2) (by omega)
theorem ml5 : (jnF []).moves.length <= 1152921504606846976 := lim (n := 5) (by omega)
theorem ml6 (m : Mv) : (jnF [m]).moves.length <= 1152921504606846976 := lim (n := 6) (by omega)
theorem flA : jnA.first.length <= 1152921504606846976 := lim (n := 2) (by omega)
theorem mlA : jnA.moves.length <= 1152921504606846976 := lim (n := 4) (by omega)
theorem Zx1 (FM : List D) (hM : FM = (jnF []).moves.map mvD) (Q) (hq : ∀ HL, HL = ([[1, 2], [1, 3], [2, 1]] : List (List Int)).map Zt4 -> Q (RA.ret (.tup [.sl 1 HL, I 0])) []) : CallA Tryz.prog 15 [.agg [I 3, .sl 1 [Zv true, Zv false], .sl 5 FM]] [] Q :=
 Zsy (jnF []) (fl2 _) ml5 [Zv true, Zv false] FM rfl hM _ (fun e h1 h2 => Z77 ex0 h1 h2) (fun _ h => Z7p Zye h) (fun _ _ HL hHL => hq HL (by rw [hHL, ex1]; rfl))
theorem Zyf (FM : List D) (hM : FM = (jnF [Zci 0 1 1]).moves.map mvD) (Q) (hq : ∀ RL, RL = ([(0, 0), (1, 1)] : List (Int × Int)).map Zt3 -> Q (RA.ret (.tup [.sl 2 RL, I 0])) []) : CallA Tryz.prog 13 [.agg [I 3, .sl 1 [Zv true, Zv false], .sl 5 FM]] [] Q :=
 Zst (jnF [Zci 0 1 1]) (fl2 _) (ml6 _) [Zv true, Zv false] FM rfl hM _ (fun e h1 h2 => Z77 Zzn h1 h2) (fun _ h => Z7p Zzq h) (fun _ _ L hL => hq L (by rw [hL, ex2]; rfl))
theorem Zx2 (FM : List D) (hM : FM = jnA.moves.map mvD) (Q) (hq : ∀ L, L = ([3, 2, 2] : List Int).map I -> Q (RA.ret (.tup [.sl 1 L, I 0])) []) : CallA Tryz.prog 23 [.agg [I 3, .sl 1 [Zv true, Zv false], .sl 5 FM]] [] Q :=
 Zsv jnA flA mlA [Zv true, Zv false] FM rfl hM _ (fun e h1 h2 => Z77 Zzo h1 h2) (fun _ h => Z7p Zzr h) (fun _ _ L hL => hq L (by rw [hL, ex3]))
theorem Zqi (FM : List D) (hM : FM = (jnF []).moves.map mvD) (Q) (hq : ∀ L, L = ([1] : List Int).map I -> Q (RA.ret (.tup [.sl 1 L, I 0])) []) : CallA Tryz.prog 24 [.agg [I 3, .sl 1 [Zv true, Zv false], .sl 5 FM], .sl 1 [I 1, I 2], .sl 1 [I 0]] [] Q :=
 Zqf (jnF []) (fl2 _) ml5 [1, 2] [0] (lim (n := 2) (by omega)) (lim (n := 1) (by omega)) [Zv true, Zv false] FM [I 1, I 2] [I 0] rfl hM rfl rfl _ (fun e h1 h2 => Z77 ex0 h1 h2) (fun _ e h1 h2 => absurd (h1.trans Zzt) h2) (fun _ _ e h1 h2 => absurd (h1.trans Zzu) h2) (fun _ _ _ h => Z7p Zye h) (fun _ _ _ _ h => by rw [ex4] at h; cases h) (fun _ _ _ _ _ L hL => hq L (by rw [hL, ex4]))
theorem Zx3 (FM : List D) (hM : FM = (jnF [Zci 0 3 3]).moves.map mvD) (Q) (hq : ∀ L, L = ([5] : List Int).map I -> Q (RA.ret (.tup [.sl 1 L, I 0])) []) : CallA Tryz.prog 25 [.agg [I 3, .sl 1 [Zv true, Zv false], .sl 5 FM]] [] Q :=
 Zt2 (jnF [Zci 0 3 3]) (fl2 _) (ml6 _) [Zv true, Zv false] FM rfl hM _ (fun e h1 h2 => Z77 Zzp h1 h2) (fun _ h => Z7p Zzs h) (fun _ _ c hc L hL => hq L (by
  rw [ex5] at hc
  rw [hL, <- Option.some.inj hc]; rfl))
set_option maxRecDepth 20000 in
set_option maxHeartbeats 1000000 in
theorem Zov (Q) (hq : Q (RA.ret (.v (.bool true))) []) : CallA Tryz.prog 10 [] [] Q := by
 obtain ⟨A, hA⟩ : ∃ A, A = ar := ⟨_, rfl⟩;have c00 : A.cmp .eql 0 0 = true := by subst hA; rfl
 refine Z38 Z0 hA [6] Tryz.func10 rfl rfl rfl rfl rfl fun S hS => ?_;cbv;refine Z4 hS [.v (.slice none 0 0)] [] [] rfl rfl rfl rfl rfl rfl rfl rfl (by decide) trivial (Z4z (as' := [.sl 5 []]) ⟨WkD.nil, trivial⟩ (Zj4 [] 0 rfl (by decide) _ fun FM hFM => ?_));have hM := hFM.trans (Zar [] [] rfl);refine Z3 Z0 hA hS ?_;cbv;refine Z4 hS [.agg [I 3, .sl 1 [Zv true, Zv false], .sl 5 FM]] [] [] rfl rfl rfl rfl rfl rfl rfl rfl (by decide) trivial
  (Zx1 FM hM _ fun HL hHL => ?_)
 refine Z3 Z0 hA hS ?_;cbv;refine Z4 hS [] [] [] rfl rfl rfl rfl rfl rfl rfl rfl (by decide) trivial (Zt7 _ fun FC hFC => ?_);refine Z3 Z0 hA hS ?_;cbv;refine Z4 hS [.agg [I 3, .sl 1 [Zv true, Zv false], .sl 5 FC]] [] [] rfl rfl rfl rfl rfl rfl rfl rfl (by decide) trivial
  (Zyf FC hFC _ fun RL hRL => ?_)
 refine Z3 Z0 hA hS ?_;cbv;refine Z4 hS [] [] [] rfl rfl rfl rfl rfl rfl rfl rfl (by decide) trivial (Zzm _ fun FA hFA => ?_);refine Z3 Z0 hA hS ?_;cbv;refine Z4 hS [.agg [I 3, .sl 1 [Zv true, Zv false], .sl 5 FA]] [] [] rfl rfl rfl rfl rfl rfl rfl rfl (by decide) trivial
  (Zx2 FA hFA _ fun XL hXL => ?_)
 refine Z3 Z0 hA hS ?_;cbv;refine Z4 hS [.v (.slice none 0 0)] [] [] rfl rfl rfl rfl rfl rfl rfl rfl (by decide) trivial (Z4z (as' := [.sl 5 []]) ⟨WkD.nil, trivial⟩ (Zj4 [] 0 rfl (by decide) _ fun FM2 hFM2 => ?_));have hM2 := hFM2.trans (Zar [] [] rfl);refine Z3 Z0 hA hS ?_;cbv;refine Z26 hS (Z1a hA [0, 1] ?_);cbv;refine ⟨by subst hA; rfl, by subst hA; rfl, Z7 ?_⟩;refine Z4 hS [.agg [I 3, .sl 1 [Zv true, Zv false], .sl 5 FM2], .sl 1 [I 1, I 2], .sl 1 [I 0]] [] [] rfl rfl rfl rfl rfl rfl rfl rfl (by decide) trivial
  (Zqi FM2 hM2 _ fun SL hSL => ?_)
 refine Z3 Z0 hA hS ?_;cbv;refine Z4 hS [I 0, I 3, I 3] [] [] rfl rfl rfl rfl rfl rfl rfl rfl (by decide) trivial (Zt6 0 3 3 _ ?_);refine Z3 Z0 hA hS ?_;cbv;refine Z26 hS (Z1a hA [2] ?_);cbv;refine ⟨by subst hA; rfl, Z7 ?_⟩;refine Z4 hS [.sl 5 [.agg [I 3, I 0, I 0, I 3, I 3]]] [] [] rfl rfl rfl rfl rfl rfl rfl rfl (by decide) trivial (Zj4 _ 1 rfl (by decide) _ fun FW hFW => ?_);have hMW := hFW.trans (Zar [Zci 0 3 3] _ rfl);refine Z3 Z0 hA hS ?_;cbv;refine Z4 hS [.agg [I 3, .sl 1 [Zv true, Zv false], .sl 5 FW]] [] [] rfl rfl rfl rfl rfl rfl rfl rfl (by decide) trivial
  (Zx3 FW hMW _ fun WL hWL => ?_)
 refine Z3 Z0 hA hS ?_;cbv;refine Z3h hS (Z60 (a := { env := [(1, .sl 1 HL), (2, I 0), (3, .sl 2 RL), (4, I 0), (5, .sl 1 XL), (6, I 0), (7, .sl 1 SL), (8, I 0), (9, .sl 1 WL), (10, I 0)], H := [], nt := 88, dfs := [] }) [] ⟨by decide, Z9, trivial, ⟨rfl, rfl, rfl, rfl, rfl, rfl, rfl, rfl, rfl, rfl, trivial⟩, rfl, rfl⟩ (Z7 ?_));refine Z4j Z0 hA hS [0, 1, 2, 3, 4, 5, 6, 7, 8, 9, 10, 11, 12, 13, 14, 15, 16, 17, 18, 19, 20, 21, 22] [23, 24, 25, 26, 27, 28, 29, 30, 31, 32, 33, 34, 35, 36, 37, 38, 39, 40, 41, 42, 43, 44, 45, 46, 47, 48] rfl ?_;cbv;refine bmT c00 ?_;cbv;refine bmT c00 ?_;cbv;refine bmT c00 ?_;cbv;refine bmT c00 ?_;cbv;refine bmT c00 ?_;cbv;refine Z26 hS (Z1a hA [0, 1, 2] ?_);cbv;refine ⟨by subst hA; rfl, by subst hA; rfl, by subst hA; rfl, Z7 ?_⟩;refine Zii hS (Z3 Z0 hA hS ?_);cbv;refine Z26 hS (Z1a hA [3] ?_);cbv;refine ⟨by subst hA; rfl, Z7 ?_⟩;refine Zg hS (b := true) rfl rfl rfl rfl rfl rfl rfl rfl (fun _ => ⟨_, _, [.sl 1 HL, .sl 1 [.sl 1 [I 1, I 2], .sl 1 [I 1, I 3], .sl 1 [I 2, I 1]]], [], [], rfl, rfl, rfl, by decide, trivial, Znb [[1, 2], [1, 3], [2, 1]] [[1, 2], [1, 3], [2, 1]] HL _ hHL rfl (lim (n := 3) (by omega)) (fun l hl => by simp at hl; rcases hl with rfl | rfl | rfl <;> exact lim (n := 2) (by omega)) true rfl _ ?_⟩) (fun h => absurd rfl h);refine Z3 Z0 hA hS ?_;cbv;refine Zg hS (b := true) rfl rfl rfl rfl rfl rfl rfl rfl (fun _ => ⟨_, _, [I 0, I 0], [], [], rfl, rfl, rfl, by decide, trivial, lTo 0 0 _ ?_⟩) (fun h => absurd rfl h);refine Z3 Z0 hA hS ?_;cbv;refine Zg hS (b := true) rfl rfl rfl rfl rfl rfl rfl rfl (fun _ => ⟨_, _, [I 1, I 1], [], [], rfl, rfl, rfl, by decide, trivial, lTo 1 1 _ ?_⟩) (fun h => absurd rfl h);refine Z3 Z0 hA hS ?_;cbv;refine Z26 hS (Z1a hA [4] ?_);cbv;refine ⟨by subst hA; rfl, Z7 ?_⟩;refine Zg hS (b := true) rfl rfl rfl rfl rfl rfl rfl rfl (fun _ => ⟨_, _, [.sl 2 RL, .sl 2 [.agg [I 0, I 0], .agg [I 1, I 1]]], [], [], rfl, rfl, rfl, by decide, trivial, Za2 [(0, 0), (1, 1)] [(0, 0), (1, 1)] RL _ hRL rfl (lim (n := 2) (by omega)) true rfl _ ?_⟩) (fun h => absurd rfl h);refine Z3 Z0 hA hS ?_;cbv;refine Z26 hS (Z1a hA [5] ?_);cbv;refine ⟨by subst hA; rfl, Z7 ?_⟩;refine Zg hS (b := true) rfl rfl rfl rfl rfl rfl rfl rfl (fun _ => ⟨_, _, [.sl 1 XL, .sl 1 [I 3, I 2, I 2]], [], [], rfl, rfl, rfl, by decide, trivial, Zaq [3, 2, 2] [3, 2, 2] XL _ hXL rfl (lim (n := 3) (by omega)) true rfl _ ?_⟩) (fun h => absurd rfl h);refine Z3 Z0 hA hS ?_;cbv;refine Z26 hS (Z1a hA [6] ?_);cbv;refine ⟨by subst hA; rfl, Z7 ?_⟩;refine Zg hS (b := true) rfl rfl rfl rfl rfl rfl rfl rfl (fun _ => ⟨_, _, [.sl 1 SL, .sl 1 [I 1]], [], [], rfl, rfl, rfl, by decide, trivial, Zaq [1] [1] SL _ hSL rfl (lim (n := 1) (by omega)) true rfl _ ?_⟩) (fun h => absurd rfl h);refine Z3 Z0 hA hS ?_;cbv;refine Z26 hS (Z1a hA [7] ?_);cbv;refine ⟨by subst hA; rfl, Z7 ?_⟩;refine Zg hS (b := true) rfl rfl rfl rfl rfl rfl rfl rfl (fun _ => ⟨_, _, [.sl 1 WL, .sl 1 [I 5]], [], [], rfl, rfl, rfl, by decide, trivial, Zaq [5] [5] WL _ hWL rfl (lim (n := 1) (by omega)) true rfl _ ?_⟩) (fun h => absurd rfl h);refine Z3 Z0 hA hS ?_;cbv;exact Z2 [] (by decide) Z9 (H' := []) (d' := .v (.bool true)) trivial rfl (Z1 hq)
end Go.Proofs.YthljpccegkmdnaaGreatDoor

namespace Go.Batch
theorem Zix {bin : Int} : ∀ (bs ext l : List Int), (∀ k, bs.length <= k -> l.getD k 0 = 0) -> inL bin (bs ++ ext) l = inL bin bs l
 | [], ext, l, h => by
  have key : ∀ (ext l : List Int), (∀ k, l.getD k 0 = 0) -> inL bin ext l = 0 := fun ext => by
   induction ext with
   | nil => intro l _; rfl
   | cons e ext ih =>
    intro l hl;unfold inL;have h0 : l.headD 0 = 0 := by have := hl 0; cases l <;> simpa using this
    rw [ih l.tail (fun k => by have := hl (k + 1); cases l <;> simpa using this), h0]
    split <;> rfl
  exact key ext l fun k => h k (by simp)
 | b :: bs, ext, l, h => by
  simp only [List.cons_append, inL];rw [Zix bs ext l.tail fun k hk => by have := h (k + 1) (by simp; omega); cases l <;> simpa using this]
def Z59 (n : Int) (b : Nat) : List (Int × Nat × Int) -> Int
 | [] => 0
 | p :: l => (if p.1 = n /\ p.2.1 = b then p.2.2 else 0) + Z59 n b l
def Zed (n : Int) (b : Nat) : List (Int × List Int) -> Int
 | [] => 0
 | t :: l => (if t.1 = n then t.2.getD b 0 else 0) + Zed n b l
theorem Zkl (n : Int) (b : Nat) : ∀ (l l' : List (Int × Nat × Int)), Z59 n b (l ++ l') = Z59 n b l + Z59 n b l'
 | [], l' => by simp [Z59]
 | p :: l, l' => by simp only [List.cons_append, Z59, Zkl n b l l']; omega
theorem Zkm (n : Int) (b : Nat) : ∀ (l l' : List (Int × List Int)), Zed n b (l ++ l') = Zed n b l + Zed n b l'
 | [], l' => by simp [Zed]
 | p :: l, l' => by simp only [List.cons_append, Zed, Zkm n b l l']; omega
theorem Zfq {inst n : Int} {b : Nat} {of : List Int} : ∀ (bs : List Int) (i : Nat), Z59 n b (Z1o inst of bs i) = if inst = n /\ i <= b /\ b < i + bs.length then of.getD b 0 else 0
 | [], i => by simp only [Z1o, Z59, List.length_nil]; rw [if_neg (by omega)]
 | c :: bs, i => by
  have ih := Zfq (inst := inst) (n := n) (b := b) (of := of) bs (i + 1);simp only [Z1o, List.length_cons]
  by_cases hb : b = i
  ·subst hb;rw [if_neg (by omega)] at ih
   split
   ·rename_i h0; rw [ih, h0]; simp
   ·simp only [Z59, ih]
    by_cases hn : inst = n
    ·rw [if_pos ⟨hn, trivial⟩, if_pos ⟨hn, Nat.le_refl _, by omega⟩]; omega
    ·rw [if_neg (fun h => hn h.1), if_neg (fun h => hn h.1)]; rfl
  ·have e : (inst = n /\ i <= b /\ b < i + (bs.length + 1)) ↔ (inst = n /\ i + 1 <= b /\ b < i + 1 + bs.length) := by omega
   split
   ·rw [ih]; simp only [e]
   ·simp only [Z59, ih, e];rw [if_neg (fun h => hb h.2.symm)]; omega
theorem Zbq (n : Int) (b : Nat) : ∀ (l : List (Int × Nat × Int)) (z : Int), Zt (Z2v n b) z l = z + Z59 n b l
 | [], z => by simp [Zt, Z59]
 | p :: l, z => by
  have := Zbq n b l (Z2v n b z p.1 p.2.1 p.2.2);simp only [Zt, List.foldl_cons] at this ⊢;rw [this];simp only [Z2v, Z59]
  split <;> omega
theorem Zv0 {ν : Type} {tk : Tk ν} {j j' : Jn} (h1 : j.ins = j'.ins) (h2 : j.first = j'.first) : Z22 j tk = Z22 j' tk := by
 unfold Z22; rw [h1, h2]
theorem Zcl {ν : Type} {tk : Tk ν} {j j' : Jn} (h1 : j.ins = j'.ins) (h2 : j.first = j'.first) (bins : List Int) : ∀ (ms : List Mv) (b : Nat) (now : List (Ste ν)), Z2u j tk bins ms b now = Z2u j' tk bins ms b now
 | [], _, _ => rfl
 | m :: ms, b, now => by simp only [Z2u]; rw [Zv0 h1 h2, Zcl h1 h2 bins ms]
structure Gen (ins : Int) (first : List Bool) (ms : List Mv) (lies : List Int) (truth : List (Int × List Int)) : Prop where
 ok : ∀ m ∈ ms, MOk ⟨ins, first, []⟩ m
 b4 : (Z6 ms).length <= 4
 bin : ∀ b ∈ Z6 ms, 0 <= b /\ b < first.length
 l : LOk lies
 z : ∀ k, (Z6 ms).length <= k -> lies.getD k 0 = 0
 tl : truth.length = ms.length
 ti : ∀ t ∈ truth, (t.1 = -1 ∨ 0 <= t.1 /\ t.1 < ins) /\ (t.2 = [] ∨ t.2.length = 4) /\ ∀ k, 0 <= t.2.getD k 0 /\ t.2.getD k 0 <= 5
 run : ∃ path, (∀ ext, (lies, path) ∈ Z2u ⟨ins, first, []⟩ Z1f (Z6 ms ++ ext) ms 0 [([0, 0, 0, 0], [])]) /\ ∀ n b, 0 <= n -> Z59 n b path = Zed n b truth
theorem Zv1 (ins : Int) (first : List Bool) : Gen ins first [] [0, 0, 0, 0] [] :=
 ⟨fun m hm => by simp at hm, by simp [Z6], fun b hb => by simp [Z6] at hb, Zq3, fun k _ => by
  match k with
  | 0 => rfl
  | 1 => rfl
  | 2 => rfl
  | 3 => rfl
  | k + 4 => rfl, rfl, fun t h => by simp at h, [], fun ext => by simp [Z2u], fun _ _ _ => rfl⟩
section
variable {ins : Int} {first : List Bool} {ms : List Mv} {lies : List Int} {truth : List (Int × List Int)}
theorem MOk.bins {m : Mv} (h : ∀ x ∈ ms ++ [m], MOk ⟨ins, first, []⟩ x) : ∀ b ∈ Z6 (ms ++ [m]), 0 <= b /\ b < first.length := fun b hb => by
 simp only [Z6, List.mem_map, List.mem_filter] at hb;obtain ⟨x, ⟨hx, -⟩, rfl⟩ := hb;exact ⟨(h x hx).b0, (h x hx).b1⟩
theorem Gen.step (h : Gen ins first ms lies truth) {m : Mv} (hm : MOk ⟨ins, first, []⟩ m) (hb : m.kind = 1 -> (Z6 ms).length < 4) {lies' : List Int} (hl : LOk lies') (hz : ∀ k, (Z6 (ms ++ [m])).length <= k -> lies'.getD k 0 = 0) {t : Int × List Int} {q : List (Int × Nat × Int)} (ht : (t.1 = -1 ∨ 0 <= t.1 /\ t.1 < ins) /\ (t.2 = [] ∨ t.2.length = 4) /\ ∀ k, 0 <= t.2.getD k 0 /\ t.2.getD k 0 <= 5)
  (hq : ∀ n b, 0 <= n -> Z59 n b q = Zed n b [t]) (hs : ∀ path ext, (lies', path ++ q) ∈ Z22 ⟨ins, first, []⟩ Z1f (Z6 (ms ++ [m]) ++ ext) m (Z6 ms).length (lies, path)) : Gen ins first (ms ++ [m]) lies' (truth ++ [t]) := by
 have hok : ∀ x ∈ ms ++ [m], MOk ⟨ins, first, []⟩ x := fun x hx => by
  rcases List.mem_append.1 hx with hx | hx
  ·exact h.ok x hx
  ·simp at hx; subst hx; exact hm
 obtain ⟨path, p1, p2⟩ := h.run;refine ⟨hok, ?_, MOk.bins (ins := ins) hok, hl, hz, by simp [h.tl], fun y hy => (by
  rcases List.mem_append.1 hy with hy | hy
  ·exact h.ti y hy
  ·simp at hy; subst hy; exact ht), path ++ q, fun ext => ?_, fun n b hn => by rw [Zkl, Zkm, p2 n b hn, hq n b hn]⟩
 ·rw [Z2t, List.length_append, Z2b];have := h.b4;have e0 : (Z6 []).length = 0 := rfl
  split
  ·rename_i hk; have := hb hk; rw [List.length_cons, e0]; omega
  ·rw [e0]; exact this
 ·rw [Z6u, Nat.zero_add];simp only [Z2u];rw [List.mem_flatMap];refine ⟨(lies, path), ?_, hs path ext⟩;have := p1 (Z6 [m] ++ ext)
  rwa [<- List.append_assoc, <- Z2t] at this
theorem Gen.in_ (h : Gen ins first ms lies truth) {bin n lo hi : Int} (hm : MOk ⟨ins, first, []⟩ ⟨1, bin, 0, lo, hi⟩) (hb : (Z6 ms).length < 4) (h1 : lo <= n) (h2 : n <= hi) : Gen ins first (ms ++ [⟨1, bin, 0, lo, hi⟩]) (lies.set (Z6 ms).length n) (truth ++ [(-1, [])]) := by
 have h8 := hm.l0; have h10 := hm.h5;simp only at h8 h10;refine h.step hm (fun _ => hb) (h.l.set hb (by omega) (by omega)) (fun k hk => ?_) (q := []) ⟨.inl rfl, .inl rfl, fun k => by simp⟩ (fun n b hn => ?_) (fun path ext => ?_)
 ·rw [Z2t, List.length_append] at hk;simp [Z6] at hk;rw [Z1r _ _ _ _ (by rw [h.l.len]; exact hb), if_neg (by simp [Z6]; omega)];exact h.z k (by simp [Z6]; omega)
 ·simp only [Z59, Zed]; rw [if_neg (by omega)]; rfl
 ·unfold Z22;simp only [if_true, List.append_nil, List.mem_map];exact ⟨n, Z2d.2 ⟨h1, h2⟩, rfl⟩
theorem Gen.cnt (h : Gen ins first ms lies truth) {bin lo hi : Int} (hm : MOk ⟨ins, first, []⟩ ⟨3, bin, 0, lo, hi⟩) (h1 : lo <= inL bin (Z6 ms) lies) (h2 : inL bin (Z6 ms) lies <= hi) : Gen ins first (ms ++ [⟨3, bin, 0, lo, hi⟩]) lies (truth ++ [(-1, [])]) := by
 have e : Z6 (ms ++ [⟨3, bin, 0, lo, hi⟩]) = Z6 ms := by rw [Z2t]; simp [Z6]
 refine h.step hm (fun e => by simp at e) h.l (fun k hk => by rw [e] at hk; exact h.z k hk) (q := []) ⟨.inl rfl, .inl rfl, fun k => by simp⟩ (fun n b hn => ?_) (fun path ext => ?_)
 ·simp only [Z59, Zed]; rw [if_neg (by omega)]; rfl
 ·rw [e];unfold Z22;simp only [List.append_nil];rw [if_neg (by simp), if_neg (by simp), Zix _ _ _ h.z, if_pos ⟨h1, h2⟩];simp
theorem Gen.out (h : Gen ins first ms lies truth) {bin i t n lo hi : Int} {of l2 : List Int} (hm : MOk ⟨ins, first, []⟩ ⟨2, bin, i, lo, hi⟩) (hit : i = t ∨ i = -1) (ht0 : 0 <= t) (ht1 : t < ins) (h1 : lo <= n) (h2 : n <= hi)
  (htk : Took (first.getD bin.toNat false) bin (Z6 ms) 0 lies of) (hsum : Z32 of (Z6 ms) 0 = n) (hl2 : l2.length = 4) (ho4 : of.length = 4) (hl : ∀ k, l2.getD k 0 = lies.getD k 0 - of.getD k 0) :
  Gen ins first (ms ++ [⟨2, bin, i, lo, hi⟩]) l2 (truth ++ [(t, of)]) := by
 have e : Z6 (ms ++ [⟨2, bin, i, lo, hi⟩]) = Z6 ms := by rw [Z2t]; simp [Z6]
 have hof : ∀ k, (Z6 ms).length <= k -> of.getD k 0 = 0 := fun k hk => by
  have g1 := htk.nn k; have g2 := htk.le k; rw [h.z k hk] at g2; omega
 refine h.step hm (fun e => by simp at e) ⟨hl2, fun k => ?_, fun k => ?_⟩ (fun k hk => ?_) (q := Z1o t of (Z6 ms) 0) ⟨.inr ⟨ht0, ht1⟩, .inr ho4, fun k => ⟨htk.nn k, Int.le_trans (htk.le k) (h.l.hi k)⟩⟩ (fun n b hn => ?_) (fun path ext => ?_)
 ·rw [hl]; have := htk.le k; omega
 ·rw [hl]; have := htk.nn k; have := h.l.hi k; omega
 ·rw [e] at hk; rw [hl, h.z k hk, hof k hk]; rfl
 ·rw [Zfq];simp only [Zed]
  by_cases hb : b < (Z6 ms).length
  ·by_cases hn' : t = n
   ·rw [if_pos ⟨hn', Nat.zero_le _, by omega⟩, if_pos hn']; omega
   ·rw [if_neg (fun g => hn' g.1), if_neg hn']; rfl
  ·rw [if_neg (by omega), hof b (by omega)]; split <;> rfl
 ·rw [e];unfold Z22;rw [if_neg (by simp), if_pos rfl];simp only [List.mem_flatMap];refine ⟨t, ?_, n, Z2d.2 ⟨h1, h2⟩, ?_⟩
  ·unfold Z9q;rcases hit with rfl | rfl
   ·rw [if_neg (by show ¬ i < 0; omega)]; simp
   ·rw [if_pos (by simp), Z2d]; omega
  ·have hlen := h.l.len;rw [Zai (Z6 ms) ext 0 (lies, path) n (fun k hk => h.z k (by simpa using hk)) (by rw [Nat.zero_add, hlen]; exact h.b4)];refine Z8p (Z6 ms) 0 lies of l2 path n htk (by rw [Nat.zero_add, hlen]; exact h.b4) hsum (by rw [hl2, hlen]) (fun k => ?_);rw [hl]
   split
   ·rfl
   ·rename_i hk; rw [hof k (by omega)]; omega
theorem Took.unit {fifo : Bool} {bin : Int} {bs lies of cur : List Int} (h : Took fifo bin bs 0 lies of) (hc : ∀ k, cur.getD k 0 = lies.getD k 0 - of.getD k 0) {own : Nat} (ho : bs[own]? = some bin) (hp : 0 < cur.getD own 0)
  (hf : fifo = true -> ∀ k, k < own -> bs[k]? = some bin -> cur.getD k 0 <= 0) {of' : List Int} (hof : ∀ k, of'.getD k 0 = if k = own then of.getD own 0 + 1 else of.getD k 0) : Took fifo bin bs 0 lies of' :=
 ⟨fun k => by rw [hof]; have g1 := h.nn k; have g2 := h.nn own; split <;> omega, fun k => by
  rw [hof]
  split
  ·rename_i e; subst e; have := hc k; omega
  ·exact h.le k, fun k b hk hb => by
  have := h.oth k b hk hb
  rw [hof, if_neg]
  ·exact this
  ·intro e
   rw [Nat.zero_add] at e; subst e
   rw [ho] at hk; cases hk; exact hb rfl, fun hff k k' b hkk hk hb h0 hlt => by
  simp only [Nat.zero_add] at h0 ⊢
  subst hb
  rw [hof] at h0 ⊢
  by_cases e1 : k' = own
  ·subst e1
   rw [if_neg (by omega)]
   have g1 := hf hff k hkk hk
   have g2 := hc k
   have g3 := h.le k
   omega
  ·rw [if_neg e1] at h0
   have := h.fst hff k k' b hkk hk rfl (by simpa using h0) hlt
   simp only [Nat.zero_add] at this
   by_cases e2 : k = own
   ·subst e2
    have := hc k; omega
   ·rw [if_neg e2]; exact this⟩
theorem Zsg {fifo : Bool} {bin : Int} {bs lies : List Int} (hl : ∀ k, 0 <= lies.getD k 0) : Took fifo bin bs 0 lies [0, 0, 0, 0] := by
 have z : ∀ k, ([0, 0, 0, 0] : List Int).getD k 0 = 0 := fun k => by
  match k with
  | 0 => rfl
  | 1 => rfl
  | 2 => rfl
  | 3 => rfl
  | k + 4 => rfl
 exact ⟨fun k => by rw [z]; exact Int.le_refl _, fun k => by rw [z]; exact hl k, fun k b _ _ => z _, fun _ k k' b _ _ _ h0 _ => by rw [z] at h0; omega⟩
theorem Gen.ends (h : Gen ins first ms lies truth) : ∃ path, (lies, path) ∈ Zd ⟨ins, first, ms⟩ Z1f [] /\ ∀ n b, 0 <= n -> Z59 n b path = Zed n b truth := by
 obtain ⟨path, p1, p2⟩ := h.run;refine ⟨path, ?_, p2⟩;have := p1 [];rw [List.append_nil] at this;unfold Zd
 rwa [Zcl (j := ⟨ins, first, ms⟩) (j' := ⟨ins, first, []⟩) rfl rfl]
theorem Gen.jok (h : Gen ins first ms lies truth) (h1 : 1 <= ins) (h4 : ins <= 4) (hf1 : 1 <= first.length) (hf2 : first.length <= 2) (hm : ms.length <= 10) : JOk ⟨ins, first, ms⟩ :=
 ⟨h1, h4, hf1, hf2, hm, fun m hx => by
  have := h.ok m hx
  exact ⟨this.k1, this.k3, this.b0, this.b1, this.i0, this.i1, this.i2, this.l0, this.lh, this.h5⟩, h.b4⟩
end
end Go.Batch
