/- Part TyBG of the proofs about the benches of the accordion maker: see the last text of the claim for what is proved. -/
import Derived.Test.YthljpccegkmdnaaGreatDoorTyAT
import Derived.Test.YthljpccegkmdnaaGreatDoorTyAP
import Derived.Test.YthljpccegkmdnaaGreatDoorTyBF
set_option linter.unusedVariables false
set_option linter.unusedSimpArgs false
set_option linter.unnecessarySimpa false
set_option linter.constructorNameAsVariable false

namespace Go.Proofs.YthljpccegkmdnaaGreatDoor
open Go Go.Abs Go.Proofs
theorem Zdk {α : Type} {a b : List α} {k : Nat} {x y : α} (ha : a[k]? = some x) (hb : b[k]? = some y) (h : a.take k = b.take k) : (a.take (k + 1) = b.take (k + 1)) ↔ x = y := by
 rw [List.take_add_one, List.take_add_one, ha, hb, h]; simp
theorem Zg4 {α : Type} {a b : List α} {k : Nat} {x y : α} (ha : a[k]? = some x) (hb : b[k]? = some y) (h : x ≠ y) : a ≠ b := fun e => by
 subst e; rw [ha] at hb; exact h (Option.some.inj hb)
theorem Zx0 {A : Ar} (hA : A = ar) (x y : Int) : A.cmp .eql x y = decide (x = y) := by subst hA; rfl
set_option maxRecDepth 20000 in
set_option maxHeartbeats 2000000 in
theorem Zaq (a b : List Int) (LA LB : List D) (hLA : LA = a.map I) (hLB : LB = b.map I) (hl : a.length <= 1152921504606846976) (r : Bool) (hr : r = decide (a = b)) (Q) (hq : Q (RA.ret (.v (.bool r))) []) :
  CallA Tryz.prog 21 [.sl 1 LA, .sl 1 LB] [] Q := by
 obtain ⟨A, hA⟩ : ∃ A, A = ar := ⟨_, rfl⟩;have hAl : LA.length = a.length := by rw [hLA]; simp
 have hBl : LB.length = b.length := by rw [hLB]; simp
 obtain ⟨s0, hs0⟩ : ∃ s0, s0 = A.cmp .eql (A.oi (A.len LA)) (A.oi (A.len LB)) := ⟨_, rfl⟩;have hs1 : s0 = decide (a.length = b.length) := by
  rw [hs0, yoiL hA hAl, yoiL hA hBl, Zx0 hA]
  by_cases h : a.length = b.length
  ·rw [decide_eq_true h, decide_eq_true (by omega)]
  ·rw [decide_eq_false h, decide_eq_false (by omega)]
 refine Z5 Z0 hA Tryz.func21 rfl rfl rfl rfl rfl fun S hS => ?_;cbv;refine Zb hS ?_;refine Za (α := Int × Nat × Bool) (fun q => { env := [(0, .sl 1 LA), (1, .sl 1 LB), (5, .v (.bool q.2.2)), (6, I q.1)], H := [], nt := 31, dfs := [] })
  (fun q => a.length + 1 - q.2.1) (fun q => IsI q.1 q.2.1 /\ q.2.1 <= a.length /\ (q.2.2 = true -> a.length = b.length /\ a.take q.2.1 = b.take q.2.1) /\ (q.2.2 = false -> a ≠ b)) (0, 0, A.cmp .eql (A.oi (A.len LA)) (A.oi (A.len LB))) ⟨⟨rfl⟩, Nat.zero_le _, ?_, ?_⟩ ?_ ?_
 ·exact fun h => ⟨of_decide_eq_true (hs1.symm.trans (hs0.trans h)), rfl⟩
 ·exact fun h e => of_decide_eq_false (hs1.symm.trans (hs0.trans h)) (by rw [e])
 ·exact Zf [] ⟨by decide, Z9, trivial, ⟨rfl, rfl, rfl, rfl, trivial⟩, rfl, rfl⟩
 rintro ⟨i, k, sm⟩ ⟨u1, u2, u3, u4⟩;dsimp only at u1 u2 u3 u4
 cases sm
 ·have hr0 : r = false := by rw [hr]; exact decide_eq_false (u4 rfl)
  rw [hr0] at hq;refine Zi Z0 hA hS ?_;cbv;refine Z7 ?_;cbv;exact Z1 hq
 ·obtain ⟨e1, e2⟩ := u3 rfl;have hend : a.length <= k -> r = true := fun h => by
   rw [hr]; refine decide_eq_true ?_;rw [List.take_of_length_le h, List.take_of_length_le (by omega)] at e2; exact e2
  have hget : k < a.length -> ∃ x y, a[k]? = some x /\ b[k]? = some y := fun h => ⟨_, _, List.getElem?_eq_getElem h, List.getElem?_eq_getElem (by omega)⟩;have hlt : k < b.length -> k < a.length := fun h => by omega
  have hgt : k < a.length -> k < b.length := fun h => by omega
  have hms : k < a.length -> a.length + 1 - (k + 1) < a.length + 1 - k := fun h => by omega
  refine Zi Z0 hA hS ?_;cbv
  split
  ·rename_i c
   have hk := Z31 hA hAl u1 c;obtain ⟨x, y, hx, hy⟩ := hget hk;have hLx : LA[k]? = some (I x) := by rw [hLA]; simp [hx]
   have hLy : LB[k]? = some (I y) := by rw [hLB]; simp [hy]
   have hn1 : A.cmp .eql x y = true -> a.length = b.length /\ a.take (k + 1) = b.take (k + 1) := fun h => ⟨e1, (Zdk hx hy e2).2 (xeq hA h)⟩;have hn2 : A.cmp .eql x y = false -> a ≠ b := fun h => Zg4 hx hy (Z2o hA h);cbv;refine Z16 Z0 hA hS [0, 1, 2, 3, 4, 5, 6, 7, 8, 9] rfl rfl fun Dk hD => ?_;cbv;refine ⟨Z1b hA hAl u1 hk, ⟨_, Z18 hA u1 hLx, ?_⟩⟩;cbv;refine ⟨Z1b hA hBl u1 (hgt hk), ⟨_, Z18 hA u1 hLy, ?_⟩⟩;cbv;refine ⟨Zy hA u1 (by omega), ?_⟩;refine Z8 (A.add i 1, k + 1, A.cmp .eql x y) [] ⟨Zz hA u1, hk, hn1, hn2⟩ (hms hk) ?_;exact ⟨by decide, Z9, trivial, ⟨rfl, rfl, rfl, rfl, trivial⟩, rfl, rfl⟩
  ·rename_i c
   have hk := Z21 hA hAl u1 c;have hr1 := hend hk;rw [hr1] at hq;cbv;refine Z7 ?_;cbv;exact Z1 hq
theorem Zzl {A : Ar} (hA : A = ar) {x y : List Int} (h : A.leq x y = true) : x = y := by subst hA; simpa [ar] using h
theorem Zyd {A : Ar} (hA : A = ar) {x y : List Int} (h : A.leq x y = false) : x ≠ y := by subst hA; simpa [ar] using h
def Zt3 (x : Int × Int) : D := .agg [I x.1, I x.2]
set_option maxRecDepth 20000 in
set_option maxHeartbeats 2000000 in
theorem Za2 (a b : List (Int × Int)) (LA LB : List D) (hLA : LA = a.map Zt3) (hLB : LB = b.map Zt3) (hl : a.length <= 1152921504606846976) (r : Bool) (hr : r = decide (a = b)) (Q) (hq : Q (RA.ret (.v (.bool r))) []) :
  CallA Tryz.prog 17 [.sl 2 LA, .sl 2 LB] [] Q := by
 obtain ⟨A, hA⟩ : ∃ A, A = ar := ⟨_, rfl⟩;have hAl : LA.length = a.length := by rw [hLA]; simp
 have hBl : LB.length = b.length := by rw [hLB]; simp
 obtain ⟨s0, hs0⟩ : ∃ s0, s0 = A.cmp .eql (A.oi (A.len LA)) (A.oi (A.len LB)) := ⟨_, rfl⟩;have hs1 : s0 = decide (a.length = b.length) := by
  rw [hs0, yoiL hA hAl, yoiL hA hBl, Zx0 hA]
  by_cases h : a.length = b.length
  ·rw [decide_eq_true h, decide_eq_true (by omega)]
  ·rw [decide_eq_false h, decide_eq_false (by omega)]
 refine Z5 Z0 hA Tryz.func17 rfl rfl rfl rfl rfl fun S hS => ?_;cbv;refine Zb hS ?_;refine Za (α := Int × Nat × Bool) (fun q => { env := [(0, .sl 2 LA), (1, .sl 2 LB), (5, .v (.bool q.2.2)), (6, I q.1)], H := [], nt := 31, dfs := [] })
  (fun q => a.length + 1 - q.2.1) (fun q => IsI q.1 q.2.1 /\ q.2.1 <= a.length /\ (q.2.2 = true -> a.length = b.length /\ a.take q.2.1 = b.take q.2.1) /\ (q.2.2 = false -> a ≠ b)) (0, 0, A.cmp .eql (A.oi (A.len LA)) (A.oi (A.len LB))) ⟨⟨rfl⟩, Nat.zero_le _, ?_, ?_⟩ ?_ ?_
 ·exact fun h => ⟨of_decide_eq_true (hs1.symm.trans (hs0.trans h)), rfl⟩
 ·exact fun h e => of_decide_eq_false (hs1.symm.trans (hs0.trans h)) (by rw [e])
 ·exact Zf [] ⟨by decide, Z9, trivial, ⟨rfl, rfl, rfl, rfl, trivial⟩, rfl, rfl⟩
 rintro ⟨i, k, sm⟩ ⟨u1, u2, u3, u4⟩;dsimp only at u1 u2 u3 u4
 cases sm
 ·have hr0 : r = false := by rw [hr]; exact decide_eq_false (u4 rfl)
  rw [hr0] at hq;refine Zi Z0 hA hS ?_;cbv;refine Z7 ?_;cbv;exact Z1 hq
 ·obtain ⟨e1, e2⟩ := u3 rfl;have hend : a.length <= k -> r = true := fun h => by
   rw [hr]; refine decide_eq_true ?_;rw [List.take_of_length_le h, List.take_of_length_le (by omega)] at e2; exact e2
  have hget : k < a.length -> ∃ x1 x2 y1 y2, a[k]? = some (x1, x2) /\ b[k]? = some (y1, y2) := fun h => ⟨_, _, _, _, List.getElem?_eq_getElem h, List.getElem?_eq_getElem (by omega)⟩;have hgt : k < a.length -> k < b.length := fun h => by omega
  have hms : k < a.length -> a.length + 1 - (k + 1) < a.length + 1 - k := fun h => by omega
  refine Zi Z0 hA hS ?_;cbv
  split
  ·rename_i c
   have hk := Z31 hA hAl u1 c;obtain ⟨x1, x2, y1, y2, hx, hy⟩ := hget hk;have hLx : LA[k]? = some (.agg [I x1, I x2]) := by rw [hLA]; simp [hx, Zt3]
   have hLy : LB[k]? = some (.agg [I y1, I y2]) := by rw [hLB]; simp [hy, Zt3]
   have hn1 : A.leq [x1, x2] [y1, y2] = true -> a.length = b.length /\ a.take (k + 1) = b.take (k + 1) := fun h => ⟨e1, (Zdk hx hy e2).2 (by have := Zzl hA h; simp only [List.cons.injEq, and_true] at this; rw [this.1, this.2])⟩;have hn2 : A.leq [x1, x2] [y1, y2] = false -> a ≠ b := fun h => Zg4 hx hy (fun e => by cases e; exact Zyd hA h rfl);cbv;refine Z16 Z0 hA hS [0, 1, 2, 3, 4, 5, 6, 7, 8, 9] rfl rfl fun Dk hD => ?_;cbv;refine ⟨Z1b hA hAl u1 hk, ⟨_, Z18 hA u1 hLx, ?_⟩⟩;cbv;refine ⟨Z1b hA hBl u1 (hgt hk), ⟨_, Z18 hA u1 hLy, ?_⟩⟩;cbv;refine ⟨[x1, x2], [y1, y2], rfl, rfl, rfl, rfl, ?_⟩;cbv;refine ⟨Zy hA u1 (by omega), ?_⟩;refine Z8 (A.add i 1, k + 1, A.leq [x1, x2] [y1, y2]) [] ⟨Zz hA u1, hk, hn1, hn2⟩ (hms hk) ?_;exact ⟨by decide, Z9, trivial, ⟨rfl, rfl, rfl, rfl, trivial⟩, rfl, rfl⟩
  ·rename_i c
   have hk := Z21 hA hAl u1 c;have hr1 := hend hk;rw [hr1] at hq;cbv;refine Z7 ?_;cbv;exact Z1 hq
end Go.Proofs.YthljpccegkmdnaaGreatDoor

namespace Go.Proofs.YthljpccegkmdnaaGreatDoor.Bn
open Go Go.Abs Go.Proofs
def Zd (s : Sh) (p : List Nat) : List (Int × Int) := Z2u s.tasks.length (runS s (fun _ => 0) p)
theorem Z1pd {s : Sh} {p : List Nat} (hv : Val s) (hp : PlanLe s p) (hpl : p.length <= 8) : ∀ x ∈ runS s (fun _ => 0) p, (0 <= x.t /\ x.t < s.tasks.length) /\ 0 <= x.k /\ x.k <= 1000 := fun x hx => by
 obtain ⟨n, hn⟩ := List.mem_iff_getElem?.1 hx;have hlt : n < p.length := by have := (List.getElem?_eq_some_iff.1 hn).1; rwa [Z16a] at this
 obtain ⟨y, hy, hr⟩ := Z164 hv hp (List.getElem?_eq_getElem hlt);rw [hn] at hy; cases hy;have h1 := hr.hi;have h2 := hr.kl;have h3 : (p.take n).count p[n] <= n := Nat.le_trans List.count_le_length (by simp; omega);rw [hr.t, hr.k];refine ⟨⟨by omega, by omega⟩, by omega, by omega⟩
theorem Z1oj {s : Sh} {p : List Nat} (hv : Val s) (hp : PlanLe s p) : (runS s (fun _ => 0) p).Pairwise (fun a b => a.t = b.t -> a.k < b.k) := by
 rw [List.pairwise_iff_getElem];intro i j hi hj hij e;rw [Z16a] at hi hj;obtain ⟨x, hx, rx⟩ := Z164 hv hp (List.getElem?_eq_getElem hi);obtain ⟨y, hy, ry⟩ := Z164 hv hp (List.getElem?_eq_getElem hj);rw [List.getElem?_eq_getElem (by rw [Z16a]; exact hi)] at hx;rw [List.getElem?_eq_getElem (by rw [Z16a]; exact hj)] at hy
 cases hx; cases hy
 rw [rx.t, ry.t] at e;have e' : p[i] = p[j] := by omega
 rw [rx.k, ry.k, <- e'];have h1 := Z154 (List.getElem?_eq_getElem hi) p[i];rw [if_pos rfl] at h1;have h2 : (p.take (i + 1)).count p[i] <= (p.take j).count p[i] := by
  have : (p.take (i + 1)).Sublist (p.take j) := by
   have e3 : p.take (i + 1) = (p.take j).take (i + 1) := by rw [List.take_take, Nat.min_eq_left (by omega)]
   rw [e3]; exact List.take_sublist _ _
  exact this.count_le _
 omega
set_option maxRecDepth 20000 in
set_option maxHeartbeats 2000000 in
theorem Z1ov (s : Sh) (hv : Val s) (p : List Nat) (hp : PlanLe s p) (hpl : p.length <= 8) (TL PL : List D) (hT : TL = s.tasks.map Z14z) (hP : PL = p.map (fun i => I (i : Nat))) (Q) (hq : ∀ L, L = (Zd s p).map Zt3 -> Q (RA.ret (.sl 2 L)) []) :
  CallA Tryz.prog 122 [.agg [I s.benches, .sl 3 TL, .sl 1 PL]] [] Q := by
 obtain ⟨A, hA⟩ : ∃ A, A = ar := ⟨_, rfl⟩;obtain ⟨R, hR⟩ : ∃ R, R = runS s (fun _ => 0) p := ⟨_, rfl⟩;obtain ⟨RL, hRL⟩ : ∃ RL, RL = R.map Z14v := ⟨_, rfl⟩;have hTl : TL.length = s.tasks.length := by rw [hT]; simp
 have hRn : R.length = p.length := by rw [hR, Z16a]
 have hRl : RL.length = p.length := by rw [hRL]; simp [hRn]
 have hlen4 := hv.len;have hRf : ∀ x ∈ R, (0 <= x.t /\ x.t < s.tasks.length) /\ 0 <= x.k /\ x.k <= 1000 := by rw [hR]; exact Z1pd hv hp hpl
 have hfin : Zd s p = Z2u s.tasks.length (Z1lr R) := by
  rw [Zd, <- hR, Z1nu _ _ (by rw [hR]; exact Z1oj hv hp) (fun a ha => (hRf a ha).1.1)]
 refine Z5 Z0 hA Tryz.func122 rfl rfl rfl rfl rfl fun S hS => ?_;cbv;refine Z4 hS [.agg [I s.benches, .sl 3 TL, .sl 1 PL], .v (.map none)] [] [] rfl rfl rfl rfl rfl rfl rfl rfl (by decide) trivial (bRun s hv p hp (by omega) TL PL hT hP _ ?_);rw [<- hR, <- hRL];refine Z3 Z0 hA hS ?_;cbv;refine Zb hS ?_;refine Za (α := Int × Nat × List D) (fun q => { env := [(1, .b 0 0), (3, .o 1 7 q.2.1), (10, .sl 7 RL), (11, I (A.oi (A.len RL))), (12, I q.1)], H := [.box (.agg [I s.benches, .sl 3 TL, .sl 1 PL]), .els 7 q.2.2], nt := 45, dfs := [] })
  (fun q => p.length - q.2.1) (fun q => IsI q.1 q.2.1 /\ q.2.1 <= p.length /\ q.2.2 = RL.take q.2.1) (0, 0, []) ⟨⟨rfl⟩, Nat.zero_le _, rfl⟩ ?_ ?_
 ·refine Z2a 3 7 rfl ?_;exact Zf [0, 1] ⟨by decide, Z9, ⟨rfl, rfl, trivial⟩, ⟨rfl, rfl, rfl, rfl, rfl, trivial⟩, rfl, rfl⟩
 rintro ⟨i, k, L1⟩ ⟨u1, u2, u3⟩;dsimp only at u1 u2 u3;refine Zi Z0 hA hS ?_;cbv
 split
 ·rename_i c
  have hk := Z31 hA hRl u1 c;obtain ⟨x, hx⟩ : ∃ x, x = R[k] := ⟨_, rfl⟩;have hRx : R[k]? = some x := by rw [hx]; exact List.getElem?_eq_getElem (by omega)
  have hLx : RL[k]? = some (Z14v x) := by rw [hRL]; simp [hRx]
  have hn : A.app L1 [Z14v x] = RL.take (k + 1) := by rw [xapp hA, u3, List.take_add_one, hLx]; rfl
  have hLl : L1.length = k := by rw [u3]; simp; omega
  cbv;refine ⟨Z1b hA hRl u1 hk, ⟨_, Z18 hA u1 hLx, ?_⟩⟩;cbv;refine ⟨yeqLen hA hLl, yeqLen hA rfl, yroom1 hA (by omega) (by decide), Zy hA u1 (by omega), ?_⟩;refine Z8 (A.add i 1, k + 1, A.app L1 [Z14v x]) [0, 4] ⟨Zz hA u1, hk, hn⟩ (by simp only; omega) ?_;exact ⟨by decide, Z9, ⟨rfl, rfl, trivial⟩, ⟨rfl, by subst hA; rfl, rfl, rfl, rfl, trivial⟩, rfl, rfl⟩
 ·rename_i c
  have hk : k = p.length := by have := Z21 hA hRl u1 c; omega
  have hL1 : L1 = R.map Z14v := by rw [u3, hRL, List.take_of_length_le (by simp; omega)]
  have hin : A.inb (A.oi (A.len TL)) 1000 ∨ True := .inr trivial;have hr0 : 0 <= ((TL.length : Nat) : Int) := by omega
  have hr1 : TL.length * 16 <= 140737488355328 /\ TL.length <= 4611686018427387904 := by omega
  obtain ⟨n, hn⟩ : ∃ n, n = s.tasks.length := ⟨_, rfl⟩;cbv;refine Z7 ?_;cbv;refine Z4 hS [.o 0 7 k, .fn 158 []] [1] [.els 7 L1] rfl rfl rfl rfl rfl rfl rfl rfl (by decide) ⟨rfl, trivial⟩ (Z1pq R (fun x hx => (hRf x hx).2) (by omega) k (by omega) L1 hL1 _ fun d L2 hL2 => ?_);refine Z3 Z0 hA hS ?_;cbv;refine ⟨by subst hA; exact hr0, by subst hA; exact hr1, ?_⟩;obtain ⟨R2, hR2⟩ : ∃ R2, R2 = Z1lr R := ⟨_, rfl⟩;rw [<- hR2] at hL2 hfin;have hR2l : R2.length = p.length := by rw [hR2, (Z1m1 R).1.length_eq, hRn]
  have hL2l : L2.length = p.length := by rw [hL2]; simp [hR2l]
  have hR2f : ∀ x ∈ R2, (0 <= x.t /\ x.t < s.tasks.length) /\ 0 <= x.k /\ x.k <= 1000 := fun x hx => hRf x ((Z1m1 R).1.mem_iff.1 (by rw [<- hR2]; exact hx));have hxn0 : ∀ x ∈ R2, x.t.toNat < n := fun x hx => by have := hR2f x hx; omega
  obtain ⟨ef, hef⟩ : ∃ ef : Nat -> List (Int × Int), ef = fun m => Z2u s.tasks.length (R2.take m) := ⟨_, rfl⟩;have hefl : ∀ m, (ef m).length = n := fun m => by rw [hef]; simp [Z2u, Z1md, hn]
  refine Zb hS ?_;refine Za (α := Int × Nat × List D) (fun q => { env := [(6, .o 2 2 n), (29, .o 1 7 k), (30, I (A.oi k)), (31, I q.1)], H := [.box (.agg [I s.benches, .sl 3 TL, .sl 1 PL]), .els 7 L2, .els 2 q.2.2], nt := 45, dfs := [] })
   (fun q => p.length - q.2.1) (fun q => IsI q.1 q.2.1 /\ q.2.1 <= p.length /\ q.2.2 = (ef q.2.1).map Zt3) (0, 0, List.replicate TL.length (Zt3 (0, 0))) ⟨⟨rfl⟩, Nat.zero_le _, by rw [hef]; simp [Z2u, hTl]⟩ ?_ ?_
  ·exact Zf [0, 1, 2] ⟨by decide, Z9, ⟨rfl, rfl, by subst hA; rfl, trivial⟩, ⟨by subst hA; rw [hn, <- hTl]; rfl, rfl, rfl, rfl, trivial⟩, rfl, rfl⟩
  rintro ⟨j, m, OL⟩ ⟨v1, v2, v3⟩;dsimp only at v1 v2 v3;have hOl : OL.length = n := by rw [v3]; simp [hefl]
  refine Zi Z0 hA hS ?_;cbv
  split
  ·rename_i c2
   have hm : m < p.length := by have := yltN hA v1 c2; omega
   obtain ⟨x, hx⟩ : ∃ x, x = R2[m] := ⟨_, rfl⟩;have hRx : R2[m]? = some x := by rw [hx]; exact List.getElem?_eq_getElem (by omega)
   have hLx : L2[m]? = some (Z14v x) := by rw [hL2]; simp [hRx]
   have hxf := hR2f x (List.mem_of_getElem? hRx);have hxt : IsI x.t x.t.toNat := ⟨by omega⟩;have hxn : x.t.toNat < n := hxn0 x (List.mem_of_getElem? hRx);obtain ⟨y, hy⟩ : ∃ y, y = (ef m)[x.t.toNat]'(by rw [hefl]; exact hxn) := ⟨_, rfl⟩;have hOx : OL[x.t.toNat]? = some (.agg [I y.1, I y.2]) := by rw [v3]; simp [hy, Zt3, hefl, hxn]
   have hes : ef (m + 1) = (ef m).set x.t.toNat (x.el, x.eh) := by rw [hef]; simp only; rw [List.take_add_one, hRx]; simp [Z2u]
   have hOs : OL.set x.t.toNat (.agg [I x.el, I x.eh]) = (ef (m + 1)).map Zt3 := by rw [hes, v3]; simp [Zt3]
   have hset := Z7n hA hxt hOs.symm;cbv;refine ⟨Z4o hA v1 (by omega), ⟨_, Z18 hA v1 hLx, ?_⟩⟩;cbv;refine ⟨Z4o hA hxt hxn, ⟨_, Z18 hA hxt hOx, ?_⟩⟩;cbv;refine ⟨Zy hA v1 (by omega), ?_⟩;refine Z8 (A.add j 1, m + 1, A.set OL (A.tn x.t) (.agg [I x.el, I x.eh])) [0, 1, 2] ⟨Zz hA v1, hm, hset⟩ (by simp only; omega) ?_;exact ⟨by decide, Z9, ⟨rfl, rfl, rfl, trivial⟩, ⟨rfl, rfl, rfl, rfl, trivial⟩, rfl, rfl⟩
  ·rename_i c2
   have hm : m = p.length := by have := Z19k hA v1 c2; omega
   have hOf : OL = (Zd s p).map Zt3 := by rw [v3, hfin, hef]; simp only; rw [List.take_of_length_le (by omega)]
   cbv;refine Z7 ?_;cbv;refine Z1w [2] ?_;cbv;exact ⟨by cases OL <;> exact hOl.symm, Z2 [] (by decide) Z9 (H' := []) (d' := .sl 2 OL) trivial rfl (Z1 (hq OL hOf))⟩
end Go.Proofs.YthljpccegkmdnaaGreatDoor.Bn

namespace Go.Proofs.YthljpccegkmdnaaGreatDoor.Bn
open Go Go.Abs Go.Proofs
theorem Z1o7 (s : Sh) (hs : ShopOk s) (p : List Nat) (hp : PlanOk s p) (TL PL : List D) (hT : TL = s.tasks.map Z14z) (hP : PL = p.map (fun i => I (i : Nat))) (Q) (hq : ∀ L, L = (Zd s p).map Zt3 -> Q (RA.ret (.tup [.sl 2 L, I 0])) []) :
  CallA Tryz.prog 81 [.agg [I s.benches, .sl 3 TL], .sl 1 PL] [] Q := by
 obtain ⟨A, hA⟩ : ∃ A, A = ar := ⟨_, rfl⟩;have hv := chkS_val hs.chk;have hpl : p.length <= 8 := by rw [hp.len]; have := hv.sum; omega
 refine Z5 Z0 hA Tryz.func81 rfl rfl rfl rfl rfl fun S hS => ?_;cbv;refine Z4 hS [.agg [I s.benches, .sl 3 TL], .sl 1 PL] [] [] rfl rfl rfl rfl rfl rfl rfl rfl (by decide) trivial (Z16o s hs p hp TL PL hT hP _ ?_);refine Z3 Z0 hA hS ?_;cbv
 split
 ·rename_i c
  exact absurd rfl (xne hA c)
 rename_i c
 cbv;refine Z4 hS [.agg [I s.benches, .sl 3 TL, .sl 1 PL]] [] [] rfl rfl rfl rfl rfl rfl rfl rfl (by decide) trivial (Z1ov s hv p hp.le hpl TL PL hT hP _ fun L hL => ?_);refine Z3 Z0 hA hS ?_;cbv;exact Z2 [] (by decide) Z9 (H' := []) (d' := .tup [.sl 2 L, I 0]) trivial rfl (Z1 (hq L hL))
end Go.Proofs.YthljpccegkmdnaaGreatDoor.Bn

namespace Go.Proofs.YthljpccegkmdnaaGreatDoor.Bn
open Go Go.Abs Go.Proofs
theorem Zvn (L : List D) (n : Nat) (hn : L.length = n) (hl : n <= 1000000) (Q) (hq : Q (RA.ret (.o 0 1 n)) [.els 1 L]) : CallA Tryz.prog 73 [.sl 1 L] [] Q := by
 obtain ⟨A, hA⟩ : ∃ A, A = ar := ⟨_, rfl⟩;refine Z5 Z0 hA Tryz.func73 rfl rfl rfl rfl rfl fun S hS => ?_;cbv;refine ⟨fun b hb => ?_⟩;cbv;refine bm (fun c => ?_) (fun c => ?_)
 ·have h0 : n = 0 := by have := hb c; subst hA; exact hn.symm.trans this
  subst h0;have hL : L = [] := List.length_eq_zero_iff.1 hn;subst hL;cbv;exact Zut 1 (by decide) (Z1 hq)
 ·cbv;refine ⟨yeqLen hA rfl, ?_, Z2 [1] (by decide) Z9 (H' := [.els 1 L]) (d' := .o 0 1 n) ⟨by subst hA; rfl, trivial⟩ ?_ (Z1 hq)⟩
  ·subst hA; subst hn; exact ⟨show (0 + L.length) * 8 <= 140737488355328 by omega, show 0 + L.length <= 4611686018427387904 by omega⟩
  ·subst hA; subst hn; show D.o 1 1 L.length = D.o 1 1 (0 + L.length); rw [Nat.zero_add]
theorem Z1bz (L : List D) (hl : L.length <= 1000000) (Q) (hq : Q (RA.ret (.sl 1 L)) []) : CallA Tryz.prog 73 [.sl 1 L] [] Q := by
 refine Zcb (Zvn L L.length rfl hl _ ?_);refine Z1w [0] ?_;simp only [fzG, fzH, Z7a, Z1m];cbv;exact Z2 [] (by decide) Z9 (H' := []) (d' := .sl 1 L) trivial rfl (Z1 hq)
theorem Z1cd (L : List D) (i : Int) (Q) (hq : Q (RA.ret (.v (.bool true))) []) : CallA Tryz.prog 127 [.sl 1 L, I i] [] Q := by
 obtain ⟨A, hA⟩ : ∃ A, A = ar := ⟨_, rfl⟩;refine Z5 Z0 hA Tryz.func127 rfl rfl rfl rfl rfl fun S hS => ?_;cbv;exact Z1 hq
end Go.Proofs.YthljpccegkmdnaaGreatDoor.Bn

namespace Go.Proofs.YthljpccegkmdnaaGreatDoor.Bn
open Go Go.Abs Go.Proofs
def Z1ah (n : Nat) : Nat -> List Nat -> List (List Nat)
 | 0, _ => [[]]
 | r + 1, left => (List.range n).flatMap fun i => if left.getD i 0 = 0 then [] else (Z1ah n r (left.set i (left.getD i 0 - 1))).map (i :: ·)
def hsB (nf : FuncId) (nc : D) (asg bdy : Code) (bl : List (List Nat) -> List D) (nn : List (List Nat) -> Int) (mt : List (List Nat) -> Bool) (σ : List (List Nat)) : List Blk :=
 [.ob (.lp .ready none [(9, .fn 159 [.cb nc 0, .cb (.fn 127 []) 0]), (3, .b 1 0), (4, .b 2 0), (5, .b 3 0), (6, .b 4 0)] 25 [10] asg bdy), .box (.fn nf [.cb nc 0]), .box (.sl 1 (bl σ)), .box (I (nn σ)), .box (.v (.bool (mt σ)))]
def z4D : D := .agg [I 0, I 0, I 0, I 0]
def Z1ce (sD : D) (mf : FuncId) : D := .fn 160 [.cb z4D 0, .b 5 0, .cb sD 0, .cb (.fn mf []) 0, .b 6 0]
def hsG (b : Int) (TL : List D) (asg bdy : Code) (bl : List (List Nat) -> List D) (nn : List (List Nat) -> Int) (mt : List (List Nat) -> Bool) (σ : List (List Nat)) : List Blk :=
 [.ob (.lp .ready none [(9, .fn 159 [.cb (.agg [I b, .sl 3 TL]) 0, .cb (.fn 127 []) 0]), (3, .b 1 0), (4, .b 2 0), (5, .b 3 0), (6, .b 4 0)] 25 [10] asg bdy), .box (.fn 128 [.cb (.agg [I b, .sl 3 TL]) 0]), .box (.sl 1 (bl σ)), .box (I (nn σ)), .box (.v (.bool (mt σ))), .box (.yv 0), .box (Z1ce (.agg [I b, .sl 3 TL]) 127)]
structure RoundsOk (nf : FuncId) (nc : D) (asg bdy : Code) (bl : List (List Nat) -> List D) (nn : List (List Nat) -> Int) (mt : List (List Nat) -> Bool) (ps : List (List Nat)) : Prop where
 out : ∀ σ p rest σ', ps = σ ++ p :: rest -> σ' = σ ++ [p] -> ∀ LL, LL = Z15w p -> ∀ Q, Q (RA.ret (.v (.bool true))) (hsB nf nc asg bdy bl nn mt σ') -> RoundA Tryz.prog 0 [.sl 1 LL] (hsB nf nc asg bdy bl nn mt σ) Q
theorem Z1an : ∀ {l : List Nat}, l.sum = 0 -> ∀ i, l.getD i 0 = 0
 | [], _, i => by simp
 | x :: l, h, 0 => by simp at h ⊢; exact h.1
 | x :: l, h, i + 1 => by
  simp only [List.sum_cons] at h;have := Z1an (l := l) (by omega) i;simpa using this
theorem Z1b5 : ∀ {l : List Nat} {i : Nat}, l.getD i 0 ≠ 0 -> (l.set i (l.getD i 0 - 1)).sum + 1 = l.sum
 | [], i, h => by simp at h
 | x :: l, 0, h => by simp at h ⊢; omega
 | x :: l, i + 1, h => by
  have := Z1b5 (l := l) (i := i) (by simpa using h);simp at this ⊢; omega
theorem Z1au : ∀ (l : List Nat) (i : Nat), l.getD i 0 <= l.sum
 | [], i => by simp
 | x :: l, 0 => by simp
 | x :: l, i + 1 => by
  have := Z1au l i;simp at this ⊢; omega
theorem Z1bf {l : List Nat} (h : l.length = 4) : ∃ a b c d, l = [a, b, c, d] := by
 match l, h with
 | [a, b, c, d], _ => exact ⟨a, b, c, d, rfl⟩
set_option maxRecDepth 20000 in
set_option maxHeartbeats 4000000 in
theorem Zyc (b : Int) (TL : List D) (N : Nat) (hN : TL.length = N) (hN4 : N <= 4) (asg bdy : Code) (bl nn mt) (ps : List (List Nat)) (hR : RoundsOk 128 (.agg [I b, .sl 3 TL]) asg bdy bl nn mt ps) :
  ∀ (r : Nat) (left l : List Nat) (σ rest : List (List Nat)), left.sum = r -> left.length = 4 -> l.length + r <= 100 -> (∀ i, N <= i -> left.getD i 0 = 0) -> ps = σ ++ ((Z1ah N r left).map (l ++ ·) ++ rest) ->
  ∀ (LL : List D) (x0 x1 x2 x3 : Int), LL = Z15w l -> left.map (fun n : Nat => (n : Int)) = [x0, x1, x2, x3] -> ∀ Q,
  (∀ σ', σ' = σ ++ (Z1ah N r left).map (l ++ ·) -> Q (RA.ret (.v (.bool true))) (hsG b TL asg bdy bl nn mt σ')) ->
  CallA Tryz.prog 160 [.sl 1 LL, .agg [I x0, I x1, I x2, I x3], .cb z4D 0, .b 5 0, .cb (.agg [I b, .sl 3 TL]) 0, .cb (.fn 127 []) 0, .b 6 0] (hsG b TL asg bdy bl nn mt σ) Q := by
 obtain ⟨A, hA⟩ : ∃ A, A = ar := ⟨_, rfl⟩;intro r
 induction r with
 | zero =>
  intro left l σ rest hsum hlen hl hz hps LL x0 x1 x2 x3 hLL hx Q hq;obtain ⟨a0, a1, a2, a3, rfl⟩ := Z1bf hlen;simp only [List.map_cons, List.map_nil, List.cons.injEq, and_true] at hx;obtain ⟨rfl, rfl, rfl, rfl⟩ := hx;have e0 : a0 = 0 := Z1an hsum 0;have e1 : a1 = 0 := Z1an hsum 1;have e2 : a2 = 0 := Z1an hsum 2;have e3 : a3 = 0 := Z1an hsum 3;subst e0 e1 e2 e3;have hLl : LL.length <= 1000000 := by rw [hLL]; simp [Z15w]; omega
  have hps' : ps = σ ++ l :: rest := by rw [hps]; simp [Z1ah]
  obtain ⟨σ', hσ'⟩ : ∃ σ', σ' = σ ++ [l] := ⟨_, rfl⟩;have hq' := hq σ' (by rw [hσ']; simp [Z1ah]);have hleq : A.leq [0, 0, 0, 0] [0, 0, 0, 0] = true := by subst hA; rfl
  refine Z5 Z0 hA Tryz.func160 rfl rfl rfl rfl rfl fun S hS => ?_;cbv;refine ⟨[0, 0, 0, 0], [0, 0, 0, 0], rfl, rfl, rfl, rfl, ?_⟩;cbv;refine bm (fun _ => ?_) (fun c => Bool.noConfusion (hleq.symm.trans c));cbv;refine Z16 Z0 hA hS [0, 1, 2, 3, 4] rfl rfl fun Dk hD => ?_;cbv;refine Zq hA hD [.sl 1 LL] [] [] rfl rfl rfl rfl rfl rfl rfl rfl rfl rfl rfl (by decide) trivial (Z1bz LL hLl _ ⟨by cbv, Zx Z0 hA hD ?_⟩);cbv;refine Z1bb hA hD 0 [.sl 1 LL] [0, 1, 2, 3, 4] (hsB 128 (.agg [I b, .sl 3 TL]) asg bdy bl nn mt σ) rfl rfl rfl rfl rfl rfl rfl rfl rfl rfl rfl rfl (by decide) ⟨rfl, rfl, rfl, rfl, rfl, trivial⟩ (hR.out σ l rest σ' hps' hσ' LL hLL _ ⟨by cbv, Zx Z0 hA hD ?_⟩);cbv;exact Z2 [0, 1, 2, 3, 4, 5, 6] (by decide) pre7 (H' := hsG b TL asg bdy bl nn mt σ') (d' := .v (.bool true)) ⟨rfl, rfl, rfl, rfl, rfl, rfl, rfl, trivial⟩ rfl (Z1 hq')
 | succ r ih =>
  intro left l σ rest hsum hlen hl hz hps LL x0 x1 x2 x3 hLL hx Q hq;have hXl : [x0, x1, x2, x3].length = 4 := rfl;have hxg : ∀ k, k < 4 -> ∃ x : Int, IsI x (left.getD k 0) /\ ([I x0, I x1, I x2, I x3] : List D)[0 + k]? = some (I x) := fun k hk => by
   refine ⟨_, ⟨rfl⟩, ?_⟩;have e : ([I x0, I x1, I x2, I x3] : List D) = ([x0, x1, x2, x3] : List Int).map I := rfl;rw [e, <- hx, Nat.zero_add];simp [List.getD_eq_getElem?_getD, List.getElem?_eq_getElem (show k < left.length by omega)]
  have hne : A.leq [x0, x1, x2, x3] [0, 0, 0, 0] = false := by
   have : [x0, x1, x2, x3] ≠ [0, 0, 0, 0] := fun e => by
    rw [e] at hx;obtain ⟨a0, a1, a2, a3, rfl⟩ := Z1bf hlen;simp at hx hsum; omega
   subst hA; exact decide_eq_false this
  have hLn : LL.length = l.length := by rw [hLL]; simp [Z15w]
  obtain ⟨n, hn⟩ : ∃ n, n = l.length := ⟨_, rfl⟩;rw [<- hn] at hLn;have hnM : n <= 1000000 := by omega
  have hn100 : n + 1 <= 1000000 := by omega
  obtain ⟨fm, hfm⟩ : ∃ fm : Nat -> List (List Nat), fm = fun i => if left.getD i 0 = 0 then [] else (Z1ah N r (left.set i (left.getD i 0 - 1))).map (i :: ·) := ⟨_, rfl⟩
  have hpl : Z1ah N (r + 1) left = (List.range N).flatMap fm := by rw [Z1ah, hfm]
  obtain ⟨sg, hsg⟩ : ∃ sg : Nat -> List (List Nat), sg = fun k => σ ++ (((List.range k).flatMap fm).map (l ++ ·)) := ⟨_, rfl⟩;have hsg0 : sg 0 = σ := by rw [hsg]; simp
  have hsgs : ∀ k, sg (k + 1) = sg k ++ (fm k).map (l ++ ·) := fun k => by rw [hsg]; simp [List.range_succ]
  have hsgN : sg N = σ ++ (Z1ah N (r + 1) left).map (l ++ ·) := by rw [hsg, hpl]
  refine Z5 Z0 hA Tryz.func160 rfl rfl rfl rfl rfl fun S hS => ?_;cbv;refine ⟨[x0, x1, x2, x3], [0, 0, 0, 0], rfl, rfl, rfl, rfl, ?_⟩;cbv;refine bm (fun c => Bool.noConfusion (hne.symm.trans c)) (fun _ => ?_);cbv;refine Zb hS ?_;refine Za (α := Int × Nat × List (List Nat)) (fun q => { env := [(0, .sl 1 LL), (3, .b 5 0), (4, .cb (.agg [I b, .sl 3 TL]) 0), (5, .cb (.fn 127 []) 0), (6, .b 6 0), (8, .b 7 0), (20, .sl 3 TL), (21, I (A.oi (A.len TL))), (22, I q.1)], H := hsG b TL asg bdy bl nn mt q.2.2 ++ [.box (.agg [I x0, I x1, I x2, I x3])], nt := 52, dfs := [] })
   (fun q => N - q.2.1) (fun q => IsI q.1 q.2.1 /\ q.2.1 <= N /\ q.2.2 = sg q.2.1) (0, 0, σ) ⟨⟨rfl⟩, Nat.zero_le _, hsg0.symm⟩ ?_ ?_
  ·exact Zf [0, 1, 2, 3, 4, 5, 6, 7] ⟨by decide, pre7, ⟨rfl, rfl, rfl, rfl, rfl, rfl, rfl, rfl, trivial⟩, ⟨rfl, rfl, rfl, rfl, rfl, rfl, rfl, rfl, rfl, trivial⟩, rfl, rfl⟩
  rintro ⟨i, k, σc⟩ ⟨u1, u2, u3⟩;dsimp only at u1 u2 u3;refine Zi Z0 hA hS ?_;cbv;refine bm (fun c => ?_) (fun c => ?_)
  ·have hk := Z31 hA hN u1 c;have hk4 : k < 4 := by omega
   have hin : A.inb i 4 := Z4o hA u1 hk4;have hf1 : A.fits .i64 (A.add i 1) := Zy hA u1 (by omega);have hu1 := Zz hA u1;have hms : N - (k + 1) < N - k := by omega
   obtain ⟨x, hxI, hxG⟩ := hxg k hk4;have hfs : A.fits .i64 (A.sub x 1) := Z14 hA (Z24 hA x 1) (by
    have h1 := hxI.eq
    have h2 := Z1au left k
    omega)
   have hlt4 : A.ltN (A.addN 0 (A.mulN (A.tn i) 1)) [I x0, I x1, I x2, I x3] := Zwm hA 0 u1 (m := 4) rfl (by omega);have hbn : A.bnot true = false := by subst hA; rfl
   have hgx := Zo9 hA 0 u1 hxG
   by_cases h0 : left.getD k 0 = 0
   ·have hx0 : A.cmp .eql x 0 = true := by rw [Zx0 hA]; exact decide_eq_true (by have := hxI.eq; omega)
    have hs2 : σc = sg (k + 1) := by rw [hsgs, u3, hfm]; simp only [h0, if_true, List.map_nil, List.append_nil]
    cbv;refine ⟨hin, ⟨_, hgx, ?_⟩⟩;cbv;refine bm (fun _ => ?_) (fun c => Bool.noConfusion (hx0.symm.trans c));cbv;refine Zg hS (f := 127) (b := true) rfl rfl rfl rfl rfl rfl rfl rfl (fun h => Bool.noConfusion h) (fun _ => ?_);refine Z3 Z0 hA hS ?_;cbv;refine ⟨hf1, ?_⟩;refine Z8 (A.add i 1, k + 1, σc) [0, 1, 2, 3, 4, 5, 6, 7] ⟨hu1, hk, hs2⟩ hms ?_;exact ⟨by decide, pre7, ⟨rfl, rfl, rfl, rfl, rfl, rfl, rfl, rfl, trivial⟩, ⟨rfl, rfl, rfl, rfl, rfl, rfl, rfl, rfl, rfl, trivial⟩, rfl, rfl⟩
   ·obtain ⟨left', hle⟩ : ∃ left', left' = left.set k (left.getD k 0 - 1) := ⟨_, rfl⟩;have hlen' : left'.length = 4 := by rw [hle]; simp [hlen]
    obtain ⟨y0, y1, y2, y3, hy⟩ : ∃ y0 y1 y2 y3 : Int, left'.map (fun n : Nat => (n : Int)) = [y0, y1, y2, y3] := by
     obtain ⟨a0, a1, a2, a3, e⟩ := Z1bf hlen';exact ⟨a0, a1, a2, a3, by rw [e]; rfl⟩
    have hset : A.set [I x0, I x1, I x2, I x3] (A.addN 0 (A.mulN (A.tn i) 1)) (I (A.sub x 1)) = [I y0, I y1, I y2, I y3] := by
     refine Zs6 hA 0 u1 ?_;have e1 : ([I x0, I x1, I x2, I x3] : List D) = ([x0, x1, x2, x3] : List Int).map I := rfl;have e2 : ([I y0, I y1, I y2, I y3] : List D) = ([y0, y1, y2, y3] : List Int).map I := rfl;rw [e1, e2, <- hx, <- hy, hle, Nat.zero_add, Z24 hA, hxI.eq];simp only [List.map_set]
     congr 1
     rw [Int.natCast_sub (by omega)]; rfl
    have hLL' : A.app LL [I i] = Z15w (l ++ [k]) := by rw [xapp hA, hLL, u1.eq]; simp [Z15w]
    have hapl : A.addN n 1 = A.len (A.app LL [I i]) := by subst hA; show n + 1 = (LL ++ [I i]).length; simp [hLn]
    have hsum' : left'.sum = r := by have := Z1b5 (i := k) h0; rw [hle]; omega
    have hl' : (l ++ [k]).length + r <= 100 := by simp; omega
    have hz' : ∀ i, N <= i -> left'.getD i 0 = 0 := fun i hi => by
     rw [hle, Z15f _ _ _ _ _ (by omega), if_neg (by omega)]; exact hz i hi
    have hfk : (fm k).map (l ++ ·) = (Z1ah N r left').map ((l ++ [k]) ++ ·) := by
     rw [hfm]; simp only [if_neg h0, <- hle, List.map_map];exact List.map_congr_left fun p _ => by simp
    obtain ⟨rest', hps'⟩ : ∃ rest', ps = σc ++ ((Z1ah N r left').map ((l ++ [k]) ++ ·) ++ rest') := by
     refine ⟨(((List.range (N - (k + 1))).map (k + 1 + ·)).flatMap fm).map (l ++ ·) ++ rest, ?_⟩;have e1 : List.range N = List.range k ++ ([k] ++ (List.range (N - (k + 1))).map (k + 1 + ·)) := by
      conv => lhs; rw [show N = (k + 1) + (N - (k + 1)) by omega]
      rw [List.range_add, List.range_succ, List.append_assoc]
     rw [hps, hpl, e1, u3, hsg, <- hfk];simp [List.flatMap_append]
    have hx0 : A.cmp .eql x 0 = false := by rw [Zx0 hA]; exact decide_eq_false (by have := hxI.eq; omega)
    cbv;refine ⟨hin, ⟨_, hgx, ?_⟩⟩;cbv;refine bm (fun c => Bool.noConfusion (hx0.symm.trans c)) (fun _ => ?_);cbv;refine Zg hS (b := false) rfl rfl rfl rfl rfl rfl rfl rfl (fun _ => ⟨[], _, [.sl 1 LL, I i], [], [], rfl, rfl, rfl, by decide, trivial, Z1cd _ _ _ ?_⟩) (fun h => absurd rfl h);refine Z3 Z0 hA hS ?_;cbv;refine bm (fun c => Bool.noConfusion (hbn.symm.trans c)) (fun _ => ?_);cbv;refine ⟨hin, ⟨_, hgx, ?_⟩⟩;cbv;refine ⟨hfs, hin, hlt4, ?_⟩;refine Z3h hS (Z7w 8 (.agg [I y0, I y1, I y2, I y3]) rfl (show WkL (A.set [I x0, I x1, I x2, I x3] (A.addN 0 (A.mulN (A.tn i) 1)) (I (A.sub x 1))) [I y0, I y1, I y2, I y3] from hset ▸ WkL.rfl) (Z7 ?_));refine Z16 Z0 hA hS [0, 1, 3, 4, 6, 2, 5, 7, 8] rfl rfl fun Dk hD => ?_;cbv;refine Zq hA hD [.sl 1 LL] [] [] rfl rfl rfl rfl rfl rfl rfl rfl rfl rfl rfl (by decide) trivial (Zvn LL n hLn hnM _ ⟨by cbv, Zx Z0 hA hD ?_⟩);cbv;refine ⟨yeqLen hA hLn, yeqLen hA rfl, yroom1 hA hnM (by decide), ?_⟩;refine Zmn hA hD [11] rfl rfl rfl rfl rfl rfl fun CG hC => ?_;cbv;refine ⟨Zkd hA hapl, ?_⟩;rw [hC];refine Zs5 [.sl 1 (A.app LL [I i]), .agg [I y0, I y1, I y2, I y3], .cb z4D 0, .b 5 0, .cb (.agg [I b, .sl 3 TL]) 0, .cb (.fn 127 []) 0, .b 6 0] [0, 1, 2, 3, 4, 5, 6] (hsG b TL asg bdy bl nn mt σc) rfl rfl rfl rfl rfl (by decide) ⟨rfl, rfl, rfl, rfl, rfl, rfl, rfl, trivial⟩
     (ih left' (l ++ [k]) σc rest' hsum' hlen' hl' hz' hps' _ y0 y1 y2 y3 hLL' hy _ fun σ'' hσ'' => Zo8 hA Z0 hD ?_ ?_)
    ·cbv
    ·have hs2 : σ'' = sg (k + 1) := by rw [hσ'', hsgs, hfk, u3]
     cbv;refine bm (fun c => Bool.noConfusion (hbn.symm.trans c)) (fun _ => ?_);cbv;refine ⟨hf1, ?_⟩;refine Z8 (A.add i 1, k + 1, σ'') [0, 1, 2, 3, 4, 5, 6, 7] ⟨hu1, hk, hs2⟩ hms ?_;exact ⟨by decide, pre7, ⟨rfl, rfl, rfl, rfl, rfl, rfl, rfl, rfl, trivial⟩, ⟨rfl, rfl, rfl, rfl, rfl, rfl, rfl, rfl, rfl, trivial⟩, rfl, rfl⟩
  ·have hk := Z21 hA hN u1 c;have hkN : k = N := by omega
   have hq' := hq σc (by rw [u3, hkN, hsgN]);cbv;refine Z7 ?_;cbv;exact Z2 [0, 1, 2, 3, 4, 5, 6] (by decide) pre7 (H' := hsG b TL asg bdy bl nn mt σc) (d' := .v (.bool true)) ⟨rfl, rfl, rfl, rfl, rfl, rfl, rfl, trivial⟩ rfl (Z1 hq')
end Go.Proofs.YthljpccegkmdnaaGreatDoor.Bn

namespace Go.Proofs.YthljpccegkmdnaaGreatDoor.Bn
open Go Go.Abs Go.Proofs
def Z1ai (s : Sh) : List Nat := s.tasks.map (·.works.length) ++ List.replicate (4 - s.tasks.length) 0
def Z1aj (s : Sh) : List (List Nat) := Z1ah s.tasks.length (Z1cw s.tasks) (Z1ai s)
theorem Z1ao {s : Sh} (h : s.tasks.length <= 4) : (Z1ai s).length = 4 := by simp [Z1ai]; omega
theorem Z1b2 (s : Sh) : (Z1ai s).sum = Z1cw s.tasks := by simp [Z1ai, Z1cw]
theorem Z1ar {s : Sh} {i : Nat} (h : s.tasks.length <= i) : (Z1ai s).getD i 0 = 0 := by
 simp only [Z1ai, List.getD_eq_getElem?_getD];rw [List.getElem?_append_right (by simpa using h), List.getElem?_replicate]
 split <;> rfl
theorem Z1b6 {s : Sh} {i : Nat} {t : Tk} (h : s.tasks[i]? = some t) : (Z1ai s).getD i 0 = t.works.length := by
 have hi := (List.getElem?_eq_some_iff.1 h).1;simp only [Z1ai, List.getD_eq_getElem?_getD];rw [List.getElem?_append_left (by simpa using hi), List.getElem?_map, h]; rfl
def Z1ap (s : Sh) (k : Nat) : List Nat := (List.range 4).map fun i => if i < k then (Z1ai s).getD i 0 else 0
theorem Z1bk {s : Sh} (h : s.tasks.length <= 4) {k : Nat} (hk : s.tasks.length <= k) : Z1ap s k = Z1ai s := by
 refine List.ext_getElem? fun i => ?_
 by_cases hi : i < 4
 ·rw [Z1ap, List.getElem?_map, List.getElem?_range hi, Option.map_some];have := Z1ao h;have e : (Z1ai s)[i]? = some ((Z1ai s).getD i 0) := by rw [List.getD_eq_getElem?_getD, List.getElem?_eq_getElem (by omega)]; rfl
  rw [e]
  split
  ·rfl
  ·rw [Z1ar (by omega)]
 ·rw [List.getElem?_eq_none (by simp [Z1ap]; omega), List.getElem?_eq_none (by rw [Z1ao h]; omega)]
theorem Z1bc (s : Sh) {k : Nat} (hk : k < 4) : Z1ap s (k + 1) = (Z1ap s k).set k ((Z1ai s).getD k 0) := by
 refine List.ext_getElem? fun i => ?_;rw [List.getElem?_set]
 by_cases hi : i < 4
 ·simp only [Z1ap, List.getElem?_map, List.getElem?_range hi, Option.map_some, List.length_map, List.length_range]
  by_cases e : k = i
  ·subst e; simp [hk]
  ·rw [if_neg e]
   congr 1
   by_cases h2 : i < k
   ·rw [if_pos (by omega), if_pos h2]
   ·rw [if_neg (by omega), if_neg h2]
 ·rw [List.getElem?_eq_none (by simp [Z1ap]; omega), if_neg (by omega), List.getElem?_eq_none (by simp [Z1ap]; omega)]
def natL (l : List Nat) : List D := l.map fun n => I (n : Nat)
theorem Z1c0 (l : List Nat) : frL (natL l) = true := Z30.2 fun d hd => by
 obtain ⟨x, -, rfl⟩ := List.mem_map.1 hd; rfl
set_option maxRecDepth 20000 in
set_option maxHeartbeats 4000000 in
theorem Z1bp (s : Sh) (hv : Val s) (TL : List D) (hT : TL = s.tasks.map Z14z) (asg bdy : Code) (bl nn mt) (hR : RoundsOk 128 (.agg [I s.benches, .sl 3 TL]) asg bdy bl nn mt (Z1aj s)) (Q)
  (hq : ∀ d, Q (RA.ret d) (hsB 128 (.agg [I s.benches, .sl 3 TL]) asg bdy bl nn mt (Z1aj s))) :
  CallA Tryz.prog 159 [.yv 0, .cb (.agg [I s.benches, .sl 3 TL]) 0, .cb (.fn 127 []) 0] (hsB 128 (.agg [I s.benches, .sl 3 TL]) asg bdy bl nn mt []) Q := by
 obtain ⟨A, hA⟩ : ∃ A, A = ar := ⟨_, rfl⟩;have hlen := hv.len;have hsum := hv.sum;obtain ⟨N, hN⟩ : ∃ N, N = s.tasks.length := ⟨_, rfl⟩;have hTl : TL.length = N := by rw [hT, hN]; simp
 have hN4 : N <= 4 := by omega
 obtain ⟨b, hb⟩ : ∃ b, b = s.benches := ⟨_, rfl⟩;obtain ⟨σ0, hσ0⟩ : ∃ σ0 : List (List Nat), σ0 = [] := ⟨_, rfl⟩;obtain ⟨ps, hps⟩ : ∃ ps, ps = Z1aj s := ⟨_, rfl⟩;rw [<- hps] at hR hq;rw [<- hb] at hR hq ⊢;rw [<- hσ0];refine Z5 Z0 hA Tryz.func159 rfl rfl rfl rfl rfl fun S hS => ?_;cbv;refine Zb hS ?_;refine Za (α := Int × Nat × List D) (fun q => { env := [(1, .cb (.agg [I b, .sl 3 TL]) 0), (2, .cb (.fn 127 []) 0), (3, .b 5 0), (4, .b 6 0), (5, .b 7 0), (10, .sl 3 TL), (11, I (A.oi (A.len TL))), (12, I q.1)], H := hsB 128 (.agg [I b, .sl 3 TL]) asg bdy bl nn mt σ0 ++ [.box (.yv 0), .box z4D, .box (.arr q.2.2)], nt := 27, dfs := [] })
  (fun q => N - q.2.1) (fun q => IsI q.1 q.2.1 /\ q.2.1 <= N /\ q.2.2 = natL (Z1ap s q.2.1)) (0, 0, [I 0, I 0, I 0, I 0]) ⟨⟨rfl⟩, Nat.zero_le _, rfl⟩ ?_ ?_
 ·refine Z7w 7 (.arr [I 0, I 0, I 0, I 0]) rfl WkL.rfl ?_;exact Zf [0, 1, 2, 3, 4, 5, 6, 7] ⟨by decide, Z91, ⟨rfl, rfl, rfl, rfl, rfl, rfl, rfl, rfl, trivial⟩, ⟨rfl, rfl, rfl, rfl, rfl, rfl, rfl, rfl, trivial⟩, rfl, rfl⟩
 rintro ⟨i, k, L⟩ ⟨u1, u2, u3⟩;dsimp only at u1 u2 u3;have hLl : L.length = 4 := by rw [u3]; simp [natL, Z1ap]
 have hNs : N <= k -> natL (Z1ap s k) = natL (Z1ai s) := fun h => by rw [Z1bk hlen (by omega)]
 refine Zi Z0 hA hS ?_;cbv;refine bm (fun c => ?_) (fun c => ?_)
 ·have hk := Z31 hA hTl u1 c;have hk4 : k < 4 := by omega
  obtain ⟨t, ht⟩ : ∃ t, t = s.tasks[k] := ⟨_, rfl⟩;have htk : s.tasks[k]? = some t := by rw [ht]; exact List.getElem?_eq_getElem (by omega)
  obtain ⟨WL, hWL⟩ : ∃ WL, WL = t.works.map Z14x := ⟨_, rfl⟩;have hWl : WL.length = t.works.length := by rw [hWL]; simp
  have hTk : TL[k]? = some (.agg [I t.ready, I t.due, .sl 3 WL]) := by rw [hT]; simp [htk, hWL, Z14z]
  have hL2 : L.set (0 + k) (I (A.oi (A.len WL))) = natL (Z1ap s (k + 1)) := by
   rw [Z1bc s hk4, Z1b6 htk, u3, Nat.zero_add, yoiL hA hWl]; simp [natL]
  have hset := Zs6 hA 0 u1 hL2.symm;have hin := Z4o hA u1 hk4;have hlt := Zwm hA (l := L) 0 u1 hLl (by omega);have hf1 := Zy hA u1 (by omega);have hu1 := Zz hA u1;have hms : N - (k + 1) < N - k := by omega
  cbv;refine ⟨Z1b hA hTl u1 hk, ⟨_, Z18 hA u1 hTk, ?_⟩⟩;cbv;refine ⟨hin, hlt, hf1, ?_⟩;refine Z8 (A.add i 1, k + 1, A.set L (A.addN 0 (A.mulN (A.tn i) 1)) (I (A.oi (A.len WL)))) [0, 1, 2, 3, 4, 5, 6, 7] ⟨hu1, hk, hset⟩ hms ?_;exact ⟨by decide, Z91, ⟨rfl, rfl, rfl, rfl, rfl, rfl, rfl, Z15t _ (show frL (A.set L (A.addN 0 (A.mulN (A.tn i) 1)) (I (A.oi (A.len WL)))) = true from hset ▸ Z1c0 _), trivial⟩, ⟨rfl, rfl, rfl, rfl, rfl, rfl, rfl, rfl, trivial⟩, rfl, rfl⟩
 ·have hk := Z21 hA hTl u1 c;obtain ⟨x0, x1, x2, x3, hx⟩ : ∃ x0 x1 x2 x3 : Int, (Z1ai s).map (fun n : Nat => (n : Int)) = [x0, x1, x2, x3] := by
   obtain ⟨a0, a1, a2, a3, e⟩ := Z1bf (Z1ao hlen);exact ⟨a0, a1, a2, a3, by rw [e]; rfl⟩
  have hLx : L = [I x0, I x1, I x2, I x3] := by
   rw [u3, hNs hk];have e1 : ([I x0, I x1, I x2, I x3] : List D) = ([x0, x1, x2, x3] : List Int).map I := rfl;rw [e1, <- hx, natL, List.map_map]; rfl
  subst hLx;have hli : A.lenIs [I x0, I x1, I x2, I x3] 4 := Z1c4 hA rfl;cbv;refine Z7 ?_;cbv;refine ⟨hli, ?_⟩;refine Z26 hS (Z1a hA [6] ?_);cbv;refine Z7 ?_;refine Z4 hS [.v (.slice none 0 0), .arr [I x0, I x1, I x2, I x3], .cb z4D 0, .b 5 0, .cb (.agg [I b, .sl 3 TL]) 0, .cb (.fn 127 []) 0, .b 6 0] [0, 1, 2, 3, 4, 5, 8] (hsG b TL asg bdy bl nn mt σ0) rfl rfl rfl rfl rfl rfl rfl rfl (by decide) ⟨rfl, rfl, rfl, rfl, rfl, rfl, rfl, trivial⟩
   (Z4z (as' := [.sl 1 [], .agg [I x0, I x1, I x2, I x3], .cb z4D 0, .b 5 0, .cb (.agg [I b, .sl 3 TL]) 0, .cb (.fn 127 []) 0, .b 6 0]) ⟨WkD.nil, WkD.arrAgg rfl, .rfl, .rfl, .rfl, .rfl, .rfl, trivial⟩
    (Zyc b TL N hTl hN4 asg bdy bl nn mt ps hR (Z1cw s.tasks) (Z1ai s) [] σ0 [] (Z1b2 s) (Z1ao hlen) (by simp; omega) (fun i hi => Z1ar (by omega)) (by rw [hps, hσ0, Z1aj, hN]; simp) [] x0 x1 x2 x3 rfl hx _ fun σ' hσ' => ?_))
  have hσp : σ' = ps := by rw [hσ', hps, hσ0, Z1aj, hN]; simp
  rw [hσp];refine Z3 Z0 hA hS ?_;cbv;exact Z2 [0, 1, 2, 3, 4] (by decide) Z91 (H' := hsB 128 (.agg [I b, .sl 3 TL]) asg bdy bl nn mt ps) (d' := .tup []) ⟨rfl, rfl, rfl, rfl, rfl, trivial⟩ rfl (Z1 (hq _))
end Go.Proofs.YthljpccegkmdnaaGreatDoor.Bn
