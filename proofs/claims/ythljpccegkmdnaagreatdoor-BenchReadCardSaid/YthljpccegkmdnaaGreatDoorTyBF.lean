/- Part TyBF of the proofs about the benches of the accordion maker: see the last text of the claim for what is proved. -/
import Derived.Test.YthljpccegkmdnaaGreatDoorTyBA
import Derived.Test.YthljpccegkmdnaaGreatDoorTyBE
import Derived.Test.YthljpccegkmdnaaGreatDoorTyAP
import Derived.Test.YthljpccegkmdnaaGreatDoorTyAU
set_option linter.unusedVariables false
set_option linter.unusedSimpArgs false
set_option linter.unnecessarySimpa false
set_option linter.constructorNameAsVariable false

namespace Go.Proofs.YthljpccegkmdnaaGreatDoor.Bn
open Go Go.Abs Go.Proofs
theorem Z1c5 (l : List Sl) (L : List D) (hL : L = l.map Z14v) (hl : l.length <= 1000) (Q) (hq : ∀ lo hi, Z1ax l = (lo, hi) -> Q (RA.ret (.agg [I lo, I hi])) []) : CallA Tryz.prog 129 [.sl 7 L] [] Q :=
 Z1cc l L hL hl Q (hq _ _ rfl)
def mo1 (a : Nat) (x : Int) : Nat -> Int := fun n => if n = a then x else 0
def Z1n2 (s : Sh) (p : List Nat) (a : Nat) (x : Int) : Int := (Z1ax (runS s (mo1 a x) p)).2
def slkN (s : Sh) (p : List Nat) (e : Int) (a : Nat) : Nat -> Nat -> Nat
 | 0, n => n
 | f + 1, n => if Z1n2 s p a ((n + 1 : Nat) : Int) <= e then slkN s p e a f (n + 1) else n
theorem Z1nr (l : List Sl) : ∀ a : Int × Int, a.2 <= (l.foldl (fun a s => (max a.1 s.el, max a.2 s.eh)) a).2 /\ ∀ x ∈ l, x.eh <= (l.foldl (fun a s => (max a.1 s.el, max a.2 s.eh)) a).2 := by
 induction l with
 | nil => exact fun a => ⟨Int.le_refl _, fun x hx => by simp at hx⟩
 | cons y r ih =>
  intro a;obtain ⟨h1, h2⟩ := ih (max a.1 y.el, max a.2 y.eh);simp only [List.foldl_cons];simp only at h1;refine ⟨by omega, fun x hx => ?_⟩;rcases List.mem_cons.1 hx with rfl | hx
  ·omega
  ·exact h2 x hx
theorem Z1od {l : List Sl} {x : Sl} (h : x ∈ l) : x.eh <= (Z1ax l).2 := (Z1nr l (0, 0)).2 x h
theorem Z1mx (l : List Sl) (B : Int) (h : ∀ x ∈ l, x.eh <= B) : ∀ a : Int × Int, a.2 <= B -> (l.foldl (fun a s => (max a.1 s.el, max a.2 s.eh)) a).2 <= B := by
 induction l with
 | nil => exact fun a ha => ha
 | cons y r ih =>
  intro a ha;simp only [List.foldl_cons];refine ih (fun x hx => h x (List.mem_cons_of_mem _ hx)) _ ?_;have := h y List.mem_cons_self;simp only; omega
theorem Z1o6 {s : Sh} {p : List Nat} {mo : Nat -> Int} {M : Int} (hv : Val s) (hp : PlanLe s p) (hpl : p.length <= 8) (hM : 0 <= M) (hm : ∀ a, 0 <= mo a /\ mo a <= M) {n : Nat} (hn : n < p.length) :
  ∃ x ∈ runS s mo p, mo n <= x.eh /\ x.eh <= 200 + 8 * (20 + M) := by
 refine ⟨_, List.mem_map.2 ⟨n, List.mem_range.2 hn, rfl⟩, ?_⟩;have hpn : p[n]? = some p[n] := List.getElem?_eq_getElem hn;have hpd : p.getD n 0 = p[n] := by rw [List.getD_eq_getElem?_getD, hpn]; rfl
 have hst := Z15g (sd := true) hv hp hM hm hpn (Z166 (sd := true) hv hp hM hm n (by omega)) n;obtain ⟨h1, h2, h3, h4, h5, h6⟩ := hst;simp only [hpd];obtain ⟨w1, w2, w3, w4, w5⟩ := Z15n hv h1 (by rw [<- h2] at h3; exact h3);have he : (Z14w true s (ckAt true s mo (Z14y s) 0 p n) p[n] (mo n)).en = (Z14w true s (ckAt true s mo (Z14y s) 0 p n) p[n] (mo n)).bg + (Z150 s p[n] (Z14w true s (ckAt true s mo (Z14y s) 0 p n) p[n] (mo n)).k).hi + mo n := rfl;rw [he];have hnb : (n : Int) * (20 + M) <= 7 * (20 + M) := Int.mul_le_mul_of_nonneg_right (by omega) (by omega);have := hm n;constructor <;> omega
end Go.Proofs.YthljpccegkmdnaaGreatDoor.Bn

namespace Go.Proofs.YthljpccegkmdnaaGreatDoor.Bn
open Go Go.Abs Go.Proofs
theorem Z1oe {s : Sh} {p : List Nat} {mo : Nat -> Int} {M : Int} (hv : Val s) (hp : PlanLe s p) (hpl : p.length <= 8) (hM : 0 <= M) (hm : ∀ a, 0 <= mo a /\ mo a <= M) : ∀ x ∈ runS s mo p, x.eh <= 200 + 8 * (20 + M) := fun x hx => by
 obtain ⟨n, hn, rfl⟩ := List.mem_map.1 hx;have hn := List.mem_range.1 hn;have hpn : p[n]? = some p[n] := List.getElem?_eq_getElem hn;have hpd : p.getD n 0 = p[n] := by rw [List.getD_eq_getElem?_getD, hpn]; rfl
 obtain ⟨h1, h2, h3, h4, h5, h6⟩ := Z15g (sd := true) hv hp hM hm hpn (Z166 (sd := true) hv hp hM hm n (by omega)) n;simp only [hpd];obtain ⟨w1, w2, w3, w4, w5⟩ := Z15n hv h1 (by rw [<- h2] at h3; exact h3);have he : (Z14w true s (ckAt true s mo (Z14y s) 0 p n) p[n] (mo n)).en = (Z14w true s (ckAt true s mo (Z14y s) 0 p n) p[n] (mo n)).bg + (Z150 s p[n] (Z14w true s (ckAt true s mo (Z14y s) 0 p n) p[n] (mo n)).k).hi + mo n := rfl;rw [he];have hnb : (n : Int) * (20 + M) <= 7 * (20 + M) := Int.mul_le_mul_of_nonneg_right (by omega) (by omega);have := hm n;omega
theorem Z1ns {s : Sh} {p : List Nat} {mo : Nat -> Int} {M : Int} (hv : Val s) (hp : PlanLe s p) (hpl : p.length <= 8) (hM : 0 <= M) (hm : ∀ a, 0 <= mo a /\ mo a <= M) : (Z1ax (runS s mo p)).2 <= 200 + 8 * (20 + M) :=
 Z1mx _ _ (Z1oe hv hp hpl hM hm) _ (by simp only; omega)
theorem Z1of {s : Sh} {p : List Nat} (hv : Val s) (hp : PlanLe s p) (hpl : p.length <= 8) {a : Nat} (ha : a < p.length) {x : Int} (hx : 0 <= x) : x <= Z1n2 s p a x := by
 obtain ⟨y, h1, h2, -⟩ := Z1o6 (mo := mo1 a x) (M := x) hv hp hpl hx (fun b => by simp only [mo1]; split <;> omega) ha;simp only [mo1, if_true] at h2;exact Int.le_trans h2 (Z1od h1)
theorem xapp {A : Ar} (hA : A = ar) (l r : List D) : A.app l r = l ++ r := by subst hA; rfl
theorem yroom1 {A : Ar} (hA : A = ar) {k b : Nat} (hk : k <= 1000000) (hb : b <= 1000) : A.room (A.addN k 1) b := by
 subst hA;have : (k + 1) * b <= 1000001 * 1000 := Nat.mul_le_mul (by omega) hb;exact ⟨by show (k + 1) * b <= 140737488355328; omega, by show k + 1 <= 4611686018427387904; omega⟩
theorem yeqLen {A : Ar} (hA : A = ar) {l : List D} {n : Nat} (h : l.length = n) : A.eqN n (A.len l) := by subst hA; exact h.symm
def Z1lq (s : Sh) (p : List Nat) : List Nat := (List.range p.length).map fun a => slkN s p (Z1ax (runS s (fun _ => 0) p)).2 a 400 0
theorem Z1pp {A : Ar} (hA : A = ar) {i j : Int} {a b : Nat} (h1 : IsI i a) (h2 : IsI j b) (x : Int) : A.mget (A.mput [] [i] (I x)) [j] (I 0) = some (I (mo1 a x b)) := by
 subst hA;have e1 := h1.eq; have e2 := h2.eq;subst e1 e2
 by_cases h : b = a
 ·subst h; simp [ar, mo1]
 ·have : ¬ ((a : Int) = (b : Int)) := by omega
  simp [ar, mo1, h, this]
set_option maxRecDepth 20000 in
set_option maxHeartbeats 2000000 in
theorem Z1og (s : Sh) (hv : Val s) (p : List Nat) (hp : PlanLe s p) (hpl : p.length <= 8) (TL PL : List D) (hT : TL = s.tasks.map Z14z) (hP : PL = p.map (fun i => I (i : Nat))) (Q) (hq : ∀ L, L = (Z1lq s p).map (fun n : Nat => I (n : Int)) -> Q (RA.ret (.sl 1 L)) []) :
  CallA Tryz.prog 124 [.agg [I s.benches, .sl 3 TL, .sl 1 PL]] [] Q := by
 obtain ⟨A, hA⟩ : ∃ A, A = ar := ⟨_, rfl⟩;have hPl : PL.length = p.length := by rw [hP]; simp
 obtain ⟨RL, hRL⟩ : ∃ RL, RL = (runS s (fun _ => 0) p).map Z14v := ⟨_, rfl⟩;refine Z5 Z0 hA Tryz.func124 rfl rfl rfl rfl rfl fun S hS => ?_;cbv;refine Z4 hS [.agg [I s.benches, .sl 3 TL, .sl 1 PL], .v (.map none)] [] [] rfl rfl rfl rfl rfl rfl rfl rfl (by decide) trivial (bRun s hv p hp (by omega) TL PL hT hP _ ?_);rw [<- hRL];refine Z3 Z0 hA hS ?_;cbv;refine Z4 hS [.sl 7 RL] [] [] rfl rfl rfl rfl rfl rfl rfl rfl (by decide) trivial (Z1c5 _ RL hRL (by rw [Z16a]; omega) _ fun lo e hlh => ?_);have he : e = (Z1ax (runS s (fun _ => 0) p)).2 := by rw [hlh]
 have he2 : e <= 360 := by rw [he]; exact Z1ns (M := 0) hv hp hpl (by decide) (fun _ => ⟨by decide, by decide⟩)
 refine Z3 Z0 hA hS ?_;cbv;refine Zb hS ?_;refine Za (α := Int × Nat × List D) (fun q => { env := [(1, .b 0 0), (3, I e), (4, .o 1 1 q.2.1), (12, .sl 1 PL), (13, I (A.oi (A.len PL))), (14, I q.1)], H := [.box (.agg [I s.benches, .sl 3 TL, .sl 1 PL]), .els 1 q.2.2], nt := 36, dfs := [] })
  (fun q => p.length - q.2.1) (fun q => q.2.1 <= p.length /\ IsI q.1 q.2.1 /\ q.2.2 = ((Z1lq s p).take q.2.1).map (fun n : Nat => I (n : Int))) (0, 0, []) ⟨Nat.zero_le _, ⟨rfl⟩, rfl⟩ ?_ ?_
 ·refine Z2a 4 1 rfl ?_;exact Zf [0, 1] ⟨by decide, Z9, ⟨rfl, rfl, trivial⟩, ⟨rfl, rfl, rfl, rfl, rfl, rfl, trivial⟩, rfl, rfl⟩
 rintro ⟨i, k, L⟩ ⟨u1, u2, u3⟩;dsimp only at u1 u2 u3;refine Zi Z0 hA hS ?_;cbv
 split
 ·rename_i c
  have hk : k < p.length := Z31 hA hPl u2 c;cbv;refine Zb hS ?_;refine Za (α := Int × Nat) (fun q => { env := [(1, .b 0 0), (3, I e), (4, .o 1 1 k), (5, I i), (6, I q.1), (12, .sl 1 PL), (13, I (A.oi (A.len PL))), (14, I i)], H := [.box (.agg [I s.benches, .sl 3 TL, .sl 1 PL]), .els 1 L], nt := 36, dfs := [] })
   (fun q => 361 - q.2) (fun q => q.2 <= 360 /\ IsI q.1 q.2 /\ slkN s p e k 400 0 = slkN s p e k (400 - q.2) q.2) (0, 0) ⟨Nat.zero_le _, ⟨rfl⟩, rfl⟩ ?_ ?_
  ·exact Zf [0, 1] ⟨by decide, Z9, ⟨rfl, rfl, trivial⟩, ⟨rfl, rfl, rfl, rfl, rfl, rfl, rfl, rfl, trivial⟩, rfl, rfl⟩
  rintro ⟨x, n⟩ ⟨v1, v2, v3⟩;dsimp only at v1 v2 v3;have hsx := Zz hA v2;obtain ⟨y, hy⟩ : ∃ y, y = A.add x 1 := ⟨_, rfl⟩;rw [<- hy] at hsx;have hyb : 0 <= y /\ y <= 361 := by have := hsx.eq; omega
  have hm : ∀ a, 0 <= mo1 k y a /\ mo1 k y a <= 361 := fun a => by simp only [mo1]; split <;> omega
  have hn1 : y <= 360 -> n + 1 <= 360 := fun h => by have := hsx.eq; omega
  have hstep : Z1n2 s p k y <= e -> slkN s p e k 400 0 = slkN s p e k (400 - (n + 1)) (n + 1) := fun h => by
   have e3 : 400 - n = (400 - (n + 1)) + 1 := by omega
   rw [hsx.eq] at h;rw [v3, e3, slkN, if_pos h]
  have hfin : e < Z1n2 s p k y -> slkN s p e k 400 0 = n := fun h => by
   have e3 : 400 - n = (400 - n - 1) + 1 := by omega
   rw [hsx.eq] at h;rw [v3, e3, slkN, if_neg (by omega)]
  have hge0 := Z1of hv hp hpl hk (x := y) hyb.1;have hms : 361 - (n + 1) < 361 - n := by omega
  obtain ⟨RM, hRM⟩ : ∃ RM, RM = (runS s (mo1 k y) p).map Z14v := ⟨_, rfl⟩;refine Zi Z0 hA hS ?_;cbv;refine ⟨Zy hA v2 (by omega), ⟨[i], rfl, ?_⟩⟩;cbv;refine Z4 hS [.agg [I s.benches, .sl 3 TL, .sl 1 PL], .mv 0] [2] [.ob (.mp 0 (A.mput [] [i] (I (A.add x 1))))] rfl rfl rfl rfl rfl rfl rfl rfl (by decide) ⟨rfl, trivial⟩ (Z1pk s hv p hp (by omega) TL PL hT hP (mo1 k y) 361 (by decide) hm _ (fun a m ha hmp A' hA' => by rw [hA', <- hA, <- hy]; exact Z1pp hA u2 ha y) _ ?_);rw [<- hRM];refine Z3 Z0 hA hS ?_;cbv;refine Z4 hS [.sl 7 RM] [] [] rfl rfl rfl rfl rfl rfl rfl rfl (by decide) trivial (Z1c5 _ RM hRM (by rw [Z16a]; omega) _ fun lo2 e2 hlh2 => ?_);have he3 : Z1n2 s p k y = e2 := by rw [Z1n2, hlh2]
  refine Z3 Z0 hA hS ?_;cbv
  split
  ·rename_i c2
   have d2 := xle hA c2;rw [<- he3] at d2;cbv;refine ⟨Zy hA v2 (by omega), ?_⟩;refine Z8 (A.add x 1, n + 1) [0, 1] ⟨hn1 (Int.le_trans hge0 (Int.le_trans d2 he2)), Zz hA v2, hstep d2⟩ hms ?_;exact ⟨by decide, Z9, ⟨rfl, rfl, trivial⟩, ⟨rfl, rfl, rfl, rfl, rfl, rfl, rfl, rfl, trivial⟩, rfl, rfl⟩
  ·rename_i c2
   have d2 := Zec hA c2;rw [<- he3] at d2;have hL2 : A.app L [I x] = ((Z1lq s p).take (k + 1)).map (fun n : Nat => I (n : Int)) := by
    have e4 : (Z1lq s p)[k]? = some n := by
     rw [Z1lq, List.getElem?_map, List.getElem?_range hk]; simp only [Option.map_some, Option.some.injEq]; rw [<- he]; exact hfin d2
    rw [List.take_add_one, e4, xapp hA, u3, v2.eq]; simp
   have hLl : L.length = k := by rw [u3]; simp [Z1lq]; omega
   cbv;refine Z7 ?_;cbv;refine ⟨yeqLen hA hLl, yeqLen hA rfl, yroom1 hA (by omega) (by decide), Zy hA u2 (by omega), ?_⟩;refine Z8 (A.add i 1, k + 1, A.app L [I x]) [0, 4] ⟨hk, Zz hA u2, hL2⟩ (by simp only; omega) ?_;exact ⟨by decide, Z9, ⟨rfl, rfl, trivial⟩, ⟨rfl, rfl, by subst hA; rfl, rfl, rfl, rfl, trivial⟩, rfl, rfl⟩
 ·rename_i c
  have hk : p.length <= k := Z21 hA hPl u2 c;cbv;refine Z7 ?_;cbv;refine Z1w [1] ?_;cbv;have hLs : L = (Z1lq s p).map (fun n : Nat => I (n : Int)) := by rw [u3, List.take_of_length_le (by simp [Z1lq]; omega)]
  have hLl : L.length = k := by rw [u3]; simp [Z1lq]; omega
  exact ⟨by cases L <;> exact hLl.symm, Z2 [] (by decide) Z9 (H' := []) (d' := .sl 1 L) trivial rfl (Z1 (hq L hLs))⟩
end Go.Proofs.YthljpccegkmdnaaGreatDoor.Bn

namespace Go.Proofs.YthljpccegkmdnaaGreatDoor.Bn
open Go Go.Abs Go.Proofs
theorem Z1nt (s : Sh) (hs : ShopOk s) (p : List Nat) (hp : PlanOk s p) (TL PL : List D) (hT : TL = s.tasks.map Z14z) (hP : PL = p.map (fun i => I (i : Nat))) (Q) (hq : ∀ L, L = (Z1lq s p).map (fun n : Nat => I (n : Int)) -> Q (RA.ret (.tup [.sl 1 L, I 0])) []) :
  CallA Tryz.prog 84 [.agg [I s.benches, .sl 3 TL], .sl 1 PL] [] Q := by
 obtain ⟨A, hA⟩ : ∃ A, A = ar := ⟨_, rfl⟩;have hv := chkS_val hs.chk;have hpl : p.length <= 8 := by rw [hp.len]; have := hv.sum; omega
 refine Z5 Z0 hA Tryz.func84 rfl rfl rfl rfl rfl fun S hS => ?_;cbv;refine Z4 hS [.agg [I s.benches, .sl 3 TL], .sl 1 PL] [] [] rfl rfl rfl rfl rfl rfl rfl rfl (by decide) trivial (Z16o s hs p hp TL PL hT hP _ ?_);refine Z3 Z0 hA hS ?_;cbv
 split
 ·rename_i c
  exact absurd rfl (xne hA c)
 rename_i c
 cbv;refine Z4 hS [.agg [I s.benches, .sl 3 TL, .sl 1 PL]] [] [] rfl rfl rfl rfl rfl rfl rfl rfl (by decide) trivial (Z1og s hv p hp.le hpl TL PL hT hP _ fun L hL => ?_);refine Z3 Z0 hA hS ?_;cbv;exact Z2 [] (by decide) Z9 (H' := []) (d' := .tup [.sl 1 L, I 0]) trivial rfl (Z1 (hq L hL))
theorem bCmp (t k b bl bh el eh t' k' b' bl' bh' el' eh' : Int) (hk : 0 <= k /\ k <= 1000) (hk' : 0 <= k' /\ k' <= 1000) (Q) (hq : ∀ x, x = k - k' -> Q (RA.ret (I x)) []) :
  CallA Tryz.prog 158 [.agg [I t, I k, I b, I bl, I bh, I el, I eh], .agg [I t', I k', I b', I bl', I bh', I el', I eh']] [] Q := by
 obtain ⟨A, hA⟩ : ∃ A, A = ar := ⟨_, rfl⟩;have hf : A.fits .i64 (A.sub k k') := Z14 hA (Z24 hA k k') (by omega);have hx := Z24 hA k k';refine Z5 Z0 hA Tryz.func158 rfl rfl rfl rfl rfl fun S hS => ?_;cbv;exact ⟨hf, Z2 [] (by decide) Z9 (H' := []) (d' := I (A.sub k k')) trivial rfl (Z1 (hq _ hx))⟩
def swp (l : List Sl) (j : Nat) : List Sl :=
 match l[j]?, l[j - 1]? with
 | some x, some y => (l.set j y).set (j - 1) x
 | _, _ => l
def bub : List Sl -> Nat -> List Sl
 | l, 0 => l
 | l, j + 1 => match l[j + 1]?, l[j]? with
  | some x, some y => if x.k < y.k then bub (swp l (j + 1)) j else l
  | _, _ => l
def insS : List Sl -> Nat -> Nat -> List Sl
 | l, _, 0 => l
 | l, i, n + 1 => insS (bub l i) (i + 1) n
def Z1lr (l : List Sl) : List Sl := insS l 1 (l.length - 1)
theorem Z1ms (l : List Sl) (j : Nat) : (swp l j).length = l.length := by
 unfold swp; split <;> simp
theorem Z1mt : ∀ (j : Nat) (l : List Sl), (bub l j).length = l.length
 | 0, l => rfl
 | j + 1, l => by
  unfold bub
  split
  ·split
   ·rw [Z1mt j, Z1ms]
   ·rfl
  ·rfl
theorem Z1ot {l : List Sl} {j : Nat} {x : Sl} (h : x ∈ swp l j) : x ∈ l := by
 unfold swp at h
 split at h
 ·rename_i a b h1 h2
  rcases List.mem_or_eq_of_mem_set h with h | rfl
  ·rcases List.mem_or_eq_of_mem_set h with h | rfl
   ·exact h
   ·exact List.mem_of_getElem? h2
  ·exact List.mem_of_getElem? h1
 ·exact h
end Go.Proofs.YthljpccegkmdnaaGreatDoor.Bn

namespace Go.Proofs.YthljpccegkmdnaaGreatDoor.Bn
open Go Go.Abs Go.Proofs
theorem Z1oh {l : List Sl} {j : Nat} {x y : Sl} (h1 : l[j + 1]? = some x) (h2 : l[j]? = some y) : bub l (j + 1) = if x.k < y.k then bub (swp l (j + 1)) j else l := by
 rw [bub, h1, h2]
set_option maxRecDepth 20000 in
set_option maxHeartbeats 2000000 in
theorem bIns (l : List Sl) (hk : ∀ x ∈ l, 0 <= x.k /\ x.k <= 1000) (hl : l.length <= 1000) (n : Int) (hn : IsI n l.length) (N : Nat) (hN : N = l.length) (L : List D) (hL : L = l.map Z14v) (Q) (hq : ∀ d L', L' = (Z1lr l).map Z14v -> Q (RA.ret d) [.els 7 L']) :
  CallA Tryz.prog 212 [.o 0 7 N, I 0, I n, .fn 158 []] [.els 7 L] Q := by
 obtain ⟨A, hA⟩ : ∃ A, A = ar := ⟨_, rfl⟩;have h01 : IsI (A.add 0 1) 1 := Zz hA ⟨rfl⟩;have hf1 : A.fits .i64 (A.add 0 1) := Zy hA (k := 0) ⟨rfl⟩ (by decide);refine Z5 Z0 hA Tryz.func212 rfl rfl rfl rfl rfl fun S hS => ?_;cbv;refine ⟨hf1, ?_⟩;refine Zb hS ?_;refine Za (α := Int × Nat × List Sl × List D) (fun q => { env := [(0, .o 0 7 N), (1, I 0), (2, I n), (3, .fn 158 []), (8, I q.1)], H := [.els 7 q.2.2.2], nt := 53, dfs := [] })
  (fun q => l.length - q.2.1) (fun q => IsI q.1 q.2.1 /\ 1 <= q.2.1 /\ q.2.2.2 = q.2.2.1.map Z14v /\ q.2.2.1.length = l.length /\ (∀ x ∈ q.2.2.1, 0 <= x.k /\ x.k <= 1000) /\ Z1lr l = insS q.2.2.1 q.2.1 (l.length - q.2.1)) (A.add 0 1, 1, l, L) ⟨h01, Nat.le_refl _, hL, rfl, hk, rfl⟩ ?_ ?_
 ·exact Zf [0] ⟨by decide, Z2n, ⟨rfl, trivial⟩, ⟨rfl, rfl, rfl, rfl, rfl, trivial⟩, rfl, rfl⟩
 rintro ⟨i, k, l1, L1⟩ ⟨u1, u2, u3, u4, u5, u6⟩;dsimp only at u1 u2 u3 u4 u5 u6;refine Zi Z0 hA hS ?_;cbv
 split
 ·rename_i c
  have hkn : k < l.length := by have := xlt hA c; have := u1.eq; have := hn.eq; omega
  cbv;refine Zb hS ?_;refine Za (α := Int × Nat × List Sl × List D) (fun q => { env := [(0, .o 0 7 N), (1, I 0), (2, I n), (3, .fn 158 []), (8, I i), (9, I q.1)], H := [.els 7 q.2.2.2], nt := 53, dfs := [] })
   (fun q => q.2.1) (fun q => IsI q.1 q.2.1 /\ q.2.1 <= k /\ q.2.2.2 = q.2.2.1.map Z14v /\ q.2.2.1.length = l.length /\ (∀ x ∈ q.2.2.1, 0 <= x.k /\ x.k <= 1000) /\ bub l1 k = bub q.2.2.1 q.2.1) (i, k, l1, L1) ⟨u1, Nat.le_refl _, u3, u4, u5, rfl⟩ ?_ ?_
  ·exact Zf [0] ⟨by decide, Z2n, ⟨rfl, trivial⟩, ⟨rfl, rfl, rfl, rfl, rfl, rfl, trivial⟩, rfl, rfl⟩
  rintro ⟨j, m, l2, L2⟩ ⟨v1, v2, v3, v4, v5, v6⟩;dsimp only at v1 v2 v3 v4 v5 v6;have hz : m = 0 ∨ ∃ m', m = m' + 1 := by cases m with | zero => exact .inl rfl | succ m => exact .inr ⟨m, rfl⟩
  rcases hz with hz | ⟨m', hz⟩
  ·subst hz;have hj0 : A.cmp .gtr j 0 = false := by have := v1.eq; subst hA; simp [ar, Z25]; omega
   have hend : L2 = (bub l1 k).map Z14v /\ (bub l1 k).length = l.length /\ (∀ x ∈ bub l1 k, 0 <= x.k /\ x.k <= 1000) := by
    have e : bub l1 k = l2 := v6.trans rfl;rw [e]; exact ⟨v3, v4, v5⟩
   have hS2 : Z1lr l = insS (bub l1 k) (k + 1) (l.length - (k + 1)) := by
    rw [u6, show l.length - k = (l.length - (k + 1)) + 1 by omega, insS]
   refine Zi Z0 hA hS ?_;cbv;refine Z5j Z0 hA hS [2] [0, 1, 2, 3, 4, 5, 6, 7, 8, 9, 10, 11, 12, 13, 14, 15, 16] rfl rfl fun Dk hD => ?_;cbv;refine Z9n Z0 hA hD [] (.v (.bool false)) rfl rfl rfl rfl rfl rfl (congrArg (fun b => D.v (.bool b)) hj0) ?_;cbv;refine Zbm hA hD (f := 158) (b := false) rfl rfl rfl rfl rfl rfl rfl rfl rfl rfl rfl (fun h => Bool.noConfusion h) (fun _ => ⟨by cbv, Zx Z0 hA hD ?_⟩);cbv;refine Z7 ?_;cbv;refine ⟨Zy hA u1 (by omega), ?_⟩;refine Z8 (A.add i 1, k + 1, bub l1 k, L2) [0] ⟨Zz hA u1, by simp only; omega, hend.1, hend.2.1, hend.2.2, hS2⟩ (by simp only; omega) ?_;exact ⟨by decide, Z2n, ⟨rfl, trivial⟩, ⟨rfl, rfl, rfl, rfl, rfl, trivial⟩, rfl, rfl⟩
  ·subst hz;have hj0 : A.cmp .gtr j 0 = true := by have := v1.eq; subst hA; simp [ar, Z25]; omega
   have hlen : m' + 1 < l2.length := by omega
   obtain ⟨x, hx⟩ : ∃ x, x = l2[m' + 1] := ⟨_, rfl⟩;obtain ⟨y, hy⟩ : ∃ y, y = l2[m'] := ⟨_, rfl⟩;have hgx : l2[m' + 1]? = some x := by rw [hx]; exact List.getElem?_eq_getElem hlen
   have hgy : l2[m']? = some y := by rw [hy]; exact List.getElem?_eq_getElem (by omega)
   have hLx : L2[m' + 1]? = some (Z14v x) := by rw [v3]; simp [hgx]
   have hLy : L2[m']? = some (Z14v y) := by rw [v3]; simp [hgy]
   have hjs : IsI (A.sub j 1) m' := ⟨by rw [Z24 hA, v1.eq]; omega⟩;have hjf : A.fits .i64 (A.sub j 1) := Z14 hA (Z24 hA j 1) (by have := v1.eq; omega);have hkx := v5 x (List.mem_of_getElem? hgx);have hky := v5 y (List.mem_of_getElem? hgy);have hin1 : A.inb j N := Z4o hA v1 (by omega);have hin2 : A.inb (A.sub j 1) N := Z4o hA hjs (by omega);have hbs := Z1oh hgx hgy;refine Zi Z0 hA hS ?_;cbv;refine Z5j Z0 hA hS [2] [0, 1, 2, 3, 4, 5, 6, 7, 8, 9, 10, 11, 12, 13, 14, 15, 16] rfl rfl fun Dk hD => ?_;cbv;refine Z9n Z0 hA hD [] (.v (.bool true)) rfl rfl rfl rfl rfl rfl (congrArg (fun b => D.v (.bool b)) hj0) ?_;cbv;refine ⟨hin1, ⟨_, Z18 hA v1 hLx, ?_⟩⟩;cbv;refine ⟨hjf, hin2, ⟨_, Z18 hA hjs hLy, ?_⟩⟩;cbv;refine Zbm hA hD (b := true) rfl rfl rfl rfl rfl rfl rfl rfl rfl rfl rfl (fun _ => ⟨[], _, [Z14v x, Z14v y], [], [], rfl, rfl, rfl, by decide, trivial, bCmp _ _ _ _ _ _ _ _ _ _ _ _ _ _ hkx hky _ fun z hz => ⟨by cbv, Zx Z0 hA hD ?_⟩⟩) (fun h => absurd rfl h);cbv;refine bm (fun c2 => ?_) (fun c2 => ?_)
   ·have d2 := xlt hA c2;rw [if_pos (by omega)] at hbs;have hsw : swp l2 (m' + 1) = (l2.set (m' + 1) y).set m' x := by unfold swp; rw [hgx, Nat.add_sub_cancel, hgy]
    obtain ⟨L3, hL3⟩ : ∃ L3, L3 = L2.set (m' + 1) (Z14v y) := ⟨_, rfl⟩;obtain ⟨L4, hL4⟩ : ∃ L4, L4 = L3.set m' (Z14v x) := ⟨_, rfl⟩;have hm4 : L4 = (swp l2 (m' + 1)).map Z14v := by rw [hL4, hL3, v3, hsw]; simp
    have hset1 := Z7n (x := Z14v y) hA v1 hL3;have hset2 := Z7n (x := Z14v x) hA hjs hL4;have hg2 : A.get (A.set L2 (A.tn j) (Z14v y)) (A.tn (A.sub j 1)) = some (Z14v y) := by
     rw [hset1]; exact Z18 hA hjs (by rw [hL3, List.getElem?_set_ne (by omega)]; exact hLy)
    have hl2 : L2.length = N := by rw [v3]; simp; omega
    have hl3 : L3.length = N := by rw [hL3]; simp [hl2]
    have hlt1 : A.ltN (A.tn j) L2 := by rw [ytn hA v1]; exact xltN hA hl2 (by omega)
    have hlt2 : A.ltN (A.tn (A.sub j 1)) L3 := by rw [ytn hA hjs]; exact xltN hA hl3 (by omega)
    cbv;refine Z16 Z0 hA hS [0, 1, 2, 3, 4, 5, 6, 7, 8, 9, 10, 11, 12, 13, 14, 15, 16, 17] rfl rfl fun Dk2 hD2 => ?_;cbv;refine ⟨hjf, hjf, hin2, ⟨_, Z18 hA hjs hLy, ?_⟩⟩;cbv;refine ⟨hin1, ⟨_, Z18 hA v1 hLx, ?_⟩⟩;cbv;refine ⟨hin1, ⟨_, Z18 hA v1 hLx, ?_⟩⟩;cbv;refine ⟨hin2, ⟨_, hg2, ?_⟩⟩;cbv;refine ⟨hjf, ?_⟩;refine Z8 (A.sub j 1, m', swp l2 (m' + 1), A.set (A.set L2 (A.tn j) (Z14v y)) (A.tn (A.sub j 1)) (Z14v x)) [0] ⟨hjs, by simp only; omega, ?_, ?_, ?_, v6.trans hbs⟩ (Nat.lt_succ_self _) ?_
    ·show A.set _ _ _ = _;rw [hset1, hset2, hm4]
    ·simp only; rw [Z1ms]; exact v4
    ·exact fun z hz => v5 z (Z1ot hz)
    ·exact ⟨by decide, Z2n, ⟨rfl, trivial⟩, ⟨rfl, rfl, rfl, rfl, rfl, rfl, trivial⟩, rfl, rfl⟩
   ·have d2 := Z7x hA c2;rw [if_neg (by omega)] at hbs;have hend : L2 = (bub l1 k).map Z14v /\ (bub l1 k).length = l.length /\ (∀ x ∈ bub l1 k, 0 <= x.k /\ x.k <= 1000) := by
     have e : bub l1 k = l2 := v6.trans hbs;rw [e]; exact ⟨v3, v4, v5⟩
    have hS2 : Z1lr l = insS (bub l1 k) (k + 1) (l.length - (k + 1)) := by
     rw [u6, show l.length - k = (l.length - (k + 1)) + 1 by omega, insS]
    cbv;refine Z7 ?_;cbv;refine ⟨Zy hA u1 (by omega), ?_⟩;refine Z8 (A.add i 1, k + 1, bub l1 k, L2) [0] ⟨Zz hA u1, by simp only; omega, hend.1, hend.2.1, hend.2.2, hS2⟩ (by simp only; omega) ?_;exact ⟨by decide, Z2n, ⟨rfl, trivial⟩, ⟨rfl, rfl, rfl, rfl, rfl, trivial⟩, rfl, rfl⟩
 ·rename_i c
  have hkn : l.length <= k := by have := Z7x hA c; have := u1.eq; have := hn.eq; omega
  have hfin : L1 = (Z1lr l).map Z14v := by rw [u3, u6, show l.length - k = 0 by omega]; rfl
  cbv;refine Z7 ?_;cbv;exact Z1 (hq _ _ hfin)
end Go.Proofs.YthljpccegkmdnaaGreatDoor.Bn

namespace Go.Proofs.YthljpccegkmdnaaGreatDoor.Bn
open Go Go.Abs Go.Proofs
set_option maxRecDepth 20000 in
set_option maxHeartbeats 2000000 in
theorem Z1ou (l : List Sl) (hk : ∀ x ∈ l, 0 <= x.k /\ x.k <= 1000) (hl : l.length <= 19) (n : Int) (hn : IsI n l.length) (N : Nat) (hN : N = l.length) (L : List D) (hL : L = l.map Z14v) (Q) (hq : ∀ d L', L' = (Z1lr l).map Z14v -> Q (RA.ret d) [.els 7 L']) :
  CallA Tryz.prog 189 [.o 0 7 N, I n, .fn 158 []] [.els 7 L] Q := by
 obtain ⟨A, hA⟩ : ∃ A, A = ar := ⟨_, rfl⟩;have h1 : A.cmp .leq 20 n = false := by have := hn.eq; subst hA; simp [ar, Z25]; omega
 have h2 : A.cmp .lss 20 n = false := by have := hn.eq; subst hA; simp [ar, Z25]; omega
 refine Z5 Z0 hA Tryz.func189 rfl rfl rfl rfl rfl fun S hS => ?_;cbv;refine Zb hS ?_;refine Z16h 1 (RnA.out ?_);refine Z198 Z0 hA hS rfl ?_;cbv;refine bm (fun c => Bool.noConfusion (h1.symm.trans c)) (fun _ => ?_);cbv;refine Z4 hS [.o 0 7 N, I 0, I n, .fn 158 []] [0] [.els 7 L] rfl rfl rfl rfl rfl rfl rfl rfl (by decide) ⟨rfl, trivial⟩ (bIns l hk (by omega) n hn N hN L hL _ fun d L' hL' => ?_);refine Z3 Z0 hA hS ?_;cbv;refine Zb hS ?_;refine Z16h 1 (RnA.out ?_);refine Z198 Z0 hA hS rfl ?_;cbv;refine bm (fun c => Bool.noConfusion (h2.symm.trans c)) (fun _ => ?_);cbv;exact Z1 (hq _ _ hL')
theorem Z1pq (l : List Sl) (hk : ∀ x ∈ l, 0 <= x.k /\ x.k <= 1000) (hl : l.length <= 19) (N : Nat) (hN : N = l.length) (L : List D) (hL : L = l.map Z14v) (Q) (hq : ∀ d L', L' = (Z1lr l).map Z14v -> Q (RA.ret d) [.els 7 L']) :
  CallA Tryz.prog 157 [.o 0 7 N, .fn 158 []] [.els 7 L] Q := by
 obtain ⟨A, hA⟩ : ∃ A, A = ar := ⟨_, rfl⟩;have hn : IsI (A.oi N) l.length := ⟨by rw [xoi hA, hN]⟩;refine Z5 Z0 hA Tryz.func157 rfl rfl rfl rfl rfl fun S hS => ?_;cbv;refine Z4 hS [.o 0 7 N, I (A.oi N), .fn 158 []] [0] [.els 7 L] rfl rfl rfl rfl rfl rfl rfl rfl (by decide) ⟨rfl, trivial⟩ (Z1ou l hk hl _ hn N hN L hL _ fun d L' hL' => ?_);refine Z3 Z0 hA hS ?_;cbv;exact Z1 (hq _ _ hL')
end Go.Proofs.YthljpccegkmdnaaGreatDoor.Bn

namespace Go.Proofs.YthljpccegkmdnaaGreatDoor.Bn
open Go Go.Abs Go.Proofs
def Z1ls (x : Sl) : List Sl -> List Sl
 | [] => [x]
 | y :: r => if x.k < y.k then y :: Z1ls x r else x :: y :: r
theorem Z1lk (x : Sl) : ∀ l, (Z1ls x l).Perm (x :: l)
 | [] => .refl _
 | y :: r => by
  unfold Z1ls
  split
  ·exact ((Z1lk x r).cons y).trans (.swap x y r)
  ·exact .refl _
theorem Z1m4 (x : Sl) : ∀ l : List Sl, l.Pairwise (fun a b => b.k <= a.k) -> (Z1ls x l).Pairwise (fun a b => b.k <= a.k)
 | [], _ => by simp [Z1ls]
 | y :: r, h => by
  have h1 := List.pairwise_cons.1 h;unfold Z1ls
  split
  ·rename_i c
   refine List.pairwise_cons.2 ⟨fun z hz => ?_, Z1m4 x r h1.2⟩;rcases List.mem_cons.1 ((Z1lk x r).mem_iff.1 hz) with rfl | hz
   ·omega
   ·exact h1.1 z hz
  ·rename_i c
   refine List.pairwise_cons.2 ⟨fun z hz => ?_, h⟩;rcases List.mem_cons.1 hz with rfl | hz
   ·omega
   ·have := h1.1 z hz; omega
theorem Z1oi (x : Sl) : ∀ (q : List Sl) (suf : List Sl), bub (q.reverse ++ x :: suf) q.length = (Z1ls x q).reverse ++ suf
 | [], suf => by simp [bub, Z1ls]
 | y :: q, suf => by
  have e1 : (y :: q).reverse ++ x :: suf = q.reverse ++ y :: x :: suf := by simp
  have g1 : (q.reverse ++ y :: x :: suf)[q.length + 1]? = some x := by
   rw [List.getElem?_append_right (by simp)]; simp
  have g2 : (q.reverse ++ y :: x :: suf)[q.length]? = some y := by
   rw [List.getElem?_append_right (by simp)]; simp
  rw [e1, List.length_cons, bub, g1, g2];simp only [Z1ls]
  split
  ·have : swp (q.reverse ++ y :: x :: suf) (q.length + 1) = q.reverse ++ x :: y :: suf := by
    unfold swp;rw [g1, Nat.add_sub_cancel, g2];simp only;rw [List.set_append_right _ _ (by simp), List.set_append_right _ _ (by simp)];simp
   rw [this, Z1oi x q (y :: suf)];simp
  ·simp
theorem Z1nz : ∀ (n : Nat) (l : List Sl) (i : Nat), i + n = l.length -> (l.take i).Pairwise (fun a b => a.k <= b.k) -> (insS l i n).Perm l /\ (insS l i n).Pairwise (fun a b => a.k <= b.k)
 | 0, l, i, h, hs => by
  rw [List.take_of_length_le (by omega)] at hs;exact ⟨.refl _, hs⟩
 | n + 1, l, i, h, hs => by
  have hi : i < l.length := by omega
  have el : l = (l.take i).reverse.reverse ++ l[i] :: l.drop (i + 1) := by
   rw [List.reverse_reverse, <- List.drop_eq_getElem_cons hi, List.take_append_drop]
  have eb : bub l i = (Z1ls l[i] (l.take i).reverse).reverse ++ l.drop (i + 1) := by
   have := Z1oi l[i] (l.take i).reverse (l.drop (i + 1));rw [<- el] at this;rw [<- this]; congr 1; simp; omega
  have hp : (bub l i).Perm l := by
   rw [eb]
   conv => rhs; rw [el]
   refine ((List.reverse_perm _).trans (Z1lk _ _)).append_right _ |>.trans ?_
   refine (List.perm_middle.symm).trans ?_ |>.trans (.refl _)
   rw [List.reverse_reverse];exact ((List.reverse_perm _).append_right _)
  have hs2 : ((bub l i).take (i + 1)).Pairwise (fun a b => a.k <= b.k) := by
   rw [eb, List.take_append_of_le_length (by simp [(Z1lk _ _).length_eq]; omega), List.take_of_length_le (by simp [(Z1lk _ _).length_eq]; omega)];rw [List.pairwise_reverse];refine Z1m4 _ _ ?_;rw [List.pairwise_reverse];exact hs
  obtain ⟨r1, r2⟩ := Z1nz n (bub l i) (i + 1) (by rw [Z1mt]; omega) hs2;exact ⟨r1.trans hp, r2⟩
theorem Z1m1 (l : List Sl) : (Z1lr l).Perm l /\ (Z1lr l).Pairwise (fun a b => a.k <= b.k) := by
 unfold Z1lr
 cases l with
 | nil => exact ⟨.refl _, .nil⟩
 | cons x r => exact Z1nz _ _ 1 (by simp; omega) (by simp)
def Z2u (n : Nat) (l : List Sl) : List (Int × Int) := l.foldl (fun a x => a.set x.t.toNat (x.el, x.eh)) (List.replicate n (0, 0))
theorem Z1md (l : List Sl) : ∀ a : List (Int × Int), (l.foldl (fun a x => a.set x.t.toNat (x.el, x.eh)) a).length = a.length := by
 induction l with
 | nil => exact fun _ => rfl
 | cons x r ih => exact fun a => by rw [List.foldl_cons, ih]; simp
theorem Z1n3 (l : List Sl) (hk : l.Pairwise (fun a b => a.t = b.t -> a.k <= b.k)) (hu : ∀ a ∈ l, ∀ b ∈ l, a.t = b.t -> a.k = b.k -> a = b) (ht : ∀ a ∈ l, 0 <= a.t) {x : Sl} (hx : x ∈ l) (hm : ∀ y ∈ l, y.t = x.t -> y.k <= x.k) :
  ∀ a : List (Int × Int), x.t.toNat < a.length -> (l.foldl (fun a x => a.set x.t.toNat (x.el, x.eh)) a)[x.t.toNat]? = some (x.el, x.eh) := by
 induction l with
 | nil => simp at hx
 | cons y r ih =>
  intro a ha;have hk1 := List.pairwise_cons.1 hk;rw [List.foldl_cons]
  by_cases hr : x ∈ r
  ·exact ih hk1.2 (fun a ha b hb => hu a (List.mem_cons_of_mem _ ha) b (List.mem_cons_of_mem _ hb)) (fun a ha => ht a (List.mem_cons_of_mem _ ha)) hr (fun y hy => hm y (List.mem_cons_of_mem _ hy)) _ (by simpa using ha)
  ·have e : x = y := (List.mem_cons.1 hx).resolve_right hr;subst e;have none : ∀ z ∈ r, z.t ≠ x.t := fun z hz e => by
    have h1 := hk1.1 z hz e.symm;have h2 := hm z (List.mem_cons_of_mem _ hz) e;have := hu x List.mem_cons_self z (List.mem_cons_of_mem _ hz) e.symm (by omega);subst this; exact hr hz
   have keep : ∀ (r : List Sl) (a : List (Int × Int)), (∀ z ∈ r, z.t ≠ x.t /\ 0 <= z.t) -> (r.foldl (fun a x => a.set x.t.toNat (x.el, x.eh)) a)[x.t.toNat]? = a[x.t.toNat]? := by
    intro r
    induction r with
    | nil => exact fun _ _ => rfl
    | cons z r ih2 =>
     intro a hz;rw [List.foldl_cons, ih2 _ (fun z hz' => hz z (List.mem_cons_of_mem _ hz')), List.getElem?_set_ne];have := hz z List.mem_cons_self;have := ht x List.mem_cons_self;omega
   rw [keep r _ (fun z hz => ⟨none z hz, ht z (List.mem_cons_of_mem _ hz)⟩), List.getElem?_set_self ha]
theorem Z1mu (t : Nat) (r : List Sl) (hz : ∀ z ∈ r, z.t.toNat ≠ t) : ∀ a : List (Int × Int), (r.foldl (fun a x => a.set x.t.toNat (x.el, x.eh)) a)[t]? = a[t]? := by
 induction r with
 | nil => exact fun _ => rfl
 | cons z r ih =>
  intro a;rw [List.foldl_cons, ih (fun z hz' => hz z (List.mem_cons_of_mem _ hz')), List.getElem?_set_ne (hz z List.mem_cons_self)]
theorem Z1nd (l : List Sl) (t : Int) (h : ∃ x ∈ l, x.t = t) : ∃ x ∈ l, x.t = t /\ ∀ y ∈ l, y.t = t -> y.k <= x.k := by
 induction l with
 | nil => obtain ⟨x, hx, -⟩ := h; simp at hx
 | cons z r ih =>
  by_cases hr : ∃ x ∈ r, x.t = t
  ·obtain ⟨x, h1, h2, h3⟩ := ih hr
   by_cases hz : z.t = t /\ x.k <= z.k
   ·refine ⟨z, List.mem_cons_self, hz.1, fun y hy e => ?_⟩;rcases List.mem_cons.1 hy with rfl | hy
    ·omega
    ·have := h3 y hy e; omega
   ·refine ⟨x, List.mem_cons_of_mem _ h1, h2, fun y hy e => ?_⟩;rcases List.mem_cons.1 hy with rfl | hy
    ·have := fun h => hz ⟨e, h⟩; omega
    ·exact h3 y hy e
  ·obtain ⟨x, hx, e⟩ := h;have : x = z := (List.mem_cons.1 hx).resolve_right (fun h => hr ⟨x, h, e⟩);subst this;refine ⟨x, List.mem_cons_self, e, fun y hy e' => ?_⟩;rcases List.mem_cons.1 hy with rfl | hy
   ·omega
   ·exact absurd ⟨y, hy, e'⟩ hr
theorem Z1nu (n : Nat) (l : List Sl) (hk : l.Pairwise (fun a b => a.t = b.t -> a.k < b.k)) (ht : ∀ a ∈ l, 0 <= a.t) : Z2u n (Z1lr l) = Z2u n l := by
 obtain ⟨hp, hs⟩ := Z1m1 l;have hu : ∀ a ∈ l, ∀ b ∈ l, a.t = b.t -> a.k = b.k -> a = b := by
  have := hk
  induction l with
  | nil => intro a ha; simp at ha
  | cons z r ih =>
   have h1 := List.pairwise_cons.1 hk;have hr := ih h1.2 (fun a ha => ht a (List.mem_cons_of_mem _ ha)) (Z1m1 r).1 (Z1m1 r).2 h1.2;intro a ha b hb e1 e2;rcases List.mem_cons.1 ha with ea | ha <;> rcases List.mem_cons.1 hb with eb | hb
   ·rw [ea, eb]
   ·have := h1.1 b hb (by rw [<- ea]; exact e1); rw [<- ea] at this; omega
   ·have := h1.1 a ha (by rw [<- eb]; exact e1.symm); rw [<- eb] at this; omega
   ·exact hr a ha b hb e1 e2
 refine List.ext_getElem? fun t => ?_
 by_cases hn : t < n
 ·by_cases he : ∃ x ∈ l, x.t = (t : Int)
  ·obtain ⟨x, h1, h2, h3⟩ := Z1nd l t he;have et : x.t.toNat = t := by omega
   have r1 := Z1n3 (Z1lr l) (hs.imp (S := fun (a b : Sl) => a.t = b.t -> a.k <= b.k) fun h _ => h) (fun a ha b hb => hu a (hp.mem_iff.1 ha) b (hp.mem_iff.1 hb)) (fun a ha => ht a (hp.mem_iff.1 ha)) (hp.mem_iff.2 h1) (fun y hy e => h3 y (hp.mem_iff.1 hy) (e.trans h2)) (List.replicate n (0, 0)) (by simp; omega);have r2 := Z1n3 l (hk.imp (S := fun (a b : Sl) => a.t = b.t -> a.k <= b.k) fun h e => by have := h e; omega) hu ht h1 (fun y hy e => h3 y hy (e.trans h2)) (List.replicate n (0, 0)) (by simp; omega);rw [et] at r1 r2;exact r1.trans r2.symm
  ·have hz : ∀ z ∈ l, z.t.toNat ≠ t := fun z hz e => he ⟨z, hz, by have := ht z hz; omega⟩;unfold Z2u;rw [Z1mu t l hz, Z1mu t (Z1lr l) (fun z h => hz z (hp.mem_iff.1 h))]
 ·rw [List.getElem?_eq_none (by simp [Z2u, Z1md]; omega), List.getElem?_eq_none (by simp [Z2u, Z1md]; omega)]
end Go.Proofs.YthljpccegkmdnaaGreatDoor.Bn

namespace Go.Proofs.YthljpccegkmdnaaGreatDoor.Bn
open Go Go.Abs Go.Proofs
def Z15w (l : List Nat) : List D := l.map fun i => I (i : Nat)
end Go.Proofs.YthljpccegkmdnaaGreatDoor.Bn

namespace Go.Proofs.YthljpccegkmdnaaGreatDoor.Bn
open Go Go.Abs Go.Proofs
structure Stt where
 t : Int
 k : Int
 b : Int
 bg : Int
 en : Int
 deriving DecidableEq
def fo (c : Stt -> Bool) (a : Int) (l : List Stt) : Int := l.foldl (fun m o => if c o then max m o.en else m) a
section
variable {s : Sh} {p : List Nat}
theorem Z19i (mo : Nat -> Int) {n i : Nat} (h : p[n]? = some i) : (runS s mo p)[n]? = some ⟨i, (Z14w false s (ckAt false s mo (Z14y s) 0 p n) i (mo n)).k, (Z14w false s (ckAt false s mo (Z14y s) 0 p n) i (mo n)).b, (Z14w false s (ckAt false s mo (Z14y s) 0 p n) i (mo n)).bg, (Z14w true s (ckAt true s mo (Z14y s) 0 p n) i (mo n)).bg, (Z14w false s (ckAt false s mo (Z14y s) 0 p n) i (mo n)).en, (Z14w true s (ckAt true s mo (Z14y s) 0 p n) i (mo n)).en⟩ := by
 have hn := (List.getElem?_eq_some_iff.1 h).1;have e : p.getD n 0 = i := by rw [List.getD_eq_getElem?_getD, h]; rfl
 rw [runS, List.getElem?_map, List.getElem?_range hn, Option.map_some];simp only [e]
structure RunAt (s : Sh) (p : List Nat) (n i : Nat) (x : Sl) : Prop where
 hi : i < s.tasks.length
 t : x.t = (i : Int)
 k : x.k = (((p.take n).count i : Nat) : Int)
 kl : (p.take n).count i < (s.tasks.getD i default).works.length
 b : x.b = (Z150 s i ((p.take n).count i)).b
 bg : ∀ sd, pk sd x.bl x.bh = (Z14w sd s (ckAt sd s (fun _ => 0) (Z14y s) 0 p n) i 0).bg
 en : ∀ sd, pk sd x.el x.eh = pk sd x.bl x.bh + sel sd (Z150 s i ((p.take n).count i)).lo (Z150 s i ((p.take n).count i)).hi
 b0 : ∀ sd, 0 <= pk sd x.bl x.bh /\ pk sd x.bl x.bh <= 200 + n * 20
theorem Z164 (hv : Val s) (hp : PlanLe s p) {n i : Nat} (h : p[n]? = some i) : ∃ x, (runS s (fun _ => 0) p)[n]? = some x /\ RunAt s p n i x := by
 have st := fun (sd : Bool) => Z15g (sd := sd) (more := fun _ => (0 : Int)) (M := 0) hv hp (by omega) (fun _ => ⟨Int.le_refl _, Int.le_refl _⟩) h (Z166 (sd := sd) (more := fun _ => (0 : Int)) hv hp (by omega) (fun _ => ⟨Int.le_refl _, Int.le_refl _⟩) n (by have := (List.getElem?_eq_some_iff.1 h).1; omega)) n;have f := st false;have t := st true;refine ⟨_, Z19i _ h, f.1, rfl, by simp only; rw [f.2.1], f.2.2.1, ?_, ?_, ?_, ?_⟩
 ·show (Z150 s i _).b = _;have := f.2.1;simp only [Z14w] at this ⊢;rw [this]
 ·intro sd; cases sd <;> rfl
 ·intro sd
  cases sd
  ·have := f.2.1;simp only [pk, Z14w] at this ⊢;rw [this]; simp
  ·have := t.2.1;simp only [pk, Z14w] at this ⊢;rw [this]; simp
 ·intro sd;have e : (n : Int) * (20 + 0) = n * 20 := by simp
  cases sd
  ·have := f.2.2.2.1; have := f.2.2.2.2.1; simp only [pk]; omega
  ·have := t.2.2.2.1; have := t.2.2.2.2.1; simp only [pk]; omega
end
end Go.Proofs.YthljpccegkmdnaaGreatDoor.Bn
