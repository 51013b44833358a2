/- Part RunK of the proofs about the benches of the accordion maker: see the last text of the claim for what is proved. -/
import Derived.Test.YthljpccegkmdnaaGreatDoorRunG
import Derived.Test.YthljpccegkmdnaaGreatDoorRunJ
set_option linter.unusedVariables false
set_option linter.unusedSimpArgs false
set_option linter.unnecessarySimpa false
set_option linter.constructorNameAsVariable false

namespace Go.Proofs.YthljpccegkmdnaaGreatDoor.Bn
open Go Go.Abs Go.Proofs
structure Wk where
 b : Int
 lo : Int
 hi : Int
 deriving DecidableEq
structure Tk where
 ready : Int
 due : Int
 works : List Wk
 deriving DecidableEq
structure Sh where
 benches : Int
 tasks : List Tk
 deriving DecidableEq
def Z14x (w : Wk) : D := .agg [I w.b, I w.lo, I w.hi]
def taskD (t : Tk) : D := .agg [I t.ready, I t.due, .sl 3 (t.works.map Z14x)]
structure OkW (b : Int) (w : Wk) : Prop where
 b0 : 0 <= w.b
 b1 : w.b < b
 lo : 1 <= w.lo
 le : w.lo <= w.hi
 hi : w.hi <= 20
structure OkT (b : Int) (t : Tk) : Prop where
 r0 : 0 <= t.ready
 r1 : t.ready <= 6
 d0 : 4 <= t.due
 d1 : t.due <= 20
 w0 : 1 <= t.works.length
 w1 : t.works.length <= 3
 wk : ∀ w ∈ t.works, OkW b w
def Z1cw (l : List Tk) : Nat := (l.map (·.works.length)).sum
structure OkS (n m : Nat) (s : Sh) : Prop where
 b0 : 1 <= s.benches
 b1 : s.benches <= 3
 len : s.tasks.length <= n
 sum : Z1cw s.tasks <= m
 tk : ∀ t ∈ s.tasks, OkT s.benches t
end Go.Proofs.YthljpccegkmdnaaGreatDoor.Bn

namespace Go.Proofs.YthljpccegkmdnaaGreatDoor.Bn
open Go Go.Abs Go.Proofs
theorem Z18w (n lo hi : Int) (Q) (hq : Q (RA.ret (.v (.bool (decide (lo <= n /\ n <= hi))))) []) : CallA Tryz.prog 132 [I n, I lo, I hi] [] Q := by
 obtain ⟨A, hA⟩ : ∃ A, A = ar := ⟨_, rfl⟩;refine Z5 Z0 hA Tryz.func132 rfl rfl rfl rfl rfl fun S hS => ?_;cbv
 split
 ·rename_i h; cbv
  have h' : lo <= n := by subst hA; simpa [ar, Z25] using h
  have e : ar.cmp .leq n hi = decide (lo <= n /\ n <= hi) := by simp [ar, Z25, h']
  subst hA;rw [<- e] at hq;exact Z1 hq
 ·rename_i h; cbv
  have h' : ¬ lo <= n := by subst hA; simpa [ar, Z25] using h
  have e : decide (lo <= n /\ n <= hi) = false := by simp [h']
  rw [e] at hq;exact Z1 hq
def sel (sd : Bool) (lo hi : Int) : Int := match sd with | false => lo | true => hi
structure SideOk (f g : FuncId) (sd : Bool) : Prop where
 of : ∀ (lo hi : Int) (Q), Q (RA.ret (I (sel sd lo hi))) [] -> CallA Tryz.prog f [.agg [I lo, I hi]] [] Q
 set2 : ∀ (i : Nat) (n lo hi : Int) (es es' : List D) (Q), es[i]? = some (.agg [I lo, I hi]) -> es' = es.set i (match sd with | false => .agg [I n, I hi] | true => .agg [I lo, I n]) -> (∀ d, Q (RA.ret d) [.els 2 es']) -> CallA Tryz.prog g [.p 0 2 i 0, I n] [.els 2 es] Q
 setB : ∀ (i : Nat) (n : Int) (t k b bl bh el eh : Int) (es es' : List D) (Q), es[i]? = some (.agg [I t, I k, I b, I bl, I bh, I el, I eh]) -> es' = es.set i (match sd with | false => .agg [I t, I k, I b, I n, I bh, I el, I eh] | true => .agg [I t, I k, I b, I bl, I n, I el, I eh]) -> (∀ d, Q (RA.ret d) [.els 7 es']) -> CallA Tryz.prog g [.p 0 7 i 3, I n] [.els 7 es] Q
 setE : ∀ (i : Nat) (n : Int) (t k b bl bh el eh : Int) (es es' : List D) (Q), es[i]? = some (.agg [I t, I k, I b, I bl, I bh, I el, I eh]) -> es' = es.set i (match sd with | false => .agg [I t, I k, I b, I bl, I bh, I n, I eh] | true => .agg [I t, I k, I b, I bl, I bh, I el, I n]) -> (∀ d, Q (RA.ret d) [.els 7 es']) -> CallA Tryz.prog g [.p 0 7 i 5, I n] [.els 7 es] Q
theorem Z199 : SideOk 180 181 false := by
 refine ⟨fun lo hi Q hq => ?_, fun i n lo hi es es' Q he h' hq => ?_, fun i n t k b bl bh el eh es es' Q he h' hq => ?_, fun i n t k b bl bh el eh es es' Q he h' hq => ?_⟩
 ·obtain ⟨A, hA⟩ : ∃ A, A = ar := ⟨_, rfl⟩;refine Z5 Z0 hA Tryz.func180 rfl rfl rfl rfl rfl fun S hS => ?_;cbv;exact Z2 [] (by decide) Z9 (H' := []) (d' := I lo) trivial rfl (Z1 hq)
 all_goals
  obtain ⟨A, hA⟩ : ∃ A, A = ar := ⟨_, rfl⟩;refine Z5 Z0 hA Tryz.func181 rfl rfl rfl rfl rfl fun S hS => ?_;cbv;refine ⟨_, by subst hA; exact he, ?_⟩;cbv;subst hA;subst h';exact Z1 (hq _)
theorem Z19a : SideOk 182 183 true := by
 refine ⟨fun lo hi Q hq => ?_, fun i n lo hi es es' Q he h' hq => ?_, fun i n t k b bl bh el eh es es' Q he h' hq => ?_, fun i n t k b bl bh el eh es es' Q he h' hq => ?_⟩
 ·obtain ⟨A, hA⟩ : ∃ A, A = ar := ⟨_, rfl⟩;refine Z5 Z0 hA Tryz.func182 rfl rfl rfl rfl rfl fun S hS => ?_;cbv;exact Z2 [] (by decide) Z9 (H' := []) (d' := I hi) trivial rfl (Z1 hq)
 all_goals
  obtain ⟨A, hA⟩ : ∃ A, A = ar := ⟨_, rfl⟩;refine Z5 Z0 hA Tryz.func183 rfl rfl rfl rfl rfl fun S hS => ?_;cbv;refine ⟨_, by subst hA; exact he, ?_⟩;cbv;subst hA;subst h';exact Z1 (hq _)
theorem Z19b (Q) (hq : Q (RA.ret (.sl 2 [.agg [.fn 180 [], .fn 181 []], .agg [.fn 182 [], .fn 183 []]])) []) : CallA Tryz.prog 153 [] [] Q := by
 obtain ⟨A, hA⟩ : ∃ A, A = ar := ⟨_, rfl⟩;refine Z5 Z0 hA Tryz.func153 rfl rfl rfl rfl rfl fun S hS => ?_;cbv;subst hA;refine Z1w [0] ?_;simp only [fzG, fzH, Z7a, Z1m];exact ⟨rfl, Z2 [] (by decide) Z9 (H' := []) (d' := .sl 2 [.agg [.fn 180 [], .fn 181 []], .agg [.fn 182 [], .fn 183 []]]) trivial rfl (Z1 hq)⟩
end Go.Proofs.YthljpccegkmdnaaGreatDoor.Bn

namespace Go.Proofs.YthljpccegkmdnaaGreatDoor.Bn
open Go Go.Abs Go.Proofs
structure Sl where
 t : Int
 k : Int
 b : Int
 bl : Int
 bh : Int
 el : Int
 eh : Int
 deriving DecidableEq
def Z14v (x : Sl) : D := .agg [I x.t, I x.k, I x.b, I x.bl, I x.bh, I x.el, I x.eh]
structure Ck where
 bn : List Int
 tk : List Int
 dn : List Nat
instance : Inhabited Wk := ⟨⟨0, 0, 0⟩⟩
instance : Inhabited Tk := ⟨⟨0, 0, []⟩⟩
structure Wr where
 k : Nat
 b : Int
 bg : Int
 en : Int
def Z150 (s : Sh) (i k : Nat) : Wk := (s.tasks.getD i default).works.getD k default
def Z14w (sd : Bool) (s : Sh) (c : Ck) (i : Nat) (more : Int) : Wr :=
 let k := c.dn.getD i 0
 let w := Z150 s i k
 let bg := max (c.tk.getD i 0) (c.bn.getD w.b.toNat 0)
 ⟨k, w.b, bg, bg + sel sd w.lo w.hi + more⟩
def Z15i (c : Ck) (i : Nat) (r : Wr) : Ck := ⟨c.bn.set r.b.toNat r.en, c.tk.set i r.en, c.dn.set i (r.k + 1)⟩
def pad4 (l : List Int) : List Int := l ++ List.replicate (4 - l.length) 0
def Z14y (s : Sh) : Ck := ⟨[0, 0, 0], pad4 (s.tasks.map (·.ready)), [0, 0, 0, 0]⟩
def ckAt (sd : Bool) (s : Sh) (more : Nat -> Int) : Ck -> Nat -> List Nat -> Nat -> Ck
 | c, _, _, 0 => c
 | c, _, [], _ => c
 | c, a, i :: p, n + 1 => ckAt sd s more (Z15i c i (Z14w sd s c i (more a))) (a + 1) p n
theorem Z15e (sd s more) : ∀ (p : List Nat) c a n i, p[n]? = some i -> ckAt sd s more c a p (n + 1) = Z15i (ckAt sd s more c a p n) i (Z14w sd s (ckAt sd s more c a p n) i (more (a + n)))
 | [], _, _, _, _, h => by simp at h
 | j :: p, c, a, 0, i, h => by simp at h; subst h; simp [ckAt]
 | j :: p, c, a, n + 1, i, h => by
  have := Z15e sd s more p (Z15i c j (Z14w sd s c j (more a))) (a + 1) n i (by simpa using h);rw [ckAt, this, show a + 1 + n = a + (n + 1) by omega];simp only [ckAt]
structure Val (s : Sh) : Prop where
 b0 : 1 <= s.benches
 b1 : s.benches <= 3
 len : s.tasks.length <= 4
 rd : ∀ t ∈ s.tasks, 0 <= t.ready /\ t.ready <= 200
 du : ∀ t ∈ s.tasks, 0 <= t.due /\ t.due <= 200
 ne : ∀ t ∈ s.tasks, t.works ≠ []
 wk : ∀ t ∈ s.tasks, ∀ w ∈ t.works, 0 <= w.b /\ w.b < s.benches /\ 1 <= w.lo /\ w.lo <= w.hi /\ w.hi <= 20
 sum : Z1cw s.tasks <= 8
structure PlanLe (s : Sh) (p : List Nat) : Prop where
 lt : ∀ i ∈ p, i < s.tasks.length
 cnt : ∀ i, i < s.tasks.length -> p.count i <= (s.tasks.getD i default).works.length
structure CkOk (s : Sh) (M : Int) (c : Ck) (p : List Nat) : Prop where
 bn : c.bn.length = 3
 tk : c.tk.length = 4
 dn : c.dn.length = 4
 dc : ∀ i, i < 4 -> c.dn.getD i 0 = p.count i
 b0 : ∀ x ∈ c.bn, 0 <= x /\ x <= 200 + p.length * (20 + M)
 t0 : ∀ x ∈ c.tk, 0 <= x /\ x <= 200 + p.length * (20 + M)
end Go.Proofs.YthljpccegkmdnaaGreatDoor.Bn

namespace Go.Proofs.YthljpccegkmdnaaGreatDoor.Bn
open Go Go.Abs Go.Proofs
def pk (sd : Bool) (x y : Int) : Int := match sd with | false => x | true => y
theorem Z15f {α : Type} (l : List α) (i j : Nat) (x d : α) (h : i < l.length) : (l.set i x).getD j d = if j = i then x else l.getD j d := by
 simp only [List.getD_eq_getElem?_getD, List.getElem?_set]
 by_cases e : i = j
 ·subst e; simp [h]
 ·rw [if_neg e, if_neg (fun h => e h.symm)]
theorem Z1am {α : Type} {l : List α} {i : Nat} {d : α} (h : i < l.length) : l.getD i d ∈ l := by
 simp only [List.getD_eq_getElem?_getD, List.getElem?_eq_getElem h, Option.getD_some]; exact List.getElem_mem h
theorem Z154 {p : List Nat} {n i : Nat} (h : p[n]? = some i) (j : Nat) : (p.take (n + 1)).count j = (p.take n).count j + if j = i then 1 else 0 := by
 rw [List.take_add_one, h, List.count_append]
 by_cases e : j = i
 ·subst e; simp
 ·rw [if_neg e, Nat.add_left_cancel_iff]; exact List.count_eq_zero.2 (by simpa using e)
section
variable {s : Sh} {p : List Nat} {sd : Bool} {more : Nat -> Int} {M : Int}
theorem Z15n (hv : Val s) {i k : Nat} (hi : i < s.tasks.length) (hk : k < (s.tasks.getD i default).works.length) :
  0 <= (Z150 s i k).b /\ (Z150 s i k).b < s.benches /\ 1 <= (Z150 s i k).lo /\ (Z150 s i k).lo <= (Z150 s i k).hi /\ (Z150 s i k).hi <= 20 :=
 hv.wk _ (Z1am hi) _ (Z1am hk)
theorem Z18x (hv : Val s) (hM : 0 <= M) : CkOk s M (Z14y s) [] := by
 refine ⟨rfl, ?_, rfl, fun i hi => ?_, fun x hx => ?_, fun x hx => ?_⟩
 ·have := hv.len; simp [Z14y, pad4]; omega
 ·match i, hi with
  | 0, _ => rfl
  | 1, _ => rfl
  | 2, _ => rfl
  | 3, _ => rfl
 ·simp [Z14y] at hx; subst hx; simp
 ·simp only [Z14y, pad4, List.mem_append, List.mem_map, List.mem_replicate] at hx;rcases hx with ⟨t, ht, rfl⟩ | ⟨-, rfl⟩
  ·have := hv.rd t ht; simp; omega
  ·simp
theorem Z15g (hv : Val s) (hp : PlanLe s p) (hM : 0 <= M) (hm : ∀ a, 0 <= more a /\ more a <= M) {n i : Nat} (h : p[n]? = some i) {c : Ck} (hc : CkOk s M c (p.take n)) (a : Nat) :
  i < s.tasks.length /\ (Z14w sd s c i (more a)).k = (p.take n).count i /\ (p.take n).count i < (s.tasks.getD i default).works.length /\ 0 <= (Z14w sd s c i (more a)).bg /\ (Z14w sd s c i (more a)).bg <= 200 + n * (20 + M) /\
   CkOk s M (Z15i c i (Z14w sd s c i (more a))) (p.take (n + 1)) := by
 have hn := (List.getElem?_eq_some_iff.1 h).1;have hi : i < s.tasks.length := hp.lt i (List.mem_of_getElem? h);have hlen := hv.len;have hk : c.dn.getD i 0 = (p.take n).count i := hc.dc i (by omega);have hlt : (p.take n).count i < (s.tasks.getD i default).works.length := by
  have h1 := Z154 h i;rw [if_pos rfl] at h1;have h2 : (p.take (n + 1)).count i <= p.count i := (List.take_sublist _ _).count_le i;have := hp.cnt i hi;omega
 obtain ⟨w1, w2, w3, w4, w5⟩ := Z15n hv hi hlt;have hb := hv.b1;have htl : (p.take n).length = n := by simp; omega
 have htl2 : (p.take (n + 1)).length = n + 1 := by simp; omega
 have e1 := hc.t0 (c.tk.getD i 0) (Z1am (by rw [hc.tk]; omega));have e2 := hc.b0 (c.bn.getD (Z150 s i ((p.take n).count i)).b.toNat 0) (Z1am (by rw [hc.bn]; omega));rw [htl] at e1 e2;have hM20 : (0 : Int) <= n * (20 + M) := Int.mul_nonneg (by omega) (by omega);have hbg : (Z14w sd s c i (more a)).bg = max (c.tk.getD i 0) (c.bn.getD (Z150 s i ((p.take n).count i)).b.toNat 0) := by simp only [Z14w, hk]
 have b1 : 0 <= (Z14w sd s c i (more a)).bg := by rw [hbg]; omega
 have b2 : (Z14w sd s c i (more a)).bg <= 200 + n * (20 + M) := by rw [hbg]; omega
 have hen : (Z14w sd s c i (more a)).en = (Z14w sd s c i (more a)).bg + sel sd (Z150 s i ((p.take n).count i)).lo (Z150 s i ((p.take n).count i)).hi + more a := by simp only [Z14w, hk]
 have hsel : 0 <= sel sd (Z150 s i ((p.take n).count i)).lo (Z150 s i ((p.take n).count i)).hi /\ sel sd (Z150 s i ((p.take n).count i)).lo (Z150 s i ((p.take n).count i)).hi <= 20 := by cases sd <;> simp only [sel] <;> omega
 have hma := hm a;have hnm : ((n + 1 : Nat) : Int) * (20 + M) = n * (20 + M) + (20 + M) := by rw [Int.natCast_add, Int.add_mul]; simp
 have hen2 : 0 <= (Z14w sd s c i (more a)).en /\ (Z14w sd s c i (more a)).en <= 200 + ((n + 1 : Nat) : Int) * (20 + M) := by rw [hen, hnm]; omega
 refine ⟨hi, by simp only [Z14w, hk], hlt, b1, b2, by simp [Z15i, hc.bn], by simp [Z15i, hc.tk], by simp [Z15i, hc.dn], fun j hj => ?_, fun x hx => ?_, fun x hx => ?_⟩
 ·simp only [Z15i];rw [Z15f _ _ _ _ _ (by rw [hc.dn]; omega), Z154 h j]
  split
  ·rename_i e; subst e; simp only [Z14w, hk]
  ·rw [hc.dc j hj]; rfl
 ·rw [htl2];rcases List.mem_or_eq_of_mem_set hx with hx | rfl
  ·have := hc.b0 x hx; rw [htl] at this; omega
  ·exact hen2
 ·rw [htl2];rcases List.mem_or_eq_of_mem_set hx with hx | rfl
  ·have := hc.t0 x hx; rw [htl] at this; omega
  ·exact hen2
theorem Z166 (hv : Val s) (hp : PlanLe s p) (hM : 0 <= M) (hm : ∀ a, 0 <= more a /\ more a <= M) : ∀ n, n <= p.length -> CkOk s M (ckAt sd s more (Z14y s) 0 p n) (p.take n)
 | 0, _ => by simpa [ckAt] using Z18x hv hM
 | n + 1, h => by
  have hn : p[n]? = some p[n] := List.getElem?_eq_getElem (by omega);have := Z15g (sd := sd) hv hp hM hm hn (Z166 hv hp hM hm n (by omega)) (0 + n);rw [Z15e sd s more p _ _ _ _ hn];exact this.2.2.2.2.2
end
def runS (s : Sh) (more : Nat -> Int) (p : List Nat) : List Sl :=
 (List.range p.length).map fun n =>
  let i := p.getD n 0
  let a := Z14w false s (ckAt false s more (Z14y s) 0 p n) i (more n)
  let b := Z14w true s (ckAt true s more (Z14y s) 0 p n) i (more n)
  ⟨i, a.k, a.b, a.bg, b.bg, a.en, b.en⟩
def slAt (s : Sh) (more : Nat -> Int) (p : List Nat) (sd : Bool) (k n : Nat) : Sl :=
 let i := p.getD n 0
 let a := Z14w false s (ckAt false s more (Z14y s) 0 p n) i (more n)
 let b := Z14w true s (ckAt true s more (Z14y s) 0 p n) i (more n)
 match sd, decide (n < k) with
 | false, false => ⟨0, 0, 0, 0, 0, 0, 0⟩
 | false, true => ⟨i, a.k, a.b, a.bg, 0, a.en, 0⟩
 | true, false => ⟨i, a.k, a.b, a.bg, 0, a.en, 0⟩
 | true, true => ⟨i, a.k, a.b, a.bg, b.bg, a.en, b.en⟩
def ckD (c : Ck) : List D := (c.bn ++ c.tk ++ c.dn.map (fun n : Nat => (n : Int))).map I
theorem Z160 (c : Ck) : frL (ckD c) = true := Z30.2 fun d hd => by
 simp only [ckD, List.mem_map] at hd;obtain ⟨x, -, rfl⟩ := hd;rfl
theorem Z19d {c : Ck} (h1 : c.bn.length = 3) (h2 : c.tk.length = 4) {i : Nat} (h : i < c.dn.length) : (ckD c)[7 + i]? = some (I (c.dn.getD i 0 : Nat)) := by
 obtain ⟨bn, tk, dn⟩ := c
 match bn, tk, h1, h2 with
 | [b0, b1, b2], [t0, t1, t2, t3], _, _ =>
  simp only [ckD, List.cons_append, List.nil_append, List.map_cons];rw [Nat.add_comm];simp only [List.getElem?_cons_succ];simp only at h;simp [List.getElem?_map, List.getElem?_eq_getElem h]
theorem Z19e {c : Ck} (h1 : c.bn.length = 3) {i : Nat} (h : i < c.tk.length) : (ckD c)[3 + i]? = some (I (c.tk.getD i 0)) := by
 obtain ⟨bn, tk, dn⟩ := c
 match bn, h1 with
 | [b0, b1, b2], _ =>
  simp only [ckD, List.cons_append, List.nil_append, List.map_cons];rw [Nat.add_comm];simp only [List.getElem?_cons_succ];simp only at h;simp [List.getElem?_map, List.getElem?_append, h]
theorem Z19f {c : Ck} {i : Nat} (h : i < c.bn.length) : (ckD c)[i]? = some (I (c.bn.getD i 0)) := by
 obtain ⟨bn, tk, dn⟩ := c;simp only [ckD];simp only at h;simp only [List.append_assoc, List.getElem?_map, List.getElem?_append, h, if_true, List.getElem?_eq_getElem h, Option.map_some, List.getD_eq_getElem?_getD, Option.getD_some]
theorem Z18a {c : Ck} (h1 : c.bn.length = 3) (h2 : c.tk.length = 4) (h3 : c.dn.length = 4) {i b : Nat} (hi : i < 4) (hb : b < 3) (x y : Int) (k : Nat) :
  (((ckD c).set (3 + i) (I x)).set b (I y)).set (7 + i) (I (k : Nat)) = ckD ⟨c.bn.set b y, c.tk.set i x, c.dn.set i k⟩ := by
 obtain ⟨bn, tk, dn⟩ := c
 match bn, tk, dn, h1, h2, h3 with
 | [b0, b1, b2], [t0, t1, t2, t3], [d0, d1, d2, d3], _, _, _ =>
  match i, hi, b, hb with
  | 0, _, 0, _ => rfl
  | 1, _, 0, _ => rfl
  | 2, _, 0, _ => rfl
  | 3, _, 0, _ => rfl
  | 0, _, 1, _ => rfl
  | 1, _, 1, _ => rfl
  | 2, _, 1, _ => rfl
  | 3, _, 1, _ => rfl
  | 0, _, 2, _ => rfl
  | 1, _, 2, _ => rfl
  | 2, _, 2, _ => rfl
  | 3, _, 2, _ => rfl
section
variable {s : Sh} {p : List Nat} {sd : Bool} {more : Nat -> Int} {M : Int}
theorem Z18y (hv : Val s) (hp : PlanLe s p) (hM : 0 <= M) (hm : ∀ a, 0 <= more a /\ more a <= M) {n i kN : Nat} (h : p[n]? = some i) (hk : kN = (p.take n).count i) {w : Wk} (hw : w = Z150 s i kN) {o : Sl} (ho : o = slAt s more p sd n n)
  {r : Wr} (hr : r = Z14w sd s (ckAt sd s more (Z14y s) 0 p n) i (more n)) :
  slAt s more p sd (n + 1) n = ⟨i, kN, w.b, pk sd r.bg o.bl, pk sd o.bh r.bg, pk sd r.en o.el, pk sd o.eh r.en⟩ := by
 have hn := (List.getElem?_eq_some_iff.1 h).1;have h1 := (Z15g (sd := false) hv hp hM hm h (Z166 (sd := false) hv hp hM hm n (by omega)) n).2.1;have h2 : (Z14w false s (ckAt false s more (Z14y s) 0 p n) i (more n)).b = w.b := by
  have e : (ckAt false s more (Z14y s) 0 p n).dn.getD i 0 = (p.take n).count i := h1;simp only [Z14w, e, <- hk, <- hw]
 have hpd : p.getD n 0 = i := by rw [List.getD_eq_getElem?_getD, h]; rfl
 subst hk;have d1 : decide (n < n + 1) = true := by simp
 have d2 : decide (n < n) = false := by simp
 cases sd <;> simp only [slAt, d1, d2, ho, hpd, h1, h2, hr, pk]
theorem Z179 {n m : Nat} (h : m ≠ n) : slAt s more p sd (n + 1) m = slAt s more p sd n m := by
 have : decide (m < n + 1) = decide (m < n) := by rw [decide_eq_decide]; omega
 simp only [slAt, this]
end
theorem SideOk.sB {f g : FuncId} {sd : Bool} (h : SideOk f g sd) (i : Nat) (n : Int) (t k b bl bh el eh bl1 bh1 : Int) (es es' : List D) (Q) (he : es[i]? = some (.agg [I t, I k, I b, I bl, I bh, I el, I eh])) (h1 : bl1 = pk sd n bl) (h2 : bh1 = pk sd bh n)
  (h' : es' = es.set i (.agg [I t, I k, I b, I bl1, I bh1, I el, I eh])) (hq : ∀ d, Q (RA.ret d) [.els 7 es']) : CallA Tryz.prog g [.p 0 7 i 3, I n] [.els 7 es] Q :=
 h.setB i n t k b bl bh el eh es es' Q he (by subst h1 h2 h'; cases sd <;> rfl) hq
theorem SideOk.sE {f g : FuncId} {sd : Bool} (h : SideOk f g sd) (i : Nat) (n : Int) (t k b bl bh el eh el1 eh1 : Int) (es es' : List D) (Q) (he : es[i]? = some (.agg [I t, I k, I b, I bl, I bh, I el, I eh])) (h1 : el1 = pk sd n el) (h2 : eh1 = pk sd eh n)
  (h' : es' = es.set i (.agg [I t, I k, I b, I bl, I bh, I el1, I eh1])) (hq : ∀ d, Q (RA.ret d) [.els 7 es']) : CallA Tryz.prog g [.p 0 7 i 5, I n] [.els 7 es] Q :=
 h.setE i n t k b bl bh el eh es es' Q he (by subst h1 h2 h'; cases sd <;> rfl) hq
theorem Z17k (l : List Int) (x : Int) (h : l.length < 4) : (ckD ⟨[0, 0, 0], pad4 l, [0, 0, 0, 0]⟩).set (3 + l.length) (I x) = ckD ⟨[0, 0, 0], pad4 (l ++ [x]), [0, 0, 0, 0]⟩ := by
 match l, h with
 | [], _ => rfl
 | [_], _ => rfl
 | [_, _], _ => rfl
 | [_, _, _], _ => rfl
structure SF (s : Sh) (p : List Nat) (sd : Bool) (mo : Nat -> Int) (n pi kN wb : Nat) (t : Tk) (w : Wk) (tk bn sv : Int) : Prop where
 pn : p[n]? = some pi
 p4 : pi < 4
 pt : pi < s.tasks.length
 tt : s.tasks[pi]? = some t
 kw : kN < t.works.length
 kl : kN <= n
 ww : t.works[kN]? = some w
 dn : (ckD (ckAt sd s mo (Z14y s) 0 p n))[7 + pi]? = some (I (kN : Nat))
 tkv : (ckD (ckAt sd s mo (Z14y s) 0 p n))[3 + pi]? = some (I tk)
 wbi : IsI w.b wb
 wb3 : wb < 3
 bnv : (ckD (ckAt sd s mo (Z14y s) 0 p n))[0 + wb]? = some (I bn)
 tkb : Btw 0 tk 100000
 bnb : Btw 0 bn 100000
 svb : Btw 0 sv 20
 sve : sv = sel sd w.lo w.hi
 nx : ∀ y, y = max tk bn + sv + mo n -> ckD (ckAt sd s mo (Z14y s) 0 p (n + 1)) = (((ckD (ckAt sd s mo (Z14y s) 0 p n)).set (3 + pi) (I y)).set (0 + wb) (I y)).set (7 + pi) (I ((kN + 1 : Nat) : Int))
 sl : ∀ x y o, x = max tk bn -> y = x + sv + mo n -> o = slAt s mo p sd n n -> slAt s mo p sd (n + 1) n = ⟨pi, kN, w.b, pk sd x o.bl, pk sd o.bh x, pk sd y o.el, pk sd o.eh y⟩
theorem Z16i {s : Sh} {p : List Nat} {sd : Bool} {mo : Nat -> Int} {M : Int} (hv : Val s) (hp : PlanLe s p) (hM : 0 <= M /\ M <= 1000) (hm : ∀ a, 0 <= mo a /\ mo a <= M) (hpl : p.length <= 20) {n : Nat} (hn : n < p.length) :
  ∃ pi kN wb t w tk bn sv, SF s p sd mo n pi kN wb t w tk bn sv := by
 obtain ⟨pi, hpi⟩ : ∃ pi, pi = p[n] := ⟨_, rfl⟩;have hpn : p[n]? = some pi := by rw [hpi]; exact List.getElem?_eq_getElem hn
 have hc := Z166 (sd := sd) (more := mo) (M := M) hv hp hM.1 hm n (by omega);obtain ⟨hi, hk1, hk2, hb0, hb1, hcn⟩ := Z15g (sd := sd) (more := mo) (M := M) hv hp hM.1 hm hpn hc n;obtain ⟨c0, hc0⟩ : ∃ c0, c0 = ckAt sd s mo (Z14y s) 0 p n := ⟨_, rfl⟩;have hlen4 := hv.len;have hb3 := hv.b1;obtain ⟨kN, hkN⟩ : ∃ x : Nat, x = (p.take n).count pi := ⟨_, rfl⟩;rw [<- hkN] at hk1 hk2;have hd0 : c0.dn.getD pi 0 = kN := by rw [hc0]; exact (hc.dc pi (by omega)).trans hkN.symm
 obtain ⟨t, ht⟩ : ∃ t, t = s.tasks.getD pi default := ⟨_, rfl⟩;have htt : s.tasks[pi]? = some t := by rw [ht, List.getD_eq_getElem?_getD, List.getElem?_eq_getElem hi]; rfl
 rw [<- ht] at hk2;obtain ⟨w, hw⟩ : ∃ w, w = Z150 s pi kN := ⟨_, rfl⟩;have hww : t.works[kN]? = some w := by rw [hw, Z150, <- ht, List.getD_eq_getElem?_getD, List.getElem?_eq_getElem hk2]; rfl
 obtain ⟨w1, w2, w3, w4, w5⟩ := Z15n hv hi (by rw [<- ht]; exact hk2);rw [<- hw] at w1 w2 w3 w4 w5;rw [<- hc0] at hc;have hnb : (n : Int) * (20 + M) <= 20 * (20 + M) := Int.mul_le_mul_of_nonneg_right (by omega) (by omega);have tl : (p.take n).length = n := by simp; omega
 have e1 := hc.t0 (c0.tk.getD pi 0) (Z1am (by rw [hc.tk]; omega));have e2 := hc.b0 (c0.bn.getD w.b.toNat 0) (Z1am (by rw [hc.bn]; omega));rw [tl] at e1 e2;have hr : Z14w sd s c0 pi (mo n) = ⟨kN, w.b, max (c0.tk.getD pi 0) (c0.bn.getD w.b.toNat 0), max (c0.tk.getD pi 0) (c0.bn.getD w.b.toNat 0) + sel sd w.lo w.hi + mo n⟩ := by
  simp only [Z14w, hd0, <- hw]
 refine ⟨pi, kN, w.b.toNat, t, w, c0.tk.getD pi 0, c0.bn.getD w.b.toNat 0, sel sd w.lo w.hi, hpn, by omega, hi, htt, hk2, hkN ▸ (Nat.le_trans List.count_le_length (by simp; omega)), hww, ?_, ?_, ⟨by omega⟩, by omega, ?_, ⟨by omega, by omega⟩, ⟨by omega, by omega⟩, ?_, rfl, fun y hy => ?_, fun x y o hx hy ho => ?_⟩
 ·rw [<- hc0, Z19d hc.bn hc.tk (by rw [hc.dn]; omega), hd0]
 ·rw [<- hc0, Z19e hc.bn (by rw [hc.tk]; omega)]
 ·rw [<- hc0, Nat.zero_add, Z19f (by rw [hc.bn]; omega)]
 ·cases sd <;> simp only [sel] <;> exact ⟨by omega, by omega⟩
 ·rw [Z15e sd s mo p _ _ _ _ hpn, <- hc0, Nat.zero_add, Nat.zero_add, Z18a hc.bn hc.tk hc.dn (by omega) (by omega), Z15i, hr, <- hy]
 ·have := Z18y (sd := sd) hv hp hM.1 hm hpn hkN hw ho rfl;rw [this, <- hc0, hr, <- hx, <- hy]
theorem Z17a {A : Ar} (hA : A = ar) {L L' : List D} {i j : Int} {a b : Nat} {x y z : D} (ea : IsI i a) (eb : IsI j b) (h : L' = ((L.set (3 + a) x).set (0 + b) y).set (7 + a) z) (ρ : Nat -> Nat) (hf : frL L' = true) :
  some (Blk.box (D.arr (A.set (A.set (A.set L (A.addN 3 (A.mulN (A.tn i) 1)) x) (A.addN 0 (A.mulN (A.tn j) 1)) y) (A.addN 7 (A.mulN (A.tn i) 1)) z))) = some (Z68 ρ (Blk.box (D.arr L'))) := by
 rw [Zwl hA 3 ea, Zwl hA 0 eb, Zwl hA 7 ea, xset hA, xset hA, xset hA, <- h]; exact Z15t ρ hf
end Go.Proofs.YthljpccegkmdnaaGreatDoor.Bn

namespace Go.Proofs.YthljpccegkmdnaaGreatDoor.Bn
open Go Go.Abs Go.Proofs
def swpB (l : List Sl) (j : Nat) : List Sl :=
 match l[j]?, l[j - 1]? with
 | some x, some y => (l.set j y).set (j - 1) x
 | _, _ => l
def bubB : List Sl -> Nat -> List Sl
 | l, 0 => l
 | l, j + 1 => match l[j + 1]?, l[j]? with
  | some x, some y => if x.bh < y.bh then bubB (swpB l (j + 1)) j else l
  | _, _ => l
def insB : List Sl -> Nat -> Nat -> List Sl
 | l, _, 0 => l
 | l, i, n + 1 => insB (bubB l i) (i + 1) n
def sortB (l : List Sl) : List Sl := insB l 1 (l.length - 1)
theorem Z167 (l : List Sl) (j : Nat) : (swpB l j).length = l.length := by
 unfold swpB; split <;> simp
theorem Z16e {l : List Sl} {j : Nat} {x y : Sl} (hx : l[j + 1]? = some x) (hy : l[j]? = some y) : ∃ A B, l = A ++ y :: x :: B /\ A.length = j /\ swpB l (j + 1) = A ++ x :: y :: B := by
 obtain ⟨h1, e1⟩ := List.getElem?_eq_some_iff.1 hx;obtain ⟨h0, e0⟩ := List.getElem?_eq_some_iff.1 hy;refine ⟨l.take j, l.drop (j + 2), ?_, by rw [List.length_take]; omega, ?_⟩
 ·conv => lhs; rw [<- List.take_append_drop j l]
  rw [List.drop_eq_getElem_cons h0, e0, List.drop_eq_getElem_cons h1, e1]
 ·unfold swpB;rw [hx, Nat.add_sub_cancel, hy];dsimp only;refine List.ext_getElem? fun i => ?_;have hl : (l.take j).length = j := by rw [List.length_take]; omega
  rw [List.getElem?_set, List.getElem?_set, List.length_set]
  by_cases e : j = i
  ·subst e;rw [if_pos rfl, if_pos h0, List.getElem?_append_right (by omega), hl, Nat.sub_self]; rfl
  ·rw [if_neg e]
   by_cases e2 : j + 1 = i
   ·subst e2;rw [if_pos rfl, if_pos h1, List.getElem?_append_right (by omega), hl, show j + 1 - j = 1 by omega]; rfl
   ·rw [if_neg e2]
    by_cases h : i < j
    ·rw [List.getElem?_append_left (by omega), List.getElem?_take, if_pos h]
    ·rw [List.getElem?_append_right (by omega), hl, show i - j = (i - (j + 2)) + 2 by omega];simp only [List.getElem?_cons_succ, List.getElem?_drop]
     congr 1; omega
theorem Z16w (l : List Sl) (j : Nat) : (swpB l (j + 1)).Perm l := by
 by_cases h : j + 1 < l.length
 ·obtain ⟨A, B, e1, -, e2⟩ := Z16e (List.getElem?_eq_getElem h) (List.getElem?_eq_getElem (show j < l.length by omega));rw [e2]
  conv => rhs; rw [e1]
  exact List.Perm.append_left A (List.Perm.swap _ _ _)
 ·unfold swpB;rw [List.getElem?_eq_none (by omega)]
theorem Z161 : ∀ (j : Nat) (l : List Sl), (bubB l j).Perm l
 | 0, _ => List.Perm.refl _
 | j + 1, l => by
  unfold bubB
  split
  ·split
   ·exact (Z161 j _).trans (Z16w l j)
   ·exact List.Perm.refl _
  ·exact List.Perm.refl _
theorem Z16x : ∀ (n i : Nat) (l : List Sl), (insB l i n).Perm l
 | 0, _, _ => List.Perm.refl _
 | n + 1, i, l => (Z16x n (i + 1) _).trans (Z161 i l)
theorem Z1dm (l : List Sl) : (sortB l).Perm l := Z16x _ _ _
theorem Z18b {l : List Sl} {j : Nat} {x : Sl} (h : x ∈ swpB l (j + 1)) : x ∈ l := (Z16w l j).mem_iff.1 h
theorem sortB_len (l : List Sl) : (sortB l).length = l.length := (Z1dm l).length_eq
end Go.Proofs.YthljpccegkmdnaaGreatDoor.Bn

namespace Go.Proofs.YthljpccegkmdnaaGreatDoor.Bn
open Go Go.Abs Go.Proofs
theorem bWith (n lo hi : Int) (b : Bool) (hb : b = decide (lo <= n /\ n <= hi)) (Q) (hq : Q (RA.ret (.v (.bool b))) []) : CallA Tryz.prog 132 [I n, I lo, I hi] [] Q := Z18w n lo hi Q (hb ▸ hq)
def amg (n lo hi : Int) : Bool := decide (lo <= n /\ n <= hi)
def chkW (b : Int) (w : Wk) : Int :=
 if amg w.b 0 (b - 1) = false then 3 else if amg w.lo 1 20 = false then 1 else if amg w.hi 1 20 = false then 1 else if w.hi < w.lo then 5 else 0
def Z156 (b : Int) : List Wk -> Int
 | [] => 0
 | w :: r => if chkW b w = 0 then Z156 b r else chkW b w
def chkT (b : Int) (t : Tk) : Int :=
 if amg t.ready 0 200 = false then 1 else if amg t.due 0 200 = false then 1 else if t.works = [] then 7 else Z156 b t.works
def Z157 (b : Int) : List Tk -> Int
 | [] => 0
 | t :: r => if chkT b t = 0 then Z157 b r else chkT b t
def chkS (s : Sh) : Int :=
 if amg s.benches 1 3 = false then 1 else if 4 < s.tasks.length then 6 else if Z157 s.benches s.tasks = 0 then (if 8 < Z1cw s.tasks then 6 else 0) else Z157 s.benches s.tasks
theorem drop_at {α : Type} {l : List α} {k : Nat} {x : α} (h : l[k]? = some x) : l.drop k = x :: l.drop (k + 1) := by
 obtain ⟨h1, rfl⟩ := List.getElem?_eq_some_iff.1 h;exact List.drop_eq_getElem_cons h1
section
variable {A : Ar} (hA : A = ar)
 include hA
theorem yoiL {l : List D} {n : Nat} (e : l.length = n) : A.oi (A.len l) = (n : Int) := by subst hA; subst e; rfl
theorem yeqL {l : List D} {n : Nat} {x : Int} (e : l.length = n) (c : A.cmp .eql (A.oi (A.len l)) x = true) : (n : Int) = x := (yoiL hA e).symm.trans (xeq hA c)
theorem yneqL {l : List D} {n : Nat} {x : Int} (e : l.length = n) (c : A.cmp .eql (A.oi (A.len l)) x = false) : (n : Int) ≠ x := fun h => Z2o hA c ((yoiL hA e).trans h)
theorem ygtL {l : List D} {n : Nat} {x : Int} (e : l.length = n) (c : A.cmp .gtr (A.oi (A.len l)) x = true) : x < (n : Int) := (yoiL hA e) ▸ xgt hA c
theorem yngtL {l : List D} {n : Nat} {x : Int} (e : l.length = n) (c : A.cmp .gtr (A.oi (A.len l)) x = false) : (n : Int) <= x := (yoiL hA e) ▸ Zax hA c
theorem xnot {b : Bool} (h : A.bnot b = true) : b = false := by subst hA; simpa [ar] using h
theorem xnnot {b : Bool} (h : A.bnot b = false) : b = true := by subst hA; simpa [ar] using h
end
theorem Z15c {l : List Tk} {B : Nat} (h : ∀ t ∈ l, t.works.length <= B) : ∀ m, Z1cw (l.take m) <= m * B
 | 0 => by simp [Z1cw]
 | m + 1 => by
  have ih := Z15c h m;rw [List.take_add_one, Nat.succ_mul]
  cases e : l[m]? with
  | none => simp only [Option.toList_none, List.append_nil]; omega
  | some t =>
   have := h t (List.mem_of_getElem? e);simp only [Z1cw, List.map_append, List.sum_append, Option.toList_some, List.map_cons, List.map_nil, List.sum_cons, List.sum_nil] at ih ⊢;omega
theorem Z18d (s : Sh) (TL : List D) (hT : TL = s.tasks.map taskD) (hl : s.tasks.length <= 4) (hw : ∀ t ∈ s.tasks, t.works.length <= 1152921504606846976) (n : Int) (hn : IsI n (Z1cw s.tasks)) (Q) (hq : Q (RA.ret (I n)) []) :
  CallA Tryz.prog 134 [.agg [I s.benches, .sl 3 TL]] [] Q := by
 obtain ⟨A, hA⟩ : ∃ A, A = ar := ⟨_, rfl⟩;have hTl : TL.length = s.tasks.length := by rw [hT]; simp
 refine Z5 Z0 hA Tryz.func134 rfl rfl rfl rfl rfl fun S hS => ?_;cbv;refine Zb hS ?_;refine Za (α := Int × Nat × Int) (fun q => { env := [(1, .b 0 0), (2, I 0), (3, I q.2.2), (7, .sl 3 TL), (8, I (A.oi (A.len TL))), (9, I q.1)], H := [.box (.agg [I s.benches, .sl 3 TL])], nt := 20, dfs := [] })
  (fun q => s.tasks.length - q.2.1) (fun q => q.2.1 <= s.tasks.length /\ IsI q.1 q.2.1 /\ IsI q.2.2 (Z1cw (s.tasks.take q.2.1))) (0, 0, 0) ⟨Nat.zero_le _, ⟨rfl⟩, ⟨rfl⟩⟩ ?_ ?_
 ·exact Zf [0] ⟨by decide, Z9, ⟨rfl, trivial⟩, ⟨rfl, rfl, rfl, rfl, rfl, rfl, trivial⟩, rfl, rfl⟩
 rintro ⟨i, k, x⟩ ⟨u1, u2, u3⟩;dsimp only at u1 u2 u3;refine Zi Z0 hA hS ?_;cbv
 split
 ·rename_i c
  have hk : k < s.tasks.length := Z31 hA hTl u2 c;obtain ⟨t, ht⟩ : ∃ t, t = s.tasks[k] := ⟨_, rfl⟩;have htk : s.tasks[k]? = some t := by rw [ht]; exact List.getElem?_eq_getElem hk
  obtain ⟨WL, hWL⟩ : ∃ WL, WL = t.works.map Z14x := ⟨_, rfl⟩;have hTk : TL[k]? = some (.agg [I t.ready, I t.due, .sl 3 WL]) := by rw [hT]; simp [htk, hWL, taskD]
  have hs : Z1cw (s.tasks.take (k + 1)) = Z1cw (s.tasks.take k) + WL.length := by
   rw [List.take_add_one, htk]; simp [Z1cw, hWL]
  have hb := Z15c hw (k + 1);have hf : A.fits .i64 (A.add x (A.oi (A.len WL))) := by
   subst hA; exact Zxl (n := x + (WL.length : Int)) (by
    have := u3.eq
    have h4 : (k + 1) * 1152921504606846976 <= 4 * 1152921504606846976 := Nat.mul_le_mul_right _ (by omega)
    omega)
  have hx : IsI (A.add x (A.oi (A.len WL))) (Z1cw (s.tasks.take (k + 1))) := by
   subst hA; exact ⟨by rw [hs, u3.eq]; rfl⟩
  cbv;refine ⟨Z1b hA hTl u2 hk, ⟨_, Z18 hA u2 hTk, ?_⟩⟩;cbv;refine ⟨hf, Zy hA u2 (by omega), ?_⟩;refine Z8 (A.add i 1, k + 1, A.add x (A.oi (A.len WL))) [0] ⟨hk, Zz hA u2, hx⟩ (by simp only; omega) ?_;exact ⟨by decide, Z9, ⟨rfl, trivial⟩, ⟨rfl, rfl, rfl, rfl, rfl, rfl, trivial⟩, rfl, rfl⟩
 ·rename_i c
  have hk : s.tasks.length <= k := Z21 hA hTl u2 c;have hk2 : k = s.tasks.length := by omega
  have hx : x = n := by rw [u3.eq, hn.eq, hk2, List.take_length]
  rw [<- hx] at hq;cbv;refine Z7 ?_;cbv;exact Z2 [] (by decide) Z9 (H' := []) (d' := I x) trivial rfl (Z1 hq)
end Go.Proofs.YthljpccegkmdnaaGreatDoor.Bn

namespace Go.Proofs.YthljpccegkmdnaaGreatDoor.Bn
open Go Go.Abs Go.Proofs
theorem Z16j {b : Int} {l : List Wk} {k : Nat} {w : Wk} (h : l[k]? = some w) : Z156 b (l.drop k) = if chkW b w = 0 then Z156 b (l.drop (k + 1)) else chkW b w := by
 rw [drop_at h]; rfl
set_option maxRecDepth 20000 in
set_option maxHeartbeats 2000000 in
theorem Z17e (b : Int) (hb : 1 <= b /\ b <= 3) (t : Tk) (TL WL : List D) (hW : WL = t.works.map Z14x) (hlen : t.works.length <= 1152921504606846976) (n : Int) (hn : n = chkT b t) (Q) (hq : Q (RA.ret (I n)) []) :
  CallA Tryz.prog 133 [.agg [I b, .sl 3 TL], .agg [I t.ready, I t.due, .sl 3 WL]] [] Q := by
 obtain ⟨A, hA⟩ : ∃ A, A = ar := ⟨_, rfl⟩;have hWl : WL.length = t.works.length := by rw [hW]; simp
 obtain ⟨b1, hb1⟩ : ∃ x, x = decide (0 <= t.ready /\ t.ready <= 200) := ⟨_, rfl⟩;obtain ⟨b2, hb2⟩ : ∃ x, x = decide (0 <= t.due /\ t.due <= 200) := ⟨_, rfl⟩;refine Z5 Z0 hA Tryz.func133 rfl rfl rfl rfl rfl fun S hS => ?_;cbv;refine Z4 hS [I t.ready, I 0, I 200] [] [] rfl rfl rfl rfl rfl rfl rfl rfl (by decide) trivial (bWith _ _ _ b1 hb1 _ ?_);refine Z3 Z0 hA hS ?_;cbv
 split
 ·rename_i c1
  have hz : n = 1 := by rw [hn, chkT, amg, <- hb1, if_pos (xnot hA c1)]
  rw [hz] at hq;cbv;refine Zg (f := 0) hS rfl rfl rfl rfl rfl rfl rfl rfl (fun e => Bool.noConfusion e) (fun _ => ?_);refine Z3 Z0 hA hS ?_;cbv;exact Z2 [] (by decide) Z9 (H' := []) (d' := I 1) trivial rfl (Z1 hq)
 rename_i c1
 have d1 := xnnot hA c1;cbv;refine Zg hS rfl rfl rfl rfl rfl rfl rfl rfl (fun _ => ⟨_, _, [I t.due, I 0, I 200], [], [], rfl, rfl, rfl, by decide, trivial, bWith _ _ _ b2 hb2 _ ?_⟩) (fun e => absurd rfl e);refine Z3 Z0 hA hS ?_;cbv
 split
 ·rename_i c2
  have hz : n = 1 := by rw [hn, chkT, amg, <- hb1, d1, if_neg (by decide), amg, <- hb2, if_pos (xnot hA c2)]
  rw [hz] at hq;cbv;exact Z2 [] (by decide) Z9 (H' := []) (d' := I 1) trivial rfl (Z1 hq)
 rename_i c2
 have d2 := xnnot hA c2;have hn1 : n = if t.works = [] then 7 else Z156 b t.works := by rw [hn, chkT, amg, <- hb1, d1, if_neg (by decide), amg, <- hb2, d2, if_neg (by decide)]
 cbv
 split
 ·rename_i c3
  have hz : n = 7 := by
   have := yeqL hA hWl c3;rw [hn1, if_pos];exact List.eq_nil_of_length_eq_zero (by omega)
  rw [hz] at hq;cbv;exact Z2 [] (by decide) Z9 (H' := []) (d' := I 7) trivial rfl (Z1 hq)
 rename_i c3
 have hn2 : n = Z156 b (t.works.drop 0) := by
  rw [hn1, if_neg]; rfl;intro e;have := yneqL hA hWl c3;rw [e] at this;exact this rfl
 cbv;refine Zb hS ?_;refine Za (α := Int × Nat) (fun q => { env := [(2, .b 0 0), (3, .b 1 0), (22, .sl 3 WL), (23, I (A.oi (A.len WL))), (24, I q.1)], H := [.box (.agg [I b, .sl 3 TL]), .box (.agg [I t.ready, I t.due, .sl 3 WL])], nt := 58, dfs := [] })
  (fun q => t.works.length - q.2) (fun q => q.2 <= t.works.length /\ IsI q.1 q.2 /\ n = Z156 b (t.works.drop q.2)) (0, 0) ⟨Nat.zero_le _, ⟨rfl⟩, hn2⟩ ?_ ?_
 ·exact Zf [0, 1] ⟨by decide, Z9, ⟨rfl, rfl, trivial⟩, ⟨rfl, rfl, rfl, rfl, rfl, trivial⟩, rfl, rfl⟩
 rintro ⟨i, k⟩ ⟨u1, u2, u3⟩;dsimp only at u1 u2 u3;refine Zi Z0 hA hS ?_;cbv
 split
 ·rename_i c
  have hk : k < t.works.length := Z31 hA hWl u2 c;obtain ⟨w, hw⟩ : ∃ w, w = t.works[k] := ⟨_, rfl⟩;have hwk : t.works[k]? = some w := by rw [hw]; exact List.getElem?_eq_getElem hk
  have hWk : WL[k]? = some (.agg [I w.b, I w.lo, I w.hi]) := by rw [hW]; simp [hwk, Z14x]
  rw [Z16j hwk] at u3;obtain ⟨b3, hb3⟩ : ∃ x, x = decide (0 <= w.b /\ w.b <= b - 1) := ⟨_, rfl⟩;obtain ⟨b4, hb4⟩ : ∃ x, x = decide (1 <= w.lo /\ w.lo <= 20) := ⟨_, rfl⟩;obtain ⟨b5, hb5⟩ : ∃ x, x = decide (1 <= w.hi /\ w.hi <= 20) := ⟨_, rfl⟩;have hb3' : b3 = decide (0 <= w.b /\ w.b <= A.sub b 1) := by rw [Z24 hA]; exact hb3
  have hf : A.fits .i64 (A.sub b 1) := Z14 hA (Z24 hA b 1) (by omega);have hf2 : A.fits .i64 (A.add i 1) ∨ True := .inr trivial;cbv;refine ⟨Z1b hA hWl u2 hk, ⟨_, Z18 hA u2 hWk, ?_⟩⟩;cbv;refine ⟨hf, ?_⟩;refine Z4 hS [I w.b, I 0, I (A.sub b 1)] [] [] rfl rfl rfl rfl rfl rfl rfl rfl (by decide) trivial (bWith _ _ _ b3 hb3' _ ?_);refine Z3 Z0 hA hS ?_;cbv
  split
  ·rename_i c4
   have hz : n = 3 := by
    have e : chkW b w = 3 := by rw [chkW, amg, <- hb3, if_pos (xnot hA c4)]
    rw [u3, e]; rfl
   rw [hz] at hq;cbv;refine Z7 ?_;cbv;exact Z2 [] (by decide) Z9 (H' := []) (d' := I 3) trivial rfl (Z1 hq)
  rename_i c4
  have d4 := xnnot hA c4;cbv;refine Z4 hS [I w.lo, I 1, I 20] [] [] rfl rfl rfl rfl rfl rfl rfl rfl (by decide) trivial (bWith _ _ _ b4 hb4 _ ?_);refine Z3 Z0 hA hS ?_;cbv
  split
  ·rename_i c5
   have hz : n = 1 := by
    have e : chkW b w = 1 := by rw [chkW, amg, <- hb3, d4, if_neg (by decide), amg, <- hb4, if_pos (xnot hA c5)]
    rw [u3, e]; rfl
   rw [hz] at hq;cbv;refine Zg (f := 0) hS rfl rfl rfl rfl rfl rfl rfl rfl (fun e => Bool.noConfusion e) (fun _ => ?_);refine Z3 Z0 hA hS ?_;cbv;refine Z7 ?_;cbv;exact Z2 [] (by decide) Z9 (H' := []) (d' := I 1) trivial rfl (Z1 hq)
  rename_i c5
  have d5 := xnnot hA c5;cbv;refine Zg hS rfl rfl rfl rfl rfl rfl rfl rfl (fun _ => ⟨_, _, [I w.hi, I 1, I 20], [], [], rfl, rfl, rfl, by decide, trivial, bWith _ _ _ b5 hb5 _ ?_⟩) (fun e => absurd rfl e);refine Z3 Z0 hA hS ?_;cbv
  split
  ·rename_i c6
   have hz : n = 1 := by
    have e : chkW b w = 1 := by rw [chkW, amg, <- hb3, d4, if_neg (by decide), amg, <- hb4, d5, if_neg (by decide), amg, <- hb5, if_pos (xnot hA c6)]
    rw [u3, e]; rfl
   rw [hz] at hq;cbv;refine Z7 ?_;cbv;exact Z2 [] (by decide) Z9 (H' := []) (d' := I 1) trivial rfl (Z1 hq)
  rename_i c6
  have d6 := xnnot hA c6;have e6 : chkW b w = if w.hi < w.lo then 5 else 0 := by rw [chkW, amg, <- hb3, d4, if_neg (by decide), amg, <- hb4, d5, if_neg (by decide), amg, <- hb5, d6, if_neg (by decide)]
  cbv
  split
  ·rename_i c7
   have hz : n = 5 := by
    have e : w.hi < w.lo := xgt hA c7;rw [if_pos e] at e6;rw [u3, e6]; rfl
   rw [hz] at hq;cbv;refine Z7 ?_;cbv;exact Z2 [] (by decide) Z9 (H' := []) (d' := I 5) trivial rfl (Z1 hq)
  rename_i c7
  have e7 : chkW b w = 0 := by
   have e : w.lo <= w.hi := Zax hA c7;rw [e6, if_neg (by omega)]
  rw [if_pos e7] at u3;cbv;refine ⟨Zy hA u2 (by have := Z31 hA hWl u2 c; have := hlen; omega), ?_⟩;refine Z8 (A.add i 1, k + 1) [0, 1] ⟨hk, Zz hA u2, u3⟩ (by simp only; omega) ?_;exact ⟨by decide, Z9, ⟨rfl, rfl, trivial⟩, ⟨rfl, rfl, rfl, rfl, rfl, trivial⟩, rfl, rfl⟩
 ·rename_i c
  have hk : t.works.length <= k := Z21 hA hWl u2 c;have hz : n = 0 := by rw [u3, List.drop_eq_nil_of_le hk]; rfl
  rw [hz] at hq;cbv;refine Z7 ?_;cbv;exact Z2 [] (by decide) Z9 (H' := []) (d' := I 0) trivial rfl (Z1 hq)
end Go.Proofs.YthljpccegkmdnaaGreatDoor.Bn

namespace Go.Proofs.YthljpccegkmdnaaGreatDoor.Bn
open Go Go.Abs Go.Proofs
theorem Z16k {b : Int} {l : List Tk} {k : Nat} {t : Tk} (h : l[k]? = some t) : Z157 b (l.drop k) = if chkT b t = 0 then Z157 b (l.drop (k + 1)) else chkT b t := by
 rw [drop_at h]; rfl
def Fin (s : Sh) : Prop := s.tasks.length <= 1152921504606846976 /\ ∀ t ∈ s.tasks, t.works.length <= 1152921504606846976
set_option maxRecDepth 20000 in
set_option maxHeartbeats 2000000 in
theorem bCheck (s : Sh) (hs : Fin s) (TL : List D) (hT : TL = s.tasks.map taskD) (n : Int) (hn : n = chkS s) (Q) (hq : Q (RA.ret (I n)) []) :
  CallA Tryz.prog 93 [.agg [I s.benches, .sl 3 TL]] [] Q := by
 obtain ⟨A, hA⟩ : ∃ A, A = ar := ⟨_, rfl⟩;have hTl : TL.length = s.tasks.length := by rw [hT]; simp
 obtain ⟨b1, hb1⟩ : ∃ x, x = decide (1 <= s.benches /\ s.benches <= 3) := ⟨_, rfl⟩;refine Z5 Z0 hA Tryz.func93 rfl rfl rfl rfl rfl fun S hS => ?_;cbv;refine Z4 hS [I s.benches, I 1, I 3] [] [] rfl rfl rfl rfl rfl rfl rfl rfl (by decide) trivial (bWith _ _ _ b1 hb1 _ ?_);refine Z3 Z0 hA hS ?_;cbv
 split
 ·rename_i c1
  have hz : n = 1 := by rw [hn, chkS, amg, <- hb1, if_pos (xnot hA c1)]
  rw [hz] at hq;cbv;exact Z2 [] (by decide) Z9 (H' := []) (d' := I 1) trivial rfl (Z1 hq)
 rename_i c1
 have d1 := xnnot hA c1;have hbb : 1 <= s.benches /\ s.benches <= 3 := by rw [d1] at hb1; exact of_decide_eq_true hb1.symm
 have hn1 : n = if 4 < s.tasks.length then 6 else if Z157 s.benches s.tasks = 0 then (if 8 < Z1cw s.tasks then 6 else 0) else Z157 s.benches s.tasks := by
  rw [hn, chkS, amg, <- hb1, d1, if_neg (by decide)]
 cbv
 split
 ·rename_i c2
  have hz : n = 6 := by have := ygtL hA hTl c2; rw [hn1, if_pos (by omega)]
  rw [hz] at hq;cbv;exact Z2 [] (by decide) Z9 (H' := []) (d' := I 6) trivial rfl (Z1 hq)
 rename_i c2
 have h4 : s.tasks.length <= 4 := by have := yngtL hA hTl c2; omega
 rw [if_neg (by omega)] at hn1;obtain ⟨z, hz⟩ : ∃ z : Int, z = if 8 < Z1cw s.tasks then 6 else 0 := ⟨_, rfl⟩
 rw [<- hz] at hn1;cbv;refine Zb hS ?_;refine Za (α := Int × Nat) (fun q => { env := [(1, .b 0 0), (15, .sl 3 TL), (16, I (A.oi (A.len TL))), (17, I q.1)], H := [.box (.agg [I s.benches, .sl 3 TL])], nt := 31, dfs := [] })
  (fun q => s.tasks.length - q.2) (fun q => q.2 <= s.tasks.length /\ IsI q.1 q.2 /\ n = if Z157 s.benches (s.tasks.drop q.2) = 0 then z else Z157 s.benches (s.tasks.drop q.2)) (0, 0) ⟨Nat.zero_le _, ⟨rfl⟩, hn1⟩ ?_ ?_
 ·exact Zf [0] ⟨by decide, Z9, ⟨rfl, trivial⟩, ⟨rfl, rfl, rfl, rfl, trivial⟩, rfl, rfl⟩
 rintro ⟨i, k⟩ ⟨u1, u2, u3⟩;dsimp only at u1 u2 u3;refine Zi Z0 hA hS ?_;cbv
 split
 ·rename_i c
  have hk : k < s.tasks.length := Z31 hA hTl u2 c;obtain ⟨t, ht⟩ : ∃ t, t = s.tasks[k] := ⟨_, rfl⟩;have htk : s.tasks[k]? = some t := by rw [ht]; exact List.getElem?_eq_getElem hk
  have htm := List.mem_of_getElem? htk;obtain ⟨WL, hWL⟩ : ∃ WL, WL = t.works.map Z14x := ⟨_, rfl⟩;have hTk : TL[k]? = some (.agg [I t.ready, I t.due, .sl 3 WL]) := by rw [hT]; simp [htk, hWL, taskD]
  rw [Z16k htk] at u3;obtain ⟨e, he⟩ : ∃ e, e = chkT s.benches t := ⟨_, rfl⟩;rw [<- he] at u3;cbv;refine ⟨Z1b hA hTl u2 hk, ⟨_, Z18 hA u2 hTk, ?_⟩⟩;cbv;refine Z4 hS [.agg [I s.benches, .sl 3 TL], .agg [I t.ready, I t.due, .sl 3 WL]] [] [] rfl rfl rfl rfl rfl rfl rfl rfl (by decide) trivial (Z17e _ hbb t TL WL hWL (hs.2 t htm) e he _ ?_);refine Z3 Z0 hA hS ?_;cbv
  split
  ·rename_i c3
   have e3 := xne hA c3;have hz : n = e := by rw [u3, if_neg e3, if_neg e3]
   rw [hz] at hq;cbv;refine Z7 ?_;cbv;exact Z2 [] (by decide) Z9 (H' := []) (d' := I e) trivial rfl (Z1 hq)
  rename_i c3
  have e3 : e = 0 := Z4t hA c3;rw [if_pos e3] at u3;cbv;refine ⟨Zy hA u2 (by omega), ?_⟩;refine Z8 (A.add i 1, k + 1) [0] ⟨hk, Zz hA u2, u3⟩ (by simp only; omega) ?_;exact ⟨by decide, Z9, ⟨rfl, trivial⟩, ⟨rfl, rfl, rfl, rfl, trivial⟩, rfl, rfl⟩
 ·rename_i c
  have hk : s.tasks.length <= k := Z21 hA hTl u2 c;rw [List.drop_eq_nil_of_le hk] at u3;have u4 : n = z := u3;obtain ⟨nw, hnw⟩ : ∃ x, IsI x (Z1cw s.tasks) := ⟨_, ⟨rfl⟩⟩;cbv;refine Z7 ?_;cbv;refine Z4 hS [.agg [I s.benches, .sl 3 TL]] [] [] rfl rfl rfl rfl rfl rfl rfl rfl (by decide) trivial (Z18d s TL hT h4 hs.2 nw hnw _ ?_);refine Z3 Z0 hA hS ?_;cbv
  split
  ·rename_i c5
   have e5 := xgt hA c5;have hw := hnw.eq;rw [if_pos (by omega)] at hz;rw [u4, hz] at hq;cbv;exact Z2 [] (by decide) Z9 (H' := []) (d' := I 6) trivial rfl (Z1 hq)
  ·rename_i c5
   have e5 := Zax hA c5;have hw := hnw.eq;rw [if_neg (by omega)] at hz;rw [u4, hz] at hq;cbv;exact Z2 [] (by decide) Z9 (H' := []) (d' := I 0) trivial rfl (Z1 hq)
end Go.Proofs.YthljpccegkmdnaaGreatDoor.Bn
