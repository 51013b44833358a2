/- Part TyAV of the proofs about the benches of the accordion maker: see the last text of the claim for what is proved. -/
import Derived.Test.YthljpccegkmdnaaGreatDoorTyAU
set_option linter.unusedVariables false
set_option linter.unusedSimpArgs false
set_option linter.unnecessarySimpa false
set_option linter.constructorNameAsVariable false

namespace Go.Proofs.YthljpccegkmdnaaGreatDoor.Bn
open Go Go.Abs Go.Proofs
def pk (sd : Bool) (x y : Int) : Int := match sd with | false => x | true => y
theorem Z15f {α : Type} (l : List α) (i j : Nat) (x d : α) (h : i < l.length) : (l.set i x).getD j d = if j = i then x else l.getD j d := by
 simp only [List.getD_eq_getElem?_getD, List.getElem?_set]
 by_cases e : i = j
 ·subst e; simp [h]
 ·rw [if_neg e, if_neg (fun h => e h.symm)]
theorem Z1am {α : Type} {l : List α} {i : Nat} {d : α} (h : i < l.length) : l.getD i d ∈ l := by
 simp only [List.getD_eq_getElem?_getD, List.getElem?_eq_getElem h, Option.getD_some]; exact List.getElem_mem h
theorem Z154 {p : List Nat} {n i : Nat} (h : p[n]? = some i) (j : Nat) : (p.take (n + 1)).count j = (p.take n).count j + if j = i then 1 else 0 := by
 rw [List.take_add_one, h, List.count_append]
 by_cases e : j = i
 ·subst e; simp
 ·rw [if_neg e, Nat.add_left_cancel_iff]; exact List.count_eq_zero.2 (by simpa using e)
section
variable {s : Sh} {p : List Nat} {sd : Bool} {more : Nat -> Int} {M : Int}
theorem Z15n (hv : Val s) {i k : Nat} (hi : i < s.tasks.length) (hk : k < (s.tasks.getD i default).works.length) :
  0 <= (Z150 s i k).b /\ (Z150 s i k).b < s.benches /\ 1 <= (Z150 s i k).lo /\ (Z150 s i k).lo <= (Z150 s i k).hi /\ (Z150 s i k).hi <= 20 :=
 hv.wk _ (Z1am hi) _ (Z1am hk)
theorem Z18x (hv : Val s) (hM : 0 <= M) : CkOk s M (Z14y s) [] := by
 refine ⟨rfl, ?_, rfl, fun i hi => ?_, fun x hx => ?_, fun x hx => ?_⟩
 ·have := hv.len; simp [Z14y, pad4]; omega
 ·match i, hi with
  | 0, _ => rfl
  | 1, _ => rfl
  | 2, _ => rfl
  | 3, _ => rfl
 ·simp [Z14y] at hx; subst hx; simp
 ·simp only [Z14y, pad4, List.mem_append, List.mem_map, List.mem_replicate] at hx;rcases hx with ⟨t, ht, rfl⟩ | ⟨-, rfl⟩
  ·have := hv.rd t ht; simp; omega
  ·simp
theorem Z15g (hv : Val s) (hp : PlanLe s p) (hM : 0 <= M) (hm : ∀ a, 0 <= more a /\ more a <= M) {n i : Nat} (h : p[n]? = some i) {c : Ck} (hc : CkOk s M c (p.take n)) (a : Nat) :
  i < s.tasks.length /\ (Z14w sd s c i (more a)).k = (p.take n).count i /\ (p.take n).count i < (s.tasks.getD i default).works.length /\ 0 <= (Z14w sd s c i (more a)).bg /\ (Z14w sd s c i (more a)).bg <= 200 + n * (20 + M) /\
   CkOk s M (Z15i c i (Z14w sd s c i (more a))) (p.take (n + 1)) := by
 have hn := (List.getElem?_eq_some_iff.1 h).1;have hi : i < s.tasks.length := hp.lt i (List.mem_of_getElem? h);have hlen := hv.len;have hk : c.dn.getD i 0 = (p.take n).count i := hc.dc i (by omega);have hlt : (p.take n).count i < (s.tasks.getD i default).works.length := by
  have h1 := Z154 h i;rw [if_pos rfl] at h1;have h2 : (p.take (n + 1)).count i <= p.count i := (List.take_sublist _ _).count_le i;have := hp.cnt i hi;omega
 obtain ⟨w1, w2, w3, w4, w5⟩ := Z15n hv hi hlt;have hb := hv.b1;have htl : (p.take n).length = n := by simp; omega
 have htl2 : (p.take (n + 1)).length = n + 1 := by simp; omega
 have e1 := hc.t0 (c.tk.getD i 0) (Z1am (by rw [hc.tk]; omega));have e2 := hc.b0 (c.bn.getD (Z150 s i ((p.take n).count i)).b.toNat 0) (Z1am (by rw [hc.bn]; omega));rw [htl] at e1 e2;have hM20 : (0 : Int) <= n * (20 + M) := Int.mul_nonneg (by omega) (by omega);have hbg : (Z14w sd s c i (more a)).bg = max (c.tk.getD i 0) (c.bn.getD (Z150 s i ((p.take n).count i)).b.toNat 0) := by simp only [Z14w, hk]
 have b1 : 0 <= (Z14w sd s c i (more a)).bg := by rw [hbg]; omega
 have b2 : (Z14w sd s c i (more a)).bg <= 200 + n * (20 + M) := by rw [hbg]; omega
 have hen : (Z14w sd s c i (more a)).en = (Z14w sd s c i (more a)).bg + sel sd (Z150 s i ((p.take n).count i)).lo (Z150 s i ((p.take n).count i)).hi + more a := by simp only [Z14w, hk]
 have hsel : 0 <= sel sd (Z150 s i ((p.take n).count i)).lo (Z150 s i ((p.take n).count i)).hi /\ sel sd (Z150 s i ((p.take n).count i)).lo (Z150 s i ((p.take n).count i)).hi <= 20 := by cases sd <;> simp only [sel] <;> omega
 have hma := hm a;have hnm : ((n + 1 : Nat) : Int) * (20 + M) = n * (20 + M) + (20 + M) := by rw [Int.natCast_add, Int.add_mul]; simp
 have hen2 : 0 <= (Z14w sd s c i (more a)).en /\ (Z14w sd s c i (more a)).en <= 200 + ((n + 1 : Nat) : Int) * (20 + M) := by rw [hen, hnm]; omega
 refine ⟨hi, by simp only [Z14w, hk], hlt, b1, b2, by simp [Z15i, hc.bn], by simp [Z15i, hc.tk], by simp [Z15i, hc.dn], fun j hj => ?_, fun x hx => ?_, fun x hx => ?_⟩
 ·simp only [Z15i];rw [Z15f _ _ _ _ _ (by rw [hc.dn]; omega), Z154 h j]
  split
  ·rename_i e; subst e; simp only [Z14w, hk]
  ·rw [hc.dc j hj]; rfl
 ·rw [htl2];rcases List.mem_or_eq_of_mem_set hx with hx | rfl
  ·have := hc.b0 x hx; rw [htl] at this; omega
  ·exact hen2
 ·rw [htl2];rcases List.mem_or_eq_of_mem_set hx with hx | rfl
  ·have := hc.t0 x hx; rw [htl] at this; omega
  ·exact hen2
theorem Z166 (hv : Val s) (hp : PlanLe s p) (hM : 0 <= M) (hm : ∀ a, 0 <= more a /\ more a <= M) : ∀ n, n <= p.length -> CkOk s M (ckAt sd s more (Z14y s) 0 p n) (p.take n)
 | 0, _ => by simpa [ckAt] using Z18x hv hM
 | n + 1, h => by
  have hn : p[n]? = some p[n] := List.getElem?_eq_getElem (by omega);have := Z15g (sd := sd) hv hp hM hm hn (Z166 hv hp hM hm n (by omega)) (0 + n);rw [Z15e sd s more p _ _ _ _ hn];exact this.2.2.2.2.2
end
def runS (s : Sh) (more : Nat -> Int) (p : List Nat) : List Sl :=
 (List.range p.length).map fun n =>
  let i := p.getD n 0
  let a := Z14w false s (ckAt false s more (Z14y s) 0 p n) i (more n)
  let b := Z14w true s (ckAt true s more (Z14y s) 0 p n) i (more n)
  ⟨i, a.k, a.b, a.bg, b.bg, a.en, b.en⟩
def slAt (s : Sh) (more : Nat -> Int) (p : List Nat) (sd : Bool) (k n : Nat) : Sl :=
 let i := p.getD n 0
 let a := Z14w false s (ckAt false s more (Z14y s) 0 p n) i (more n)
 let b := Z14w true s (ckAt true s more (Z14y s) 0 p n) i (more n)
 match sd, decide (n < k) with
 | false, false => ⟨0, 0, 0, 0, 0, 0, 0⟩
 | false, true => ⟨i, a.k, a.b, a.bg, 0, a.en, 0⟩
 | true, false => ⟨i, a.k, a.b, a.bg, 0, a.en, 0⟩
 | true, true => ⟨i, a.k, a.b, a.bg, b.bg, a.en, b.en⟩
def ckD (c : Ck) : List D := (c.bn ++ c.tk ++ c.dn.map (fun n : Nat => (n : Int))).map I
theorem Z160 (c : Ck) : frL (ckD c) = true := Z30.2 fun d hd => by
 simp only [ckD, List.mem_map] at hd;obtain ⟨x, -, rfl⟩ := hd;rfl
theorem Z19d {c : Ck} (h1 : c.bn.length = 3) (h2 : c.tk.length = 4) {i : Nat} (h : i < c.dn.length) : (ckD c)[7 + i]? = some (I (c.dn.getD i 0 : Nat)) := by
 obtain ⟨bn, tk, dn⟩ := c
 match bn, tk, h1, h2 with
 | [b0, b1, b2], [t0, t1, t2, t3], _, _ =>
  simp only [ckD, List.cons_append, List.nil_append, List.map_cons];rw [Nat.add_comm];simp only [List.getElem?_cons_succ];simp only at h;simp [List.getElem?_map, List.getElem?_eq_getElem h]
theorem Z19e {c : Ck} (h1 : c.bn.length = 3) {i : Nat} (h : i < c.tk.length) : (ckD c)[3 + i]? = some (I (c.tk.getD i 0)) := by
 obtain ⟨bn, tk, dn⟩ := c
 match bn, h1 with
 | [b0, b1, b2], _ =>
  simp only [ckD, List.cons_append, List.nil_append, List.map_cons];rw [Nat.add_comm];simp only [List.getElem?_cons_succ];simp only at h;simp [List.getElem?_map, List.getElem?_append, h]
theorem Z19f {c : Ck} {i : Nat} (h : i < c.bn.length) : (ckD c)[i]? = some (I (c.bn.getD i 0)) := by
 obtain ⟨bn, tk, dn⟩ := c;simp only [ckD];simp only at h;simp only [List.append_assoc, List.getElem?_map, List.getElem?_append, h, if_true, List.getElem?_eq_getElem h, Option.map_some, List.getD_eq_getElem?_getD, Option.getD_some]
theorem Z18a {c : Ck} (h1 : c.bn.length = 3) (h2 : c.tk.length = 4) (h3 : c.dn.length = 4) {i b : Nat} (hi : i < 4) (hb : b < 3) (x y : Int) (k : Nat) :
  (((ckD c).set (3 + i) (I x)).set b (I y)).set (7 + i) (I (k : Nat)) = ckD ⟨c.bn.set b y, c.tk.set i x, c.dn.set i k⟩ := by
 obtain ⟨bn, tk, dn⟩ := c
 match bn, tk, dn, h1, h2, h3 with
 | [b0, b1, b2], [t0, t1, t2, t3], [d0, d1, d2, d3], _, _, _ =>
  match i, hi, b, hb with
  | 0, _, 0, _ => rfl
  | 1, _, 0, _ => rfl
  | 2, _, 0, _ => rfl
  | 3, _, 0, _ => rfl
  | 0, _, 1, _ => rfl
  | 1, _, 1, _ => rfl
  | 2, _, 1, _ => rfl
  | 3, _, 1, _ => rfl
  | 0, _, 2, _ => rfl
  | 1, _, 2, _ => rfl
  | 2, _, 2, _ => rfl
  | 3, _, 2, _ => rfl
section
variable {s : Sh} {p : List Nat} {sd : Bool} {more : Nat -> Int} {M : Int}
theorem Z18y (hv : Val s) (hp : PlanLe s p) (hM : 0 <= M) (hm : ∀ a, 0 <= more a /\ more a <= M) {n i kN : Nat} (h : p[n]? = some i) (hk : kN = (p.take n).count i) {w : Wk} (hw : w = Z150 s i kN) {o : Sl} (ho : o = slAt s more p sd n n)
  {r : Wr} (hr : r = Z14w sd s (ckAt sd s more (Z14y s) 0 p n) i (more n)) :
  slAt s more p sd (n + 1) n = ⟨i, kN, w.b, pk sd r.bg o.bl, pk sd o.bh r.bg, pk sd r.en o.el, pk sd o.eh r.en⟩ := by
 have hn := (List.getElem?_eq_some_iff.1 h).1;have h1 := (Z15g (sd := false) hv hp hM hm h (Z166 (sd := false) hv hp hM hm n (by omega)) n).2.1;have h2 : (Z14w false s (ckAt false s more (Z14y s) 0 p n) i (more n)).b = w.b := by
  have e : (ckAt false s more (Z14y s) 0 p n).dn.getD i 0 = (p.take n).count i := h1;simp only [Z14w, e, <- hk, <- hw]
 have hpd : p.getD n 0 = i := by rw [List.getD_eq_getElem?_getD, h]; rfl
 subst hk;have d1 : decide (n < n + 1) = true := by simp
 have d2 : decide (n < n) = false := by simp
 cases sd <;> simp only [slAt, d1, d2, ho, hpd, h1, h2, hr, pk]
theorem Z179 {n m : Nat} (h : m ≠ n) : slAt s more p sd (n + 1) m = slAt s more p sd n m := by
 have : decide (m < n + 1) = decide (m < n) := by rw [decide_eq_decide]; omega
 simp only [slAt, this]
end
theorem SideOk.sB {f g : FuncId} {sd : Bool} (h : SideOk f g sd) (i : Nat) (n : Int) (t k b bl bh el eh bl1 bh1 : Int) (es es' : List D) (Q) (he : es[i]? = some (.agg [I t, I k, I b, I bl, I bh, I el, I eh])) (h1 : bl1 = pk sd n bl) (h2 : bh1 = pk sd bh n)
  (h' : es' = es.set i (.agg [I t, I k, I b, I bl1, I bh1, I el, I eh])) (hq : ∀ d, Q (RA.ret d) [.els 7 es']) : CallA Tryz.prog g [.p 0 7 i 3, I n] [.els 7 es] Q :=
 h.setB i n t k b bl bh el eh es es' Q he (by subst h1 h2 h'; cases sd <;> rfl) hq
theorem SideOk.sE {f g : FuncId} {sd : Bool} (h : SideOk f g sd) (i : Nat) (n : Int) (t k b bl bh el eh el1 eh1 : Int) (es es' : List D) (Q) (he : es[i]? = some (.agg [I t, I k, I b, I bl, I bh, I el, I eh])) (h1 : el1 = pk sd n el) (h2 : eh1 = pk sd eh n)
  (h' : es' = es.set i (.agg [I t, I k, I b, I bl, I bh, I el1, I eh1])) (hq : ∀ d, Q (RA.ret d) [.els 7 es']) : CallA Tryz.prog g [.p 0 7 i 5, I n] [.els 7 es] Q :=
 h.setE i n t k b bl bh el eh es es' Q he (by subst h1 h2 h'; cases sd <;> rfl) hq
theorem Z17k (l : List Int) (x : Int) (h : l.length < 4) : (ckD ⟨[0, 0, 0], pad4 l, [0, 0, 0, 0]⟩).set (3 + l.length) (I x) = ckD ⟨[0, 0, 0], pad4 (l ++ [x]), [0, 0, 0, 0]⟩ := by
 match l, h with
 | [], _ => rfl
 | [_], _ => rfl
 | [_, _], _ => rfl
 | [_, _, _], _ => rfl
structure SF (s : Sh) (p : List Nat) (sd : Bool) (mo : Nat -> Int) (n pi kN wb : Nat) (t : Tk) (w : Wk) (tk bn sv : Int) : Prop where
 pn : p[n]? = some pi
 p4 : pi < 4
 pt : pi < s.tasks.length
 tt : s.tasks[pi]? = some t
 kw : kN < t.works.length
 kl : kN <= n
 ww : t.works[kN]? = some w
 dn : (ckD (ckAt sd s mo (Z14y s) 0 p n))[7 + pi]? = some (I (kN : Nat))
 tkv : (ckD (ckAt sd s mo (Z14y s) 0 p n))[3 + pi]? = some (I tk)
 wbi : IsI w.b wb
 wb3 : wb < 3
 bnv : (ckD (ckAt sd s mo (Z14y s) 0 p n))[0 + wb]? = some (I bn)
 tkb : Btw 0 tk 100000
 bnb : Btw 0 bn 100000
 svb : Btw 0 sv 20
 sve : sv = sel sd w.lo w.hi
 nx : ∀ y, y = max tk bn + sv + mo n -> ckD (ckAt sd s mo (Z14y s) 0 p (n + 1)) = (((ckD (ckAt sd s mo (Z14y s) 0 p n)).set (3 + pi) (I y)).set (0 + wb) (I y)).set (7 + pi) (I ((kN + 1 : Nat) : Int))
 sl : ∀ x y o, x = max tk bn -> y = x + sv + mo n -> o = slAt s mo p sd n n -> slAt s mo p sd (n + 1) n = ⟨pi, kN, w.b, pk sd x o.bl, pk sd o.bh x, pk sd y o.el, pk sd o.eh y⟩
theorem Z16i {s : Sh} {p : List Nat} {sd : Bool} {mo : Nat -> Int} {M : Int} (hv : Val s) (hp : PlanLe s p) (hM : 0 <= M /\ M <= 1000) (hm : ∀ a, 0 <= mo a /\ mo a <= M) (hpl : p.length <= 20) {n : Nat} (hn : n < p.length) :
  ∃ pi kN wb t w tk bn sv, SF s p sd mo n pi kN wb t w tk bn sv := by
 obtain ⟨pi, hpi⟩ : ∃ pi, pi = p[n] := ⟨_, rfl⟩;have hpn : p[n]? = some pi := by rw [hpi]; exact List.getElem?_eq_getElem hn
 have hc := Z166 (sd := sd) (more := mo) (M := M) hv hp hM.1 hm n (by omega);obtain ⟨hi, hk1, hk2, hb0, hb1, hcn⟩ := Z15g (sd := sd) (more := mo) (M := M) hv hp hM.1 hm hpn hc n;obtain ⟨c0, hc0⟩ : ∃ c0, c0 = ckAt sd s mo (Z14y s) 0 p n := ⟨_, rfl⟩;have hlen4 := hv.len;have hb3 := hv.b1;obtain ⟨kN, hkN⟩ : ∃ x : Nat, x = (p.take n).count pi := ⟨_, rfl⟩;rw [<- hkN] at hk1 hk2;have hd0 : c0.dn.getD pi 0 = kN := by rw [hc0]; exact (hc.dc pi (by omega)).trans hkN.symm
 obtain ⟨t, ht⟩ : ∃ t, t = s.tasks.getD pi default := ⟨_, rfl⟩;have htt : s.tasks[pi]? = some t := by rw [ht, List.getD_eq_getElem?_getD, List.getElem?_eq_getElem hi]; rfl
 rw [<- ht] at hk2;obtain ⟨w, hw⟩ : ∃ w, w = Z150 s pi kN := ⟨_, rfl⟩;have hww : t.works[kN]? = some w := by rw [hw, Z150, <- ht, List.getD_eq_getElem?_getD, List.getElem?_eq_getElem hk2]; rfl
 obtain ⟨w1, w2, w3, w4, w5⟩ := Z15n hv hi (by rw [<- ht]; exact hk2);rw [<- hw] at w1 w2 w3 w4 w5;rw [<- hc0] at hc;have hnb : (n : Int) * (20 + M) <= 20 * (20 + M) := Int.mul_le_mul_of_nonneg_right (by omega) (by omega);have tl : (p.take n).length = n := by simp; omega
 have e1 := hc.t0 (c0.tk.getD pi 0) (Z1am (by rw [hc.tk]; omega));have e2 := hc.b0 (c0.bn.getD w.b.toNat 0) (Z1am (by rw [hc.bn]; omega));rw [tl] at e1 e2;have hr : Z14w sd s c0 pi (mo n) = ⟨kN, w.b, max (c0.tk.getD pi 0) (c0.bn.getD w.b.toNat 0), max (c0.tk.getD pi 0) (c0.bn.getD w.b.toNat 0) + sel sd w.lo w.hi + mo n⟩ := by
  simp only [Z14w, hd0, <- hw]
 refine ⟨pi, kN, w.b.toNat, t, w, c0.tk.getD pi 0, c0.bn.getD w.b.toNat 0, sel sd w.lo w.hi, hpn, by omega, hi, htt, hk2, hkN ▸ (Nat.le_trans List.count_le_length (by simp; omega)), hww, ?_, ?_, ⟨by omega⟩, by omega, ?_, ⟨by omega, by omega⟩, ⟨by omega, by omega⟩, ?_, rfl, fun y hy => ?_, fun x y o hx hy ho => ?_⟩
 ·rw [<- hc0, Z19d hc.bn hc.tk (by rw [hc.dn]; omega), hd0]
 ·rw [<- hc0, Z19e hc.bn (by rw [hc.tk]; omega)]
 ·rw [<- hc0, Nat.zero_add, Z19f (by rw [hc.bn]; omega)]
 ·cases sd <;> simp only [sel] <;> exact ⟨by omega, by omega⟩
 ·rw [Z15e sd s mo p _ _ _ _ hpn, <- hc0, Nat.zero_add, Nat.zero_add, Z18a hc.bn hc.tk hc.dn (by omega) (by omega), Z15i, hr, <- hy]
 ·have := Z18y (sd := sd) hv hp hM.1 hm hpn hkN hw ho rfl;rw [this, <- hc0, hr, <- hx, <- hy]
theorem Z17a {A : Ar} (hA : A = ar) {L L' : List D} {i j : Int} {a b : Nat} {x y z : D} (ea : IsI i a) (eb : IsI j b) (h : L' = ((L.set (3 + a) x).set (0 + b) y).set (7 + a) z) (ρ : Nat -> Nat) (hf : frL L' = true) :
  some (Blk.box (D.arr (A.set (A.set (A.set L (A.addN 3 (A.mulN (A.tn i) 1)) x) (A.addN 0 (A.mulN (A.tn j) 1)) y) (A.addN 7 (A.mulN (A.tn i) 1)) z))) = some (Z68 ρ (Blk.box (D.arr L'))) := by
 rw [Zwl hA 3 ea, Zwl hA 0 eb, Zwl hA 7 ea, xset hA, xset hA, xset hA, <- h]; exact Z15t ρ hf
set_option maxRecDepth 20000 in
set_option maxHeartbeats 4000000 in
theorem bRun (s : Sh) (hv : Val s) (p : List Nat) (hp : PlanLe s p) (hpl : p.length <= 20) (TL PL : List D) (hT : TL = s.tasks.map Z14z) (hP : PL = p.map (fun i => I (i : Nat))) (Q)
  (hq : Q (RA.ret (.sl 7 ((runS s (fun _ => 0) p).map Z14v))) []) : CallA Tryz.prog 119 [.agg [I s.benches, .sl 3 TL, .sl 1 PL], .v (.map none)] [] Q := by
 obtain ⟨A, hA⟩ : ∃ A, A = ar := ⟨_, rfl⟩;have hTl : TL.length = s.tasks.length := by rw [hT]; simp
 have hPl : PL.length = p.length := by rw [hP]; simp
 obtain ⟨mo, hmo⟩ : ∃ mo : Nat -> Int, mo = fun _ => 0 := ⟨_, rfl⟩;obtain ⟨M, hM⟩ : ∃ M : Int, 0 <= M /\ M <= 1000 := ⟨0, by decide, by decide⟩;have hm : ∀ a, 0 <= mo a /\ mo a <= M := fun a => by rw [hmo]; exact ⟨Int.le_refl _, hM.1⟩
 rw [<- hmo] at hq;have hr0 : 0 <= ((PL.length : Nat) : Int) := by omega
 have hr1 : PL.length * 56 <= 140737488355328 /\ PL.length <= 4611686018427387904 := by omega
 refine Z5 Z0 hA Tryz.func119 rfl rfl rfl rfl rfl fun S hS => ?_;cbv;refine ⟨by subst hA; exact hr0, by subst hA; exact hr1, ?_⟩;refine Z4 hS [] [] [] rfl rfl rfl rfl rfl rfl rfl rfl (by decide) trivial (Z19b _ ?_);refine Z3 Z0 hA hS ?_;cbv;refine Zb hS ?_;obtain ⟨SL, hSL⟩ : ∃ SL : List D, SL = [.agg [.fn 180 [], .fn 181 []], .agg [.fn 182 [], .fn 183 []]] := ⟨_, rfl⟩;have hSl2 : SL.length = 2 := by rw [hSL]; rfl
 obtain ⟨N, hN⟩ : ∃ N, N = p.length := ⟨_, rfl⟩;obtain ⟨st, hst⟩ : ∃ st : Nat -> Nat -> Sl, st = fun j n => slAt s mo p (decide (1 <= j)) (if 2 <= j then N else 0) n := ⟨_, rfl⟩;have hside : ∀ jn, jn < 2 -> ∃ f g sd, SideOk f g sd /\ SL[jn]? = some (.agg [.fn f [], .fn g []]) /\ (∀ n, n < N -> st jn n = slAt s mo p sd 0 n) /\ (∀ n, n < N -> st (jn + 1) n = slAt s mo p sd N n) := fun jn hj => by
  match jn, hj with
  | 0, _ => exact ⟨180, 181, false, Z199, by rw [hSL]; rfl, fun n hn => by rw [hst]; rfl, fun n hn => by rw [hst]; simp [slAt, hn]⟩
  | 1, _ => exact ⟨182, 183, true, Z19a, by rw [hSL]; rfl, fun n hn => by rw [hst]; rfl, fun n hn => by rw [hst]; rfl⟩
 have hPN : PL.length = N := by omega
 refine Za (α := Int × Nat × List D) (fun q => { env := [(1, .v (.map none)), (2, .b 0 0), (5, .o 1 7 N), (22, .sl 2 SL), (23, I 2), (24, I q.1)], H := [.box (.agg [I s.benches, .sl 3 TL, .sl 1 PL]), .els 7 q.2.2], nt := 133, dfs := [] })
  (fun q => 2 - q.2.1) (fun q => q.2.1 <= 2 /\ IsI q.1 q.2.1 /\ q.2.2.length = N /\ ∀ n, n < N -> q.2.2[n]? = some (Z14v (st q.2.1 n))) (0, 0, List.replicate PL.length (Z14v ⟨0, 0, 0, 0, 0, 0, 0⟩)) ⟨Nat.zero_le _, ⟨rfl⟩, by simp; omega, fun n hn => ?_⟩ ?_ ?_
 ·subst hst;simp only [List.getElem?_replicate];rw [if_pos (by omega)];simp [slAt]
 ·exact Zf [0, 1] ⟨by decide, Z9, ⟨rfl, by subst hA; rfl, trivial⟩, ⟨rfl, rfl, by subst hA; rw [<- hPN]; rfl, by rw [hSL]; rfl, by subst hA; rfl, rfl, trivial⟩, rfl, rfl⟩
 rintro ⟨j, jn, OL⟩ ⟨q1, q2, q3, q4⟩;dsimp only at q1 q2 q3 q4;refine Zi Z0 hA hS ?_;cbv
 split
 ·rename_i c
  have hj : jn < 2 := yltC hA 2 q2 c;obtain ⟨f, g, sd, hsd, hSLj, hs0, hs1⟩ := hside jn hj;cbv;refine ⟨Z1b hA hSl2 q2 hj, ⟨_, Z18 hA q2 hSLj, ?_⟩⟩;cbv;refine Zb hS ?_;refine Za (α := Int × Nat × List D) (fun q => { env := [(1, .v (.map none)), (2, .b 0 0), (5, .o 1 7 N), (7, .b 2 0), (8, .b 3 0), (22, .sl 2 SL), (23, I 2), (24, I j), (30, .sl 3 TL), (31, I (A.oi (A.len TL))), (32, I q.1)], H := [.box (.agg [I s.benches, .sl 3 TL, .sl 1 PL]), .els 7 OL, .box (.agg [.fn f [], .fn g []]), .box (.arr q.2.2)], nt := 133, dfs := [] })
   (fun q => s.tasks.length - q.2.1) (fun q => q.2.1 <= s.tasks.length /\ IsI q.1 q.2.1 /\ q.2.2 = ckD ⟨[0, 0, 0], pad4 ((s.tasks.take q.2.1).map (·.ready)), [0, 0, 0, 0]⟩) (0, 0, ckD ⟨[0, 0, 0], pad4 [], [0, 0, 0, 0]⟩) ⟨Nat.zero_le _, ⟨rfl⟩, rfl⟩ ?_ ?_
  ·refine Z7w 3 (.arr (ckD ⟨[0, 0, 0], pad4 [], [0, 0, 0, 0]⟩)) rfl WkL.rfl ?_;exact Zf [0, 1, 2, 3] ⟨by decide, Z9, ⟨rfl, rfl, rfl, rfl, trivial⟩, ⟨rfl, rfl, rfl, rfl, rfl, rfl, rfl, rfl, rfl, rfl, rfl, trivial⟩, rfl, rfl⟩
  rintro ⟨i, k, CL⟩ ⟨r1, r2, r3⟩;dsimp only at r1 r2 r3;have hlen4 := hv.len;have hCl : CL.length = 11 := by
   rw [r3]; simp [ckD, pad4]; omega
  refine Zi Z0 hA hS ?_;cbv
  split
  ·rename_i c2
   have hk : k < s.tasks.length := Z31 hA hTl r2 c2;obtain ⟨t, ht⟩ : ∃ t, t = s.tasks[k] := ⟨_, rfl⟩;obtain ⟨WL, hWL⟩ : ∃ WL, WL = t.works.map Z14x := ⟨_, rfl⟩;have hTk : TL[k]? = some (.agg [I t.ready, I t.due, .sl 3 WL]) := by rw [hT]; simp [hk, <- ht, hWL, Z14z]
   obtain ⟨CL2, hCL2⟩ : ∃ L, L = CL.set (3 + k) (I t.ready) := ⟨_, rfl⟩;have hset : CL2 = ckD ⟨[0, 0, 0], pad4 ((s.tasks.take (k + 1)).map (·.ready)), [0, 0, 0, 0]⟩ := by
    have := Z17k ((s.tasks.take k).map (·.ready)) t.ready (by simp; omega);rw [hCL2, r3];have hl : ((s.tasks.take k).map (·.ready)).length = k := by simp; omega
    rw [hl] at this;rw [this, List.take_add_one, List.getElem?_eq_getElem hk, <- ht];simp
   have hvw := Zs6 hA 3 r2 hCL2;have hfr : frL CL2 = true := by rw [hset]; exact Z160 _
   cbv;refine ⟨Z1b hA hTl r2 hk, ⟨_, Z18 hA r2 hTk, ?_⟩⟩;cbv;refine ⟨Z4o hA r2 (by omega), Zwm hA 3 r2 hCl (by omega), Zy hA r2 (by omega), ?_⟩;refine Z8 (A.add i 1, k + 1, CL2) [0, 1, 2, 3] ⟨hk, Zz hA r2, hset⟩ (by simp only; omega) ?_;exact ⟨by decide, Z9, ⟨rfl, rfl, rfl, (congrArg (fun z => some (Blk.box (D.arr z))) hvw).trans (Z15t _ hfr), trivial⟩, ⟨rfl, rfl, rfl, rfl, rfl, rfl, rfl, rfl, rfl, rfl, rfl, trivial⟩, rfl, rfl⟩
  ·rename_i c2
   have hk : s.tasks.length <= k := Z21 hA hTl r2 c2;have hk : k = s.tasks.length := by omega
   have r4 : CL = ckD (Z14y s) := by rw [r3, hk, List.take_length]; rfl
   have hfr : frL CL = true := by rw [r4]; exact Z160 _
   cbv;refine Z7 ?_;cbv;refine Zb hS ?_;refine Za (α := Int × Nat × List D × List D) (fun q => { env := [(1, .v (.map none)), (2, .b 0 0), (5, .o 1 7 N), (7, .b 2 0), (8, .b 3 0), (22, .sl 2 SL), (23, I 2), (24, I j), (44, .sl 1 PL), (45, I (A.oi (A.len PL))), (46, I q.1)], H := [.box (.agg [I s.benches, .sl 3 TL, .sl 1 PL]), .els 7 q.2.2.1, .box (.agg [.fn f [], .fn g []]), .box (.arr q.2.2.2)], nt := 133, dfs := [] })
    (fun q => p.length - q.2.1) (fun q => q.2.1 <= p.length /\ IsI q.1 q.2.1 /\ q.2.2.1.length = N /\ (∀ n, n < N -> q.2.2.1[n]? = some (Z14v (slAt s mo p sd q.2.1 n))) /\ q.2.2.2 = ckD (ckAt sd s mo (Z14y s) 0 p q.2.1)) (0, 0, OL, CL) ⟨Nat.zero_le _, ⟨rfl⟩, q3, fun n hn => by rw [q4 n hn, hs0 n hn], r4⟩ ?_ ?_
   ·exact Zf [0, 1, 2, 3] ⟨by decide, Z9, ⟨rfl, rfl, rfl, Z15t _ hfr, trivial⟩, ⟨rfl, rfl, rfl, rfl, rfl, rfl, rfl, rfl, rfl, rfl, rfl, trivial⟩, rfl, rfl⟩
   rintro ⟨a, n, OL', CL'⟩ ⟨u1, u2, u3, u4, u5⟩;dsimp only at u1 u2 u3 u4 u5;have hCl' : CL'.length = 11 := by
    have hc := Z166 (sd := sd) (more := mo) (M := M) hv hp hM.1 hm n u1;rw [u5]; simp [ckD, hc.bn, hc.tk, hc.dn]
   refine Zi Z0 hA hS ?_;cbv
   split
   ·rename_i c3
    have hn : n < p.length := Z31 hA hPl u2 c3;obtain ⟨pi, kN, wb, t, w, tk, bn, sv, hf⟩ := Z16i (sd := sd) hv hp hM hm hpl hn;obtain ⟨piI, hpiI⟩ : ∃ x, IsI x pi := ⟨_, ⟨rfl⟩⟩;obtain ⟨kI, hkI⟩ : ∃ x, IsI x kN := ⟨_, ⟨rfl⟩⟩;have hp4 := hf.p4;have hpt := hf.pt;have hPn : PL[n]? = some (I piI) := by rw [hP, hpiI.eq]; simp [hf.pn]
    have hd : CL'[7 + pi]? = some (I kI) := by rw [u5, hkI.eq]; exact hf.dn
    have htk : CL'[3 + pi]? = some (I tk) := by rw [u5]; exact hf.tkv
    have hbn : CL'[0 + wb]? = some (I bn) := by rw [u5]; exact hf.bnv
    obtain ⟨WL, hWL⟩ : ∃ WL, WL = t.works.map Z14x := ⟨_, rfl⟩;have hWl : WL.length = t.works.length := by rw [hWL]; simp
    have hTp : TL[pi]? = some (.agg [I t.ready, I t.due, .sl 3 WL]) := by rw [hT]; simp [hf.tt, hWL, Z14z]
    have hWk : WL[kN]? = some (.agg [I w.b, I w.lo, I w.hi]) := by rw [hWL]; simp [hf.ww, Z14x]
    obtain ⟨o, ho⟩ : ∃ o, o = slAt s mo p sd n n := ⟨_, rfl⟩;have hNn : n < N := by omega
    have hOn : OL'[n]? = some (Z14v o) := by rw [ho]; exact u4 n hNn
    obtain ⟨oT, oK, oB, oBl, oBh, oEl, oEh⟩ := o;have bx := Z17j hA hf.tkb hf.bnb;have by1 := Z17i hA bx hf.svb;obtain ⟨mv, hmv⟩ : ∃ x : Int, x = mo n := ⟨_, rfl⟩;have bm : Btw 0 (0 : Int) 1000 := ⟨by decide, by decide⟩;have hm0 : mo n = 0 := by rw [hmo]
    obtain ⟨yy, hyy⟩ : ∃ y, y = A.add (A.add (A.max tk bn) sv) 0 := ⟨_, rfl⟩;have hyy2 : yy = max tk bn + sv + mo n := by rw [hyy, hm0, Z58 hA, Z58 hA, Zuq hA]
    obtain ⟨CL2, hCL2⟩ : ∃ L, L = ckD (ckAt sd s mo (Z14y s) 0 p (n + 1)) := ⟨_, rfl⟩;have hset := hCL2.trans (hf.nx yy hyy2);rw [<- u5] at hset;have hfr : frL CL2 = true := by rw [hCL2]; exact Z160 _
    rw [<- (Zz hA hkI).eq, hyy] at hset;obtain ⟨bl1, hbl1⟩ : ∃ x : Int, x = pk sd (A.max tk bn) oBl := ⟨_, rfl⟩;obtain ⟨bh1, hbh1⟩ : ∃ x : Int, x = pk sd oBh (A.max tk bn) := ⟨_, rfl⟩;obtain ⟨el1, hel1⟩ : ∃ x : Int, x = pk sd yy oEl := ⟨_, rfl⟩;obtain ⟨eh1, heh1⟩ : ∃ x : Int, x = pk sd oEh yy := ⟨_, rfl⟩;have hsl : slAt s mo p sd (n + 1) n = ⟨piI, kI, w.b, bl1, bh1, el1, eh1⟩ := by
     rw [hf.sl (A.max tk bn) yy _ (Zuq hA _ _) (by rw [hyy2, Zuq hA]) ho, hbl1, hbh1, hel1, heh1, hpiI.eq, hkI.eq]
    obtain ⟨R0, hR0⟩ : ∃ R, R = A.set (A.set (A.set OL' (A.tn a) (.agg [I piI, I oK, I oB, I oBl, I oBh, I oEl, I oEh])) (A.tn a) (.agg [I piI, I kI, I oB, I oBl, I oBh, I oEl, I oEh])) (A.tn a) (.agg [I piI, I kI, I w.b, I oBl, I oBh, I oEl, I oEh]) := ⟨_, rfl⟩;have hR0l : R0.length = N := by rw [hR0]; exact Z153 hA (Z153 hA (Z153 hA u3))
    have hR0n : R0[A.tn a]? = some (.agg [I piI, I kI, I w.b, I oBl, I oBh, I oEl, I oEh]) := by
     rw [hR0, xset hA]; exact List.getElem?_set_self (by rw [Z153 hA (Z153 hA u3), ytn hA u2]; exact hNn)
    obtain ⟨R1, hR1⟩ : ∃ R1, R1 = R0.set (A.tn a) (.agg [I piI, I kI, I w.b, I bl1, I bh1, I oEl, I oEh]) := ⟨_, rfl⟩;have hR1n : R1[A.tn a]? = some (.agg [I piI, I kI, I w.b, I bl1, I bh1, I oEl, I oEh]) := by
     rw [hR1]; exact List.getElem?_set_self (by rw [ytn hA u2, hR0l]; exact hNn)
    obtain ⟨R2, hR2⟩ : ∃ R2, R2 = R1.set (A.tn a) (.agg [I piI, I kI, I w.b, I bl1, I bh1, I el1, I eh1]) := ⟨_, rfl⟩;have hR2l : R2.length = N := by rw [hR2, List.length_set, hR1, List.length_set, hR0l]
    have hR2k : R2[A.tn a]? = some (.agg [I piI, I kI, I w.b, I bl1, I bh1, I el1, I eh1]) := by
     rw [hR2]; exact List.getElem?_set_self (by rw [ytn hA u2, hR1, List.length_set, hR0l]; exact hNn)
    have hR2n : ∀ m, m < N -> R2[m]? = some (Z14v (slAt s mo p sd (n + 1) m)) := fun m hm' => by
     rw [ytn hA u2] at hR1 hR2 hR0
     by_cases e : m = n
     ·rw [ytn hA u2] at hR2k; rw [e, hsl, hR2k]; rfl
     ·rw [Z179 e, hR2, List.getElem?_set_ne (Ne.symm e), hR1, List.getElem?_set_ne (Ne.symm e), hR0, xset hA, xset hA, xset hA, List.getElem?_set_ne (Ne.symm e), List.getElem?_set_ne (Ne.symm e), List.getElem?_set_ne (Ne.symm e)]; exact u4 m hm'
    cbv;refine ⟨Z1b hA hPl u2 hn, ⟨_, Z18 hA u2 hPn, ?_⟩⟩;cbv;refine ⟨Z4o hA hpiI hp4, ⟨_, Zo9 hA 7 hpiI hd, ?_⟩⟩;cbv;refine ⟨Z1b hA hTl hpiI hpt, ⟨_, Z18 hA hpiI hTp, ?_⟩⟩;cbv;refine ⟨Z1b hA hWl hkI hf.kw, ⟨_, Z18 hA hkI hWk, ?_⟩⟩;cbv;refine Z16 Z0 hA hS [0, 1, 2, 3, 4, 5, 6, 7, 8, 9, 10] rfl rfl fun Dk hD => ?_;cbv;refine ⟨Z4o hA hpiI hp4, ⟨_, Zo9 hA 3 hpiI htk, ?_⟩⟩;cbv;refine ⟨Z4o hA hf.wbi hf.wb3, ⟨_, Zo9 hA 0 hf.wbi hbn, ?_⟩⟩;cbv;refine Z16 Z0 hA hS [0, 1, 2, 3, 4, 7, 8, 9, 5, 6, 10, 11] rfl rfl fun Dk hD => ?_;cbv;refine ⟨[a], rfl, ?_⟩;cbv;refine Zq hA hD [.agg [I w.lo, I w.hi]] [] [] rfl rfl rfl rfl rfl rfl rfl rfl rfl rfl rfl (by decide) trivial (hsd.of w.lo w.hi _ ⟨?_, Zx Z0 hA hD ?_⟩)
    ·cbv; exact ⟨⟨[a], rfl, rfl⟩, trivial⟩
    rw [<- hf.sve];cbv;refine ⟨Z16d hA bx hf.svb (by decide), Z16d hA by1 bm (by decide), ?_⟩;cbv;refine ⟨Z4o hA u2 hNn, ?_⟩;refine Z16 Z0 hA hS [0, 1, 2, 3, 4, 5, 6, 7, 8, 9, 10, 11, 12, 13, 14, 15] rfl rfl fun Dk hD => ?_;cbv;refine ⟨_, Z18 hA u2 hOn, ?_⟩;cbv;refine ⟨_, Z15m hA u2 u3 hNn, ?_⟩;cbv;refine ⟨_, Z15m hA u2 (Z153 hA u3) hNn, ?_⟩;cbv;refine Z16 Z0 hA hS [0, 1, 2, 3, 4, 5, 6] rfl rfl fun Dk hD => ?_;cbv;refine Zq hA hD [.p 0 7 (A.tn a) 3, I (A.max tk bn)] [1] [.els 7 (A.set (A.set (A.set OL' (A.tn a) (.agg [I piI, I oK, I oB, I oBl, I oBh, I oEl, I oEh])) (A.tn a) (.agg [I piI, I kI, I oB, I oBl, I oBh, I oEl, I oEh])) (A.tn a) (.agg [I piI, I kI, I w.b, I oBl, I oBh, I oEl, I oEh]))] rfl rfl rfl rfl rfl rfl rfl rfl rfl rfl rfl (by decide) ⟨rfl, trivial⟩ (hsd.sB (A.tn a) (A.max tk bn) piI kI w.b oBl oBh oEl oEh bl1 bh1 _ R1 _ (hR0 ▸ hR0n) hbl1 hbh1 (hR0 ▸ hR1) fun d1 => ⟨?_, Zx Z0 hA hD ?_⟩)
    ·cbv
    cbv;refine Z16 Z0 hA hS [0, 1, 2, 3, 4, 5, 6] rfl rfl fun Dk hD => ?_;cbv;refine Zq hA hD [.p 0 7 (A.tn a) 5, I (A.add (A.add (A.max tk bn) sv) 0)] [1] [.els 7 R1] rfl rfl rfl rfl rfl rfl rfl rfl rfl rfl rfl (by decide) ⟨rfl, trivial⟩ (hsd.sE (A.tn a) (A.add (A.add (A.max tk bn) sv) 0) piI kI w.b bl1 bh1 oEl oEh el1 eh1 _ R2 _ hR1n (hyy ▸ hel1) (hyy ▸ heh1) hR2 fun d2 => ⟨?_, Zx Z0 hA hD ?_⟩)
    ·cbv
    cbv;refine Z16 Z0 hA hS [0, 1, 2, 3, 4, 5, 6, 7, 8, 11, 14, 9, 10, 12, 13, 15, 16] rfl rfl fun Dk hD => ?_;cbv;have hpj : A.ltN (A.addN 0 (A.mulN (A.tn w.b) 1)) (A.set CL' (A.addN 3 (A.mulN (A.tn piI) 1)) (I (A.add (A.add (A.max tk bn) sv) 0))) := Zwm hA 0 hf.wbi (m := 11) (by rw [xset hA, List.length_set]; exact hCl') (by have := hf.wb3; omega);have hpk : A.ltN (A.addN 7 (A.mulN (A.tn piI) 1)) (A.set (A.set CL' (A.addN 3 (A.mulN (A.tn piI) 1)) (I (A.add (A.add (A.max tk bn) sv) 0))) (A.addN 0 (A.mulN (A.tn w.b) 1)) (I (A.add (A.add (A.max tk bn) sv) 0))) := Zwm hA 7 hpiI (m := 11) (by rw [xset hA, List.length_set, xset hA, List.length_set]; exact hCl') (by omega);refine ⟨Zy hA hkI (by have := hf.kl; omega), Z4o hA hpiI hp4, Zwm hA 3 hpiI hCl' (by omega), Z4o hA hf.wbi hf.wb3, hpj, Z4o hA hpiI hp4, hpk, Zy hA u2 (by omega), ?_⟩;refine Z8 (A.add a 1, n + 1, R2, CL2) [0, 1, 2, 3] ⟨hn, Zz hA u2, hR2l, hR2n, hCL2⟩ (by simp only; omega) ?_;exact ⟨by decide, Z9, ⟨rfl, rfl, rfl, Z17a hA hpiI hf.wbi hset _ hfr, trivial⟩, ⟨rfl, rfl, rfl, rfl, rfl, rfl, rfl, rfl, rfl, rfl, rfl, trivial⟩, rfl, rfl⟩
   ·rename_i c3
    have hn : p.length <= n := Z21 hA hPl u2 c3;have hn2 : n = N := by omega
    cbv;refine Z7 ?_;cbv;refine ⟨Zy hA q2 (by omega), ?_⟩;refine Z8 (A.add j 1, jn + 1, OL') [0, 1] ⟨hj, Zz hA q2, u3, fun m hm' => by rw [hs1 m hm', <- hn2]; exact u4 m hm'⟩ (by simp only; omega) ?_;exact ⟨by decide, Z9, ⟨rfl, rfl, trivial⟩, ⟨rfl, rfl, rfl, rfl, rfl, rfl, trivial⟩, rfl, rfl⟩
 ·rename_i c
  have hj : 2 <= jn := Z197 hA 2 q2 c;have hj2 : jn = 2 := by omega
  have hOL : OL = (runS s mo p).map Z14v := by
   refine List.ext_getElem? fun m => ?_
   by_cases h : m < N
   ·rw [q4 m h, hst, hj2];simp only [runS, List.map_map, List.getElem?_map];rw [List.getElem?_range (by omega)];simp [slAt, h]
   ·rw [List.getElem?_eq_none (by omega), List.getElem?_eq_none (by simp [runS]; omega)]
  cbv;refine Z7 ?_;cbv;refine Z1w [1] ?_;cbv;refine ⟨by cases OL <;> exact q3.symm, ?_⟩;rw [<- hOL] at hq;exact Z2 [] (by decide) Z9 (H' := []) (d' := .sl 7 OL) trivial rfl (Z1 hq)
set_option maxRecDepth 20000 in
set_option maxHeartbeats 4000000 in
theorem Z1pk (s : Sh) (hv : Val s) (p : List Nat) (hp : PlanLe s p) (hpl : p.length <= 20) (TL PL : List D) (hT : TL = s.tasks.map Z14z) (hP : PL = p.map (fun i => I (i : Nat))) (mo : Nat -> Int) (M : Int) (hM : 0 <= M /\ M <= 1000) (hm : ∀ a, 0 <= mo a /\ mo a <= M) (ents : List (List Int × D)) (hen : ∀ (a : Int) n, IsI a n -> n < p.length -> ∀ {A : Ar}, A = ar -> A.mget ents [a] (I 0) = some (I (mo n))) (Q)
  (hq : Q (RA.ret (.sl 7 ((runS s mo p).map Z14v))) [.ob (.mp 0 ents)]) : CallA Tryz.prog 119 [.agg [I s.benches, .sl 3 TL, .sl 1 PL], .mv 0] [.ob (.mp 0 ents)] Q := by
 obtain ⟨A, hA⟩ : ∃ A, A = ar := ⟨_, rfl⟩;have hTl : TL.length = s.tasks.length := by rw [hT]; simp
 have hPl : PL.length = p.length := by rw [hP]; simp
 have hr0 : 0 <= ((PL.length : Nat) : Int) := by omega
 have hr1 : PL.length * 56 <= 140737488355328 /\ PL.length <= 4611686018427387904 := by omega
 refine Z5 Z0 hA Tryz.func119 rfl rfl rfl rfl rfl fun S hS => ?_;cbv;refine ⟨by subst hA; exact hr0, by subst hA; exact hr1, ?_⟩;refine Z4 hS [] [] [] rfl rfl rfl rfl rfl rfl rfl rfl (by decide) trivial (Z19b _ ?_);refine Z3 Z0 hA hS ?_;cbv;refine Zb hS ?_;obtain ⟨SL, hSL⟩ : ∃ SL : List D, SL = [.agg [.fn 180 [], .fn 181 []], .agg [.fn 182 [], .fn 183 []]] := ⟨_, rfl⟩;have hSl2 : SL.length = 2 := by rw [hSL]; rfl
 obtain ⟨N, hN⟩ : ∃ N, N = p.length := ⟨_, rfl⟩;obtain ⟨st, hst⟩ : ∃ st : Nat -> Nat -> Sl, st = fun j n => slAt s mo p (decide (1 <= j)) (if 2 <= j then N else 0) n := ⟨_, rfl⟩;have hside : ∀ jn, jn < 2 -> ∃ f g sd, SideOk f g sd /\ SL[jn]? = some (.agg [.fn f [], .fn g []]) /\ (∀ n, n < N -> st jn n = slAt s mo p sd 0 n) /\ (∀ n, n < N -> st (jn + 1) n = slAt s mo p sd N n) := fun jn hj => by
  match jn, hj with
  | 0, _ => exact ⟨180, 181, false, Z199, by rw [hSL]; rfl, fun n hn => by rw [hst]; rfl, fun n hn => by rw [hst]; simp [slAt, hn]⟩
  | 1, _ => exact ⟨182, 183, true, Z19a, by rw [hSL]; rfl, fun n hn => by rw [hst]; rfl, fun n hn => by rw [hst]; rfl⟩
 have hPN : PL.length = N := by omega
 refine Za (α := Int × Nat × List D) (fun q => { env := [(1, .mv 0), (2, .b 1 0), (5, .o 2 7 N), (22, .sl 2 SL), (23, I 2), (24, I q.1)], H := [.ob (.mp 0 ents), .box (.agg [I s.benches, .sl 3 TL, .sl 1 PL]), .els 7 q.2.2], nt := 133, dfs := [] })
  (fun q => 2 - q.2.1) (fun q => q.2.1 <= 2 /\ IsI q.1 q.2.1 /\ q.2.2.length = N /\ ∀ n, n < N -> q.2.2[n]? = some (Z14v (st q.2.1 n))) (0, 0, List.replicate PL.length (Z14v ⟨0, 0, 0, 0, 0, 0, 0⟩)) ⟨Nat.zero_le _, ⟨rfl⟩, by simp; omega, fun n hn => ?_⟩ ?_ ?_
 ·subst hst;simp only [List.getElem?_replicate];rw [if_pos (by omega)];simp [slAt]
 ·exact Zf [0, 1, 2] ⟨by decide, Z2n, ⟨rfl, rfl, by subst hA; rfl, trivial⟩, ⟨rfl, rfl, by subst hA; rw [<- hPN]; rfl, by rw [hSL]; rfl, by subst hA; rfl, rfl, trivial⟩, rfl, rfl⟩
 rintro ⟨j, jn, OL⟩ ⟨q1, q2, q3, q4⟩;dsimp only at q1 q2 q3 q4;refine Zi Z0 hA hS ?_;cbv
 split
 ·rename_i c
  have hj : jn < 2 := yltC hA 2 q2 c;obtain ⟨f, g, sd, hsd, hSLj, hs0, hs1⟩ := hside jn hj;cbv;refine ⟨Z1b hA hSl2 q2 hj, ⟨_, Z18 hA q2 hSLj, ?_⟩⟩;cbv;refine Zb hS ?_;refine Za (α := Int × Nat × List D) (fun q => { env := [(1, .mv 0), (2, .b 1 0), (5, .o 2 7 N), (7, .b 3 0), (8, .b 4 0), (22, .sl 2 SL), (23, I 2), (24, I j), (30, .sl 3 TL), (31, I (A.oi (A.len TL))), (32, I q.1)], H := [.ob (.mp 0 ents), .box (.agg [I s.benches, .sl 3 TL, .sl 1 PL]), .els 7 OL, .box (.agg [.fn f [], .fn g []]), .box (.arr q.2.2)], nt := 133, dfs := [] })
   (fun q => s.tasks.length - q.2.1) (fun q => q.2.1 <= s.tasks.length /\ IsI q.1 q.2.1 /\ q.2.2 = ckD ⟨[0, 0, 0], pad4 ((s.tasks.take q.2.1).map (·.ready)), [0, 0, 0, 0]⟩) (0, 0, ckD ⟨[0, 0, 0], pad4 [], [0, 0, 0, 0]⟩) ⟨Nat.zero_le _, ⟨rfl⟩, rfl⟩ ?_ ?_
  ·refine Z7w 4 (.arr (ckD ⟨[0, 0, 0], pad4 [], [0, 0, 0, 0]⟩)) rfl WkL.rfl ?_;exact Zf [0, 1, 2, 3, 4] ⟨by decide, Z2n, ⟨rfl, rfl, rfl, rfl, rfl, trivial⟩, ⟨rfl, rfl, rfl, rfl, rfl, rfl, rfl, rfl, rfl, rfl, rfl, trivial⟩, rfl, rfl⟩
  rintro ⟨i, k, CL⟩ ⟨r1, r2, r3⟩;dsimp only at r1 r2 r3;have hlen4 := hv.len;have hCl : CL.length = 11 := by
   rw [r3]; simp [ckD, pad4]; omega
  refine Zi Z0 hA hS ?_;cbv
  split
  ·rename_i c2
   have hk : k < s.tasks.length := Z31 hA hTl r2 c2;obtain ⟨t, ht⟩ : ∃ t, t = s.tasks[k] := ⟨_, rfl⟩;obtain ⟨WL, hWL⟩ : ∃ WL, WL = t.works.map Z14x := ⟨_, rfl⟩;have hTk : TL[k]? = some (.agg [I t.ready, I t.due, .sl 3 WL]) := by rw [hT]; simp [hk, <- ht, hWL, Z14z]
   obtain ⟨CL2, hCL2⟩ : ∃ L, L = CL.set (3 + k) (I t.ready) := ⟨_, rfl⟩;have hset : CL2 = ckD ⟨[0, 0, 0], pad4 ((s.tasks.take (k + 1)).map (·.ready)), [0, 0, 0, 0]⟩ := by
    have := Z17k ((s.tasks.take k).map (·.ready)) t.ready (by simp; omega);rw [hCL2, r3];have hl : ((s.tasks.take k).map (·.ready)).length = k := by simp; omega
    rw [hl] at this;rw [this, List.take_add_one, List.getElem?_eq_getElem hk, <- ht];simp
   have hvw := Zs6 hA 3 r2 hCL2;have hfr : frL CL2 = true := by rw [hset]; exact Z160 _
   cbv;refine ⟨Z1b hA hTl r2 hk, ⟨_, Z18 hA r2 hTk, ?_⟩⟩;cbv;refine ⟨Z4o hA r2 (by omega), Zwm hA 3 r2 hCl (by omega), Zy hA r2 (by omega), ?_⟩;refine Z8 (A.add i 1, k + 1, CL2) [0, 1, 2, 3, 4] ⟨hk, Zz hA r2, hset⟩ (by simp only; omega) ?_;exact ⟨by decide, Z2n, ⟨rfl, rfl, rfl, rfl, (congrArg (fun z => some (Blk.box (D.arr z))) hvw).trans (Z15t _ hfr), trivial⟩, ⟨rfl, rfl, rfl, rfl, rfl, rfl, rfl, rfl, rfl, rfl, rfl, trivial⟩, rfl, rfl⟩
  ·rename_i c2
   have hk : s.tasks.length <= k := Z21 hA hTl r2 c2;have hk : k = s.tasks.length := by omega
   have r4 : CL = ckD (Z14y s) := by rw [r3, hk, List.take_length]; rfl
   have hfr : frL CL = true := by rw [r4]; exact Z160 _
   cbv;refine Z7 ?_;cbv;refine Zb hS ?_;refine Za (α := Int × Nat × List D × List D) (fun q => { env := [(1, .mv 0), (2, .b 1 0), (5, .o 2 7 N), (7, .b 3 0), (8, .b 4 0), (22, .sl 2 SL), (23, I 2), (24, I j), (44, .sl 1 PL), (45, I (A.oi (A.len PL))), (46, I q.1)], H := [.ob (.mp 0 ents), .box (.agg [I s.benches, .sl 3 TL, .sl 1 PL]), .els 7 q.2.2.1, .box (.agg [.fn f [], .fn g []]), .box (.arr q.2.2.2)], nt := 133, dfs := [] })
    (fun q => p.length - q.2.1) (fun q => q.2.1 <= p.length /\ IsI q.1 q.2.1 /\ q.2.2.1.length = N /\ (∀ n, n < N -> q.2.2.1[n]? = some (Z14v (slAt s mo p sd q.2.1 n))) /\ q.2.2.2 = ckD (ckAt sd s mo (Z14y s) 0 p q.2.1)) (0, 0, OL, CL) ⟨Nat.zero_le _, ⟨rfl⟩, q3, fun n hn => by rw [q4 n hn, hs0 n hn], r4⟩ ?_ ?_
   ·exact Zf [0, 1, 2, 3, 4] ⟨by decide, Z2n, ⟨rfl, rfl, rfl, rfl, Z15t _ hfr, trivial⟩, ⟨rfl, rfl, rfl, rfl, rfl, rfl, rfl, rfl, rfl, rfl, rfl, trivial⟩, rfl, rfl⟩
   rintro ⟨a, n, OL', CL'⟩ ⟨u1, u2, u3, u4, u5⟩;dsimp only at u1 u2 u3 u4 u5;have hCl' : CL'.length = 11 := by
    have hc := Z166 (sd := sd) (more := mo) (M := M) hv hp hM.1 hm n u1;rw [u5]; simp [ckD, hc.bn, hc.tk, hc.dn]
   refine Zi Z0 hA hS ?_;cbv
   split
   ·rename_i c3
    have hn : n < p.length := Z31 hA hPl u2 c3;obtain ⟨pi, kN, wb, t, w, tk, bn, sv, hf⟩ := Z16i (sd := sd) hv hp hM hm hpl hn;obtain ⟨piI, hpiI⟩ : ∃ x, IsI x pi := ⟨_, ⟨rfl⟩⟩;obtain ⟨kI, hkI⟩ : ∃ x, IsI x kN := ⟨_, ⟨rfl⟩⟩;have hp4 := hf.p4;have hpt := hf.pt;have hPn : PL[n]? = some (I piI) := by rw [hP, hpiI.eq]; simp [hf.pn]
    have hd : CL'[7 + pi]? = some (I kI) := by rw [u5, hkI.eq]; exact hf.dn
    have htk : CL'[3 + pi]? = some (I tk) := by rw [u5]; exact hf.tkv
    have hbn : CL'[0 + wb]? = some (I bn) := by rw [u5]; exact hf.bnv
    obtain ⟨WL, hWL⟩ : ∃ WL, WL = t.works.map Z14x := ⟨_, rfl⟩;have hWl : WL.length = t.works.length := by rw [hWL]; simp
    have hTp : TL[pi]? = some (.agg [I t.ready, I t.due, .sl 3 WL]) := by rw [hT]; simp [hf.tt, hWL, Z14z]
    have hWk : WL[kN]? = some (.agg [I w.b, I w.lo, I w.hi]) := by rw [hWL]; simp [hf.ww, Z14x]
    obtain ⟨o, ho⟩ : ∃ o, o = slAt s mo p sd n n := ⟨_, rfl⟩;have hNn : n < N := by omega
    have hOn : OL'[n]? = some (Z14v o) := by rw [ho]; exact u4 n hNn
    obtain ⟨oT, oK, oB, oBl, oBh, oEl, oEh⟩ := o;have bx := Z17j hA hf.tkb hf.bnb;have by1 := Z17i hA bx hf.svb;obtain ⟨mv, hmv⟩ : ∃ x, x = mo n := ⟨_, rfl⟩;have bm : Btw 0 mv 1000 := by rw [hmv]; have := hm n; exact ⟨by omega, by omega⟩
    obtain ⟨yy, hyy⟩ : ∃ y, y = A.add (A.add (A.max tk bn) sv) mv := ⟨_, rfl⟩;have hyy2 : yy = max tk bn + sv + mo n := by rw [hyy, <- hmv, Z58 hA, Z58 hA, Zuq hA]
    obtain ⟨CL2, hCL2⟩ : ∃ L, L = ckD (ckAt sd s mo (Z14y s) 0 p (n + 1)) := ⟨_, rfl⟩;have hset := hCL2.trans (hf.nx yy hyy2);rw [<- u5] at hset;have hfr : frL CL2 = true := by rw [hCL2]; exact Z160 _
    rw [<- (Zz hA hkI).eq, hyy] at hset;obtain ⟨bl1, hbl1⟩ : ∃ x : Int, x = pk sd (A.max tk bn) oBl := ⟨_, rfl⟩;obtain ⟨bh1, hbh1⟩ : ∃ x : Int, x = pk sd oBh (A.max tk bn) := ⟨_, rfl⟩;obtain ⟨el1, hel1⟩ : ∃ x : Int, x = pk sd yy oEl := ⟨_, rfl⟩;obtain ⟨eh1, heh1⟩ : ∃ x : Int, x = pk sd oEh yy := ⟨_, rfl⟩;have hsl : slAt s mo p sd (n + 1) n = ⟨piI, kI, w.b, bl1, bh1, el1, eh1⟩ := by
     rw [hf.sl (A.max tk bn) yy _ (Zuq hA _ _) (by rw [hyy2, Zuq hA]) ho, hbl1, hbh1, hel1, heh1, hpiI.eq, hkI.eq]
    obtain ⟨R0, hR0⟩ : ∃ R, R = A.set (A.set (A.set OL' (A.tn a) (.agg [I piI, I oK, I oB, I oBl, I oBh, I oEl, I oEh])) (A.tn a) (.agg [I piI, I kI, I oB, I oBl, I oBh, I oEl, I oEh])) (A.tn a) (.agg [I piI, I kI, I w.b, I oBl, I oBh, I oEl, I oEh]) := ⟨_, rfl⟩;have hR0l : R0.length = N := by rw [hR0]; exact Z153 hA (Z153 hA (Z153 hA u3))
    have hR0n : R0[A.tn a]? = some (.agg [I piI, I kI, I w.b, I oBl, I oBh, I oEl, I oEh]) := by
     rw [hR0, xset hA]; exact List.getElem?_set_self (by rw [Z153 hA (Z153 hA u3), ytn hA u2]; exact hNn)
    obtain ⟨R1, hR1⟩ : ∃ R1, R1 = R0.set (A.tn a) (.agg [I piI, I kI, I w.b, I bl1, I bh1, I oEl, I oEh]) := ⟨_, rfl⟩;have hR1n : R1[A.tn a]? = some (.agg [I piI, I kI, I w.b, I bl1, I bh1, I oEl, I oEh]) := by
     rw [hR1]; exact List.getElem?_set_self (by rw [ytn hA u2, hR0l]; exact hNn)
    obtain ⟨R2, hR2⟩ : ∃ R2, R2 = R1.set (A.tn a) (.agg [I piI, I kI, I w.b, I bl1, I bh1, I el1, I eh1]) := ⟨_, rfl⟩;have hR2l : R2.length = N := by rw [hR2, List.length_set, hR1, List.length_set, hR0l]
    have hR2k : R2[A.tn a]? = some (.agg [I piI, I kI, I w.b, I bl1, I bh1, I el1, I eh1]) := by
     rw [hR2]; exact List.getElem?_set_self (by rw [ytn hA u2, hR1, List.length_set, hR0l]; exact hNn)
    have hR2n : ∀ m, m < N -> R2[m]? = some (Z14v (slAt s mo p sd (n + 1) m)) := fun m hm' => by
     rw [ytn hA u2] at hR1 hR2 hR0
     by_cases e : m = n
     ·rw [ytn hA u2] at hR2k; rw [e, hsl, hR2k]; rfl
     ·rw [Z179 e, hR2, List.getElem?_set_ne (Ne.symm e), hR1, List.getElem?_set_ne (Ne.symm e), hR0, xset hA, xset hA, xset hA, List.getElem?_set_ne (Ne.symm e), List.getElem?_set_ne (Ne.symm e), List.getElem?_set_ne (Ne.symm e)]; exact u4 m hm'
    cbv;refine ⟨Z1b hA hPl u2 hn, ⟨_, Z18 hA u2 hPn, ?_⟩⟩;cbv;refine ⟨Z4o hA hpiI hp4, ⟨_, Zo9 hA 7 hpiI hd, ?_⟩⟩;cbv;refine ⟨Z1b hA hTl hpiI hpt, ⟨_, Z18 hA hpiI hTp, ?_⟩⟩;cbv;refine ⟨Z1b hA hWl hkI hf.kw, ⟨_, Z18 hA hkI hWk, ?_⟩⟩;cbv;refine Z16 Z0 hA hS [0, 1, 2, 3, 4, 5, 6, 7, 8, 9, 10] rfl rfl fun Dk hD => ?_;cbv;refine ⟨Z4o hA hpiI hp4, ⟨_, Zo9 hA 3 hpiI htk, ?_⟩⟩;cbv;refine ⟨Z4o hA hf.wbi hf.wb3, ⟨_, Zo9 hA 0 hf.wbi hbn, ?_⟩⟩;cbv;refine Z16 Z0 hA hS [0, 1, 2, 3, 4, 7, 8, 9, 5, 6, 10, 11] rfl rfl fun Dk hD => ?_;cbv;refine ⟨[a], rfl, ⟨I mv, (hen a n u2 hn hA).trans (by rw [hmv]), ?_⟩⟩;cbv;refine Zq hA hD [.agg [I w.lo, I w.hi]] [] [] rfl rfl rfl rfl rfl rfl rfl rfl rfl rfl rfl (by decide) trivial (hsd.of w.lo w.hi _ ⟨?_, Zx Z0 hA hD ?_⟩)
    ·cbv; exact ⟨⟨[a], rfl, ⟨I mv, (hen a n u2 hn hA).trans (by rw [hmv]), rfl⟩⟩, trivial⟩
    rw [<- hf.sve];cbv;refine ⟨Z16d hA bx hf.svb (by decide), Z16d hA by1 bm (by decide), ?_⟩;cbv;refine ⟨Z4o hA u2 hNn, ?_⟩;refine Z16 Z0 hA hS [0, 1, 2, 3, 4, 5, 6, 7, 8, 9, 10, 11, 12, 13, 14, 15] rfl rfl fun Dk hD => ?_;cbv;refine ⟨_, Z18 hA u2 hOn, ?_⟩;cbv;refine ⟨_, Z15m hA u2 u3 hNn, ?_⟩;cbv;refine ⟨_, Z15m hA u2 (Z153 hA u3) hNn, ?_⟩;cbv;refine Z16 Z0 hA hS [0, 1, 2, 3, 4, 5, 6] rfl rfl fun Dk hD => ?_;cbv;refine Zq hA hD [.p 0 7 (A.tn a) 3, I (A.max tk bn)] [2] [.els 7 (A.set (A.set (A.set OL' (A.tn a) (.agg [I piI, I oK, I oB, I oBl, I oBh, I oEl, I oEh])) (A.tn a) (.agg [I piI, I kI, I oB, I oBl, I oBh, I oEl, I oEh])) (A.tn a) (.agg [I piI, I kI, I w.b, I oBl, I oBh, I oEl, I oEh]))] rfl rfl rfl rfl rfl rfl rfl rfl rfl rfl rfl (by decide) ⟨rfl, trivial⟩ (hsd.sB (A.tn a) (A.max tk bn) piI kI w.b oBl oBh oEl oEh bl1 bh1 _ R1 _ (hR0 ▸ hR0n) hbl1 hbh1 (hR0 ▸ hR1) fun d1 => ⟨?_, Zx Z0 hA hD ?_⟩)
    ·cbv
    cbv;refine Z16 Z0 hA hS [0, 1, 2, 3, 4, 5, 6] rfl rfl fun Dk hD => ?_;cbv;refine Zq hA hD [.p 0 7 (A.tn a) 5, I (A.add (A.add (A.max tk bn) sv) mv)] [2] [.els 7 R1] rfl rfl rfl rfl rfl rfl rfl rfl rfl rfl rfl (by decide) ⟨rfl, trivial⟩ (hsd.sE (A.tn a) (A.add (A.add (A.max tk bn) sv) mv) piI kI w.b bl1 bh1 oEl oEh el1 eh1 _ R2 _ hR1n (hyy ▸ hel1) (hyy ▸ heh1) hR2 fun d2 => ⟨?_, Zx Z0 hA hD ?_⟩)
    ·cbv
    cbv;refine Z16 Z0 hA hS [0, 1, 2, 3, 4, 5, 6, 7, 8, 11, 14, 9, 10, 12, 13, 15, 16] rfl rfl fun Dk hD => ?_;cbv;have hpj : A.ltN (A.addN 0 (A.mulN (A.tn w.b) 1)) (A.set CL' (A.addN 3 (A.mulN (A.tn piI) 1)) (I (A.add (A.add (A.max tk bn) sv) mv))) := Zwm hA 0 hf.wbi (m := 11) (by rw [xset hA, List.length_set]; exact hCl') (by have := hf.wb3; omega);have hpk : A.ltN (A.addN 7 (A.mulN (A.tn piI) 1)) (A.set (A.set CL' (A.addN 3 (A.mulN (A.tn piI) 1)) (I (A.add (A.add (A.max tk bn) sv) mv))) (A.addN 0 (A.mulN (A.tn w.b) 1)) (I (A.add (A.add (A.max tk bn) sv) mv))) := Zwm hA 7 hpiI (m := 11) (by rw [xset hA, List.length_set, xset hA, List.length_set]; exact hCl') (by omega);refine ⟨Zy hA hkI (by have := hf.kl; omega), Z4o hA hpiI hp4, Zwm hA 3 hpiI hCl' (by omega), Z4o hA hf.wbi hf.wb3, hpj, Z4o hA hpiI hp4, hpk, Zy hA u2 (by omega), ?_⟩;refine Z8 (A.add a 1, n + 1, R2, CL2) [0, 1, 2, 3, 4] ⟨hn, Zz hA u2, hR2l, hR2n, hCL2⟩ (by simp only; omega) ?_;exact ⟨by decide, Z2n, ⟨rfl, rfl, rfl, rfl, Z17a hA hpiI hf.wbi hset _ hfr, trivial⟩, ⟨rfl, rfl, rfl, rfl, rfl, rfl, rfl, rfl, rfl, rfl, rfl, trivial⟩, rfl, rfl⟩
   ·rename_i c3
    have hn : p.length <= n := Z21 hA hPl u2 c3;have hn2 : n = N := by omega
    cbv;refine Z7 ?_;cbv;refine ⟨Zy hA q2 (by omega), ?_⟩;refine Z8 (A.add j 1, jn + 1, OL') [0, 1, 2] ⟨hj, Zz hA q2, u3, fun m hm' => by rw [hs1 m hm', <- hn2]; exact u4 m hm'⟩ (by simp only; omega) ?_;exact ⟨by decide, Z2n, ⟨rfl, rfl, rfl, trivial⟩, ⟨rfl, rfl, rfl, rfl, rfl, rfl, trivial⟩, rfl, rfl⟩
 ·rename_i c
  have hj : 2 <= jn := Z197 hA 2 q2 c;have hj2 : jn = 2 := by omega
  have hOL : OL = (runS s mo p).map Z14v := by
   refine List.ext_getElem? fun m => ?_
   by_cases h : m < N
   ·rw [q4 m h, hst, hj2];simp only [runS, List.map_map, List.getElem?_map];rw [List.getElem?_range (by omega)];simp [slAt, h]
   ·rw [List.getElem?_eq_none (by omega), List.getElem?_eq_none (by simp [runS]; omega)]
  cbv;refine Z7 ?_;cbv;refine Z1w [2] ?_;cbv;refine ⟨by cases OL <;> exact q3.symm, ?_⟩;rw [<- hOL] at hq;exact Z2 [0] (by decide) Z2n (H' := [.ob (.mp 0 ents)]) (d' := .sl 7 OL) ⟨rfl, trivial⟩ rfl (Z1 hq)
end Go.Proofs.YthljpccegkmdnaaGreatDoor.Bn
