/- Part RunQ of the proofs about the benches of the accordion maker: see the last text of the claim for what is proved. -/
import Derived.Test.YtegjabljeepbdaaGreatDoorRunK
import Derived.Test.YtegjabljeepbdaaGreatDoorRunP
import Derived.Test.YtegjabljeepbdaaGreatDoorRunH
import Derived.Test.YtegjabljeepbdaaGreatDoorRunJ
import Derived.Test.YtegjabljeepbdaaGreatDoorRunL
import Derived.Test.YtegjabljeepbdaaGreatDoorRunO
set_option linter.unusedVariables false
set_option linter.unusedSimpArgs false
set_option linter.unnecessarySimpa false
set_option linter.constructorNameAsVariable false

namespace Go.Proofs.YtegjabljeepbdaaGreatDoor.Bn
open Go Go.Abs Go.Proofs
def Z15w (l : List Nat) : List D := l.map fun i => I (i : Nat)
end Go.Proofs.YtegjabljeepbdaaGreatDoor.Bn

namespace Go.Proofs.YtegjabljeepbdaaGreatDoor.Bn
open Go Go.Abs Go.Proofs
def ff : Nat -> Bool := fun _ => false
theorem Z155 {α : Type} (l : List α) (x d : α) (j : Nat) : (l ++ [x]).getD j d = if j = l.length then x else l.getD j d := by
 rw [List.getD_eq_getElem?_getD, List.getD_eq_getElem?_getD]
 by_cases h : j < l.length
 ·rw [List.getElem?_append_left h, if_neg (by omega)]
 ·by_cases e : j = l.length
  ·subst e; rw [if_pos rfl, List.getElem?_append_right (Nat.le_refl _), Nat.sub_self]; rfl
  ·rw [if_neg e, List.getElem?_eq_none (by simp; omega), List.getElem?_eq_none (by omega)]
theorem Z17w {ts : List Tk} {xs : List Value} (hl : xs.length = ts.length) (t : Tk) (x : Value) : ownE (ts ++ [t]) (xs ++ [x]) ff = ownE ts xs ff ++ [.agg [I t.ready, I t.due, .v x]] := by
 refine List.ext_getElem? fun j => ?_
 by_cases hj : j < xs.length
 ·rw [List.getElem?_append_left (by rw [ownE_len]; exact hj), Z15v (by simp; omega), Z15v hj];have e1 : (ts ++ [t]).getD j tkZ = ts.getD j tkZ := by rw [Z155, if_neg (by omega)]
  have e2 : (xs ++ [x]).getD j Z5t = xs.getD j Z5t := by rw [Z155, if_neg (by omega)]
  unfold elT;rw [e1, e2]
 ·by_cases e : j = xs.length
  ·subst e;rw [List.getElem?_append_right (by rw [ownE_len]; exact Nat.le_refl _), ownE_len, Nat.sub_self, Z15v (by simp)];have e1 : (ts ++ [t]).getD xs.length tkZ = t := by rw [Z155, if_pos hl]
   have e2 : (xs ++ [x]).getD xs.length Z5t = x := by rw [Z155, if_pos rfl]
   unfold elT;rw [e1, e2]; rfl
  ·rw [List.getElem?_eq_none (by rw [ownE_len]; simp; omega), List.getElem?_eq_none (by rw [List.length_append, ownE_len]; simp; omega)]
theorem Z16r {ts : List Tk} {xs : List Value} {j : Nat} (h : j < xs.length) : (ownN ts xs ff)[j]? = some (xs.getD j Z5t, some ((ts.getD j tkZ).works.map Z14x)) := by
 rw [ownN, Z15r h, Z15h]; rfl
theorem Z17x {ts : List Tk} {xs : List Value} (hl : xs.length = ts.length) (t : Tk) (x : Value) : ownN (ts ++ [t]) (xs ++ [x]) ff = ownN ts xs ff ++ [(x, some (t.works.map Z14x))] := by
 refine List.ext_getElem? fun j => ?_
 by_cases hj : j < xs.length
 ·rw [List.getElem?_append_left (by rw [Z15a]; exact hj), Z16r (by simp; omega), Z16r hj];have e1 : (ts ++ [t]).getD j tkZ = ts.getD j tkZ := by rw [Z155, if_neg (by omega)]
  have e2 : (xs ++ [x]).getD j Z5t = xs.getD j Z5t := by rw [Z155, if_neg (by omega)]
  rw [e1, e2]
 ·by_cases e : j = xs.length
  ·subst e;rw [List.getElem?_append_right (by rw [Z15a]; exact Nat.le_refl _), Z15a, Nat.sub_self, Z16r (by simp)];have e1 : (ts ++ [t]).getD xs.length tkZ = t := by rw [Z155, if_pos hl]
   have e2 : (xs ++ [x]).getD xs.length Z5t = x := by rw [Z155, if_pos rfl]
   rw [e1, e2]; rfl
  ·rw [List.getElem?_eq_none (by rw [Z15a]; simp; omega), List.getElem?_eq_none (by rw [List.length_append, Z15a]; simp; omega)]
set_option maxRecDepth 20000 in
set_option maxHeartbeats 8000000 in
theorem shopOfG (x tasks works : Int) (ht : 0 <= tasks /\ tasks <= 4) (hw : 0 <= works /\ works <= 8) (Q) (hq : ∀ s xs es gn N x', OkS tasks.toNat works.toNat s -> xs.length = s.tasks.length -> N = s.tasks.length -> es = ownE s.tasks xs ff -> gn = ownN s.tasks xs ff -> Q (RA.ret (.agg [I s.benches, .o 1 3 N])) [pot x', .els 3 es, .ob (.gr 3 gn)]) :
  CallA Tryz.prog 8 [.b 0 0, I tasks, I works] [pot x] Q := by
 obtain ⟨A, hA⟩ : ∃ A, A = ar := ⟨_, rfl⟩;refine Z38 Z0 hA [] Tryz.func8 rfl rfl rfl rfl rfl fun S hS => ?_;cbv;refine Z4 hS [.b 0 0, I 1, I 3] [0] [pot x] rfl rfl rfl rfl rfl rfl rfl rfl (by decide) ⟨rfl, trivial⟩ (Zn3 x 1 3 (by decide) _ fun b xb hb1 hb2 => ?_);refine Z3 Z0 hA hS ?_;cbv;have e4 : A.min tasks 4 = tasks := by subst hA; show (if _ then _ else _) = _; split <;> omega
 refine Z4 hS [.b 0 0, I (A.min tasks 4)] [0] [pot xb] rfl rfl rfl rfl rfl rfl rfl rfl (by decide) ⟨rfl, trivial⟩ (Zj0 xb _ (by rw [e4]; omega) _ fun i0 xi hi1 hi2 => ?_);rw [e4] at hi2;refine Z3 Z0 hA hS ?_;cbv;have e8 : A.min works 8 = works := by subst hA; show (if _ then _ else _) = _; split <;> omega
 refine Zb hS ?_;refine Za (α := Int × Int × List Tk × List D × Nat × Int × List Value × List Ent) (fun p => { env := [(0, .b 0 0), (6, .b 1 0), (7, .b 2 0), (8, I p.2.1), (9, I p.1)], H := [pot p.2.2.2.2.2.1, .box (.agg [I 0, .v (.slice none 0 0)]), .box (.agg [I b, .o 3 3 p.2.2.2.2.1]), .els 3 p.2.2.2.1, .ob (.gr 3 p.2.2.2.2.2.2.2)], nt := 63, dfs := [] })
  (fun p => p.1.toNat) (fun p => p.1 + p.2.2.1.length <= tasks /\ 0 <= p.1 /\ 0 <= p.2.1 /\ p.2.1 + nWorks p.2.2.1 <= works /\ (∀ t ∈ p.2.2.1, OkT b t) /\ p.2.2.2.1 = ownE p.2.2.1 p.2.2.2.2.2.2.1 ff /\ p.2.2.2.2.1 = p.2.2.1.length /\ p.2.2.2.2.2.2.1.length = p.2.2.1.length /\ p.2.2.2.2.2.2.2 = ownN p.2.2.1 p.2.2.2.2.2.2.1 ff) (i0, works, [], [], 0, xi, [], []) ⟨by simp; omega, by omega, hw.1, by simp [nWorks], by simp, rfl, rfl, rfl, rfl⟩ ?_ ?_
 ·refine Zfk 2 1 3 (.agg [I b, .o 3 3 0]) rfl rfl rfl ?_;refine Zpw 3 [] (fun j e row h => by simp at h) ?_;exact Zf [0, 1, 2, 3, 4] ⟨by decide, Z2n, ⟨rfl, rfl, rfl, rfl, rfl, trivial⟩, ⟨rfl, rfl, rfl, congrArg (fun z => some (I z)) e8, rfl, trivial⟩, rfl, rfl⟩
 rintro ⟨i, left, ts, TL, n, y, xs, gn⟩ ⟨p1, p2, p3, p4, p5, p6, p7, p8, p9⟩;dsimp only at p1 p2 p3 p4 p5 p6 p7 p8 p9;have hTl : TL.length = n := by rw [p6, p7, ownE_len, p8]
 have hend : OkS tasks.toNat works.toNat ⟨b, ts⟩ := ⟨hb1, by simp only; omega, by simp only; omega, by simp only; omega, p5⟩;have hfi : A.cmp .gtr i 0 = true -> A.fits .i64 (A.sub i 1) := fun h => Z14 hA (Z24 hA i 1) (by have := xgt hA h; omega);have hi1' : A.cmp .gtr i 0 = true -> A.sub i 1 + ((ts.length + 1 : Nat) : Int) <= tasks := fun h => by rw [Z24 hA]; omega
 have hi0 : A.cmp .gtr i 0 = true -> 0 <= A.sub i 1 := fun h => by have := xgt hA h; rw [Z24 hA]; omega
 have hims : A.cmp .gtr i 0 = true -> (A.sub i 1).toNat < i.toNat := fun h => by have := xgt hA h; rw [Z24 hA]; omega
 have hleft8 : left <= 8 := by omega
 have hgl : gn.length = n := by rw [p9, Z15a, p8, p7]
 have hn4 : n <= 4 := by omega
 have en : A.eqN n (A.len TL) := Ze hA hTl;have hrT : A.room (A.addN n 1) 40 := Z27 hA (by omega) (by decide);have hnew : ∀ (left' : Int) (ws : List Wk) (WL : List D) (x : Value) (ready due : Int), A.cmp .gtr i 0 = true -> 0 <= ready /\ ready <= 6 -> 4 <= due -> (due <= 20 ∨ due = 4) -> left' + (ws.length : Int) = left -> 0 <= left' -> 1 <= ws.length -> ws.length <= 3 -> (∀ w ∈ ws, OkW b w) -> WL = ws.map Z14x ->
   (A.sub i 1 + ((ts ++ [Tk.mk ready due ws]).length : Int) <= tasks /\ 0 <= A.sub i 1 /\ 0 <= left' /\ left' + (nWorks (ts ++ [Tk.mk ready due ws]) : Int) <= works /\ (∀ t ∈ ts ++ [Tk.mk ready due ws], OkT b t) /\ A.app TL [.agg [I ready, I due, .v x]] = ownE (ts ++ [Tk.mk ready due ws]) (xs ++ [x]) ff /\ A.addN n 1 = (ts ++ [Tk.mk ready due ws]).length /\ (xs ++ [x]).length = (ts ++ [Tk.mk ready due ws]).length /\ gn ++ [(x, some WL)] = ownN (ts ++ [Tk.mk ready due ws]) (xs ++ [x]) ff) := fun left' ws WL x ready due hc hr hd1 hd2 hl hl0 hw1 hw3 hwk hWL => by
  have h1 := hi1' hc;refine ⟨by rw [List.length_append]; exact h1, hi0 hc, hl0, ?_, fun t ht => ?_, by rw [Z33 hA, Z17w p8, p6], by rw [Z2e hA, List.length_append, p7]; rfl, by rw [List.length_append, List.length_append, p8]; rfl, by rw [Z17x p8, p9, hWL]⟩
  ·simp only [nWorks, List.map_append, List.sum_append, List.map_cons, List.map_nil, List.sum_cons, List.sum_nil] at p4 ⊢;omega
  ·rcases List.mem_append.1 ht with ht | ht
   ·exact p5 t ht
   ·rw [List.mem_singleton.1 ht]; exact ⟨hr.1, hr.2, hd1, by simp only; omega, hw1, hw3, hwk⟩
 refine Z2w Z0 hA hS [12] ?_;cbv;refine bm (fun c1 => ?_) (fun c1 => ?_)
 ·cbv;refine bm (fun c2 => ?_) (fun c2 => ?_)
  ·have c1' : 0 < i := xgt hA c1;have c2' : 0 < left := xgt hA c2;have hmn : A.min 3 left <= 3 /\ A.min 3 left <= left /\ 1 <= A.min 3 left := by rw [Zir hA]; omega
   have hfi := hfi c1;have hi1' := hi1' c1;have hi0 := hi0 c1;have hims := hims c1;have h3eq : A.eqN 3 (A.len [I 0, I 0, I 0]) := Ze hA rfl;cbv;refine Z4 hS [.b 0 0, I 6] [0] [pot y] rfl rfl rfl rfl rfl rfl rfl rfl (by decide) ⟨rfl, trivial⟩ (Zj0 y 6 (by decide) _ fun o yo ho1 ho2 => ?_);have h3o : A.eqN 3 (A.len [I 0, I 0, I o]) := Ze hA rfl;refine Z3 Z0 hA hS ?_;cbv;refine Z26 hS (Z1a hA [5] ?_);cbv;refine ⟨h3o, Z7 ?_⟩;refine Z4 hS [.b 0 0, .sl 1 [I 0, I 0, I o]] [0] [pot yo] rfl rfl rfl rfl rfl rfl rfl rfl (by decide) ⟨rfl, trivial⟩ (of_ yo _ [0, 0, o] rfl (Nat.le_of_ble_eq_true rfl) (by simp) _ fun ready yr hr => ?_);have hr' : 0 <= ready /\ ready <= 6 := by simp at hr; omega
   refine Z3 Z0 hA hS ?_;cbv;refine Z4 hS [.b 0 0, I 4, I 20] [0] [pot yr] rfl rfl rfl rfl rfl rfl rfl rfl (by decide) ⟨rfl, trivial⟩ (Zn3 yr 4 20 (by decide) _ fun due yd hd1 hd2 => ?_);refine Z3 Z0 hA hS ?_;cbv;refine Z4 hS [.b 0 0, I 1, I (A.min 3 left)] [0] [pot yd] rfl rfl rfl rfl rfl rfl rfl rfl (by decide) ⟨rfl, trivial⟩ (Zn3 yd 1 _ (by omega) _ fun k0 yk hk1 hk2 => ?_);have hk3 : k0 <= 3 /\ k0 <= left := by omega
   refine Z3 Z0 hA hS ?_;cbv;refine Zb hS ?_;refine Za (α := Int × Int × List Wk × List D × Nat × Int) (fun p => { env := [(0, .b 0 0), (6, .b 1 0), (7, .b 2 0), (8, I p.2.1), (9, I i), (10, .b 5 0), (11, I p.1)], H := [pot p.2.2.2.2.2, .box (.agg [I 0, .v (.slice none 0 0)]), .box (.agg [I b, .o 3 3 n]), .els 3 TL, .ob (.gr 3 gn), .box (.agg [I ready, I due, .o 6 3 p.2.2.2.2.1]), .els 3 p.2.2.2.1], nt := 63, dfs := [] })
    (fun p => p.1.toNat) (fun p => p.1 + p.2.2.1.length = k0 /\ 0 <= p.1 /\ p.2.1 + p.2.2.1.length = left /\ (∀ w ∈ p.2.2.1, OkW b w) /\ p.2.2.2.1 = p.2.2.1.map Z14x /\ p.2.2.2.2.1 = p.2.2.1.length) (k0, left, [], [], 0, yk) ⟨by simp, by simp only; omega, by simp, by simp, rfl, rfl⟩ ?_ ?_
   ·refine Zfk 6 2 3 (.agg [I ready, I due, .o 7 3 0]) rfl rfl rfl ?_;exact Zf [0, 1, 2, 3, 4, 6, 7] ⟨by decide, Z2n, ⟨rfl, rfl, rfl, rfl, rfl, rfl, rfl, trivial⟩, ⟨rfl, rfl, rfl, rfl, rfl, rfl, rfl, trivial⟩, rfl, rfl⟩
   rintro ⟨k, left', ws, WL, n', y'⟩ ⟨q1, q2, q3, q4, q5, q6⟩;dsimp only at q1 q2 q3 q4 q5 q6;have hWl : WL.length = n' := by rw [q5, List.length_map, q6]
   have enw : A.eqN n' (A.len WL) := Ze hA hWl;have hwsl : ws.length <= 3 := by omega
   have hn3 : n' <= 3 := by omega
   have hroom : A.room (A.addN n' 1) 24 := Z27 hA (by omega) (by decide);have hab : A.addN n' 1 = n' + 1 := Z2e hA _ _;have hfk : A.cmp .gtr k 0 = true -> A.fits .i64 (A.sub k 1) := fun h => Z14 hA (Z24 hA k 1) (by have := xgt hA h; omega);have hfl : A.cmp .gtr k 0 = true -> A.fits .i64 (A.sub left' 1) := fun h => Z14 hA (Z24 hA left' 1) (by have := xgt hA h; omega);have nx : A.cmp .gtr k 0 = true -> ∀ w, OkW b w -> (A.sub k 1 + ((ws ++ [w]).length : Int) = k0 /\ 0 <= A.sub k 1 /\ A.sub left' 1 + ((ws ++ [w]).length : Int) = left /\ (∀ v ∈ ws ++ [w], OkW b v) /\ A.app WL [Z14x w] = (ws ++ [w]).map Z14x /\ A.addN n' 1 = (ws ++ [w]).length) /\ (A.sub k 1).toNat < k.toNat := fun h w hw => by
    have := xgt hA h;refine ⟨⟨by rw [Z24 hA, List.length_append]; simp; omega, by rw [Z24 hA]; omega, by rw [Z24 hA, List.length_append]; simp; omega, fun v hv => ?_, by rw [Z33 hA, q5, List.map_append]; rfl, by rw [hab, q6, List.length_append]; rfl⟩, by rw [Z24 hA]; omega⟩;rcases List.mem_append.1 hv with hv | hv
    ·exact q4 v hv
    ·rw [List.mem_singleton.1 hv]; exact hw
   have hk0 : A.cmp .gtr k 0 = false -> k = 0 := fun h => by have := Zax hA h; omega
   have hl0 : A.cmp .gtr k 0 = false -> 0 <= left' := fun h => by have := Zax hA h; omega
   have hw1 : A.cmp .gtr k 0 = false -> 1 <= ws.length := fun h => by have := Zax hA h; omega
   refine Z2w Z0 hA hS [] ?_;cbv;refine bm (fun c3 => ?_) (fun c3 => ?_)
   ·have hfk := hfk c3;have hfl := hfl c3;have nx := nx c3;cbv;refine Z16 Z0 hA hS [0, 1, 2, 3, 4, 5, 6, 7, 8, 9] rfl rfl fun Dk hD => ?_;cbv;refine Zq hA hD [.b 0 0, I b] [0] [pot y'] rfl rfl rfl rfl rfl rfl rfl rfl rfl rfl rfl (by decide) ⟨rfl, trivial⟩ (Z19c y' b (by omega) _ fun w yw hw' => ⟨by cbv, Zx Z0 hA hD ?_⟩);obtain ⟨nx1, nx2⟩ := nx w hw';obtain ⟨wb, wlo, whi⟩ := w;cbv;refine ⟨enw, Ze hA rfl, hroom, hfl, hfk, ?_⟩;refine Z8 (A.sub k 1, A.sub left' 1, ws ++ [⟨wb, wlo, whi⟩], A.app WL [Z14x ⟨wb, wlo, whi⟩], A.addN n' 1, yw) [0, 1, 2, 3, 4, 5, 8] nx1 nx2 ?_;exact ⟨by decide, Z2n, ⟨rfl, rfl, rfl, rfl, rfl, rfl, rfl, trivial⟩, ⟨rfl, rfl, rfl, rfl, rfl, rfl, rfl, trivial⟩, rfl, rfl⟩
   ·have hk0 := hk0 c3;have hl0 := hl0 c3;have hw1 := hw1 c3;have hWn : 0 < WL.length := by omega
    cbv;refine Z7 ?_;cbv;refine Z3h hS ?_;refine Z17t 5 rfl ?_;refine Z17v 4 5 6 n 0 2 (isz := 3) (row := WL) (ents := gn) (fun x => .agg [I ready, I due, .v x]) rfl rfl rfl (Z19h (t := 10) (off := 0) rfl) (Nat.le_of_eq hgl.symm) (fun e row' he => by rw [List.getElem?_eq_none (Nat.le_of_eq hgl)] at he; cases he) hWn rfl (by rw [hWl]; rfl) (fun _ => rfl) fun x hx => ?_;refine Z17u (d := .agg [I ready, I due, .v x]) (n := 3) 5 rfl rfl ?_;have hnw := hnew left' ws WL x ready due c1 hr' hd1 hd2 q3 hl0 hw1 hwsl q4 q5;refine Zog 4 rfl (congrArg (fun g => Blk.ob (.gr 3 g)) (Z11z hgl.symm)) ?_;obtain ⟨gn2, hgn2⟩ : ∃ gn2, gn2 = gn ++ [(x, some WL)] := ⟨_, rfl⟩;rw [<- hgn2] at hnw ⊢;refine Z7 (Zb hS (Z2w Z0 hA hS [] ?_));cbv;refine ⟨en, Ze hA rfl, hrT, hfi, ?_⟩;refine Z8 (A.sub i 1, left', ts ++ [Tk.mk ready due ws], A.app TL [.agg [I ready, I due, .v x]], A.addN n 1, y', xs ++ [x], gn2) [0, 1, 2, 8, 4] hnw hims ?_;exact ⟨by decide, Z2n, ⟨rfl, rfl, rfl, rfl, rfl, trivial⟩, ⟨rfl, rfl, rfl, rfl, rfl, trivial⟩, rfl, rfl⟩
  ·cbv;refine Z7 ?_;cbv;exact Z2 [0, 3, 4] (by decide) Z2n (H' := [pot y, .els 3 TL, .ob (.gr 3 gn)]) (d' := .agg [I b, .o 1 3 n]) ⟨rfl, rfl, rfl, trivial⟩ rfl (Z1 (hq ⟨b, ts⟩ xs TL gn n y hend p8 p7 p6 p9))
 ·cbv;refine Z7 ?_;cbv;exact Z2 [0, 3, 4] (by decide) Z2n (H' := [pot y, .els 3 TL, .ob (.gr 3 gn)]) (d' := .agg [I b, .o 1 3 n]) ⟨rfl, rfl, rfl, trivial⟩ rfl (Z1 (hq ⟨b, ts⟩ xs TL gn n y hend p8 p7 p6 p9))
end Go.Proofs.YtegjabljeepbdaaGreatDoor.Bn

namespace Go.Proofs.YtegjabljeepbdaaGreatDoor.Bn
open Go Go.Abs Go.Proofs
end Go.Proofs.YtegjabljeepbdaaGreatDoor.Bn

namespace Go.Proofs.YtegjabljeepbdaaGreatDoor.Bn
open Go Go.Abs Go.Proofs
end Go.Proofs.YtegjabljeepbdaaGreatDoor.Bn

namespace Go.Proofs.YtegjabljeepbdaaGreatDoor.Bn
open Go Go.Abs Go.Proofs
theorem Z16a (s : Sh) (mo : Nat -> Int) (p : List Nat) : (runS s mo p).length = p.length := by simp [runS]
end Go.Proofs.YtegjabljeepbdaaGreatDoor.Bn

namespace Go.Proofs.YtegjabljeepbdaaGreatDoor.Bn
open Go Go.Abs Go.Proofs
structure Stt where
 t : Int
 k : Int
 b : Int
 bg : Int
 en : Int
 deriving DecidableEq
def fo (c : Stt -> Bool) (a : Int) (l : List Stt) : Int := l.foldl (fun m o => if c o then max m o.en else m) a
section
variable {s : Sh} {p : List Nat}
structure RunAt (s : Sh) (p : List Nat) (n i : Nat) (x : Sl) : Prop where
 hi : i < s.tasks.length
 t : x.t = (i : Int)
 k : x.k = (((p.take n).count i : Nat) : Int)
 kl : (p.take n).count i < (s.tasks.getD i default).works.length
 b : x.b = (Z150 s i ((p.take n).count i)).b
 bg : ∀ sd, pk sd x.bl x.bh = (Z14w sd s (ckAt sd s (fun _ => 0) (Z14y s) 0 p n) i 0).bg
 en : ∀ sd, pk sd x.el x.eh = pk sd x.bl x.bh + sel sd (Z150 s i ((p.take n).count i)).lo (Z150 s i ((p.take n).count i)).hi
 b0 : ∀ sd, 0 <= pk sd x.bl x.bh /\ pk sd x.bl x.bh <= 200 + n * 20
end
end Go.Proofs.YtegjabljeepbdaaGreatDoor.Bn

namespace Go.Proofs.YtegjabljeepbdaaGreatDoor
open Go Go.Abs Go.Proofs
theorem Zdk {α : Type} {a b : List α} {k : Nat} {x y : α} (ha : a[k]? = some x) (hb : b[k]? = some y) (h : a.take k = b.take k) : (a.take (k + 1) = b.take (k + 1)) ↔ x = y := by
 rw [List.take_add_one, List.take_add_one, ha, hb, h]; simp
theorem Zg4 {α : Type} {a b : List α} {k : Nat} {x y : α} (ha : a[k]? = some x) (hb : b[k]? = some y) (h : x ≠ y) : a ≠ b := fun e => by
 subst e; rw [ha] at hb; exact h (Option.some.inj hb)
theorem Zx0 {A : Ar} (hA : A = ar) (x y : Int) : A.cmp .eql x y = decide (x = y) := by subst hA; rfl
set_option maxRecDepth 20000 in
set_option maxHeartbeats 2000000 in
theorem Zaq (a b : List Int) (LA LB : List D) (hLA : LA = a.map I) (hLB : LB = b.map I) (hl : a.length <= 1152921504606846976) (r : Bool) (hr : r = decide (a = b)) (Q) (hq : Q (RA.ret (.v (.bool r))) []) :
  CallA Tryz.prog 33 [.sl 1 LA, .sl 1 LB] [] Q := by
 obtain ⟨A, hA⟩ : ∃ A, A = ar := ⟨_, rfl⟩;have hAl : LA.length = a.length := by rw [hLA]; simp
 have hBl : LB.length = b.length := by rw [hLB]; simp
 obtain ⟨s0, hs0⟩ : ∃ s0, s0 = A.cmp .eql (A.oi (A.len LA)) (A.oi (A.len LB)) := ⟨_, rfl⟩;have hs1 : s0 = decide (a.length = b.length) := by
  rw [hs0, yoiL hA hAl, yoiL hA hBl, Zx0 hA]
  by_cases h : a.length = b.length
  ·rw [decide_eq_true h, decide_eq_true (by omega)]
  ·rw [decide_eq_false h, decide_eq_false (by omega)]
 refine Z5 Z0 hA Tryz.func33 rfl rfl rfl rfl rfl fun S hS => ?_;cbv;refine Zb hS ?_;refine Za (α := Int × Nat × Bool) (fun q => { env := [(0, .sl 1 LA), (1, .sl 1 LB), (5, .v (.bool q.2.2)), (6, I q.1)], H := [], nt := 31, dfs := [] })
  (fun q => a.length + 1 - q.2.1) (fun q => IsI q.1 q.2.1 /\ q.2.1 <= a.length /\ (q.2.2 = true -> a.length = b.length /\ a.take q.2.1 = b.take q.2.1) /\ (q.2.2 = false -> a ≠ b)) (0, 0, A.cmp .eql (A.oi (A.len LA)) (A.oi (A.len LB))) ⟨⟨rfl⟩, Nat.zero_le _, ?_, ?_⟩ ?_ ?_
 ·exact fun h => ⟨of_decide_eq_true (hs1.symm.trans (hs0.trans h)), rfl⟩
 ·exact fun h e => of_decide_eq_false (hs1.symm.trans (hs0.trans h)) (by rw [e])
 ·exact Zf [] ⟨by decide, Z9, trivial, ⟨rfl, rfl, rfl, rfl, trivial⟩, rfl, rfl⟩
 rintro ⟨i, k, sm⟩ ⟨u1, u2, u3, u4⟩;dsimp only at u1 u2 u3 u4
 cases sm
 ·have hr0 : r = false := by rw [hr]; exact decide_eq_false (u4 rfl)
  rw [hr0] at hq;refine Zi Z0 hA hS ?_;cbv;refine Z7 ?_;cbv;exact Z1 hq
 ·obtain ⟨e1, e2⟩ := u3 rfl;have hend : a.length <= k -> r = true := fun h => by
   rw [hr]; refine decide_eq_true ?_;rw [List.take_of_length_le h, List.take_of_length_le (by omega)] at e2; exact e2
  have hget : k < a.length -> ∃ x y, a[k]? = some x /\ b[k]? = some y := fun h => ⟨_, _, List.getElem?_eq_getElem h, List.getElem?_eq_getElem (by omega)⟩;have hlt : k < b.length -> k < a.length := fun h => by omega
  have hgt : k < a.length -> k < b.length := fun h => by omega
  have hms : k < a.length -> a.length + 1 - (k + 1) < a.length + 1 - k := fun h => by omega
  refine Zi Z0 hA hS ?_;cbv
  split
  ·rename_i c
   have hk := Z31 hA hAl u1 c;obtain ⟨x, y, hx, hy⟩ := hget hk;have hLx : LA[k]? = some (I x) := by rw [hLA]; simp [hx]
   have hLy : LB[k]? = some (I y) := by rw [hLB]; simp [hy]
   have hn1 : A.cmp .eql x y = true -> a.length = b.length /\ a.take (k + 1) = b.take (k + 1) := fun h => ⟨e1, (Zdk hx hy e2).2 (xeq hA h)⟩;have hn2 : A.cmp .eql x y = false -> a ≠ b := fun h => Zg4 hx hy (Z2o hA h);cbv;refine Z16 Z0 hA hS [0, 1, 2, 3, 4, 5, 6, 7, 8, 9] rfl rfl fun Dk hD => ?_;cbv;refine ⟨Z1b hA hAl u1 hk, ⟨_, Z18 hA u1 hLx, ?_⟩⟩;cbv;refine ⟨Z1b hA hBl u1 (hgt hk), ⟨_, Z18 hA u1 hLy, ?_⟩⟩;cbv;refine ⟨Zy hA u1 (by omega), ?_⟩;refine Z8 (A.add i 1, k + 1, A.cmp .eql x y) [] ⟨Zz hA u1, hk, hn1, hn2⟩ (hms hk) ?_;exact ⟨by decide, Z9, trivial, ⟨rfl, rfl, rfl, rfl, trivial⟩, rfl, rfl⟩
  ·rename_i c
   have hk := Z21 hA hAl u1 c;have hr1 := hend hk;rw [hr1] at hq;cbv;refine Z7 ?_;cbv;exact Z1 hq
theorem Zzl {A : Ar} (hA : A = ar) {x y : List Int} (h : A.leq x y = true) : x = y := by subst hA; simpa [ar] using h
theorem Zyd {A : Ar} (hA : A = ar) {x y : List Int} (h : A.leq x y = false) : x ≠ y := by subst hA; simpa [ar] using h
def Zt3 (x : Int × Int) : D := .agg [I x.1, I x.2]
set_option maxRecDepth 20000 in
set_option maxHeartbeats 2000000 in
theorem Za2 (a b : List (Int × Int)) (LA LB : List D) (hLA : LA = a.map Zt3) (hLB : LB = b.map Zt3) (hl : a.length <= 1152921504606846976) (r : Bool) (hr : r = decide (a = b)) (Q) (hq : Q (RA.ret (.v (.bool r))) []) :
  CallA Tryz.prog 19 [.sl 2 LA, .sl 2 LB] [] Q := by
 obtain ⟨A, hA⟩ : ∃ A, A = ar := ⟨_, rfl⟩;have hAl : LA.length = a.length := by rw [hLA]; simp
 have hBl : LB.length = b.length := by rw [hLB]; simp
 obtain ⟨s0, hs0⟩ : ∃ s0, s0 = A.cmp .eql (A.oi (A.len LA)) (A.oi (A.len LB)) := ⟨_, rfl⟩;have hs1 : s0 = decide (a.length = b.length) := by
  rw [hs0, yoiL hA hAl, yoiL hA hBl, Zx0 hA]
  by_cases h : a.length = b.length
  ·rw [decide_eq_true h, decide_eq_true (by omega)]
  ·rw [decide_eq_false h, decide_eq_false (by omega)]
 refine Z5 Z0 hA Tryz.func19 rfl rfl rfl rfl rfl fun S hS => ?_;cbv;refine Zb hS ?_;refine Za (α := Int × Nat × Bool) (fun q => { env := [(0, .sl 2 LA), (1, .sl 2 LB), (5, .v (.bool q.2.2)), (6, I q.1)], H := [], nt := 31, dfs := [] })
  (fun q => a.length + 1 - q.2.1) (fun q => IsI q.1 q.2.1 /\ q.2.1 <= a.length /\ (q.2.2 = true -> a.length = b.length /\ a.take q.2.1 = b.take q.2.1) /\ (q.2.2 = false -> a ≠ b)) (0, 0, A.cmp .eql (A.oi (A.len LA)) (A.oi (A.len LB))) ⟨⟨rfl⟩, Nat.zero_le _, ?_, ?_⟩ ?_ ?_
 ·exact fun h => ⟨of_decide_eq_true (hs1.symm.trans (hs0.trans h)), rfl⟩
 ·exact fun h e => of_decide_eq_false (hs1.symm.trans (hs0.trans h)) (by rw [e])
 ·exact Zf [] ⟨by decide, Z9, trivial, ⟨rfl, rfl, rfl, rfl, trivial⟩, rfl, rfl⟩
 rintro ⟨i, k, sm⟩ ⟨u1, u2, u3, u4⟩;dsimp only at u1 u2 u3 u4
 cases sm
 ·have hr0 : r = false := by rw [hr]; exact decide_eq_false (u4 rfl)
  rw [hr0] at hq;refine Zi Z0 hA hS ?_;cbv;refine Z7 ?_;cbv;exact Z1 hq
 ·obtain ⟨e1, e2⟩ := u3 rfl;have hend : a.length <= k -> r = true := fun h => by
   rw [hr]; refine decide_eq_true ?_;rw [List.take_of_length_le h, List.take_of_length_le (by omega)] at e2; exact e2
  have hget : k < a.length -> ∃ x1 x2 y1 y2, a[k]? = some (x1, x2) /\ b[k]? = some (y1, y2) := fun h => ⟨_, _, _, _, List.getElem?_eq_getElem h, List.getElem?_eq_getElem (by omega)⟩;have hgt : k < a.length -> k < b.length := fun h => by omega
  have hms : k < a.length -> a.length + 1 - (k + 1) < a.length + 1 - k := fun h => by omega
  refine Zi Z0 hA hS ?_;cbv
  split
  ·rename_i c
   have hk := Z31 hA hAl u1 c;obtain ⟨x1, x2, y1, y2, hx, hy⟩ := hget hk;have hLx : LA[k]? = some (.agg [I x1, I x2]) := by rw [hLA]; simp [hx, Zt3]
   have hLy : LB[k]? = some (.agg [I y1, I y2]) := by rw [hLB]; simp [hy, Zt3]
   have hn1 : A.leq [x1, x2] [y1, y2] = true -> a.length = b.length /\ a.take (k + 1) = b.take (k + 1) := fun h => ⟨e1, (Zdk hx hy e2).2 (by have := Zzl hA h; simp only [List.cons.injEq, and_true] at this; rw [this.1, this.2])⟩;have hn2 : A.leq [x1, x2] [y1, y2] = false -> a ≠ b := fun h => Zg4 hx hy (fun e => by cases e; exact Zyd hA h rfl);cbv;refine Z16 Z0 hA hS [0, 1, 2, 3, 4, 5, 6, 7, 8, 9] rfl rfl fun Dk hD => ?_;cbv;refine ⟨Z1b hA hAl u1 hk, ⟨_, Z18 hA u1 hLx, ?_⟩⟩;cbv;refine ⟨Z1b hA hBl u1 (hgt hk), ⟨_, Z18 hA u1 hLy, ?_⟩⟩;cbv;refine ⟨[x1, x2], [y1, y2], rfl, rfl, rfl, rfl, ?_⟩;cbv;refine ⟨Zy hA u1 (by omega), ?_⟩;refine Z8 (A.add i 1, k + 1, A.leq [x1, x2] [y1, y2]) [] ⟨Zz hA u1, hk, hn1, hn2⟩ (hms hk) ?_;exact ⟨by decide, Z9, trivial, ⟨rfl, rfl, rfl, rfl, trivial⟩, rfl, rfl⟩
  ·rename_i c
   have hk := Z21 hA hAl u1 c;have hr1 := hend hk;rw [hr1] at hq;cbv;refine Z7 ?_;cbv;exact Z1 hq
end Go.Proofs.YtegjabljeepbdaaGreatDoor

namespace Go.Proofs.YtegjabljeepbdaaGreatDoor.Bn
open Go Go.Abs Go.Proofs
section
variable {s : Sh} {p : List Nat}
end
end Go.Proofs.YtegjabljeepbdaaGreatDoor.Bn

namespace Go.Proofs.YtegjabljeepbdaaGreatDoor.Bn
open Go Go.Abs Go.Proofs
end Go.Proofs.YtegjabljeepbdaaGreatDoor.Bn

namespace Go.Proofs.YtegjabljeepbdaaGreatDoor.Bn
open Go Go.Abs Go.Proofs
def Z15b (s : Sh) : List Nat -> List Int -> Int × List Nat
 | p, [] => (0, p)
 | p, x :: r => if ¬ (0 <= x /\ x <= (s.tasks.length : Int) - 1) then (3, p) else if (s.tasks.getD x.toNat default).works.length < p.count x.toNat + 1 then (6, p) else Z15b s (p ++ [x.toNat]) r
structure ScOk (s : Sh) (pl : List Int) (p : List Nat) (k : Nat) : Prop where
 tk : pl.take k = p.map (fun i : Nat => (i : Int))
 len : p.length = k
 le : PlanLe s p
 sc : Z15b s [] pl = Z15b s p (pl.drop k)
end Go.Proofs.YtegjabljeepbdaaGreatDoor.Bn

namespace Go.Proofs.YtegjabljeepbdaaGreatDoor.Bn
open Go Go.Abs Go.Proofs
end Go.Proofs.YtegjabljeepbdaaGreatDoor.Bn

namespace Go.Proofs.YtegjabljeepbdaaGreatDoor.Bn
open Go Go.Abs Go.Proofs
end Go.Proofs.YtegjabljeepbdaaGreatDoor.Bn
