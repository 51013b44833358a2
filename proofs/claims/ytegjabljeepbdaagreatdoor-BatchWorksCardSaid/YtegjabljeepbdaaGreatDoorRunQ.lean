/- Part RunQ of the proofs about the benches of the accordion maker: see the last text of the claim for what is proved. -/
import Derived.Test.YtegjabljeepbdaaGreatDoorRunK
import Derived.Test.YtegjabljeepbdaaGreatDoorRunP
import Derived.Test.YtegjabljeepbdaaGreatDoorRunH
import Derived.Test.YtegjabljeepbdaaGreatDoorRunJ
import Derived.Test.YtegjabljeepbdaaGreatDoorRunL
import Derived.Test.YtegjabljeepbdaaGreatDoorRunO
set_option linter.unusedVariables false
set_option linter.unusedSimpArgs false
set_option linter.unnecessarySimpa false
set_option linter.constructorNameAsVariable false

namespace Go.Proofs.YtegjabljeepbdaaGreatDoor.Bn
open Go Go.Abs Go.Proofs
def Z15w (l : List Nat) : List D := l.map fun i => I (i : Nat)
end Go.Proofs.YtegjabljeepbdaaGreatDoor.Bn

namespace Go.Proofs.YtegjabljeepbdaaGreatDoor.Bn
open Go Go.Abs Go.Proofs
def ff : Nat -> Bool := fun _ => false
theorem Z155 {α : Type} (l : List α) (x d : α) (j : Nat) : (l ++ [x]).getD j d = if j = l.length then x else l.getD j d := by
 rw [List.getD_eq_getElem?_getD, List.getD_eq_getElem?_getD]
 by_cases h : j < l.length
 ·rw [List.getElem?_append_left h, if_neg (by omega)]
 ·by_cases e : j = l.length
  ·subst e; rw [if_pos rfl, List.getElem?_append_right (Nat.le_refl _), Nat.sub_self]; rfl
  ·rw [if_neg e, List.getElem?_eq_none (by simp; omega), List.getElem?_eq_none (by omega)]
theorem Z17w {ts : List Tk} {xs : List Value} (hl : xs.length = ts.length) (t : Tk) (x : Value) : ownE (ts ++ [t]) (xs ++ [x]) ff = ownE ts xs ff ++ [.agg [I t.ready, I t.due, .v x]] := by
 refine List.ext_getElem? fun j => ?_
 by_cases hj : j < xs.length
 ·rw [List.getElem?_append_left (by rw [ownE_len]; exact hj), Z15v (by simp; omega), Z15v hj];have e1 : (ts ++ [t]).getD j tkZ = ts.getD j tkZ := by rw [Z155, if_neg (by omega)]
  have e2 : (xs ++ [x]).getD j Z5t = xs.getD j Z5t := by rw [Z155, if_neg (by omega)]
  unfold elT;rw [e1, e2]
 ·by_cases e : j = xs.length
  ·subst e;rw [List.getElem?_append_right (by rw [ownE_len]; exact Nat.le_refl _), ownE_len, Nat.sub_self, Z15v (by simp)];have e1 : (ts ++ [t]).getD xs.length tkZ = t := by rw [Z155, if_pos hl]
   have e2 : (xs ++ [x]).getD xs.length Z5t = x := by rw [Z155, if_pos rfl]
   unfold elT;rw [e1, e2]; rfl
  ·rw [List.getElem?_eq_none (by rw [ownE_len]; simp; omega), List.getElem?_eq_none (by rw [List.length_append, ownE_len]; simp; omega)]
theorem Z16r {ts : List Tk} {xs : List Value} {j : Nat} (h : j < xs.length) : (ownN ts xs ff)[j]? = some (xs.getD j Z5t, some ((ts.getD j tkZ).works.map Z14x)) := by
 rw [ownN, Z15r h, Z15h]; rfl
theorem Z17x {ts : List Tk} {xs : List Value} (hl : xs.length = ts.length) (t : Tk) (x : Value) : ownN (ts ++ [t]) (xs ++ [x]) ff = ownN ts xs ff ++ [(x, some (t.works.map Z14x))] := by
 refine List.ext_getElem? fun j => ?_
 by_cases hj : j < xs.length
 ·rw [List.getElem?_append_left (by rw [Z15a]; exact hj), Z16r (by simp; omega), Z16r hj];have e1 : (ts ++ [t]).getD j tkZ = ts.getD j tkZ := by rw [Z155, if_neg (by omega)]
  have e2 : (xs ++ [x]).getD j Z5t = xs.getD j Z5t := by rw [Z155, if_neg (by omega)]
  rw [e1, e2]
 ·by_cases e : j = xs.length
  ·subst e;rw [List.getElem?_append_right (by rw [Z15a]; exact Nat.le_refl _), Z15a, Nat.sub_self, Z16r (by simp)];have e1 : (ts ++ [t]).getD xs.length tkZ = t := by rw [Z155, if_pos hl]
   have e2 : (xs ++ [x]).getD xs.length Z5t = x := by rw [Z155, if_pos rfl]
   rw [e1, e2]; rfl
  ·rw [List.getElem?_eq_none (by rw [Z15a]; simp; omega), List.getElem?_eq_none (by rw [List.length_append, Z15a]; simp; omega)]
set_option maxRecDepth 20000 in
set_option maxHeartbeats 8000000 in
theorem shopOfG (x tasks works : Int) (ht : 0 <= tasks /\ tasks <= 4) (hw : 0 <= works /\ works <= 8) (Q) (hq : ∀ s xs es gn N x', OkS tasks.toNat works.toNat s -> xs.length = s.tasks.length -> N = s.tasks.length -> es = ownE s.tasks xs ff -> gn = ownN s.tasks xs ff -> Q (RA.ret (.agg [I s.benches, .o 1 3 N])) [pot x', .els 3 es, .ob (.gr 3 gn)]) :
  CallA Tryz.prog 8 [.b 0 0, I tasks, I works] [pot x] Q := by
 obtain ⟨A, hA⟩ : ∃ A, A = ar := ⟨_, rfl⟩;refine Z38 Z0 hA [] Tryz.func8 rfl rfl rfl rfl rfl fun S hS => ?_;cbv;refine Z4 hS [.b 0 0, I 1, I 3] [0] [pot x] rfl rfl rfl rfl rfl rfl rfl rfl (by decide) ⟨rfl, trivial⟩ (Zn3 x 1 3 (by decide) _ fun b xb hb1 hb2 => ?_);refine Z3 Z0 hA hS ?_;cbv;have e4 : A.min tasks 4 = tasks := by subst hA; show (if _ then _ else _) = _; split <;> omega
 refine Z4 hS [.b 0 0, I (A.min tasks 4)] [0] [pot xb] rfl rfl rfl rfl rfl rfl rfl rfl (by decide) ⟨rfl, trivial⟩ (Zj0 xb _ (by rw [e4]; omega) _ fun i0 xi hi1 hi2 => ?_);rw [e4] at hi2;refine Z3 Z0 hA hS ?_;cbv;have e8 : A.min works 8 = works := by subst hA; show (if _ then _ else _) = _; split <;> omega
 refine Zb hS ?_;refine Za (α := Int × Int × List Tk × List D × Nat × Int × List Value × List Ent) (fun p => { env := [(0, .b 0 0), (6, .b 1 0), (7, .b 2 0), (8, I p.2.1), (9, I p.1)], H := [pot p.2.2.2.2.2.1, .box (.agg [I 0, .v (.slice none 0 0)]), .box (.agg [I b, .o 3 3 p.2.2.2.2.1]), .els 3 p.2.2.2.1, .ob (.gr 3 p.2.2.2.2.2.2.2)], nt := 63, dfs := [] })
  (fun p => p.1.toNat) (fun p => p.1 + p.2.2.1.length <= tasks /\ 0 <= p.1 /\ 0 <= p.2.1 /\ p.2.1 + Z1cw p.2.2.1 <= works /\ (∀ t ∈ p.2.2.1, OkT b t) /\ p.2.2.2.1 = ownE p.2.2.1 p.2.2.2.2.2.2.1 ff /\ p.2.2.2.2.1 = p.2.2.1.length /\ p.2.2.2.2.2.2.1.length = p.2.2.1.length /\ p.2.2.2.2.2.2.2 = ownN p.2.2.1 p.2.2.2.2.2.2.1 ff) (i0, works, [], [], 0, xi, [], []) ⟨by simp; omega, by omega, hw.1, by simp [Z1cw], by simp, rfl, rfl, rfl, rfl⟩ ?_ ?_
 ·refine Zfk 2 1 3 (.agg [I b, .o 3 3 0]) rfl rfl rfl ?_;refine Zpw 3 [] (fun j e row h => by simp at h) ?_;exact Zf [0, 1, 2, 3, 4] ⟨by decide, Z2n, ⟨rfl, rfl, rfl, rfl, rfl, trivial⟩, ⟨rfl, rfl, rfl, congrArg (fun z => some (I z)) e8, rfl, trivial⟩, rfl, rfl⟩
 rintro ⟨i, left, ts, TL, n, y, xs, gn⟩ ⟨p1, p2, p3, p4, p5, p6, p7, p8, p9⟩;dsimp only at p1 p2 p3 p4 p5 p6 p7 p8 p9;have hTl : TL.length = n := by rw [p6, p7, ownE_len, p8]
 have hend : OkS tasks.toNat works.toNat ⟨b, ts⟩ := ⟨hb1, by simp only; omega, by simp only; omega, by simp only; omega, p5⟩;have hfi : A.cmp .gtr i 0 = true -> A.fits .i64 (A.sub i 1) := fun h => Z14 hA (Z24 hA i 1) (by have := xgt hA h; omega);have hi1' : A.cmp .gtr i 0 = true -> A.sub i 1 + ((ts.length + 1 : Nat) : Int) <= tasks := fun h => by rw [Z24 hA]; omega
 have hi0 : A.cmp .gtr i 0 = true -> 0 <= A.sub i 1 := fun h => by have := xgt hA h; rw [Z24 hA]; omega
 have hims : A.cmp .gtr i 0 = true -> (A.sub i 1).toNat < i.toNat := fun h => by have := xgt hA h; rw [Z24 hA]; omega
 have hleft8 : left <= 8 := by omega
 have hgl : gn.length = n := by rw [p9, Z15a, p8, p7]
 have hn4 : n <= 4 := by omega
 have en : A.eqN n (A.len TL) := Ze hA hTl;have hrT : A.room (A.addN n 1) 40 := Z27 hA (by omega) (by decide);have hnew : ∀ (left' : Int) (ws : List Wk) (WL : List D) (x : Value) (ready due : Int), A.cmp .gtr i 0 = true -> 0 <= ready /\ ready <= 6 -> 4 <= due -> (due <= 20 ∨ due = 4) -> left' + (ws.length : Int) = left -> 0 <= left' -> 1 <= ws.length -> ws.length <= 3 -> (∀ w ∈ ws, OkW b w) -> WL = ws.map Z14x ->
   (A.sub i 1 + ((ts ++ [Tk.mk ready due ws]).length : Int) <= tasks /\ 0 <= A.sub i 1 /\ 0 <= left' /\ left' + (Z1cw (ts ++ [Tk.mk ready due ws]) : Int) <= works /\ (∀ t ∈ ts ++ [Tk.mk ready due ws], OkT b t) /\ A.app TL [.agg [I ready, I due, .v x]] = ownE (ts ++ [Tk.mk ready due ws]) (xs ++ [x]) ff /\ A.addN n 1 = (ts ++ [Tk.mk ready due ws]).length /\ (xs ++ [x]).length = (ts ++ [Tk.mk ready due ws]).length /\ gn ++ [(x, some WL)] = ownN (ts ++ [Tk.mk ready due ws]) (xs ++ [x]) ff) := fun left' ws WL x ready due hc hr hd1 hd2 hl hl0 hw1 hw3 hwk hWL => by
  have h1 := hi1' hc;refine ⟨by rw [List.length_append]; exact h1, hi0 hc, hl0, ?_, fun t ht => ?_, by rw [Z33 hA, Z17w p8, p6], by rw [Z2e hA, List.length_append, p7]; rfl, by rw [List.length_append, List.length_append, p8]; rfl, by rw [Z17x p8, p9, hWL]⟩
  ·simp only [Z1cw, List.map_append, List.sum_append, List.map_cons, List.map_nil, List.sum_cons, List.sum_nil] at p4 ⊢;omega
  ·rcases List.mem_append.1 ht with ht | ht
   ·exact p5 t ht
   ·rw [List.mem_singleton.1 ht]; exact ⟨hr.1, hr.2, hd1, by simp only; omega, hw1, hw3, hwk⟩
 refine Z2w Z0 hA hS [12] ?_;cbv;refine bm (fun c1 => ?_) (fun c1 => ?_)
 ·cbv;refine bm (fun c2 => ?_) (fun c2 => ?_)
  ·have c1' : 0 < i := xgt hA c1;have c2' : 0 < left := xgt hA c2;have hmn : A.min 3 left <= 3 /\ A.min 3 left <= left /\ 1 <= A.min 3 left := by rw [Zir hA]; omega
   have hfi := hfi c1;have hi1' := hi1' c1;have hi0 := hi0 c1;have hims := hims c1;have h3eq : A.eqN 3 (A.len [I 0, I 0, I 0]) := Ze hA rfl;cbv;refine Z4 hS [.b 0 0, I 6] [0] [pot y] rfl rfl rfl rfl rfl rfl rfl rfl (by decide) ⟨rfl, trivial⟩ (Zj0 y 6 (by decide) _ fun o yo ho1 ho2 => ?_);have h3o : A.eqN 3 (A.len [I 0, I 0, I o]) := Ze hA rfl;refine Z3 Z0 hA hS ?_;cbv;refine Z26 hS (Z1a hA [5] ?_);cbv;refine ⟨h3o, Z7 ?_⟩;refine Z4 hS [.b 0 0, .sl 1 [I 0, I 0, I o]] [0] [pot yo] rfl rfl rfl rfl rfl rfl rfl rfl (by decide) ⟨rfl, trivial⟩ (of_ yo _ [0, 0, o] rfl (Nat.le_of_ble_eq_true rfl) (by simp) _ fun ready yr hr => ?_);have hr' : 0 <= ready /\ ready <= 6 := by simp at hr; omega
   refine Z3 Z0 hA hS ?_;cbv;refine Z4 hS [.b 0 0, I 4, I 20] [0] [pot yr] rfl rfl rfl rfl rfl rfl rfl rfl (by decide) ⟨rfl, trivial⟩ (Zn3 yr 4 20 (by decide) _ fun due yd hd1 hd2 => ?_);refine Z3 Z0 hA hS ?_;cbv;refine Z4 hS [.b 0 0, I 1, I (A.min 3 left)] [0] [pot yd] rfl rfl rfl rfl rfl rfl rfl rfl (by decide) ⟨rfl, trivial⟩ (Zn3 yd 1 _ (by omega) _ fun k0 yk hk1 hk2 => ?_);have hk3 : k0 <= 3 /\ k0 <= left := by omega
   refine Z3 Z0 hA hS ?_;cbv;refine Zb hS ?_;refine Za (α := Int × Int × List Wk × List D × Nat × Int) (fun p => { env := [(0, .b 0 0), (6, .b 1 0), (7, .b 2 0), (8, I p.2.1), (9, I i), (10, .b 5 0), (11, I p.1)], H := [pot p.2.2.2.2.2, .box (.agg [I 0, .v (.slice none 0 0)]), .box (.agg [I b, .o 3 3 n]), .els 3 TL, .ob (.gr 3 gn), .box (.agg [I ready, I due, .o 6 3 p.2.2.2.2.1]), .els 3 p.2.2.2.1], nt := 63, dfs := [] })
    (fun p => p.1.toNat) (fun p => p.1 + p.2.2.1.length = k0 /\ 0 <= p.1 /\ p.2.1 + p.2.2.1.length = left /\ (∀ w ∈ p.2.2.1, OkW b w) /\ p.2.2.2.1 = p.2.2.1.map Z14x /\ p.2.2.2.2.1 = p.2.2.1.length) (k0, left, [], [], 0, yk) ⟨by simp, by simp only; omega, by simp, by simp, rfl, rfl⟩ ?_ ?_
   ·refine Zfk 6 2 3 (.agg [I ready, I due, .o 7 3 0]) rfl rfl rfl ?_;exact Zf [0, 1, 2, 3, 4, 6, 7] ⟨by decide, Z2n, ⟨rfl, rfl, rfl, rfl, rfl, rfl, rfl, trivial⟩, ⟨rfl, rfl, rfl, rfl, rfl, rfl, rfl, trivial⟩, rfl, rfl⟩
   rintro ⟨k, left', ws, WL, n', y'⟩ ⟨q1, q2, q3, q4, q5, q6⟩;dsimp only at q1 q2 q3 q4 q5 q6;have hWl : WL.length = n' := by rw [q5, List.length_map, q6]
   have enw : A.eqN n' (A.len WL) := Ze hA hWl;have hwsl : ws.length <= 3 := by omega
   have hn3 : n' <= 3 := by omega
   have hroom : A.room (A.addN n' 1) 24 := Z27 hA (by omega) (by decide);have hab : A.addN n' 1 = n' + 1 := Z2e hA _ _;have hfk : A.cmp .gtr k 0 = true -> A.fits .i64 (A.sub k 1) := fun h => Z14 hA (Z24 hA k 1) (by have := xgt hA h; omega);have hfl : A.cmp .gtr k 0 = true -> A.fits .i64 (A.sub left' 1) := fun h => Z14 hA (Z24 hA left' 1) (by have := xgt hA h; omega);have nx : A.cmp .gtr k 0 = true -> ∀ w, OkW b w -> (A.sub k 1 + ((ws ++ [w]).length : Int) = k0 /\ 0 <= A.sub k 1 /\ A.sub left' 1 + ((ws ++ [w]).length : Int) = left /\ (∀ v ∈ ws ++ [w], OkW b v) /\ A.app WL [Z14x w] = (ws ++ [w]).map Z14x /\ A.addN n' 1 = (ws ++ [w]).length) /\ (A.sub k 1).toNat < k.toNat := fun h w hw => by
    have := xgt hA h;refine ⟨⟨by rw [Z24 hA, List.length_append]; simp; omega, by rw [Z24 hA]; omega, by rw [Z24 hA, List.length_append]; simp; omega, fun v hv => ?_, by rw [Z33 hA, q5, List.map_append]; rfl, by rw [hab, q6, List.length_append]; rfl⟩, by rw [Z24 hA]; omega⟩;rcases List.mem_append.1 hv with hv | hv
    ·exact q4 v hv
    ·rw [List.mem_singleton.1 hv]; exact hw
   have hk0 : A.cmp .gtr k 0 = false -> k = 0 := fun h => by have := Zax hA h; omega
   have hl0 : A.cmp .gtr k 0 = false -> 0 <= left' := fun h => by have := Zax hA h; omega
   have hw1 : A.cmp .gtr k 0 = false -> 1 <= ws.length := fun h => by have := Zax hA h; omega
   refine Z2w Z0 hA hS [] ?_;cbv;refine bm (fun c3 => ?_) (fun c3 => ?_)
   ·have hfk := hfk c3;have hfl := hfl c3;have nx := nx c3;cbv;refine Z16 Z0 hA hS [0, 1, 2, 3, 4, 5, 6, 7, 8, 9] rfl rfl fun Dk hD => ?_;cbv;refine Zq hA hD [.b 0 0, I b] [0] [pot y'] rfl rfl rfl rfl rfl rfl rfl rfl rfl rfl rfl (by decide) ⟨rfl, trivial⟩ (Z19c y' b (by omega) _ fun w yw hw' => ⟨by cbv, Zx Z0 hA hD ?_⟩);obtain ⟨nx1, nx2⟩ := nx w hw';obtain ⟨wb, wlo, whi⟩ := w;cbv;refine ⟨enw, Ze hA rfl, hroom, hfl, hfk, ?_⟩;refine Z8 (A.sub k 1, A.sub left' 1, ws ++ [⟨wb, wlo, whi⟩], A.app WL [Z14x ⟨wb, wlo, whi⟩], A.addN n' 1, yw) [0, 1, 2, 3, 4, 5, 8] nx1 nx2 ?_;exact ⟨by decide, Z2n, ⟨rfl, rfl, rfl, rfl, rfl, rfl, rfl, trivial⟩, ⟨rfl, rfl, rfl, rfl, rfl, rfl, rfl, trivial⟩, rfl, rfl⟩
   ·have hk0 := hk0 c3;have hl0 := hl0 c3;have hw1 := hw1 c3;have hWn : 0 < WL.length := by omega
    cbv;refine Z7 ?_;cbv;refine Z3h hS ?_;refine Z17t 5 rfl ?_;refine Z17v 4 5 6 n 0 2 (isz := 3) (row := WL) (ents := gn) (fun x => .agg [I ready, I due, .v x]) rfl rfl rfl (Z19h (t := 10) (off := 0) rfl) (Nat.le_of_eq hgl.symm) (fun e row' he => by rw [List.getElem?_eq_none (Nat.le_of_eq hgl)] at he; cases he) hWn rfl (by rw [hWl]; rfl) (fun _ => rfl) fun x hx => ?_;refine Z17u (d := .agg [I ready, I due, .v x]) (n := 3) 5 rfl rfl ?_;have hnw := hnew left' ws WL x ready due c1 hr' hd1 hd2 q3 hl0 hw1 hwsl q4 q5;refine Zog 4 rfl (congrArg (fun g => Blk.ob (.gr 3 g)) (Z11z hgl.symm)) ?_;obtain ⟨gn2, hgn2⟩ : ∃ gn2, gn2 = gn ++ [(x, some WL)] := ⟨_, rfl⟩;rw [<- hgn2] at hnw ⊢;refine Z7 (Zb hS (Z2w Z0 hA hS [] ?_));cbv;refine ⟨en, Ze hA rfl, hrT, hfi, ?_⟩;refine Z8 (A.sub i 1, left', ts ++ [Tk.mk ready due ws], A.app TL [.agg [I ready, I due, .v x]], A.addN n 1, y', xs ++ [x], gn2) [0, 1, 2, 8, 4] hnw hims ?_;exact ⟨by decide, Z2n, ⟨rfl, rfl, rfl, rfl, rfl, trivial⟩, ⟨rfl, rfl, rfl, rfl, rfl, trivial⟩, rfl, rfl⟩
  ·cbv;refine Z7 ?_;cbv;exact Z2 [0, 3, 4] (by decide) Z2n (H' := [pot y, .els 3 TL, .ob (.gr 3 gn)]) (d' := .agg [I b, .o 1 3 n]) ⟨rfl, rfl, rfl, trivial⟩ rfl (Z1 (hq ⟨b, ts⟩ xs TL gn n y hend p8 p7 p6 p9))
 ·cbv;refine Z7 ?_;cbv;exact Z2 [0, 3, 4] (by decide) Z2n (H' := [pot y, .els 3 TL, .ob (.gr 3 gn)]) (d' := .agg [I b, .o 1 3 n]) ⟨rfl, rfl, rfl, trivial⟩ rfl (Z1 (hq ⟨b, ts⟩ xs TL gn n y hend p8 p7 p6 p9))
end Go.Proofs.YtegjabljeepbdaaGreatDoor.Bn

namespace Go.Proofs.YtegjabljeepbdaaGreatDoor.Bn
open Go Go.Abs Go.Proofs
set_option maxRecDepth 20000 in
set_option maxHeartbeats 2000000 in
theorem Z17g (b : Int) (hb : 1 <= b /\ b <= 3) (w : Wk) (TL : List D) (n : Int) (hn : n = chkW b w) (Q) (hq : Q (RA.ret (I n)) []) :
  CallA Tryz.prog 144 [.agg [I b, .sl 3 TL], .agg [I w.b, I w.lo, I w.hi]] [] Q := by
 obtain ⟨A, hA⟩ : ∃ A, A = ar := ⟨_, rfl⟩;obtain ⟨b3, hb3⟩ : ∃ x, x = decide (0 <= w.b /\ w.b <= b - 1) := ⟨_, rfl⟩;obtain ⟨b4, hb4⟩ : ∃ x, x = decide (1 <= w.lo /\ w.lo <= 20) := ⟨_, rfl⟩;obtain ⟨b5, hb5⟩ : ∃ x, x = decide (1 <= w.hi /\ w.hi <= 20) := ⟨_, rfl⟩;have hb3' : b3 = decide (0 <= w.b /\ w.b <= A.sub b 1) := by rw [Z24 hA]; exact hb3
 have hf : A.fits .i64 (A.sub b 1) := Z14 hA (Z24 hA b 1) (by omega);have z1 : b3 = false -> n = 3 := fun h => by rw [hn, chkW, amg, <- hb3, if_pos h]
 have z2 : b3 = true -> b4 = false -> n = 1 := fun h h2 => by rw [hn, chkW, amg, <- hb3, h, if_neg (by decide), amg, <- hb4, if_pos h2]
 have z3 : b3 = true -> b4 = true -> b5 = false -> n = 1 := fun h h2 h3 => by rw [hn, chkW, amg, <- hb3, h, if_neg (by decide), amg, <- hb4, h2, if_neg (by decide), amg, <- hb5, if_pos h3]
 have z4 : b3 = true -> b4 = true -> b5 = true -> w.hi < w.lo -> n = 5 := fun h h2 h3 h4 => by rw [hn, chkW, amg, <- hb3, h, if_neg (by decide), amg, <- hb4, h2, if_neg (by decide), amg, <- hb5, h3, if_neg (by decide), if_pos h4]
 have z5 : b3 = true -> b4 = true -> b5 = true -> w.lo <= w.hi -> n = 0 := fun h h2 h3 h4 => by rw [hn, chkW, amg, <- hb3, h, if_neg (by decide), amg, <- hb4, h2, if_neg (by decide), amg, <- hb5, h3, if_neg (by decide), if_neg (by omega)]
 refine Z5 Z0 hA Tryz.func144 rfl rfl rfl rfl rfl fun S hS => ?_;cbv;refine ⟨hf, ?_⟩;refine Z4 hS [I w.b, I 0, I (A.sub b 1)] [] [] rfl rfl rfl rfl rfl rfl rfl rfl (by decide) trivial (rAm _ _ _ b3 hb3' _ ?_);refine Z3 Z0 hA hS ?_;cbv;refine bm (fun c => ?_) (fun c => ?_)
 ·have hz := z1 (xnot hA c);rw [hz] at hq;cbv;exact Z2 [] (by decide) Z9 (H' := []) (d' := I 3) trivial rfl (Z1 hq)
 have d3 := xnnot hA c;cbv;refine Z4 hS [I w.lo, I 1, I 20] [] [] rfl rfl rfl rfl rfl rfl rfl rfl (by decide) trivial (rAm _ _ _ b4 hb4 _ ?_);refine Z3 Z0 hA hS ?_;cbv;refine bm (fun c => ?_) (fun c => ?_)
 ·have hz := z2 d3 (xnot hA c);rw [hz] at hq;cbv;refine Zg (f := 0) hS rfl rfl rfl rfl rfl rfl rfl rfl (fun e => Bool.noConfusion e) (fun _ => ?_);refine Z3 Z0 hA hS ?_;cbv;exact Z2 [] (by decide) Z9 (H' := []) (d' := I 1) trivial rfl (Z1 hq)
 have d4 := xnnot hA c;cbv;refine Zg hS rfl rfl rfl rfl rfl rfl rfl rfl (fun _ => ⟨_, _, [I w.hi, I 1, I 20], [], [], rfl, rfl, rfl, by decide, trivial, rAm _ _ _ b5 hb5 _ ?_⟩) (fun e => absurd rfl e);refine Z3 Z0 hA hS ?_;cbv;refine bm (fun c => ?_) (fun c => ?_)
 ·have hz := z3 d3 d4 (xnot hA c);rw [hz] at hq;cbv;exact Z2 [] (by decide) Z9 (H' := []) (d' := I 1) trivial rfl (Z1 hq)
 have d5 := xnnot hA c;cbv;refine bm (fun c => ?_) (fun c => ?_)
 ·have hz := z4 d3 d4 d5 (xgt hA c);rw [hz] at hq;cbv;exact Z2 [] (by decide) Z9 (H' := []) (d' := I 5) trivial rfl (Z1 hq)
 have hz := z5 d3 d4 d5 (Zax hA c);rw [hz] at hq;cbv;exact Z2 [] (by decide) Z9 (H' := []) (d' := I 0) trivial rfl (Z1 hq)
end Go.Proofs.YtegjabljeepbdaaGreatDoor.Bn

namespace Go.Proofs.YtegjabljeepbdaaGreatDoor.Bn
open Go Go.Abs Go.Proofs
def chkR (s : Sh) (x : Int) : Int := if x = 0 then (if 8 < Z1cw s.tasks then 6 else 0) else x
theorem Z194 {s : Sh} {x : Int} (h : x ≠ 0) : chkR s x = x := if_neg h
set_option maxRecDepth 20000 in
set_option maxHeartbeats 4000000 in
theorem rCheck (s : Sh) (hs : Fin s) (TL : List D) (hT : TL = s.tasks.map Z14z) (n : Int) (hn : n = Za5 s) (Q) (hq : Q (RA.ret (I n)) []) :
  CallA Tryz.prog 134 [.agg [I s.benches, .sl 3 TL]] [] Q := by
 obtain ⟨A, hA⟩ : ∃ A, A = ar := ⟨_, rfl⟩;obtain ⟨N, hN⟩ : ∃ N, N = s.tasks.length := ⟨_, rfl⟩;have hTl : TL.length = N := by rw [hT, hN]; simp
 obtain ⟨b1, hb1⟩ : ∃ x, x = decide (1 <= s.benches /\ s.benches <= 3) := ⟨_, rfl⟩;refine Z5 Z0 hA Tryz.func134 rfl rfl rfl rfl rfl fun S hS => ?_;cbv;refine Z4 hS [I s.benches, I 1, I 3] [] [] rfl rfl rfl rfl rfl rfl rfl rfl (by decide) trivial (rAm _ _ _ b1 hb1 _ ?_);refine Z3 Z0 hA hS ?_;cbv;refine bm (fun c1 => ?_) (fun c1 => ?_)
 ·have hz : n = 1 := by rw [hn, Za5, amg, <- hb1, if_pos (xnot hA c1)]
  rw [hz] at hq;cbv;exact Z2 [] (by decide) Z9 (H' := []) (d' := I 1) trivial rfl (Z1 hq)
 have d1 := xnnot hA c1;have hbb : 1 <= s.benches /\ s.benches <= 3 := by rw [d1] at hb1; exact of_decide_eq_true hb1.symm
 have hn1 : n = if 4 < s.tasks.length then 6 else chkR s (Z157 s.benches s.tasks) := by
  rw [hn, Za5, amg, <- hb1, d1, if_neg (by decide)]; rfl
 cbv;refine bm (fun c2 => ?_) (fun c2 => ?_)
 ·have hz : n = 6 := by have := ygtL hA hTl c2; rw [hn1, if_pos (by omega)]
  rw [hz] at hq;cbv;exact Z2 [] (by decide) Z9 (H' := []) (d' := I 6) trivial rfl (Z1 hq)
 have hN4 : N <= 4 := by have := yngtL hA hTl c2; omega
 have hn2 : n = chkR s (Z157 s.benches (s.tasks.drop 0)) := by rw [hn1, if_neg (by omega)]; rfl
 cbv;refine Zb hS ?_;refine Za (α := Int × Nat × Int) (fun q => { env := [(1, .b 0 0), (3, I q.2.2), (4, I q.1)], H := [.box (.agg [I s.benches, .sl 3 TL])], nt := 66, dfs := [] })
  (fun q => N - q.2.1) (fun q => q.2.1 <= N /\ IsI q.1 q.2.1 /\ IsI q.2.2 (Z1cw (s.tasks.take q.2.1)) /\ n = chkR s (Z157 s.benches (s.tasks.drop q.2.1))) (0, 0, 0) ⟨Nat.zero_le _, ⟨rfl⟩, ⟨rfl⟩, hn2⟩ ?_ ?_
 ·exact Zf [0] ⟨by decide, Z9, ⟨rfl, trivial⟩, ⟨rfl, rfl, rfl, trivial⟩, rfl, rfl⟩
 rintro ⟨i, k, x⟩ ⟨u1, u2, u3, u4⟩;dsimp only at u1 u2 u3 u4;refine Zi Z0 hA hS ?_;cbv;refine bm (fun c => ?_) (fun c => ?_)
 ·have hk : k < N := Z31 hA hTl u2 c;obtain ⟨t, ht⟩ : ∃ t, t = s.tasks[k] := ⟨_, rfl⟩;have htk : s.tasks[k]? = some t := by rw [ht]; exact List.getElem?_eq_getElem (by omega)
  obtain ⟨WL, hWL⟩ : ∃ WL, WL = t.works.map Z14x := ⟨_, rfl⟩;obtain ⟨W, hW⟩ : ∃ W, W = t.works.length := ⟨_, rfl⟩;have hWl : WL.length = W := by rw [hWL, hW]; simp
  have hTk : TL[k]? = some (.agg [I t.ready, I t.due, .sl 3 WL]) := by rw [hT]; simp [htk, hWL, Z14z]
  have hWb : W <= 1152921504606846976 := by rw [hW]; exact hs.2 t (List.mem_of_getElem? htk)
  have hsum : Z1cw (s.tasks.take (k + 1)) = Z1cw (s.tasks.take k) + W := by rw [List.take_add_one, htk]; simp [Z1cw, hW]
  have hb := Z15c hs.2 (k + 1);have hfx : A.fits .i64 (A.add x (A.oi (A.len WL))) := by
   subst hA; exact Zxl (n := x + (WL.length : Int)) (by
    have := u3.eq
    have h4 : (k + 1) * 1152921504606846976 <= 4 * 1152921504606846976 := Nat.mul_le_mul_right _ (by omega)
    omega)
  have hx : IsI (A.add x (A.oi (A.len WL))) (Z1cw (s.tasks.take (k + 1))) := by
   subst hA; exact ⟨by rw [hsum, u3.eq, <- hWl]; rfl⟩
  rw [Z16k htk] at u4;obtain ⟨z, hz⟩ : ∃ z, z = Z157 s.benches (s.tasks.drop (k + 1)) := ⟨_, rfl⟩;rw [<- hz] at u4;obtain ⟨b2, hb2⟩ : ∃ x, x = decide (0 <= t.ready /\ t.ready <= 200) := ⟨_, rfl⟩;obtain ⟨b3, hb3⟩ : ∃ x, x = decide (0 <= t.due /\ t.due <= 200) := ⟨_, rfl⟩;have hin := Z1b hA hTl u2 hk;have hg := Z18 hA u2 hTk;have hf := Zy hA u2 (by omega);have hu2 := Zz hA u2;have hms : N - (k + 1) < N - k := by omega
  have z1 : b2 = false -> n = 1 := fun h => by
   have e : chkT s.benches t = 1 := by rw [chkT, amg, <- hb2, if_pos h]
   rw [u4, e]; rfl
  have z2 : b2 = true -> b3 = false -> n = 1 := fun h h2 => by
   have e : chkT s.benches t = 1 := by rw [chkT, amg, <- hb2, h, if_neg (by decide), amg, <- hb3, if_pos h2]
   rw [u4, e]; rfl
  have z3 : b2 = true -> b3 = true -> (W : Int) = 0 -> n = 7 := fun h h2 h3 => by
   have e : chkT s.benches t = 7 := by rw [chkT, amg, <- hb2, h, if_neg (by decide), amg, <- hb3, h2, if_neg (by decide), if_pos (List.eq_nil_of_length_eq_zero (by omega))]
   rw [u4, e]; rfl
  have z4 : b2 = true -> b3 = true -> (W : Int) ≠ 0 -> n = chkR s (if Z156 s.benches (t.works.drop 0) = 0 then z else Z156 s.benches (t.works.drop 0)) := fun h h2 h3 => by
   have e : chkT s.benches t = Z156 s.benches t.works := by rw [chkT, amg, <- hb2, h, if_neg (by decide), amg, <- hb3, h2, if_neg (by decide), if_neg (fun e => h3 (by rw [hW, e]; rfl))]
   rw [u4, e]; rfl
  cbv;refine ⟨hin, ⟨_, hg, ?_⟩⟩;cbv;refine Z4 hS [I t.ready, I 0, I 200] [] [] rfl rfl rfl rfl rfl rfl rfl rfl (by decide) trivial (rAm _ _ _ b2 hb2 _ ?_);refine Z3 Z0 hA hS ?_;cbv;refine bm (fun c3 => ?_) (fun c3 => ?_)
  ·have hz1 := z1 (xnot hA c3);rw [hz1] at hq;cbv;refine Zg (f := 0) hS rfl rfl rfl rfl rfl rfl rfl rfl (fun e => Bool.noConfusion e) (fun _ => ?_);refine Z3 Z0 hA hS ?_;cbv;refine Z7 ?_;cbv;exact Z2 [] (by decide) Z9 (H' := []) (d' := I 1) trivial rfl (Z1 hq)
  have d3 := xnnot hA c3;cbv;refine Zg hS rfl rfl rfl rfl rfl rfl rfl rfl (fun _ => ⟨_, _, [I t.due, I 0, I 200], [], [], rfl, rfl, rfl, by decide, trivial, rAm _ _ _ b3 hb3 _ ?_⟩) (fun e => absurd rfl e);refine Z3 Z0 hA hS ?_;cbv;refine bm (fun c4 => ?_) (fun c4 => ?_)
  ·have hz1 := z2 d3 (xnot hA c4);rw [hz1] at hq;cbv;refine Z7 ?_;cbv;exact Z2 [] (by decide) Z9 (H' := []) (d' := I 1) trivial rfl (Z1 hq)
  have d4 := xnnot hA c4;cbv;refine bm (fun c5 => ?_) (fun c5 => ?_)
  ·have hz1 := z3 d3 d4 (yeqL hA hWl c5);rw [hz1] at hq;cbv;refine Z7 ?_;cbv;exact Z2 [] (by decide) Z9 (H' := []) (d' := I 7) trivial rfl (Z1 hq)
  have hn3 := z4 d3 d4 (yneqL hA hWl c5);cbv;refine Zb hS ?_;refine Za (α := Int × Nat) (fun q => { env := [(1, .b 0 0), (3, I x), (4, I i), (5, .b 1 0), (6, I q.1)], H := [.box (.agg [I s.benches, .sl 3 TL]), .box (.agg [I t.ready, I t.due, .sl 3 WL])], nt := 66, dfs := [] })
   (fun q => W - q.2) (fun q => q.2 <= W /\ IsI q.1 q.2 /\ n = chkR s (if Z156 s.benches (t.works.drop q.2) = 0 then z else Z156 s.benches (t.works.drop q.2))) (0, 0) ⟨Nat.zero_le _, ⟨rfl⟩, hn3⟩ ?_ ?_
  ·exact Zf [0, 1] ⟨by decide, Z9, ⟨rfl, rfl, trivial⟩, ⟨rfl, rfl, rfl, rfl, rfl, trivial⟩, rfl, rfl⟩
  rintro ⟨j, m⟩ ⟨v1, v2, v3⟩;dsimp only at v1 v2 v3;refine Zi Z0 hA hS ?_;cbv;refine bm (fun c6 => ?_) (fun c6 => ?_)
  ·have hm : m < W := Z31 hA hWl v2 c6;obtain ⟨w, hw⟩ : ∃ w, w = t.works[m] := ⟨_, rfl⟩;have hwm : t.works[m]? = some w := by rw [hw]; exact List.getElem?_eq_getElem (by omega)
   have hWm : WL[m]? = some (.agg [I w.b, I w.lo, I w.hi]) := by rw [hWL]; simp [hwm, Z14x]
   rw [Z16j hwm] at v3;obtain ⟨y, hy⟩ : ∃ y, y = chkW s.benches w := ⟨_, rfl⟩;rw [<- hy] at v3;have hin2 := Z1b hA hWl v2 hm;have hg2 := Z18 hA v2 hWm;have hf2 := Zy hA v2 (by omega);have hv2 := Zz hA v2;have hms2 : W - (m + 1) < W - m := by omega
   have y1 : y ≠ 0 -> n = y := fun h => by rw [v3, if_neg h, if_neg h, Z194 h]
   have y2 : y = 0 -> n = chkR s (if Z156 s.benches (t.works.drop (m + 1)) = 0 then z else Z156 s.benches (t.works.drop (m + 1))) := fun h => by rw [v3, if_pos h]
   cbv;refine Z16 Z0 hA hS [0, 1, 2, 3, 4, 5, 6, 7] rfl rfl fun Dk hD => ?_;cbv;refine ⟨hin2, ⟨_, hg2, ?_⟩⟩;cbv;refine Zq hA hD [.agg [I s.benches, .sl 3 TL], .agg [I w.b, I w.lo, I w.hi]] [] [] rfl rfl rfl rfl rfl rfl rfl rfl rfl rfl rfl (by decide) trivial (Z17g s.benches hbb w TL y hy _ ⟨by cbv, Zx Z0 hA hD ?_⟩);cbv;refine bm (fun c7 => ?_) (fun c7 => ?_)
   ·have hz1 := y1 (xne hA c7);rw [hz1] at hq;cbv;refine Z7 ?_;cbv;refine Z7 ?_;cbv;exact Z2 [] (by decide) Z9 (H' := []) (d' := I y) trivial rfl (Z1 hq)
   ·have hz1 := y2 (Z4t hA c7);cbv;refine ⟨hf2, ?_⟩;refine Z8 (A.add j 1, m + 1) [0, 1] ⟨hm, hv2, hz1⟩ hms2 ?_;exact ⟨by decide, Z9, ⟨rfl, rfl, trivial⟩, ⟨rfl, rfl, rfl, rfl, rfl, trivial⟩, rfl, rfl⟩
  ·have hm : m = W := by have := Z21 hA hWl v2 c6; omega
   have hz1 : n = chkR s z := by rw [v3, List.drop_eq_nil_of_le (by omega)]; rfl
   rw [hz] at hz1;cbv;refine Z7 ?_;cbv;refine ⟨hfx, hf, ?_⟩;refine Z8 (A.add i 1, k + 1, A.add x (A.oi (A.len WL))) [0] ⟨hk, hu2, hx, hz1⟩ hms ?_;exact ⟨by decide, Z9, ⟨rfl, trivial⟩, ⟨rfl, rfl, rfl, trivial⟩, rfl, rfl⟩
 ·have hk : k = N := by have := Z21 hA hTl u2 c; omega
  have hz : n = if 8 < Z1cw s.tasks then 6 else 0 := by rw [u4, List.drop_eq_nil_of_le (by omega)]; rfl
  have hx : IsI x (Z1cw s.tasks) := by rw [hk, hN, List.take_length] at u3; exact u3
  have z1 : 8 < x -> n = 6 := fun h => by have := hx.eq; rw [hz, if_pos (by omega)]
  have z2 : x <= 8 -> n = 0 := fun h => by have := hx.eq; rw [hz, if_neg (by omega)]
  cbv;refine Z7 ?_;cbv;refine bm (fun c => ?_) (fun c => ?_)
  ·have hz1 := z1 (xgt hA c);rw [hz1] at hq;cbv;exact Z2 [] (by decide) Z9 (H' := []) (d' := I 6) trivial rfl (Z1 hq)
  ·have hz1 := z2 (Zax hA c);rw [hz1] at hq;cbv;exact Z2 [] (by decide) Z9 (H' := []) (d' := I 0) trivial rfl (Z1 hq)
end Go.Proofs.YtegjabljeepbdaaGreatDoor.Bn

namespace Go.Proofs.YtegjabljeepbdaaGreatDoor.Bn
open Go Go.Abs Go.Proofs
theorem Z16a (s : Sh) (mo : Nat -> Int) (p : List Nat) : (runS s mo p).length = p.length := by simp [runS]
end Go.Proofs.YtegjabljeepbdaaGreatDoor.Bn

namespace Go.Proofs.YtegjabljeepbdaaGreatDoor.Bn
open Go Go.Abs Go.Proofs
structure Stt where
 t : Int
 k : Int
 b : Int
 bg : Int
 en : Int
 deriving DecidableEq
def fo (c : Stt -> Bool) (a : Int) (l : List Stt) : Int := l.foldl (fun m o => if c o then max m o.en else m) a
section
variable {s : Sh} {p : List Nat}
theorem Z19i (mo : Nat -> Int) {n i : Nat} (h : p[n]? = some i) : (runS s mo p)[n]? = some ⟨i, (Z14w false s (ckAt false s mo (Z14y s) 0 p n) i (mo n)).k, (Z14w false s (ckAt false s mo (Z14y s) 0 p n) i (mo n)).b, (Z14w false s (ckAt false s mo (Z14y s) 0 p n) i (mo n)).bg, (Z14w true s (ckAt true s mo (Z14y s) 0 p n) i (mo n)).bg, (Z14w false s (ckAt false s mo (Z14y s) 0 p n) i (mo n)).en, (Z14w true s (ckAt true s mo (Z14y s) 0 p n) i (mo n)).en⟩ := by
 have hn := (List.getElem?_eq_some_iff.1 h).1;have e : p.getD n 0 = i := by rw [List.getD_eq_getElem?_getD, h]; rfl
 rw [runS, List.getElem?_map, List.getElem?_range hn, Option.map_some];simp only [e]
structure RunAt (s : Sh) (p : List Nat) (n i : Nat) (x : Sl) : Prop where
 hi : i < s.tasks.length
 t : x.t = (i : Int)
 k : x.k = (((p.take n).count i : Nat) : Int)
 kl : (p.take n).count i < (s.tasks.getD i default).works.length
 b : x.b = (Z150 s i ((p.take n).count i)).b
 bg : ∀ sd, pk sd x.bl x.bh = (Z14w sd s (ckAt sd s (fun _ => 0) (Z14y s) 0 p n) i 0).bg
 en : ∀ sd, pk sd x.el x.eh = pk sd x.bl x.bh + sel sd (Z150 s i ((p.take n).count i)).lo (Z150 s i ((p.take n).count i)).hi
 b0 : ∀ sd, 0 <= pk sd x.bl x.bh /\ pk sd x.bl x.bh <= 200 + n * 20
theorem Z164 (hv : Val s) (hp : PlanLe s p) {n i : Nat} (h : p[n]? = some i) : ∃ x, (runS s (fun _ => 0) p)[n]? = some x /\ RunAt s p n i x := by
 have st := fun (sd : Bool) => Z15g (sd := sd) (more := fun _ => (0 : Int)) (M := 0) hv hp (by omega) (fun _ => ⟨Int.le_refl _, Int.le_refl _⟩) h (Z166 (sd := sd) (more := fun _ => (0 : Int)) hv hp (by omega) (fun _ => ⟨Int.le_refl _, Int.le_refl _⟩) n (by have := (List.getElem?_eq_some_iff.1 h).1; omega)) n;have f := st false;have t := st true;refine ⟨_, Z19i _ h, f.1, rfl, by simp only; rw [f.2.1], f.2.2.1, ?_, ?_, ?_, ?_⟩
 ·show (Z150 s i _).b = _;have := f.2.1;simp only [Z14w] at this ⊢;rw [this]
 ·intro sd; cases sd <;> rfl
 ·intro sd
  cases sd
  ·have := f.2.1;simp only [pk, Z14w] at this ⊢;rw [this]; simp
  ·have := t.2.1;simp only [pk, Z14w] at this ⊢;rw [this]; simp
 ·intro sd;have e : (n : Int) * (20 + 0) = n * 20 := by simp
  cases sd
  ·have := f.2.2.2.1; have := f.2.2.2.2.1; simp only [pk]; omega
  ·have := t.2.2.2.1; have := t.2.2.2.2.1; simp only [pk]; omega
end
end Go.Proofs.YtegjabljeepbdaaGreatDoor.Bn

namespace Go.Proofs.YtegjabljeepbdaaGreatDoor
open Go Go.Abs Go.Proofs
theorem Zdk {α : Type} {a b : List α} {k : Nat} {x y : α} (ha : a[k]? = some x) (hb : b[k]? = some y) (h : a.take k = b.take k) : (a.take (k + 1) = b.take (k + 1)) ↔ x = y := by
 rw [List.take_add_one, List.take_add_one, ha, hb, h]; simp
theorem Zg4 {α : Type} {a b : List α} {k : Nat} {x y : α} (ha : a[k]? = some x) (hb : b[k]? = some y) (h : x ≠ y) : a ≠ b := fun e => by
 subst e; rw [ha] at hb; exact h (Option.some.inj hb)
theorem Zx0 {A : Ar} (hA : A = ar) (x y : Int) : A.cmp .eql x y = decide (x = y) := by subst hA; rfl
set_option maxRecDepth 20000 in
set_option maxHeartbeats 2000000 in
theorem Zaq (a b : List Int) (LA LB : List D) (hLA : LA = a.map I) (hLB : LB = b.map I) (hl : a.length <= 1152921504606846976) (r : Bool) (hr : r = decide (a = b)) (Q) (hq : Q (RA.ret (.v (.bool r))) []) :
  CallA Tryz.prog 33 [.sl 1 LA, .sl 1 LB] [] Q := by
 obtain ⟨A, hA⟩ : ∃ A, A = ar := ⟨_, rfl⟩;have hAl : LA.length = a.length := by rw [hLA]; simp
 have hBl : LB.length = b.length := by rw [hLB]; simp
 obtain ⟨s0, hs0⟩ : ∃ s0, s0 = A.cmp .eql (A.oi (A.len LA)) (A.oi (A.len LB)) := ⟨_, rfl⟩;have hs1 : s0 = decide (a.length = b.length) := by
  rw [hs0, yoiL hA hAl, yoiL hA hBl, Zx0 hA]
  by_cases h : a.length = b.length
  ·rw [decide_eq_true h, decide_eq_true (by omega)]
  ·rw [decide_eq_false h, decide_eq_false (by omega)]
 refine Z5 Z0 hA Tryz.func33 rfl rfl rfl rfl rfl fun S hS => ?_;cbv;refine Zb hS ?_;refine Za (α := Int × Nat × Bool) (fun q => { env := [(0, .sl 1 LA), (1, .sl 1 LB), (5, .v (.bool q.2.2)), (6, I q.1)], H := [], nt := 31, dfs := [] })
  (fun q => a.length + 1 - q.2.1) (fun q => IsI q.1 q.2.1 /\ q.2.1 <= a.length /\ (q.2.2 = true -> a.length = b.length /\ a.take q.2.1 = b.take q.2.1) /\ (q.2.2 = false -> a ≠ b)) (0, 0, A.cmp .eql (A.oi (A.len LA)) (A.oi (A.len LB))) ⟨⟨rfl⟩, Nat.zero_le _, ?_, ?_⟩ ?_ ?_
 ·exact fun h => ⟨of_decide_eq_true (hs1.symm.trans (hs0.trans h)), rfl⟩
 ·exact fun h e => of_decide_eq_false (hs1.symm.trans (hs0.trans h)) (by rw [e])
 ·exact Zf [] ⟨by decide, Z9, trivial, ⟨rfl, rfl, rfl, rfl, trivial⟩, rfl, rfl⟩
 rintro ⟨i, k, sm⟩ ⟨u1, u2, u3, u4⟩;dsimp only at u1 u2 u3 u4
 cases sm
 ·have hr0 : r = false := by rw [hr]; exact decide_eq_false (u4 rfl)
  rw [hr0] at hq;refine Zi Z0 hA hS ?_;cbv;refine Z7 ?_;cbv;exact Z1 hq
 ·obtain ⟨e1, e2⟩ := u3 rfl;have hend : a.length <= k -> r = true := fun h => by
   rw [hr]; refine decide_eq_true ?_;rw [List.take_of_length_le h, List.take_of_length_le (by omega)] at e2; exact e2
  have hget : k < a.length -> ∃ x y, a[k]? = some x /\ b[k]? = some y := fun h => ⟨_, _, List.getElem?_eq_getElem h, List.getElem?_eq_getElem (by omega)⟩;have hlt : k < b.length -> k < a.length := fun h => by omega
  have hgt : k < a.length -> k < b.length := fun h => by omega
  have hms : k < a.length -> a.length + 1 - (k + 1) < a.length + 1 - k := fun h => by omega
  refine Zi Z0 hA hS ?_;cbv
  split
  ·rename_i c
   have hk := Z31 hA hAl u1 c;obtain ⟨x, y, hx, hy⟩ := hget hk;have hLx : LA[k]? = some (I x) := by rw [hLA]; simp [hx]
   have hLy : LB[k]? = some (I y) := by rw [hLB]; simp [hy]
   have hn1 : A.cmp .eql x y = true -> a.length = b.length /\ a.take (k + 1) = b.take (k + 1) := fun h => ⟨e1, (Zdk hx hy e2).2 (xeq hA h)⟩;have hn2 : A.cmp .eql x y = false -> a ≠ b := fun h => Zg4 hx hy (Z2o hA h);cbv;refine Z16 Z0 hA hS [0, 1, 2, 3, 4, 5, 6, 7, 8, 9] rfl rfl fun Dk hD => ?_;cbv;refine ⟨Z1b hA hAl u1 hk, ⟨_, Z18 hA u1 hLx, ?_⟩⟩;cbv;refine ⟨Z1b hA hBl u1 (hgt hk), ⟨_, Z18 hA u1 hLy, ?_⟩⟩;cbv;refine ⟨Zy hA u1 (by omega), ?_⟩;refine Z8 (A.add i 1, k + 1, A.cmp .eql x y) [] ⟨Zz hA u1, hk, hn1, hn2⟩ (hms hk) ?_;exact ⟨by decide, Z9, trivial, ⟨rfl, rfl, rfl, rfl, trivial⟩, rfl, rfl⟩
  ·rename_i c
   have hk := Z21 hA hAl u1 c;have hr1 := hend hk;rw [hr1] at hq;cbv;refine Z7 ?_;cbv;exact Z1 hq
theorem Zzl {A : Ar} (hA : A = ar) {x y : List Int} (h : A.leq x y = true) : x = y := by subst hA; simpa [ar] using h
theorem Zyd {A : Ar} (hA : A = ar) {x y : List Int} (h : A.leq x y = false) : x ≠ y := by subst hA; simpa [ar] using h
def Zt3 (x : Int × Int) : D := .agg [I x.1, I x.2]
set_option maxRecDepth 20000 in
set_option maxHeartbeats 2000000 in
theorem Za2 (a b : List (Int × Int)) (LA LB : List D) (hLA : LA = a.map Zt3) (hLB : LB = b.map Zt3) (hl : a.length <= 1152921504606846976) (r : Bool) (hr : r = decide (a = b)) (Q) (hq : Q (RA.ret (.v (.bool r))) []) :
  CallA Tryz.prog 19 [.sl 2 LA, .sl 2 LB] [] Q := by
 obtain ⟨A, hA⟩ : ∃ A, A = ar := ⟨_, rfl⟩;have hAl : LA.length = a.length := by rw [hLA]; simp
 have hBl : LB.length = b.length := by rw [hLB]; simp
 obtain ⟨s0, hs0⟩ : ∃ s0, s0 = A.cmp .eql (A.oi (A.len LA)) (A.oi (A.len LB)) := ⟨_, rfl⟩;have hs1 : s0 = decide (a.length = b.length) := by
  rw [hs0, yoiL hA hAl, yoiL hA hBl, Zx0 hA]
  by_cases h : a.length = b.length
  ·rw [decide_eq_true h, decide_eq_true (by omega)]
  ·rw [decide_eq_false h, decide_eq_false (by omega)]
 refine Z5 Z0 hA Tryz.func19 rfl rfl rfl rfl rfl fun S hS => ?_;cbv;refine Zb hS ?_;refine Za (α := Int × Nat × Bool) (fun q => { env := [(0, .sl 2 LA), (1, .sl 2 LB), (5, .v (.bool q.2.2)), (6, I q.1)], H := [], nt := 31, dfs := [] })
  (fun q => a.length + 1 - q.2.1) (fun q => IsI q.1 q.2.1 /\ q.2.1 <= a.length /\ (q.2.2 = true -> a.length = b.length /\ a.take q.2.1 = b.take q.2.1) /\ (q.2.2 = false -> a ≠ b)) (0, 0, A.cmp .eql (A.oi (A.len LA)) (A.oi (A.len LB))) ⟨⟨rfl⟩, Nat.zero_le _, ?_, ?_⟩ ?_ ?_
 ·exact fun h => ⟨of_decide_eq_true (hs1.symm.trans (hs0.trans h)), rfl⟩
 ·exact fun h e => of_decide_eq_false (hs1.symm.trans (hs0.trans h)) (by rw [e])
 ·exact Zf [] ⟨by decide, Z9, trivial, ⟨rfl, rfl, rfl, rfl, trivial⟩, rfl, rfl⟩
 rintro ⟨i, k, sm⟩ ⟨u1, u2, u3, u4⟩;dsimp only at u1 u2 u3 u4
 cases sm
 ·have hr0 : r = false := by rw [hr]; exact decide_eq_false (u4 rfl)
  rw [hr0] at hq;refine Zi Z0 hA hS ?_;cbv;refine Z7 ?_;cbv;exact Z1 hq
 ·obtain ⟨e1, e2⟩ := u3 rfl;have hend : a.length <= k -> r = true := fun h => by
   rw [hr]; refine decide_eq_true ?_;rw [List.take_of_length_le h, List.take_of_length_le (by omega)] at e2; exact e2
  have hget : k < a.length -> ∃ x1 x2 y1 y2, a[k]? = some (x1, x2) /\ b[k]? = some (y1, y2) := fun h => ⟨_, _, _, _, List.getElem?_eq_getElem h, List.getElem?_eq_getElem (by omega)⟩;have hgt : k < a.length -> k < b.length := fun h => by omega
  have hms : k < a.length -> a.length + 1 - (k + 1) < a.length + 1 - k := fun h => by omega
  refine Zi Z0 hA hS ?_;cbv
  split
  ·rename_i c
   have hk := Z31 hA hAl u1 c;obtain ⟨x1, x2, y1, y2, hx, hy⟩ := hget hk;have hLx : LA[k]? = some (.agg [I x1, I x2]) := by rw [hLA]; simp [hx, Zt3]
   have hLy : LB[k]? = some (.agg [I y1, I y2]) := by rw [hLB]; simp [hy, Zt3]
   have hn1 : A.leq [x1, x2] [y1, y2] = true -> a.length = b.length /\ a.take (k + 1) = b.take (k + 1) := fun h => ⟨e1, (Zdk hx hy e2).2 (by have := Zzl hA h; simp only [List.cons.injEq, and_true] at this; rw [this.1, this.2])⟩;have hn2 : A.leq [x1, x2] [y1, y2] = false -> a ≠ b := fun h => Zg4 hx hy (fun e => by cases e; exact Zyd hA h rfl);cbv;refine Z16 Z0 hA hS [0, 1, 2, 3, 4, 5, 6, 7, 8, 9] rfl rfl fun Dk hD => ?_;cbv;refine ⟨Z1b hA hAl u1 hk, ⟨_, Z18 hA u1 hLx, ?_⟩⟩;cbv;refine ⟨Z1b hA hBl u1 (hgt hk), ⟨_, Z18 hA u1 hLy, ?_⟩⟩;cbv;refine ⟨[x1, x2], [y1, y2], rfl, rfl, rfl, rfl, ?_⟩;cbv;refine ⟨Zy hA u1 (by omega), ?_⟩;refine Z8 (A.add i 1, k + 1, A.leq [x1, x2] [y1, y2]) [] ⟨Zz hA u1, hk, hn1, hn2⟩ (hms hk) ?_;exact ⟨by decide, Z9, trivial, ⟨rfl, rfl, rfl, rfl, trivial⟩, rfl, rfl⟩
  ·rename_i c
   have hk := Z21 hA hAl u1 c;have hr1 := hend hk;rw [hr1] at hq;cbv;refine Z7 ?_;cbv;exact Z1 hq
end Go.Proofs.YtegjabljeepbdaaGreatDoor

namespace Go.Proofs.YtegjabljeepbdaaGreatDoor.Bn
open Go Go.Abs Go.Proofs
def ck0 (sd : Bool) (s : Sh) (p : List Nat) (n : Nat) : Ck := ckAt sd s (fun _ => 0) (Z14y s) 0 p n
def benD (s : Sh) (p : List Nat) (n : Nat) : List D := (List.range s.benches.toNat).map fun b => Zt3 ((ck0 false s p n).bn.getD b 0, (ck0 true s p n).bn.getD b 0)
def endD (s : Sh) (p : List Nat) (n : Nat) : List D := (List.range s.tasks.length).map fun i => Zt3 ((ck0 false s p n).tk.getD i 0, (ck0 true s p n).tk.getD i 0)
theorem Z15x {s : Sh} {p : List Nat} {n b : Nat} (h : b < s.benches.toNat) : (benD s p n)[b]? = some (.agg [I ((ck0 false s p n).bn.getD b 0), I ((ck0 true s p n).bn.getD b 0)]) := by
 simp [benD, List.getElem?_range h, Zt3]
theorem Z15y {s : Sh} {p : List Nat} {n i : Nat} (h : i < s.tasks.length) : (endD s p n)[i]? = some (.agg [I ((ck0 false s p n).tk.getD i 0), I ((ck0 true s p n).tk.getD i 0)]) := by
 simp [endD, List.getElem?_range h, Zt3]
section
variable {s : Sh} {p : List Nat}
theorem Z15s (hv : Val s) (hp : PlanLe s p) {n i : Nat} (hpn : p[n]? = some i) {x : Sl} (hx : (runS s (fun _ => 0) p)[n]? = some x) (sd : Bool) :
  (ck0 sd s p (n + 1)).bn = (ck0 sd s p n).bn.set x.b.toNat (pk sd x.el x.eh) /\ (ck0 sd s p (n + 1)).tk = (ck0 sd s p n).tk.set i (pk sd x.el x.eh) /\
   pk sd x.bl x.bh = max ((ck0 sd s p n).tk.getD i 0) ((ck0 sd s p n).bn.getD x.b.toNat 0) /\ (ck0 sd s p n).bn.length = 3 /\ (ck0 sd s p n).tk.length = 4 := by
 unfold ck0;obtain ⟨y, hy, hr⟩ := Z164 hv hp hpn;rw [hx] at hy; cases hy;have hn := (List.getElem?_eq_some_iff.1 hpn).1;have hck := Z166 (sd := sd) (more := fun _ => 0) (M := 0) hv hp (by omega) (fun _ => ⟨by omega, by omega⟩) n (by omega);have hlen := hv.len;have htk := hr.hi;have hk : (ckAt sd s (fun _ => 0) (Z14y s) 0 p n).dn.getD i 0 = (p.take n).count i := hck.dc _ (by omega);have hbg := hr.bg sd;have hen := hr.en sd;have hend : (Z14w sd s (ckAt sd s (fun _ => 0) (Z14y s) 0 p n) i 0).en = pk sd x.el x.eh := by
  rw [hen, hbg]; simp only [Z14w, hk]; simp
 have hbb : (Z14w sd s (ckAt sd s (fun _ => 0) (Z14y s) 0 p n) i 0).b = x.b := by
  rw [hr.b]; simp only [Z14w, hk]
 rw [Z15e sd s _ p _ _ _ _ hpn];refine ⟨?_, ?_, ?_, hck.bn, hck.tk⟩
 ·simp only [Z15i]; rw [hend, hbb]
 ·simp only [Z15i]; rw [hend]
 ·rw [hbg, <- hbb]; simp only [Z14w]
theorem Z18k (hv : Val s) (hp : PlanLe s p) {n i : Nat} (hpn : p[n]? = some i) {x : Sl} (hx : (runS s (fun _ => 0) p)[n]? = some x) : benD s p (n + 1) = (benD s p n).set x.b.toNat (.agg [I x.el, I x.eh]) := by
 obtain ⟨a1, -, -, a4, -⟩ := Z15s hv hp hpn hx false;obtain ⟨b1, -, -, b4, -⟩ := Z15s hv hp hpn hx true;obtain ⟨y, hy, hr⟩ := Z164 hv hp hpn;rw [hx] at hy; cases hy;have hw := Z15n hv hr.hi hr.kl;rw [<- hr.b] at hw;have hb1 := hv.b1;refine List.ext_getElem? fun j => ?_;rw [List.getElem?_set]
 by_cases hj : j < s.benches.toNat
 ·rw [Z15x hj, a1, b1, Z15f _ _ _ _ _ (by omega), Z15f _ _ _ _ _ (by omega)]
  by_cases e : x.b.toNat = j
  ·rw [if_pos e.symm, if_pos e.symm, if_pos e, if_pos (by simp [benD]; omega)]; rfl
  ·rw [if_neg e, if_neg (fun h => e h.symm), if_neg (fun h => e h.symm), Z15x hj]
 ·rw [if_neg (by omega), List.getElem?_eq_none (by simp [benD]; omega), List.getElem?_eq_none (by simp [benD]; omega)]
theorem Z18l (hv : Val s) (hp : PlanLe s p) {n i : Nat} (hpn : p[n]? = some i) {x : Sl} (hx : (runS s (fun _ => 0) p)[n]? = some x) : endD s p (n + 1) = (endD s p n).set i (.agg [I x.el, I x.eh]) := by
 obtain ⟨-, a2, -, -, a5⟩ := Z15s hv hp hpn hx false;obtain ⟨-, b2, -, -, b5⟩ := Z15s hv hp hpn hx true;have hi := hp.lt i (List.mem_of_getElem? hpn);have hlen := hv.len;refine List.ext_getElem? fun j => ?_;rw [List.getElem?_set]
 by_cases hj : j < s.tasks.length
 ·rw [Z15y hj, a2, b2, Z15f _ _ _ _ _ (by omega), Z15f _ _ _ _ _ (by omega)]
  by_cases e : i = j
  ·rw [if_pos e.symm, if_pos e.symm, if_pos e, if_pos (by simp [endD]; omega)]; rfl
  ·rw [if_neg e, if_neg (fun h => e h.symm), if_neg (fun h => e h.symm), Z15y hj]
 ·rw [if_neg (by omega), List.getElem?_eq_none (by simp [endD]; omega), List.getElem?_eq_none (by simp [endD]; omega)]
theorem Z17y (hv : Val s) : benD s p 0 = List.replicate s.benches.toNat (.agg [I 0, I 0]) := by
 have hb1 := hv.b1;refine List.ext_getElem? fun j => ?_
 by_cases hj : j < s.benches.toNat
 ·rw [Z15x hj, List.getElem?_replicate, if_pos hj];have h : ∀ sd, (ck0 sd s p 0).bn.getD j 0 = 0 := fun sd => by
   simp only [ck0, ckAt, Z14y]
   match j, (show j < 3 by omega) with
   | 0, _ => rfl
   | 1, _ => rfl
   | 2, _ => rfl
  rw [h, h]
 ·rw [List.getElem?_eq_none (by simp [benD]; omega), List.getElem?_eq_none (by simp; omega)]
def rdyD (s : Sh) (k : Nat) : List D := (List.range s.tasks.length).map fun i => if i < k then .agg [I (s.tasks.getD i default).ready, I (s.tasks.getD i default).ready] else .agg [I 0, I 0]
theorem Z15l {k i : Nat} (h : i < s.tasks.length) : (rdyD s k)[i]? = some (if i < k then .agg [I (s.tasks.getD i default).ready, I (s.tasks.getD i default).ready] else .agg [I 0, I 0]) := by simp [rdyD, List.getElem?_range h]
theorem Z17z : rdyD s 0 = List.replicate s.tasks.length (.agg [I 0, I 0]) := by
 refine List.ext_getElem? fun j => ?_
 by_cases hj : j < s.tasks.length
 ·rw [Z15l hj, List.getElem?_replicate, if_pos hj]; rfl
 ·rw [List.getElem?_eq_none (by simp [rdyD]; omega), List.getElem?_eq_none (by simp; omega)]
theorem Z18m {k : Nat} {t : Tk} (h : s.tasks[k]? = some t) : rdyD s (k + 1) = (rdyD s k).set k (.agg [I t.ready, I t.ready]) := by
 have hk := (List.getElem?_eq_some_iff.1 h).1;have ht : s.tasks.getD k default = t := by rw [List.getD_eq_getElem?_getD, h]; rfl
 refine List.ext_getElem? fun j => ?_;rw [List.getElem?_set]
 by_cases hj : j < s.tasks.length
 ·rw [Z15l hj]
  by_cases e : k = j
  ·subst e;have hl : k < (rdyD s k).length := by simpa [rdyD] using hj
   rw [if_pos (show k < k + 1 by omega), if_pos rfl, if_pos hl, ht]
  ·rw [if_neg e, Z15l hj]
   by_cases h2 : j < k
   ·rw [if_pos h2, if_pos (by omega)]
   ·rw [if_neg h2, if_neg (by omega)]
 ·rw [if_neg (by omega), List.getElem?_eq_none (by simp [rdyD]; omega), List.getElem?_eq_none (by simp [rdyD]; omega)]
theorem Z18n : rdyD s s.tasks.length = endD s p 0 := by
 refine List.ext_getElem? fun j => ?_
 by_cases hj : j < s.tasks.length
 ·rw [Z15l hj, Z15y hj, if_pos hj];have h : ∀ sd, (ck0 sd s p 0).tk.getD j 0 = (s.tasks.getD j default).ready := fun sd => by
   simp only [ck0, ckAt, Z14y, pad4, List.getD_eq_getElem?_getD];rw [List.getElem?_append_left (by simpa using hj), List.getElem?_map, List.getElem?_eq_getElem hj]; rfl
  rw [h, h]
 ·rw [List.getElem?_eq_none (by simp [rdyD]; omega), List.getElem?_eq_none (by simp [endD]; omega)]
end
end Go.Proofs.YtegjabljeepbdaaGreatDoor.Bn

namespace Go.Proofs.YtegjabljeepbdaaGreatDoor.Bn
open Go Go.Abs Go.Proofs
theorem Z19j (a b c d e f : Int) (he : e = max a c) (hf : f = max b d) (Q) (hq : Q (RA.ret (.agg [I e, I f])) []) : CallA Tryz.prog 136 [.agg [I a, I b], .agg [I c, I d]] [] Q := later a b c d Q (by rw [<- he, <- hf]; exact hq)
set_option maxRecDepth 20000 in
set_option maxHeartbeats 8000000 in
theorem rRun (s : Sh) (hv : Val s) (p : List Nat) (hp : PlanLe s p) (hpl : p.length <= 20) (TL PL : List D) (hT : TL = s.tasks.map Z14z) (hP : PL = Z15w p) (Q) (hq : ∀ RL, RL = (runS s (fun _ => 0) p).map Z14v -> Q (RA.ret (.sl 7 RL)) []) :
  CallA Tryz.prog 113 [.agg [I s.benches, .sl 3 TL], .sl 1 PL] [] Q := by
 obtain ⟨A, hA⟩ : ∃ A, A = ar := ⟨_, rfl⟩;obtain ⟨N, hN⟩ : ∃ N, N = s.tasks.length := ⟨_, rfl⟩;have hTl : TL.length = N := by rw [hT, hN]; simp
 have hlen := hv.len;have hPl : PL.length = p.length := by rw [hP]; simp [Z15w]
 have hb0 := hv.b0;have hb1 := hv.b1;obtain ⟨n0, hn0⟩ : ∃ n0, n0 = A.tn (A.oi (A.len TL)) := ⟨_, rfl⟩;have hn0N : n0 = N := by rw [hn0, yoiL hA hTl]; subst hA; rfl
 obtain ⟨nb, hnb⟩ : ∃ nb, nb = A.tn s.benches := ⟨_, rfl⟩;have hnbB : nb = s.benches.toNat := by rw [hnb]; subst hA; rfl
 have hrb : A.rep nb (.agg [I 0, I 0]) = benD s p 0 := by rw [hnbB, Z17y hv]; subst hA; rfl
 have hre : A.rep n0 (.agg [I 0, I 0]) = rdyD s 0 := by rw [hn0N, hN, Z17z]; subst hA; rfl
 have hrd : A.rep n0 (I 0) = cntD s p 0 := by
  rw [hn0N, hN]; subst hA;refine List.ext_getElem? fun j => ?_
  by_cases hj : j < s.tasks.length
  ·rw [Z158 hj]; simp [ar, hj]
  ·rw [List.getElem?_eq_none (by simp [ar]; omega), List.getElem?_eq_none (by simp [cntD]; omega)]
 have hr1 : A.room (A.tn s.benches) 16 := by rw [<- hnb, hnbB]; exact Zj1 hA (by omega) (by decide)
 have hr2 : A.room (A.tn (A.oi (A.len TL))) 16 := by rw [<- hn0, hn0N]; exact Zj1 hA (by omega) (by decide)
 have hr3 : A.room (A.tn (A.oi (A.len TL))) 8 := by rw [<- hn0, hn0N]; exact Zj1 hA (by omega) (by decide)
 have hnn1 : A.nneg s.benches := by subst hA; show 0 <= s.benches; omega
 have hnn2 : A.nneg (A.oi (A.len TL)) := by subst hA; exact Int.natCast_nonneg _
 refine Z5 Z0 hA Tryz.func113 rfl rfl rfl rfl rfl fun S hS => ?_;cbv;refine ⟨hnn1, hr1, ?_⟩;refine Z16 Z0 hA hS [0, 1, 2, 3, 4, 5, 6, 7, 8, 9] rfl rfl fun Dk hD => ?_;cbv;refine ⟨hnn2, hr3, hnn2, hr2, ?_⟩;obtain ⟨BL, hBL⟩ : ∃ BL, BL = A.rep nb (.agg [I 0, I 0]) := ⟨_, rfl⟩;obtain ⟨CL, hCL⟩ : ∃ CL, CL = A.rep n0 (I 0) := ⟨_, rfl⟩;obtain ⟨RL, hRL⟩ : ∃ RL, RL = A.rep n0 (.agg [I 0, I 0]) := ⟨_, rfl⟩;refine Zb hS ?_;refine Za (α := Int × Nat × List D) (fun q => { env := [(1, .sl 1 PL), (2, .b 0 0), (5, .v (.slice none 0 0)), (6, .o 1 2 nb), (7, .o 2 1 n0), (8, .o 3 2 n0), (9, I q.1)], H := [.box (.agg [I s.benches, .sl 3 TL]), .els 2 BL, .els 1 CL, .els 2 q.2.2], nt := 123, dfs := [] })
  (fun q => N - q.2.1) (fun q => q.2.1 <= N /\ IsI q.1 q.2.1 /\ q.2.2 = rdyD s q.2.1) (0, 0, RL) ⟨Nat.zero_le _, ⟨rfl⟩, hRL.trans hre⟩ ?_ ?_
 ·rw [hBL, hCL, hRL];exact Zf [0, 1, 2, 3] ⟨by decide, Z9, ⟨rfl, by rw [hnb]; rfl, by rw [hn0]; rfl, by rw [hn0]; rfl, trivial⟩, ⟨rfl, rfl, rfl, by rw [hnb]; rfl, by rw [hn0]; rfl, by rw [hn0]; rfl, rfl, trivial⟩, rfl, rfl⟩
 rintro ⟨i, k, EL⟩ ⟨u1, u2, hEL⟩;dsimp only at u1 u2 hEL;refine Z2w Z0 hA hS [] ?_;cbv;refine bm (fun c => ?_) (fun c => ?_)
 ·have hk : k < N := Z31 hA hTl u2 c;obtain ⟨t, ht⟩ : ∃ t, t = s.tasks[k] := ⟨_, rfl⟩;have htk : s.tasks[k]? = some t := by rw [ht]; exact List.getElem?_eq_getElem (by omega)
  obtain ⟨WL, hWL⟩ : ∃ WL, WL = t.works.map Z14x := ⟨_, rfl⟩;have hTk : TL[k]? = some (.agg [I t.ready, I t.due, .sl 3 WL]) := by rw [hT]; simp [htk, hWL, Z14z]
  have hin := Z1b hA hTl u2 hk;have hg := Z18 hA u2 hTk;have hf := Zy hA u2 (by omega);have hu2 := Zz hA u2;have hms : N - (k + 1) < N - k := by omega
  have hi0 : A.inb i n0 := Z4o hA u2 (by omega);have hEk : (rdyD s k)[k]? = some (.agg [I 0, I 0]) := by rw [Z15l (by omega), if_neg (Nat.lt_irrefl k)]
  have hgE := Z18 hA u2 hEk;have hset : A.set (rdyD s k) (A.tn i) (.agg [I t.ready, I t.ready]) = rdyD s (k + 1) := Z7n hA u2 (Z18m htk);rw [<- hEL] at hgE hset;cbv;refine Z16 Z0 hA hS [0, 1, 2, 3, 4, 5, 6, 7, 8, 9, 10, 11, 12, 13, 14, 15, 16] rfl rfl fun Dk1 hD1 => ?_;cbv;refine ⟨hin, ⟨_, hg, ?_⟩⟩;cbv;refine ⟨hin, ⟨_, hg, ?_⟩⟩;cbv;refine ⟨hi0, ⟨_, hgE, ?_⟩⟩;cbv;refine ⟨hf, ?_⟩;refine Z8 (A.add i 1, k + 1, A.set EL (A.tn i) (.agg [I t.ready, I t.ready])) [0, 1, 2, 3] ⟨hk, hu2, hset⟩ hms ?_;exact ⟨by decide, Z9, ⟨rfl, rfl, rfl, rfl, trivial⟩, ⟨rfl, rfl, rfl, rfl, rfl, rfl, rfl, trivial⟩, rfl, rfl⟩
 have hk : k = N := by have := Z21 hA hTl u2 c; omega
 have hE0 : EL = endD s p 0 := by rw [hEL, hk, hN, Z18n]
 cbv;refine Z7 ?_;cbv;refine Zb hS ?_;refine Za (α := Int × Nat × List D × Nat × List D × List D × List D) (fun q => { env := [(1, .sl 1 PL), (2, .b 0 0), (5, .o 4 7 q.2.2.2.1), (6, .o 1 2 nb), (7, .o 2 1 n0), (8, .o 3 2 n0), (10, I q.1)], H := [.box (.agg [I s.benches, .sl 3 TL]), .els 2 q.2.2.2.2.1, .els 1 q.2.2.2.2.2.1, .els 2 q.2.2.2.2.2.2, .els 7 q.2.2.1], nt := 123, dfs := [] })
  (fun q => p.length - q.2.1) (fun q => q.2.1 <= p.length /\ IsI q.1 q.2.1 /\ q.2.2.1 = ((runS s (fun _ => 0) p).take q.2.1).map Z14v /\ q.2.2.1.length = q.2.2.2.1 /\ q.2.2.2.2.1 = benD s p q.2.1 /\ q.2.2.2.2.2.1 = cntD s p q.2.1 /\ q.2.2.2.2.2.2 = endD s p q.2.1) (0, 0, [], 0, BL, CL, EL) ⟨Nat.zero_le _, ⟨rfl⟩, rfl, rfl, hBL.trans hrb, hCL.trans hrd, hE0⟩ ?_ ?_
 ·refine Z2a 5 7 rfl ?_;exact Zf [0, 1, 2, 3, 4] ⟨by decide, Z9, ⟨rfl, rfl, rfl, rfl, rfl, trivial⟩, ⟨rfl, rfl, rfl, rfl, rfl, rfl, rfl, trivial⟩, rfl, rfl⟩
 clear u1 u2 hk hBL hCL hEL hE0 c;clear i k BL CL EL;rintro ⟨i, k, HL, n, BL, CL, EL⟩ ⟨u1, u2, u3, u4, hBL, hCL, hEL⟩;dsimp only at u1 u2 u3 u4 hBL hCL hEL;have hnk : n = k := by rw [<- u4, u3, List.length_map, List.length_take, Z16a]; omega
 refine Z2w Z0 hA hS [] ?_;cbv;refine bm (fun c => ?_) (fun c => ?_)
 ·have hk : k < p.length := Z31 hA hPl u2 c;obtain ⟨t, hpk⟩ : ∃ t, p[k]? = some t := ⟨_, List.getElem?_eq_getElem hk⟩;obtain ⟨x, hx, hr⟩ := Z164 hv hp hpk;have ht := hr.hi;obtain ⟨T, hTT⟩ : ∃ T, T = s.tasks.getD t default := ⟨_, rfl⟩;have htk : s.tasks[t]? = some T := by rw [hTT, List.getD_eq_getElem?_getD, List.getElem?_eq_getElem ht]; rfl
  obtain ⟨cn, hcn⟩ : ∃ cn, cn = (p.take k).count t := ⟨_, rfl⟩;have hcl := hr.kl;rw [<- hcn, <- hTT] at hcl;obtain ⟨w, hw⟩ : ∃ w, w = T.works.getD cn default := ⟨_, rfl⟩;have hwa : Z150 s t cn = w := by rw [hw, hTT]; rfl
  have hwk : T.works[cn]? = some w := by rw [hw, List.getD_eq_getElem?_getD, List.getElem?_eq_getElem hcl]; rfl
  have hww := Z15n hv ht (by rw [<- hTT]; exact hcl);rw [hwa] at hww;have hxb := hr.b;rw [<- hcn, hwa] at hxb;obtain ⟨WL, hWL⟩ : ∃ WL, WL = T.works.map Z14x := ⟨_, rfl⟩;have hWl : WL.length = T.works.length := by rw [hWL]; simp
  have hTk : TL[t]? = some (.agg [I T.ready, I T.due, .sl 3 WL]) := by rw [hT]; simp [htk, hWL, Z14z]
  have hWk : WL[cn]? = some (.agg [I w.b, I w.lo, I w.hi]) := by rw [hWL]; simp [hwk, Z14x]
  obtain ⟨ti, hti⟩ : ∃ y : Int, IsI y t := ⟨_, ⟨rfl⟩⟩;obtain ⟨ci, hci⟩ : ∃ y : Int, IsI y cn := ⟨_, ⟨rfl⟩⟩;have hbi : IsI w.b w.b.toNat := ⟨by omega⟩;have hPk : PL[k]? = some (I ti) := by rw [hP, hti.eq]; simp [hpk, Z15w]
  obtain ⟨e1, he1⟩ : ∃ e, e = (ck0 false s p k).tk.getD t 0 := ⟨_, rfl⟩;obtain ⟨e2, he2⟩ : ∃ e, e = (ck0 true s p k).tk.getD t 0 := ⟨_, rfl⟩;obtain ⟨f1, hf1⟩ : ∃ e, e = (ck0 false s p k).bn.getD w.b.toNat 0 := ⟨_, rfl⟩;obtain ⟨f2, hf2⟩ : ∃ e, e = (ck0 true s p k).bn.getD w.b.toNat 0 := ⟨_, rfl⟩;have hbB : w.b.toNat < s.benches.toNat := by omega
  have hBk : BL[w.b.toNat]? = some (.agg [I f1, I f2]) := by rw [hBL, Z15x hbB, hf1, hf2]
  have hEk : EL[t]? = some (.agg [I e1, I e2]) := by rw [hEL, Z15y ht, he1, he2]
  have hCk : CL[t]? = some (I ci) := by rw [hCL, Z158 ht, hci.eq, hcn]
  obtain ⟨-, -, m1, -, -⟩ := Z15s hv hp hpk hx false;obtain ⟨-, -, m2, -, -⟩ := Z15s hv hp hpk hx true;rw [hxb, <- he1, <- hf1] at m1;rw [hxb, <- he2, <- hf2] at m2;have m1 : x.bl = max e1 f1 := m1;have m2 : x.bh = max e2 f2 := m2;have n1 : x.el = x.bl + w.lo := by have := hr.en false; rw [<- hcn, hwa] at this; exact this
  have n2 : x.eh = x.bh + w.hi := by have := hr.en true; rw [<- hcn, hwa] at this; exact this
  have b1 := hr.b0 false;have b2 := hr.b0 true;simp only [pk] at b1 b2;have a1 : A.add x.bl w.lo = x.el := by rw [Z58 hA, n1]
  have a2 : A.add x.bh w.hi = x.eh := by rw [Z58 hA, n2]
  have hfa1 : A.fits .i64 (A.add x.bl w.lo) := Z14 hA a1 (by omega);have hfa2 : A.fits .i64 (A.add x.bh w.hi) := Z14 hA a2 (by omega);have i1 := Z1b hA hPl u2 hk;have g1 := Z18 hA u2 hPk;have i2 := Z1b hA hTl hti (by omega : t < N);have g2 := Z18 hA hti hTk;have i3 : A.inb ti n0 := Z4o hA hti (by omega);have g3 := Z18 hA hti hCk;have i4 := Z1b hA hWl hci hcl;have g4 := Z18 hA hci hWk;have g5 := Z18 hA hti hEk;have i6 : A.inb w.b nb := Z4o hA hbi (by omega);have g6 := Z18 hA hbi hBk;have hf := Zy hA u2 (by omega);have hfc := Zy hA hci (by
   have : cn <= p.length := by rw [hcn]; exact Nat.le_trans List.count_le_length (by simp; omega)
   omega)
  have hu2 := Zz hA u2;have hms : p.length - (k + 1) < p.length - k := by omega
  have hset1 : A.set CL (A.tn ti) (I (A.add ci 1)) = cntD s p (k + 1) := Z7n hA hti (by rw [hCL, Z16l hpk ht, Z58 hA, hci.eq, hcn]; rfl);have hset2 : A.set EL (A.tn ti) (.agg [I (A.add x.bl w.lo), I (A.add x.bh w.hi)]) = endD s p (k + 1) := Z7n hA hti (by rw [hEL, Z18l hv hp hpk hx, a1, a2]);have hset3 : A.set BL (A.tn w.b) (.agg [I (A.add x.bl w.lo), I (A.add x.bh w.hi)]) = benD s p (k + 1) := Z7n hA hbi (by rw [hBL, Z18k hv hp hpk hx, a1, a2, hxb]);have hnx : A.app HL [.agg [I ti, I ci, I w.b, I x.bl, I x.bh, I (A.add x.bl w.lo), I (A.add x.bh w.hi)]] = ((runS s (fun _ => 0) p).take (k + 1)).map Z14v := by
   rw [Z33 hA, u3, List.take_add_one, hx, a1, a2, hti.eq, hci.eq];simp only [Option.toList_some, List.map_append, List.map_cons, List.map_nil, Z14v, hr.t, hr.k, hxb, hcn]
  have hnl : (A.app HL [.agg [I ti, I ci, I w.b, I x.bl, I x.bh, I (A.add x.bl w.lo), I (A.add x.bh w.hi)]]).length = A.addN n 1 := by rw [Z33 hA, Z2e hA]; simp [u4]
  have hrm := Z27 hA (k := n) (b := 56) (by omega) (by decide);cbv;refine ⟨i1, ⟨_, g1, ?_⟩⟩;cbv;refine Z16 Z0 hA hS [0, 1, 2, 3, 4, 5, 6, 7, 8, 9, 10, 11, 12, 13] rfl rfl fun Dk1 hD1 => ?_;cbv;refine ⟨i2, ⟨_, g2, ?_⟩⟩;cbv;refine ⟨i3, ⟨_, g3, ?_⟩⟩;cbv;refine ⟨i4, ⟨_, g4, ?_⟩⟩;cbv;refine Z16 Z0 hA hS [0, 1, 2, 3, 4, 5, 6, 7, 8, 10, 9, 11] rfl rfl fun Dk2 hD2 => ?_;cbv;refine ⟨i3, ⟨_, g5, ?_⟩⟩;cbv;refine ⟨i6, ⟨_, g6, ?_⟩⟩;cbv;refine Zq hA hD2 [.agg [I e1, I e2], .agg [I f1, I f2]] [] [] rfl rfl rfl rfl rfl rfl rfl rfl rfl rfl rfl (by decide) trivial (Z19j e1 e2 f1 f2 x.bl x.bh m1 m2 _ ⟨by cbv, Zx Z0 hA hD2 ?_⟩);cbv;refine ⟨hfa1, hfa2, ?_⟩;refine Z16 Z0 hA hS [0, 1, 2, 3, 4, 5, 6, 7, 8, 9, 10, 11, 12, 13] rfl rfl fun Dk3 hD3 => ?_;cbv;refine ⟨i3, ⟨_, g3, ?_⟩⟩;cbv;refine ⟨Ze hA u4, Ze hA rfl, hrm, ⟨⟨_, g3, rfl⟩, trivial⟩, ?_⟩;refine ⟨i3, ⟨_, g3, ?_⟩⟩;cbv;refine ⟨hfc, i3, ⟨_, g3, ?_⟩⟩;cbv;refine Z16 Z0 hA hS [0, 1, 2, 3, 4, 5, 6, 7, 8, 9, 10] rfl rfl fun Dk4 hD4 => ?_;cbv;refine ⟨i3, ⟨_, g5, ?_⟩⟩;cbv;refine ⟨i6, ⟨_, g6, ?_⟩⟩;cbv;refine ⟨hf, ?_⟩;refine Z8 (A.add i 1, k + 1, A.app HL [.agg [I ti, I ci, I w.b, I x.bl, I x.bh, I (A.add x.bl w.lo), I (A.add x.bh w.hi)]], A.addN n 1, A.set BL (A.tn w.b) (.agg [I (A.add x.bl w.lo), I (A.add x.bh w.hi)]), A.set CL (A.tn ti) (I (A.add ci 1)), A.set EL (A.tn ti) (.agg [I (A.add x.bl w.lo), I (A.add x.bh w.hi)])) [0, 1, 2, 3, 9] ⟨hk, hu2, hnx, hnl, hset3, hset1, hset2⟩ hms ?_;exact ⟨by decide, Z9, ⟨rfl, rfl, rfl, rfl, rfl, trivial⟩, ⟨rfl, rfl, rfl, rfl, rfl, rfl, rfl, trivial⟩, rfl, rfl⟩
 ·have hk : k = p.length := by have := Z21 hA hPl u2 c; omega
  have hHL : HL = (runS s (fun _ => 0) p).map Z14v := by rw [u3, hk, List.take_of_length_le (by rw [Z16a]; exact Nat.le_refl _)]
  cbv;refine Z7 ?_;cbv;refine Z1w [4] ?_;cbv;exact ⟨by cases HL <;> exact u4.symm, Z2 [] (by decide) Z9 (H' := []) (d' := .sl 7 HL) trivial rfl (Z1 (hq HL hHL))⟩
end Go.Proofs.YtegjabljeepbdaaGreatDoor.Bn

namespace Go.Proofs.YtegjabljeepbdaaGreatDoor.Bn
open Go Go.Abs Go.Proofs
def Z15b (s : Sh) : List Nat -> List Int -> Int × List Nat
 | p, [] => (0, p)
 | p, x :: r => if ¬ (0 <= x /\ x <= (s.tasks.length : Int) - 1) then (3, p) else if (s.tasks.getD x.toNat default).works.length < p.count x.toNat + 1 then (6, p) else Z15b s (p ++ [x.toNat]) r
def chkP (s : Sh) (pl : List Int) : Int := if (Z15b s [] pl).1 ≠ 0 then (Z15b s [] pl).1 else if (Z15b s [] pl).2.length < Z1cw s.tasks then 7 else 0
def Z175 (s : Sh) (pl : List Int) : Int := if Za5 s ≠ 0 then Za5 s else chkP s pl
structure ScOk (s : Sh) (pl : List Int) (p : List Nat) (k : Nat) : Prop where
 tk : pl.take k = p.map (fun i : Nat => (i : Int))
 len : p.length = k
 le : PlanLe s p
 sc : Z15b s [] pl = Z15b s p (pl.drop k)
theorem Z180 (s : Sh) (pl : List Int) : ScOk s pl [] 0 := ⟨rfl, rfl, ⟨fun i h => by simp at h, fun i _ => by simp⟩, rfl⟩
theorem Z181 {s : Sh} {pl : List Int} {p : List Nat} {k : Nat} (h : ScOk s pl p k) {x : Int} (hx : pl[k]? = some x) (hc : ¬ (0 <= x /\ x <= (s.tasks.length : Int) - 1)) : chkP s pl = 3 := by
 have hd : pl.drop k = x :: pl.drop (k + 1) := by
  obtain ⟨h1, h2⟩ := List.getElem?_eq_some_iff.1 hx;rw [<- h2]; exact List.drop_eq_getElem_cons h1
 have : (Z15b s [] pl) = (3, p) := by rw [h.sc, hd, Z15b, if_pos hc]
 rw [chkP, this]; rfl
theorem Z182 {s : Sh} {pl : List Int} {p : List Nat} {k : Nat} (h : ScOk s pl p k) {x : Int} (hx : pl[k]? = some x) (hc : 0 <= x /\ x <= (s.tasks.length : Int) - 1) (hn : (s.tasks.getD x.toNat default).works.length < p.count x.toNat + 1) : chkP s pl = 6 := by
 have hd : pl.drop k = x :: pl.drop (k + 1) := by
  obtain ⟨h1, h2⟩ := List.getElem?_eq_some_iff.1 hx;rw [<- h2]; exact List.drop_eq_getElem_cons h1
 have : (Z15b s [] pl) = (6, p) := by rw [h.sc, hd, Z15b, if_neg (fun h => h hc), if_pos hn]
 rw [chkP, this]; rfl
theorem Z183 {s : Sh} {pl : List Int} {p : List Nat} {k : Nat} (h : ScOk s pl p k) {x : Int} (hx : pl[k]? = some x) (hc : 0 <= x /\ x <= (s.tasks.length : Int) - 1) (hn : ¬ (s.tasks.getD x.toNat default).works.length < p.count x.toNat + 1) : ScOk s pl (p ++ [x.toNat]) (k + 1) := by
 have hd : pl.drop k = x :: pl.drop (k + 1) := by
  obtain ⟨h1, h2⟩ := List.getElem?_eq_some_iff.1 hx;rw [<- h2]; exact List.drop_eq_getElem_cons h1
 refine ⟨?_, by simp [h.len], ⟨fun i hi => ?_, fun i hi => ?_⟩, by rw [h.sc, hd, Z15b, if_neg (fun h => h hc), if_neg hn]⟩
 ·rw [List.take_add_one, hx, h.tk]; simp; omega
 ·rcases List.mem_append.1 hi with hi | hi
  ·exact h.le.lt i hi
  ·simp at hi; omega
 ·rw [List.count_append];have := h.le.cnt i hi
  by_cases e : i = x.toNat
  ·rw [e] at this ⊢; rw [List.count_singleton_self]; omega
  ·rw [List.count_singleton, if_neg (by simpa using fun h => e h.symm)]; omega
theorem Z184 (l : List Nat) : (l.map fun _ => 0).sum = 0 := by
 induction l with
 | nil => rfl
 | cons x l ih => rw [List.map_cons, List.sum_cons, ih]
theorem Z18o (l : List Nat) (f g : Nat -> Nat) : (l.map fun i => f i + g i).sum = (l.map f).sum + (l.map g).sum := by
 induction l with
 | nil => rfl
 | cons x l ih => simp only [List.map_cons, List.sum_cons]; rw [ih]; omega
theorem Z17b (x : Nat) : ∀ (l : List Nat), l.Nodup -> (l.map fun i => if x = i then 1 else 0).sum = if x ∈ l then 1 else 0
 | [], _ => by simp
 | y :: l, hl => by
  obtain ⟨h1, h2⟩ := List.nodup_cons.1 hl;rw [List.map_cons, List.sum_cons, Z17b x l h2]
  by_cases e : x = y
  ·subst e; rw [if_pos rfl, if_neg h1, if_pos List.mem_cons_self]
  ·rw [if_neg e]
   by_cases h : x ∈ l
   ·rw [if_pos h, if_pos (List.mem_cons_of_mem _ h)]
   ·rw [if_neg h, if_neg (fun h' => (List.mem_cons.1 h').elim e h)]
theorem Z165 (N : Nat) : ∀ (p : List Nat), (∀ i ∈ p, i < N) -> ((List.range N).map fun i => p.count i).sum = p.length
 | [], _ => by simp only [List.count_nil, List.length_nil]; exact Z184 _
 | x :: p, h => by
  have ih := Z165 N p (fun i hi => h i (List.mem_cons_of_mem _ hi));have hx := h x List.mem_cons_self;have e : (fun i => (x :: p).count i) = fun i => p.count i + if x = i then 1 else 0 := by
   funext i
   rw [List.count_cons]
   by_cases e : x = i
   ·subst e; simp
   ·rw [if_neg e, if_neg (by simpa using e)]
  rw [e, Z18o, ih, Z17b x _ List.nodup_range, if_pos (List.mem_range.2 hx)]; rfl
theorem Z15z (s : Sh) : Z1cw s.tasks = ((List.range s.tasks.length).map fun i => (s.tasks.getD i default).works.length).sum := by
 rw [Z1cw]
 congr 1
 refine List.ext_getElem? fun j => ?_
 by_cases hj : j < s.tasks.length
 ·simp [hj]
 ·rw [List.getElem?_eq_none (by simp; omega), List.getElem?_eq_none (by simp; omega)]
theorem Z176 (l : List Nat) (f g : Nat -> Nat) (h : ∀ i ∈ l, f i <= g i) : (l.map f).sum <= (l.map g).sum /\ ((l.map f).sum = (l.map g).sum -> ∀ i ∈ l, f i = g i) := by
 induction l with
 | nil => simp
 | cons x l ih =>
  obtain ⟨h1, h2⟩ := ih (fun i hi => h i (List.mem_cons_of_mem _ hi));have hx := h x List.mem_cons_self;simp only [List.map_cons, List.sum_cons];refine ⟨by omega, fun e i hi => ?_⟩;rcases List.mem_cons.1 hi with rfl | hi
  ·omega
  ·exact h2 (by omega) i hi
theorem Z16b : ∀ {l : List Nat} {x : Nat}, x ∈ l -> x <= l.sum
 | y :: l, x, h => by
  rw [List.sum_cons];rcases List.mem_cons.1 h with rfl | h
  ·omega
  ·have := Z16b h; omega
theorem Z1d6 {s : Sh} {t : Tk} (hv : Val s) (ht : t ∈ s.tasks) : t.works.length <= 8 := by
 have hs := hv.sum;have : t.works.length <= Z1cw s.tasks := by
  rw [Z1cw];exact Z16b (List.mem_map_of_mem ht)
 omega
theorem Z18p {s : Sh} {p : List Nat} (h : PlanLe s p) : p.length <= Z1cw s.tasks /\ (Z1cw s.tasks <= p.length -> PlanOk s p) := by
 have h1 := Z165 s.tasks.length p h.lt;have h2 := Z15z s;obtain ⟨h3, h4⟩ := Z176 (List.range s.tasks.length) (fun i => p.count i) (fun i => (s.tasks.getD i default).works.length) (fun i hi => h.cnt i (List.mem_range.1 hi));refine ⟨by omega, fun hle => ⟨h.lt, fun i hi => h4 (by omega) i (List.mem_range.2 hi), by omega⟩⟩
theorem Z18q {s : Sh} {pl : List Int} {p : List Nat} (h : ScOk s pl p pl.length) : chkP s pl = (if p.length < Z1cw s.tasks then 7 else 0) /\ pl = p.map (fun i : Nat => (i : Int)) := by
 have h1 : Z15b s [] pl = (0, p) := by rw [h.sc, List.drop_length]; rfl
 exact ⟨by rw [chkP, h1]; rfl, by rw [<- h.tk, List.take_length]⟩
end Go.Proofs.YtegjabljeepbdaaGreatDoor.Bn

namespace Go.Proofs.YtegjabljeepbdaaGreatDoor.Bn
open Go Go.Abs Go.Proofs
theorem Z18r (s : Sh) (p : List Nat) (x : Nat) (hx : x < s.tasks.length) : cntD s (p ++ [x]) (p ++ [x]).length = (cntD s p p.length).set x (I ((p.count x + 1 : Nat) : Int)) := by
 have hk2 : (p ++ [x])[p.length]? = some x := by simp
 have := Z16l (s := s) hk2 hx;have e1 : (p ++ [x]).take p.length = p := by simp
 have e2 : cntD s (p ++ [x]) p.length = cntD s p p.length := by simp only [cntD, e1, List.take_length]
 rw [List.length_append, List.length_singleton, this, e1, e2]
theorem Z17c {s : Sh} {p : List Nat} {i : Nat} (h : i < s.tasks.length) : (cntD s p p.length)[i]? = some (I (p.count i : Nat)) := by
 have := Z158 (p := p) (k := p.length) h
 rwa [List.take_length] at this
set_option maxRecDepth 20000 in
set_option maxHeartbeats 8000000 in
theorem rCheckPlanAny (s : Sh) (hs : Fin s) (pl : List Int) (hpl : pl.length <= 1000000) (TL PL : List D) (hT : TL = s.tasks.map Z14z) (hP : PL = pl.map I) (n : Int) (hn : n = Z175 s pl) (Q) (hq : Q (RA.ret (I n)) []) :
  CallA Tryz.prog 112 [.agg [I s.benches, .sl 3 TL], .sl 1 PL] [] Q := by
 obtain ⟨A, hA⟩ : ∃ A, A = ar := ⟨_, rfl⟩;obtain ⟨z, hz⟩ : ∃ z, z = Za5 s := ⟨_, rfl⟩;refine Z5 Z0 hA Tryz.func112 rfl rfl rfl rfl rfl fun S hS => ?_;cbv;refine Z4 hS [.agg [I s.benches, .sl 3 TL]] [] [] rfl rfl rfl rfl rfl rfl rfl rfl (by decide) trivial (rCheck s hs TL hT z hz _ ?_);refine Z3 Z0 hA hS ?_;cbv;refine bm (fun c => ?_) (fun c => ?_)
 ·have hz0 : z ≠ 0 := xne hA c;have e : n = z := by rw [hn, Z175, if_pos (by rw [<- hz]; exact hz0), hz]
  rw [e] at hq;cbv;exact Z2 [] (by decide) Z9 (H' := []) (d' := I z) trivial rfl (Z1 hq)
 have hz0 : Za5 s = 0 := by rw [<- hz]; exact Z4t hA c
 have hv := chkS_val hz0;have hnP : n = chkP s pl := by rw [hn, Z175, if_neg (fun h => h hz0)]
 obtain ⟨N, hN⟩ : ∃ N, N = s.tasks.length := ⟨_, rfl⟩;have hTl : TL.length = N := by rw [hT, hN]; simp
 have hPl : PL.length = pl.length := by rw [hP]; simp
 have hlen := hv.len;obtain ⟨n0, hn0⟩ : ∃ n0, n0 = A.tn (A.oi (A.len TL)) := ⟨_, rfl⟩;have hn0N : n0 = N := by rw [hn0, yoiL hA hTl]; subst hA; rfl
 have hrb : A.rep n0 (I 0) = cntD s [] 0 := by
  rw [hn0N, hN]; subst hA;refine List.ext_getElem? fun j => ?_
  by_cases hj : j < s.tasks.length
  ·rw [Z158 hj]; simp [ar, hj]
  ·rw [List.getElem?_eq_none (by simp [ar]; omega), List.getElem?_eq_none (by simp [cntD]; omega)]
 have hr1 : A.room (A.tn (A.oi (A.len TL))) 8 := by rw [<- hn0, hn0N]; exact Zj1 hA (by omega) (by decide)
 have hnn : A.nneg (A.oi (A.len TL)) := by subst hA; exact Int.natCast_nonneg _
 cbv;refine ⟨hnn, hr1, ?_⟩;obtain ⟨CL, hCL⟩ : ∃ CL, CL = A.rep n0 (I 0) := ⟨_, rfl⟩;refine Zb hS ?_;refine Za (α := Int × Nat × List D × List Nat) (fun q => { env := [(1, .sl 1 PL), (2, .b 0 0), (6, .o 1 1 n0), (7, I q.1)], H := [.box (.agg [I s.benches, .sl 3 TL]), .els 1 q.2.2.1], nt := 79, dfs := [] })
  (fun q => pl.length - q.2.1) (fun q => q.2.1 <= pl.length /\ IsI q.1 q.2.1 /\ q.2.2.1 = cntD s q.2.2.2 q.2.2.2.length /\ ScOk s pl q.2.2.2 q.2.1) (0, 0, CL, []) ⟨Nat.zero_le _, ⟨rfl⟩, hCL.trans hrb, Z180 s pl⟩ ?_ ?_
 ·rw [hCL];exact Zf [0, 1] ⟨by decide, Z9, ⟨rfl, by rw [hn0]; rfl, trivial⟩, ⟨rfl, rfl, by rw [hn0]; rfl, rfl, trivial⟩, rfl, rfl⟩
 rintro ⟨i, k, L, p⟩ ⟨u1, u2, u3, u4⟩;dsimp only at u1 u2 u3 u4;have hpk := u4.len;have hLl : L.length = N := by rw [u3, hN]; simp [cntD]
 refine Z2w Z0 hA hS [] ?_;cbv;refine bm (fun c => ?_) (fun c => ?_)
 ·have hk : k < pl.length := Z31 hA hPl u2 c;obtain ⟨x, hx⟩ : ∃ x, x = pl[k] := ⟨_, rfl⟩;have hxk : pl[k]? = some x := by rw [hx]; exact List.getElem?_eq_getElem hk
  have hPk : PL[k]? = some (I x) := by rw [hP]; simp [hxk]
  obtain ⟨b, hb⟩ : ∃ b, b = decide (0 <= x /\ x <= A.sub (A.oi (A.len TL)) 1) := ⟨_, rfl⟩;have hbe : A.sub (A.oi (A.len TL)) 1 = (s.tasks.length : Int) - 1 := by rw [Z24 hA, yoiL hA hTl, hN]
  have hf : A.fits .i64 (A.sub (A.oi (A.len TL)) 1) := Z14 hA hbe (by omega);have hin := Z1b hA hPl u2 hk;have hg := Z18 hA u2 hPk;have hfi := Zy hA u2 (by omega);have hu2 := Zz hA u2;have hms : pl.length - (k + 1) < pl.length - k := by omega
  cbv;refine Z16 Z0 hA hS [0, 1, 2, 3, 4, 5, 6, 7, 8, 9] rfl rfl fun Dk hD => ?_;cbv;refine ⟨hin, ⟨_, hg, ?_⟩⟩;cbv;refine ⟨hf, ?_⟩;refine Zq hA hD [I x, I 0, I (A.sub (A.oi (A.len TL)) 1)] [] [] rfl rfl rfl rfl rfl rfl rfl rfl rfl rfl rfl (by decide) trivial (rAm _ _ _ b hb _ ⟨by cbv; repeat' (first | exact trivial | exact Need.mk ⟨_, hg, rfl⟩ | refine ⟨?_, ?_⟩), Zx Z0 hA hD ?_⟩);cbv;refine bm (fun c2 => ?_) (fun c2 => ?_)
  ·have hbf : b = false := xnot hA c2;have he := Z181 u4 hxk (by rw [hb, hbe] at hbf; exact of_decide_eq_false hbf);rw [hnP, he] at hq;cbv;refine Z7 ?_;cbv;exact Z2 [] (by decide) Z9 (H' := []) (d' := I 3) trivial rfl (Z1 hq)
  have hbt : b = true := xnnot hA c2;have hxb : 0 <= x /\ x <= (s.tasks.length : Int) - 1 := by rw [hb, hbe] at hbt; exact of_decide_eq_true hbt
  obtain ⟨y, hy⟩ : ∃ y, y = x.toNat := ⟨_, rfl⟩;have hxI : IsI x y := ⟨by omega⟩;have hyl : y < s.tasks.length := by omega
  obtain ⟨t, ht⟩ : ∃ t, t = s.tasks[y] := ⟨_, rfl⟩;have htx : s.tasks[y]? = some t := by rw [ht]; exact List.getElem?_eq_getElem hyl
  have htd : s.tasks.getD x.toNat default = t := by rw [<- hy, List.getD_eq_getElem?_getD, htx]; rfl
  have hwl8 : t.works.length <= 8 := Z1d6 hv (List.mem_of_getElem? htx);obtain ⟨WL, hWL⟩ : ∃ WL, WL = t.works.map Z14x := ⟨_, rfl⟩;have hWl : WL.length = t.works.length := by rw [hWL]; simp
  have hTk : TL[y]? = some (.agg [I t.ready, I t.due, .sl 3 WL]) := by rw [hT]; simp [htx, hWL, Z14z]
  obtain ⟨cI, hcI⟩ : ∃ z, IsI z (p.count y) := ⟨_, ⟨rfl⟩⟩;have hcl : p.count y <= 1000000 := Nat.le_trans List.count_le_length (by omega);have hLx : L[y]? = some (I cI) := by rw [u3, hcI.eq]; exact Z17c hyl
  have i1 : A.inb x n0 := Z4o hA hxI (by omega);have g1 := Z18 hA hxI hLx;have g2 := Z15m hA hxI hLl (x := I (A.add cI 1)) (by omega);have i3 := Z1b hA hTl hxI (by omega);have g3 := Z18 hA hxI hTk;have hfc := Zy hA hcI (by omega);have hset : A.set L (A.tn x) (I (A.add cI 1)) = cntD s (p ++ [x.toNat]) (p ++ [x.toNat]).length := Z7n hA hxI (by
   rw [<- hy, Z18r s p y hyl, u3, (Zz hA hcI).eq])
  cbv;refine ⟨hin, ⟨_, hg, ?_⟩⟩;cbv;refine ⟨i1, ⟨_, g1, ?_⟩⟩;cbv;refine ⟨hfc, i1, ⟨_, g1, ?_⟩⟩;cbv;refine Z16 Z0 hA hS [0, 1, 2, 3, 4, 5, 6, 7, 8, 9, 10, 11, 12, 13, 14, 15, 16, 17] rfl rfl fun Dk hD => ?_;cbv;refine ⟨hin, ⟨_, hg, ?_⟩⟩;cbv;refine ⟨i1, ⟨_, g2, ?_⟩⟩;cbv;refine ⟨hin, ⟨_, hg, ?_⟩⟩;cbv;refine ⟨i3, ⟨_, g3, ?_⟩⟩;cbv;refine bm (fun c3 => ?_) (fun c3 => ?_)
  ·have hgt : t.works.length < p.count y + 1 := by
    have h : A.oi (A.len WL) < A.add cI 1 := xgt hA c3;rw [yoiL hA hWl, (Zz hA hcI).eq] at h; omega
   have he := Z182 u4 hxk hxb (by rw [htd, <- hy]; exact hgt);rw [hnP, he] at hq;cbv;refine Z7 ?_;cbv;exact Z2 [] (by decide) Z9 (H' := []) (d' := I 6) trivial rfl (Z1 hq)
  ·have hle : ¬ t.works.length < p.count y + 1 := by
    have h : A.add cI 1 <= A.oi (A.len WL) := Zax hA c3;rw [yoiL hA hWl, (Zz hA hcI).eq] at h; omega
   have hnx := Z183 u4 hxk hxb (by rw [htd, <- hy]; exact hle);cbv;refine ⟨hfi, ?_⟩;refine Z8 (A.add i 1, k + 1, A.set L (A.tn x) (I (A.add cI 1)), p ++ [x.toNat]) [0, 1] ⟨hk, hu2, hset, hnx⟩ hms ?_;exact ⟨by decide, Z9, ⟨rfl, rfl, trivial⟩, ⟨rfl, rfl, rfl, rfl, trivial⟩, rfl, rfl⟩
 have hk : k = pl.length := by have := Z21 hA hPl u2 c; omega
 rw [hk] at u4;obtain ⟨he, hep⟩ := Z18q u4;obtain ⟨hw1, hw2⟩ := Z18p u4.le;cbv;refine Z7 ?_;cbv;refine Zb hS ?_;refine Za (α := Int × Nat) (fun q => { env := [(2, .b 0 0), (6, .o 1 1 n0), (8, I q.1)], H := [.box (.agg [I s.benches, .sl 3 TL]), .els 1 L], nt := 79, dfs := [] })
  (fun q => N - q.2) (fun q => q.2 <= N /\ IsI q.1 q.2 /\ ∀ j, j < q.2 -> (s.tasks.getD j default).works.length <= p.count j) (0, 0) ⟨Nat.zero_le _, ⟨rfl⟩, fun j h => by dsimp only at h; omega⟩ ?_ ?_
 ·exact Zf [0, 1] ⟨by decide, Z9, ⟨rfl, rfl, trivial⟩, ⟨rfl, rfl, rfl, trivial⟩, rfl, rfl⟩
 rintro ⟨i, k⟩ ⟨v1, v2, v3⟩;dsimp only at v1 v2 v3;have hlt1 : A.cmp .lss i (A.oi n0) = true -> k < N := fun h => by
  have := xlt hA h; rw [hn0N, v2.eq] at this; subst hA; simp [ar] at this; omega
 have hlt2 : A.cmp .lss i (A.oi n0) = false -> k = N := fun h => by
  have := Z7x hA h; rw [hn0N, v2.eq] at this; subst hA; simp [ar] at this; omega
 refine Z2w Z0 hA hS [] ?_;cbv;refine bm (fun c4 => ?_) (fun c4 => ?_)
 ·have hk4 : k < N := hlt1 c4;have hkl : k < s.tasks.length := by omega
  obtain ⟨t, ht⟩ : ∃ t, t = s.tasks[k] := ⟨_, rfl⟩;have htx : s.tasks[k]? = some t := by rw [ht]; exact List.getElem?_eq_getElem hkl
  have htd : s.tasks.getD k default = t := by rw [List.getD_eq_getElem?_getD, htx]; rfl
  obtain ⟨WL, hWL⟩ : ∃ WL, WL = t.works.map Z14x := ⟨_, rfl⟩;have hWl : WL.length = t.works.length := by rw [hWL]; simp
  have hTk : TL[k]? = some (.agg [I t.ready, I t.due, .sl 3 WL]) := by rw [hT]; simp [htx, hWL, Z14z]
  obtain ⟨cI, hcI⟩ : ∃ z, IsI z (p.count k) := ⟨_, ⟨rfl⟩⟩;have hLx : L[k]? = some (I cI) := by rw [u3, hcI.eq]; exact Z17c hkl
  have i1 : A.inb i n0 := Z4o hA v2 (by omega);have g1 := Z18 hA v2 hLx;have i3 := Z1b hA hTl v2 (by omega);have g3 := Z18 hA v2 hTk;have hfk := Zy hA v2 (by omega);have hv2 := Zz hA v2;have hms : N - (k + 1) < N - k := by omega
  cbv;refine Z16 Z0 hA hS [0, 1, 2, 3, 4, 5, 6, 7, 8, 9, 10, 11] rfl rfl fun Dk hD => ?_;cbv;refine ⟨i1, ⟨_, g1, ?_⟩⟩;cbv;refine ⟨i3, ⟨_, g3, ?_⟩⟩;cbv;refine bm (fun c5 => ?_) (fun c5 => ?_)
  ·have hlt : p.count k < t.works.length := by
    have h : cI < A.oi (A.len WL) := xlt hA c5;rw [yoiL hA hWl, hcI.eq] at h; omega
   have hnw : p.length < Z1cw s.tasks := by
    rcases Nat.lt_or_ge p.length (Z1cw s.tasks) with h | h
    ·exact h
    ·have := (hw2 h).cnt k hkl;rw [htd] at this; omega
   rw [if_pos hnw] at he;rw [hnP, he] at hq;cbv;refine Z7 ?_;cbv;exact Z2 [] (by decide) Z9 (H' := []) (d' := I 7) trivial rfl (Z1 hq)
  ·have hge : t.works.length <= p.count k := by
    have h : A.oi (A.len WL) <= cI := Z7x hA c5;rw [yoiL hA hWl, hcI.eq] at h; omega
   have hnx : ∀ j, j < k + 1 -> (s.tasks.getD j default).works.length <= p.count j := fun j hj => by
    by_cases e : j = k
    ·rw [e, htd]; exact hge
    ·exact v3 j (by omega)
   cbv;refine ⟨hfk, ?_⟩;refine Z8 (A.add i 1, k + 1) [0, 1] ⟨hk4, hv2, hnx⟩ hms ?_;exact ⟨by decide, Z9, ⟨rfl, rfl, trivial⟩, ⟨rfl, rfl, rfl, trivial⟩, rfl, rfl⟩
 ·have hk4 : k = N := hlt2 c4;have hnw : ¬ p.length < Z1cw s.tasks := by
   have h1 := Z165 s.tasks.length p u4.le.lt;have h2 := Z15z s;have h3 := (Z176 (List.range s.tasks.length) (fun i => (s.tasks.getD i default).works.length) (fun i => p.count i) (fun i hi => v3 i (by have := List.mem_range.1 hi; omega))).1;omega
  rw [if_neg hnw] at he;rw [hnP, he] at hq;cbv;refine Z7 ?_;cbv;exact Z2 [] (by decide) Z9 (H' := []) (d' := I 0) trivial rfl (Z1 hq)
end Go.Proofs.YtegjabljeepbdaaGreatDoor.Bn

namespace Go.Proofs.YtegjabljeepbdaaGreatDoor.Bn
open Go Go.Abs Go.Proofs
set_option maxRecDepth 20000 in
set_option maxHeartbeats 2000000 in
theorem rRunPlan (s : Sh) (hs : ShopOk s) (p : List Nat) (hp : PlanOk s p) (pl : List Int) (hpe : pl = p.map (fun i : Nat => (i : Int))) (h0 : Z175 s pl = 0) (TL PL : List D) (hT : TL = s.tasks.map Z14z) (hP : PL = Z15w p) (Q) (hq : ∀ L, L = (runS s (fun _ => 0) p).map Z14v -> Q (RA.ret (.tup [.sl 7 L, I 0])) []) :
  CallA Tryz.prog 75 [.agg [I s.benches, .sl 3 TL], .sl 1 PL] [] Q := by
 obtain ⟨A, hA⟩ : ∃ A, A = ar := ⟨_, rfl⟩;have hv := chkS_val hs.chk;have hp8 : p.length <= 8 := by rw [hp.len]; exact hv.sum
 have hpl : pl.length <= 1000000 := by rw [hpe, List.length_map]; omega
 have hP2 : PL = pl.map I := by rw [hP, hpe, List.map_map]; rfl
 refine Z5 Z0 hA Tryz.func75 rfl rfl rfl rfl rfl fun S hS => ?_;cbv;refine Z4 hS [.agg [I s.benches, .sl 3 TL], .sl 1 PL] [] [] rfl rfl rfl rfl rfl rfl rfl rfl (by decide) trivial (rCheckPlanAny s hs.fin pl hpl TL PL hT hP2 0 h0.symm _ ?_);refine Z3 Z0 hA hS ?_;cbv;refine bm (fun c => absurd rfl (xne hA c)) (fun c => ?_);cbv;refine Z4 hS [.agg [I s.benches, .sl 3 TL], .sl 1 PL] [] [] rfl rfl rfl rfl rfl rfl rfl rfl (by decide) trivial (rRun s hv p hp.le (by omega) TL PL hT hP _ fun RL hRL => ?_);refine Z3 Z0 hA hS ?_;cbv;exact Z2 [] (by decide) Z9 (H' := []) (d' := .tup [.sl 7 RL, I 0]) trivial rfl (Z1 (hq RL hRL))
end Go.Proofs.YtegjabljeepbdaaGreatDoor.Bn
