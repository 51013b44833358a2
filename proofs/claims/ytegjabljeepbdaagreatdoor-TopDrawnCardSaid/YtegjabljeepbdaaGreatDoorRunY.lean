/- Part RunY of the proofs about the benches of the accordion maker: see the last text of the claim for what is proved. -/
import Derived.Test.YtegjabljeepbdaaGreatDoorRunH
import Derived.Test.YtegjabljeepbdaaGreatDoorRunO
import Derived.Test.YtegjabljeepbdaaGreatDoorRunV
set_option linter.unusedVariables false
set_option linter.unusedSimpArgs false
set_option linter.unnecessarySimpa false
set_option linter.constructorNameAsVariable false

namespace Go.Abs
open Go
section
variable {m : Nat} {K : St -> Prop} {E : List (Nat × D)} {b0 : Blk} {nt : Nat}
theorem Z11r {xs : List Value} {rows rows' : List (List D)} {t n0 sl : Nat} (hx : GridOk xs rows) (ht : t < xs.length) {r : List D} (hE : Z1c E sl = some (.o 1 1 n0)) (hr0 : 0 < r.length) (hfr : FrL r) (hr : ∀ j, rows'.getD j [] = if j = t then r else rows.getD j [])
  {es : List D} (hes : es = (Z3f xs rows 0).set t (.o 3 1 r.length)) {gn : List Ent} (hgn : gn = (Z3t xs rows 0).set t (xs.getD t Z5t, none))
  (h : ∀ xs' : List Value, GridOk xs' rows' -> xs'.length = xs.length -> GS m K { env := E, H := [b0, .els 1 (Z3f xs' rows' 0), .ob (.gr 1 (Z3t xs' rows' 0)), .dead], nt := nt, dfs := [] }) :
  GS m K { env := E, H := [b0, .elo 1 es, .ob (.gr 1 gn), .els 1 r], nt := nt, dfs := [] } := by
 subst hgn;have hg : es[t]? = some (.o 3 1 r.length) := by rw [hes, List.getElem?_set_self (by rw [Z4p]; exact ht)]
 refine Zsa 2 1 3 t t 0 (fun x => .v x) rfl rfl rfl (.inl ⟨sl, 1, n0, hE⟩) (by rw [List.length_set, Z3m]; omega) (fun e row' he => ?_) hr0 hg rfl (fun _ => rfl) fun x hx1 => ?_
 ·rw [List.getElem?_set_self (by rw [Z3m]; exact ht)] at he; cases he
 ·have hgd : ∀ j, (xs.set t x).getD j Z5t = if j = t then x else xs.getD j Z5t := fun j => by
   rw [List.getD_eq_getElem?_getD, List.getElem?_set]
   by_cases e : t = j
   ·subst e; rw [if_pos rfl, if_pos ht, if_pos rfl]; rfl
   ·rw [if_neg e, if_neg (fun h => e h.symm), List.getD_eq_getElem?_getD]
  have e1 : es.set t (.v x) = Z3f (xs.set t x) rows' 0 := by
   refine List.ext_getElem? fun j => ?_
   by_cases hj : j < xs.length
   ·rw [Z5u (by simpa using hj), if_neg (by omega), List.getElem?_set, hgd]
    by_cases e : t = j
    ·subst e; rw [if_pos rfl, if_pos rfl, if_pos (by rw [hes]; simpa [Z4p] using ht)]
    ·rw [if_neg e, hes, List.getElem?_set, if_neg e, Z5u hj, if_neg (by omega), if_neg (fun h => e h.symm)]
   ·rw [List.getElem?_eq_none (by rw [List.length_set, hes, List.length_set, Z4p]; omega), List.getElem?_eq_none (by rw [Z4p, List.length_set]; omega)]
  have e2 : Zfl ((Z3t xs rows 0).set t (xs.getD t Z5t, none)) t (x, some r) = Z3t (xs.set t x) rows' 0 := by
   rw [Zpt _ (by rw [List.length_set, Z3m]; exact ht), List.set_set];refine List.ext_getElem? fun j => ?_
   by_cases hj : j < xs.length
   ·rw [Z5v (by simpa using hj), List.getElem?_set, hgd, hr]
    by_cases e : t = j
    ·subst e;rw [if_pos rfl, if_pos rfl, if_pos rfl, if_pos (by rw [Z3m]; exact ht), if_neg];rintro (h1 | h1)
     ·omega
     ·rw [Ze1 h1] at hr0; simp at hr0
    ·have e' : ¬ j = t := fun h => e h.symm;rw [if_neg e, Z5v hj];simp only [if_neg e']
   ·rw [List.getElem?_eq_none (by rw [List.length_set, Z3m]; omega), List.getElem?_eq_none (by rw [Z3m, List.length_set]; omega)]
  have hok : GridOk (xs.set t x) rows' := by
   refine ⟨fun j hj h0 => ?_, fun j => ?_⟩
   ·rw [hr] at h0;rw [hgd]
    by_cases e : j = t
    ·rw [if_pos e] at h0; rw [h0] at hr0; simp at hr0
    ·rw [if_neg e] at h0; rw [if_neg e];exact hx.nil j (by simpa using hj) h0
   ·rw [hr]
    split
    ·exact hfr
    ·exact hx.fr j
  have h2 := h (xs.set t x) hok (by simp);rw [<- e1, <- e2] at h2;refine Zmp 1 rfl ?_ h2;rw [e1]; exact Zkg
end
end Go.Abs

namespace Go.Proofs.YtegjabljeepbdaaGreatDoor
open Go Go.Abs Go.Proofs Go.Batch
set_option maxRecDepth 20000 in
set_option maxHeartbeats 4000000 in
def rowF (hs : Nat -> Nat -> Int) (NB n : Nat) : List D := (List.range NB).map fun b => I (hs n b)
def Z10m (hs : Nat -> Nat -> Int) (NB k : Nat) : List (List D) := (List.range k).map (rowF hs NB)
theorem Z10o (hs : Nat -> Nat -> Int) (NB n : Nat) : (rowF hs NB n).length = NB := by simp [rowF]
theorem Z10u {hs : Nat -> Nat -> Int} {NB n b : Nat} (h : b < NB) : (rowF hs NB n)[b]? = some (I (hs n b)) := by simp [rowF, h]
theorem Z11m (hs : Nat -> Nat -> Int) (NB n : Nat) : FrL (rowF hs NB n) := ⟨fun d hd => by obtain ⟨x, -, rfl⟩ := List.mem_map.1 hd; rfl⟩
theorem Z11a {hs : Nat -> Nat -> Int} {NB n b : Nat} (hb : b < NB) (v : Int) : (rowF hs NB n).set b (I v) = rowF (fun n' b' => if n' = n /\ b' = b then v else hs n' b') NB n := by
 refine List.ext_getElem? fun i => ?_;rw [List.getElem?_set, Z10o]
 by_cases hi : i < NB
 ·rw [Z10u hi, Z10u hi]
  by_cases e : b = i
  ·subst e; rw [if_pos rfl, if_pos hb, if_pos ⟨rfl, rfl⟩]
  ·rw [if_neg e, if_neg (fun h => e h.2.symm)]
 ·rw [if_neg (by omega), List.getElem?_eq_none (by rw [Z10o]; omega), List.getElem?_eq_none (by rw [Z10o]; omega)]
theorem Z11n {hs hs' : Nat -> Nat -> Int} {NB n : Nat} (h : ∀ b, b < NB -> hs n b = hs' n b) : rowF hs NB n = rowF hs' NB n := List.map_congr_left fun b hb => by rw [h b (List.mem_range.1 hb)]
theorem Z10n {hs : Nat -> Nat -> Int} {NB k n : Nat} (h : n < k) : (Z10m hs NB k).getD n [] = rowF hs NB n := by
 rw [List.getD_eq_getElem?_getD]; simp [Z10m, h]
theorem Z10p {hs : Nat -> Nat -> Int} {NB k n : Nat} (h : k <= n) : (Z10m hs NB k).getD n [] = [] := by
 rw [List.getD_eq_getElem?_getD, List.getElem?_eq_none (by simp [Z10m]; exact h)]; rfl
theorem Z11b {hs hs' : Nat -> Nat -> Int} {NB k : Nat} (h : ∀ n b, n < k -> b < NB -> hs n b = hs' n b) : Z10m hs NB k = Z10m hs' NB k := List.map_congr_left fun n hn => Z11n fun b hb => h n b (List.mem_range.1 hn) hb
theorem Z11s {hs : Nat -> Nat -> Int} {NB k n b : Nat} (hn : n < k) (hb : b < NB) (v : Int) (j : Nat) : (Z10m (fun n' b' => if n' = n /\ b' = b then v else hs n' b') NB k).getD j [] = if j = n then (rowF hs NB n).set b (I v) else (Z10m hs NB k).getD j [] := by
 by_cases hj : j < k
 ·rw [Z10n hj, Z10n hj, Z11a hb]
  by_cases e : j = n
  ·subst e; rw [if_pos rfl]
  ·rw [if_neg e]; exact Z11n fun b' _ => if_neg fun h => e h.1
 ·rw [Z10p (by omega), Z10p (by omega), if_neg (by omega)]
structure HasI (hs : Nat -> Nat -> Int) (NB k : Nat) (GE : List D) (GN : List Ent) : Prop where
 p : 0 < NB -> ∃ xs : List Value, xs.length = k /\ GridOk xs (Z10m hs NB k) /\ GE = Z3f xs (Z10m hs NB k) 0 /\ GN = Z3t xs (Z10m hs NB k) 0
 z : NB = 0 -> GE = List.replicate k (.sl 1 [])
theorem HasI.len {hs NB k GE GN} (h : HasI hs NB k GE GN) : GE.length = k := by
 by_cases h0 : NB = 0
 ·rw [h.z h0, List.length_replicate]
 ·obtain ⟨xs, h1, -, h2, -⟩ := h.p (by omega);rw [h2, Z4p, h1]
theorem HasI.congr {hs hs' : Nat -> Nat -> Int} {NB k GE GN} (h : HasI hs NB k GE GN) (e : ∀ n b, n < k -> b < NB -> hs n b = hs' n b) : HasI hs' NB k GE GN := by
 have := Z11b (NB := NB) e;exact ⟨fun h0 => by have := h.p h0; rw [Z11b e] at this; exact this, h.z⟩
end Go.Proofs.YtegjabljeepbdaaGreatDoor

namespace Go.Proofs.YtegjabljeepbdaaGreatDoor
open Go Go.Abs Go.Proofs Go.Batch
section
variable {m : Nat} {K : St -> Prop} {E : List (Nat × D)} {b0 : Blk} {nt : Nat}
theorem Z1bd {hs : Nat -> Nat -> Int} {NB N : Nat} {GE : List D} {GN : List Ent} (h : HasI hs NB N GE GN) (h0 : 0 < NB)
  (hv2 : ∀ es bg, View m [0, 1, 2] { env := E, H := [b0, .els 1 es, .ob (.gr 1 bg)], nt := nt, dfs := [] } { env := E, H := [b0, .els 1 es, .ob (.gr 1 bg), .dead], nt := nt, dfs := [] })
  (hg : ∀ OL GN', OL.length = N -> (∀ n, n < N -> OL[n]? = some (.sl 1 (rowF hs NB n))) -> GS m K { env := E, H := [b0, .els 1 OL, .ob (.gr 1 GN')], nt := nt, dfs := [] }) :
  GS m K { env := E, H := [b0, .els 1 GE, .ob (.gr 1 GN)], nt := nt, dfs := [] } := by
 obtain ⟨xs, h1, h2, h3, h4⟩ := h.p h0;rw [h3, h4];refine Zpx h2 h1 hv2 (hg _ _ (by simp) fun n hn => ?_);rw [List.getElem?_map, List.getElem?_range hn];show some (D.sl 1 ((Z10m hs NB N).getD n [])) = _;rw [Z10n hn]
def z4L : List D := [I 0, I 0, I 0, I 0]
theorem Z1bm {sl n0 : Nat} (hE : Z1c E sl = some (.o 1 1 n0)) (h : ∀ GE GN, HasI (fun _ _ => 0) 4 4 GE GN -> GS m K { env := E, H := [b0, .els 1 GE, .dead, .dead, .dead, .dead, .ob (.gr 1 GN)], nt := nt, dfs := [] }) :
  GS m K { env := E, H := [b0, .elo 1 [.o 2 1 4, .o 3 1 4, .o 4 1 4, .o 5 1 4], .els 1 z4L, .els 1 z4L, .els 1 z4L, .els 1 z4L], nt := nt, dfs := [] } := by
 refine Zpw 1 [] (fun j e row h => by simp at h) ?_;refine Zsa 6 1 2 0 0 0 (row := z4L) (fun x => .v x) rfl rfl rfl (.inl ⟨sl, 1, n0, hE⟩) (Nat.le_refl _) (fun e row' he => by simp at he) (by decide) rfl rfl (fun _ => rfl) fun x0 _ => ?_;refine Zsa 6 1 3 1 1 0 (row := z4L) (fun x => .v x) rfl rfl rfl (.inl ⟨sl, 1, n0, hE⟩) (Nat.le_refl _) (fun e row' he => by simp [Zfl] at he) (by decide) rfl rfl (fun _ => rfl) fun x1 _ => ?_;refine Zsa 6 1 4 2 2 0 (row := z4L) (fun x => .v x) rfl rfl rfl (.inl ⟨sl, 1, n0, hE⟩) (Nat.le_refl _) (fun e row' he => by simp [Zfl] at he) (by decide) rfl rfl (fun _ => rfl) fun x2 _ => ?_;refine Zsa 6 1 5 3 3 0 (row := z4L) (fun x => .v x) rfl rfl rfl (.inl ⟨sl, 1, n0, hE⟩) (Nat.le_refl _) (fun e row' he => by simp [Zfl] at he) (by decide) rfl rfl (fun _ => rfl) fun x3 _ => ?_;refine Zmp (es := [.v x0, .v x1, .v x2, .v x3]) 1 rfl ⟨fun d hd => by simp only [List.mem_cons, List.not_mem_nil, or_false] at hd; rcases hd with rfl | rfl | rfl | rfl <;> rfl⟩ ?_;refine h [.v x0, .v x1, .v x2, .v x3] [(x0, some z4L), (x1, some z4L), (x2, some z4L), (x3, some z4L)] ⟨fun _ => ⟨[x0, x1, x2, x3], rfl, ⟨fun j hj he => ?_, fun j => ?_⟩, rfl, rfl⟩, fun h => absurd h (by decide)⟩
 ·have hj : j < 4 := hj;rw [Z10n hj] at he;have := congrArg List.length he;rw [Z10o] at this; cases this
 ·by_cases hj : j < 4
  ·rw [Z10n hj]; exact Z11m _ _ _
  ·rw [Z10p (by omega)]; exact .nil
end
end Go.Proofs.YtegjabljeepbdaaGreatDoor
