/- Part BatJ of the proofs about the benches of the accordion maker: see the last text of the claim for what is proved. -/
import Derived.Test.YtecfpfhkicapeaaBatI
import Derived.Test.YtecfpfhkicapeaaSaysB
set_option linter.unusedVariables false
set_option linter.unusedSimpArgs false
set_option linter.unnecessarySimpa false
set_option linter.constructorNameAsVariable false

namespace Go.Proofs.Ytecfpfhkicapeaa
open Go Go.Abs Go.Proofs Go.Batch
set_option maxRecDepth 20000 in
set_option maxHeartbeats 2000000 in
theorem Z107 (x n : Int) (m : Nat) (hn : IsI n m) (hm : m <= 1000) (Q) (hq : ∀ (q : List Nat) (QL : List D) x', Asc m q -> QL = Z1y q -> Q (RA.ret (.sl 1 QL)) [pot x']) :
  CallA Try.prog 53 [.b 0 0, I n] [pot x] Q := by
 obtain ⟨A, hA⟩ : ∃ A, A = ar := ⟨_, rfl⟩;refine Z5 Z0 hA Try.func53 rfl rfl rfl rfl rfl fun S hS => ?_;cbv;refine Zb hS ?_;refine Za (α := Int × Nat × Int × List Nat × Nat × List D) (fun q => { env := [(0, .b 0 0), (1, I n), (5, .o 1 1 q.2.2.2.2.1), (6, I q.1)], H := [pot q.2.2.1, .els 1 q.2.2.2.2.2], nt := 19, dfs := [] })
  (fun q => m - q.2.1) (fun q => q.2.1 <= m /\ IsI q.1 q.2.1 /\ Asc q.2.1 q.2.2.2.1 /\ q.2.2.2.2.1 = q.2.2.2.1.length /\ q.2.2.2.2.2 = Z1y q.2.2.2.1) (0, 0, x, [], 0, []) ⟨Nat.zero_le _, ⟨rfl⟩, Z10e _, rfl, rfl⟩ ?_ ?_
 ·refine Z2a 5 1 rfl ?_;exact Zf [0, 1] ⟨by decide, Z2n, ⟨rfl, rfl, trivial⟩, ⟨rfl, rfl, rfl, rfl, trivial⟩, rfl, rfl⟩
 rintro ⟨i, k, y, q, c, L⟩ ⟨u1, u2, u3, u4, u5⟩;dsimp only at u1 u2 u3 u4 u5;have hLl : L.length = c := by rw [u5, u4]; simp [Z1y]
 have hc6 : c <= 1000000 := by rw [u4]; have := u3.len; omega
 have hyes : A.cmp .lss i n = true -> k < m := fun c => by have := xlt hA c; have := u2.eq; have := hn.eq; omega
 have hno : A.cmp .lss i n = false -> k = m := fun c => by have := Z7x hA c; have := u2.eq; have := hn.eq; omega
 refine Zi Z0 hA hS ?_;cbv;refine bm (fun c1 => ?_) (fun c1 => ?_)
 ·have hk := hyes c1;have hf1 := Zy hA u2 (by omega);have hu2 := Zz hA u2;have hms : m - (k + 1) < m - k := by omega
  have hq1 : Asc (k + 1) (q ++ [k]) := u3.snoc (Nat.lt_succ_self k);have hc1 : A.addN c 1 = (q ++ [k]).length := by rw [Z2e hA, u4]; simp
  have hL1 : A.app L [I i] = Z1y (q ++ [k]) := by rw [Z33 hA, u5, u2.eq]; simp [Z1y]
  have hq2 : Asc (k + 1) q := u3.mono (by omega);cbv;refine Z4 hS [.b 0 0, I 1, I 2] [0] [pot y] rfl rfl rfl rfl rfl rfl rfl rfl (by decide) ⟨rfl, trivial⟩ (Zvc y 1 2 (by omega) _ fun b y' => ?_)
  cases b with
  | true =>
   refine Z3 Z0 hA hS ?_;cbv;refine ⟨Ze hA hLl, Ze hA rfl, Z27 hA hc6 (by decide), hf1, ?_⟩;refine Z8 (A.add i 1, k + 1, y', q ++ [k], A.addN c 1, A.app L [I i]) [0, 3] ⟨hk, hu2, hq1, hc1, hL1⟩ hms ?_;exact ⟨by decide, Z2n, ⟨rfl, rfl, trivial⟩, ⟨rfl, rfl, rfl, rfl, trivial⟩, rfl, rfl⟩
  | false =>
   refine Z3 Z0 hA hS ?_;cbv;refine ⟨hf1, ?_⟩;refine Z8 (A.add i 1, k + 1, y', q, c, L) [0, 1] ⟨hk, hu2, hq2, u4, u5⟩ hms ?_;exact ⟨by decide, Z2n, ⟨rfl, rfl, trivial⟩, ⟨rfl, rfl, rfl, rfl, trivial⟩, rfl, rfl⟩
 ·have hk := hno c1;have hq1 : Asc m q := hk ▸ u3;have hz := hq q L y hq1 u5;cbv;refine Z7 ?_;cbv;refine Z1w [1] ?_;cbv;exact ⟨by cases L <;> exact hLl.symm, Z2 [0] (by decide) Z2n (H' := [pot y]) (d' := .sl 1 L) ⟨rfl, trivial⟩ rfl (Z1 hz)⟩
theorem Zhp {n : Nat} : ∀ (l : List Nat) (p : Option Int), (∀ x ∈ l, x < n /\ p.all (fun q => decide (q < (x : Int))) = true) -> l.Pairwise (· < ·) -> Z76 (n : Int) p (l.map fun i : Nat => (i : Int)) = 0
 | [], _, _, _ => rfl
 | x :: l, p, h, hp => by
  have h1 := h x (by simp);have hc := List.pairwise_cons.1 hp;simp only [List.map_cons, Z76];rw [if_neg (fun g => g ⟨by omega, by omega⟩), if_neg]
  ·exact Zhp l _ (fun y hy => ⟨(h y (by simp [hy])).1, by simp; exact hc.1 y hy⟩) hc.2
  ·intro g
   cases p with
   | none => simp at g
   | some q =>
    have h2 := h1.2;simp at g h2; omega
theorem Zvr {n : Nat} {l : List Nat} (h : Asc n l) : Z44 (n : Int) (l.map fun i : Nat => (i : Int)) = 0 := Zhp l none (fun x hx => ⟨h.lt x hx, rfl⟩) h.pw
theorem Ztb (l : List Nat) : (l.map fun i : Nat => (i : Int)).map Int.toNat = l := by
 rw [List.map_map]; exact (List.map_congr_left fun i _ => Int.toNat_natCast i).trans (List.map_id _)
section
variable {j : Jn} {ins : Int} {N n m : Nat} {FL ML : List D}
theorem MdJ.has (h : MdJ j ins N n m FL ML) {NB : Nat} (hNB : NB = (Z6 j.moves).length) {l : List Nat} (hl : Asc NB l) {XL : List D} (hX : XL = Z1y l) (Q) (hq : ∀ L, L = (Zbn j l).map I -> Q (RA.ret (.tup [.sl 1 L, I 0])) []) :
  CallA Try.prog 55 [.agg [I ins, .sl 1 FL, .sl 5 ML], .sl 1 XL] [] Q := by
 have e := h.ie;subst e;have hc := Zvr hl;rw [hNB] at hc;have hb := h.ok.b4;have hn := hl.len;refine Zzv j h.fl h.ml (l.map fun i : Nat => (i : Int)) (lim (by simp; omega)) FL ML XL h.F h.M (by rw [hX, Z1y, List.map_map]; rfl) Q (fun e h1 h2 => Z77 h.c0 h1 h2) (fun _ e h1 h2 => absurd (h1.trans hc) h2) (fun _ _ g => Z7p h.st g) (fun _ _ _ L hL => hq L ?_);rw [hL, Ztb]
end
end Go.Proofs.Ytecfpfhkicapeaa

namespace Go.Proofs.Ytecfpfhkicapeaa
open Go Go.Abs Go.Proofs Go.Batch
set_option maxRecDepth 20000 in
set_option maxHeartbeats 4000000 in
theorem Zql (ins : Int) (FL ML : List D) (mv : Mv) (m : Nat) (hM : ML.length = m) (hm : m <= 1000) (Q) (hq : ∀ ML', ML' = ML ++ [mvD mv] -> Q (RA.ret (.agg [I ins, .sl 1 FL, .sl 5 ML'])) []) :
  CallA Try.prog 21 [.agg [I ins, .sl 1 FL, .sl 5 ML], mvD mv] [] Q := by
 obtain ⟨A, hA⟩ : ∃ A, A = ar := ⟨_, rfl⟩;obtain ⟨kd, bn, it, lo, hi⟩ := mv;have e2 : A.addN 0 (A.len ML) = m := by rw [Z2e hA, Z9m hA hM, Nat.zero_add]
 have e3 : A.addN (A.addN 0 (A.len ML)) 1 = m + 1 := by rw [Z2e hA, e2]
 have a2 : A.app [] ML = ML := by rw [Z33 hA, List.nil_append]
 have a3 : A.app (A.app [] ML) [.agg [I kd, I bn, I it, I lo, I hi]] = ML ++ [.agg [I kd, I bn, I it, I lo, I hi]] := by rw [a2, Z33 hA]
 have r2 : A.room (A.addN 0 (A.len ML)) 40 := by
  rw [e2]; subst hA; exact ⟨by show m * 40 <= 140737488355328; omega, by show m <= 4611686018427387904; omega⟩
 have r3 : A.room (A.addN (A.addN 0 (A.len ML)) 1) 40 := by
  rw [e3]; subst hA; exact ⟨by show (m + 1) * 40 <= 140737488355328; omega, by show m + 1 <= 4611686018427387904; omega⟩
 have h3 : A.eqN (A.addN 0 (A.len ML)) (A.len (A.app [] ML)) := Zkd hA (by rw [a2, e2, Z9m hA hM]);obtain ⟨R, hR⟩ : ∃ R, R = ML ++ [.agg [I kd, I bn, I it, I lo, I hi]] := ⟨_, rfl⟩;have hle : R.length = A.addN (A.addN 0 (A.len ML)) 1 := by rw [hR, e3]; simp [hM]
 have hz := hq R hR;rw [<- hR] at a3;refine Z38 Z0 hA [2] Try.func21 rfl rfl rfl rfl rfl fun S hS => ?_;cbv;refine Z16 Z0 hA hS [0, 1, 2, 4, 5, 3, 6, 7, 8] rfl rfl fun Dk hD => ?_;cbv;refine ⟨Ze hA rfl, r2, h3, Ze hA rfl, r3, ?_⟩;refine Z3h hS (Zog 6 rfl (congrArg (Blk.els 5) a3) (Z7 (Zb hS ?_)));refine Zi Z0 hA hS ?_;cbv;refine Z1w [6] ?_;cbv;refine ⟨by cases R <;> exact hle.symm, by cases R <;> exact hle.symm, by cases R <;> exact hle.symm, ?_⟩;exact Z2 [] (by decide) Z9 (H' := []) (d' := .agg [I ins, .sl 1 FL, .sl 5 R]) trivial rfl (Z1 hz)
end Go.Proofs.Ytecfpfhkicapeaa
