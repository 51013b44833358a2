/- Part BatJ of the proofs about the benches of the accordion maker: see the last text of the claim for what is proved. -/
import Derived.Test.YtecfpfhkicapeaaBatI
import Derived.Test.YtecfpfhkicapeaaSaysB
set_option linter.unusedVariables false
set_option linter.unusedSimpArgs false
set_option linter.unnecessarySimpa false
set_option linter.constructorNameAsVariable false

namespace Go.Proofs.Ytecfpfhkicapeaa
open Go Go.Abs Go.Proofs Go.Batch
theorem Zhp {n : Nat} : ∀ (l : List Nat) (p : Option Int), (∀ x ∈ l, x < n /\ p.all (fun q => decide (q < (x : Int))) = true) -> l.Pairwise (· < ·) -> Z76 (n : Int) p (l.map fun i : Nat => (i : Int)) = 0
 | [], _, _, _ => rfl
 | x :: l, p, h, hp => by
  have h1 := h x (by simp);have hc := List.pairwise_cons.1 hp;simp only [List.map_cons, Z76];rw [if_neg (fun g => g ⟨by omega, by omega⟩), if_neg]
  ·exact Zhp l _ (fun y hy => ⟨(h y (by simp [hy])).1, by simp; exact hc.1 y hy⟩) hc.2
  ·intro g
   cases p with
   | none => simp at g
   | some q =>
    have h2 := h1.2;simp at g h2; omega
theorem Zvr {n : Nat} {l : List Nat} (h : Asc n l) : Z44 (n : Int) (l.map fun i : Nat => (i : Int)) = 0 := Zhp l none (fun x hx => ⟨h.lt x hx, rfl⟩) h.pw
theorem Ztb (l : List Nat) : (l.map fun i : Nat => (i : Int)).map Int.toNat = l := by
 rw [List.map_map]; exact (List.map_congr_left fun i _ => Int.toNat_natCast i).trans (List.map_id _)
section
variable {j : Jn} {ins : Int} {N n m : Nat} {FL ML : List D}
theorem MdJ.has (h : MdJ j ins N n m FL ML) {NB : Nat} (hNB : NB = (Z6 j.moves).length) {l : List Nat} (hl : Asc NB l) {XL : List D} (hX : XL = Z1y l) (Q) (hq : ∀ L, L = (Zbn j l).map I -> Q (RA.ret (.tup [.sl 1 L, I 0])) []) :
  CallA Try.prog 55 [.agg [I ins, .sl 1 FL, .sl 5 ML], .sl 1 XL] [] Q := by
 have e := h.ie;subst e;have hc := Zvr hl;rw [hNB] at hc;have hb := h.ok.b4;have hn := hl.len;refine Zzv j h.fl h.ml (l.map fun i : Nat => (i : Int)) (lim (by simp; omega)) FL ML XL h.F h.M (by rw [hX, Z1y, List.map_map]; rfl) Q (fun e h1 h2 => Z77 h.c0 h1 h2) (fun _ e h1 h2 => absurd (h1.trans hc) h2) (fun _ _ g => Z7p h.st g) (fun _ _ _ L hL => hq L ?_);rw [hL, Ztb]
end
end Go.Proofs.Ytecfpfhkicapeaa

namespace Go.Proofs.Ytecfpfhkicapeaa
open Go Go.Abs Go.Proofs Go.Batch
set_option maxRecDepth 20000 in
set_option maxHeartbeats 4000000 in
theorem Zql (ins : Int) (FL ML : List D) (mv : Mv) (m : Nat) (hM : ML.length = m) (hm : m <= 1000) (Q) (hq : ∀ ML', ML' = ML ++ [mvD mv] -> Q (RA.ret (.agg [I ins, .sl 1 FL, .sl 5 ML'])) []) :
  CallA Try.prog 21 [.agg [I ins, .sl 1 FL, .sl 5 ML], mvD mv] [] Q := by
 obtain ⟨A, hA⟩ : ∃ A, A = ar := ⟨_, rfl⟩;obtain ⟨kd, bn, it, lo, hi⟩ := mv;have e2 : A.addN 0 (A.len ML) = m := by rw [Z2e hA, Z9m hA hM, Nat.zero_add]
 have e3 : A.addN (A.addN 0 (A.len ML)) 1 = m + 1 := by rw [Z2e hA, e2]
 have a2 : A.app [] ML = ML := by rw [Z33 hA, List.nil_append]
 have a3 : A.app (A.app [] ML) [.agg [I kd, I bn, I it, I lo, I hi]] = ML ++ [.agg [I kd, I bn, I it, I lo, I hi]] := by rw [a2, Z33 hA]
 have r2 : A.room (A.addN 0 (A.len ML)) 40 := by
  rw [e2]; subst hA; exact ⟨by show m * 40 <= 140737488355328; omega, by show m <= 4611686018427387904; omega⟩
 have r3 : A.room (A.addN (A.addN 0 (A.len ML)) 1) 40 := by
  rw [e3]; subst hA; exact ⟨by show (m + 1) * 40 <= 140737488355328; omega, by show m + 1 <= 4611686018427387904; omega⟩
 have h3 : A.eqN (A.addN 0 (A.len ML)) (A.len (A.app [] ML)) := Zkd hA (by rw [a2, e2, Z9m hA hM]);obtain ⟨R, hR⟩ : ∃ R, R = ML ++ [.agg [I kd, I bn, I it, I lo, I hi]] := ⟨_, rfl⟩;have hle : R.length = A.addN (A.addN 0 (A.len ML)) 1 := by rw [hR, e3]; simp [hM]
 have hz := hq R hR;rw [<- hR] at a3;refine Z38 Z0 hA [2] Try.func21 rfl rfl rfl rfl rfl fun S hS => ?_;cbv;refine Z16 Z0 hA hS [0, 1, 2, 4, 5, 3, 6, 7, 8] rfl rfl fun Dk hD => ?_;cbv;refine ⟨Ze hA rfl, r2, h3, Ze hA rfl, r3, ?_⟩;refine Z3h hS (Zog 6 rfl (congrArg (Blk.els 5) a3) (Z7 (Zb hS ?_)));refine Zi Z0 hA hS ?_;cbv;refine Z1w [6] ?_;cbv;refine ⟨by cases R <;> exact hle.symm, by cases R <;> exact hle.symm, by cases R <;> exact hle.symm, ?_⟩;exact Z2 [] (by decide) Z9 (H' := []) (d' := .agg [I ins, .sl 1 FL, .sl 5 R]) trivial rfl (Z1 hz)
end Go.Proofs.Ytecfpfhkicapeaa
