/- Part KnoA of the proofs about the benches of the accordion maker: see the last text of the claim for what is proved. -/
import Derived.Test.YthljpccegkmdnaaGreatDoorRunH
import Derived.Test.YthljpccegkmdnaaGreatDoorRunT
import Derived.Test.YthljpccegkmdnaaGreatDoorRunO
import Derived.Test.YthljpccegkmdnaaGreatDoorSlpA
import Derived.Test.YthljpccegkmdnaaGreatDoorRunQ
import Derived.Test.YthljpccegkmdnaaGreatDoorWrkA
import Derived.Test.YthljpccegkmdnaaGreatDoorRunR
set_option linter.unusedVariables false
set_option linter.unusedSimpArgs false
set_option linter.unnecessarySimpa false
set_option linter.constructorNameAsVariable false

namespace Go.Abs
open Go
section
variable {P : Program} {T : TT} {r : Option Nat} {m : Nat} {ops : Array Oper} {Q : AX -> St -> Prop} {s : St}
end
end Go.Abs

namespace Go.Batch
end Go.Batch
namespace Go.Proofs.YthljpccegkmdnaaGreatDoor
open Go Go.Abs Go.Proofs Go.Batch
end Go.Proofs.YthljpccegkmdnaaGreatDoor

namespace Go.Proofs.YthljpccegkmdnaaGreatDoor
open Go Go.Abs Go.Proofs Go.Batch
theorem Zqm {P : Program} {f : FuncId} {vs0 : List D} {H : List Blk} {Q Q' : RA -> List Blk -> Prop} (h : CallA P f vs0 H Q) (hq : ∀ d H', Q (.ret d) H' -> ∃ d', WkD d d' /\ Q' (.ret d') H') (hp : ∀ d H', Q (.pan d) H' -> Q' (.pan d) H') : CallA P f vs0 H Q' :=
 ⟨h.fn, fun F μ vs w h1 h2 h3 => CallsIn.mono (h.out F μ vs w h1 h2 h3) fun e w' he => by
  cases e with
  | returned v =>
   obtain ⟨F', μ', H', d, g1, g2, g3⟩ := he
   obtain ⟨d', hw, hk⟩ := hq _ _ g3
   exact ⟨F', μ', H', d', g1, hw.out _ _ _ g2, hk⟩
  | panicked ch => obtain ⟨F', μ', H', d, v, g1, g2, g3, g4⟩ := he; exact ⟨F', μ', H', d, v, g1, g2, g3, hp _ _ g4⟩
  | outgrown => exact he.elim⟩
theorem WkD.tup {cs ds : List D} (h : WkL cs ds) : WkD (.tup cs) (.tup ds) := ⟨fun F μ v hv => by
 obtain ⟨vs, rfl, hl, hr⟩ := hv.tup_inv
 exact .tup _ _ (by rw [<- h.length]; exact hl) (fun i c v hc hv => by
  obtain ⟨a, h1, h2⟩ := h.get hc
  exact h2.out _ _ _ (hr i a v h1 hv))⟩
structure WrongR (j : Jn) (WL : List D) (e : Int) : Prop where
 or : (e = 9 /\ WL = [] /\ Z6c j = none) ∨ (e = 0 /\ ∃ c, WL = Z1y c /\ Z6c j = some c)
structure NoneK (j : Jn) (k i : Nat) : Prop where
 none : Z6d j k i
end Go.Proofs.YthljpccegkmdnaaGreatDoor

namespace Go.Proofs.YthljpccegkmdnaaGreatDoor
open Go Go.Abs Go.Proofs Go.Batch
def Z1ex : Option (List Nat) -> List Nat × Int
 | none => ([], 9)
 | some c => (c, 0)
def Z1eb (j : Jn) : List Nat × Int := if Zr j ≠ 0 then ([], Zr j) else Z1ex (Z6c j)
theorem Z1el (e : Int) : WkD (.tup [.v (.slice none 0 0), I e]) (.tup [.sl 1 (Z1y []), I e]) := WkD.tup ⟨WkD.nil, .rfl, trivial⟩
theorem Z1em (j : Jn) (hf : j.first.length <= 1152921504606846976) (hm : j.moves.length <= 1152921504606846976) (FL ML : List D) (hF : FL = j.first.map Zv) (hM : ML = j.moves.map mvD) (w : List Nat × Int) (hw : w = Z1eb j) (Q) (hq : ∀ L, L = Z1y w.1 -> Q (RA.ret (.tup [.sl 1 L, I w.2])) []) :
  CallA Tryz.prog 25 [.agg [I j.ins, .sl 1 FL, .sl 5 ML]] [] Q := by
 have hz := hq _ rfl;refine Zqm (Q := fun x H' => H' = [] /\ ∃ d, x = RA.ret d /\ WkD d (.tup [.sl 1 (Z1y w.1), I w.2])) (Zt2 j hf hm FL ML hF hM _ (fun e h1 h2 => ⟨rfl, _, rfl, ?_⟩) (fun hj h => ⟨rfl, _, rfl, ?_⟩) (fun hj _ c hc L hL => ⟨rfl, _, rfl, ?_⟩)) (fun d H' h => ?_) (fun d H' h => ?_)
 ·have : w = ([], e) := by rw [hw, Z1eb, if_pos (by rw [<- h1]; exact h2), h1]
  rw [this]; exact Z1el e
 ·have : w = ([], 9) := by rw [hw, Z1eb, if_neg (fun h => h (Z81 hj)), Z1ef h]; rfl
  rw [this]; exact Z1el 9
 ·have : w = (c, 0) := by rw [hw, Z1eb, if_neg (fun h => h (Z81 hj)), hc]; rfl
  rw [this, hL]; exact .rfl
 ·obtain ⟨rfl, d1, h1, h2⟩ := h
  cases h1
  exact ⟨_, h2, hz⟩
 ·obtain ⟨-, d1, h1, -⟩ := h
  cases h1
end Go.Proofs.YthljpccegkmdnaaGreatDoor

namespace Go.Proofs.YthljpccegkmdnaaGreatDoor
open Go Go.Abs Go.Proofs Go.Batch
def chkS (j : Jn) : Int := if Zr j ≠ 0 then Zr j else if Zc j = true then 0 else 9
def okL {α : Type} (e : Int) (l : List α) : List α := if e = 0 then l else []
theorem Zd1 {α : Type} (l : List α) : okL 0 l = l := if_pos rfl
theorem Ze9 {α : Type} {e : Int} (h : e ≠ 0) (l : List α) : okL e l = [] := if_neg h
theorem Zll {j : Jn} {e : Int} (h1 : e = Zr j) (h2 : e ≠ 0) : chkS j = e := by unfold chkS; rw [if_pos (by rw [<- h1]; exact h2), h1]
theorem Ztv {j : Jn} (h : JOk j) (h2 : Zc j = false) : chkS j = 9 := by unfold chkS; rw [if_neg (fun g => g (Z81 h)), h2]; rfl
theorem Ztw {j : Jn} (h : JOk j) (h2 : Zc j = true) : chkS j = 0 := by unfold chkS; rw [if_neg (fun g => g (Z81 h)), h2]; rfl
def stV (j : Jn) : Bool := if Zr j ≠ 0 then false else Zc j
def Zjc (j : Jn) (l : List Int) : Int := if Zr j ≠ 0 then Zr j else if Z44 ((Z6 j.moves).length : Int) l ≠ 0 then Z44 ((Z6 j.moves).length : Int) l else if Zc j = true then 0 else 9
def Zlm (j : Jn) (x y : List Int) : Int := if Zr j ≠ 0 then Zr j else if Z44 j.ins x ≠ 0 then Z44 j.ins x else if Z44 j.ins y ≠ 0 then Z44 j.ins y else if Zc j = true then (if Z9s j (Z3z x) (Z3z y) = [] then 11 else 0) else 9
def Zwa (j : Jn) (i b : Int) : Prop := (0 <= i /\ i <= j.ins - 1) /\ 0 <= b /\ b <= ((Z6 j.moves).length : Int) - 1
instance (j : Jn) (i b : Int) : Decidable (Zwa j i b) := by unfold Zwa; infer_instance
def Zjd (j : Jn) (i b : Int) : Int := if Zr j ≠ 0 then Zr j else if ¬ Zwa j i b then 3 else if Zc j = true then 0 else 9
def Zym (j : Jn) (i b : Int) : Int × Int := if Zjd j i b = 0 then Z4d j (Z2v i b.toNat) else (0, 0)
theorem wkE {sz : Nat} {e e' : Int} {L : List D} (h : e' = e) (hne : e ≠ 0) : WkD (.tup [.v (.slice none 0 0), I e]) (.tup [.sl sz (okL e' L), I e']) := by
 subst h; rw [Ze9 hne]; exact WkD.tup ⟨WkD.nil, .rfl, trivial⟩
theorem wkO {sz : Nat} {e' : Int} {L L' : List D} (h : e' = 0) (hL : L' = L) : WkD (.tup [.sl sz L', I 0]) (.tup [.sl sz (okL e' L), I e']) := by
 subst h hL; rw [Zd1]; exact .rfl
section
variable {fn : FuncId} {args : List D} {d0 : D} {Q : RA -> List Blk -> Prop}
def Zyn (d0 : D) (x : RA) (H' : List Blk) : Prop := H' = [] /\ ∃ d, x = RA.ret d /\ WkD d d0
theorem Ztx (h : CallA Tryz.prog fn args [] (Zyn d0)) (hq : Q (RA.ret d0) []) : CallA Tryz.prog fn args [] Q :=
 Zqm (Q := Zyn d0) h (fun d H' h => by
  obtain ⟨rfl, d1, h1, h2⟩ := h
  cases h1
  exact ⟨_, h2, hq⟩) (fun d H' h => by
  obtain ⟨-, d1, h1, -⟩ := h
  cases h1)
end
section
variable (j : Jn) (hf : j.first.length <= 1152921504606846976) (hm : j.moves.length <= 1152921504606846976) (FL ML : List D) (hF : FL = j.first.map Zv) (hM : ML = j.moves.map mvD)
include hf hm hF hM
theorem Zxd (e : Int) (he : e = chkS j) (L0 : List D) (hL : L0 = okL e ((Z6g j).map rgD)) (Q) (hq : Q (RA.ret (.tup [.sl 2 L0, I e])) []) : CallA Tryz.prog 12 [.agg [I j.ins, .sl 1 FL, .sl 5 ML]] [] Q := by
 subst hL;exact Ztx (Ztc j hf hm FL ML hF hM _ (fun e' h1 h2 => ⟨rfl, _, rfl, wkE (he.trans (Zll h1 h2)) h2⟩) (fun h h2 => ⟨rfl, _, rfl, wkE (he.trans (Ztv h h2)) (by decide)⟩) (fun h h2 L hL => ⟨rfl, _, rfl, wkO (he.trans (Ztw h h2)) hL⟩)) hq
theorem Zxe (e : Int) (he : e = chkS j) (L0 : List D) (hL : L0 = okL e ((Z4c j).map rgD)) (Q) (hq : Q (RA.ret (.tup [.sl 2 L0, I e])) []) : CallA Tryz.prog 13 [.agg [I j.ins, .sl 1 FL, .sl 5 ML]] [] Q := by
 subst hL;exact Ztx (Zst j hf hm FL ML hF hM _ (fun e' h1 h2 => ⟨rfl, _, rfl, wkE (he.trans (Zll h1 h2)) h2⟩) (fun h h2 => ⟨rfl, _, rfl, wkE (he.trans (Ztv h h2)) (by decide)⟩) (fun h h2 L hL => ⟨rfl, _, rfl, wkO (he.trans (Ztw h h2)) hL⟩)) hq
theorem Z10g (e : Int) (he : e = chkS j) (L0 : List D) (hL : L0 = okL e ((Z5w j).map fun l => .sl 1 (l.map I))) (Q) (hq : Q (RA.ret (.tup [.sl 1 L0, I e])) []) : CallA Tryz.prog 15 [.agg [I j.ins, .sl 1 FL, .sl 5 ML]] [] Q := by
 subst hL;exact Ztx (Zsy j hf hm FL ML hF hM _ (fun e' h1 h2 => ⟨rfl, _, rfl, wkE (he.trans (Zll h1 h2)) h2⟩) (fun h h2 => ⟨rfl, _, rfl, wkE (he.trans (Ztv h h2)) (by decide)⟩) (fun h h2 L hL => ⟨rfl, _, rfl, wkO (he.trans (Ztw h h2)) hL⟩)) hq
theorem Z10h (e : Int) (he : e = chkS j) (L0 : List D) (hL : L0 = okL e ((Z6b j).map I)) (Q) (hq : Q (RA.ret (.tup [.sl 1 L0, I e])) []) : CallA Tryz.prog 23 [.agg [I j.ins, .sl 1 FL, .sl 5 ML]] [] Q := by
 subst hL;exact Ztx (Zsv j hf hm FL ML hF hM _ (fun e' h1 h2 => ⟨rfl, _, rfl, wkE (he.trans (Zll h1 h2)) h2⟩) (fun h h2 => ⟨rfl, _, rfl, wkE (he.trans (Ztv h h2)) (by decide)⟩) (fun h h2 L hL => ⟨rfl, _, rfl, wkO (he.trans (Ztw h h2)) hL⟩)) hq
theorem Z109 (i b : Int) (e : Int) (he : e = Zjd j i b) (lo hi : Int) (hv : (lo, hi) = Zym j i b) (Q) (hq : Q (RA.ret (.tup [.agg [I lo, I hi], I e])) []) : CallA Tryz.prog 19 [.agg [I j.ins, .sl 1 FL, .sl 5 ML], I i, I b] [] Q := by
 unfold Zym at hv;have hz : ∀ e' : Int, Zjd j i b = e' -> e' ≠ 0 -> e' = e /\ lo = 0 /\ hi = 0 := fun e' h1 h2 => by
  rw [if_neg (by rw [h1]; exact h2)] at hv;exact ⟨by rw [he, h1], (Prod.mk.inj hv).1, (Prod.mk.inj hv).2⟩
 refine Z106 j hf hm i b FL ML hF hM Q (fun e' h1 h2 => ?_) (fun h g => ?_) (fun h g1 g2 g3 => ?_) (fun h g1 g2 g3 lo' hi' h1 h2 => ?_)
 ·obtain ⟨a1, a2, a3⟩ := hz e' (by unfold Zjd; rw [if_pos (by rw [<- h1]; exact h2), h1]) h2;rw [a1]; rw [a2, a3] at hq; exact hq
 ·obtain ⟨a1, a2, a3⟩ := hz 3 (by unfold Zjd; rw [if_neg (fun g => g (Z81 h)), if_pos (show ¬ Zwa j i b from g)]) (by decide);rw [<- a1, a2, a3] at hq; exact hq
 ·obtain ⟨a1, a2, a3⟩ := hz 9 (by unfold Zjd; rw [if_neg (fun g => g (Z81 h)), if_neg (show ¬ ¬ Zwa j i b from fun g => g ⟨g1, g2⟩), g3]; rfl) (by decide);rw [<- a1, a2, a3] at hq; exact hq
 ·have a0 : Zjd j i b = 0 := by unfold Zjd; rw [if_neg (fun g => g (Z81 h)), if_neg (show ¬ ¬ Zwa j i b from fun g => g ⟨g1, g2⟩), g3]; rfl
  rw [if_pos a0, ] at hv;have e0 := he.trans a0;have a2 : lo = lo' := by rw [h1, <- hv]
  have a3 : hi = hi' := by rw [h2, <- hv]
  rw [e0, a2, a3] at hq;exact hq
theorem Z10k (l : List Int) (hl : l.length <= 1152921504606846976) (XL : List D) (hX : XL = l.map I) (e : Int) (he : e = Zjc j l) (L0 : List D) (hL : L0 = okL e ((Zbn j (l.map Int.toNat)).map I)) (Q) (hq : Q (RA.ret (.tup [.sl 1 L0, I e])) []) : CallA Tryz.prog 20 [.agg [I j.ins, .sl 1 FL, .sl 5 ML], .sl 1 XL] [] Q := by
 subst hL;refine Ztx (Zzv j hf hm l hl FL ML XL hF hM hX _ (fun e' h1 h2 => ⟨rfl, _, rfl, wkE (he.trans ?_) h2⟩) (fun h e' h1 h2 => ⟨rfl, _, rfl, wkE (he.trans ?_) h2⟩) (fun h h1 h2 => ⟨rfl, _, rfl, wkE (he.trans ?_) (by decide)⟩) (fun h h1 h2 L hL => ⟨rfl, _, rfl, wkO (he.trans ?_) hL⟩)) hq
 ·unfold Zjc; rw [if_pos (by rw [<- h1]; exact h2), h1]
 ·unfold Zjc; rw [if_neg (fun g => g (Z81 h)), if_pos (by rw [<- h1]; exact h2), h1]
 ·unfold Zjc; rw [if_neg (fun g => g (Z81 h)), if_neg (fun g => g h1), h2]; rfl
 ·unfold Zjc; rw [if_neg (fun g => g (Z81 h)), if_neg (fun g => g h1), h2]; rfl
theorem Z10a (l : List Int) (hl : l.length <= 1152921504606846976) (XL : List D) (hX : XL = l.map I) (e : Int) (he : e = Zjc j l) (L0 : List D) (hL : L0 = okL e ((Zit j (l.map Int.toNat)).map I)) (Q) (hq : Q (RA.ret (.tup [.sl 1 L0, I e])) []) : CallA Tryz.prog 22 [.agg [I j.ins, .sl 1 FL, .sl 5 ML], .sl 1 XL] [] Q := by
 subst hL;refine Ztx (Z10f j hf hm l hl FL ML XL hF hM hX _ (fun e' h1 h2 => ⟨rfl, _, rfl, wkE (he.trans ?_) h2⟩) (fun h e' h1 h2 => ⟨rfl, _, rfl, wkE (he.trans ?_) h2⟩) (fun h h1 h2 => ⟨rfl, _, rfl, wkE (he.trans ?_) (by decide)⟩) (fun h h1 h2 L hL => ⟨rfl, _, rfl, wkO (he.trans ?_) hL⟩)) hq
 ·unfold Zjc; rw [if_pos (by rw [<- h1]; exact h2), h1]
 ·unfold Zjc; rw [if_neg (fun g => g (Z81 h)), if_pos (by rw [<- h1]; exact h2), h1]
 ·unfold Zjc; rw [if_neg (fun g => g (Z81 h)), if_neg (fun g => g h1), h2]; rfl
 ·unfold Zjc; rw [if_neg (fun g => g (Z81 h)), if_neg (fun g => g h1), h2]; rfl
theorem Z100 (x y : List Int) (hx : x.length <= 1152921504606846976) (hy : y.length <= 1152921504606846976) (XL YL : List D) (hX : XL = x.map I) (hY : YL = y.map I) (e : Int) (he : e = Zlm j x y) (L0 : List D) (hL : L0 = okL e ((Z9s j (Z3z x) (Z3z y)).map I)) (Q) (hq : Q (RA.ret (.tup [.sl 1 L0, I e])) []) : CallA Tryz.prog 24 [.agg [I j.ins, .sl 1 FL, .sl 5 ML], .sl 1 XL, .sl 1 YL] [] Q := by
 subst hL;refine Ztx (Zqf j hf hm x y hx hy FL ML XL YL hF hM hX hY _ (fun e' h1 h2 => ⟨rfl, _, rfl, wkE (he.trans ?_) h2⟩) (fun h e' h1 h2 => ⟨rfl, _, rfl, wkE (he.trans ?_) h2⟩) (fun h h0 e' h1 h2 => ⟨rfl, _, rfl, wkE (he.trans ?_) h2⟩) (fun h h0 h1 h2 => ⟨rfl, _, rfl, wkE (he.trans ?_) (by decide)⟩) (fun h h0 h1 h2 h3 => ⟨rfl, _, rfl, wkE (he.trans ?_) (by decide)⟩) (fun h h0 h1 h2 h3 L hL => ⟨rfl, _, rfl, wkO (he.trans ?_) hL⟩)) hq
 ·unfold Zlm; rw [if_pos (by rw [<- h1]; exact h2), h1]
 ·unfold Zlm; rw [if_neg (fun g => g (Z81 h)), if_pos (by rw [<- h1]; exact h2), h1]
 ·unfold Zlm; rw [if_neg (fun g => g (Z81 h)), if_neg (fun g => g h0), if_pos (by rw [<- h1]; exact h2), h1]
 ·unfold Zlm; rw [if_neg (fun g => g (Z81 h)), if_neg (fun g => g h0), if_neg (fun g => g h1), h2]; rfl
 ·unfold Zlm; rw [if_neg (fun g => g (Z81 h)), if_neg (fun g => g h0), if_neg (fun g => g h1), if_pos h2, if_pos h3]
 ·unfold Zlm; rw [if_neg (fun g => g (Z81 h)), if_neg (fun g => g h0), if_neg (fun g => g h1), if_pos h2, if_neg h3]
end
end Go.Proofs.YthljpccegkmdnaaGreatDoor

namespace Go.Proofs.YthljpccegkmdnaaGreatDoor
open Go Go.Abs Go.Proofs Go.Batch
theorem Zss (j : Jn) (hf : j.first.length <= 1152921504606846976) (hm : j.moves.length <= 1152921504606846976) (FL ML : List D) (hF : FL = j.first.map Zv) (hM : ML = j.moves.map mvD) (Q)
  (he : ∀ e, e = Zr j -> e ≠ 0 -> Q (RA.ret (.tup [.v (.bool false), I e])) []) (hq : JOk j -> ∀ b, b = Zc j -> Q (RA.ret (.tup [.v (.bool b), I 0])) []) :
  CallA Tryz.prog 26 [.agg [I j.ins, .sl 1 FL, .sl 5 ML]] [] Q := by
 obtain ⟨A, hA⟩ : ∃ A, A = ar := ⟨_, rfl⟩;obtain ⟨e1, he1⟩ : ∃ e1, e1 = Zr j := ⟨_, rfl⟩;refine Z5 Z0 hA Tryz.func26 rfl rfl rfl rfl rfl fun S hS => ?_;cbv;refine Z4 hS [.agg [I j.ins, .sl 1 FL, .sl 5 ML]] [] [] rfl rfl rfl rfl rfl rfl rfl rfl (by decide) trivial (bCheck j hf hm FL ML hF hM e1 he1 _ ?_);refine Z3 Z0 hA hS ?_;cbv;refine bm (fun c => ?_) (fun c => ?_)
 ·have hz := he e1 he1 (xne hA c);cbv;exact Z2 [] (by decide) Z9 (H' := []) (d' := .tup [.v (.bool false), I e1]) trivial rfl (Z1 hz)
 have hj : JOk j := Z2r (he1.symm.trans (Z4t hA c));cbv;refine Z4 hS [.agg [I j.ins, .sl 1 FL, .sl 5 ML], .fn 51 []] [] [] rfl rfl rfl rfl rfl rfl rfl rfl (by decide) trivial (Zan j hj Zn 51 [] Z73 FL ML hF hM _ (fun ents hme hne => ?_) (fun h0 => ?_))
 ·have hz := hq hj true ((Z28 j Zn).2 hne).symm;refine Z3 Z0 hA hS ?_;cbv;exact Z2 [] (by decide) Z9 (H' := []) (d' := .tup [.v (.bool true), I 0]) trivial rfl (Z1 hz)
 ·have hz := hq hj false (Z3y h0).symm;refine Z3 Z0 hA hS ?_;cbv;exact Z2 [] (by decide) Z9 (H' := []) (d' := .tup [.v (.bool false), I 0]) trivial rfl (Z1 hz)
section
variable (j : Jn) (hf : j.first.length <= 1152921504606846976) (hm : j.moves.length <= 1152921504606846976) (FL ML : List D) (hF : FL = j.first.map Zv) (hM : ML = j.moves.map mvD)
include hf hm hF hM
theorem Zty (b : Bool) (hb : b = stV j) (e : Int) (he : e = Zr j) (Q) (hq : Q (RA.ret (.tup [.v (.bool b), I e])) []) : CallA Tryz.prog 26 [.agg [I j.ins, .sl 1 FL, .sl 5 ML]] [] Q := by
 unfold stV at hb;refine Zss j hf hm FL ML hF hM Q (fun e' h1 h2 => ?_) (fun h b' hb' => ?_)
 ·rw [if_pos (by rw [<- h1]; exact h2)] at hb;rw [h1, <- he]; rw [hb] at hq; exact hq
 ·have h0 := Z81 h;rw [if_neg (fun g => g h0), <- hb'] at hb;rw [<- hb, <- h0, <- he]; exact hq
end
def Z1ev : Jn := { jnF [] with ins := 5 }
def Z1ew : Jn := { jnF [] with first := [] }
def jFar : Jn := ⟨3, [true, false], [⟨1, 2, 0, 2, 3⟩, mIn 0 2 2, Zse 0 0 1 1, Zse 0 1 2 2, Zse 0 2 1 1]⟩
def Z1eh : Jn := ⟨3, [true, false], [⟨1, 0, 1, 2, 3⟩, mIn 0 2 2, Zse 0 0 1 1, Zse 0 1 2 2, Zse 0 2 1 1]⟩
def Z1ei : Jn := ⟨3, [true, false], [⟨1, 0, 0, 3, 2⟩, mIn 0 2 2, Zse 0 0 1 1, Zse 0 1 2 2, Zse 0 2 1 1]⟩
def jW : Jn := jnF [Zci 0 3 3]
def jC : Jn := jnF [Zci 0 1 1]
def jX : Jn := ⟨3, [true, false], [⟨2, 1, -1, 1, 1⟩]⟩
theorem Z1g5 : 1 = Zr Z1ev := by decide +kernel
theorem Z1g6 : 7 = Zr Z1ew := by decide +kernel
theorem kFar : 3 = Zr jFar := by decide +kernel
theorem Z1g7 : 1 = Zr Z1eh := by decide +kernel
theorem Z1g8 : 5 = Zr Z1ei := by decide +kernel
theorem kX : 0 = Zr jX := by decide +kernel
theorem sF : 0 = chkS (jnF []) := by decide +kernel
theorem sC : 0 = chkS jC := by decide +kernel
theorem sA : 0 = chkS jnA := by decide +kernel
abbrev FB : List D := [Zv true, Zv false]
section
variable (FM : List D) (Q : RA -> List Blk -> Prop)
theorem Z1g9 (hM : FM = (jnF []).moves.map mvD) (hq : Q (RA.ret (.tup [.sl 2 [Zt3 (0, 1), Zt3 (0, 0)], I 0])) []) : CallA Tryz.prog 12 [.agg [I 3, .sl 1 FB, .sl 5 FM]] [] Q :=
 Zxd (jnF []) (fl2 _) ml5 FB FM rfl hM 0 sF _ (by rw [show Z6g (jnF []) = [(0, 1), (0, 0)] by decide +kernel]; rfl) Q hq
theorem Z1ga (hM : FM = (jnF []).moves.map mvD) (hq : Q (RA.ret (.tup [.sl 2 [Zt3 (0, 0), Zt3 (0, 1)], I 0])) []) : CallA Tryz.prog 13 [.agg [I 3, .sl 1 FB, .sl 5 FM]] [] Q :=
 Zxe (jnF []) (fl2 _) ml5 FB FM rfl hM 0 sF _ (by rw [show Z4c (jnF []) = [(0, 0), (0, 1)] by decide +kernel]; rfl) Q hq
theorem Z1ey (hM : FM = jC.moves.map mvD) (hq : Q (RA.ret (.tup [.sl 2 [Zt3 (1, 1), Zt3 (0, 0)], I 0])) []) : CallA Tryz.prog 12 [.agg [I 3, .sl 1 FB, .sl 5 FM]] [] Q :=
 Zxd jC (fl2 _) (ml6 _) FB FM rfl hM 0 sC _ (by rw [show Z6g jC = [(1, 1), (0, 0)] by decide +kernel]; rfl) Q hq
theorem Z1en (hM : FM = jC.moves.map mvD) (hq : Q (RA.ret (.tup [.sl 1 (([[1, 2], [1, 2], [2, 1]] : List (List Int)).map Zt4), I 0])) []) : CallA Tryz.prog 15 [.agg [I 3, .sl 1 FB, .sl 5 FM]] [] Q :=
 Z10g jC (fl2 _) (ml6 _) FB FM rfl hM 0 sC _ (by rw [show Z5w jC = [[1, 2], [1, 2], [2, 1]] by decide +kernel]; rfl) Q hq
theorem Z1eo (hM : FM = jnA.moves.map mvD) (hq : Q (RA.ret (.tup [.sl 1 (([[3, 3], [3, 3], [3, 3]] : List (List Int)).map Zt4), I 0])) []) : CallA Tryz.prog 15 [.agg [I 3, .sl 1 FB, .sl 5 FM]] [] Q :=
 Z10g jnA flA mlA FB FM rfl hM 0 sA _ (by rw [show Z5w jnA = [[3, 3], [3, 3], [3, 3]] by decide +kernel]; rfl) Q hq
theorem Z1ez (hM : FM = (jnF []).moves.map mvD) (hq : Q (RA.ret (.tup [.agg [I 1, I 2], I 0])) []) : CallA Tryz.prog 19 [.agg [I 3, .sl 1 FB, .sl 5 FM], I 1, I 0] [] Q :=
 Z109 (jnF []) (fl2 _) ml5 FB FM rfl hM 1 0 0 (by decide +kernel) 1 2 (by decide +kernel) Q hq
theorem Z1f0 (hM : FM = (jnF []).moves.map mvD) (hq : Q (RA.ret (.tup [.agg [I 0, I 1], I 0])) []) : CallA Tryz.prog 19 [.agg [I 3, .sl 1 FB, .sl 5 FM], I 1, I 1] [] Q :=
 Z109 (jnF []) (fl2 _) ml5 FB FM rfl hM 1 1 0 (by decide +kernel) 0 1 (by decide +kernel) Q hq
theorem Z1gb (hM : FM = jnA.moves.map mvD) (hq : Q (RA.ret (.tup [.agg [I 0, I 2], I 0])) []) : CallA Tryz.prog 19 [.agg [I 3, .sl 1 FB, .sl 5 FM], I 0, I 0] [] Q :=
 Z109 jnA flA mlA FB FM rfl hM 0 0 0 (by decide +kernel) 0 2 (by decide +kernel) Q hq
theorem Z1gc (hM : FM = (jnF []).moves.map mvD) (hq : Q (RA.ret (.tup [.sl 1 [I 2, I 3, I 1], I 0])) []) : CallA Tryz.prog 20 [.agg [I 3, .sl 1 FB, .sl 5 FM], .sl 1 [I 1]] [] Q :=
 Z10k (jnF []) (fl2 _) ml5 FB FM rfl hM [1] (by decide) _ rfl 0 (by decide +kernel) _ (by rw [show Zbn (jnF []) (([1] : List Int).map Int.toNat) = [2, 3, 1] by decide +kernel]; rfl) Q hq
theorem Z1gd (hM : FM = (jnF []).moves.map mvD) (hq : Q (RA.ret (.tup [.sl 1 [I 1, I 1, I 1], I 0])) []) : CallA Tryz.prog 20 [.agg [I 3, .sl 1 FB, .sl 5 FM], .sl 1 [I 0, I 1]] [] Q :=
 Z10k (jnF []) (fl2 _) ml5 FB FM rfl hM [0, 1] (by decide) _ rfl 0 (by decide +kernel) _ (by rw [show Zbn (jnF []) (([0, 1] : List Int).map Int.toNat) = [1, 1, 1] by decide +kernel]; rfl) Q hq
theorem Z1ge (hM : FM = (jnF []).moves.map mvD) (hq : Q (RA.ret (.tup [.sl 1 [I 2, I 2, I 2], I 0])) []) : CallA Tryz.prog 20 [.agg [I 3, .sl 1 FB, .sl 5 FM], .sl 1 []] [] Q :=
 Z10k (jnF []) (fl2 _) ml5 FB FM rfl hM [] (by decide) _ rfl 0 (by decide +kernel) _ (by rw [show Zbn (jnF []) (([] : List Int).map Int.toNat) = [2, 2, 2] by decide +kernel]; rfl) Q hq
theorem cRec (hM : FM = (jnF []).moves.map mvD) (hq : Q (RA.ret (.tup [.sl 1 [I 1, I 2], I 0])) []) : CallA Tryz.prog 22 [.agg [I 3, .sl 1 FB, .sl 5 FM], .sl 1 [I 1]] [] Q :=
 Z10a (jnF []) (fl2 _) ml5 FB FM rfl hM [1] (by decide) _ rfl 0 (by decide +kernel) _ (by rw [show Zit (jnF []) (([1] : List Int).map Int.toNat) = [1, 2] by decide +kernel]; rfl) Q hq
theorem Z1gf (hM : FM = jnA.moves.map mvD) (hq : Q (RA.ret (.tup [.sl 1 [I 0, I 1, I 2], I 0])) []) : CallA Tryz.prog 22 [.agg [I 3, .sl 1 FB, .sl 5 FM], .sl 1 [I 1]] [] Q :=
 Z10a jnA flA mlA FB FM rfl hM [1] (by decide) _ rfl 0 (by decide +kernel) _ (by rw [show Zit jnA (([1] : List Int).map Int.toNat) = [0, 1, 2] by decide +kernel]; rfl) Q hq
theorem cMix (hM : FM = (jnF []).moves.map mvD) (hq : Q (RA.ret (.tup [.sl 1 [I 2, I 3, I 2], I 0])) []) : CallA Tryz.prog 23 [.agg [I 3, .sl 1 FB, .sl 5 FM]] [] Q :=
 Z10h (jnF []) (fl2 _) ml5 FB FM rfl hM 0 sF _ (by rw [show Z6b (jnF []) = [2, 3, 2] by decide +kernel]; rfl) Q hq
theorem Z1gg (hM : FM = jC.moves.map mvD) (hq : Q (RA.ret (.tup [.sl 1 [I 2, I 2, I 2], I 0])) []) : CallA Tryz.prog 23 [.agg [I 3, .sl 1 FB, .sl 5 FM]] [] Q :=
 Z10h jC (fl2 _) (ml6 _) FB FM rfl hM 0 sC _ (by rw [show Z6b jC = [2, 2, 2] by decide +kernel]; rfl) Q hq
theorem cSus (hM : FM = (jnF []).moves.map mvD) (hq : Q (RA.ret (.tup [.sl 1 [], I 11])) []) : CallA Tryz.prog 24 [.agg [I 3, .sl 1 FB, .sl 5 FM], .sl 1 [I 0], .sl 1 [I 1]] [] Q :=
 Z100 (jnF []) (fl2 _) ml5 FB FM rfl hM [0] [1] (by decide) (by decide) _ _ rfl rfl 11 (by decide +kernel) _ rfl Q hq
theorem Z1gh (hM : FM = jnA.moves.map mvD) (hq : Q (RA.ret (.tup [.sl 1 [I 0], I 0])) []) : CallA Tryz.prog 24 [.agg [I 3, .sl 1 FB, .sl 5 FM], .sl 1 [I 0, I 1], .sl 1 []] [] Q :=
 Z100 jnA flA mlA FB FM rfl hM [0, 1] [] (by decide) (by decide) _ _ rfl rfl 0 (by decide +kernel) _ (by rw [show Z9s jnA (Z3z [0, 1]) (Z3z []) = [0] by decide +kernel]; rfl) Q hq
theorem Z1f1 (hM : FM = (jnF []).moves.map mvD) (hq : Q (RA.ret (.tup [.sl 1 [], I 0])) []) : CallA Tryz.prog 25 [.agg [I 3, .sl 1 FB, .sl 5 FM]] [] Q :=
 Z1em (jnF []) (fl2 _) ml5 FB FM rfl hM ([], 0) (by decide +kernel) Q (fun L hL => by rw [hL]; exact hq)
theorem Z1ep (hM : FM = jW.moves.map mvD) (hq : Q (RA.ret (.tup [.v (.bool false), I 0])) []) : CallA Tryz.prog 26 [.agg [I 3, .sl 1 FB, .sl 5 FM]] [] Q :=
 Zty jW (fl2 _) (ml6 _) FB FM rfl hM false (by decide +kernel) 0 (by decide +kernel) Q hq
theorem Z1ea (j : Jn) (hf : j.first.length <= 1152921504606846976) (hm : j.moves.length <= 1152921504606846976) (n : Int) (hn : n = Zr j) (FL ML : List D) (hF : FL = j.first.map Zv) (hM : ML = j.moves.map mvD) (hq : Q (RA.ret (I n)) []) : CallA Tryz.prog 11 [.agg [I j.ins, .sl 1 FL, .sl 5 ML]] [] Q :=
 bCheck j hf hm FL ML hF hM n hn Q hq
end
def shX : Bn.Sh := ⟨2, [⟨3, 0, [⟨0, 1, 1⟩]⟩, ⟨0, 0, [⟨1, 1, 1⟩]⟩]⟩
theorem Z1gi : Bn.ShopOk shX := ⟨by decide, by decide, ⟨by decide, by decide⟩⟩
theorem plX : Bn.PlanOk shX [0, 1] := ⟨by decide, by decide, by decide⟩
theorem runX : (Bn.sortB (Bn.runS shX Bn.mo0 [0, 1])).map outM = [⟨2, 1, 1, 1, 1⟩, ⟨2, 0, 0, 1, 1⟩] := by decide +kernel
theorem Z1gj : ∀ x ∈ Bn.runS shX Bn.mo0 [0, 1], 0 <= x.b /\ x.b < (2 : Nat) /\ 0 <= x.t /\ x.t < 3 := by decide +kernel
theorem Z1gk : ∀ x ∈ Bn.runS shX Bn.mo0 [0, 1], 0 <= x.bh /\ x.bh <= 1000 := by decide +kernel
theorem Z1f2 (FM : List D) (Q) (hM : FM = (jnF []).moves.map mvD) (hq : ∀ M, M = (jnF [⟨2, 1, 1, 1, 1⟩, ⟨2, 0, 0, 1, 1⟩]).moves.map mvD -> Q (RA.ret (.tup [.agg [I 3, .sl 1 FB, .sl 5 M], I 0])) []) :
  CallA Tryz.prog 28 [.agg [I 3, .sl 1 FB, .sl 5 FM], .agg [I 2, .sl 3 (shX.tasks.map Bn.taskD)], .sl 1 [I 0, I 1]] [] Q :=
 Z19g (jnF []) (Z2r ex0) 3 rfl FB FM rfl hM shX Z1gi 2 rfl [0, 1] plX _ _ rfl rfl Z1gj Z1gk (by decide) Q (fun M h => hq M (by rw [h, runX]; rfl))
end Go.Proofs.YthljpccegkmdnaaGreatDoor
