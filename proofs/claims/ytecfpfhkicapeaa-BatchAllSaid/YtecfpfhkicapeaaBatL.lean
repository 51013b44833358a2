/- Part BatL of the proofs about the benches of the accordion maker: see the last text of the claim for what is proved. -/
import Derived.Test.YtecfpfhkicapeaaBatJ
import Derived.Test.YtecfpfhkicapeaaSaysE
set_option linter.unusedVariables false
set_option linter.unusedSimpArgs false
set_option linter.unnecessarySimpa false
set_option linter.constructorNameAsVariable false

namespace Go.Proofs.Ytecfpfhkicapeaa
open Go Go.Abs Go.Proofs Go.Batch
set_option maxRecDepth 20000 in
set_option maxHeartbeats 4000000 in
theorem Ztc (j : Jn) (hf : j.first.length <= 1152921504606846976) (hm : j.moves.length <= 1152921504606846976) (FL ML : List D) (hF : FL = j.first.map Zv) (hM : ML = j.moves.map mvD) (Q)
  (he : ∀ e, e = checkJ j -> e ≠ 0 -> Q (RA.ret (.tup [.v (.slice none 0 0), I e])) []) (hp : JOk j -> Zc j = false -> Q (RA.ret (.tup [.v (.slice none 0 0), I 9])) [])
  (hq : JOk j -> Zc j = true -> ∀ L, L = (Z6g j).map rgD -> Q (RA.ret (.tup [.sl 2 L, I 0])) []) :
  CallA Try.prog 46 [.agg [I j.ins, .sl 1 FL, .sl 5 ML]] [] Q := by
 obtain ⟨A, hA⟩ : ∃ A, A = ar := ⟨_, rfl⟩;have hFl : FL.length = j.first.length := by rw [hF, List.length_map]
 refine Z5 Z0 hA Try.func46 rfl rfl rfl rfl rfl fun S hS => ?_;cbv;refine Z4 hS [.agg [I j.ins, .sl 1 FL, .sl 5 ML], .fn 81 []] [] [] rfl rfl rfl rfl rfl rfl rfl rfl (by decide) trivial (Zdj j hf hm Zn 81 [] Z73 FL ML hF hM _ (fun e1 he1 hne => ?_) (fun hj ents hme hne => ?_) (fun hj h0 => ?_))
 ·have hz := he e1 he1 hne;have hc : A.cmp .neq e1 0 = true := by subst hA; simpa [ar, Z25] using hne
  refine Z3 Z0 hA hS ?_;cbv;refine bm (fun _ => ?_) (fun c => Bool.noConfusion (hc.symm.trans c));cbv;exact Z2 [] (by decide) Z9 (H' := []) (d' := .tup [.v (.slice none 0 0), I e1]) trivial rfl (Z1 hz)
 rotate_left
 ·have hz := hp hj (Z3y h0);have hc : A.cmp .neq 9 0 = true := by subst hA; rfl
  refine Z3 Z0 hA hS ?_;cbv;refine bmT hc ?_;cbv;exact Z2 [] (by decide) Z9 (H' := []) (d' := .tup [.v (.slice none 0 0), I 9]) trivial rfl (Z1 hz)
 have hf2 := hj.f2;have hm10 := hj.m10;have hst : Zc j = true := (Z28 j Zn).2 hne;have hq := fun L hL => hq hj hst L hL;have hc : A.cmp .neq 0 0 = false := by subst hA; rfl
 have hsok : ∀ s ∈ Zd j Zn 0, StOk s := fun s hs => by rw [<- Z66] at hs; exact Z8s Zfo hj _ s hs
 obtain ⟨N, hN⟩ : ∃ N, N = j.first.length := ⟨_, rfl⟩;rw [<- hN] at hFl hf2;obtain ⟨g, hg⟩ : ∃ g : Nat -> Int × Int, g = fun n : Nat => Zs ((Zd j Zn 0).map fun s => inL n (Z6 j.moves) s.1) := ⟨_, rfl⟩;have hrest : Z74 g N = (Z6g j).map rgD := by rw [Z74, hg, hN]; rfl
 refine Z3 Z0 hA hS ?_;cbv;refine bmF hc ?_;cbv;refine Z4 hS [.agg [I j.ins, .sl 1 FL, .sl 5 ML], .fn 81 []] [] [] rfl rfl rfl rfl rfl rfl rfl rfl (by decide) trivial (Zhe j (by omega) FL ML hM 81 [] (.inl rfl) _ fun BL hBL => ?_);refine Z3 Z0 hA hS ?_;cbv;refine Zb hS ?_;refine Za (α := Int × Nat × List D) (fun q => { env := [(4, .mv 0), (6, .cb (.agg [I j.ins, .sl 1 FL, .sl 5 ML, .sl 1 BL, .fn 81 []]) 0), (7, .o 1 2 q.2.1), (21, I (A.oi (A.len FL))), (22, I q.1)], H := [.ob (.mp 5 ents), .els 2 q.2.2], nt := 33, dfs := [] })
  (fun q => N - q.2.1) (fun q => q.2.1 <= N /\ IsI q.1 q.2.1 /\ q.2.2 = Z74 g q.2.1) (0, 0, []) ⟨Nat.zero_le _, ⟨rfl⟩, rfl⟩ ?_ ?_
 ·refine Z1a hA [2] ?_;cbv;refine Z2a 7 2 rfl ?_;exact Zf [1, 3] ⟨by decide, Z9, ⟨rfl, rfl, trivial⟩, ⟨rfl, rfl, rfl, rfl, rfl, trivial⟩, rfl, rfl⟩
 rintro ⟨i, k, L⟩ ⟨u1, u2, u3⟩;dsimp only at u1 u2 u3;have hLl : L.length = k := by rw [u3]; simp [Z74]
 have hsu := Zao g k;obtain ⟨lo, hlo⟩ : ∃ lo, lo = (g k).1 := ⟨_, rfl⟩;obtain ⟨hi, hhi⟩ : ∃ hi, hi = (g k).2 := ⟨_, rfl⟩;rw [<- hlo, <- hhi] at hsu;have hie := u2.eq;have hlo' : lo = (Zs ((Zd j Zn 0).map fun s => inL i (Z6 j.moves) s.1)).1 := by rw [hlo, hg, hie]
 have hhi' : hi = (Zs ((Zd j Zn 0).map fun s => inL i (Z6 j.moves) s.1)).2 := by rw [hhi, hg, hie]
 have hk6 : k <= 1000000 := by omega
 have hnum := Zvi j.ins (Z6 j.moves) hj.b4 i FL ML BL hBL 81 [] (.inl rfl);refine Zi Z0 hA hS ?_;cbv;refine bm (fun c => ?_) (fun c => ?_)
 ·have hk : k < N := Z31 hA hFl u2 c;have hf1 := Zy hA u2 (by omega);have hu2 := Zz hA u2;have hms : N - (k + 1) < N - k := by omega
  have hL2 : A.app L [.agg [I lo, I hi]] = Z74 g (k + 1) := by rw [Z33 hA, hsu, u3]
  have hn2 : A.addN k 1 = k + 1 := Z2e hA _ _;cbv;refine Z26 hS (Z1a hA [2] ?_);cbv;refine Z7 ?_;refine Z4 hS [.mv 0, .fn 102 [.cb (.agg [I j.ins, .sl 1 FL, .sl 5 ML, .sl 1 BL, .fn 81 []]) 0, .cb (I i) 0]] [0] [.ob (.mp 5 ents)] rfl rfl rfl rfl rfl rfl rfl rfl (by decide) ⟨rfl, trivial⟩ (Zcu ents _ hme hne hsok 102 _ _ hnum lo hi hlo' hhi' _ ?_);refine Z3 Z0 hA hS ?_;cbv;refine ⟨Ze hA hLl, Ze hA rfl, Z27 hA hk6 (by decide), hf1, ?_⟩;refine Z8 (A.add i 1, k + 1, A.app L [.agg [I lo, I hi]]) [0, 4] ⟨hk, hu2, hL2⟩ hms ?_;exact ⟨by decide, Z9, ⟨rfl, rfl, trivial⟩, ⟨rfl, rfl, by rw [<- hn2]; rfl, rfl, rfl, trivial⟩, rfl, rfl⟩
 ·have hk : k = N := by have := Z21 hA hFl u2 c; omega
  have hz2 := hq L (by rw [u3, hk, hrest]);cbv;refine Z7 ?_;cbv;refine Z1w [1] ?_;cbv;exact ⟨by cases L <;> exact hLl.symm, Z2 [] (by decide) Z9 (H' := []) (d' := .tup [.sl 2 L, I 0]) trivial rfl (Z1 hz2)⟩
theorem Zyh (j : Jn) (hj : JOk j) (hst : Zc j = true) (FL ML : List D) (hF : FL = j.first.map Zv) (hM : ML = j.moves.map mvD) (Q) (hq : ∀ L, L = (Z6g j).map rgD -> Q (RA.ret (.tup [.sl 2 L, I 0])) []) :
  CallA Try.prog 46 [.agg [I j.ins, .sl 1 FL, .sl 5 ML]] [] Q :=
 Ztc j (lim (by have := hj.f2; omega)) (lim (by have := hj.m10; omega)) FL ML hF hM Q (fun e h1 h2 => Z77 (Z81 hj) h1 h2) (fun _ g => Z7p hst g) (fun _ _ => hq)
section
variable {j : Jn} {ins : Int} {N n m : Nat} {FL ML : List D}
theorem MdJ.left (h : MdJ j ins N n m FL ML) (Q) (hq : ∀ L, L = (Z6g j).map rgD -> Q (RA.ret (.tup [.sl 2 L, I 0])) []) : CallA Try.prog 46 [.agg [I ins, .sl 1 FL, .sl 5 ML]] [] Q := by
 have e := h.ie;subst e;exact Zyh j h.ok h.st FL ML h.F h.M Q hq
theorem MdJ.wrong (h : MdJ j ins N n m FL ML) (Q) (hq : Q (RA.ret (.tup [.sl 1 [], I 0])) []) : CallA Try.prog 23 [.agg [I ins, .sl 1 FL, .sl 5 ML]] [] Q := by
 have e := h.ie;subst e;obtain ⟨w1, w2⟩ := Zkw h.st;exact Zt2 j h.fl h.ml FL ML h.F h.M Q (fun e h1 h2 => Z77 h.c0 h1 h2) (fun _ g => by rw [w2] at g; cases g) (fun _ _ c hc L hL => by
  rw [w1] at hc; cases hc
  subst hL; exact hq)
end
end Go.Proofs.Ytecfpfhkicapeaa
