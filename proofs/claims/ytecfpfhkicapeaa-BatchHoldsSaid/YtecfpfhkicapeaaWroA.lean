/- Part WroA of the proofs about the benches of the accordion maker: see the last text of the claim for what is proved. -/
import Derived.Test.YtecfpfhkicapeaaRefB
import Derived.Test.YtecfpfhkicapeaaFewA
import Derived.Test.YtecfpfhkicapeaaBatG
import Derived.Test.YtecfpfhkicapeaaBatJ
set_option linter.unusedVariables false
set_option linter.unusedSimpArgs false
set_option linter.unnecessarySimpa false
set_option linter.constructorNameAsVariable false

namespace Go.Proofs.Ytecfpfhkicapeaa
open Go Go.Abs Go.Proofs Go.Batch
end Go.Proofs.Ytecfpfhkicapeaa

namespace Go.Proofs.Ytecfpfhkicapeaa
open Go Go.Abs Go.Proofs Go.Batch
section
variable {P : Program} {T : TT} {r : Option Nat} {m : Nat}
theorem Zau {S : Stop} (hS : S = Zo P r m) {ops : Array Oper} {Q : AX -> St -> Prop} {s : St} {i : Nat} {l : List Nat} {o oj : Oper} {j t : Nat} {want : Bool}
  (hoi : ops[i]? = some o) (hd : Z36 s.nt o.dst = true) (hg : o.guard = some (j, want)) (hj : ops[j]? = some oj) (hjd : oj.dst = some t) (hb : Z1c s.env t = some (.tup []))
  (hno : OpsA P r m ops Q l (s.step o.dst (.tup []) s.H s.dfs)) : S.ops ops Q (i :: l) s := by
 subst hS;refine Z3k hoi hd ?_;simp only [Zh, hg, hj, hjd, hb];exact hno
end
theorem Zxb {A : Ar} (hA : A = ar) (x : Int) : A.cmp .eql x x = true := by subst hA; simp [ar, Z25]
set_option maxRecDepth 20000 in
set_option maxHeartbeats 2000000 in
theorem Zxc (j : Jn) (FL ML : List D) (hF : FL = j.first.map Zv) (hM : ML = j.moves.map mvD) (Q) (hq : ∀ b, (b = false -> j.first.length <= 20 /\ j.moves.length <= 20) -> Q (RA.ret (.v (.bool b))) []) :
  CallA Try.prog 16 [.agg [I j.ins, .sl 1 FL, .sl 5 ML]] [] Q := by
 obtain ⟨A, hA⟩ : ∃ A, A = ar := ⟨_, rfl⟩;have hFl : FL.length = j.first.length := by rw [hF]; simp
 have hMl : ML.length = j.moves.length := by rw [hM]; simp
 have h1 := fun c => Zhd (x := 20) hA hFl c;have h2 := fun c => Zhd (x := 20) hA hMl c;have h3 : A.cmp .leq (A.oi (A.len ML)) 10 = true -> j.moves.length <= 1000 := fun c => by rw [Z5a hA hMl] at c; have := xle hA c; omega
 have hz1 := hq true (fun h => Bool.noConfusion h);have hz0 : A.cmp .gtr (A.oi (A.len FL)) 20 = false -> A.cmp .gtr (A.oi (A.len ML)) 20 = false -> ∀ b, Q (RA.ret (.v (.bool b))) [] := fun c c' b => hq b fun _ => by
  have := h1 c; have := h2 c'; omega
 refine Z5 Z0 hA Try.func16 rfl rfl rfl rfl rfl fun S hS => ?_;cbv;refine bm (fun c1 => ?_) (fun c1 => ?_)
 ·cbv;refine Zau hS rfl rfl rfl rfl rfl rfl ?_;refine Z3 Z0 hA hS ?_;cbv;exact Z2 [] (by decide) Z9 (H' := []) (d' := .v (.bool true)) trivial rfl (Z1 hz1)
 ·cbv;refine bm (fun c2 => ?_) (fun c2 => ?_)
  ·cbv;refine Zau hS rfl rfl rfl rfl rfl rfl ?_;refine Z3 Z0 hA hS ?_;cbv;exact Z2 [] (by decide) Z9 (H' := []) (d' := .v (.bool true)) trivial rfl (Z1 hz1)
  ·have hz := hz0 c1 c2;cbv;refine bm (fun c3 => ?_) (fun c3 => ?_)
   ·cbv;refine Zg hS (b := true) rfl rfl rfl rfl rfl rfl rfl rfl (fun _ => ⟨[], _, [.agg [I j.ins, .sl 1 FL, .sl 5 ML]], [], [], rfl, rfl, rfl, by decide, trivial, Zvs j (h3 c3) FL ML hM _ fun CL hCL => ?_⟩) (fun e => absurd rfl e);refine Z3 Z0 hA hS ?_;cbv;exact Z2 [] (by decide) Z9 (H' := []) (d' := .v (.bool (A.cmp .gtr (A.oi (A.len CL)) 4))) trivial rfl (Z1 (hz _))
   ·cbv;refine Zg (f := 0) hS rfl rfl rfl rfl rfl rfl rfl rfl (fun e => Bool.noConfusion e) (fun _ => ?_);refine Z3 Z0 hA hS ?_;cbv;exact Z2 [] (by decide) Z9 (H' := []) (d' := .v (.bool false)) trivial rfl (Z1 (hz _))
set_option maxRecDepth 20000 in
set_option maxHeartbeats 4000000 in
theorem Zgg (j : Jn) (FL ML : List D) (hF : FL = j.first.map Zv) (hM : ML = j.moves.map mvD) (hf20 : j.first.length <= 1000000) (hm20 : j.moves.length <= 1000000) (Q) (hq : Q (RA.ret (.v (.bool true))) []) :
  CallA Try.prog 26 [.agg [I j.ins, .sl 1 FL, .sl 5 ML], .agg [I j.ins, .sl 1 FL, .sl 5 ML]] [] Q := by
 obtain ⟨A, hA⟩ : ∃ A, A = ar := ⟨_, rfl⟩;obtain ⟨N, hN⟩ : ∃ N, N = j.first.length := ⟨_, rfl⟩;obtain ⟨W, hW⟩ : ∃ W, W = j.moves.length := ⟨_, rfl⟩;have hFl : FL.length = N := by rw [hF, hN]; simp
 have hMl : ML.length = W := by rw [hM, hW]; simp
 have e1 := Zxb hA j.ins;have e2 := Zxb hA (A.oi (A.len FL));have e3 := Zxb hA (A.oi (A.len ML));refine Z38 Z0 hA [1] Try.func26 rfl rfl rfl rfl rfl fun S hS => ?_;cbv;refine Zch hS { env := [(2, .b 0 0), (3, .b 1 0), (5, .v (.bool true))], H := [.box (.agg [I j.ins, .sl 1 FL, .sl 5 ML]), .box (.agg [I j.ins, .sl 1 FL, .sl 5 ML])], nt := 74, dfs := [] } ?_ ?_
 ·refine Z4j Z0 hA hS [0, 1, 2, 3, 4] [5, 6, 7, 8, 9, 10, 11, 12, 13, 14, 15, 16, 17, 18, 19, 20, 21, 22, 23] rfl ?_;cbv;refine Zis Z0 hA hS 12 (.v (.bool true)) rfl (congrArg (fun b => D.v (.bool b)) e1) [5, 6, 7, 8, 9, 10, 11, 12] [13, 14, 15, 16, 17, 18, 19, 20, 21, 22, 23] ?_;cbv;refine Zis Z0 hA hS 20 (.v (.bool true)) rfl (congrArg (fun b => D.v (.bool b)) e2) [13, 14, 15, 16, 17, 18, 19, 20, 21] [22, 23] ?_;cbv;refine Zis Z0 hA hS 29 (.v (.bool true)) rfl (congrArg (fun b => D.v (.bool b)) e3) [22, 23] [] ?_;cbv;refine Zii hS (Z3 Z0 hA hS ?_);cbv;exact Zf [0, 1] ⟨by decide, Z9, ⟨rfl, rfl, trivial⟩, ⟨rfl, rfl, rfl, trivial⟩, rfl, rfl⟩
 cbv;refine Zb hS ?_;refine Za (α := Int × Nat) (fun q => { env := [(2, .b 0 0), (3, .b 1 0), (5, .v (.bool true)), (6, I q.1)], H := [.box (.agg [I j.ins, .sl 1 FL, .sl 5 ML]), .box (.agg [I j.ins, .sl 1 FL, .sl 5 ML])], nt := 74, dfs := [] })
  (fun q => N - q.2) (fun q => q.2 <= N /\ IsI q.1 q.2) (0, 0) ⟨Nat.zero_le _, ⟨rfl⟩⟩ ?_ ?_
 ·exact Zf [0, 1] ⟨by decide, Z9, ⟨rfl, rfl, trivial⟩, ⟨rfl, rfl, rfl, rfl, trivial⟩, rfl, rfl⟩
 rintro ⟨i, k⟩ ⟨u1, u2⟩;dsimp only at u1 u2;refine Z2w Z0 hA hS [] ?_;cbv;refine bm (fun c => ?_) (fun c => ?_)
 ·have hk : k < N := Z31 hA hFl u2 c;obtain ⟨x, hx⟩ : ∃ x, j.first[k]? = some x := ⟨_, List.getElem?_eq_getElem (by omega)⟩;have hbq : A.beq x x = true := by subst hA; cases x <;> rfl
  have hFk : FL[k]? = some (.v (.bool x)) := by rw [hF, List.getElem?_map, hx]; rfl
  have hin := Z1b hA hFl u2 hk;have hg := Z18 hA u2 hFk;have hf := Zy hA u2 (by omega);have hu2 := Zz hA u2;have hms : N - (k + 1) < N - k := by omega
  cbv;refine Z5j Z0 hA hS [10] [0, 1, 2, 3, 4, 5, 6, 7, 8, 9, 10, 11] rfl rfl fun Dk hD => ?_;cbv;refine ⟨hin, ⟨_, hg, ?_⟩⟩;cbv;refine ⟨hin, ⟨_, hg, ?_⟩⟩;cbv;refine Z9n Z0 hA hD [] (.v (.bool true)) rfl rfl rfl rfl rfl rfl (congrArg (fun b => D.v (.bool b)) hbq) ?_;cbv;refine ⟨hf, ?_⟩;refine Z8 (A.add i 1, k + 1) [0, 1] ⟨hk, hu2⟩ hms ?_;exact ⟨by decide, Z9, ⟨rfl, rfl, trivial⟩, ⟨rfl, rfl, rfl, rfl, trivial⟩, rfl, rfl⟩
 cbv;refine Z7 ?_;cbv;refine Zb hS ?_;refine Za (α := Int × Nat) (fun q => { env := [(2, .b 0 0), (3, .b 1 0), (5, .v (.bool true)), (7, I q.1)], H := [.box (.agg [I j.ins, .sl 1 FL, .sl 5 ML]), .box (.agg [I j.ins, .sl 1 FL, .sl 5 ML])], nt := 74, dfs := [] })
  (fun q => W - q.2) (fun q => q.2 <= W /\ IsI q.1 q.2) (0, 0) ⟨Nat.zero_le _, ⟨rfl⟩⟩ ?_ ?_
 ·exact Zf [0, 1] ⟨by decide, Z9, ⟨rfl, rfl, trivial⟩, ⟨rfl, rfl, rfl, rfl, trivial⟩, rfl, rfl⟩
 clear u1 u2 c;rintro ⟨i, k⟩ ⟨u1, u2⟩;dsimp only at u1 u2;refine Z2w Z0 hA hS [] ?_;cbv;refine bm (fun c => ?_) (fun c => ?_)
 ·have hk : k < W := Z31 hA hMl u2 c;obtain ⟨m, hm⟩ : ∃ m, j.moves[k]? = some m := ⟨_, List.getElem?_eq_getElem (by omega)⟩;have hMk : ML[k]? = some (.agg [I m.kind, I m.bin, I m.inst, I m.lo, I m.hi]) := by rw [hM, List.getElem?_map, hm]; rfl
  have hin := Z1b hA hMl u2 hk;have hg := Z18 hA u2 hMk;have hf := Zy hA u2 (by omega);have hu2 := Zz hA u2;have hms : W - (k + 1) < W - k := by omega
  have hl1 : A.leq [m.kind, m.bin, m.inst, m.lo, m.hi] [m.kind, m.bin, m.inst, m.lo, m.hi] = true := by subst hA; simp [ar]
  cbv;refine Z5j Z0 hA hS [10] [0, 1, 2, 3, 4, 5, 6, 7, 8, 9, 10, 11] rfl rfl fun Dk hD => ?_;cbv;refine ⟨hin, ⟨_, hg, ?_⟩⟩;cbv;refine ⟨hin, ⟨_, hg, ?_⟩⟩;cbv;refine Z9n Z0 hA hD [] (.v (.bool true)) rfl rfl rfl rfl rfl rfl ⟨[m.kind, m.bin, m.inst, m.lo, m.hi], [m.kind, m.bin, m.inst, m.lo, m.hi], rfl, rfl, rfl, rfl, congrArg (fun b => D.v (.bool b)) hl1⟩ ?_;cbv;refine ⟨hf, ?_⟩;refine Z8 (A.add i 1, k + 1) [0, 1] ⟨hk, hu2⟩ hms ?_;exact ⟨by decide, Z9, ⟨rfl, rfl, trivial⟩, ⟨rfl, rfl, rfl, rfl, trivial⟩, rfl, rfl⟩
 ·cbv;refine Z7 ?_;cbv;exact Z2 [] (by decide) Z9 (H' := []) (d' := .v (.bool true)) trivial rfl (Z1 hq)
end Go.Proofs.Ytecfpfhkicapeaa
