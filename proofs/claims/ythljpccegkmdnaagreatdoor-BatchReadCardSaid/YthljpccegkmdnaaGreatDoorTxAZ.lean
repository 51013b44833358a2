/- Part TxAZ of the proofs about the benches of the accordion maker: see the last text of the claim for what is proved. -/
import Derived.Test.YthljpccegkmdnaaGreatDoorTxAY
import Derived.Test.YthljpccegkmdnaaGreatDoorTxAO
import Derived.Test.YthljpccegkmdnaaGreatDoorTxAL
set_option linter.unusedVariables false
set_option linter.unusedSimpArgs false
set_option linter.unnecessarySimpa false
set_option linter.constructorNameAsVariable false

namespace Go.Abs
open Go
section
variable {P : Program} {T : TT} {r : Option Nat} {m : Nat} {ops : Array Oper} {Q : AX -> St -> Prop} {s : St}
theorem Zn8 {i : Nat} {l : List Nat} {o : Oper} (ho : ops[i]? = some o) (hd : Z36 s.nt o.dst = true) (hg : o.guard = none)
  (h : OpA P r o s (fun d H' ds => OpsA P r m ops Q l (s.step o.dst d H' ds)) (fun d H' => Q (.pan d) { s with H := H' })) : OpsA P r m ops Q (i :: l) s := by
 refine ⟨fun F μ a w h1 => ?_⟩;simp only [wpOpsIn, ho];have hw : Region.wanted o (yielded ops a.tmps) = true := by unfold Region.wanted; rw [hg]
 rw [if_pos hw];refine ⟨fun _ _ => trivial, h.out F μ a w h1.hr h1.er _ _ (fun F' μ' H' w' ds dv d v q1 qd q2 q3 => ?_) (fun F' μ' H' w' d v q1 q2 q3 => ?_)⟩
 ·have h2 := h1.step (ds := ds) q1 qd q2 hd;refine Z3u ?_ _ _ _ (q3.out F' μ' _ w' h2);exact fun e a w hq => hq.trans q1.post (q1.keep h1.len)
 ·exact ⟨F', μ', { s with H := H' }, .pan d, q1.post, q1.keep h1.len, ⟨q1.hr, ⟨fun t x ht => let ⟨u, g1, g2⟩ := h1.er.env t x ht; ⟨u, g1, q1.vr h1.hr g2⟩, h1.er.nt, q1.adr h1.hr h1.er.dfs⟩,
   Nat.le_trans h1.len q1.len⟩, ⟨v, rfl, q2⟩, q3⟩
theorem Zqc {S : Stop} (hS : S = Zo P r m) {i : Nat} {l : List Nat} {o : Oper} {c : Call} {fo : Operand} {f : FuncId} {caps as0 : List D} (as' : List D) (ix : List Nat) (Hf : List Blk)
  (hoi : ops[i]? = some o) (hd : Z36 s.nt o.dst = true) (hg : o.guard = none) (ho : o.op = .call c) (hc : c.callee = .value fo) (hfo : evo s.env fo = some (.fn f caps)) (has : Z34 (c.args.toList.map (evo s.env)) = some as0)
  (hren : renL (rho ix s.H.length) as' = as0 ++ caps) (hnd : ix.Nodup) (hl : Z62 (rho ix s.H.length) s.H ix Hf)
  (h : CallA P f as' Hf (fun x Hf' => match x with | .ret d => OpsA P r m ops Q l (s.step o.dst (renD (rho ix s.H.length) d) (Z10 s.H ix Hf') s.dfs) | .pan d => Q (.pan (renD (rho ix s.H.length) d)) { s with H := Z10 s.H ix Hf' })) : S.ops ops Q (i :: l) s := by
 subst hS;refine Zn8 hoi hd hg ?_;refine Z7t ho hc hfo has hren hnd hl ⟨h.fn, fun F μ vs w h1 h2 h3 => CallsIn.mono (h.out F μ vs w h1 h2 h3) fun e w' he => ?_⟩
 cases e with
 | returned v => exact he
 | panicked ch => exact he
 | outgrown => exact he.elim
end
end Go.Abs
namespace Go.Proofs.YthljpccegkmdnaaGreatDoor
open Go Go.Abs Go.Proofs Go.Batch
theorem Zsq (ents : List (List Int × D)) (Q) (hq : Q [.box (.mv 2), .box (.v (.bool true)), .ob (.mp 5 ents)]) : CallD Tryz.prog 114 [.b 0 0, .b 1 0] [.box (.mv 2), .box (.v (.bool true)), .ob (.mp 5 ents)] none Q := by
 obtain ⟨A, hA⟩ : ∃ A, A = ar := ⟨_, rfl⟩;obtain ⟨S, hS⟩ : ∃ S, S = Zo Tryz.prog none 3 := ⟨_, rfl⟩;refine Zh5 Tryz.func114 rfl rfl rfl rfl rfl rfl rfl rfl rfl rfl rfl rfl _ rfl ?_;refine Zi Z0 hA hS ?_;cbv;exact hq
theorem Zsr (Q : List Blk -> Prop) (hq : ∀ B, Q [.box (.v (.map none)), .box (.v (.bool false)), B]) : CallD Tryz.prog 114 [.b 0 0, .b 1 0] [.box (.v (.map none)), .box (.v (.bool false))] (some (.ifc 175 (.agg []))) Q := by
 obtain ⟨A, hA⟩ : ∃ A, A = ar := ⟨_, rfl⟩;obtain ⟨S, hS⟩ : ∃ S, S = Zo Tryz.prog none 2 := ⟨_, rfl⟩;refine Zh5 Tryz.func114 rfl rfl rfl rfl rfl rfl rfl rfl rfl rfl rfl rfl _ rfl ?_;have hbn : A.bnot true = false := by subst hA; rfl
 refine Zi Z0 hA hS ?_;cbv;refine bm (fun c => Bool.noConfusion (hbn.symm.trans c)) (fun _ => ?_);cbv;exact hq _
set_option maxRecDepth 20000 in
set_option maxHeartbeats 4000000 in
theorem Zan (j : Jn) (hj : JOk j) (tk : Tk Int) (f : FuncId) (caps : List D) (ht : TookOk f caps tk) (FL ML : List D) (hF : FL = j.first.map Zv) (hM : ML = j.moves.map mvD) (Q)
  (hq : ∀ ents, MapOk ents (Zd j tk 0) -> Zd j tk 0 ≠ [] -> Q (RA.ret (.tup [.mv 0, .v (.bool true)])) [.ob (.mp 5 ents)]) (hp : Zd j tk 0 = [] -> Q (RA.ret (.tup [.v (.map none), .v (.bool false)])) []) :
  CallA Tryz.prog 57 [.agg [I j.ins, .sl 1 FL, .sl 5 ML], .fn f caps] [] Q := by
 obtain ⟨A, hA⟩ : ∃ A, A = ar := ⟨_, rfl⟩;have hm10 := hj.m10;have hop := fun Q => Zhe j (by omega) FL ML hM f caps ht.cp Q;have hen := fun BL hB Q => Zy9 j hj tk f caps ht FL ML BL hF hM hB Q;have hcaps := ht.cp;clear ht;rcases hcaps with rfl | ⟨cx, rfl⟩ | ⟨cx, cy, rfl⟩
 all_goals
  refine Zcb (Zki Z0 Tryz.func57 rfl rfl rfl ?_);obtain ⟨S, hS⟩ : ∃ S, S = Zo Tryz.prog none 0 := ⟨_, rfl⟩;refine Zi Z0 hA hS ?_;cbv;refine Z2g hS rfl rfl rfl (Zpz rfl rfl rfl rfl ?_);refine Z3 Z0 hA hS ?_;cbv;refine Z4 hS [.agg [I j.ins, .sl 1 FL, .sl 5 ML], .fn f _] [] [] rfl rfl rfl rfl rfl rfl rfl rfl (by decide) trivial (hop _ fun BL hBL => ?_);refine Z3 Z0 hA hS ?_;cbv;refine Zqc hS [.agg [I j.ins, .sl 1 FL, .sl 5 ML, .sl 1 BL, .fn f _]] [] [] rfl rfl rfl rfl rfl rfl rfl rfl (by decide) trivial (hen BL hBL _ (fun ents hm hne => ?_) (fun h0 => ?_))
  ·have hq1 := hq ents hm hne;refine Z3 Z0 hA hS ?_;cbv;refine ⟨114, [.b 1 0, .b 2 0], [], [.b 0 0, .b 1 0], [1, 2, 3], [.box (.mv 2), .box (.v (.bool true)), .ob (.mp 5 ents)], rfl, rfl, by decide, ⟨rfl, rfl, rfl, trivial⟩, fun d h => (by cases h), Zsq ents _ ?_⟩;cbv;exact Z2 [3] (by decide) Z9 (H' := [.ob (.mp 5 ents)]) (d' := .tup [.mv 0, .v (.bool true)]) ⟨rfl, trivial⟩ rfl (Z1 hq1)
  ·have hp1 := hp h0;refine ⟨114, [.b 1 0, .b 2 0], [], [.b 0 0, .b 1 0], [1, 2], [.box (.v (.map none)), .box (.v (.bool false))], rfl, rfl, by decide, ⟨rfl, rfl, trivial⟩, fun d h => (by cases h; rfl), Zsr _ fun B => ?_⟩;cbv;exact Z2 [] (by decide) Z9 (H' := []) (d' := .tup [.v (.map none), .v (.bool false)]) trivial rfl (Z1 hp1)
end Go.Proofs.YthljpccegkmdnaaGreatDoor

namespace Go.Proofs.YthljpccegkmdnaaGreatDoor
open Go Go.Abs Go.Proofs Go.Batch
set_option maxRecDepth 20000 in
set_option maxHeartbeats 4000000 in
theorem Zdj (j : Jn) (hf : j.first.length <= 1152921504606846976) (hm : j.moves.length <= 1152921504606846976) (tk : Tk Int) (f : FuncId) (caps : List D) (ht : TookOk f caps tk) (FL ML : List D) (hF : FL = j.first.map Zv) (hM : ML = j.moves.map mvD) (Q)
  (he : ∀ e, e = Zr j -> e ≠ 0 -> Q (RA.ret (.tup [.v (.map none), I e])) [])
  (hq : JOk j -> ∀ ents, MapOk ents (Zd j tk 0) -> Zd j tk 0 ≠ [] -> Q (RA.ret (.tup [.mv 0, I 0])) [.ob (.mp 5 ents)]) (hp : JOk j -> Zd j tk 0 = [] -> Q (RA.ret (.tup [.v (.map none), I 9])) []) :
  CallA Tryz.prog 50 [.agg [I j.ins, .sl 1 FL, .sl 5 ML], .fn f caps] [] Q := by
 obtain ⟨A, hA⟩ : ∃ A, A = ar := ⟨_, rfl⟩;obtain ⟨e1, he1⟩ : ∃ e1, e1 = Zr j := ⟨_, rfl⟩;have hb1 : A.bnot true = false := by subst hA; rfl
 have hb0 : A.bnot false = true := by subst hA; rfl
 have hck := fun Q => bCheck j hf hm FL ML hF hM e1 he1 Q;have hst := fun hj Q => Zan j hj tk f caps ht FL ML hF hM Q;have hcaps := ht.cp;clear ht;rcases hcaps with rfl | ⟨cx, rfl⟩ | ⟨cx, cy, rfl⟩
 all_goals
  refine Z5 Z0 hA Tryz.func50 rfl rfl rfl rfl rfl fun S hS => ?_;cbv;refine Z4 hS [.agg [I j.ins, .sl 1 FL, .sl 5 ML]] [] [] rfl rfl rfl rfl rfl rfl rfl rfl (by decide) trivial (hck _ ?_);refine Z3 Z0 hA hS ?_;cbv;refine bm (fun c => ?_) (fun c => ?_)
  ·have hz := he e1 he1 (xne hA c);cbv;exact Z2 [] (by decide) Z9 (H' := []) (d' := .tup [.v (.map none), I e1]) trivial rfl (Z1 hz)
  have hj : JOk j := Z2r (he1.symm.trans (Z4t hA c));cbv;refine Z4 hS [.agg [I j.ins, .sl 1 FL, .sl 5 ML], .fn f _] [] [] rfl rfl rfl rfl rfl rfl rfl rfl (by decide) trivial (hst hj _ (fun ents hme hne => ?_) (fun h0 => ?_))
  ·have hz := hq hj ents hme hne;refine Z3 Z0 hA hS ?_;cbv;refine bm (fun c => Bool.noConfusion (hb1.symm.trans c)) (fun _ => ?_);cbv;exact Z2 [1] (by decide) Z9 (H' := [.ob (.mp 5 ents)]) (d' := .tup [.mv 0, I 0]) ⟨rfl, trivial⟩ rfl (Z1 hz)
  ·have hz := hp hj h0;refine Z3 Z0 hA hS ?_;cbv;refine bm (fun _ => ?_) (fun c => Bool.noConfusion (hb0.symm.trans c));cbv;exact Z2 [] (by decide) Z9 (H' := []) (d' := .tup [.v (.map none), I 9]) trivial rfl (Z1 hz)
theorem Z28 (j : Jn) (tk : Tk Int) : Zc j = true ↔ Zd j tk 0 ≠ [] := by
 unfold Zc;rw [Z1n Zn, Z1n tk]
 cases Zd j Z1f [] <;> simp
theorem Z3y {j : Jn} {tk : Tk Int} (h : Zd j tk 0 = []) : Zc j = false := by
 cases e : Zc j with
 | false => rfl
 | true => exact absurd h ((Z28 j tk).1 e)
def rgD (x : Int × Int) : D := .agg [I x.1, I x.2]
def Z74 (g : Nat -> Int × Int) (k : Nat) : List D := ((List.range k).map g).map rgD
theorem Zao (g : Nat -> Int × Int) (k : Nat) : Z74 g (k + 1) = Z74 g k ++ [.agg [I (g k).1, I (g k).2]] := by simp [Z74, List.range_succ, rgD]
set_option maxRecDepth 20000 in
set_option maxHeartbeats 4000000 in
theorem Zst (j : Jn) (hf : j.first.length <= 1152921504606846976) (hm : j.moves.length <= 1152921504606846976) (FL ML : List D) (hF : FL = j.first.map Zv) (hM : ML = j.moves.map mvD) (Q)
  (he : ∀ e, e = Zr j -> e ≠ 0 -> Q (RA.ret (.tup [.v (.slice none 0 0), I e])) []) (hp : JOk j -> Zc j = false -> Q (RA.ret (.tup [.v (.slice none 0 0), I 9])) [])
  (hq : JOk j -> Zc j = true -> ∀ L, L = (Z4c j).map rgD -> Q (RA.ret (.tup [.sl 2 L, I 0])) []) :
  CallA Tryz.prog 13 [.agg [I j.ins, .sl 1 FL, .sl 5 ML]] [] Q := by
 obtain ⟨A, hA⟩ : ∃ A, A = ar := ⟨_, rfl⟩;refine Z5 Z0 hA Tryz.func13 rfl rfl rfl rfl rfl fun S hS => ?_;cbv;refine Z4 hS [.agg [I j.ins, .sl 1 FL, .sl 5 ML], .fn 51 []] [] [] rfl rfl rfl rfl rfl rfl rfl rfl (by decide) trivial (Zdj j hf hm Zn 51 [] Z73 FL ML hF hM _ (fun e1 he1 hne => ?_) (fun hj ents hme hne => ?_) (fun hj h0 => ?_))
 ·have hz := he e1 he1 hne;have hc : A.cmp .neq e1 0 = true := by subst hA; simpa [ar, Z25] using hne
  refine Z3 Z0 hA hS ?_;cbv;refine bm (fun _ => ?_) (fun c => Bool.noConfusion (hc.symm.trans c));cbv;exact Z2 [] (by decide) Z9 (H' := []) (d' := .tup [.v (.slice none 0 0), I e1]) trivial rfl (Z1 hz)
 ·have hc : A.cmp .neq 0 0 = false := by subst hA; rfl
  have hsok : ∀ s ∈ Zd j Zn 0, StOk s := fun s hs => by rw [<- Z66] at hs; exact Z8s Zfo hj _ s hs
  obtain ⟨N, hN⟩ : ∃ N, N = (Z6 j.moves).length := ⟨_, rfl⟩;have hN4 : N <= 4 := by rw [hN]; exact hj.b4
  obtain ⟨g, hg⟩ : ∃ g : Nat -> Int × Int, g = fun i => Zs ((Zd j Zn 0).map fun s => s.1.getD i 0) := ⟨_, rfl⟩;have hz := fun L hL => hq hj ((Z28 j Zn).2 hne) L hL;have hrest : Z74 g N = (Z4c j).map rgD := by rw [Z74, hg, hN]; rfl
  refine Z3 Z0 hA hS ?_;cbv;refine bm (fun c => Bool.noConfusion (hc.symm.trans c)) (fun _ => ?_);cbv;refine Z4 hS [.agg [I j.ins, .sl 1 FL, .sl 5 ML], .fn 51 []] [] [] rfl rfl rfl rfl rfl rfl rfl rfl (by decide) trivial (Zhe j (by have := hj.m10; omega) FL ML hM 51 [] (.inl rfl) _ fun BL hBL => ?_);have hBl : BL.length = N := by rw [hBL, hN]; simp
  refine Z3 Z0 hA hS ?_;cbv;refine Zb hS ?_;refine Za (α := Int × Nat × List D) (fun q => { env := [(4, .mv 0), (6, .o 1 2 q.2.1), (19, I (A.oi (A.len BL))), (20, I q.1)], H := [.ob (.mp 5 ents), .els 2 q.2.2], nt := 31, dfs := [] })
   (fun q => N - q.2.1) (fun q => q.2.1 <= N /\ IsI q.1 q.2.1 /\ q.2.2 = Z74 g q.2.1) (0, 0, []) ⟨Nat.zero_le _, ⟨rfl⟩, rfl⟩ ?_ ?_
  ·refine Z2a 6 2 rfl ?_;exact Zf [1, 2] ⟨by decide, Z9, ⟨rfl, rfl, trivial⟩, ⟨rfl, rfl, rfl, rfl, trivial⟩, rfl, rfl⟩
  rintro ⟨i, k, L⟩ ⟨u1, u2, u3⟩;dsimp only at u1 u2 u3;have hLl : L.length = k := by rw [u3]; simp [Z74]
  have hsu := Zao g k;obtain ⟨lo, hlo⟩ : ∃ lo, lo = (g k).1 := ⟨_, rfl⟩;obtain ⟨hi, hhi⟩ : ∃ hi, hi = (g k).2 := ⟨_, rfl⟩;rw [<- hlo, <- hhi] at hsu;have hlo' : lo = (Zs ((Zd j Zn 0).map fun s => s.1.getD k 0)).1 := by rw [hlo, hg]
  have hhi' : hi = (Zs ((Zd j Zn 0).map fun s => s.1.getD k 0)).2 := by rw [hhi, hg]
  have hk6 : k <= 1000000 := by omega
  refine Zi Z0 hA hS ?_;cbv;refine bm (fun c => ?_) (fun c => ?_)
  ·have hk : k < N := Z31 hA hBl u2 c;have hf1 := Zy hA u2 (by omega);have hu2 := Zz hA u2;have hms : N - (k + 1) < N - k := by omega
   have hL2 : A.app L [.agg [I lo, I hi]] = Z74 g (k + 1) := by rw [Z33 hA, hsu, u3]
   have hn2 : A.addN k 1 = k + 1 := Z2e hA _ _;cbv;refine Z26 hS (Z1a hA [2] ?_);cbv;refine Z7 ?_;refine Z4 hS [.mv 0, .fn 56 [.cb (I i) 0]] [0] [.ob (.mp 5 ents)] rfl rfl rfl rfl rfl rfl rfl rfl (by decide) ⟨rfl, trivial⟩ (Zcu ents _ hme hne hsok 56 _ _ (Zvh k i u2 (by omega)) lo hi hlo' hhi' _ ?_);refine Z3 Z0 hA hS ?_;cbv;refine ⟨Ze hA hLl, Ze hA rfl, Z27 hA hk6 (by decide), hf1, ?_⟩;refine Z8 (A.add i 1, k + 1, A.app L [.agg [I lo, I hi]]) [0, 4] ⟨hk, hu2, hL2⟩ hms ?_;exact ⟨by decide, Z9, ⟨rfl, rfl, trivial⟩, ⟨rfl, by rw [<- hn2]; rfl, rfl, rfl, trivial⟩, rfl, rfl⟩
  ·have hk : k = N := by have := Z21 hA hBl u2 c; omega
   have hz2 := hz L (by rw [u3, hk, hrest]);cbv;refine Z7 ?_;cbv;refine Z1w [1] ?_;cbv;exact ⟨by cases L <;> exact hLl.symm, Z2 [] (by decide) Z9 (H' := []) (d' := .tup [.sl 2 L, I 0]) trivial rfl (Z1 hz2)⟩
 ·have hz := hp hj (Z3y h0);have hc : A.cmp .neq 9 0 = true := by subst hA; rfl
  refine Z3 Z0 hA hS ?_;cbv;refine bm (fun _ => ?_) (fun c => Bool.noConfusion (hc.symm.trans c));cbv;exact Z2 [] (by decide) Z9 (H' := []) (d' := .tup [.v (.slice none 0 0), I 9]) trivial rfl (Z1 hz)
end Go.Proofs.YthljpccegkmdnaaGreatDoor

namespace Go.Proofs.YthljpccegkmdnaaGreatDoor
open Go Go.Abs Go.Proofs Go.Batch
theorem Zor {x : Int} (h0 : 0 <= x) (h1 : x < 4611686018427387904) : (BitVec.ofInt 64 x).toNat = x.toNat := by
 rw [BitVec.toNat_ofInt];omega
theorem Zn9 {x y : Int} (hx0 : 0 <= x) (hx : x < 4611686018427387904) (hy0 : 0 <= y) (hy : y < 4611686018427387904) : ar.bits .and .i64 x y = Ziu x y := by
 show IntKind.i64.wrap (BitVec.ofInt 64 x &&& BitVec.ofInt 64 y).toNat = _;rw [BitVec.toNat_and, Zor hx0 hx, Zor hy0 hy];have : x.toNat &&& y.toNat <= x.toNat := Nat.and_le_left;exact Zdh ⟨by omega, by omega⟩
theorem Zwf {x y : Int} (hx0 : 0 <= x) (hx : x < 1048576) (hy0 : 0 <= y) (hy : y < 1048576) : ar.bits .or .i64 x y = ((x.toNat ||| y.toNat : Nat) : Int) := by
 show IntKind.i64.wrap (BitVec.ofInt 64 x ||| BitVec.ofInt 64 y).toNat = _;rw [BitVec.toNat_or, Zor hx0 (by omega), Zor hy0 (by omega)];have : x.toNat ||| y.toNat < 2 ^ 20 := Nat.or_lt_two_pow (by omega) (by omega)
 exact Zdh ⟨by omega, by omega⟩
theorem Zsu (y : Int) : ar.bits .and .i64 0 y = 0 := by
 show IntKind.i64.wrap (BitVec.ofInt 64 0 &&& BitVec.ofInt 64 y).toNat = _;have : BitVec.ofInt 64 0 = BitVec.ofNat 64 0 := rfl;rw [this, BitVec.zero_and]; rfl
theorem Zhi {n : Int} {k : Nat} (h : IsI n k) (hk : k < 4) : ar.shift .shl .i64 1 n = ((1 <<< k : Nat) : Int) := by
 have := h.eq;subst this
 match k, hk with
 | 0, _ => rfl
 | 1, _ => rfl
 | 2, _ => rfl
 | 3, _ => rfl
theorem Zos {k : Nat} (hk : k < 4) : (0 : Int) <= ((1 <<< k : Nat) : Int) /\ ((1 <<< k : Nat) : Int) <= 8 := by
 match k, hk with
 | 0, _ => decide
 | 1, _ => decide
 | 2, _ => decide
 | 3, _ => decide
theorem Zna (x n : Int) (k : Nat) (hx0 : 0 <= x) (hx : x <= 1000000) (hn : IsI n k) (hk : k < 4) (r : Int) (hr : r = Z2h x k) (Q) (hq : Q (RA.ret (I r)) []) : CallA Tryz.prog 65 [I x, I n] [] Q := by
 obtain ⟨A, hA⟩ : ∃ A, A = ar := ⟨_, rfl⟩;have hnn : A.nneg n := by subst hA; have := hn.eq; show 0 <= n; omega
 have hz : A.bits .or .i64 x (A.shift .shl .i64 1 n) = r := by
  subst hA;have := Zos hk;rw [Zhi hn hk, Zwf hx0 (by omega) (by omega) (by omega), hr, Z2h];rfl
 refine Z5 Z0 hA Tryz.func65 rfl rfl rfl rfl rfl fun S hS => ?_;cbv;refine ⟨hnn, ?_⟩;refine Z2 [] (by decide) Z9 (H' := []) (d' := I (A.bits .or .i64 x (A.shift .shl .i64 1 n))) trivial rfl (Z1 ?_);rw [hz]; exact hq
theorem Zvj (i0 : Int) : TookOk 64 [.cb (I i0) 0] (Z29 i0) := by
 refine ⟨.inr (.inl ⟨_, rfl⟩), Zol _, fun x i b bi n h1 h2 h3 h4 h5 h6 h7 h8 r hr Q hq => ?_⟩;obtain ⟨A, hA⟩ : ∃ A, A = ar := ⟨_, rfl⟩;have r1 : i = i0 -> r = Z2h x b := fun h => by rw [hr]; unfold Z29; rw [if_pos h]
 have r2 : i ≠ i0 -> r = x := fun h => by rw [hr]; unfold Z29; rw [if_neg h]
 have hw := fun (h : r = Z2h x b) Q => Zna x bi b h3 (by omega) h1 h2 r h Q;refine Z5 Z0 hA Tryz.func64 rfl rfl rfl rfl rfl fun S hS => ?_;cbv;refine bm (fun c1 => ?_) (fun c1 => ?_)
 ·have hz := r1 (xeq hA c1);cbv;refine Z4 hS [I x, I bi] [] [] rfl rfl rfl rfl rfl rfl rfl rfl (by decide) trivial (hw hz _ ?_);refine Z3 Z0 hA hS ?_;cbv;exact Z2 [] (by decide) Z9 (H' := []) (d' := I r) trivial rfl (Z1 hq)
 ·have hz := r2 (Z2o hA c1);rw [hz] at hq;cbv;exact Z2 [] (by decide) Z9 (H' := []) (d' := I x) trivial rfl (Z1 hq)
theorem Zvk (bI : Int) (b0 : Nat) (hb : IsI bI b0) : TookOk 67 [.cb (I bI) 0] (Z9r b0) := by
 refine ⟨.inr (.inl ⟨_, rfl⟩), Zom _, fun x i b bi n h1 h2 h3 h4 h5 h6 h7 h8 r hr Q hq => ?_⟩;obtain ⟨A, hA⟩ : ∃ A, A = ar := ⟨_, rfl⟩;have hbb : bi = bI ↔ b = b0 := by have e1 := h1.eq; have e2 := hb.eq; omega
 have r1 : bi = bI -> r = Z2h x i.toNat := fun h => by rw [hr]; unfold Z9r; rw [if_pos (hbb.1 h)]
 have r2 : bi ≠ bI -> r = x := fun h => by rw [hr]; unfold Z9r; rw [if_neg (fun g => h (hbb.2 g))]
 have hw := fun (h : r = Z2h x i.toNat) Q => Zna x i i.toNat h3 (by omega) ⟨by omega⟩ (by omega) r h Q;refine Z5 Z0 hA Tryz.func67 rfl rfl rfl rfl rfl fun S hS => ?_;cbv;refine bm (fun c1 => ?_) (fun c1 => ?_)
 ·have hz := r1 (xeq hA c1);cbv;refine Z4 hS [I x, I i] [] [] rfl rfl rfl rfl rfl rfl rfl rfl (by decide) trivial (hw hz _ ?_);refine Z3 Z0 hA hS ?_;cbv;exact Z2 [] (by decide) Z9 (H' := []) (d' := I r) trivial rfl (Z1 hq)
 ·have hz := r2 (Z2o hA c1);rw [hz] at hq;cbv;exact Z2 [] (by decide) Z9 (H' := []) (d' := I x) trivial rfl (Z1 hq)
theorem Zvl : NumOk 66 [] (fun s => Z43 s.2) := by
 refine ⟨.inl rfl, fun s x0 x1 x2 x3 nt r h0 h1 h2 hr Q hq => ?_⟩;obtain ⟨A, hA⟩ : ∃ A, A = ar := ⟨_, rfl⟩;have n0 := h0.n0;have n1 := h0.n1;rw [h2] at n0 n1;have hfs : A.fits .i64 (A.sub nt 1) := Z14 hA (Z24 hA nt 1) (by omega);have hz : A.bits .and .i64 nt (A.sub nt 1) = r := by
  rw [hr, h2, Z24 hA];subst hA;unfold Z43
  by_cases h : nt <= 0
  ·rw [if_pos h];have e : nt = 0 := by omega
   subst e;exact Zsu _
  ·rw [if_neg h, Zn9 n0 (by omega) (by omega) (by omega), Ziu];have e : (nt - 1).toNat = nt.toNat - 1 := by omega
   rw [e]
 refine Z5 Z0 hA Tryz.func66 rfl rfl rfl rfl rfl fun S hS => ?_;cbv;refine ⟨hfs, ?_⟩;refine Z2 [] (by decide) Z9 (H' := []) (d' := I (A.bits .and .i64 nt (A.sub nt 1))) trivial rfl (Z1 ?_);rw [hz]; exact hq
def Z75 (g : Nat -> Int) (k : Nat) : List D := ((List.range k).map g).map I
theorem Zap (g : Nat -> Int) (k : Nat) : Z75 g (k + 1) = Z75 g k ++ [I (g k)] := by simp [Z75, List.range_succ]
set_option maxRecDepth 20000 in
set_option maxHeartbeats 4000000 in
theorem Zsv (j : Jn) (hf : j.first.length <= 1152921504606846976) (hm : j.moves.length <= 1152921504606846976) (FL ML : List D) (hF : FL = j.first.map Zv) (hM : ML = j.moves.map mvD) (Q)
  (he : ∀ e, e = Zr j -> e ≠ 0 -> Q (RA.ret (.tup [.v (.slice none 0 0), I e])) []) (hp : JOk j -> Zc j = false -> Q (RA.ret (.tup [.v (.slice none 0 0), I 9])) [])
  (hq : JOk j -> Zc j = true -> ∀ L, L = (Z6b j).map I -> Q (RA.ret (.tup [.sl 1 L, I 0])) []) :
  CallA Tryz.prog 23 [.agg [I j.ins, .sl 1 FL, .sl 5 ML]] [] Q := by
 obtain ⟨A, hA⟩ : ∃ A, A = ar := ⟨_, rfl⟩;obtain ⟨e1, he1⟩ : ∃ e1, e1 = Zr j := ⟨_, rfl⟩;refine Z5 Z0 hA Tryz.func23 rfl rfl rfl rfl rfl fun S hS => ?_;cbv;refine Z4 hS [.agg [I j.ins, .sl 1 FL, .sl 5 ML]] [] [] rfl rfl rfl rfl rfl rfl rfl rfl (by decide) trivial (bCheck j hf hm FL ML hF hM e1 he1 _ ?_);refine Z3 Z0 hA hS ?_;cbv;refine bm (fun c => ?_) (fun c => ?_)
 ·have hz := he e1 he1 (xne hA c);cbv;exact Z2 [] (by decide) Z9 (H' := []) (d' := .tup [.v (.slice none 0 0), I e1]) trivial rfl (Z1 hz)
 have hc0 : Zr j = 0 := he1.symm.trans (Z4t hA c);have hj : JOk j := Z2r hc0;have hi1 := hj.i1;have hi4 := hj.i4;obtain ⟨N, hN⟩ : ∃ N : Nat, IsI j.ins N := ⟨j.ins.toNat, ⟨by omega⟩⟩;have hN4 : N <= 4 := by have := hN.eq; omega
 obtain ⟨g, hg⟩ : ∃ g : Nat -> Int, g = fun i : Nat => Z2i (Zs ((Zd j (Z29 i) 0).map fun s => Z43 s.2)) := ⟨_, rfl⟩;have hmx : Z75 g N = (Z6b j).map I := by
  have : j.ins.toNat = N := by have := hN.eq; omega
  rw [Z75, hg, Z6b, this]
 have hz0 := fun (h : Zc j = true) L hL => hq hj h L hL;have hp0 := fun (h : Zc j = false) => hp hj h;have hcN : A.cmp .neq 9 0 = true := by subst hA; rfl
 have hc00 : A.cmp .neq 0 0 = false := by subst hA; rfl
 obtain ⟨insI, hins⟩ : ∃ z, z = j.ins := ⟨_, rfl⟩;cbv;refine Zb hS ?_;refine Za (α := Int × Nat × List D) (fun q => { env := [(1, .b 0 0), (5, .o 1 1 q.2.1), (15, I j.ins), (16, I q.1)], H := [.box (.agg [I j.ins, .sl 1 FL, .sl 5 ML]), .els 1 q.2.2], nt := 36, dfs := [] })
  (fun q => N - q.2.1) (fun q => q.2.1 <= N /\ IsI q.1 q.2.1 /\ q.2.2 = Z75 g q.2.1 /\ (q.2.1 ≠ 0 -> Zc j = true)) (0, 0, []) ⟨Nat.zero_le _, ⟨rfl⟩, rfl, fun h => absurd rfl h⟩ ?_ ?_
 ·refine Z2a 5 1 rfl ?_;exact Zf [0, 1] ⟨by decide, Z9, ⟨rfl, rfl, trivial⟩, ⟨rfl, rfl, rfl, rfl, trivial⟩, rfl, rfl⟩
 rintro ⟨i, k, L⟩ ⟨u1, u2, u3, u4⟩;dsimp only at u1 u2 u3 u4;have hLl : L.length = k := by rw [u3]; simp [Z75]
 have hsu := Zap g k;obtain ⟨v, hv⟩ : ∃ v, v = g k := ⟨_, rfl⟩;rw [<- hv] at hsu;have hie := u2.eq;have hv' : v = Z2i (Zs ((Zd j (Z29 i) 0).map fun s => Z43 s.2)) := by rw [hv, hg, hie]
 have hk6 : k <= 1000000 := by omega
 have hyes : A.cmp .lss i j.ins = true -> k < N := fun c => by have := xlt hA c; have := hN.eq; omega
 have hno : A.cmp .lss i j.ins = false -> k = N := fun c => by have := Z7x hA c; have := hN.eq; omega
 refine Zi Z0 hA hS ?_;cbv;refine bm (fun c => ?_) (fun c => ?_)
 ·have hk := hyes c;have hf1 := Zy hA u2 (by omega);have hu2 := Zz hA u2;have hms : N - (k + 1) < N - k := by omega
  have hL2 : A.app L [I v] = Z75 g (k + 1) := by rw [Z33 hA, hsu, u3]
  have hn2 : A.addN k 1 = k + 1 := Z2e hA _ _;cbv;refine Z26 hS (Z1a hA [2] ?_);cbv;refine Z7 ?_;refine Z4 hS [.agg [I j.ins, .sl 1 FL, .sl 5 ML], .fn 64 [.cb (I i) 0]] [] [] rfl rfl rfl rfl rfl rfl rfl rfl (by decide) trivial (Zdj j hf hm (Z29 i) 64 _ (Zvj i) FL ML hF hM _ (fun e2 he2 hne => absurd (he2.trans hc0) hne) (fun _ ents hme hne => ?_) (fun _ h0 => ?_))
  ·have hsok : ∀ s ∈ Zd j (Z29 i) 0, StOk s := fun s hs => by rw [<- Z66] at hs; exact Z8s (Zol i) hj _ s hs
   have hst : k + 1 ≠ 0 -> Zc j = true := fun _ => (Z28 j _).2 hne;obtain ⟨lo, hlo⟩ : ∃ lo, lo = (Zs ((Zd j (Z29 i) 0).map fun s => Z43 s.2)).1 := ⟨_, rfl⟩;obtain ⟨hi, hhi⟩ : ∃ hi, hi = (Zs ((Zd j (Z29 i) 0).map fun s => Z43 s.2)).2 := ⟨_, rfl⟩;have hvv : v = Z2i (lo, hi) := by rw [hv', hlo, hhi]
   refine Z3 Z0 hA hS ?_;cbv;refine bm (fun c => Bool.noConfusion (hc00.symm.trans c)) (fun _ => ?_);cbv;refine Z4 hS [.mv 0, .fn 66 []] [3] [.ob (.mp 5 ents)] rfl rfl rfl rfl rfl rfl rfl rfl (by decide) ⟨rfl, trivial⟩ (Zcu ents _ hme hne hsok 66 _ _ Zvl lo hi hlo hhi _ ?_);refine Z3 Z0 hA hS ?_;cbv;refine Z4 hS [.agg [I lo, I hi]] [] [] rfl rfl rfl rfl rfl rfl rfl rfl (by decide) trivial (Zg2 lo hi v hvv _ ?_);refine Z3 Z0 hA hS ?_;cbv;refine ⟨Ze hA hLl, Ze hA rfl, Z27 hA hk6 (by decide), hf1, ?_⟩;refine Z8 (A.add i 1, k + 1, A.app L [I v]) [0, 5] ⟨hk, hu2, hL2, hst⟩ hms ?_;exact ⟨by decide, Z9, ⟨rfl, rfl, trivial⟩, ⟨rfl, by rw [<- hn2]; rfl, rfl, rfl, trivial⟩, rfl, rfl⟩
  ·have hz := hp0 (Z3y h0);refine Z3 Z0 hA hS ?_;cbv;refine bm (fun _ => ?_) (fun c => Bool.noConfusion (hcN.symm.trans c));cbv;refine Z7 ?_;cbv;exact Z2 [] (by decide) Z9 (H' := []) (d' := .tup [.v (.slice none 0 0), I 9]) trivial rfl (Z1 hz)
 ·have hk := hno c;have hs1 : Zc j = true := u4 (by have := hN.eq; omega);have hz2 := hz0 hs1 L (by rw [u3, hk, hmx]);cbv;refine Z7 ?_;cbv;refine Z1w [1] ?_;cbv;exact ⟨by cases L <;> exact hLl.symm, Z2 [] (by decide) Z9 (H' := []) (d' := .tup [.sl 1 L, I 0]) trivial rfl (Z1 hz2)⟩
end Go.Proofs.YthljpccegkmdnaaGreatDoor

namespace Go.Proofs.YthljpccegkmdnaaGreatDoor
open Go Go.Abs Go.Proofs Go.Batch
theorem Zot {OL : List D} (hf : FrL OL) (ρ : Nat -> Nat) (k a b n : Nat) (h : ρ a = b) : some (Blk.elo 1 (OL.set k (.o b 1 n))) = some (Z68 ρ (.elo 1 (OL.set k (.o a 1 n)))) := by
 show _ = some (Blk.elo 1 (renL ρ (OL.set k (.o a 1 n))));rw [Zc8, List.map_set, <- Zc8, hf.ren, <- h]; rfl
theorem Zvm {m : Nat} {K : St -> Prop} {s : St} (k L i : Nat) {es row : List D} {n : Nat} (hk : Z1m s.H k = some (.elo 1 es)) (hL : Z1m s.H L = some (.els 1 row)) (hi : es[i]? = some (.o L 1 n)) (hn : n = row.length)
  (h : GS m K { s with H := (s.H.set L .dead).set k (.elo 1 (es.set i (.sl 1 row))) }) : GS m K s := by
 subst hn;exact Zs9 k L (es' := es.set i (.sl 1 row)) hk hL (Zuu (i := i) (d := .o L 1 row.length) (d' := .sl 1 row) ⟨rfl, fun r c' hc => by
  match r, hc with
  | 0, hc => simp [D.cells] at hc; subst hc; exact .inr ⟨rfl, rfl⟩
  | r + 1, hc => simp [D.cells] at hc⟩ rfl (fun _ => hi)) h
def Za0 (R : Nat -> List D) (N k : Nat) : List D := (List.range N).map fun i => if i < k then .sl 1 (R i) else .v (.slice none 0 0)
theorem Zl0 (R : Nat -> List D) (N k : Nat) : (Za0 R N k).length = N := by simp [Za0]
theorem Zou (R : Nat -> List D) (N k : Nat) : FrL (Za0 R N k) := FrL.map (fun i => by split <;> rfl) _
theorem Zqd (R : Nat -> List D) (N : Nat) : Za0 R N 0 = List.replicate N (.v (.slice none 0 0)) := by
 refine List.ext_getElem? fun i => ?_;simp only [Za0, List.getElem?_map, List.getElem?_replicate]
 by_cases h : i < N
 ·rw [List.getElem?_range h]; simp [h]
 ·rw [List.getElem?_eq_none (by simp; omega)]; simp [h]
theorem Zsw (R : Nat -> List D) {N k : Nat} (h : k < N) : (Za0 R N k)[k]? = some (.v (.slice none 0 0)) := by
 simp [Za0, List.getElem?_map, List.getElem?_range h]
theorem Zqe (R : Nat -> List D) (N k : Nat) : (Za0 R N k).set k (.sl 1 (R k)) = Za0 R N (k + 1) := by
 refine List.ext_getElem? fun i => ?_;rw [List.getElem?_set, Zl0];simp only [Za0, List.getElem?_map]
 by_cases h : i < N
 ·rw [List.getElem?_range h]
  by_cases e : k = i
  ·subst e; simp [h]
  ·rw [if_neg e];simp only [Option.map_some]
   by_cases h2 : i < k
   ·rw [if_pos h2, if_pos (by omega)]
   ·rw [if_neg h2, if_neg (by omega)]
 ·rw [List.getElem?_eq_none (show (List.range N).length <= i by simp; omega)]
  split
  ·rename_i e; subst e; rw [if_neg h]; rfl
  ·rfl
theorem Zsx (R : Nat -> List D) (N : Nat) : Za0 R N N = (List.range N).map fun i => .sl 1 (R i) :=
 List.map_congr_left fun i hi => by rw [if_pos (List.mem_range.1 hi)]
theorem Zj1 {A : Ar} (hA : A = ar) {k b : Nat} (hk : k <= 1000000) (hb : b <= 1000) : A.room k b := by
 subst hA;have : k * b <= 1000000 * 1000 := Nat.mul_le_mul hk hb;exact ⟨by show k * b <= 140737488355328; omega, by show k <= 4611686018427387904; omega⟩
set_option maxRecDepth 20000 in
set_option maxHeartbeats 8000000 in
theorem Zsy (j : Jn) (hf : j.first.length <= 1152921504606846976) (hm : j.moves.length <= 1152921504606846976) (FL ML : List D) (hF : FL = j.first.map Zv) (hM : ML = j.moves.map mvD) (Q)
  (he : ∀ e, e = Zr j -> e ≠ 0 -> Q (RA.ret (.tup [.v (.slice none 0 0), I e])) []) (hp : JOk j -> Zc j = false -> Q (RA.ret (.tup [.v (.slice none 0 0), I 9])) [])
  (hq : JOk j -> Zc j = true -> ∀ L, L = (Z5w j).map (fun l => .sl 1 (l.map I)) -> Q (RA.ret (.tup [.sl 1 L, I 0])) []) :
  CallA Tryz.prog 15 [.agg [I j.ins, .sl 1 FL, .sl 5 ML]] [] Q := by
 obtain ⟨A, hA⟩ : ∃ A, A = ar := ⟨_, rfl⟩;refine Z5 Z0 hA Tryz.func15 rfl rfl rfl rfl rfl fun S hS => ?_;cbv;refine Z4 hS [.agg [I j.ins, .sl 1 FL, .sl 5 ML], .fn 51 []] [] [] rfl rfl rfl rfl rfl rfl rfl rfl (by decide) trivial (Zdj j hf hm Zn 51 [] Z73 FL ML hF hM _ (fun e1 he1 hne => ?_) (fun hj ents0 _ hne0 => ?_) (fun hj h0 => ?_))
 ·have hz := he e1 he1 hne;have hc : A.cmp .neq e1 0 = true := by subst hA; simpa [ar, Z25] using hne
  refine Z3 Z0 hA hS ?_;cbv;refine bm (fun _ => ?_) (fun c => Bool.noConfusion (hc.symm.trans c));cbv;exact Z2 [] (by decide) Z9 (H' := []) (d' := .tup [.v (.slice none 0 0), I e1]) trivial rfl (Z1 hz)
 ·have hc : A.cmp .neq 0 0 = false := by subst hA; rfl
  have hst : Zc j = true := (Z28 j Zn).2 hne0;have hi1 := hj.i1;have hi4 := hj.i4;have hj10 := hj.m10;obtain ⟨N, hN⟩ : ∃ N : Nat, IsI j.ins N := ⟨j.ins.toNat, ⟨by omega⟩⟩;have hN4 : N <= 4 := by have := hN.eq; omega
  obtain ⟨NB, hNB⟩ : ∃ NB, NB = (Z6 j.moves).length := ⟨_, rfl⟩;have hNB4 : NB <= 4 := by rw [hNB]; exact hj.b4
  obtain ⟨vg, hvg⟩ : ∃ vg : Nat -> Nat -> Int, vg = fun i b => Z2i (Z4d j (Z2v (i : Nat) b)) := ⟨_, rfl⟩;obtain ⟨R, hR⟩ : ∃ R : Nat -> List D, R = fun i => Z75 (vg i) NB := ⟨_, rfl⟩;have hfin : Za0 R N N = (Z5w j).map (fun l => .sl 1 (l.map I)) := by
   have : j.ins.toNat = N := by have := hN.eq; omega
   rw [Zsx, Z5w, this, hR, hvg, List.map_map, hNB];exact List.map_congr_left fun i _ => by simp [Z75, Function.comp_def]
  have hz := hq hj hst;have hnn : A.nneg j.ins := by subst hA; show 0 <= j.ins; omega
  have htn : A.tn j.ins = N := ytn hA hN;have hrm : A.room (A.tn j.ins) 24 := by rw [htn]; exact Zj1 hA (by omega) (by decide)
  have hrep : A.rep (A.tn j.ins) (.v (.slice none 0 0)) = Za0 R N 0 := by rw [htn, Zqd]; subst hA; rfl
  have hlenI : IsI (A.oi (A.tn j.ins)) N := ⟨by rw [htn]; exact xoi hA N⟩;obtain ⟨LN, hLN⟩ : ∃ LN, LN = A.oi (A.tn j.ins) := ⟨_, rfl⟩;rw [<- hLN] at hlenI;have hopn := fun Q => Zhe j (by omega) FL ML hM 51 [] (.inl rfl) Q;refine Z3 Z0 hA hS ?_;cbv;refine bm (fun c => Bool.noConfusion (hc.symm.trans c)) (fun _ => ?_);cbv;refine ⟨hnn, hrm, ?_⟩;refine Zb hS ?_;refine Za (α := Int × Nat × List D) (fun q => { env := [(1, .b 0 0), (6, .o 1 1 N), (23, I LN), (24, I q.1)], H := [.box (.agg [I j.ins, .sl 1 FL, .sl 5 ML]), .els 1 q.2.2], nt := 57, dfs := [] })
   (fun q => N - q.2.1) (fun q => q.2.1 <= N /\ IsI q.1 q.2.1 /\ q.2.2 = Za0 R N q.2.1) (0, 0, Za0 R N 0) ⟨Nat.zero_le _, ⟨rfl⟩, rfl⟩ ?_ ?_
  ·refine Z39 2 rfl hrep ?_;exact Zf [0, 2] ⟨by decide, Z9, ⟨rfl, rfl, trivial⟩, ⟨rfl, by rw [<- htn]; rfl, by rw [hLN]; rfl, rfl, trivial⟩, rfl, rfl⟩
  rintro ⟨i, k, OL⟩ ⟨u1, u2, u3⟩;dsimp only at u1 u2 u3;have hOl : OL.length = N := by rw [u3, Zl0]
  have hOf : FrL OL := by rw [u3]; exact Zou _ _ _
  have hyes : A.cmp .lss i LN = true -> k < N := fun c => by have := xlt hA c; have := hlenI.eq; have := u2.eq; omega
  have hno : A.cmp .lss i LN = false -> k = N := fun c => by have := Z7x hA c; have := hlenI.eq; have := u2.eq; omega
  have hOk : k < N -> OL[k]? = some (.v (.slice none 0 0)) := fun h => by rw [u3]; exact Zsw R h
  have hie := u2.eq;refine Zi Z0 hA hS ?_;cbv;refine bm (fun c => ?_) (fun c => ?_)
  ·have hk := hyes c;have hkk := hOk hk;have hf1 := Zy hA u2 (by omega);have hu2 := Zz hA u2;have hms : N - (k + 1) < N - k := by omega
   have hnx : OL.set k (.sl 1 (R k)) = Za0 R N (k + 1) := by rw [u3]; exact Zqe R N k
   have hinN : A.inb i N := Z4o hA u2 hk;have hkl : k < OL.length := by omega
   cbv;refine Z4 hS [.agg [I j.ins, .sl 1 FL, .sl 5 ML], .fn 51 []] [] [] rfl rfl rfl rfl rfl rfl rfl rfl (by decide) trivial (hopn _ fun BL hBL => ?_);have hBl : BL.length = NB := by rw [hBL, hNB]; simp
   refine Z3 Z0 hA hS ?_;cbv;refine Zb hS ?_;refine Za (α := Int × Nat × List D × List D) (fun q => { env := [(1, .b 0 0), (6, .o 1 1 N), (7, I i), (23, I LN), (24, I i), (30, I (A.oi (A.len BL))), (31, I q.1)], H := [.box (.agg [I j.ins, .sl 1 FL, .sl 5 ML]), .elo 1 q.2.2.2, .els 1 q.2.2.1], nt := 57, dfs := [] })
    (fun q => NB - q.2.1) (fun q => q.2.1 <= NB /\ IsI q.1 q.2.1 /\ q.2.2.1 = Z75 (vg k) q.2.1 /\ q.2.2.2 = OL.set k (.o 2 1 q.2.1)) (0, 0, [], OL.set k (.o 2 1 0)) ⟨Nat.zero_le _, ⟨rfl⟩, rfl, rfl⟩ ?_ ?_
   ·refine Zs8 1 rfl ?_;refine Zkf 1 k 0 1 (.o 2 1 0) rfl hkk rfl rfl ?_;exact Zf [0, 1, 2] ⟨by decide, Z9, ⟨rfl, Zot hOf _ k 2 2 0 rfl, rfl, trivial⟩, ⟨rfl, rfl, rfl, rfl, rfl, rfl, rfl, trivial⟩, rfl, rfl⟩
   rintro ⟨b, t, row, es⟩ ⟨w1, w2, w3, w4⟩;dsimp only at w1 w2 w3 w4;have hrl : row.length = t := by rw [w3]; simp [Z75]
   have hsu := Zap (vg k) t;obtain ⟨v, hv⟩ : ∃ v, v = vg k t := ⟨_, rfl⟩;rw [<- hv] at hsu;have hbe := w2.eq;have hek : es[k]? = some (.o 2 1 t) := by rw [w4, List.getElem?_set_self hkl]
   have ge := Z18 hA u2 hek;have ht6 : t <= 1000000 := by omega
   refine Zi Z0 hA hS ?_;cbv;refine bm (fun c2 => ?_) (fun c2 => ?_)
   ·have ht : t < NB := Z31 hA hBl w2 c2;have hfb := Zy hA w2 (by omega);have hw2 := Zz hA w2;have hms2 : NB - (t + 1) < NB - t := by omega
    have htk := Zvf i b t w2;have hsok : ∀ s ∈ Zd j (Z2v i t) 0, StOk s := fun s hs => by rw [<- Z66] at hs; exact Z8s (Zok i t) hj _ s hs
    obtain ⟨lo, hlo⟩ : ∃ lo, lo = (Zs ((Zd j (Z2v i t) 0).map (·.2))).1 := ⟨_, rfl⟩;obtain ⟨hi, hhi⟩ : ∃ hi, hi = (Zs ((Zd j (Z2v i t) 0).map (·.2))).2 := ⟨_, rfl⟩;have hvv : v = Z2i (lo, hi) := by rw [hv, hvg, hlo, hhi, hie]; rfl
    have hrow2 : A.app row [I v] = Z75 (vg k) (t + 1) := by rw [Z33 hA, hsu, w3]
    have hn2 : A.addN t 1 = t + 1 := Z2e hA _ _;have hes2 : A.set es (A.tn i) (.o 5 1 (A.addN t 1)) = OL.set k (.o 5 1 (t + 1)) := by rw [Z7n hA u2 rfl, w4, List.set_set, hn2]
    have en : A.eqN t (A.len row) := Zkd hA (by rw [Z9m hA hrl]);have hroom := Z27 hA ht6 (show 8 <= 1000 by decide);have hinM : A.inb i N := hinN;cbv;refine Z16 Z0 hA hS [0, 1, 2, 3, 4, 5, 6, 7, 8, 9] rfl rfl fun Dk hD => ?_;cbv;refine Zq hA hD [I i, I b] [] [] rfl rfl rfl rfl rfl rfl rfl rfl rfl rfl rfl (by decide) trivial (Zvg i b _ ⟨by cbv, Zx Z0 hA hD ?_⟩);cbv;refine Zq hA hD [.agg [I j.ins, .sl 1 FL, .sl 5 ML], .fn 116 [.cb (I i) 0, .cb (I b) 0]] [] [] rfl rfl rfl rfl rfl rfl rfl rfl rfl rfl rfl (by decide) trivial (Zan j hj (Z2v i t) 116 _ htk FL ML hF hM _ (fun ents hme hne => ⟨by cbv, Zx Z0 hA hD ?_⟩) (fun h0 => absurd h0 ((Z28 j _).1 hst)));cbv;refine Z16 Z0 hA hS [0, 1, 2, 3, 4, 5, 6, 7, 8, 9, 10, 11, 12] rfl rfl fun Dk2 hD2 => ?_;cbv;refine ⟨hinM, ⟨_, ge, ?_⟩⟩;cbv;refine Zq hA hD2 [.mv 0, .fn 60 []] [3] [.ob (.mp 5 ents)] rfl rfl rfl rfl rfl rfl rfl rfl rfl rfl rfl (by decide) ⟨rfl, trivial⟩ (Zcu ents _ hme hne hsok 60 _ _ Zoq lo hi hlo hhi _ ⟨by cbv; repeat' (first | exact trivial | exact Need.mk ⟨_, ge, rfl⟩ | exact hinM | refine ⟨?_, ?_⟩), Zx Z0 hA hD2 ?_⟩);cbv;refine Zq hA hD2 [.agg [I lo, I hi]] [] [] rfl rfl rfl rfl rfl rfl rfl rfl rfl rfl rfl (by decide) trivial (Zg2 lo hi v hvv _ ⟨by cbv; repeat' (first | exact trivial | exact Need.mk ⟨_, ge, rfl⟩ | exact hinM | refine ⟨?_, ?_⟩), Zx Z0 hA hD2 ?_⟩);cbv;refine ⟨en, Ze hA rfl, hroom, (by repeat' (first | exact trivial | exact Need.mk ⟨_, ge, rfl⟩ | exact hinM | refine ⟨?_, ?_⟩)), ?_⟩;refine ⟨_, ge, ?_⟩;cbv;refine ⟨hfb, ?_⟩;refine Zog 1 rfl (congrArg (Blk.elo 1) hes2) ?_;refine Z8 (A.add b 1, t + 1, A.app row [I v], OL.set k (.o 2 1 (t + 1))) [0, 1, 5] ⟨ht, hw2, hrow2, rfl⟩ hms2 ?_;exact ⟨by decide, Z9, ⟨rfl, Zot hOf _ k 2 5 (t + 1) rfl, rfl, trivial⟩, ⟨rfl, rfl, rfl, rfl, rfl, rfl, rfl, trivial⟩, rfl, rfl⟩
   ·have ht : t = NB := by have := Z21 hA hBl w2 c2; omega
    have hrE : row = R k := by rw [w3, ht, hR]
    have hes3 : es.set k (.sl 1 row) = Za0 R N (k + 1) := by rw [w4, List.set_set, hrE, hnx]
    have hfr3 : FrL (es.set k (.sl 1 row)) := by rw [hes3]; exact Zou _ _ _
    cbv;refine Z7 ?_;cbv;refine ⟨hf1, ?_⟩;refine Zvm 1 2 k rfl rfl hek hrl.symm ?_;refine Zmp 1 rfl hfr3 ?_;refine Z8 (A.add i 1, k + 1, es.set k (.sl 1 row)) [0, 1] ⟨hk, hu2, hes3⟩ hms ?_;exact ⟨by decide, Z9, ⟨rfl, rfl, trivial⟩, ⟨rfl, rfl, rfl, rfl, trivial⟩, rfl, rfl⟩
  ·have hk := hno c;have hOE : OL = (Z5w j).map (fun l => .sl 1 (l.map I)) := by rw [u3, hk, hfin]
   have hz2 := hz OL hOE;cbv;refine Z7 ?_;cbv;refine Z1w [1] ?_;cbv;exact ⟨by cases OL <;> exact hOl.symm, Z2 [] (by decide) Z9 (H' := []) (d' := .tup [.sl 1 OL, I 0]) trivial rfl (Z1 hz2)⟩
 ·have hz := hp hj (Z3y h0);have hc : A.cmp .neq 9 0 = true := by subst hA; rfl
  refine Z3 Z0 hA hS ?_;cbv;refine bm (fun _ => ?_) (fun c => Bool.noConfusion (hc.symm.trans c));cbv;exact Z2 [] (by decide) Z9 (H' := []) (d' := .tup [.v (.slice none 0 0), I 9]) trivial rfl (Z1 hz)
end Go.Proofs.YthljpccegkmdnaaGreatDoor

namespace Go.Batch
def Z76 (below : Int) : Option Int -> List Int -> Int
 | _, [] => 0
 | p, n :: l => if ¬ (0 <= n /\ n <= below - 1) then 3 else if p.any (fun q => decide (n <= q)) = true then 5 else Z76 below (some n) l
def Z44 (below : Int) (l : List Int) : Int := Z76 below none l
def Z3z (l : List Int) : Int := Z1p (l.map Int.toNat)
end Go.Batch
namespace Go.Proofs.YthljpccegkmdnaaGreatDoor
open Go Go.Abs Go.Proofs Go.Batch
theorem Z121 {x : Int} {k : Nat} (h0 : 0 <= x) (h1 : x <= 15) (hk : k < 4) : 0 <= Z2h x k /\ Z2h x k <= 15 := by
 unfold Z2h;have : x.toNat ||| (1 <<< k) < 2 ^ 4 := Nat.or_lt_two_pow (by omega) (by
  match k, hk with
  | 0, _ => decide
  | 1, _ => decide
  | 2, _ => decide
  | 3, _ => decide)
 omega
theorem Zl1 (l : List Int) (n : Int) : Z3z (l ++ [n]) = Z2h (Z3z l) n.toNat := by simp [Z3z, Z1p, List.foldl_append]
theorem Zya : ∀ {l : List Int}, (∀ x ∈ l, 0 <= x /\ x < 4) -> 0 <= Z3z l /\ Z3z l <= 15 := by
 intro l
 generalize hn : l.length = n
 induction n generalizing l with
 | zero => intro _; rw [List.eq_nil_of_length_eq_zero hn]; decide
 | succ n ih =>
  intro h;rcases List.eq_nil_or_concat l with e | ⟨l', x, e⟩
  ·subst e; decide
  ·subst e;rw [List.concat_eq_append] at hn h ⊢;have h1 := ih (l := l') (by simp at hn; exact hn) (fun x hx => h x (by simp [hx]));have h2 := h x (by simp);rw [Zl1];exact Z121 h1.1 h1.2 (by omega)
def Z45 (l : List Int) (k : Nat) : Option Int := if k = 0 then none else l[k - 1]?
theorem Zl2 {below : Int} {l : List Int} {k : Nat} {n : Int} (h : l[k]? = some n) : Z76 below (Z45 l k) (l.drop k) = if ¬ (0 <= n /\ n <= below - 1) then 3 else if (Z45 l k).any (fun q => decide (n <= q)) = true then 5 else Z76 below (Z45 l (k + 1)) (l.drop (k + 1)) := by
 rw [drop_at h];have : Z45 l (k + 1) = some n := by rw [Z45, if_neg (by omega)]; exact h
 rw [this]; rfl
set_option maxRecDepth 20000 in
set_option maxHeartbeats 4000000 in
theorem Za1 (l : List Int) (hl : l.length <= 1152921504606846976) (below : Int) (hb : 0 <= below /\ below <= 4) (L : List D) (hL : L = l.map I) (Q) (hq : ∀ e g, e = Z44 below l -> (e = 0 -> g = Z3z l /\ 0 <= g /\ g <= 15) -> (e ≠ 0 -> g = 0) -> Q (RA.ret (.tup [I g, I e])) []) :
  CallA Tryz.prog 61 [.sl 1 L, I below] [] Q := by
 obtain ⟨A, hA⟩ : ∃ A, A = ar := ⟨_, rfl⟩;have hLl : L.length = l.length := by rw [hL]; simp
 have fb : A.fits .i64 (A.sub below 1) := Z14 hA (Z24 hA below 1) (by omega);have hbe : A.sub below 1 = below - 1 := Z24 hA below 1;have h00 : Z44 below l = Z76 below (Z45 l 0) (l.drop 0) := rfl;refine Z5 Z0 hA Tryz.func61 rfl rfl rfl rfl rfl fun S hS => ?_;cbv;refine Zb hS ?_;refine Za (α := Int × Nat × Int) (fun q => { env := [(0, .sl 1 L), (1, I below), (6, I q.2.2), (9, .sl 1 L), (10, I (A.oi (A.len L))), (11, I q.1)], H := [], nt := 39, dfs := [] })
  (fun q => l.length - q.2.1) (fun q => q.2.1 <= l.length /\ IsI q.1 q.2.1 /\ q.2.2 = Z3z (l.take q.2.1) /\ (∀ x ∈ l.take q.2.1, 0 <= x /\ x < 4) /\ Z44 below l = Z76 below (Z45 l q.2.1) (l.drop q.2.1)) (0, 0, 0) ⟨Nat.zero_le _, ⟨rfl⟩, rfl, fun x hx => by simp at hx, h00⟩ ?_ ?_
 ·exact Zf [] ⟨by decide, Z9, trivial, ⟨rfl, rfl, rfl, rfl, rfl, rfl, trivial⟩, rfl, rfl⟩
 rintro ⟨i, k, g⟩ ⟨u1, u2, u3, u4, u5⟩;dsimp only at u1 u2 u3 u4 u5;have hgb := Zya u4;rw [<- u3] at hgb;have hyes : A.cmp .lss i (A.oi (A.len L)) = true -> k < l.length := fun c => Z31 hA hLl u2 c;have hno : A.cmp .lss i (A.oi (A.len L)) = false -> l.length <= k := fun c => Z21 hA hLl u2 c;have hend : l.length <= k -> Z44 below l = 0 /\ g = Z3z l := fun h => by
  rw [u5, List.drop_eq_nil_of_le h, u3, List.take_of_length_le h]; exact ⟨rfl, rfl⟩
 have hfi : k < l.length -> A.fits .i64 (A.add i 1) := fun h => Zy hA u2 (by omega);have hu2 := Zz hA u2;have hms : k < l.length -> l.length - (k + 1) < l.length - k := fun h => by omega
 refine Zi Z0 hA hS ?_;cbv;refine bm (fun c => ?_) (fun c => ?_)
 ·have hk := hyes c;obtain ⟨n, hn⟩ : ∃ n, l[k]? = some n := ⟨_, List.getElem?_eq_getElem hk⟩;have hLk : L[k]? = some (I n) := by rw [hL]; simp [hn]
  have hat := Zl2 (below := below) hn;rw [<- u5] at hat;have hin := Z1b hA hLl u2 hk;have hg := Z18 hA u2 hLk;obtain ⟨b1, hb1⟩ : ∃ b1, b1 = decide (0 <= n /\ n <= A.sub below 1) := ⟨_, rfl⟩;have hb1' : b1 = decide (0 <= n /\ n <= below - 1) := by rw [hb1, hbe]
  have h3 : b1 = false -> Z44 below l = 3 := fun h => by rw [hat, if_pos]; exact of_decide_eq_false (hb1'.symm.trans h)
  have h4 : b1 = true -> 0 <= n /\ n < 4 := fun h => by have := of_decide_eq_true (hb1'.symm.trans h); omega
  have h5 : b1 = true -> (Z45 l k).any (fun q => decide (n <= q)) = true -> Z44 below l = 5 := fun h h' => by rw [hat, if_neg (fun h2 => h2 (of_decide_eq_true (hb1'.symm.trans h))), if_pos h']
  have h6 : b1 = true -> (Z45 l k).any (fun q => decide (n <= q)) = false -> Z44 below l = Z76 below (Z45 l (k + 1)) (l.drop (k + 1)) := fun h h' => by rw [hat, if_neg (fun h2 => h2 (of_decide_eq_true (hb1'.symm.trans h))), if_neg (by rw [h']; exact Bool.false_ne_true)]
  have hk0 : A.cmp .gtr i 0 = true -> ∃ k', k = k' + 1 := fun c => ⟨k - 1, by have := xgt hA c; have := u2.eq; omega⟩;have hk1 : A.cmp .gtr i 0 = false -> k = 0 := fun c => by have := Zax hA c; have := u2.eq; omega
  have hp0 : k = 0 -> (Z45 l k).any (fun q => decide (n <= q)) = false := fun h => by rw [Z45, if_pos h]; rfl
  have hpk : ∀ k', k = k' + 1 -> ∃ p, L[k']? = some (I p) /\ IsI (A.sub i 1) k' /\ k' < l.length /\ (Z45 l k).any (fun q => decide (n <= q)) = decide (n <= p) := fun k' h => by
   obtain ⟨p, hp⟩ : ∃ p, l[k']? = some p := ⟨_, List.getElem?_eq_getElem (by omega)⟩;refine ⟨p, by rw [hL]; simp [hp], ⟨by rw [Z24 hA]; have := u2.eq; omega⟩, by omega, ?_⟩;subst h;rw [Z45, if_neg (by omega), Nat.add_sub_cancel, hp]; rfl
  have hnext : b1 = true -> (∀ x ∈ l.take (k + 1), 0 <= x /\ x < 4) /\ Z2h g n.toNat = Z3z (l.take (k + 1)) := fun h => by
   rw [Z5y hn, Zl1, <- u3];exact ⟨fun x hx => by rcases List.mem_append.1 hx with h1 | h1; exact u4 x h1; simp at h1; rw [h1]; exact h4 h, rfl⟩
  have hwb := fun (h : b1 = true) Q => Zna g n n.toNat hgb.1 (by omega) ⟨by have := h4 h; omega⟩ (by have := h4 h; omega) (Z2h g n.toNat) rfl Q;have hf1 := hfi hk;have hm1 := hms hk;have hfs : ∀ k', IsI (A.sub i 1) k' -> k' < l.length -> A.fits .i64 (A.sub i 1) := fun k' h1 h2 => Z14 hA h1.eq (by omega);have q3 := fun (h : b1 = false) => hq 3 0 (h3 h).symm (fun h => absurd h (by decide)) (fun _ => rfl);have q5 := fun (h : b1 = true) (h' : (Z45 l k).any (fun q => decide (n <= q)) = true) => hq 5 0 (h5 h h').symm (fun h => absurd h (by decide)) (fun _ => rfl);obtain ⟨g2, hg2⟩ : ∃ g2, g2 = Z2h g n.toNat := ⟨_, rfl⟩;rw [<- hg2] at hnext hwb;cbv;refine ⟨hin, ⟨_, hg, ?_⟩⟩;cbv;refine ⟨fb, ?_⟩;refine Z4 hS [I n, I 0, I (A.sub below 1)] [] [] rfl rfl rfl rfl rfl rfl rfl rfl (by decide) trivial (bWith _ _ _ b1 hb1 _ ?_);refine Z3 Z0 hA hS ?_;cbv;refine bm (fun c1 => ?_) (fun c1 => ?_)
  ·have hz := q3 (xnot hA c1);cbv;refine Z7 ?_;cbv;exact Z2 [] (by decide) Z9 (H' := []) (d' := .tup [I 0, I 3]) trivial rfl (Z1 hz)
  have t1 := xnnot hA c1;obtain ⟨hn1, hn2⟩ := hnext t1;cbv;refine bm (fun c2 => ?_) (fun c2 => ?_)
  ·obtain ⟨k', hk'⟩ := hk0 c2;obtain ⟨p, p1, p2, p3, p4⟩ := hpk k' hk';have hfss := hfs k' p2 p3;have hin2 := Z1b hA hLl p2 p3;have hg2' := Z18 hA p2 p1;have hle : A.cmp .leq n p = true -> (Z45 l k).any (fun q => decide (n <= q)) = true := fun c => by rw [p4]; exact decide_eq_true (xle hA c)
   have hnle : A.cmp .leq n p = false -> (Z45 l k).any (fun q => decide (n <= q)) = false := fun c => by rw [p4]; exact decide_eq_false (Int.not_le.2 (Zec hA c))
   cbv;refine ⟨hfss, hin2, ⟨_, hg2', ?_⟩⟩;cbv;refine bm (fun c3 => ?_) (fun c3 => ?_)
   ·have hz := q5 t1 (hle c3);cbv;refine Z7 ?_;cbv;exact Z2 [] (by decide) Z9 (H' := []) (d' := .tup [I 0, I 5]) trivial rfl (Z1 hz)
   ·have h6' := h6 t1 (hnle c3);cbv;refine Z4 hS [I g, I n] [] [] rfl rfl rfl rfl rfl rfl rfl rfl (by decide) trivial (hwb t1 _ ?_);refine Z3 Z0 hA hS ?_;cbv;refine ⟨hf1, ?_⟩;refine Z8 (A.add i 1, k + 1, g2) [] ⟨hk, hu2, hn2, hn1, h6'⟩ hm1 ?_;exact ⟨by decide, Z9, trivial, ⟨rfl, rfl, rfl, rfl, rfl, rfl, trivial⟩, rfl, rfl⟩
  ·have h6' := h6 t1 (hp0 (hk1 c2));cbv;refine Z4 hS [I g, I n] [] [] rfl rfl rfl rfl rfl rfl rfl rfl (by decide) trivial (hwb t1 _ ?_);refine Z3 Z0 hA hS ?_;cbv;refine ⟨hf1, ?_⟩;refine Z8 (A.add i 1, k + 1, g2) [] ⟨hk, hu2, hn2, hn1, h6'⟩ hm1 ?_;exact ⟨by decide, Z9, trivial, ⟨rfl, rfl, rfl, rfl, rfl, rfl, trivial⟩, rfl, rfl⟩
 ·obtain ⟨e1, e2⟩ := hend (hno c);have hz := hq 0 g e1.symm (fun _ => ⟨e2, hgb⟩) (fun h => absurd rfl h);cbv;refine Z7 ?_;cbv;exact Z2 [] (by decide) Z9 (H' := []) (d' := .tup [I g, I 0]) trivial rfl (Z1 hz)
theorem Zzk (x y : Int) (hx0 : 0 <= x) (hx : x <= 1000000) (hy0 : 0 <= y) (hy : y <= 1000000) (b : Bool) (hb : b = allB x y) (Q) (hq : Q (RA.ret (.v (.bool b))) []) : CallA Tryz.prog 68 [I x, I y] [] Q := by
 obtain ⟨A, hA⟩ : ∃ A, A = ar := ⟨_, rfl⟩;have hz : A.cmp .eql (A.bits .and .i64 x y) y = b := by
  subst hA;rw [Zn9 hx0 (by omega) hy0 (by omega), hb]; rfl
 refine Z5 Z0 hA Tryz.func68 rfl rfl rfl rfl rfl fun S hS => ?_;cbv;refine Z2 [] (by decide) Z9 (H' := []) (d' := .v (.bool (A.cmp .eql (A.bits .and .i64 x y) y))) trivial rfl (Z1 ?_);rw [hz]; exact hq
end Go.Proofs.YthljpccegkmdnaaGreatDoor
