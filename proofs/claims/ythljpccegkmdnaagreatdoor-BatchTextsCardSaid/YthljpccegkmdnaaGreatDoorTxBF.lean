/- Part TxBF of the proofs about the benches of the accordion maker: see the last text of the claim for what is proved. -/
import Derived.Test.YthljpccegkmdnaaGreatDoorTxBE
import Derived.Test.YthljpccegkmdnaaGreatDoorTxAW
import Derived.Test.YthljpccegkmdnaaGreatDoorTxBB
set_option linter.unusedVariables false
set_option linter.unusedSimpArgs false
set_option linter.unnecessarySimpa false
set_option linter.constructorNameAsVariable false

namespace Go.Proofs.YthljpccegkmdnaaGreatDoor
open Go Go.Abs Go.Proofs Go.Batch
theorem Zoy : ∀ (g : Fin 16) (k : Fin 4), ar.cmp .eql (ar.bits .and .i64 (ar.shift .shr .i64 (g.val : Int) (k.val : Int)) 1) 1 = Z2s (g.val : Int) k.val := by decide +kernel
theorem Zyg (g n : Int) (k : Nat) (hg : 0 <= g /\ g <= 15) (hn : IsI n k) (hk : k < 4) (r : Bool) (hr : r = Z2s g k) (Q) (hq : Q (RA.ret (.v (.bool r))) []) : CallA Tryz.prog 63 [I g, I n] [] Q := by
 obtain ⟨A, hA⟩ : ∃ A, A = ar := ⟨_, rfl⟩;have hnn : A.nneg n := by subst hA; have := hn.eq; show 0 <= n; omega
 have hz : A.cmp .eql (A.bits .and .i64 (A.shift .shr .i64 g n) 1) 1 = r := by
  have := Zoy ⟨g.toNat, by omega⟩ ⟨k, hk⟩;have e1 : ((g.toNat : Nat) : Int) = g := by omega
  simp only [e1] at this;subst hA;rw [hn.eq, hr];exact this
 refine Z5 Z0 hA Tryz.func63 rfl rfl rfl rfl rfl fun S hS => ?_;cbv;refine ⟨hnn, ?_⟩;refine Z2 [] (by decide) Z9 (H' := []) (d' := .v (.bool (A.cmp .eql (A.bits .and .i64 (A.shift .shr .i64 g n) 1) 1))) trivial rfl (Z1 ?_);rw [hz]; exact hq
theorem Zvq (i0 g : Int) (hg : 0 <= g /\ g <= 15) : TookOk 62 [.cb (I i0) 0, .cb (I g) 0] (Z3a g i0) := by
 refine ⟨.inr (.inr ⟨_, _, rfl⟩), Ziw _ _, fun x i b bi n h1 h2 h3 h4 h5 h6 h7 h8 r hr Q hq => ?_⟩;obtain ⟨A, hA⟩ : ∃ A, A = ar := ⟨_, rfl⟩;obtain ⟨hb, hhb⟩ : ∃ hb, hb = Z2s g b := ⟨_, rfl⟩;have r1 : i = i0 -> hb = true -> r = 1 := fun h h' => by rw [hr]; unfold Z3a; rw [if_pos ⟨h, hhb.symm.trans h'⟩]
 have r2 : i = i0 -> hb = false -> r = x := fun h h' => by rw [hr]; unfold Z3a; rw [if_neg (fun k => by rw [<- hhb, h'] at k; cases k.2)]
 have r3 : i ≠ i0 -> r = x := fun h => by rw [hr]; unfold Z3a; rw [if_neg (fun k => h k.1)]
 have hw := fun Q => Zyg g bi b hg h1 h2 hb hhb Q;refine Z5 Z0 hA Tryz.func62 rfl rfl rfl rfl rfl fun S hS => ?_;cbv;refine bm (fun c1 => ?_) (fun c1 => ?_)
 ·have e1 := r1 (xeq hA c1);have e2 := r2 (xeq hA c1);cbv;refine Zg hS (b := true) rfl rfl rfl rfl rfl rfl rfl rfl (fun _ => ⟨[], _, [I g, I bi], [], [], rfl, rfl, rfl, by decide, trivial, hw _ ?_⟩) (fun h => absurd rfl h);refine Z3 Z0 hA hS ?_;cbv;refine bm (fun c2 => ?_) (fun c2 => ?_)
  ·rw [e1 c2] at hq;cbv;exact Z2 [] (by decide) Z9 (H' := []) (d' := I 1) trivial rfl (Z1 hq)
  ·rw [e2 c2] at hq;cbv;exact Z2 [] (by decide) Z9 (H' := []) (d' := I x) trivial rfl (Z1 hq)
 ·rw [r3 (Z2o hA c1)] at hq;cbv;refine Zg hS (f := 63) (b := false) rfl rfl rfl rfl rfl rfl rfl rfl (fun h => Bool.noConfusion h) (fun _ => ?_);refine Z3 Z0 hA hS ?_;cbv;exact Z2 [] (by decide) Z9 (H' := []) (d' := I x) trivial rfl (Z1 hq)
set_option maxRecDepth 20000 in
set_option maxHeartbeats 4000000 in
theorem Zzv (j : Jn) (hf : j.first.length <= 1152921504606846976) (hm : j.moves.length <= 1152921504606846976) (l : List Int) (hl : l.length <= 1152921504606846976) (FL ML XL : List D) (hF : FL = j.first.map Zv) (hM : ML = j.moves.map mvD) (hX : XL = l.map I) (Q)
  (he : ∀ e, e = Zr j -> e ≠ 0 -> Q (RA.ret (.tup [.v (.slice none 0 0), I e])) []) (hx : JOk j -> ∀ e, e = Z44 ((Z6 j.moves).length : Int) l -> e ≠ 0 -> Q (RA.ret (.tup [.v (.slice none 0 0), I e])) [])
  (hp : JOk j -> Z44 ((Z6 j.moves).length : Int) l = 0 -> Zc j = false -> Q (RA.ret (.tup [.v (.slice none 0 0), I 9])) [])
  (hq : JOk j -> Z44 ((Z6 j.moves).length : Int) l = 0 -> Zc j = true -> ∀ L, L = (Zbn j (l.map Int.toNat)).map I -> Q (RA.ret (.tup [.sl 1 L, I 0])) []) :
  CallA Tryz.prog 20 [.agg [I j.ins, .sl 1 FL, .sl 5 ML], .sl 1 XL] [] Q := by
 obtain ⟨A, hA⟩ : ∃ A, A = ar := ⟨_, rfl⟩;obtain ⟨e1, he1⟩ : ∃ e1, e1 = Zr j := ⟨_, rfl⟩;refine Z5 Z0 hA Tryz.func20 rfl rfl rfl rfl rfl fun S hS => ?_;cbv;refine Z4 hS [.agg [I j.ins, .sl 1 FL, .sl 5 ML]] [] [] rfl rfl rfl rfl rfl rfl rfl rfl (by decide) trivial (bCheck j hf hm FL ML hF hM e1 he1 _ ?_);refine Z3 Z0 hA hS ?_;cbv;refine bm (fun c => ?_) (fun c => ?_)
 ·have hz := he e1 he1 (xne hA c);cbv;exact Z2 [] (by decide) Z9 (H' := []) (d' := .tup [.v (.slice none 0 0), I e1]) trivial rfl (Z1 hz)
 have hc0 : Zr j = 0 := he1.symm.trans (Z4t hA c);have hj : JOk j := Z2r hc0;have hi1 := hj.i1;have hi4 := hj.i4;have hj10 := hj.m10;have hb4 := hj.b4;obtain ⟨NB, hNB⟩ : ∃ NB, NB = (Z6 j.moves).length := ⟨_, rfl⟩;rw [<- hNB] at hx hp hq hb4;have hopn := fun Q => Zhe j (by omega) FL ML hM 51 [] (.inl rfl) Q;obtain ⟨gI, hgI⟩ : ∃ gI, gI = Z3z l := ⟨_, rfl⟩;have hcg : ∀ BL : List D, BL = (Z6 j.moves).map I -> ∀ Q, (∀ e g, e = Z44 (NB : Int) l -> (e = 0 -> g = gI /\ 0 <= g /\ g <= 15) -> (e ≠ 0 -> g = 0) -> Q (RA.ret (.tup [I g, I e])) []) -> CallA Tryz.prog 61 [.sl 1 XL, I (A.oi (A.len BL))] [] Q := fun BL hBL Q h => by
  have e := yoiL hA (show BL.length = NB by rw [hBL, hNB, List.length_map]);rw [e, hgI] at *;exact Za1 l hl (NB : Int) ⟨by omega, by omega⟩ XL hX Q h
 obtain ⟨N, hN⟩ : ∃ N : Nat, IsI j.ins N := ⟨j.ins.toNat, ⟨by omega⟩⟩;have hN4 : N <= 4 := by have := hN.eq; omega
 cbv;refine Z4 hS [.agg [I j.ins, .sl 1 FL, .sl 5 ML], .fn 51 []] [] [] rfl rfl rfl rfl rfl rfl rfl rfl (by decide) trivial (hopn _ fun BL hBL => ?_);refine Z3 Z0 hA hS ?_;cbv;refine Z4 hS [.sl 1 XL, I (A.oi (A.len BL))] [] [] rfl rfl rfl rfl rfl rfl rfl rfl (by decide) trivial (hcg BL hBL _ fun ex gx hex hg0 _ => ?_);refine Z3 Z0 hA hS ?_;cbv;refine bm (fun c => ?_) (fun c => ?_)
 ·have hz := hx hj ex hex (xne hA c);cbv;exact Z2 [] (by decide) Z9 (H' := []) (d' := .tup [.v (.slice none 0 0), I ex]) trivial rfl (Z1 hz)
 have hcx : Z44 (NB : Int) l = 0 := hex.symm.trans (Z4t hA c);obtain ⟨hg1, hg2⟩ := hg0 (Z4t hA c);obtain ⟨g, hg⟩ : ∃ g : Nat -> Int, g = fun i : Nat => Z2i (Z4d j (Z3a (Z3z l) i)) := ⟨_, rfl⟩;have hmx : Z75 g N = (Zbn j (l.map Int.toNat)).map I := by
  have : j.ins.toNat = N := by have := hN.eq; omega
  rw [Z75, hg, Zbn, this]; rfl
 have hz0 := fun (h : Zc j = true) L hL => hq hj hcx h L hL;have hp0 := fun (h : Zc j = false) => hp hj hcx h;have hcN : A.cmp .neq 9 0 = true := by subst hA; rfl
 have hc00 : A.cmp .neq 0 0 = false := by subst hA; rfl
 cbv;refine Zb hS ?_;refine Za (α := Int × Nat × List D) (fun q => { env := [(2, .cb (.agg [I j.ins, .sl 1 FL, .sl 5 ML]) 0), (7, .cb (I gx) 0), (9, .o 0 1 q.2.1), (31, I j.ins), (32, I q.1)], H := [.els 1 q.2.2], nt := 52, dfs := [] })
  (fun q => N - q.2.1) (fun q => q.2.1 <= N /\ IsI q.1 q.2.1 /\ q.2.2 = Z75 g q.2.1 /\ (q.2.1 ≠ 0 -> Zc j = true)) (0, 0, []) ⟨Nat.zero_le _, ⟨rfl⟩, rfl, fun h => absurd rfl h⟩ ?_ ?_
 ·refine Z1a hA [0, 1] ?_;cbv;refine Z2a 9 1 rfl ?_;exact Zf [2] ⟨by decide, Z9, ⟨rfl, trivial⟩, ⟨rfl, rfl, rfl, rfl, rfl, trivial⟩, rfl, rfl⟩
 rintro ⟨i, k, L⟩ ⟨u1, u2, u3, u4⟩;dsimp only at u1 u2 u3 u4;have hLl : L.length = k := by rw [u3]; simp [Z75]
 have hsu := Zap g k;obtain ⟨v, hv⟩ : ∃ v, v = g k := ⟨_, rfl⟩;rw [<- hv] at hsu;have hie := u2.eq;have hv' : v = Z2i (Z4d j (Z3a gx i)) := by rw [hv, hg, hie, hg1, hgI]
 have hk6 : k <= 1000000 := by omega
 have hyes : A.cmp .lss i j.ins = true -> k < N := fun c => by have := xlt hA c; have := hN.eq; omega
 have hno : A.cmp .lss i j.ins = false -> k = N := fun c => by have := Z7x hA c; have := hN.eq; omega
 refine Zi Z0 hA hS ?_;cbv;refine bm (fun c => ?_) (fun c => ?_)
 ·have hk := hyes c;have hf1 := Zy hA u2 (by omega);have hu2 := Zz hA u2;have hms : N - (k + 1) < N - k := by omega
  have hL2 : A.app L [I v] = Z75 g (k + 1) := by rw [Z33 hA, hsu, u3]
  have hn2 : A.addN k 1 = k + 1 := Z2e hA _ _;cbv;refine Z26 hS (Z1a hA [1] ?_);cbv;refine Z7 ?_;refine Z4 hS [.agg [I j.ins, .sl 1 FL, .sl 5 ML], .fn 62 [.cb (I i) 0, .cb (I gx) 0]] [] [] rfl rfl rfl rfl rfl rfl rfl rfl (by decide) trivial (Zdj j hf hm (Z3a gx i) 62 _ (Zvq i gx hg2) FL ML hF hM _ (fun e2 he2 hne => absurd (he2.trans hc0) hne) (fun _ ents hme hne => ?_) (fun _ h0 => ?_))
  ·have hsok : ∀ s ∈ Zd j (Z3a gx i) 0, StOk s := fun s hs => by rw [<- Z66] at hs; exact Z8s (Ziw gx i) hj _ s hs
   have hst : k + 1 ≠ 0 -> Zc j = true := fun _ => (Z28 j _).2 hne;obtain ⟨lo, hlo⟩ : ∃ lo, lo = (Zs ((Zd j (Z3a gx i) 0).map (·.2))).1 := ⟨_, rfl⟩;obtain ⟨hi, hhi⟩ : ∃ hi, hi = (Zs ((Zd j (Z3a gx i) 0).map (·.2))).2 := ⟨_, rfl⟩;have hvv : v = Z2i (lo, hi) := by rw [hv', hlo, hhi]; rfl
   refine Z3 Z0 hA hS ?_;cbv;refine bmF hc00 ?_;cbv;refine Z4 hS [.mv 0, .fn 60 []] [2] [.ob (.mp 5 ents)] rfl rfl rfl rfl rfl rfl rfl rfl (by decide) ⟨rfl, trivial⟩ (Zcu ents _ hme hne hsok 60 _ _ Zoq lo hi hlo hhi _ ?_);refine Z3 Z0 hA hS ?_;cbv;refine Z4 hS [.agg [I lo, I hi]] [] [] rfl rfl rfl rfl rfl rfl rfl rfl (by decide) trivial (Zg2 lo hi v hvv _ ?_);refine Z3 Z0 hA hS ?_;cbv;refine ⟨Ze hA hLl, Ze hA rfl, Z27 hA hk6 (by decide), hf1, ?_⟩;refine Z8 (A.add i 1, k + 1, A.app L [I v]) [4] ⟨hk, hu2, hL2, hst⟩ hms ?_;exact ⟨by decide, Z9, ⟨rfl, trivial⟩, ⟨rfl, rfl, by rw [<- hn2]; rfl, rfl, rfl, trivial⟩, rfl, rfl⟩
  ·have hz := hp0 (Z3y h0);refine Z3 Z0 hA hS ?_;cbv;refine bmT hcN ?_;cbv;refine Z7 ?_;cbv;exact Z2 [] (by decide) Z9 (H' := []) (d' := .tup [.v (.slice none 0 0), I 9]) trivial rfl (Z1 hz)
 ·have hk := hno c;have hs1 : Zc j = true := u4 (by have := hN.eq; omega);have hz2 := hz0 hs1 L (by rw [u3, hk, hmx]);cbv;refine Z7 ?_;cbv;refine Z1w [0] ?_;cbv;exact ⟨by cases L <;> exact hLl.symm, Z2 [] (by decide) Z9 (H' := []) (d' := .tup [.sl 1 L, I 0]) trivial rfl (Z1 hz2)⟩
end Go.Proofs.YthljpccegkmdnaaGreatDoor

namespace Go.Batch
structure NarM (ins : Int) (m x : Mv) : Prop where
 kind : x.kind = m.kind
 bin : x.bin = m.bin
 lo : m.lo <= x.lo
 lh : x.lo <= x.hi
 hi : x.hi <= m.hi
 inst : x.inst = m.inst ∨ m.inst < 0 /\ -1 <= x.inst /\ x.inst < ins
theorem NarM.rfl {ins : Int} {m : Mv} (h : m.lo <= m.hi) : NarM ins m m := ⟨Eq.refl _, Eq.refl _, Int.le_refl _, h, Int.le_refl _, .inl (Eq.refl _)⟩
theorem NarM.ok {j j' : Jn} (hi : j'.ins = j.ins) (hf : j'.first = j.first) {m x : Mv} (h : NarM j.ins m x) (hm : MOk j m) : MOk j' x := by
 have e1 := h.kind; have e2 := h.bin; have e3 := h.lo; have e4 := h.lh; have e5 := h.hi;have g1 := hm.k1; have g2 := hm.k3; have g3 := hm.b0; have g4 := hm.b1; have g5 := hm.l0; have g6 := hm.h5;refine ⟨by omega, by omega, by omega, by rw [hf, e2]; exact g4, fun hk => ?_, fun hk => ?_, fun hk => ?_, by omega, e4, by omega⟩
 ·rcases h.inst with e | ⟨-, e, -⟩
  ·rw [e]; exact hm.i0 (by omega)
  ·exact e
 ·rw [hi];rcases h.inst with e | ⟨-, -, e⟩
  ·rw [e]; exact hm.i1 (by omega)
  ·exact e
 ·rcases h.inst with e | ⟨e, -, -⟩
  ·rw [e]; exact hm.i2 (by omega)
  ·have := hm.i2 (by omega); omega
theorem NarM.step {ν : Type} {j j' : Jn} {tk : Tk ν} (hi : j'.ins = j.ins) (hf : j'.first = j.first) {bins : List Int} {m x : Mv} (h : NarM j.ins m x) (hm : MOk j m) (b : Nat) (s : Ste ν) : ∀ y ∈ Z22 j' tk bins x b s, y ∈ Z22 j tk bins m b s := fun y hy => by
 have e1 := h.kind; have e2 := h.bin; have e3 := h.lo; have e5 := h.hi;unfold Z22 at hy ⊢;rw [e1, e2, hi, hf] at hy
 split at hy
 ·rename_i hk
  rw [if_pos hk];obtain ⟨n, hn, e⟩ := List.mem_map.1 hy;rw [Z2d] at hn;exact List.mem_map.2 ⟨n, Z2d.2 (by omega), e⟩
 split at hy
 ·rename_i hk1 hk
  rw [if_neg hk1, if_pos hk];obtain ⟨i, hii, hy⟩ := List.mem_flatMap.1 hy;obtain ⟨n, hn, hy⟩ := List.mem_flatMap.1 hy;rw [Z2d] at hn;refine List.mem_flatMap.2 ⟨i, ?_, List.mem_flatMap.2 ⟨n, Z2d.2 (by omega), hy⟩⟩;unfold Z9q at hii ⊢;rcases h.inst with e | ⟨g1, g2, g3⟩
  ·rw [e] at hii; exact hii
  ·rw [if_pos g1, Z2d]
   split at hii
   ·rw [Z2d] at hii; exact hii
   ·simp at hii; omega
 ·rename_i hk1 hk
  rw [if_neg hk1, if_neg hk]
  split at hy
  ·rename_i hc
   rw [if_pos (by omega)]; exact hy
  ·simp at hy
structure Sub (x j : Jn) : Prop where
 ins : x.ins = j.ins
 bins : Z6 x.moves = Z6 j.moves
 ok : JOk j
 ok' : JOk x
 sub : ∀ s ∈ Zd x Z1f [], s ∈ Zd j Z1f []
theorem Sub.cnt {x j : Jn} (h : Sub x j) {bin lo hi : Int} (hm : MOk x ⟨3, bin, 0, lo, hi⟩) (hl : x.moves.length < 10) : Sub ⟨x.ins, x.first, x.moves ++ [⟨3, bin, 0, lo, hi⟩]⟩ j := by
 have hb : Z6 (x.moves ++ [⟨3, bin, 0, lo, hi⟩]) = Z6 x.moves := by rw [Z2t]; simp [Z6]
 have hx := h.ok';refine ⟨h.ins, hb.trans h.bins, h.ok, ⟨hx.i1, hx.i4, hx.f1, hx.f2, by simp; omega, fun m hm' => ?_, by rw [hb]; exact hx.b4⟩, fun s hs => h.sub s ?_⟩
 ·have key : MOk x m := by
   rcases List.mem_append.1 hm' with h | h
   ·exact hx.mv m h
   ·simp at h; subst h; exact hm
  exact ⟨key.k1, key.k3, key.b0, key.b1, key.i0, key.i1, key.i2, key.l0, key.lh, key.h5⟩
 ·unfold Zd at hs ⊢;rw [hb, Z6u, Zcl (tk := Z1f) (j := Jn.mk x.ins x.first (x.moves ++ [Mv.mk 3 bin 0 lo hi])) (j' := x) rfl rfl (Z6 x.moves) x.moves 0 [([0, 0, 0, 0], [])]] at hs;simp only [Z2u] at hs;obtain ⟨s0, h0, hs⟩ := List.mem_flatMap.1 hs;unfold Z22 at hs;rw [if_neg (by simp), if_neg (by simp)] at hs
  split at hs
  ·simp at hs; subst hs; exact h0
  ·simp at hs
theorem Sub.ends {x j : Jn} (h : Sub x j) {ν : Type} (tk : Tk ν) (z : ν) : ∀ s ∈ Zd x tk z, s ∈ Zd j tk z := fun s hs => by
 rw [Z1n] at hs ⊢;obtain ⟨y, hy, e⟩ := List.mem_map.1 hs;exact List.mem_map.2 ⟨y, h.sub y hy, e⟩
theorem Sub.stands {x j : Jn} (h : Sub x j) (hs : Zc x = true) : Zc j = true := by
 have h1 := Zoo hs
 cases e : Zd x Z1f [] with
 | nil => exact absurd e h1
 | cons y l => exact Zh8 (h.sub y (by rw [e]; simp))
theorem Zq9 {l l' : List Int} (hne : l' ≠ []) (h : ∀ x ∈ l', x ∈ l) : (Zs l).1 <= (Zs l').1 /\ (Zs l').2 <= (Zs l).2 :=
 ⟨Z4b (h _ (Z50 hne)), Z4k (h _ (Z6v hne))⟩
theorem Sub.rest {x j : Jn} (h : Sub x j) (hs : Zc x = true) {b : Nat} {r r' : Int × Int} (hr : (Z4c j)[b]? = some r) (hr' : (Z4c x)[b]? = some r') : r.1 <= r'.1 /\ r'.2 <= r.2 := by
 have key : ∀ (y : Jn) (r : Int × Int), (Z4c y)[b]? = some r -> r = Zs ((Zd y Zn 0).map fun s => s.1.getD b 0) := fun y r hr => by
  unfold Z4c at hr;rw [List.getElem?_map] at hr
  cases e : (List.range (Z6 y.moves).length)[b]? with
  | none => rw [e] at hr; simp at hr
  | some c =>
   rw [e] at hr;obtain ⟨g1, g2⟩ := List.getElem?_eq_some_iff.1 e;simp at g2 hr; subst g2; exact hr.symm
 rw [key j r hr, key x r' hr'];refine Zq9 (fun e => Z55 hs Zn (List.map_eq_nil_iff.1 e)) fun y hy => ?_;obtain ⟨s, hs', e⟩ := List.mem_map.1 hy;exact List.mem_map.2 ⟨s, h.ends _ _ s hs', e⟩
theorem Sub.call {x j : Jn} (h : Sub x j) (hs : Zc x = true) {l : List Nat} (hl : ∀ y ∈ l, y < 4) {i : Nat} (hc : Zkr x l i = true) : Zkr j l i = true := by
 rw [Zde h.ok' hs hl] at hc;rw [Zde h.ok (h.stands hs) hl];obtain ⟨y, hy, p⟩ := hc;exact ⟨y, h.sub y hy, p⟩
end Go.Batch

namespace Go.Batch
def Ziy (v : Int) (is : Bool) : Bool := decide (v = 3) || (decide (v = 1) && is) || (decide (v = 2) && !is)
theorem Ze2 {l : List Int} {x : Int} (hx : x ∈ l) (hnn : ∀ y ∈ l, 0 <= y) {is : Bool} (h : is = true ↔ 0 < x) : Ziy (Z2i (Zs l)) is = true := by
 have h1 := Z4b hx;have h2 := Z4k hx;have e1 : (Zs l).1 = Z6a l := rfl;have e2 : (Zs l).2 = Z80 l := rfl;have h0 := hnn x hx;unfold Z2i Ziy
 split
 ·have : is = true := h.2 (by omega);simp [this]
 ·split
  ·have : is = false := by
    cases is with
    | false => rfl
    | true => have := h.1 rfl; omega
   simp [this]
  ·simp
def Z8z (f : Nat -> Int) : Nat -> Nat
 | 0 => 0
 | b + 1 => Z8z f b + if 0 < f b then 1 else 0
theorem Zfs (f : Nat -> Int) {a : Nat} (h : ∀ b, a <= b -> f b <= 0) : ∀ k, Z8z f (a + k) = Z8z f a
 | 0 => rfl
 | k + 1 => by
  show Z8z f (a + k) + (if 0 < f (a + k) then 1 else 0) = Z8z f a;rw [Zfs f h k, if_neg (by have := h (a + k) (by omega); omega), Nat.add_zero]
theorem Zft : ∀ S : Fin 16, 0 <= Z43 (S.val : Int) /\ (0 < Z43 (S.val : Int) ↔ 1 < Z8z (fun b => if Z2s (S.val : Int) b = true then 1 else 0) 4) := by decide +kernel
theorem Zaj (f : Int × Nat × Int -> Bool) (g : Int × Nat × Int -> Nat) (tk : Tk Int) (ht : ∀ z p, tk z p.1 p.2.1 p.2.2 = if f p = true then Z2h z (g p) else z) : ∀ (l : List (Int × Nat × Int)) (z : Int), (∀ p ∈ l, f p = true -> g p < 4) -> 0 <= z /\ z <= 15 ->
  (0 <= Zt tk z l /\ Zt tk z l <= 15) /\ ∀ b, b < 4 -> (Z2s (Zt tk z l) b = true ↔ Z2s z b = true ∨ ∃ p ∈ l, f p = true /\ g p = b)
 | [], z, _, hz => ⟨hz, fun b _ => by simp [Zt]⟩
 | p :: l, z, hg, hz => by
  have e : Zt tk z (p :: l) = Zt tk (tk z p.1 p.2.1 p.2.2) l := rfl;rw [e, ht]
  by_cases hf : f p = true
  ·rw [if_pos hf];have hgp := hg p (by simp) hf;have e2 : ((z.toNat : Nat) : Int) = z := by omega
   have w := fun b : Fin 4 => Zcn ⟨z.toNat, by omega⟩ ⟨g p, hgp⟩ b;simp only [e2] at w;obtain ⟨h1, h2⟩ := Zaj f g tk ht l (Z2h z (g p)) (fun q hq => hg q (by simp [hq])) (w ⟨0, by decide⟩).2;refine ⟨h1, fun b hb => ?_⟩;rw [h2 b hb, (w ⟨b, hb⟩).1, Bool.or_eq_true, decide_eq_true_eq];constructor
   ·rintro ((h | h) | ⟨q, hq, h⟩)
    ·exact .inl h
    ·exact .inr ⟨p, by simp, hf, h⟩
    ·exact .inr ⟨q, by simp [hq], h⟩
   ·rintro (h | ⟨q, hq, h, h'⟩)
    ·exact .inl (.inl h)
    ·rcases List.mem_cons.1 hq with e | hq
     ·subst e; exact .inl (.inr h')
     ·exact .inr ⟨q, hq, h, h'⟩
  ·rw [if_neg hf];obtain ⟨h1, h2⟩ := Zaj f g tk ht l z (fun q hq => hg q (by simp [hq])) hz;refine ⟨h1, fun b hb => ?_⟩;rw [h2 b hb];constructor
   ·rintro (h | ⟨q, hq, h⟩)
    ·exact .inl h
    ·exact .inr ⟨q, by simp [hq], h⟩
   ·rintro (h | ⟨q, hq, h, h'⟩)
    ·exact .inl h
    ·rcases List.mem_cons.1 hq with e | hq
     ·subst e; exact absurd h hf
     ·exact .inr ⟨q, hq, h, h'⟩
structure Tru (j : Jn) (own : Int -> Nat -> Int) (lies : List Int) : Prop where
 path : ∃ p, (lies, p) ∈ Zd j Z1f [] /\ ∀ n b, 0 <= n -> Z59 n b p = own n b
section
variable {j : Jn} {own : Int -> Nat -> Int} {lies : List Int}
theorem Tru.own_iff (hj : JOk j) {p : List (Int × Nat × Int)} (hp : (lies, p) ∈ Zd j Z1f []) (ho : ∀ n b, 0 <= n -> Z59 n b p = own n b) {n : Int} (hn : 0 <= n) (b : Nat) : 0 <= own n b /\ (0 < own n b ↔ ∃ q ∈ p, q.1 = n /\ q.2.1 = b) := by
 rw [<- ho n b hn];exact Zco n b p fun q hq => ((Z6m hj _ hp).all q hq).2.2.2
theorem Tru.zero (h : Tru j own lies) (hj : JOk j) {n : Int} (hn : 0 <= n) {b : Nat} (hb : (Z6 j.moves).length <= b) : own n b = 0 := by
 obtain ⟨p, hp, ho⟩ := h.path;obtain ⟨h1, h2⟩ := Tru.own_iff hj hp ho hn b;rcases Int.lt_or_eq_of_le h1 with g | g
 ·obtain ⟨q, hq, -, e⟩ := h2.1 g;have := ((Z6m hj _ hp).all q hq).2.2.1;omega
 ·exact g.symm
theorem Tru.amt (h : Tru j own lies) {n : Int} (hn : 0 <= n) (b : Nat) : (Z4d j (Z2v n b)).1 <= own n b /\ own n b <= (Z4d j (Z2v n b)).2 := by
 obtain ⟨p, hp, ho⟩ := h.path;have := Zv3 hp n b;simp only [ho n b hn] at this;exact ⟨Z4b this, Z4k this⟩
theorem Tru.has (h : Tru j own lies) (hj : JOk j) {n : Int} (hn : 0 <= n) {l : List Nat} (hl : ∀ x ∈ l, x < 4) : Ziy (Z2i (Z4d j (Z3a (Z1p l) n))) (decide (∃ b ∈ l, 0 < own n b)) = true := by
 obtain ⟨p, hp, ho⟩ := h.path;have hm : Zt (Z3a (Z1p l) n) 0 p ∈ (Zd j (Z3a (Z1p l) n) 0).map (·.2) := by
  rw [Z1n];simp only [List.map_map, List.mem_map, Function.comp_def];exact ⟨_, hp, rfl⟩
 refine Ze2 hm (fun y hy => ?_) ?_
 ·obtain ⟨s, hs, rfl⟩ := List.mem_map.1 hy;exact (Zq4 (Ziw _ n) hj s hs).n0
 rw [decide_eq_true_eq, Z72];have key : (∃ b ∈ l, 0 < own n b) ↔ ∃ q ∈ p, q.1 = n /\ Z2s (Z1p l) q.2.1 = true := by
  have h4 := hj.b4;constructor
  ·rintro ⟨b, hb, h⟩;obtain ⟨q, hq, e1, e2⟩ := (Tru.own_iff hj hp ho hn b).2.1 h;refine ⟨q, hq, e1, ?_⟩;rw [e2, Z56 hl (hl b hb), decide_eq_true_eq]; exact hb
  ·rintro ⟨q, hq, e1, e2⟩;have hb := ((Z6m hj _ hp).all q hq).2.2.1;rw [Z56 hl (by omega), decide_eq_true_eq] at e2;exact ⟨q.2.1, e2, (Tru.own_iff hj hp ho hn q.2.1).2.2 ⟨q, hq, e1, rfl⟩⟩
 rw [key]
 by_cases hc : ∃ q ∈ p, q.1 = n /\ Z2s (Z1p l) q.2.1 = true
 ·rw [if_pos hc]; simp [hc]
 ·rw [if_neg hc]; simp [hc]
theorem Tru.call (h : Tru j own lies) (hj : JOk j) (hs : Zc j = true) {n : Nat} {l : List Nat} (hl : ∀ x ∈ l, x < 4) {b : Nat} (hb : b ∈ l) (h0 : 0 < own n b) : Zkr j l n = true := by
 obtain ⟨p, hp, ho⟩ := h.path;obtain ⟨q, hq, e1, e2⟩ := (Tru.own_iff hj hp ho (Int.natCast_nonneg n) b).2.1 h0;exact (Zde hj hs hl n).2 ⟨_, hp, q, hq, e1, by rw [e2]; exact hb⟩
theorem Tru.mixed (h : Tru j own lies) (hj : JOk j) {n : Int} (hn : 0 <= n) : Ziy (Z2i (Zs ((Zd j (Z29 n) 0).map fun s => Z43 s.2))) (decide (1 < Z8z (own n) (Z6 j.moves).length)) = true := by
 obtain ⟨p, hp, ho⟩ := h.path;have h4 := hj.b4;have hm : Z43 (Zt (Z29 n) 0 p) ∈ (Zd j (Z29 n) 0).map (fun s => Z43 s.2) := by
  rw [Z1n];simp only [List.map_map, List.mem_map, Function.comp_def];exact ⟨_, hp, rfl⟩
 have bits : ∀ q : List (Int × Nat × Int), (∀ x ∈ q, x.2.1 < 4) -> _ := fun q hq => Zaj (fun x => decide (x.1 = n)) (fun x => x.2.1) (Z29 n) (fun z x => by simp [Z29]) q 0 (fun x hx _ => hq x hx) (by decide);refine Ze2 hm (fun y hy => ?_) ?_
 ·rw [Z1n] at hy;simp only [List.map_map, List.mem_map, Function.comp_def] at hy;obtain ⟨s, hs, rfl⟩ := hy;have hb := (bits s.2 fun x hx => by have := ((Z6m hj _ hs).all x hx).2.2.1; omega).1;have := (Zft ⟨(Zt (Z29 n) 0 s.2).toNat, by omega⟩).1;have e : (((Zt (Z29 n) 0 s.2).toNat : Nat) : Int) = Zt (Z29 n) 0 s.2 := by omega
  simp only [e] at this;exact this
 ·obtain ⟨hb, hh⟩ := bits p fun x hx => by have := ((Z6m hj _ hp).all x hx).2.2.1; omega
  have := (Zft ⟨(Zt (Z29 n) 0 p).toNat, by omega⟩).2;have e : (((Zt (Z29 n) 0 p).toNat : Nat) : Int) = Zt (Z29 n) 0 p := by omega
  simp only [e] at this;rw [this, decide_eq_true_eq];have e4 : Z8z (own n) (Z6 j.moves).length = Z8z (own n) 4 := by
   have := Zfs (own n) (a := (Z6 j.moves).length) (fun b hb => Int.le_of_eq (h.zero hj hn hb)) (4 - (Z6 j.moves).length);rw [Nat.add_sub_cancel' h4] at this;exact this.symm
  rw [e4];have eq : ∀ k, k <= 4 -> Z8z (own n) k = Z8z (fun b => if Z2s (Zt (Z29 n) 0 p) b = true then 1 else 0) k := fun k => by
   induction k with
   | zero => intro _; rfl
   | succ k ih =>
    intro hk;unfold Z8z;rw [ih (by omega)]
    congr 1
    have h1 := hh k (by omega);have h2 := (Tru.own_iff hj hp ho hn k).2;have h0 : Z2s 0 k = false := by unfold Z2s; simp
    rw [h0] at h1;simp only [Bool.false_eq_true, false_or, decide_eq_true_eq] at h1
    by_cases hc : 0 < own n k
    ·have := h1.2 (h2.1 hc);rw [if_pos hc, this]; rfl
    ·have : ¬ Z2s (Zt (Z29 n) 0 p) k = true := fun g => hc (h2.2 (h1.1 g));rw [if_neg hc, if_neg this]; rfl
  rw [eq 4 (Nat.le_refl _)]
theorem Tru.rest (h : Tru j own lies) {b : Nat} {r : Int × Int} (hr : (Z4c j)[b]? = some r) : r.1 <= lies.getD b 0 /\ lies.getD b 0 <= r.2 := by
 obtain ⟨p, hp, -⟩ := h.path;have hm := Zsk hp b;have e : r = Zs ((Zd j Zn 0).map fun s => s.1.getD b 0) := by
  unfold Z4c at hr;rw [List.getElem?_map] at hr
  cases e : (List.range (Z6 j.moves).length)[b]? with
  | none => rw [e] at hr; simp at hr
  | some c =>
   rw [e] at hr;obtain ⟨g1, g2⟩ := List.getElem?_eq_some_iff.1 e;simp at g2 hr; subst g2; exact hr.symm
 rw [e];exact ⟨Z4b hm, Z4k hm⟩
theorem Tru.left (h : Tru j own lies) {n : Nat} {r : Int × Int} (hr : (Z6g j)[n]? = some r) : r.1 <= inL n (Z6 j.moves) lies /\ inL n (Z6 j.moves) lies <= r.2 := by
 obtain ⟨p, hp, -⟩ := h.path;have hm : inL n (Z6 j.moves) lies ∈ (Zd j Zn 0).map fun s => inL n (Z6 j.moves) s.1 := by
  rw [Z1n];simp only [List.map_map, List.mem_map, Function.comp_def];exact ⟨_, hp, rfl⟩
 have e : r = Zs ((Zd j Zn 0).map fun s => inL n (Z6 j.moves) s.1) := by
  unfold Z6g at hr;rw [List.getElem?_map] at hr
  cases e : (List.range j.first.length)[n]? with
  | none => rw [e] at hr; simp at hr
  | some c =>
   rw [e] at hr;obtain ⟨g1, g2⟩ := List.getElem?_eq_some_iff.1 e;simp at g2 hr; subst g2; exact hr.symm
 rw [e];exact ⟨Z4b hm, Z4k hm⟩
end
end Go.Batch

namespace Go.Batch
theorem find_at {α : Type} {P : α -> Bool} {l pre post : List α} {y : α} (e : l = pre ++ y :: post) (h : ∀ x ∈ pre, P x = false) (hy : P y = true) : l.find? P = some y := by
 subst e;rw [List.find?_append];have : pre.find? P = none := List.find?_eq_none.2 fun x hx => by rw [h x hx]; exact Bool.false_ne_true
 rw [this];simp [hy]
def Z9v (j : Jn) (k : Nat) : List (List Nat) := (List.range k).flatMap (Zw (Zp j))
theorem Zfu (j : Jn) (k : Nat) : Z9v j (k + 1) = Z9v j k ++ Zw (Zp j) k := by
 unfold Z9v; rw [List.range_succ, List.flatMap_append]; simp
theorem Zv5 (j : Jn) : Z9t j = Z9v j ((Zp j).length + 1) := rfl
theorem Zv6 {j : Jn} : ∀ {k : Nat}, k <= (Zp j).length + 1 -> ∃ post, Z9t j = Z9v j k ++ post := fun {k} h => by
 refine ⟨((List.range ((Zp j).length + 1 - k)).map (k + ·)).flatMap (Zw (Zp j)), ?_⟩;have e : List.range ((Zp j).length + 1) = List.range k ++ (List.range ((Zp j).length + 1 - k)).map (k + ·) := by
  have := List.range_add (n := k) (m := (Zp j).length + 1 - k)
  rwa [Nat.add_sub_cancel' h] at this
 unfold Z9t Z9v;rw [e, List.flatMap_append]
def Z6d (j : Jn) (k i : Nat) : Prop := (∀ x ∈ Z9v j k, Zc (Z12 j x) = false) /\ ∀ x ∈ (Zw (Zp j) k).take i, Zc (Z12 j x) = false
theorem Z6d.next {j : Jn} {k i : Nat} (h : Z6d j k i) {x : List Nat} (hx : (Zw (Zp j) k)[i]? = some x) (hs : Zc (Z12 j x) = false) : Z6d j k (i + 1) := ⟨h.1, fun y hy => by
 rw [List.take_add_one, hx] at hy
 rcases List.mem_append.1 hy with hy | hy
 ·exact h.2 y hy
 ·simp at hy; subst hy; exact hs⟩
theorem Z6d.more {j : Jn} {k i : Nat} (h : Z6d j k i) (hi : (Zw (Zp j) k).length <= i) : Z6d j (k + 1) 0 := ⟨fun y hy => by
 rw [Zfu] at hy
 rcases List.mem_append.1 hy with hy | hy
 ·exact h.1 y hy
 ·exact h.2 y (by rw [List.take_of_length_le hi]; exact hy), fun y hy => by simp at hy⟩
theorem Z6d.hit {j : Jn} {k i : Nat} (h : Z6d j k i) (hk : k <= (Zp j).length) {x : List Nat} (hx : (Zw (Zp j) k)[i]? = some x) (hs : Zc (Z12 j x) = true) : Z6c j = some x := by
 obtain ⟨post, e⟩ := Zv6 (j := j) (k := k + 1) (by omega);rw [Zfu] at e;have hi := (List.getElem?_eq_some_iff.1 hx);obtain ⟨hil, hie⟩ := hi;have e2 : Zw (Zp j) k = (Zw (Zp j) k).take i ++ x :: (Zw (Zp j) k).drop (i + 1) := by
  conv => lhs; rw [<- List.take_append_drop i (Zw (Zp j) k)]
  rw [List.drop_eq_getElem_cons hil, hie]
 rw [e2] at e;unfold Z6c;refine find_at (pre := Z9v j k ++ (Zw (Zp j) k).take i) (y := x) (post := (Zw (Zp j) k).drop (i + 1) ++ post) (by rw [e]; simp) (fun y hy => ?_) hs;rcases List.mem_append.1 hy with hy | hy
 ·exact h.1 y hy
 ·exact h.2 y hy
theorem Z6d.all {j : Jn} {k : Nat} (h : Z6d j k 0) (hk : (Zp j).length < k) : Z6c j = none := by
 unfold Z6c;rw [List.find?_eq_none];intro x hx;rw [Zv5] at hx;have : x ∈ Z9v j k := by
  unfold Z9v at hx ⊢;obtain ⟨i, hi, hx⟩ := List.mem_flatMap.1 hx;rw [List.mem_range] at hi;exact List.mem_flatMap.2 ⟨i, List.mem_range.2 (by omega), hx⟩
 rw [h.1 x this];exact Bool.false_ne_true
end Go.Batch

namespace Go.Batch
structure Asc (n : Nat) (l : List Nat) : Prop where
 lt : ∀ x ∈ l, x < n
 pw : l.Pairwise (· < ·)
theorem Asc.filter {n : Nat} {l : List Nat} (h : Asc n l) (P : Nat -> Bool) : Asc n (l.filter P) := ⟨fun x hx => h.lt x (List.mem_filter.1 hx).1, h.pw.filter P⟩
theorem Asc.mono {n m : Nat} {l : List Nat} (h : Asc n l) (hm : n <= m) : Asc m l := ⟨fun x hx => by have := h.lt x hx; omega, h.pw⟩
theorem Zop {n : Nat} : ∀ (l : List Nat) (a : Nat), (∀ x ∈ l, a <= x /\ x < n) -> l.Pairwise (· < ·) -> l ≠ [] -> l.length + a <= n
 | [x], a, h, _, _ => by have := h x (by simp); simp only [List.length_singleton]; omega
 | x :: y :: l, a, h, hp, _ => by
  have hx := h x (by simp);have hc := List.pairwise_cons.1 hp;have := Zop (y :: l) (x + 1) (fun z hz => ⟨hc.1 z hz, (h z (by simp [hz])).2⟩) hc.2 (by simp);rw [List.length_cons]; omega
theorem Asc.len {n : Nat} {l : List Nat} (h : Asc n l) : l.length <= n := by
 rcases List.eq_nil_or_concat l with e | e
 ·rw [e]; exact Nat.zero_le _
 ·exact Zop l 0 (fun x hx => ⟨Nat.zero_le _, h.lt x hx⟩) h.pw (by rintro rfl; obtain ⟨_, _, h⟩ := e; simp at h)
theorem Asc.sub {n : Nat} {l l' : List Nat} (h : Asc n l) (hs : l'.Sublist l) : Asc n l' := ⟨fun x hx => h.lt x (hs.subset hx), h.pw.sublist hs⟩
end Go.Batch

namespace Go.Proofs.YthljpccegkmdnaaGreatDoor
open Go Go.Abs Go.Proofs Go.Batch
theorem Zhp {n : Nat} : ∀ (l : List Nat) (p : Option Int), (∀ x ∈ l, x < n /\ p.all (fun q => decide (q < (x : Int))) = true) -> l.Pairwise (· < ·) -> Z76 (n : Int) p (l.map fun i : Nat => (i : Int)) = 0
 | [], _, _, _ => rfl
 | x :: l, p, h, hp => by
  have h1 := h x (by simp);have hc := List.pairwise_cons.1 hp;simp only [List.map_cons, Z76];rw [if_neg (fun g => g ⟨by omega, by omega⟩), if_neg]
  ·exact Zhp l _ (fun y hy => ⟨(h y (by simp [hy])).1, by simp; exact hc.1 y hy⟩) hc.2
  ·intro g
   cases p with
   | none => simp at g
   | some q =>
    have h2 := h1.2;simp at g h2; omega
theorem Zvr {n : Nat} {l : List Nat} (h : Asc n l) : Z44 (n : Int) (l.map fun i : Nat => (i : Int)) = 0 := Zhp l none (fun x hx => ⟨h.lt x hx, rfl⟩) h.pw
theorem Ztb (l : List Nat) : (l.map fun i : Nat => (i : Int)).map Int.toNat = l := by
 rw [List.map_map]; exact (List.map_congr_left fun i _ => Int.toNat_natCast i).trans (List.map_id _)
section
variable {j : Jn} {ins : Int} {N n m : Nat} {FL ML : List D}
theorem MdJ.has (h : MdJ j ins N n m FL ML) {NB : Nat} (hNB : NB = (Z6 j.moves).length) {l : List Nat} (hl : Asc NB l) {XL : List D} (hX : XL = Z1y l) (Q) (hq : ∀ L, L = (Zbn j l).map I -> Q (RA.ret (.tup [.sl 1 L, I 0])) []) :
  CallA Tryz.prog 20 [.agg [I ins, .sl 1 FL, .sl 5 ML], .sl 1 XL] [] Q := by
 have e := h.ie;subst e;have hc := Zvr hl;rw [hNB] at hc;have hb := h.ok.b4;have hn := hl.len;refine Zzv j h.fl h.ml (l.map fun i : Nat => (i : Int)) (lim (by simp; omega)) FL ML XL h.F h.M (by rw [hX, Z1y, List.map_map]; rfl) Q (fun e h1 h2 => Z77 h.c0 h1 h2) (fun _ e h1 h2 => absurd (h1.trans hc) h2) (fun _ _ g => Z7p h.st g) (fun _ _ _ L hL => hq L ?_);rw [hL, Ztb]
end
end Go.Proofs.YthljpccegkmdnaaGreatDoor

namespace Go.Proofs.YthljpccegkmdnaaGreatDoor
open Go Go.Abs Go.Proofs Go.Batch
end Go.Proofs.YthljpccegkmdnaaGreatDoor

namespace Go.Proofs.YthljpccegkmdnaaGreatDoor
open Go Go.Abs Go.Proofs Go.Batch
end Go.Proofs.YthljpccegkmdnaaGreatDoor

namespace Go.Proofs.YthljpccegkmdnaaGreatDoor
open Go Go.Abs Go.Proofs Go.Batch
section
variable {P : Program} {T : TT} {r : Option Nat} {m : Nat}
end
theorem Zxb {A : Ar} (hA : A = ar) (x : Int) : A.cmp .eql x x = true := by subst hA; simp [ar, Z25]
set_option maxRecDepth 20000 in
set_option maxHeartbeats 4000000 in
theorem Zgg (j : Jn) (FL ML : List D) (hF : FL = j.first.map Zv) (hM : ML = j.moves.map mvD) (hf20 : j.first.length <= 1000000) (hm20 : j.moves.length <= 1000000) (Q) (hq : Q (RA.ret (.v (.bool true))) []) :
  CallA Tryz.prog 32 [.agg [I j.ins, .sl 1 FL, .sl 5 ML], .agg [I j.ins, .sl 1 FL, .sl 5 ML]] [] Q := by
 obtain ⟨A, hA⟩ : ∃ A, A = ar := ⟨_, rfl⟩;obtain ⟨N, hN⟩ : ∃ N, N = j.first.length := ⟨_, rfl⟩;obtain ⟨W, hW⟩ : ∃ W, W = j.moves.length := ⟨_, rfl⟩;have hFl : FL.length = N := by rw [hF, hN]; simp
 have hMl : ML.length = W := by rw [hM, hW]; simp
 have e1 := Zxb hA j.ins;have e2 := Zxb hA (A.oi (A.len FL));have e3 := Zxb hA (A.oi (A.len ML));refine Z38 Z0 hA [1] Tryz.func32 rfl rfl rfl rfl rfl fun S hS => ?_;cbv;refine Zch hS { env := [(2, .b 0 0), (3, .b 1 0), (5, .v (.bool true))], H := [.box (.agg [I j.ins, .sl 1 FL, .sl 5 ML]), .box (.agg [I j.ins, .sl 1 FL, .sl 5 ML])], nt := 74, dfs := [] } ?_ ?_
 ·refine Z4j Z0 hA hS [0, 1, 2, 3, 4] [5, 6, 7, 8, 9, 10, 11, 12, 13, 14, 15, 16, 17, 18, 19, 20, 21, 22, 23] rfl ?_;cbv;refine Zis Z0 hA hS 12 (.v (.bool true)) rfl (congrArg (fun b => D.v (.bool b)) e1) [5, 6, 7, 8, 9, 10, 11, 12] [13, 14, 15, 16, 17, 18, 19, 20, 21, 22, 23] ?_;cbv;refine Zis Z0 hA hS 20 (.v (.bool true)) rfl (congrArg (fun b => D.v (.bool b)) e2) [13, 14, 15, 16, 17, 18, 19, 20, 21] [22, 23] ?_;cbv;refine Zis Z0 hA hS 29 (.v (.bool true)) rfl (congrArg (fun b => D.v (.bool b)) e3) [22, 23] [] ?_;cbv;refine Zii hS (Z3 Z0 hA hS ?_);cbv;exact Zf [0, 1] ⟨by decide, Z9, ⟨rfl, rfl, trivial⟩, ⟨rfl, rfl, rfl, trivial⟩, rfl, rfl⟩
 cbv;refine Zb hS ?_;refine Za (α := Int × Nat) (fun q => { env := [(2, .b 0 0), (3, .b 1 0), (5, .v (.bool true)), (6, I q.1)], H := [.box (.agg [I j.ins, .sl 1 FL, .sl 5 ML]), .box (.agg [I j.ins, .sl 1 FL, .sl 5 ML])], nt := 74, dfs := [] })
  (fun q => N - q.2) (fun q => q.2 <= N /\ IsI q.1 q.2) (0, 0) ⟨Nat.zero_le _, ⟨rfl⟩⟩ ?_ ?_
 ·exact Zf [0, 1] ⟨by decide, Z9, ⟨rfl, rfl, trivial⟩, ⟨rfl, rfl, rfl, rfl, trivial⟩, rfl, rfl⟩
 rintro ⟨i, k⟩ ⟨u1, u2⟩;dsimp only at u1 u2;refine Z2w Z0 hA hS [] ?_;cbv;refine bm (fun c => ?_) (fun c => ?_)
 ·have hk : k < N := Z31 hA hFl u2 c;obtain ⟨x, hx⟩ : ∃ x, j.first[k]? = some x := ⟨_, List.getElem?_eq_getElem (by omega)⟩;have hbq : A.beq x x = true := by subst hA; cases x <;> rfl
  have hFk : FL[k]? = some (.v (.bool x)) := by rw [hF, List.getElem?_map, hx]; rfl
  have hin := Z1b hA hFl u2 hk;have hg := Z18 hA u2 hFk;have hf := Zy hA u2 (by omega);have hu2 := Zz hA u2;have hms : N - (k + 1) < N - k := by omega
  cbv;refine Z5j Z0 hA hS [10] [0, 1, 2, 3, 4, 5, 6, 7, 8, 9, 10, 11] rfl rfl fun Dk hD => ?_;cbv;refine ⟨hin, ⟨_, hg, ?_⟩⟩;cbv;refine ⟨hin, ⟨_, hg, ?_⟩⟩;cbv;refine Z9n Z0 hA hD [] (.v (.bool true)) rfl rfl rfl rfl rfl rfl (congrArg (fun b => D.v (.bool b)) hbq) ?_;cbv;refine ⟨hf, ?_⟩;refine Z8 (A.add i 1, k + 1) [0, 1] ⟨hk, hu2⟩ hms ?_;exact ⟨by decide, Z9, ⟨rfl, rfl, trivial⟩, ⟨rfl, rfl, rfl, rfl, trivial⟩, rfl, rfl⟩
 cbv;refine Z7 ?_;cbv;refine Zb hS ?_;refine Za (α := Int × Nat) (fun q => { env := [(2, .b 0 0), (3, .b 1 0), (5, .v (.bool true)), (7, I q.1)], H := [.box (.agg [I j.ins, .sl 1 FL, .sl 5 ML]), .box (.agg [I j.ins, .sl 1 FL, .sl 5 ML])], nt := 74, dfs := [] })
  (fun q => W - q.2) (fun q => q.2 <= W /\ IsI q.1 q.2) (0, 0) ⟨Nat.zero_le _, ⟨rfl⟩⟩ ?_ ?_
 ·exact Zf [0, 1] ⟨by decide, Z9, ⟨rfl, rfl, trivial⟩, ⟨rfl, rfl, rfl, rfl, trivial⟩, rfl, rfl⟩
 clear u1 u2 c;rintro ⟨i, k⟩ ⟨u1, u2⟩;dsimp only at u1 u2;refine Z2w Z0 hA hS [] ?_;cbv;refine bm (fun c => ?_) (fun c => ?_)
 ·have hk : k < W := Z31 hA hMl u2 c;obtain ⟨m, hm⟩ : ∃ m, j.moves[k]? = some m := ⟨_, List.getElem?_eq_getElem (by omega)⟩;have hMk : ML[k]? = some (.agg [I m.kind, I m.bin, I m.inst, I m.lo, I m.hi]) := by rw [hM, List.getElem?_map, hm]; rfl
  have hin := Z1b hA hMl u2 hk;have hg := Z18 hA u2 hMk;have hf := Zy hA u2 (by omega);have hu2 := Zz hA u2;have hms : W - (k + 1) < W - k := by omega
  have hl1 : A.leq [m.kind, m.bin, m.inst, m.lo, m.hi] [m.kind, m.bin, m.inst, m.lo, m.hi] = true := by subst hA; simp [ar]
  cbv;refine Z5j Z0 hA hS [10] [0, 1, 2, 3, 4, 5, 6, 7, 8, 9, 10, 11] rfl rfl fun Dk hD => ?_;cbv;refine ⟨hin, ⟨_, hg, ?_⟩⟩;cbv;refine ⟨hin, ⟨_, hg, ?_⟩⟩;cbv;refine Z9n Z0 hA hD [] (.v (.bool true)) rfl rfl rfl rfl rfl rfl ⟨[m.kind, m.bin, m.inst, m.lo, m.hi], [m.kind, m.bin, m.inst, m.lo, m.hi], rfl, rfl, rfl, rfl, congrArg (fun b => D.v (.bool b)) hl1⟩ ?_;cbv;refine ⟨hf, ?_⟩;refine Z8 (A.add i 1, k + 1) [0, 1] ⟨hk, hu2⟩ hms ?_;exact ⟨by decide, Z9, ⟨rfl, rfl, trivial⟩, ⟨rfl, rfl, rfl, rfl, trivial⟩, rfl, rfl⟩
 ·cbv;refine Z7 ?_;cbv;exact Z2 [] (by decide) Z9 (H' := []) (d' := .v (.bool true)) trivial rfl (Z1 hq)
end Go.Proofs.YthljpccegkmdnaaGreatDoor
