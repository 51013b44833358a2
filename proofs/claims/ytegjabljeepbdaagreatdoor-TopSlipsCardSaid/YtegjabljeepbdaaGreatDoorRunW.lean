/- Part RunW of the proofs about the benches of the accordion maker: see the last text of the claim for what is proved. -/
import Derived.Test.YtegjabljeepbdaaGreatDoorRunL
import Derived.Test.YtegjabljeepbdaaGreatDoorRunQ
import Derived.Test.YtegjabljeepbdaaGreatDoorRunH
set_option linter.unusedVariables false
set_option linter.unusedSimpArgs false
set_option linter.unnecessarySimpa false
set_option linter.constructorNameAsVariable false

namespace Go.Proofs.YtegjabljeepbdaaGreatDoor.Bn
open Go Go.Abs Go.Proofs
theorem Z1c5 (l : List Sl) (L : List D) (hL : L = l.map Z14v) (hl : l.length <= 1000) (Q) (hq : ∀ lo hi, Z1ax l = (lo, hi) -> Q (RA.ret (.agg [I lo, I hi])) []) : CallA Tryz.prog 93 [.sl 7 L] [] Q :=
 Z1cc l L hL hl Q (hq _ _ rfl)
end Go.Proofs.YtegjabljeepbdaaGreatDoor.Bn

namespace Go.Proofs.YtegjabljeepbdaaGreatDoor.Bn
open Go Go.Abs Go.Proofs
theorem bCloneO (L : List D) (n : Nat) (hn : L.length = n) (hl : n <= 1000000) (Q) (hq : Q (RA.ret (.o 0 1 n)) [.els 1 L]) : CallA Tryz.prog 109 [.sl 1 L] [] Q := by
 obtain ⟨A, hA⟩ : ∃ A, A = ar := ⟨_, rfl⟩;refine Z5 Z0 hA Tryz.func109 rfl rfl rfl rfl rfl fun S hS => ?_;cbv;refine ⟨fun b hb => ?_⟩;cbv;refine bm (fun c => ?_) (fun c => ?_)
 ·have h0 : n = 0 := by have := hb c; subst hA; exact hn.symm.trans this
  subst h0;have hL : L = [] := List.length_eq_zero_iff.1 hn;subst hL;cbv;exact Zut 1 (by decide) (Z1 hq)
 ·cbv;refine ⟨Ze hA rfl, ?_, Z2 [1] (by decide) Z9 (H' := [.els 1 L]) (d' := .o 0 1 n) ⟨by subst hA; rfl, trivial⟩ ?_ (Z1 hq)⟩
  ·subst hA; subst hn; exact ⟨show (0 + L.length) * 8 <= 140737488355328 by omega, show 0 + L.length <= 4611686018427387904 by omega⟩
  ·subst hA; subst hn; show D.o 1 1 L.length = D.o 1 1 (0 + L.length); rw [Nat.zero_add]
theorem Z1bz (L : List D) (hl : L.length <= 1000000) (Q) (hq : Q (RA.ret (.sl 1 L)) []) : CallA Tryz.prog 109 [.sl 1 L] [] Q := by
 refine Zcb (bCloneO L L.length rfl hl _ ?_);refine Z1w [0] ?_;simp only [fzG, fzH, Z7a, Z1m];cbv;exact Z2 [] (by decide) Z9 (H' := []) (d' := .sl 1 L) trivial rfl (Z1 hq)
theorem Z1cd (L : List D) (i : Int) (Q) (hq : Q (RA.ret (.v (.bool true))) []) : CallA Tryz.prog 91 [.sl 1 L, I i] [] Q := by
 obtain ⟨A, hA⟩ : ∃ A, A = ar := ⟨_, rfl⟩;refine Z5 Z0 hA Tryz.func91 rfl rfl rfl rfl rfl fun S hS => ?_;cbv;exact Z1 hq
end Go.Proofs.YtegjabljeepbdaaGreatDoor.Bn

namespace Go.Proofs.YtegjabljeepbdaaGreatDoor.Bn
open Go Go.Abs Go.Proofs
def Z1ah (n : Nat) : Nat -> List Nat -> List (List Nat)
 | 0, _ => [[]]
 | r + 1, left => (List.range n).flatMap fun i => if left.getD i 0 = 0 then [] else (Z1ah n r (left.set i (left.getD i 0 - 1))).map (i :: ·)
def hsB (nf : FuncId) (nc : D) (asg bdy : Code) (bl : List (List Nat) -> List D) (nn : List (List Nat) -> Int) (mt : List (List Nat) -> Bool) (σ : List (List Nat)) : List Blk :=
 [.ob (.lp .ready none [(9, .fn 123 [.cb nc 0, .cb (.fn 91 []) 0]), (3, .b 1 0), (4, .b 2 0), (5, .b 3 0), (6, .b 4 0)] 25 [10] asg bdy), .box (.fn nf [.cb nc 0]), .box (.sl 1 (bl σ)), .box (I (nn σ)), .box (.v (.bool (mt σ)))]
def z4D : D := .agg [I 0, I 0, I 0, I 0]
def Z1ce (sD : D) (mf : FuncId) : D := .fn 124 [.cb z4D 0, .b 5 0, .cb sD 0, .cb (.fn mf []) 0, .b 6 0]
def hsG (b : Int) (TL : List D) (asg bdy : Code) (bl : List (List Nat) -> List D) (nn : List (List Nat) -> Int) (mt : List (List Nat) -> Bool) (σ : List (List Nat)) : List Blk :=
 [.ob (.lp .ready none [(9, .fn 123 [.cb (.agg [I b, .sl 3 TL]) 0, .cb (.fn 91 []) 0]), (3, .b 1 0), (4, .b 2 0), (5, .b 3 0), (6, .b 4 0)] 25 [10] asg bdy), .box (.fn 92 [.cb (.agg [I b, .sl 3 TL]) 0]), .box (.sl 1 (bl σ)), .box (I (nn σ)), .box (.v (.bool (mt σ))), .box (.yv 0), .box (Z1ce (.agg [I b, .sl 3 TL]) 91)]
structure RoundsOk (nf : FuncId) (nc : D) (asg bdy : Code) (bl : List (List Nat) -> List D) (nn : List (List Nat) -> Int) (mt : List (List Nat) -> Bool) (ps : List (List Nat)) : Prop where
 out : ∀ σ p rest σ', ps = σ ++ p :: rest -> σ' = σ ++ [p] -> ∀ LL, LL = Z15w p -> ∀ Q, Q (RA.ret (.v (.bool true))) (hsB nf nc asg bdy bl nn mt σ') -> RoundA Tryz.prog 0 [.sl 1 LL] (hsB nf nc asg bdy bl nn mt σ) Q
theorem Z1an : ∀ {l : List Nat}, l.sum = 0 -> ∀ i, l.getD i 0 = 0
 | [], _, i => by simp
 | x :: l, h, 0 => by simp at h ⊢; exact h.1
 | x :: l, h, i + 1 => by
  simp only [List.sum_cons] at h;have := Z1an (l := l) (by omega) i;simpa using this
theorem Z1b5 : ∀ {l : List Nat} {i : Nat}, l.getD i 0 ≠ 0 -> (l.set i (l.getD i 0 - 1)).sum + 1 = l.sum
 | [], i, h => by simp at h
 | x :: l, 0, h => by simp at h ⊢; omega
 | x :: l, i + 1, h => by
  have := Z1b5 (l := l) (i := i) (by simpa using h);simp at this ⊢; omega
theorem Z1au : ∀ (l : List Nat) (i : Nat), l.getD i 0 <= l.sum
 | [], i => by simp
 | x :: l, 0 => by simp
 | x :: l, i + 1 => by
  have := Z1au l i;simp at this ⊢; omega
theorem Z1bf {l : List Nat} (h : l.length = 4) : ∃ a b c d, l = [a, b, c, d] := by
 match l, h with
 | [a, b, c, d], _ => exact ⟨a, b, c, d, rfl⟩
set_option maxRecDepth 20000 in
set_option maxHeartbeats 4000000 in
theorem bGrow (b : Int) (TL : List D) (N : Nat) (hN : TL.length = N) (hN4 : N <= 4) (asg bdy : Code) (bl nn mt) (ps : List (List Nat)) (hR : RoundsOk 92 (.agg [I b, .sl 3 TL]) asg bdy bl nn mt ps) :
  ∀ (r : Nat) (left l : List Nat) (σ rest : List (List Nat)), left.sum = r -> left.length = 4 -> l.length + r <= 100 -> (∀ i, N <= i -> left.getD i 0 = 0) -> ps = σ ++ ((Z1ah N r left).map (l ++ ·) ++ rest) ->
  ∀ (LL : List D) (x0 x1 x2 x3 : Int), LL = Z15w l -> left.map (fun n : Nat => (n : Int)) = [x0, x1, x2, x3] -> ∀ Q,
  (∀ σ', σ' = σ ++ (Z1ah N r left).map (l ++ ·) -> Q (RA.ret (.v (.bool true))) (hsG b TL asg bdy bl nn mt σ')) ->
  CallA Tryz.prog 124 [.sl 1 LL, .agg [I x0, I x1, I x2, I x3], .cb z4D 0, .b 5 0, .cb (.agg [I b, .sl 3 TL]) 0, .cb (.fn 91 []) 0, .b 6 0] (hsG b TL asg bdy bl nn mt σ) Q := by
 obtain ⟨A, hA⟩ : ∃ A, A = ar := ⟨_, rfl⟩;intro r
 induction r with
 | zero =>
  intro left l σ rest hsum hlen hl hz hps LL x0 x1 x2 x3 hLL hx Q hq;obtain ⟨a0, a1, a2, a3, rfl⟩ := Z1bf hlen;simp only [List.map_cons, List.map_nil, List.cons.injEq, and_true] at hx;obtain ⟨rfl, rfl, rfl, rfl⟩ := hx;have e0 : a0 = 0 := Z1an hsum 0;have e1 : a1 = 0 := Z1an hsum 1;have e2 : a2 = 0 := Z1an hsum 2;have e3 : a3 = 0 := Z1an hsum 3;subst e0 e1 e2 e3;have hLl : LL.length <= 1000000 := by rw [hLL]; simp [Z15w]; omega
  have hps' : ps = σ ++ l :: rest := by rw [hps]; simp [Z1ah]
  obtain ⟨σ', hσ'⟩ : ∃ σ', σ' = σ ++ [l] := ⟨_, rfl⟩;have hq' := hq σ' (by rw [hσ']; simp [Z1ah]);have hleq : A.leq [0, 0, 0, 0] [0, 0, 0, 0] = true := by subst hA; rfl
  refine Z5 Z0 hA Tryz.func124 rfl rfl rfl rfl rfl fun S hS => ?_;cbv;refine ⟨[0, 0, 0, 0], [0, 0, 0, 0], rfl, rfl, rfl, rfl, ?_⟩;cbv;refine bm (fun _ => ?_) (fun c => Bool.noConfusion (hleq.symm.trans c));cbv;refine Z16 Z0 hA hS [0, 1, 2, 3, 4] rfl rfl fun Dk hD => ?_;cbv;refine Zq hA hD [.sl 1 LL] [] [] rfl rfl rfl rfl rfl rfl rfl rfl rfl rfl rfl (by decide) trivial (Z1bz LL hLl _ ⟨by cbv, Zx Z0 hA hD ?_⟩);cbv;refine Z1bb hA hD 0 [.sl 1 LL] [0, 1, 2, 3, 4] (hsB 92 (.agg [I b, .sl 3 TL]) asg bdy bl nn mt σ) rfl rfl rfl rfl rfl rfl rfl rfl rfl rfl rfl rfl (by decide) ⟨rfl, rfl, rfl, rfl, rfl, trivial⟩ (hR.out σ l rest σ' hps' hσ' LL hLL _ ⟨by cbv, Zx Z0 hA hD ?_⟩);cbv;exact Z2 [0, 1, 2, 3, 4, 5, 6] (by decide) pre7 (H' := hsG b TL asg bdy bl nn mt σ') (d' := .v (.bool true)) ⟨rfl, rfl, rfl, rfl, rfl, rfl, rfl, trivial⟩ rfl (Z1 hq')
 | succ r ih =>
  intro left l σ rest hsum hlen hl hz hps LL x0 x1 x2 x3 hLL hx Q hq;have hXl : [x0, x1, x2, x3].length = 4 := rfl;have hxg : ∀ k, k < 4 -> ∃ x : Int, IsI x (left.getD k 0) /\ ([I x0, I x1, I x2, I x3] : List D)[0 + k]? = some (I x) := fun k hk => by
   refine ⟨_, ⟨rfl⟩, ?_⟩;have e : ([I x0, I x1, I x2, I x3] : List D) = ([x0, x1, x2, x3] : List Int).map I := rfl;rw [e, <- hx, Nat.zero_add];simp [List.getD_eq_getElem?_getD, List.getElem?_eq_getElem (show k < left.length by omega)]
  have hne : A.leq [x0, x1, x2, x3] [0, 0, 0, 0] = false := by
   have : [x0, x1, x2, x3] ≠ [0, 0, 0, 0] := fun e => by
    rw [e] at hx;obtain ⟨a0, a1, a2, a3, rfl⟩ := Z1bf hlen;simp at hx hsum; omega
   subst hA; exact decide_eq_false this
  have hLn : LL.length = l.length := by rw [hLL]; simp [Z15w]
  obtain ⟨n, hn⟩ : ∃ n, n = l.length := ⟨_, rfl⟩;rw [<- hn] at hLn;have hnM : n <= 1000000 := by omega
  have hn100 : n + 1 <= 1000000 := by omega
  obtain ⟨fm, hfm⟩ : ∃ fm : Nat -> List (List Nat), fm = fun i => if left.getD i 0 = 0 then [] else (Z1ah N r (left.set i (left.getD i 0 - 1))).map (i :: ·) := ⟨_, rfl⟩
  have hpl : Z1ah N (r + 1) left = (List.range N).flatMap fm := by rw [Z1ah, hfm]
  obtain ⟨sg, hsg⟩ : ∃ sg : Nat -> List (List Nat), sg = fun k => σ ++ (((List.range k).flatMap fm).map (l ++ ·)) := ⟨_, rfl⟩;have hsg0 : sg 0 = σ := by rw [hsg]; simp
  have hsgs : ∀ k, sg (k + 1) = sg k ++ (fm k).map (l ++ ·) := fun k => by rw [hsg]; simp [List.range_succ]
  have hsgN : sg N = σ ++ (Z1ah N (r + 1) left).map (l ++ ·) := by rw [hsg, hpl]
  refine Z5 Z0 hA Tryz.func124 rfl rfl rfl rfl rfl fun S hS => ?_;cbv;refine ⟨[x0, x1, x2, x3], [0, 0, 0, 0], rfl, rfl, rfl, rfl, ?_⟩;cbv;refine bm (fun c => Bool.noConfusion (hne.symm.trans c)) (fun _ => ?_);cbv;refine Zb hS ?_;refine Za (α := Int × Nat × List (List Nat)) (fun q => { env := [(0, .sl 1 LL), (3, .b 5 0), (4, .cb (.agg [I b, .sl 3 TL]) 0), (5, .cb (.fn 91 []) 0), (6, .b 6 0), (8, .b 7 0), (20, .sl 3 TL), (21, I (A.oi (A.len TL))), (22, I q.1)], H := hsG b TL asg bdy bl nn mt q.2.2 ++ [.box (.agg [I x0, I x1, I x2, I x3])], nt := 52, dfs := [] })
   (fun q => N - q.2.1) (fun q => IsI q.1 q.2.1 /\ q.2.1 <= N /\ q.2.2 = sg q.2.1) (0, 0, σ) ⟨⟨rfl⟩, Nat.zero_le _, hsg0.symm⟩ ?_ ?_
  ·exact Zf [0, 1, 2, 3, 4, 5, 6, 7] ⟨by decide, pre7, ⟨rfl, rfl, rfl, rfl, rfl, rfl, rfl, rfl, trivial⟩, ⟨rfl, rfl, rfl, rfl, rfl, rfl, rfl, rfl, rfl, trivial⟩, rfl, rfl⟩
  rintro ⟨i, k, σc⟩ ⟨u1, u2, u3⟩;dsimp only at u1 u2 u3;refine Zi Z0 hA hS ?_;cbv;refine bm (fun c => ?_) (fun c => ?_)
  ·have hk := Z31 hA hN u1 c;have hk4 : k < 4 := by omega
   have hin : A.inb i 4 := Z4o hA u1 hk4;have hf1 : A.fits .i64 (A.add i 1) := Zy hA u1 (by omega);have hu1 := Zz hA u1;have hms : N - (k + 1) < N - k := by omega
   obtain ⟨x, hxI, hxG⟩ := hxg k hk4;have hfs : A.fits .i64 (A.sub x 1) := Z14 hA (Z24 hA x 1) (by
    have h1 := hxI.eq
    have h2 := Z1au left k
    omega)
   have hlt4 : A.ltN (A.addN 0 (A.mulN (A.tn i) 1)) [I x0, I x1, I x2, I x3] := Zwm hA 0 u1 (m := 4) rfl (by omega);have hbn : A.bnot true = false := by subst hA; rfl
   have hgx := Zo9 hA 0 u1 hxG
   by_cases h0 : left.getD k 0 = 0
   ·have hx0 : A.cmp .eql x 0 = true := by rw [Zx0 hA]; exact decide_eq_true (by have := hxI.eq; omega)
    have hs2 : σc = sg (k + 1) := by rw [hsgs, u3, hfm]; simp only [h0, if_true, List.map_nil, List.append_nil]
    cbv;refine ⟨hin, ⟨_, hgx, ?_⟩⟩;cbv;refine bm (fun _ => ?_) (fun c => Bool.noConfusion (hx0.symm.trans c));cbv;refine Zg hS (f := 91) (b := true) rfl rfl rfl rfl rfl rfl rfl rfl (fun h => Bool.noConfusion h) (fun _ => ?_);refine Z3 Z0 hA hS ?_;cbv;refine ⟨hf1, ?_⟩;refine Z8 (A.add i 1, k + 1, σc) [0, 1, 2, 3, 4, 5, 6, 7] ⟨hu1, hk, hs2⟩ hms ?_;exact ⟨by decide, pre7, ⟨rfl, rfl, rfl, rfl, rfl, rfl, rfl, rfl, trivial⟩, ⟨rfl, rfl, rfl, rfl, rfl, rfl, rfl, rfl, rfl, trivial⟩, rfl, rfl⟩
   ·obtain ⟨left', hle⟩ : ∃ left', left' = left.set k (left.getD k 0 - 1) := ⟨_, rfl⟩;have hlen' : left'.length = 4 := by rw [hle]; simp [hlen]
    obtain ⟨y0, y1, y2, y3, hy⟩ : ∃ y0 y1 y2 y3 : Int, left'.map (fun n : Nat => (n : Int)) = [y0, y1, y2, y3] := by
     obtain ⟨a0, a1, a2, a3, e⟩ := Z1bf hlen';exact ⟨a0, a1, a2, a3, by rw [e]; rfl⟩
    have hset : A.set [I x0, I x1, I x2, I x3] (A.addN 0 (A.mulN (A.tn i) 1)) (I (A.sub x 1)) = [I y0, I y1, I y2, I y3] := by
     refine Zs6 hA 0 u1 ?_;have e1 : ([I x0, I x1, I x2, I x3] : List D) = ([x0, x1, x2, x3] : List Int).map I := rfl;have e2 : ([I y0, I y1, I y2, I y3] : List D) = ([y0, y1, y2, y3] : List Int).map I := rfl;rw [e1, e2, <- hx, <- hy, hle, Nat.zero_add, Z24 hA, hxI.eq];simp only [List.map_set]
     congr 1
     rw [Int.natCast_sub (by omega)]; rfl
    have hLL' : A.app LL [I i] = Z15w (l ++ [k]) := by rw [Z33 hA, hLL, u1.eq]; simp [Z15w]
    have hapl : A.addN n 1 = A.len (A.app LL [I i]) := by subst hA; show n + 1 = (LL ++ [I i]).length; simp [hLn]
    have hsum' : left'.sum = r := by have := Z1b5 (i := k) h0; rw [hle]; omega
    have hl' : (l ++ [k]).length + r <= 100 := by simp; omega
    have hz' : ∀ i, N <= i -> left'.getD i 0 = 0 := fun i hi => by
     rw [hle, Z15f _ _ _ _ _ (by omega), if_neg (by omega)]; exact hz i hi
    have hfk : (fm k).map (l ++ ·) = (Z1ah N r left').map ((l ++ [k]) ++ ·) := by
     rw [hfm]; simp only [if_neg h0, <- hle, List.map_map];exact List.map_congr_left fun p _ => by simp
    obtain ⟨rest', hps'⟩ : ∃ rest', ps = σc ++ ((Z1ah N r left').map ((l ++ [k]) ++ ·) ++ rest') := by
     refine ⟨(((List.range (N - (k + 1))).map (k + 1 + ·)).flatMap fm).map (l ++ ·) ++ rest, ?_⟩;have e1 : List.range N = List.range k ++ ([k] ++ (List.range (N - (k + 1))).map (k + 1 + ·)) := by
      conv => lhs; rw [show N = (k + 1) + (N - (k + 1)) by omega]
      rw [List.range_add, List.range_succ, List.append_assoc]
     rw [hps, hpl, e1, u3, hsg, <- hfk];simp [List.flatMap_append]
    have hx0 : A.cmp .eql x 0 = false := by rw [Zx0 hA]; exact decide_eq_false (by have := hxI.eq; omega)
    cbv;refine ⟨hin, ⟨_, hgx, ?_⟩⟩;cbv;refine bm (fun c => Bool.noConfusion (hx0.symm.trans c)) (fun _ => ?_);cbv;refine Zg hS (b := false) rfl rfl rfl rfl rfl rfl rfl rfl (fun _ => ⟨[], _, [.sl 1 LL, I i], [], [], rfl, rfl, rfl, by decide, trivial, Z1cd _ _ _ ?_⟩) (fun h => absurd rfl h);refine Z3 Z0 hA hS ?_;cbv;refine bm (fun c => Bool.noConfusion (hbn.symm.trans c)) (fun _ => ?_);cbv;refine ⟨hin, ⟨_, hgx, ?_⟩⟩;cbv;refine ⟨hfs, hin, hlt4, ?_⟩;refine Z3h hS (Z7w 8 (.agg [I y0, I y1, I y2, I y3]) rfl (show WkL (A.set [I x0, I x1, I x2, I x3] (A.addN 0 (A.mulN (A.tn i) 1)) (I (A.sub x 1))) [I y0, I y1, I y2, I y3] from hset ▸ WkL.rfl) (Z7 ?_));refine Z16 Z0 hA hS [0, 1, 3, 4, 6, 2, 5, 7, 8] rfl rfl fun Dk hD => ?_;cbv;refine Zq hA hD [.sl 1 LL] [] [] rfl rfl rfl rfl rfl rfl rfl rfl rfl rfl rfl (by decide) trivial (bCloneO LL n hLn hnM _ ⟨by cbv, Zx Z0 hA hD ?_⟩);cbv;refine ⟨Ze hA hLn, Ze hA rfl, Z27 hA hnM (by decide), ?_⟩;refine Zmn hA hD [11] rfl rfl rfl rfl rfl rfl fun CG hC => ?_;cbv;refine ⟨Zkd hA hapl, ?_⟩;rw [hC];refine Zs5 [.sl 1 (A.app LL [I i]), .agg [I y0, I y1, I y2, I y3], .cb z4D 0, .b 5 0, .cb (.agg [I b, .sl 3 TL]) 0, .cb (.fn 91 []) 0, .b 6 0] [0, 1, 2, 3, 4, 5, 6] (hsG b TL asg bdy bl nn mt σc) rfl rfl rfl rfl rfl (by decide) ⟨rfl, rfl, rfl, rfl, rfl, rfl, rfl, trivial⟩
     (ih left' (l ++ [k]) σc rest' hsum' hlen' hl' hz' hps' _ y0 y1 y2 y3 hLL' hy _ fun σ'' hσ'' => Zo8 hA Z0 hD ?_ ?_)
    ·cbv
    ·have hs2 : σ'' = sg (k + 1) := by rw [hσ'', hsgs, hfk, u3]
     cbv;refine bm (fun c => Bool.noConfusion (hbn.symm.trans c)) (fun _ => ?_);cbv;refine ⟨hf1, ?_⟩;refine Z8 (A.add i 1, k + 1, σ'') [0, 1, 2, 3, 4, 5, 6, 7] ⟨hu1, hk, hs2⟩ hms ?_;exact ⟨by decide, pre7, ⟨rfl, rfl, rfl, rfl, rfl, rfl, rfl, rfl, trivial⟩, ⟨rfl, rfl, rfl, rfl, rfl, rfl, rfl, rfl, rfl, trivial⟩, rfl, rfl⟩
  ·have hk := Z21 hA hN u1 c;have hkN : k = N := by omega
   have hq' := hq σc (by rw [u3, hkN, hsgN]);cbv;refine Z7 ?_;cbv;exact Z2 [0, 1, 2, 3, 4, 5, 6] (by decide) pre7 (H' := hsG b TL asg bdy bl nn mt σc) (d' := .v (.bool true)) ⟨rfl, rfl, rfl, rfl, rfl, rfl, rfl, trivial⟩ rfl (Z1 hq')
end Go.Proofs.YtegjabljeepbdaaGreatDoor.Bn

namespace Go.Proofs.YtegjabljeepbdaaGreatDoor.Bn
open Go Go.Abs Go.Proofs
def Z1ai (s : Sh) : List Nat := s.tasks.map (·.works.length) ++ List.replicate (4 - s.tasks.length) 0
def Z1aj (s : Sh) : List (List Nat) := Z1ah s.tasks.length (nWorks s.tasks) (Z1ai s)
theorem Z1ao {s : Sh} (h : s.tasks.length <= 4) : (Z1ai s).length = 4 := by simp [Z1ai]; omega
theorem Z1b2 (s : Sh) : (Z1ai s).sum = nWorks s.tasks := by simp [Z1ai, nWorks]
theorem Z1ar {s : Sh} {i : Nat} (h : s.tasks.length <= i) : (Z1ai s).getD i 0 = 0 := by
 simp only [Z1ai, List.getD_eq_getElem?_getD];rw [List.getElem?_append_right (by simpa using h), List.getElem?_replicate]
 split <;> rfl
theorem Z1b6 {s : Sh} {i : Nat} {t : Tk} (h : s.tasks[i]? = some t) : (Z1ai s).getD i 0 = t.works.length := by
 have hi := (List.getElem?_eq_some_iff.1 h).1;simp only [Z1ai, List.getD_eq_getElem?_getD];rw [List.getElem?_append_left (by simpa using hi), List.getElem?_map, h]; rfl
def Z1ap (s : Sh) (k : Nat) : List Nat := (List.range 4).map fun i => if i < k then (Z1ai s).getD i 0 else 0
theorem Z1bk {s : Sh} (h : s.tasks.length <= 4) {k : Nat} (hk : s.tasks.length <= k) : Z1ap s k = Z1ai s := by
 refine List.ext_getElem? fun i => ?_
 by_cases hi : i < 4
 ·rw [Z1ap, List.getElem?_map, List.getElem?_range hi, Option.map_some];have := Z1ao h;have e : (Z1ai s)[i]? = some ((Z1ai s).getD i 0) := by rw [List.getD_eq_getElem?_getD, List.getElem?_eq_getElem (by omega)]; rfl
  rw [e]
  split
  ·rfl
  ·rw [Z1ar (by omega)]
 ·rw [List.getElem?_eq_none (by simp [Z1ap]; omega), List.getElem?_eq_none (by rw [Z1ao h]; omega)]
theorem Z1bc (s : Sh) {k : Nat} (hk : k < 4) : Z1ap s (k + 1) = (Z1ap s k).set k ((Z1ai s).getD k 0) := by
 refine List.ext_getElem? fun i => ?_;rw [List.getElem?_set]
 by_cases hi : i < 4
 ·simp only [Z1ap, List.getElem?_map, List.getElem?_range hi, Option.map_some, List.length_map, List.length_range]
  by_cases e : k = i
  ·subst e; simp [hk]
  ·rw [if_neg e]
   congr 1
   by_cases h2 : i < k
   ·rw [if_pos (by omega), if_pos h2]
   ·rw [if_neg (by omega), if_neg h2]
 ·rw [List.getElem?_eq_none (by simp [Z1ap]; omega), if_neg (by omega), List.getElem?_eq_none (by simp [Z1ap]; omega)]
def natL (l : List Nat) : List D := l.map fun n => I (n : Nat)
theorem Z1c0 (l : List Nat) : frL (natL l) = true := Z30.2 fun d hd => by
 obtain ⟨x, -, rfl⟩ := List.mem_map.1 hd; rfl
set_option maxRecDepth 20000 in
set_option maxHeartbeats 4000000 in
theorem Z1bp (s : Sh) (hv : Val s) (TL : List D) (hT : TL = s.tasks.map Z14z) (asg bdy : Code) (bl nn mt) (hR : RoundsOk 92 (.agg [I s.benches, .sl 3 TL]) asg bdy bl nn mt (Z1aj s)) (Q)
  (hq : ∀ d, Q (RA.ret d) (hsB 92 (.agg [I s.benches, .sl 3 TL]) asg bdy bl nn mt (Z1aj s))) :
  CallA Tryz.prog 123 [.yv 0, .cb (.agg [I s.benches, .sl 3 TL]) 0, .cb (.fn 91 []) 0] (hsB 92 (.agg [I s.benches, .sl 3 TL]) asg bdy bl nn mt []) Q := by
 obtain ⟨A, hA⟩ : ∃ A, A = ar := ⟨_, rfl⟩;have hlen := hv.len;have hsum := hv.sum;obtain ⟨N, hN⟩ : ∃ N, N = s.tasks.length := ⟨_, rfl⟩;have hTl : TL.length = N := by rw [hT, hN]; simp
 have hN4 : N <= 4 := by omega
 obtain ⟨b, hb⟩ : ∃ b, b = s.benches := ⟨_, rfl⟩;obtain ⟨σ0, hσ0⟩ : ∃ σ0 : List (List Nat), σ0 = [] := ⟨_, rfl⟩;obtain ⟨ps, hps⟩ : ∃ ps, ps = Z1aj s := ⟨_, rfl⟩;rw [<- hps] at hR hq;rw [<- hb] at hR hq ⊢;rw [<- hσ0];refine Z5 Z0 hA Tryz.func123 rfl rfl rfl rfl rfl fun S hS => ?_;cbv;refine Zb hS ?_;refine Za (α := Int × Nat × List D) (fun q => { env := [(1, .cb (.agg [I b, .sl 3 TL]) 0), (2, .cb (.fn 91 []) 0), (3, .b 5 0), (4, .b 6 0), (5, .b 7 0), (10, .sl 3 TL), (11, I (A.oi (A.len TL))), (12, I q.1)], H := hsB 92 (.agg [I b, .sl 3 TL]) asg bdy bl nn mt σ0 ++ [.box (.yv 0), .box z4D, .box (.arr q.2.2)], nt := 27, dfs := [] })
  (fun q => N - q.2.1) (fun q => IsI q.1 q.2.1 /\ q.2.1 <= N /\ q.2.2 = natL (Z1ap s q.2.1)) (0, 0, [I 0, I 0, I 0, I 0]) ⟨⟨rfl⟩, Nat.zero_le _, rfl⟩ ?_ ?_
 ·refine Z7w 7 (.arr [I 0, I 0, I 0, I 0]) rfl WkL.rfl ?_;exact Zf [0, 1, 2, 3, 4, 5, 6, 7] ⟨by decide, Z91, ⟨rfl, rfl, rfl, rfl, rfl, rfl, rfl, rfl, trivial⟩, ⟨rfl, rfl, rfl, rfl, rfl, rfl, rfl, rfl, trivial⟩, rfl, rfl⟩
 rintro ⟨i, k, L⟩ ⟨u1, u2, u3⟩;dsimp only at u1 u2 u3;have hLl : L.length = 4 := by rw [u3]; simp [natL, Z1ap]
 have hNs : N <= k -> natL (Z1ap s k) = natL (Z1ai s) := fun h => by rw [Z1bk hlen (by omega)]
 refine Zi Z0 hA hS ?_;cbv;refine bm (fun c => ?_) (fun c => ?_)
 ·have hk := Z31 hA hTl u1 c;have hk4 : k < 4 := by omega
  obtain ⟨t, ht⟩ : ∃ t, t = s.tasks[k] := ⟨_, rfl⟩;have htk : s.tasks[k]? = some t := by rw [ht]; exact List.getElem?_eq_getElem (by omega)
  obtain ⟨WL, hWL⟩ : ∃ WL, WL = t.works.map Z14x := ⟨_, rfl⟩;have hWl : WL.length = t.works.length := by rw [hWL]; simp
  have hTk : TL[k]? = some (.agg [I t.ready, I t.due, .sl 3 WL]) := by rw [hT]; simp [htk, hWL, Z14z]
  have hL2 : L.set (0 + k) (I (A.oi (A.len WL))) = natL (Z1ap s (k + 1)) := by
   rw [Z1bc s hk4, Z1b6 htk, u3, Nat.zero_add, yoiL hA hWl]; simp [natL]
  have hset := Zs6 hA 0 u1 hL2.symm;have hin := Z4o hA u1 hk4;have hlt := Zwm hA (l := L) 0 u1 hLl (by omega);have hf1 := Zy hA u1 (by omega);have hu1 := Zz hA u1;have hms : N - (k + 1) < N - k := by omega
  cbv;refine ⟨Z1b hA hTl u1 hk, ⟨_, Z18 hA u1 hTk, ?_⟩⟩;cbv;refine ⟨hin, hlt, hf1, ?_⟩;refine Z8 (A.add i 1, k + 1, A.set L (A.addN 0 (A.mulN (A.tn i) 1)) (I (A.oi (A.len WL)))) [0, 1, 2, 3, 4, 5, 6, 7] ⟨hu1, hk, hset⟩ hms ?_;exact ⟨by decide, Z91, ⟨rfl, rfl, rfl, rfl, rfl, rfl, rfl, Z15t _ (show frL (A.set L (A.addN 0 (A.mulN (A.tn i) 1)) (I (A.oi (A.len WL)))) = true from hset ▸ Z1c0 _), trivial⟩, ⟨rfl, rfl, rfl, rfl, rfl, rfl, rfl, rfl, trivial⟩, rfl, rfl⟩
 ·have hk := Z21 hA hTl u1 c;obtain ⟨x0, x1, x2, x3, hx⟩ : ∃ x0 x1 x2 x3 : Int, (Z1ai s).map (fun n : Nat => (n : Int)) = [x0, x1, x2, x3] := by
   obtain ⟨a0, a1, a2, a3, e⟩ := Z1bf (Z1ao hlen);exact ⟨a0, a1, a2, a3, by rw [e]; rfl⟩
  have hLx : L = [I x0, I x1, I x2, I x3] := by
   rw [u3, hNs hk];have e1 : ([I x0, I x1, I x2, I x3] : List D) = ([x0, x1, x2, x3] : List Int).map I := rfl;rw [e1, <- hx, natL, List.map_map]; rfl
  subst hLx;have hli : A.lenIs [I x0, I x1, I x2, I x3] 4 := Z1c4 hA rfl;cbv;refine Z7 ?_;cbv;refine ⟨hli, ?_⟩;refine Z26 hS (Z1a hA [6] ?_);cbv;refine Z7 ?_;refine Z4 hS [.v (.slice none 0 0), .arr [I x0, I x1, I x2, I x3], .cb z4D 0, .b 5 0, .cb (.agg [I b, .sl 3 TL]) 0, .cb (.fn 91 []) 0, .b 6 0] [0, 1, 2, 3, 4, 5, 8] (hsG b TL asg bdy bl nn mt σ0) rfl rfl rfl rfl rfl rfl rfl rfl (by decide) ⟨rfl, rfl, rfl, rfl, rfl, rfl, rfl, trivial⟩
   (Z4z (as' := [.sl 1 [], .agg [I x0, I x1, I x2, I x3], .cb z4D 0, .b 5 0, .cb (.agg [I b, .sl 3 TL]) 0, .cb (.fn 91 []) 0, .b 6 0]) ⟨WkD.nil, WkD.arrAgg rfl, .rfl, .rfl, .rfl, .rfl, .rfl, trivial⟩
    (bGrow b TL N hTl hN4 asg bdy bl nn mt ps hR (nWorks s.tasks) (Z1ai s) [] σ0 [] (Z1b2 s) (Z1ao hlen) (by simp; omega) (fun i hi => Z1ar (by omega)) (by rw [hps, hσ0, Z1aj, hN]; simp) [] x0 x1 x2 x3 rfl hx _ fun σ' hσ' => ?_))
  have hσp : σ' = ps := by rw [hσ', hps, hσ0, Z1aj, hN]; simp
  rw [hσp];refine Z3 Z0 hA hS ?_;cbv;exact Z2 [0, 1, 2, 3, 4] (by decide) Z91 (H' := hsB 92 (.agg [I b, .sl 3 TL]) asg bdy bl nn mt ps) (d' := .tup []) ⟨rfl, rfl, rfl, rfl, rfl, trivial⟩ rfl (Z1 (hq _))
end Go.Proofs.YtegjabljeepbdaaGreatDoor.Bn

namespace Go.Proofs.YtegjabljeepbdaaGreatDoor.Bn
open Go Go.Abs Go.Proofs
def Z1al (s : Sh) (p : List Nat) : Int := (Z1ax (runS s (fun _ => 0) p)).2
theorem Z1c6 (s : Sh) (hv : Val s) (p : List Nat) (hp : PlanLe s p) (hpl : p.length <= 20) (TL PL : List D) (hT : TL = s.tasks.map Z14z) (hP : PL = Z15w p) (n : Int) (hn : n = Z1al s p) (Q) (hq : Q (RA.ret (I n)) []) :
  CallA Tryz.prog 92 [.sl 1 PL, .cb (.agg [I s.benches, .sl 3 TL]) 0] [] Q := by
 obtain ⟨A, hA⟩ : ∃ A, A = ar := ⟨_, rfl⟩;obtain ⟨RL, hRL⟩ : ∃ RL, RL = (runS s (fun _ => 0) p).map Z14v := ⟨_, rfl⟩;refine Z5 Z0 hA Tryz.func92 rfl rfl rfl rfl rfl fun S hS => ?_;cbv;refine Z4 hS [.agg [I s.benches, .sl 3 TL, .sl 1 PL], .v (.map none)] [] [] rfl rfl rfl rfl rfl rfl rfl rfl (by decide) trivial (bRun s hv p hp hpl TL PL hT hP _ ?_);rw [<- hRL];refine Z3 Z0 hA hS ?_;cbv;refine Z4 hS [.sl 7 RL] [] [] rfl rfl rfl rfl rfl rfl rfl rfl (by decide) trivial (Z1c5 _ RL hRL (by rw [Z16a]; omega) _ fun lo e hlh => ?_);have he : e = n := by rw [hn, Z1al, hlh]
 rw [he];refine Z3 Z0 hA hS ?_;cbv;exact Z1 hq
theorem Z1c7 (b : Int) (TL : List D) (Q) (hq : Q (RA.ret (.fn 123 [.cb (.agg [I b, .sl 3 TL]) 0, .cb (.fn 91 []) 0])) []) : CallA Tryz.prog 90 [.agg [I b, .sl 3 TL], .fn 91 []] [] Q := by
 obtain ⟨A, hA⟩ : ∃ A, A = ar := ⟨_, rfl⟩;refine Z5 Z0 hA Tryz.func90 rfl rfl rfl rfl rfl fun S hS => ?_;cbv;refine Z1w [0, 1] ?_;cbv;exact Z2 [] (by decide) Z9 (H' := []) (d' := .fn 123 [.cb (.agg [I b, .sl 3 TL]) 0, .cb (.fn 91 []) 0]) trivial rfl (Z1 hq)
def Z1ak (num : List Nat -> Int) : List (List Nat) -> Bool × List Nat × Int := List.foldl (fun a x => if a.1 = false ∨ num x < a.2.2 then (true, x, num x) else a) (false, [], 0)
theorem Z1av (num : List Nat -> Int) (l : List (List Nat)) (x : List Nat) : Z1ak num (l ++ [x]) = if (Z1ak num l).1 = false ∨ num x < (Z1ak num l).2.2 then (true, x, num x) else Z1ak num l := by
 unfold Z1ak; rw [List.foldl_append]; rfl
set_option maxRecDepth 20000 in
set_option maxHeartbeats 4000000 in
theorem Z1c8 (s : Sh) (hv : Val s) (TL : List D) (hT : TL = s.tasks.map Z14z) (hps : ∀ p ∈ Z1aj s, PlanLe s p /\ p.length <= 20) (Q)
  (hq : ∀ PL n, PL = Z15w (Z1ak (Z1al s) (Z1aj s)).2.1 -> n = (Z1ak (Z1al s) (Z1aj s)).2.2 -> Q (RA.ret (.tup [.sl 1 PL, I n])) []) :
  CallA Tryz.prog 89 [.fn 123 [.cb (.agg [I s.benches, .sl 3 TL]) 0, .cb (.fn 91 []) 0], .fn 92 [.cb (.agg [I s.benches, .sl 3 TL]) 0]] [] Q := by
 obtain ⟨A, hA⟩ : ∃ A, A = ar := ⟨_, rfl⟩;obtain ⟨bl, hbl⟩ : ∃ bl : List (List Nat) -> List D, bl = fun σ => Z15w (Z1ak (Z1al s) σ).2.1 := ⟨_, rfl⟩;obtain ⟨nn, hnn⟩ : ∃ nn : List (List Nat) -> Int, nn = fun σ => (Z1ak (Z1al s) σ).2.2 := ⟨_, rfl⟩;obtain ⟨mt, hmt⟩ : ∃ mt : List (List Nat) -> Bool, mt = fun σ => (Z1ak (Z1al s) σ).1 := ⟨_, rfl⟩;obtain ⟨ps, hpsE⟩ : ∃ ps, ps = Z1aj s := ⟨_, rfl⟩;obtain ⟨σ0, hσ0⟩ : ∃ σ0 : List (List Nat), σ0 = [] := ⟨_, rfl⟩;rw [<- hpsE] at hps hq;have hbl0 : bl σ0 = [] := by rw [hbl, hσ0]; rfl
 have hnn0 : nn σ0 = 0 := by rw [hnn, hσ0]; rfl
 have hmt0 : mt σ0 = false := by rw [hmt, hσ0]; rfl
 have hyes : ∀ σ σ' p, σ' = σ ++ [p] -> (mt σ = false ∨ Z1al s p < nn σ) -> bl σ' = Z15w p /\ nn σ' = Z1al s p /\ mt σ' = true := fun σ σ' p e h => by
  rw [hmt, hnn] at h;have := Z1av (Z1al s) σ p;rw [if_pos h] at this;rw [hbl, hnn, hmt, e]; simp only [this, and_self]
 have hno : ∀ σ σ' p, σ' = σ ++ [p] -> mt σ = true -> nn σ <= Z1al s p -> bl σ' = bl σ /\ nn σ' = nn σ /\ mt σ' = mt σ := fun σ σ' p e h1 h2 => by
  rw [hmt] at h1; rw [hnn] at h2;have := Z1av (Z1al s) σ p;rw [if_neg (by simp only [h1]; simp; exact h2)] at this;rw [hbl, hnn, hmt, e]; simp only [this, and_self]
 refine Zip Z0 hA Tryz.func89 rfl rfl rfl rfl rfl fun S hS => ?_;cbv;refine Z3h hS (Z7w 2 (.sl 1 []) rfl ⟨WkD.nil, trivial⟩ (Z60 (a := { env := [(9, .fn 123 [.cb (.agg [I s.benches, .sl 3 TL]) 0, .cb (.fn 91 []) 0]), (3, .b 1 0), (4, .b 2 0), (5, .b 3 0), (6, .b 4 0)], H := [.ob .mk, .box (.fn 92 [.cb (.agg [I s.benches, .sl 3 TL]) 0]), .box (.sl 1 (bl σ0)), .box (I (nn σ0)), .box (.v (.bool (mt σ0)))], nt := 25, dfs := [.mk 0] }) [0, 1, 2, 3, 4] ⟨by decide, Z9, ⟨rfl, rfl, by rw [hbl0]; rfl, by rw [hnn0]; rfl, by rw [hmt0]; rfl, trivial⟩, ⟨rfl, rfl, rfl, rfl, rfl, trivial⟩, rfl, rfl⟩ (Z7 ?_)));refine Z9l hS (as' := [.yv 0, .cb (.agg [I s.benches, .sl 3 TL]) 0, .cb (.fn 91 []) 0]) [5, 1, 2, 3, 4] (hsB 92 (.agg [I s.benches, .sl 3 TL]) _ _ bl nn mt σ0) rfl rfl rfl rfl (by decide) ⟨rfl, rfl, rfl, rfl, rfl, trivial⟩ ?_;rw [hσ0];refine Z1bp s hv TL hT _ _ bl nn mt ⟨fun σ p rest σ' hp hσ LL hLL Q hq => ?_⟩ _ fun d => ?_
 ·have hpM : p ∈ ps := by rw [hpsE, hp]; simp
  obtain ⟨hpL, hpl⟩ := hps p hpM;obtain ⟨n, hn⟩ : ∃ n, n = Z1al s p := ⟨_, rfl⟩;have hy := hyes σ σ' p hσ;have hz := hno σ σ' p hσ;rw [<- hn] at hy hz;refine Zh2 Z0 hA rfl rfl (by decide) fun b' S2 hS2 => ?_;cbv;refine Zb hS2 ?_;refine Zi Z0 hA hS2 ?_;cbv;refine Z4 hS2 [.sl 1 LL, .cb (.agg [I s.benches, .sl 3 TL]) 0] [] [] rfl rfl rfl rfl rfl rfl rfl rfl (by decide) trivial (Z1c6 s hv p hpL hpl TL LL hT hLL n hn _ ?_);refine Z3 Z0 hA hS2 ?_;cbv;refine bm (fun c => ?_) (fun c => ?_)
  ·obtain ⟨e1, e2, e3⟩ := hy (.inl (xnot hA c));rw [<- hLL] at e1;have hq2 := hq;unfold hsB at hq2;rw [e1, e2, e3] at hq2;cbv;exact ⟨⟨_, _, rfl⟩, hq2⟩
  ·have c0 := xnnot hA c;cbv;refine bm (fun c2 => ?_) (fun c2 => ?_)
   ·obtain ⟨e1, e2, e3⟩ := hy (.inr (xlt hA c2));rw [<- hLL] at e1;have hq2 := hq;unfold hsB at hq2;rw [e1, e2, e3] at hq2;cbv;exact ⟨⟨_, _, rfl⟩, hq2⟩
   ·obtain ⟨e1, e2, e3⟩ := hz c0 (Z7x hA c2);have hq2 := hq;unfold hsB at hq2;rw [e1, e2, e3] at hq2;cbv;exact ⟨⟨_, _, rfl⟩, hq2⟩
 ·have hq1 := hq (bl ps) (nn ps) (by rw [hbl]) (by rw [hnn]);rw [<- hpsE];refine ⟨⟨.ready, _, (by intro h; cases h), rfl⟩, ?_⟩;cbv;refine Z16 Z0 hA hS [0, 1, 2, 3] rfl rfl fun Dk hD => ?_;cbv;exact Z2 [] (by decide) Z9 (H' := []) (d' := .tup [.sl 1 (bl ps), I (nn ps)]) trivial rfl (Z1 hq1)
end Go.Proofs.YtegjabljeepbdaaGreatDoor.Bn

namespace Go.Proofs.YtegjabljeepbdaaGreatDoor.Bn
open Go Go.Abs Go.Proofs
theorem Z1b1 {N : Nat} : ∀ (r : Nat) (left p : List Nat), left.sum = r -> left.length = 4 -> N <= 4 -> (∀ i, N <= i -> left.getD i 0 = 0) -> p ∈ Z1ah N r left -> p.length = r /\ (∀ i ∈ p, i < N) /\ ∀ i, p.count i = left.getD i 0
 | 0, left, p, hs, hl, hN, hz, h => by
  simp only [Z1ah, List.mem_singleton] at h;subst h;exact ⟨rfl, fun i hi => by simp at hi, fun i => by rw [Z1an hs]; rfl⟩
 | r + 1, left, p, hs, hl, hN, hz, h => by
  simp only [Z1ah, List.mem_flatMap, List.mem_range] at h;obtain ⟨i, hi, hm⟩ := h
  by_cases h0 : left.getD i 0 = 0
  ·rw [if_pos h0] at hm; simp at hm
  ·rw [if_neg h0] at hm;obtain ⟨q, hq, rfl⟩ := List.mem_map.1 hm;have hss := Z1b5 h0;obtain ⟨h1, h2, h3⟩ := Z1b1 r (left.set i (left.getD i 0 - 1)) q (by omega) (by simpa using hl) hN (fun j hj => by
    rw [Z15f _ _ _ _ _ (by omega), if_neg (by omega)]; exact hz j hj) hq
   refine ⟨by simp [h1], fun j hj => ?_, fun j => ?_⟩
   ·rcases List.mem_cons.1 hj with rfl | hj
    ·exact hi
    ·exact h2 j hj
   ·rw [List.count_cons, h3 j, Z15f _ _ _ _ _ (by omega)]
    by_cases e : j = i
    ·subst e; rw [if_pos rfl, if_pos (by simp)]; omega
    ·rw [if_neg e, if_neg (by simpa using fun h => e h.symm)]; rfl
theorem Z1bl {s : Sh} (hv : Val s) {p : List Nat} (h : p ∈ Z1aj s) : PlanOk s p := by
 obtain ⟨h1, h2, h3⟩ := Z1b1 _ _ _ (Z1b2 s) (Z1ao hv.len) hv.len (fun i hi => Z1ar hi) h;refine ⟨h2, fun i hi => ?_, h1⟩;rw [h3, Z1b6 (List.getElem?_eq_getElem hi), List.getD_eq_getElem?_getD, List.getElem?_eq_getElem hi]; rfl
def Z1bg (s : Sh) : Bool × List Nat × Int := Z1ak (Z1al s) (Z1aj s)
theorem bBest (s : Sh) (hs : ShopOk s) (TL : List D) (hT : TL = s.tasks.map Z14z) (Q) (hq : ∀ PL n, PL = Z15w (Z1bg s).2.1 -> n = (Z1bg s).2.2 -> Q (RA.ret (.tup [.sl 1 PL, I n, I 0])) []) :
  CallA Tryz.prog 60 [.agg [I s.benches, .sl 3 TL]] [] Q := by
 obtain ⟨A, hA⟩ : ∃ A, A = ar := ⟨_, rfl⟩;have hv := chkS_val hs.chk;have hsum := hv.sum;have hpl : ∀ p ∈ Z1aj s, PlanLe s p /\ p.length <= 20 := fun p hp => by
  have := Z1bl hv hp;exact ⟨this.le, by rw [this.len]; omega⟩
 refine Z5 Z0 hA Tryz.func60 rfl rfl rfl rfl rfl fun S hS => ?_;cbv;refine Z4 hS [.agg [I s.benches, .sl 3 TL]] [] [] rfl rfl rfl rfl rfl rfl rfl rfl (by decide) trivial (bCheck s hs.fin TL hT 0 hs.chk.symm _ ?_);refine Z3 Z0 hA hS ?_;cbv;refine bm (fun c => absurd rfl (xne hA c)) (fun _ => ?_);cbv;refine Z4 hS [.agg [I s.benches, .sl 3 TL], .fn 91 []] [] [] rfl rfl rfl rfl rfl rfl rfl rfl (by decide) trivial (Z1c7 s.benches TL _ ?_);refine Z3 Z0 hA hS ?_;cbv;refine Z26 hS (Z1a hA [0] ?_);cbv;refine Z7 ?_;refine Z4 hS [.fn 123 [.cb (.agg [I s.benches, .sl 3 TL]) 0, .cb (.fn 91 []) 0], .fn 92 [.cb (.agg [I s.benches, .sl 3 TL]) 0]] [] [] rfl rfl rfl rfl rfl rfl rfl rfl (by decide) trivial (Z1c8 s hv TL hT hpl _ fun PL n hP hn => ?_);refine Z3 Z0 hA hS ?_;cbv;exact Z2 [] (by decide) Z9 (H' := []) (d' := .tup [.sl 1 PL, I n, I 0]) trivial rfl (Z1 (hq PL n hP hn))
end Go.Proofs.YtegjabljeepbdaaGreatDoor.Bn
