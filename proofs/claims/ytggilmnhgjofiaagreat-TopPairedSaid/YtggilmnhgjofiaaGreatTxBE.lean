/- Part TxBE of the proofs about the benches of the accordion maker: see the last text of the claim for what is proved. -/
import Derived.Test.YtggilmnhgjofiaaGreatTxBD
import Derived.Test.YtggilmnhgjofiaaGreatTxAW
import Derived.Test.YtggilmnhgjofiaaGreatTxAS
import Derived.Test.YtggilmnhgjofiaaGreatTxAU
set_option linter.unusedVariables false
set_option linter.unusedSimpArgs false
set_option linter.unnecessarySimpa false
set_option linter.constructorNameAsVariable false

namespace Go.Proofs.YtggilmnhgjofiaaGreat
open Go Go.Abs Go.Proofs
def Tiny (a : Int) : Prop := -1000 <= a /\ a <= 1000
theorem Tiny.small {a : Int} (h : Tiny a) : Z1tm a := ⟨by have := h.1; omega, by have := h.2; omega⟩
structure MOk (e : List (List Int × D)) : Prop where
 out : ∀ k ∈ e, ∃ x y, k.1 = [x, y] /\ Tiny x /\ Tiny y
theorem MOk.nil : MOk [] := ⟨fun k h => by simp at h⟩
theorem MOk.put {e : List (List Int × D)} (h : MOk e) {x y : Int} (hx : Tiny x) (hy : Tiny y) (d : D) : MOk (ar.mput e [x, y] d) := ⟨fun k hk => by
 have hk : k ∈ (match e.findIdx? (·.1 == [x, y]) with | some i => e.set i ([x, y], d) | none => e ++ [([x, y], d)]) := hk
 split at hk
 ·rcases List.mem_or_eq_of_mem_set hk with hk | rfl
  ·exact h.out k hk
  ·exact ⟨x, y, rfl, hx, hy⟩
 ·rcases List.mem_append.1 hk with hk | hk
  ·exact h.out k hk
  ·simp at hk; subst hk; exact ⟨x, y, rfl, hx, hy⟩⟩
structure KpP where
 l : D
 due : D
 s : D
 SL : List D
 b : Bool
 i : Int
 t : Nat
 p : Nat
 asg : Code
 bdy : Code
def kpE (P : KpP) : List (Nat × D) := [(P.t, .fn 100 [.cb P.s 0]), (2, .sl 4 P.SL), (3, .cb P.l 0), (4, .cb P.due 0), (6, I 0), (7, .v (.bool P.b)), (8, .b 3 0), (9, I P.i), (10, .cb P.s 0), (11, .b 1 0), (16, .sl 4 P.SL), (17, I 2), (18, I P.i)]
def kpH (P : KpP) (e e0 : List (List Int × D)) : List Blk :=
 [.ob (.lp .ready none (kpE P) 79 [P.p] P.asg P.bdy), .box (.mv 2), .ob (.mp 2 e), .box (.mv 4), .ob (.mp 2 e0)]
structure RoundV (P : KpP) : Prop where
 out : ∀ x y, Tiny x -> Tiny y -> ∀ e e0, MOk e -> MOk e0 -> ∀ Q, (∀ e', MOk e' -> Q (RA.ret (.v (.bool true))) (kpH P e' e0 ++ [.dead])) -> RoundA Tryz.prog 0 [.agg [I x, I y]] (kpH P e e0) Q
set_option maxRecDepth 40000 in
set_option maxHeartbeats 4000000 in
theorem Z26s (a b c d : Int) (h : Tiny a /\ Tiny b /\ Tiny c /\ Tiny d) (P : KpP) (hR : RoundV P) (e e0) (he : MOk e) (he0 : MOk e0) (Q) (hq : ∀ e' d, MOk e' -> Q (RA.ret d) (kpH P e' e0)) :
  CallA Tryz.prog 100 [.yv 0, .cb (.agg [I a, I b, I c, I d]) 0] (kpH P e e0) Q := by
 obtain ⟨A, hA⟩ : ∃ A, A = ar := ⟨_, rfl⟩;have hyes := hR.out;obtain ⟨⟨a1, a2⟩, ⟨b1, b2⟩, ⟨c1, c2⟩, d1, d2⟩ := h;refine Z5 Z0 hA Tryz.func100 rfl rfl rfl rfl rfl fun S hS => ?_;cbv;refine Zb hS ?_;refine Za (α := Int × List (List Int × D)) (fun q => { env := [(0, .yv 0), (1, .cb (.agg [I a, I b, I c, I d]) 0), (3, I q.1)], H := kpH P q.2 e0, nt := 31, dfs := [] }) (fun q => (b + 1 - q.1).toNat) (fun q => (-1000 <= q.1 /\ q.1 <= 1001) /\ MOk q.2) (a, e) ⟨⟨by show _ <= a; omega, by show a <= _; omega⟩, he⟩ ?_ ?_
 ·exact Zf [0, 1, 2, 3, 4] ⟨by decide, Z91, ⟨rfl, rfl, rfl, rfl, rfl, trivial⟩, ⟨rfl, rfl, rfl, trivial⟩, rfl, rfl⟩
 rintro ⟨x, e⟩ ⟨⟨h1, h2⟩, he⟩
 replace h1 : -1000 <= x := h1
 replace h2 : x <= 1001 := h2
 replace he : MOk e := he
 refine Zi Z0 hA hS ?_;cbv;refine bm (fun cc => ?_) (fun cc => ?_)
 ·have hxb : x <= b := xle hA cc;cbv;refine Zb hS ?_;refine Za (α := Int × List (List Int × D)) (fun q => { env := [(0, .yv 0), (1, .cb (.agg [I a, I b, I c, I d]) 0), (3, I x), (4, I q.1)], H := kpH P q.2 e0, nt := 31, dfs := [] }) (fun q => (d + 1 - q.1).toNat) (fun q => (-1000 <= q.1 /\ q.1 <= 1001) /\ MOk q.2) (c, e) ⟨⟨by show _ <= c; omega, by show c <= _; omega⟩, he⟩ ?_ ?_
  ·exact Zf [0, 1, 2, 3, 4] ⟨by decide, Z91, ⟨rfl, rfl, rfl, rfl, rfl, trivial⟩, ⟨rfl, rfl, rfl, rfl, trivial⟩, rfl, rfl⟩
  rintro ⟨y, e⟩ ⟨⟨h3, h4⟩, he⟩
  replace h3 : -1000 <= y := h3
  replace h4 : y <= 1001 := h4
  replace he : MOk e := he
  refine Zi Z0 hA hS ?_;cbv;refine bm (fun c2 => ?_) (fun c2 => ?_)
  ·have hyd : y <= d := xle hA c2;cbv;refine Zpp hS 0 [.agg [I x, I y]] [0, 1, 2, 3, 4] (kpH P e e0) rfl rfl rfl rfl rfl rfl rfl rfl rfl (by decide) ⟨rfl, rfl, rfl, rfl, rfl, trivial⟩ (hyes x y ⟨h1, by omega⟩ ⟨h3, by omega⟩ e e0 he he0 _ fun e' he' => ?_);refine Z3 Z0 hA hS ?_;cbv;refine bmF (by subst hA; rfl) ?_;cbv;refine ⟨by subst hA; exact Zbu (n := y + 1) (by omega), ?_⟩;refine Z8 (A.add y 1, e') [0, 1, 2, 3, 4] ⟨⟨by subst hA; show _ <= y + 1; omega, by subst hA; show y + 1 <= _; omega⟩, he'⟩ (by subst hA; show (d + 1 - (y + 1)).toNat < (d + 1 - y).toNat; omega) ?_;exact ⟨by decide, Z91, ⟨rfl, rfl, rfl, rfl, rfl, trivial⟩, ⟨rfl, rfl, rfl, rfl, trivial⟩, rfl, rfl⟩
  ·cbv;refine Z7 ?_;cbv;refine ⟨by subst hA; exact Zbu (n := x + 1) (by omega), ?_⟩;refine Z8 (A.add x 1, e) [0, 1, 2, 3, 4] ⟨⟨by subst hA; show _ <= x + 1; omega, by subst hA; show x + 1 <= _; omega⟩, he⟩ (by subst hA; show (b + 1 - (x + 1)).toNat < (b + 1 - x).toNat; omega) ?_;exact ⟨by decide, Z91, ⟨rfl, rfl, rfl, rfl, rfl, trivial⟩, ⟨rfl, rfl, rfl, trivial⟩, rfl, rfl⟩
 ·cbv;refine Z7 ?_;cbv;exact Z2 [0, 1, 2, 3, 4] (by decide) Z91 (H' := kpH P e e0) (d' := .tup []) ⟨rfl, rfl, rfl, rfl, rfl, trivial⟩ rfl (Z1 (hq _ _ he))
end Go.Proofs.YtggilmnhgjofiaaGreat

namespace Go.Abs
open Go Go.Conc
section
variable {P : Program} {T : TT} {r : Option Nat} {m : Nat} {Q : AX -> St -> Prop} {s : St}
theorem Z1xb (hT : TOK P T) {A : Ar} (hA : A = ar) {S : Stop} (hS : S = Zo P r m) {c : Code} (n : Nat) (h : ∀ L : St -> Prop, L = Z1x3 P r m c Q n -> vcC A T S c (Zb1 L Q) s) : S.code (.loop c) Q s := by subst hA; exact Z1uo hT hS n h
theorem Z1y4 (hT : TOK P T) {A : Ar} (hA : A = ar) {S : Stop} (hS : S = Zo P r m) {c : Code} {n : Nat} {L : St -> Prop} (hL : L = Z1x3 P r m c Q (n + 1)) (h : ∀ L : St -> Prop, L = Z1x3 P r m c Q n -> vcC A T S c (Zb1 L Q) s) : L s := by subst hA; exact Z1ut hT hS hL h
end
end Go.Abs
namespace Go.Proofs.YtggilmnhgjofiaaGreat
open Go Go.Abs Go.Proofs
theorem Z5x {P : Program} {r : Option Nat} {s : St} {o : Oper} {K : D -> List Blk -> List AD -> Prop} {X : D -> List Blk -> Prop} {x : Operand} {j k kn clock i c : Nat} {ents : List (List Int × D)} {bs seen sn : List Nat} {e : List Int × D} (hs : sn = seen ++ [c]) (ho : o.op = .entry x) (hx : evo s.env x = some (.b j 0))
  (hj : Z1m s.H j = some (.ob (.mi k clock sn clock))) (hk : Z1m s.H k = some (.ob (.mpx kn ents bs clock))) (hc : bs[i]? = some c) (hent : ents[i]? = some e)
  (h : K (.tup [Zfm kn e.1, e.2]) s.H s.dfs) : OpA P r o s K X := by subst hs; exact Zpy ho hx hj hk hc hent h
def Z8y (bs seen : List Nat) : Nat := (bs.filter fun c => decide (c ∉ seen)).length
theorem Z85 {bs seen : List Nat} {i c : Nat} (hc : bs[i]? = some c) (hn : c ∉ seen) : Z8y bs (seen ++ [c]) < Z8y bs seen := by
 have hm : c ∈ bs := List.mem_of_getElem? hc;unfold Z8y;clear hc
 induction bs with
 | nil => simp at hm
 | cons x bs ih =>
  have le : ∀ l : List Nat, (l.filter fun y => decide (y ∉ seen ++ [c])).length <= (l.filter fun y => decide (y ∉ seen)).length := fun l => by
   induction l with
   | nil => simp
   | cons y l ih2 =>
    simp only [List.filter_cons]
    by_cases h1 : y ∈ seen
    ·have : y ∈ seen ++ [c] := by simp [h1]
     simpa [h1, this] using ih2
    ·by_cases h2 : y ∈ seen ++ [c]
     ·simp [h1, h2]; simp at ih2; omega
     ·simp [h1, h2]; simpa using ih2
  by_cases hx : x = c
  ·subst hx;have := le bs;simp [List.filter_cons, hn] at this ⊢;omega
  ·rcases List.mem_cons.1 hm with h1 | h1
   ·exact absurd h1.symm hx
   ·have h2 := ih h1;simp only [List.filter_cons]
    by_cases h3 : x ∈ seen
    ·have : x ∈ seen ++ [c] := by simp [h3]
     simpa [h3, this] using h2
    ·have : x ∉ seen ++ [c] := by simp [h3, hx]
     simpa [h3, this] using h2
def sdD (a b c d : Int) : D := .agg [I a, I b, I c, I d]
set_option maxRecDepth 40000 in
set_option maxHeartbeats 4000000 in
theorem Z24s (l0 l1 l2 due : Int) (l3 : Nat) (a b c d a' b1 c' d' : Int) (hn1 : l3 <= 100) (h : Tiny a /\ Tiny b /\ Tiny c /\ Tiny d) (h' : Tiny a' /\ Tiny b1 /\ Tiny c' /\ Tiny d') (hdue : Z1tm due) (hl2 : Z1tm l2 /\ 0 <= l2)
  (hin : ∀ n : Nat, n <= l3 -> due - (a' + (n * c' - (b + n * d))) <= l2 /\ (b1 + (n * d' - (a + n * c))) - due <= l2) (SL : List D) (hSL : SL = [sdD a b c d, sdD a' b1 c' d']) (Q) (hq : Q (RA.ret (I 1)) []) :
  CallA Tryz.prog 48 [.agg [I l0, I l1, I l2, I l3], I due, .sl 4 SL] [] Q := by
 obtain ⟨A, hA⟩ : ∃ A, A = ar := ⟨_, rfl⟩;obtain ⟨l, hl⟩ : ∃ l : D, l = .agg [I l0, I l1, I l2, I l3] := ⟨_, rfl⟩;have hSl : SL.length = 2 := by rw [hSL]; rfl
 have hg0 : SL[0]? = some (.agg [I a, I b, I c, I d]) := by rw [hSL]; rfl
 have hg1 : SL[1]? = some (.agg [I a', I b1, I c', I d']) := by rw [hSL]; rfl
 refine Zip Z0 hA Tryz.func48 rfl rfl rfl rfl rfl fun S hS => ?_;cbv;refine Z3h hS (Zo7 17 (I 2) rfl (WkD.eq (show D.v (.int .i64 (A.oi (A.len SL))) = I 2 from by subst hA; show D.v (.int .i64 (SL.length : Nat)) = I 2; rw [hSl]; rfl)) (Z1a hA [1, 2] ?_));cbv;refine Z7 ?_;refine Z1xb Z0 hA hS 3 fun L1 hL1 => ?_;cbv;refine bmT (by subst hA; rfl) ?_;cbv;refine ⟨by subst hA; show (0 : Int) <= 0 /\ (0 : Int) < (SL.length : Nat); rw [hSl]; decide, Need.mk ⟨_, by subst hA; exact hg0, ?_⟩⟩;cbv;refine bmT (by subst hA; rfl) ?_;cbv;refine Z4 hS [.agg [I a, I b, I c, I d]] [] [] rfl rfl rfl rfl rfl rfl rfl rfl (by decide) trivial (lAll a b c d _ (Z3 Z0 hA hS ?_));cbv;refine Z3h hS (Z1a hA [5] ?_);cbv;refine Z60 (a := { env := [(27, .fn 100 [.cb (.agg [I a, I b, I c, I d]) 0]), (2, .sl 4 SL), (3, .cb (.agg [I l0, I l1, I l2, I l3]) 0), (4, .cb (I due) 0), (6, I 0), (7, .v (.bool true)), (8, .b 3 0), (9, I 0), (10, .cb (.agg [I a, I b, I c, I d]) 0), (11, .b 1 0), (16, .sl 4 SL), (17, I 2), (18, I 0)], H := [.ob .mk, .box (.mv 2), .ob (.mp 2 []), .box (.mv 4), .ob (.mp 2 [])], nt := 79, dfs := [.mk 0] }) [0, 7, 6, 4, 3] ⟨by decide, Z9, ⟨rfl, rfl, rfl, rfl, rfl, trivial⟩, ⟨rfl, rfl, rfl, rfl, rfl, rfl, rfl, rfl, rfl, rfl, rfl, rfl, rfl, trivial⟩, rfl, rfl⟩ (Z7 ?_);refine Z9l hS (as' := [.yv 0, .cb (.agg [I a, I b, I c, I d]) 0]) [5, 1, 2, 3, 4] (kpH ⟨.agg [I l0, I l1, I l2, I l3], I due, .agg [I a, I b, I c, I d], SL, true, 0, 27, 28, _, _⟩ [] []) rfl rfl rfl rfl (by decide) ⟨rfl, rfl, rfl, rfl, rfl, trivial⟩ ?_;refine Z26s a b c d h _ ⟨fun x y hx hy e e0 he he0 Q hq => ?_⟩ [] [] .nil .nil _ fun e1 d0 he1 => ?_
 ·refine Zh2 Z0 hA rfl rfl (fun t ht => by replace ht : t ∈ [28] := ht; simp at ht; subst ht; decide) fun bb S2 hS2 => ?_;cbv;refine Zb hS2 ?_;refine Z2w Z0 hA hS2 [10] ?_;cbv;refine Z3h hS2 (Z1a hA [5] ?_);cbv;refine Z7 ?_;refine Zb hS2 ?_;refine Zi Z0 hA hS2 ?_;cbv;refine ⟨[x, y], ⟨rfl, rfl⟩, ?_⟩;cbv;refine ⟨⟨_, _, rfl⟩, hq _ ?_⟩;subst hA;exact he.put hx hy _
 refine ⟨⟨.ready, _, (by intro h; cases h), rfl⟩, ?_⟩;cbv;refine ⟨by subst hA; exact Zbu (n := 1) (by omega), ?_⟩;refine Z1y4 Z0 hA hS hL1 fun L2 hL2 => ?_;cbv;refine bmT (by subst hA; rfl) ?_;cbv;refine ⟨by subst hA; show (0 : Int) <= 1 /\ (1 : Int) < (SL.length : Nat); rw [hSl]; decide, Need.mk ⟨_, by subst hA; exact hg1, ?_⟩⟩;cbv;refine bmF (by subst hA; rfl) ?_;cbv;refine Z16 Z0 hA hS [0, 1, 2, 3, 4, 5, 6, 7, 8, 9, 11, 12, 10, 13, 14, 15] rfl rfl fun Dk hDk => ?_;cbv;have hg0' : A.get SL (A.tn (A.sub (A.add 0 1) 1)) = some (.agg [I a, I b, I c, I d]) := by subst hA; exact hg0
 refine ⟨by subst hA; exact Zbu (n := 0) (by omega), by subst hA; show (0 : Int) <= 0 /\ (0 : Int) < (SL.length : Nat); rw [hSl]; decide, Need.mk ⟨_, hg0', ?_⟩⟩;cbv;refine Zbm hA hDk (b := true) rfl rfl rfl rfl rfl rfl rfl rfl rfl rfl rfl (fun _ => ⟨[], _, [.agg [I l0, I l1, I l2, I l3], I due, .agg [I a, I b, I c, I d], .agg [I a', I b1, I c', I d']], [], [], rfl, rfl, rfl, by decide, trivial, lOff l0 l1 l2 due l2 l3 a b c d a' b1 c' d' hn1 ⟨h.1.small, h.2.1.small, h.2.2.1.small, h.2.2.2.small, h'.2.2.1.small, h'.2.2.2.small⟩ ⟨h'.1.small, h'.2.1.small⟩ hdue hl2.2 hin _ fun x hx => ⟨by cbv, Zx Z0 hA hDk ?_⟩⟩) (fun h => absurd rfl h);cbv;refine Z4 hS [.agg [I a', I b1, I c', I d']] [] [] rfl rfl rfl rfl rfl rfl rfl rfl (by decide) trivial (lAll a' b1 c' d' _ (Z3 Z0 hA hS ?_));cbv;refine Z3h hS (Zo7 7 (.v (.bool true)) rfl (WkD.eq (show D.v (.bool (A.cmp .leq x l2)) = _ from by subst hA; show D.v (.bool (decide (x <= l2))) = _; rw [decide_eq_true hx])) (Zo7 9 (I 1) rfl (WkD.eq (by subst hA; rfl)) (Zo7 18 (I 1) rfl (WkD.eq (by subst hA; rfl)) (Z1a hA [6] ?_))));cbv;refine Z60 (a := { env := [(48, .fn 100 [.cb (.agg [I a', I b1, I c', I d']) 0]), (2, .sl 4 SL), (3, .cb (.agg [I l0, I l1, I l2, I l3]) 0), (4, .cb (I due) 0), (6, I 0), (7, .v (.bool true)), (8, .b 3 0), (9, I 1), (10, .cb (.agg [I a', I b1, I c', I d']) 0), (11, .b 1 0), (16, .sl 4 SL), (17, I 2), (18, I 1)], H := [.ob .mk, .box (.mv 2), .ob (.mp 2 []), .box (.mv 4), .ob (.mp 2 e1)], nt := 79, dfs := [.mk 0] }) [0, 8, 7, 3, 2] ⟨by decide, Z9, ⟨rfl, rfl, rfl, rfl, rfl, trivial⟩, ⟨rfl, rfl, rfl, rfl, rfl, rfl, rfl, rfl, rfl, rfl, rfl, rfl, rfl, trivial⟩, rfl, rfl⟩ (Z7 ?_);refine Z9l hS (as' := [.yv 0, .cb (.agg [I a', I b1, I c', I d']) 0]) [5, 1, 2, 3, 4] (kpH ⟨.agg [I l0, I l1, I l2, I l3], I due, .agg [I a', I b1, I c', I d'], SL, true, 1, 48, 49, _, _⟩ [] e1) rfl rfl rfl rfl (by decide) ⟨rfl, rfl, rfl, rfl, rfl, trivial⟩ ?_;refine Z26s a' b1 c' d' h' _ ⟨fun x y hx hy e e0 he he0 Q hq => ?_⟩ [] e1 .nil he1 _ fun e2 d2 he2 => ?_
 ·refine Zh2 Z0 hA rfl rfl (fun t ht => by replace ht : t ∈ [49] := ht; simp at ht; subst ht; decide) fun bb S2 hS2 => ?_;cbv;refine Zb hS2 ?_;refine Zi Z0 hA hS2 ?_;cbv;refine Zs7 Z0 hA hS2 ?_;cbv;refine Z2g hS2 rfl rfl rfl (Z6t Z0 rfl rfl rfl rfl fun bs clock h1 h2 h3 => ?_);refine Z3 Z0 hA hS2 ?_;cbv;refine Zb hS2 ?_;refine Za (α := List Nat) (fun q => { env := [(3, .cb (.agg [I l0, I l1, I l2, I l3]) 0), (4, .cb (I due) 0), (8, .b 3 0), (11, .b 1 0), (13, .b 5 0), (51, .b 6 0)], H := [.ob (.lp .busy none (kpE ⟨.agg [I l0, I l1, I l2, I l3], I due, .agg [I a', I b1, I c', I d'], SL, true, 1, 48, 49, .skip, .skip⟩) 79 [49] _ _), .box (.mv 2), .ob (.mp 2 e), .box (.mv 4), .ob (.mpx 2 e0 bs clock), .box (.agg [I x, I y]), .ob (.mi 4 clock q clock)], nt := 79, dfs := [] })
   (fun q => Z8y bs q) (fun _ => True) [] trivial (by
    exact Zf [0, 1, 2, 3, 4, 5, 6] ⟨by decide, Z91, ⟨rfl, rfl, rfl, rfl, rfl, rfl, rfl, trivial⟩, ⟨rfl, rfl, rfl, rfl, rfl, rfl, trivial⟩, rfl, rfl⟩) ?_
  rintro seen -;refine Z2w Z0 hA hS2 [] ?_;cbv;refine Z2g hS2 rfl rfl rfl (Z7y rfl rfl rfl rfl (fun hall => ?_) (fun ix c ke hc hke hn hkl => ?_))
  ·refine Z3 Z0 hA hS2 ?_;cbv;refine Zms (k := 4) rfl ?_;cbv;refine Z60 (a := { env := [], H := [.ob (.lp .busy none (kpE ⟨.agg [I l0, I l1, I l2, I l3], I due, .agg [I a', I b1, I c', I d'], SL, true, 1, 48, 49, .skip, .skip⟩) 79 [49] _ _), .box (.mv 2), .ob (.mp 2 _), .box (.mv 4), .ob (.mp 2 e0), .box (.agg [I x, I y])], nt := 79, dfs := [] }) [0, 1, 2, 3, 4, 5] ⟨by decide, Z91, ⟨rfl, rfl, rfl, rfl, rfl, rfl, trivial⟩, trivial, rfl, rfl⟩ (Z1a hA [5] ?_);cbv;refine Z7 ?_;cbv;exact ⟨⟨_, _, rfl⟩, hq _ he⟩
  ·obtain ⟨u, v, hke1, hu, hv⟩ := he0.out ke (List.mem_of_getElem? hke);obtain ⟨u1, u2⟩ := hu;obtain ⟨v1, v2⟩ := hv;obtain ⟨x1, x2⟩ := hx;obtain ⟨y1, y2⟩ := hy;obtain ⟨sn, hsn⟩ : ∃ sn, sn = seen ++ [c] := ⟨_, rfl⟩;have hul := Z85 hc hn;rw [<- hsn] at hul;have hkey : Zfm 2 ke.1 = .agg [I u, I v] := by rw [hke1]; rfl
   dsimp only;rw [hkey, <- hsn];refine Z3 Z0 hA hS2 ?_;cbv;refine Z2g hS2 rfl rfl rfl (Z5x hsn rfl rfl rfl rfl hc hke ?_);dsimp only;rw [hkey];refine Z3 Z0 hA hS2 ?_;cbv;refine ⟨by subst hA; exact ⟨by decide, by decide⟩, by subst hA; exact ⟨by decide, by decide⟩, by subst hA; exact Zbu (n := x - u) (by omega), by subst hA; exact ⟨by decide, by decide⟩, by subst hA; exact ⟨by decide, by decide⟩, by subst hA; exact Zbu (n := y - v) (by omega), ?_⟩;refine Z4 hS2 [.agg [I l0, I l1, I l2, I l3], I due, I (A.sub x u), I (A.sub y v)] [] [] rfl rfl rfl rfl rfl rfl rfl rfl (by decide) trivial (Z27a l0 l1 l2 due _ _ l3 hn1 ⟨hl2.1, hdue, by subst hA; exact ⟨show _ <= x - u by omega, show x - u <= _ by omega⟩, by subst hA; exact ⟨show _ <= y - v by omega, show y - v <= _ by omega⟩⟩ _ fun bb => Z3 Z0 hA hS2 ?_);cbv;refine bm (fun cc => ?_) (fun cc => ?_)
   ·cbv;refine ⟨[x, y], ⟨rfl, rfl⟩, ?_⟩;cbv;refine Zms (k := 4) rfl ?_;cbv;refine Z60 (a := { env := [], H := [.ob (.lp .busy none (kpE ⟨.agg [I l0, I l1, I l2, I l3], I due, .agg [I a', I b1, I c', I d'], SL, true, 1, 48, 49, .skip, .skip⟩) 79 [49] _ _), .box (.mv 2), .ob (.mp 2 _), .box (.mv 4), .ob (.mp 2 e0), .box (.agg [I x, I y])], nt := 79, dfs := [] }) [0, 1, 2, 3, 4, 5] ⟨by decide, Z91, ⟨rfl, rfl, rfl, rfl, rfl, rfl, trivial⟩, trivial, rfl, rfl⟩ (Z1a hA [5] ?_);cbv;refine Z7 ?_;cbv;exact ⟨⟨_, _, rfl⟩, hq _ (by subst hA; exact he.put ⟨x1, x2⟩ ⟨y1, y2⟩ _)⟩
   ·cbv;refine Z8 sn [0, 1, 2, 3, 4, 5, 6] trivial hul ?_;exact ⟨by decide, Z91, ⟨rfl, rfl, rfl, rfl, rfl, rfl, rfl, trivial⟩, ⟨rfl, rfl, rfl, rfl, rfl, rfl, trivial⟩, rfl, rfl⟩
 refine ⟨⟨.ready, _, (by intro h; cases h), rfl⟩, ?_⟩;cbv;refine ⟨by subst hA; exact Zbu (n := 2) (by omega), ?_⟩;refine Z1y4 Z0 hA hS hL2 fun L3 hL3 => ?_;cbv;refine bmF (by subst hA; rfl) ?_;cbv;exact Z2 [] (by decide) Z9 (H' := []) (d' := I 1) trivial rfl (Z1 hq)
end Go.Proofs.YtggilmnhgjofiaaGreat

namespace Go.Proofs.YtggilmnhgjofiaaGreat
open Go Go.Abs Go.Proofs
def lwD : D := .agg [I 20, I 0, I 4, I 0]
def scD : D := .agg [I 20, I 0, I 4, I 0, .sl 1 [.sl 4 [sdD 0 0 0 0], .sl 4 [sdD 20 20 0 0]]]
theorem Z22c (Q) (hq : Q (RA.ret (I 0)) []) : CallA Tryz.prog 92 [lwD] [] Q := by
 refine Z5 (A := ar) Z0 rfl Tryz.func92 rfl rfl rfl rfl rfl fun S hS => ?_;cbv
 repeat (first
  | (refine ⟨Int.NonNeg.mk _, ?_⟩)
  | (refine Need.mk ⟨_, rfl, ?_⟩; cbv)
  | (refine Z4 hS [I _, I _, I _] [] [] rfl rfl rfl rfl rfl rfl rfl rfl (by decide) trivial (Z1w3 _ _ _ _ (Z3 (A := ar) Z0 rfl hS ?_)); cbv)
  | (refine Zg hS (b := false) rfl rfl rfl rfl rfl rfl rfl rfl (fun _ => ⟨[], _, [I _, I _, I _], [], [], rfl, rfl, rfl, by decide, trivial, Z1w3 _ _ _ _ (Z3 (A := ar) Z0 rfl hS ?_)⟩) (fun h => absurd rfl h); cbv))
 exact Z2 (H' := []) (d' := I 0) [] (by simp) (fun i hi => absurd hi (by simp)) trivial rfl (Z1 hq)
set_option maxRecDepth 40000 in
set_option maxHeartbeats 4000000 in
theorem Z21h (a c : Int) (ha : a = 0 ∨ a = 20) (hc : c = 0) (Q) (hq : Q (RA.ret (I 0)) []) : CallA Tryz.prog 111 [sdD a a c c] [] Q := by
 subst hc;rcases ha with rfl | rfl
 all_goals
  refine Z5 (A := ar) Z0 rfl Tryz.func111 rfl rfl rfl rfl rfl fun S hS => ?_;cbv
  repeat (first
   | (refine ⟨Int.NonNeg.mk _, ?_⟩)
   | (refine Need.mk ⟨_, rfl, ?_⟩; cbv)
   | (refine ⟨by decide, ?_⟩)
   | (refine Z4 hS [I _, I _, I _] [] [] rfl rfl rfl rfl rfl rfl rfl rfl (by decide) trivial (Z1w3 _ _ _ _ (Z3 (A := ar) Z0 rfl hS ?_)); cbv)
   | (refine Zg hS (b := false) rfl rfl rfl rfl rfl rfl rfl rfl (fun _ => ⟨[], _, [I _, I _, I _], [], [], rfl, rfl, rfl, by decide, trivial, Z1w3 _ _ _ _ (Z3 (A := ar) Z0 rfl hS ?_)⟩) (fun h => absurd rfl h); cbv)
   | (refine Z1xz Z0 rfl hS [3] 7 fun L hL => ?_; cbv)
   | (refine Z1x7 Z0 rfl hS [3] hL fun L hL => ?_; cbv)
   | (refine Z4j (A := ar) Z0 rfl hS [0] [1, 2, 3, 4] rfl ?_; cbv; refine Z2g hS rfl rfl rfl (Z1ww Z0 rfl rfl rfl rfl rfl rfl rfl (by decide) [_, _] rfl ?_); refine Z3 (A := ar) Z0 rfl hS ?_; cbv))
  exact Z2 (H' := []) (d' := I 0) [] (by simp) (fun i hi => absurd hi (by simp)) trivial rfl (Z1 hq)
set_option maxRecDepth 40000 in
set_option maxHeartbeats 4000000 in
theorem Z1y5 (a c : Int) (ha : a = 0 ∨ a = 20) (hc : c = 0) (Q) (hq : Q (RA.ret (I 0)) []) : CallA Tryz.prog 93 [.sl 4 [sdD a a c c], I 6] [] Q := by
 have h1 := Z21h a c ha hc;refine Z5 (A := ar) Z0 rfl Tryz.func93 rfl rfl rfl rfl rfl fun S hS => ?_;cbv
 repeat (first
  | (refine ⟨Int.NonNeg.mk _, ?_⟩)
  | (refine Need.mk ⟨_, rfl, ?_⟩; cbv)
  | (refine ⟨by decide, ?_⟩)
  | (refine Z4 hS [sdD a a c c] [] [] rfl rfl rfl rfl rfl rfl rfl rfl (by decide) trivial (h1 _ (Z3 (A := ar) Z0 rfl hS ?_)); cbv)
  | (refine Z1uo Z0 hS 7 fun L hL => ?_; cbv)
  | (refine Z1ut Z0 hS hL fun L hL => ?_; cbv))
 exact Z2 (H' := []) (d' := I 0) [] (by simp) (fun i hi => absurd hi (by simp)) trivial rfl (Z1 hq)
set_option maxRecDepth 40000 in
theorem Z24t (Q) (hq : Q (RA.ret (I 1)) []) : CallA Tryz.prog 52 [scD] [] Q := by
 refine Z5 (A := ar) Z0 rfl Tryz.func52 rfl rfl rfl rfl rfl fun S hS => ?_;cbv
 repeat (first
  | (refine ⟨Int.NonNeg.mk _, ?_⟩)
  | (refine Need.mk ⟨_, rfl, ?_⟩; cbv)
  | (refine ⟨by decide, ?_⟩))
 exact Z2 (H' := []) (d' := I 1) [] (by simp) (fun i hi => absurd hi (by simp)) trivial rfl (Z1 hq)
theorem lDue (l0 l1 l2 l3 n x : Int) (hx : x = l0 + l1 * n) (h : -1000000000 <= l1 * n /\ l1 * n <= 1000000000) (h0 : Z1tm l0) (Q) (hq : Q (RA.ret (I x)) []) : CallA Tryz.prog 49 [.agg [I l0, I l1, I l2, I l3], I n] [] Q := by
 obtain ⟨A, hA⟩ : ∃ A, A = ar := ⟨_, rfl⟩;have hx' : A.add l0 (A.mul l1 n) = x := by subst hA; exact hx.symm
 have f1 : A.fits .i64 (A.mul l1 n) := by subst hA; exact Zbu (n := l1 * n) (by omega)
 have f2 : A.fits .i64 (A.add l0 (A.mul l1 n)) := by obtain ⟨h1, h2⟩ := h0; subst hA; exact Zbu (n := l0 + l1 * n) (by omega)
 clear h hx;rw [<- hx'] at hq;refine Z5 Z0 hA Tryz.func49 rfl rfl rfl rfl rfl fun S hS => ?_;cbv;exact ⟨f1, f2, Z2 (H' := []) (d' := I (A.add l0 (A.mul l1 n))) [] (by simp) (fun i hi => absurd hi (by simp)) trivial rfl (Z1 hq)⟩
end Go.Proofs.YtggilmnhgjofiaaGreat

namespace Go.Proofs.YtggilmnhgjofiaaGreat
open Go Go.Abs Go.Proofs
set_option maxRecDepth 40000 in
set_option maxHeartbeats 8000000 in
theorem Z21i (Q) (hq : Q (RA.ret (I 0)) []) : CallA Tryz.prog 80 [scD] [] Q := by
 refine Z5 (A := ar) Z0 rfl Tryz.func80 rfl rfl rfl rfl rfl fun S hS => ?_;cbv
 repeat (first
  | (refine ⟨Int.NonNeg.mk _, ?_⟩)
  | (refine Need.mk ⟨_, rfl, ?_⟩; cbv)
  | (refine ⟨by decide, ?_⟩)
  | (refine Z4 hS [lwD] [] [] rfl rfl rfl rfl rfl rfl rfl rfl (by decide) trivial (Z22c _ (Z3 (A := ar) Z0 rfl hS ?_)); cbv)
  | (refine Z4 hS [lwD, I _] [] [] rfl rfl rfl rfl rfl rfl rfl rfl (by decide) trivial (lDue _ _ _ _ _ 20 (by decide) (by decide) (by unfold Z1tm; decide) _ (Z3 (A := ar) Z0 rfl hS ?_)); cbv)
  | (refine Z4 hS [scD] [] [] rfl rfl rfl rfl rfl rfl rfl rfl (by decide) trivial (Z24t _ (Z3 (A := ar) Z0 rfl hS ?_)); cbv)
  | (refine Z4 hS [.sl 4 [sdD 0 0 0 0], I 6] [] [] rfl rfl rfl rfl rfl rfl rfl rfl (by decide) trivial (Z1y5 0 0 (.inl rfl) rfl _ (Z3 (A := ar) Z0 rfl hS ?_)); cbv)
  | (refine Z4 hS [.sl 4 [sdD 20 20 0 0], I 6] [] [] rfl rfl rfl rfl rfl rfl rfl rfl (by decide) trivial (Z1y5 20 0 (.inr rfl) rfl _ (Z3 (A := ar) Z0 rfl hS ?_)); cbv)
  | (refine Z4 hS [I _, I _, I _] [] [] rfl rfl rfl rfl rfl rfl rfl rfl (by decide) trivial (Z1w3 _ _ _ _ (Z3 (A := ar) Z0 rfl hS ?_)); cbv)
  | (refine Z1uo Z0 hS 7 fun L hL => ?_; cbv)
  | (refine Z1ut Z0 hS hL fun L hL => ?_; cbv))
 exact Z2 (H' := []) (d' := I 0) [] (by simp) (fun i hi => absurd hi (by simp)) trivial rfl (Z1 hq)
set_option maxRecDepth 40000 in
set_option maxHeartbeats 8000000 in
theorem Z1zf (Q) (hq : Q (RA.ret (I 0)) []) : CallA Tryz.prog 51 [scD, .sl 1 [I 0, I 1]] [] Q := by
 refine Z5 (A := ar) Z0 rfl Tryz.func51 rfl rfl rfl rfl rfl fun S hS => ?_;cbv
 repeat (first
  | (refine ⟨Int.NonNeg.mk _, ?_⟩)
  | (refine Need.mk ⟨_, rfl, ?_⟩; cbv)
  | (refine ⟨by decide, ?_⟩)
  | (refine Z4 hS [scD] [] [] rfl rfl rfl rfl rfl rfl rfl rfl (by decide) trivial (Z21i _ (Z3 (A := ar) Z0 rfl hS ?_)); cbv)
  | (refine Z4 hS [I _, I _, I _] [] [] rfl rfl rfl rfl rfl rfl rfl rfl (by decide) trivial (Z1w3 _ _ _ _ (Z3 (A := ar) Z0 rfl hS ?_)); cbv)
  | (refine Z1uo Z0 hS 7 fun L hL => ?_; cbv)
  | (refine Z1ut Z0 hS hL fun L hL => ?_; cbv))
 exact Z2 (H' := []) (d' := I 0) [] (by simp) (fun i hi => absurd hi (by simp)) trivial rfl (Z1 hq)
def opD : D := .agg [I 20, I 0, I 4, I 0, .sl 1 [.sl 4 [sdD 0 0 0 0], .sl 4 [sdD 20 20 0 0]], .sl 1 [I 0, I 1]]
set_option maxRecDepth 40000 in
set_option maxHeartbeats 8000000 in
theorem Z25w (Q) (hq : Q (RA.ret (.o 0 4 2)) [.els 4 [sdD 0 0 0 0, sdD 20 20 0 0]]) : CallA Tryz.prog 53 [opD, I 0] [] Q := by
 refine Z5 (A := ar) Z0 rfl Tryz.func53 rfl rfl rfl rfl rfl fun S hS => ?_;cbv;refine Zpi hS 5 4 rfl ?_;cbv
 repeat (first
  | (refine ⟨Int.NonNeg.mk _, ?_⟩)
  | (refine Need.mk ⟨_, rfl, ?_⟩; cbv)
  | (refine ⟨by decide, ?_⟩)
  | (refine Z1uo Z0 hS 7 fun L hL => ?_; cbv)
  | (refine Z1ut Z0 hS hL fun L hL => ?_; cbv))
 exact Z2 (H' := [.els 4 [sdD 0 0 0 0, sdD 20 20 0 0]]) (d' := .o 0 4 2) [5] (by simp) (fun i hi => absurd hi (by simp)) ⟨rfl, trivial⟩ rfl (Z1 hq)
theorem Z25x (Q) (hq : Q (RA.ret (I 1)) []) : CallA Tryz.prog 48 [lwD, I 20, .sl 4 [sdD 0 0 0 0, sdD 20 20 0 0]] [] Q :=
 Z24s 20 0 4 20 0 0 0 0 0 20 20 0 0 (by decide) (by simp only [Tiny]; decide) (by simp only [Tiny]; decide) (by simp only [Z1tm]; decide) (by simp only [Z1tm]; decide) (fun n hn => by simp) _ rfl Q hq
set_option maxRecDepth 40000 in
set_option maxHeartbeats 8000000 in
theorem Z24u (Q) (hq : Q (RA.ret (.tup [.o 0 1 1, I 0])) [.els 1 [I 1]]) : CallA Tryz.prog 26 [scD, .sl 1 [I 0, I 1]] [] Q := by
 refine Z5 (A := ar) Z0 rfl Tryz.func26 rfl rfl rfl rfl rfl fun S hS => ?_;cbv;refine Z4 hS [scD, .sl 1 [I 0, I 1]] [] [] rfl rfl rfl rfl rfl rfl rfl rfl (by decide) trivial (Z1zf _ (Z3 (A := ar) Z0 rfl hS ?_));cbv;refine Z4 hS [scD] [] [] rfl rfl rfl rfl rfl rfl rfl rfl (by decide) trivial (Z24t _ (Z3 (A := ar) Z0 rfl hS ?_));cbv;refine Z1uo Z0 hS 2 fun L hL => ?_;cbv;refine Z16 (A := ar) Z0 rfl hS [0, 1, 2, 3, 4, 5, 7, 8, 6, 9, 10, 11, 12, 13] rfl rfl fun Dk hDk => ?_;cbv;refine Zq (A := ar) rfl hDk [lwD, I 0] [] [] rfl rfl rfl rfl rfl rfl rfl rfl rfl rfl rfl (by decide) trivial (lDue _ _ _ _ _ 20 (by decide) (by decide) (by unfold Z1tm; decide) _ ⟨by cbv, Zx (A := ar) Z0 rfl hDk ?_⟩);cbv;refine Zq (A := ar) rfl hDk [opD, I 0] [] [] rfl rfl rfl rfl rfl rfl rfl rfl rfl rfl rfl (by decide) trivial (Z25w _ ⟨by cbv, Zx (A := ar) Z0 rfl hDk ?_⟩);cbv;refine Zmn (A := ar) rfl hDk [2] rfl rfl rfl rfl rfl rfl fun CG hC => ?_;cbv;rw [hC];refine Zs5 [lwD, I 20, .sl 4 [sdD 0 0 0 0, sdD 20 20 0 0]] [] [] rfl rfl rfl rfl rfl (by decide) trivial (Z25x _ (Zo8 (A := ar) rfl Z0 hDk (by cbv) ?_));cbv
 repeat (first
  | (refine ⟨Int.NonNeg.mk _, ?_⟩)
  | (refine Need.mk ⟨_, rfl, ?_⟩; cbv)
  | (refine ⟨by decide, ?_⟩)
  | (refine Z1ut Z0 hS hL fun L hL => ?_; cbv))
 exact Z2 (H' := [.els 1 [I 1]]) (d' := .tup [.o 0 1 1, I 0]) [4] (by simp) (fun i hi => absurd hi (by simp)) ⟨rfl, trivial⟩ rfl (Z1 hq)
end Go.Proofs.YtggilmnhgjofiaaGreat

namespace Go.Proofs.YtggilmnhgjofiaaGreat
open Go Go.Abs Go.Proofs
theorem Z230 {k2 isz : Nat} {row : List D} : FzP k2 isz row (.o k2 isz row.length) (.sl isz row) := ⟨rfl, fun r c' h => by
 match r, h with
 | 0, h => exact .inr ⟨rfl, (Option.some.inj h).symm⟩
 | n + 1, h => cases h⟩
set_option maxRecDepth 40000 in
set_option maxHeartbeats 8000000 in
theorem Z1vp (Q) (hq : Q (RA.ret (.v (.bool true))) []) : CallA Tryz.prog 6 [] [] Q := by
 refine Z5 (A := ar) Z0 rfl Tryz.func6 rfl rfl rfl rfl rfl fun S hS => ?_;cbv;refine Z26 hS (Zs9 3 1 rfl rfl (Zuu (i := 0) Z230 rfl (fun _ => rfl)) (Zs9 3 2 rfl rfl (Zuu (i := 1) Z230 rfl (fun _ => rfl)) (Zmp 3 rfl ⟨Z30.1 rfl⟩ (Z1a (A := ar) rfl [3, 5] ?_))));cbv;refine Z7 ?_;refine Z4 hS [scD, .sl 1 [I 0, I 1]] [] [] rfl rfl rfl rfl rfl rfl rfl rfl (by decide) trivial (Z24u _ (Z3 (A := ar) Z0 rfl hS ?_));cbv;refine Z26 hS (Z1a (A := ar) rfl [7, 8, 9, 11] ?_);cbv;refine Z7 ?_;refine Z4 hS [mD xL xC, hD] [] [] rfl rfl rfl rfl rfl rfl rfl rfl (by decide) trivial (Z25u _ (Z3 (A := ar) Z0 rfl hS ?_));cbv;refine Z26 hS (Z1a (A := ar) rfl [6, 13] ?_);cbv;refine Z7 ?_;refine Zg hS (b := true) rfl rfl rfl rfl rfl rfl rfl rfl (fun _ => ⟨[], _, [.sl 1 [I 1], .sl 1 [I 1]], [], [], rfl, rfl, rfl, by decide, trivial, Z277 _ (Z3 (A := ar) Z0 rfl hS ?_)⟩) (fun h => absurd rfl h);cbv;refine Z26 hS (Z1a (A := ar) rfl [12, 14] ?_);cbv;refine Z7 ?_;refine Zg hS (b := true) rfl rfl rfl rfl rfl rfl rfl rfl (fun _ => ⟨[], _, [.sl 1 [I 0], .sl 1 [I 0]], [], [], rfl, rfl, rfl, by decide, trivial, Z276 _ (Z3 (A := ar) Z0 rfl hS ?_)⟩) (fun h => absurd rfl h);cbv;exact Z2 (H' := []) (d' := .v (.bool true)) [] (by simp) (fun i hi => absurd hi (by simp)) trivial rfl (Z1 hq)
end Go.Proofs.YtggilmnhgjofiaaGreat

namespace Go.Proofs.YtggilmnhgjofiaaGreat
open Go Go.Abs Go.Proofs
abbrev R2 := Int × Int
def rD (x : R2) : D := .agg [I x.1, I x.2]
def Z1wn (x y : R2) : R2 := (x.1 + y.1, x.2 + y.2)
def Z1vf (x y : R2) : R2 := (x.1 - y.2, x.2 - y.1)
def mxI (a b : Int) : Int := if b > a then b else a
def mnI (a b : Int) : Int := if b < a then b else a
def Z1vg (x y : R2) : R2 := (mxI x.1 y.1, mnI x.2 y.2)
def hasR (x y : R2) : Bool := decide (x.1 <= y.1) && decide (y.2 <= x.2)
def MidV (a : Int) : Prop := -1000000 <= a /\ a <= 1000000
theorem Z1wo (n lo hi : Int) (Q) (hq : ∀ b, b = (decide (lo <= n) && decide (n <= hi)) -> Q (RA.ret (.v (.bool b))) []) : CallA Tryz.prog 41 [I n, I lo, I hi] [] Q := by
 obtain ⟨A, hA⟩ : ∃ A, A = ar := ⟨_, rfl⟩;refine Z5 Z0 hA Tryz.func41 rfl rfl rfl rfl rfl fun S hS => ?_;cbv;refine bm (fun c => ?_) (fun c => ?_)
 ·cbv;refine Z1 (hq _ ?_);have h1 := xle hA c;subst hA;rw [decide_eq_true h1]; rfl
 ·cbv;refine Z1 (hq _ ?_);have h1 := Zec hA c;rw [decide_eq_false (by omega)]; rfl
theorem Z28b (a b c d : Int) (h : MidV a /\ MidV b /\ MidV c /\ MidV d) (Q) (hq : ∀ x y, (x, y) = Z1wn (a, b) (c, d) -> Q (RA.ret (.agg [I x, I y])) []) : CallA Tryz.prog 99 [.agg [I a, I b], .agg [I c, I d]] [] Q := by
 obtain ⟨A, hA⟩ : ∃ A, A = ar := ⟨_, rfl⟩;obtain ⟨⟨a1, a2⟩, ⟨b1, b2⟩, ⟨c1, c2⟩, d1, d2⟩ := h;refine Z5 Z0 hA Tryz.func99 rfl rfl rfl rfl rfl fun S hS => ?_;cbv;refine ⟨by subst hA; exact Zbu (n := a + c) (by omega), by subst hA; exact Zbu (n := b + d) (by omega), ?_⟩;exact Z2 (H' := []) (d' := .agg [I (A.add a c), I (A.add b d)]) [] (by simp) (fun i hi => absurd hi (by simp)) trivial rfl (Z1 (hq _ _ (by subst hA; rfl)))
theorem Z1zg (a b c d : Int) (h : MidV a /\ MidV b /\ MidV c /\ MidV d) (Q) (hq : ∀ x y, (x, y) = Z1vf (a, b) (c, d) -> Q (RA.ret (.agg [I x, I y])) []) : CallA Tryz.prog 97 [.agg [I a, I b], .agg [I c, I d]] [] Q := by
 obtain ⟨A, hA⟩ : ∃ A, A = ar := ⟨_, rfl⟩;obtain ⟨⟨a1, a2⟩, ⟨b1, b2⟩, ⟨c1, c2⟩, d1, d2⟩ := h;refine Z5 Z0 hA Tryz.func97 rfl rfl rfl rfl rfl fun S hS => ?_;cbv;refine ⟨by subst hA; exact Zbu (n := a - d) (by omega), by subst hA; exact Zbu (n := b - c) (by omega), ?_⟩;exact Z2 (H' := []) (d' := .agg [I (A.sub a d), I (A.sub b c)]) [] (by simp) (fun i hi => absurd hi (by simp)) trivial rfl (Z1 (hq _ _ (by subst hA; rfl)))
theorem lHas (a b c d : Int) (Q) (hq : ∀ v, v = hasR (a, b) (c, d) -> Q (RA.ret (.v (.bool v))) []) : CallA Tryz.prog 73 [.agg [I a, I b], .agg [I c, I d]] [] Q := by
 obtain ⟨A, hA⟩ : ∃ A, A = ar := ⟨_, rfl⟩;refine Z5 Z0 hA Tryz.func73 rfl rfl rfl rfl rfl fun S hS => ?_;cbv;refine bm (fun c => ?_) (fun c => ?_)
 ·cbv;refine Z2 (H' := []) (d' := .v (.bool (A.cmp .leq d b))) [] (by simp) (fun i hi => absurd hi (by simp)) trivial rfl (Z1 (hq _ ?_));have h1 := xle hA c;subst hA;unfold hasR;rw [decide_eq_true h1]; rfl
 ·cbv;refine Z2 (H' := []) (d' := .v (.bool false)) [] (by simp) (fun i hi => absurd hi (by simp)) trivial rfl (Z1 (hq _ ?_));have h1 := Zec hA c;unfold hasR;dsimp only;rw [decide_eq_false (by omega)]; rfl
set_option maxRecDepth 40000 in
set_option maxHeartbeats 4000000 in
theorem Z21j (a b : Int) (l : List R2) (L : List D) (hL : L = l.map rD) (hl : l.length <= 1000) (Q) (hq : ∀ x y, (x, y) = l.foldl Z1vg (a, b) -> Q (RA.ret (.agg [I x, I y])) []) : CallA Tryz.prog 42 [.agg [I a, I b], .sl 2 L] [] Q := by
 obtain ⟨A, hA⟩ : ∃ A, A = ar := ⟨_, rfl⟩;have hLl : L.length = l.length := by rw [hL]; simp
 have hLk : ∀ k, ∀ h : k < l.length, L[k]? = some (.agg [I l[k].1, I l[k].2]) := fun k h => by rw [hL]; simp [h, rD]
 have hfold : ∀ k, ∀ h : k < l.length, (l.take (k + 1)).foldl Z1vg (a, b) = Z1vg ((l.take k).foldl Z1vg (a, b)) l[k] := fun k h => by
  rw [List.take_add_one, List.getElem?_eq_getElem h];simp only [Option.toList_some, List.foldl_append, List.foldl_cons, List.foldl_nil]
 obtain ⟨N, hN⟩ : ∃ N, N = l.length := ⟨_, rfl⟩;rw [<- hN] at hLl hl;refine Z5 Z0 hA Tryz.func42 rfl rfl rfl rfl rfl fun S hS => ?_;cbv;refine Zb hS ?_;refine Za (α := Int × Nat × Int × Int) (fun q => { env := [(1, .sl 2 L), (2, .b 0 0), (4, .b 1 0), (7, .sl 2 L), (8, I (A.oi (A.len L))), (9, I q.1)], H := [.box (.agg [I q.2.2.1, I q.2.2.2]), .box (.agg [I 0, I 0])], nt := 26, dfs := [] })
  (fun q => N - q.2.1) (fun q => IsI q.1 q.2.1 /\ q.2.1 <= N /\ (q.2.2.1, q.2.2.2) = (l.take q.2.1).foldl Z1vg (a, b)) (0, 0, a, b) ⟨⟨rfl⟩, Nat.zero_le _, rfl⟩ ?_ ?_
 ·exact Zf [0, 1] ⟨by decide, Z9, ⟨rfl, rfl, trivial⟩, ⟨rfl, rfl, rfl, rfl, rfl, rfl, trivial⟩, rfl, rfl⟩
 rintro ⟨i, k, x, y⟩ ⟨u1, u2, u3⟩;dsimp only at u1 u2 u3;refine Zi Z0 hA hS ?_;cbv;refine bm (fun c => ?_) (fun c => ?_)
 ·have hk := Z31 hA hLl u1 c;obtain ⟨z1, z2, hz⟩ : ∃ z1 z2, (z1, z2) = l[k]'(by omega) := ⟨_, _, rfl⟩;have hLz := hLk k (by omega);rw [<- hz] at hLz;have hfo := hfold k (by omega);rw [<- hz, <- u3] at hfo;have hin := Z1b hA hLl u1 hk;have hg := Z18 hA u1 hLz;have hf1 := Zy hA u1 (by omega);have hu1 := Zz hA u1;have hms : N - (k + 1) < N - k := by omega
  cbv;refine ⟨hin, Need.mk ⟨_, hg, ?_⟩⟩;cbv;refine ⟨hf1, ?_⟩;refine Z8 (A.add i 1, k + 1, A.max x z1, A.min y z2) [0, 1] ⟨hu1, hk, ?_⟩ hms ?_
  ·rw [hfo]; subst hA; rfl
  ·exact ⟨by decide, Z9, ⟨rfl, rfl, trivial⟩, ⟨rfl, rfl, rfl, rfl, rfl, rfl, trivial⟩, rfl, rfl⟩
 ·have hk := Z21 hA hLl u1 c;cbv;refine Z7 ?_;cbv;refine Z2 (H' := []) (d' := .agg [I x, I y]) [] (by simp) (fun i hi => absurd hi (by simp)) trivial rfl (Z1 (hq _ _ ?_));rw [u3, List.take_of_length_le (by omega)]
end Go.Proofs.YtggilmnhgjofiaaGreat

namespace Go.Proofs.YtggilmnhgjofiaaGreat
open Go Go.Abs Go.Proofs
def stD (p t r u d x y : R2) (least : Int) : D := .agg [I p.1, I p.2, I t.1, I t.2, I r.1, I r.2, I u.1, I u.2, I d.1, I d.2, I x.1, I x.2, I y.1, I y.2, I least]
def Z1x1 (t r : R2) (least : Int) : Int := if t.2 < least ∨ r.2 < least then 1 else if least <= t.1 /\ least <= r.1 then 2 else 3
set_option maxRecDepth 40000 in
set_option maxHeartbeats 4000000 in
theorem Z21k (p0 p1 t0 t1 r0 r1 u0 u1 d0 d1 x0 x1 y0 y1 least : Int) (Q) (hq : ∀ v, v = Z1x1 (t0, t1) (r0, r1) least -> Q (RA.ret (I v)) []) :
  CallA Tryz.prog 98 [.agg [I p0, I p1, I t0, I t1, I r0, I r1, I u0, I u1, I d0, I d1, I x0, I x1, I y0, I y1, I least]] [] Q := by
 obtain ⟨A, hA⟩ : ∃ A, A = ar := ⟨_, rfl⟩;refine Z5 Z0 hA Tryz.func98 rfl rfl rfl rfl rfl fun S hS => ?_;cbv;refine bm (fun c1 => ?_) (fun c1 => ?_)
 ·cbv;refine Z2 (H' := []) (d' := I 1) [] (by simp) (fun i hi => absurd hi (by simp)) trivial rfl (Z1 (hq _ ?_));have := xlt hA c1;rw [Z1x1, if_pos (by simp; omega)]
 ·have c1' := Z7x hA c1;cbv;refine bm (fun c2 => ?_) (fun c2 => ?_)
  ·cbv;refine Z2 (H' := []) (d' := I 1) [] (by simp) (fun i hi => absurd hi (by simp)) trivial rfl (Z1 (hq _ ?_));have := xlt hA c2;rw [Z1x1, if_pos (by simp; omega)]
  ·have c2' := Z7x hA c2;cbv;refine bm (fun c3 => ?_) (fun c3 => ?_)
   ·have c3' := xge hA c3;cbv;refine bm (fun c4 => ?_) (fun c4 => ?_)
    ·have c4' := xge hA c4;cbv;refine Z2 (H' := []) (d' := I 2) [] (by simp) (fun i hi => absurd hi (by simp)) trivial rfl (Z1 (hq _ ?_));rw [Z1x1, if_neg (by simp; omega), if_pos (by simp; omega)]
    ·have c4' := Zur hA c4;cbv;refine Z2 (H' := []) (d' := I 3) [] (by simp) (fun i hi => absurd hi (by simp)) trivial rfl (Z1 (hq _ ?_));rw [Z1x1, if_neg (by simp; omega), if_neg (by simp; omega)]
   ·have c3' := Zur hA c3;cbv;refine Z2 (H' := []) (d' := I 3) [] (by simp) (fun i hi => absurd hi (by simp)) trivial rfl (Z1 (hq _ ?_));rw [Z1x1, if_neg (by simp; omega), if_neg (by simp; omega)]
set_option maxRecDepth 40000 in
set_option maxHeartbeats 4000000 in
theorem Z231 (p0 p1 t0 t1 r0 r1 u0 u1 d0 d1 x0 x1 y0 y1 least : Int) (h : MidV p0 /\ MidV p1 /\ MidV u0 /\ MidV u1) (h' : MidV t0 /\ MidV t1 /\ MidV x0 /\ MidV x1) (Q)
  (hq : ∀ a b c d, (a, b) = Z1wn (p0, p1) (u0, u1) -> (c, d) = Z1vf (t0, t1) (x0, x1) -> Q (RA.ret (.agg [I a, I b, I c, I d, I r0, I r1, I u0, I u1, I d0, I d1, I x0, I x1, I y0, I y1, I least])) []) :
  CallA Tryz.prog 76 [.agg [I p0, I p1, I t0, I t1, I r0, I r1, I u0, I u1, I d0, I d1, I x0, I x1, I y0, I y1, I least], I 1] [] Q := by
 obtain ⟨A, hA⟩ : ∃ A, A = ar := ⟨_, rfl⟩;refine Z5 Z0 hA Tryz.func76 rfl rfl rfl rfl rfl fun S hS => ?_;cbv;refine bmT (by subst hA; rfl) ?_;cbv;refine Z16 Z0 hA hS [0, 1, 2, 3, 4, 5, 7, 8, 9, 10, 11, 12, 14, 15, 17, 18, 6, 13, 16, 19] rfl rfl fun Dk hDk => ?_;cbv;refine Zq hA hDk [.agg [I p0, I p1], .agg [I u0, I u1]] [] [] rfl rfl rfl rfl rfl rfl rfl rfl rfl rfl rfl (by decide) trivial (Z28b p0 p1 u0 u1 h _ fun a b hab => ⟨by cbv, Zx Z0 hA hDk ?_⟩);cbv;refine Zq hA hDk [.agg [I t0, I t1], .agg [I x0, I x1]] [] [] rfl rfl rfl rfl rfl rfl rfl rfl rfl rfl rfl (by decide) trivial (Z1zg t0 t1 x0 x1 h' _ fun c d hcd => ⟨by cbv, Zx Z0 hA hDk ?_⟩);cbv;exact Z2 (H' := []) (d' := .agg [I a, I b, I c, I d, I r0, I r1, I u0, I u1, I d0, I d1, I x0, I x1, I y0, I y1, I least]) [] (by simp) (fun i hi => absurd hi (by simp)) trivial rfl (Z1 (hq a b c d hab hcd))
set_option maxRecDepth 40000 in
set_option maxHeartbeats 4000000 in
theorem Z232 (p0 p1 t0 t1 r0 r1 u0 u1 d0 d1 x0 x1 y0 y1 least : Int) (h : MidV p0 /\ MidV p1 /\ MidV d0 /\ MidV d1) (h' : MidV r0 /\ MidV r1 /\ MidV y0 /\ MidV y1) (Q)
  (hq : ∀ a b c d, (a, b) = Z1vf (p0, p1) (d0, d1) -> (c, d) = Z1vf (r0, r1) (y0, y1) -> Q (RA.ret (.agg [I a, I b, I t0, I t1, I c, I d, I u0, I u1, I d0, I d1, I x0, I x1, I y0, I y1, I least])) []) :
  CallA Tryz.prog 76 [.agg [I p0, I p1, I t0, I t1, I r0, I r1, I u0, I u1, I d0, I d1, I x0, I x1, I y0, I y1, I least], I 2] [] Q := by
 obtain ⟨A, hA⟩ : ∃ A, A = ar := ⟨_, rfl⟩;refine Z5 Z0 hA Tryz.func76 rfl rfl rfl rfl rfl fun S hS => ?_;cbv;refine bmF (by subst hA; rfl) ?_;cbv;refine bmT (by subst hA; rfl) ?_;cbv;refine Z16 Z0 hA hS [0, 1, 2, 3, 4, 5, 7, 8, 9, 10, 11, 12, 14, 15, 17, 18, 6, 13, 16, 19] rfl rfl fun Dk hDk => ?_;cbv;refine Zq hA hDk [.agg [I p0, I p1], .agg [I d0, I d1]] [] [] rfl rfl rfl rfl rfl rfl rfl rfl rfl rfl rfl (by decide) trivial (Z1zg p0 p1 d0 d1 h _ fun a b hab => ⟨by cbv, Zx Z0 hA hDk ?_⟩);cbv;refine Zq hA hDk [.agg [I r0, I r1], .agg [I y0, I y1]] [] [] rfl rfl rfl rfl rfl rfl rfl rfl rfl rfl rfl (by decide) trivial (Z1zg r0 r1 y0 y1 h' _ fun c d hcd => ⟨by cbv, Zx Z0 hA hDk ?_⟩);cbv;exact Z2 (H' := []) (d' := .agg [I a, I b, I t0, I t1, I c, I d, I u0, I u1, I d0, I d1, I x0, I x1, I y0, I y1, I least]) [] (by simp) (fun i hi => absurd hi (by simp)) trivial rfl (Z1 (hq a b c d hab hcd))
end Go.Proofs.YtggilmnhgjofiaaGreat
