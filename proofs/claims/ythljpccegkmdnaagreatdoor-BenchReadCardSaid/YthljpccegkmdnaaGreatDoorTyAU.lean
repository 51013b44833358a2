/- Part TyAU of the proofs about the benches of the accordion maker: see the last text of the claim for what is proved. -/
import Derived.Test.YthljpccegkmdnaaGreatDoorTyAT
set_option linter.unusedVariables false
set_option linter.unusedSimpArgs false
set_option linter.unnecessarySimpa false
set_option linter.constructorNameAsVariable false

namespace Go.Proofs.YthljpccegkmdnaaGreatDoor.Bn
open Go Go.Abs Go.Proofs
structure Wk where
 b : Int
 lo : Int
 hi : Int
 deriving DecidableEq
structure Tk where
 ready : Int
 due : Int
 works : List Wk
 deriving DecidableEq
structure Sh where
 benches : Int
 tasks : List Tk
 deriving DecidableEq
def Z14x (w : Wk) : D := .agg [I w.b, I w.lo, I w.hi]
def Z14z (t : Tk) : D := .agg [I t.ready, I t.due, .sl 3 (t.works.map Z14x)]
def Z1lp (s : Sh) : D := .agg [I s.benches, .sl 3 (s.tasks.map Z14z)]
structure OkW (b : Int) (w : Wk) : Prop where
 b0 : 0 <= w.b
 b1 : w.b < b
 lo : 1 <= w.lo
 le : w.lo <= w.hi
 hi : w.hi <= 20
structure OkT (b : Int) (t : Tk) : Prop where
 r0 : 0 <= t.ready
 r1 : t.ready <= 6
 d0 : 4 <= t.due
 d1 : t.due <= 20
 w0 : 1 <= t.works.length
 w1 : t.works.length <= 3
 wk : ∀ w ∈ t.works, OkW b w
def Z1cw (l : List Tk) : Nat := (l.map (·.works.length)).sum
structure OkS (n m : Nat) (s : Sh) : Prop where
 b0 : 1 <= s.benches
 b1 : s.benches <= 3
 len : s.tasks.length <= n
 sum : Z1cw s.tasks <= m
 tk : ∀ t ∈ s.tasks, OkT s.benches t
theorem Z19c (x b : Int) (hb : 1 <= b /\ b <= 3) (Q) (hq : ∀ w x', OkW b w -> Q (RA.ret (Z14x w)) [pot x']) : CallA Tryz.prog 92 [.b 0 0, I b] [pot x] Q := by
 obtain ⟨A, hA⟩ : ∃ A, A = ar := ⟨_, rfl⟩;refine Z5 Z0 hA Tryz.func92 rfl rfl rfl rfl rfl fun S hS => ?_;cbv;refine ⟨by subst hA; exact Zbu (n := b - 1) (by omega), ?_⟩;refine Z4 hS [.b 0 0, I (A.sub b 1)] [0] [pot x] rfl rfl rfl rfl rfl rfl rfl rfl (by decide) ⟨rfl, trivial⟩ (Zj0 x _ (by subst hA; show b - 1 <= _; omega) _ fun n xn h1 h2 => ?_);refine Z3 Z0 hA hS ?_;cbv;refine Z4 hS [.b 0 0, I 1, I 7] [0] [pot xn] rfl rfl rfl rfl rfl rfl rfl rfl (by decide) ⟨rfl, trivial⟩ (Zn3 xn 1 7 (by decide) _ fun k xk k1 k2 => ?_);refine Z3 Z0 hA hS ?_;cbv;refine Z4 hS [.b 0 0, I k, I 1, I 20, I 3] [0] [pot xk] rfl rfl rfl rfl rfl rfl rfl rfl (by decide) ⟨rfl, trivial⟩ (Zwu xk k 1 20 3 (by omega) (by decide) _ fun lo hi xp p1 p2 p3 p4 _ => ?_);refine Z3 Z0 hA hS ?_;cbv;have h2' : n <= b - 1 ∨ n = 0 := by subst hA; exact h2
 refine Z2 [0] (by decide) (by decide) (H' := [pot xp]) (d' := .agg [I n, I lo, I hi]) ⟨rfl, trivial⟩ rfl (Z1 (hq ⟨n, lo, hi⟩ xp ⟨h1, by simp; omega, p1, by simp; omega, p4⟩))
theorem shopOf (x tasks works : Int) (ht : 0 <= tasks /\ tasks <= 4) (hw : 0 <= works /\ works <= 8) (Q) (hq : ∀ s x', OkS tasks.toNat works.toNat s -> Q (RA.ret (Z1lp s)) [pot x']) :
  CallA Tryz.prog 35 [.b 0 0, I tasks, I works] [pot x] Q := by
 obtain ⟨A, hA⟩ : ∃ A, A = ar := ⟨_, rfl⟩;refine Z5 Z0 hA Tryz.func35 rfl rfl rfl rfl rfl fun S hS => ?_;cbv;refine Z4 hS [.b 0 0, I 1, I 3] [0] [pot x] rfl rfl rfl rfl rfl rfl rfl rfl (by decide) ⟨rfl, trivial⟩ (Zn3 x 1 3 (by decide) _ fun b xb hb1 hb2 => ?_);refine Z3 Z0 hA hS ?_;cbv;have e4 : A.min tasks 4 = tasks := by subst hA; show (if _ then _ else _) = _; split <;> omega
 refine Z4 hS [.b 0 0, I (A.min tasks 4)] [0] [pot xb] rfl rfl rfl rfl rfl rfl rfl rfl (by decide) ⟨rfl, trivial⟩ (Zj0 xb _ (by rw [e4]; omega) _ fun i0 xi hi1 hi2 => ?_);rw [e4] at hi2;refine Z3 Z0 hA hS ?_;cbv;have e8 : A.min works 8 = works := by subst hA; show (if _ then _ else _) = _; split <;> omega
 refine Zb hS ?_;refine Za (α := Int × Int × List Tk × List D × Nat × Int) (fun p => { env := [(0, .b 0 0), (6, .b 1 0), (7, .b 2 0), (8, I p.2.1), (9, I p.1)], H := [pot p.2.2.2.2.2, .box (.agg [I 0, .v (.slice none 0 0)]), .box (.agg [I b, .o 3 3 p.2.2.2.2.1]), .els 3 p.2.2.2.1], nt := 63, dfs := [] })
  (fun p => p.1.toNat) (fun p => p.1 + p.2.2.1.length <= tasks /\ 0 <= p.1 /\ 0 <= p.2.1 /\ p.2.1 + Z1cw p.2.2.1 <= works /\ (∀ t ∈ p.2.2.1, OkT b t) /\ p.2.2.2.1 = p.2.2.1.map Z14z /\ p.2.2.2.2.1 = p.2.2.1.length) (i0, works, [], [], 0, xi) ⟨by simp; omega, by omega, hw.1, by simp [Z1cw], by simp, rfl, rfl⟩ ?_ ?_
 ·refine Zfk 2 1 3 (.agg [I b, .o 3 3 0]) rfl rfl rfl (Zf [0, 1, 2, 3] ⟨by decide, Z2n, ⟨rfl, rfl, rfl, rfl, trivial⟩, ⟨rfl, rfl, rfl, congrArg (fun z => some (I z)) e8, rfl, trivial⟩, rfl, rfl⟩)
 rintro ⟨i, left, ts, TL, n, y⟩ ⟨p1, p2, p3, p4, p5, p6, p7⟩;dsimp only at p1 p2 p3 p4 p5 p6 p7;have hTl : TL.length = n := by rw [p6, p7]; simp
 have hend : OkS tasks.toNat works.toNat ⟨b, ts⟩ := ⟨hb1, by simp only; omega, by simp only; omega, by simp only; omega, p5⟩;refine Zi Z0 hA hS ?_;cbv
 split
 ·rename_i c1
  cbv
  split
  ·rename_i c2
   cbv;have c1' : 0 < i := by subst hA; simpa [ar, Z25] using c1
   have c2' : 0 < left := by subst hA; simpa [ar, Z25] using c2
   refine Z4 hS [.b 0 0, I 6] [0] [pot y] rfl rfl rfl rfl rfl rfl rfl rfl (by decide) ⟨rfl, trivial⟩ (Zj0 y 6 (by decide) _ fun o yo ho1 ho2 => ?_);refine Z3 Z0 hA hS ?_;cbv;refine Z26 hS (Z1a hA [4] ?_);cbv;refine ⟨by subst hA; rfl, Z7 ?_⟩;refine Z4 hS [.b 0 0, .sl 1 [I 0, I 0, I o]] [0] [pot yo] rfl rfl rfl rfl rfl rfl rfl rfl (by decide) ⟨rfl, trivial⟩ (of_ yo _ [0, 0, o] rfl (Nat.le_of_ble_eq_true rfl) (by simp) _ fun ready yr hr => ?_);refine Z3 Z0 hA hS ?_;cbv;refine Z4 hS [.b 0 0, I 4, I 20] [0] [pot yr] rfl rfl rfl rfl rfl rfl rfl rfl (by decide) ⟨rfl, trivial⟩ (Zn3 yr 4 20 (by decide) _ fun due yd hd1 hd2 => ?_);refine Z3 Z0 hA hS ?_;cbv;refine Z4 hS [.b 0 0, I 1, I (A.min 3 left)] [0] [pot yd] rfl rfl rfl rfl rfl rfl rfl rfl (by decide) ⟨rfl, trivial⟩ (Zn3 yd 1 _ (by subst hA; show _ /\ _ /\ _ <= (if _ then _ else _) /\ (if _ then _ else _) <= _; split <;> omega) _ fun k0 yk hk1 hk2 => ?_);refine Z3 Z0 hA hS ?_;cbv;refine Zb hS ?_;have hk3 : k0 <= 3 /\ k0 <= left := by
    subst hA;have : ar.min 3 left = if left < 3 then left else 3 := rfl
    rw [this] at hk2
    split at hk2 <;> omega
   have hr' : 0 <= ready /\ ready <= 6 := by simp at hr; omega
   refine Za (α := Int × Int × List Wk × List D × Nat × Int) (fun p => { env := [(0, .b 0 0), (6, .b 1 0), (7, .b 2 0), (8, I p.2.1), (9, I i), (10, .b 4 0), (11, I p.1)], H := [pot p.2.2.2.2.2, .box (.agg [I 0, .v (.slice none 0 0)]), .box (.agg [I b, .o 3 3 n]), .els 3 TL, .box (.agg [I ready, I due, .o 5 3 p.2.2.2.2.1]), .els 3 p.2.2.2.1], nt := 63, dfs := [] })
    (fun p => p.1.toNat) (fun p => p.1 + p.2.2.1.length = k0 /\ 0 <= p.1 /\ p.2.1 + p.2.2.1.length = left /\ (∀ w ∈ p.2.2.1, OkW b w) /\ p.2.2.2.1 = p.2.2.1.map Z14x /\ p.2.2.2.2.1 = p.2.2.1.length) (k0, left, [], [], 0, yk) ⟨by simp, by omega, by simp, by simp, rfl, rfl⟩ ?_ ?_
   ·refine Zfk 5 2 3 (.agg [I ready, I due, .o 6 3 0]) rfl rfl rfl (Zf [0, 1, 2, 3, 5, 6] ⟨by decide, Z2n, ⟨rfl, rfl, rfl, rfl, rfl, rfl, trivial⟩, ⟨rfl, rfl, rfl, rfl, rfl, rfl, rfl, trivial⟩, rfl, rfl⟩)
   rintro ⟨k, left', ws, WL, n', y'⟩ ⟨q1, q2, q3, q4, q5, q6⟩;dsimp only at q1 q2 q3 q4 q5 q6;have hWl : WL.length = n' := by rw [q5, q6]; simp
   refine Zi Z0 hA hS ?_;cbv
   split
   ·rename_i c3
    cbv;have c3' : 0 < k := by subst hA; simpa [ar, Z25] using c3
    refine Z16 Z0 hA hS [0, 1, 2, 3, 4, 5, 6, 7, 8, 9] rfl rfl fun Dk hD => ?_;cbv;refine Zq hA hD [.b 0 0, I b] [0] [pot y'] rfl rfl rfl rfl rfl rfl rfl rfl rfl rfl rfl (by decide) ⟨rfl, trivial⟩ (Z19c y' b (by omega) _ fun w yw hw' => ⟨by cbv, Zx Z0 hA hD ?_⟩);cbv
    replace p1 : i + (ts.length : Int) <= tasks := p1
    replace p4 : left + (Z1cw ts : Int) <= works := p4
    replace q1 : k + (ws.length : Int) = k0 := q1
    replace q3 : left' + (ws.length : Int) = left := q3
    refine ⟨by subst hA; exact hWl.symm, by subst hA; rfl, by subst hA; simp [ar] <;> omega, by subst hA; exact Zbu (n := left' - 1) (by omega), by subst hA; exact Zbu (n := k - 1) (by omega), ?_⟩;subst hA;refine Z8 (k - 1, left' - 1, ws ++ [w], WL ++ [Z14x w], n' + 1, yw) [0, 1, 2, 3, 4, 7] ?_ ?_ ?_
    ·exact ⟨by simp; omega, by dsimp only; omega, by simp; omega, fun w2 h2 => by
     rcases List.mem_append.1 h2 with h2 | h2
     ·exact q4 w2 h2
     ·simp at h2; subst h2; exact hw', by simp [q5], by simp [q6]⟩
    ·dsimp only; omega
    ·exact ⟨by decide, Z2n, ⟨rfl, rfl, rfl, rfl, rfl, rfl, trivial⟩, ⟨rfl, rfl, rfl, rfl, rfl, rfl, rfl, trivial⟩, rfl, rfl⟩
   ·rename_i c3
    have c3' : k = 0 := by
     have : ¬ (k > 0) := by subst hA; simpa [ar, Z25] using c3
     omega
    replace p1 : i + (ts.length : Int) <= tasks := p1
    replace p4 : left + (Z1cw ts : Int) <= works := p4
    replace q1 : k + (ws.length : Int) = k0 := q1
    replace q3 : left' + (ws.length : Int) = left := q3
    cbv;refine Z1a hA [5] ?_;cbv;refine ⟨by subst hA; exact hWl.symm, Z7 ?_⟩;cbv
    replace p1 : i + (ts.length : Int) <= tasks := p1
    replace p4 : left + (Z1cw ts : Int) <= works := p4
    replace q1 : k + (ws.length : Int) = k0 := q1
    replace q3 : left' + (ws.length : Int) = left := q3
    refine ⟨by subst hA; exact hTl.symm, by subst hA; rfl, by subst hA; simp [ar] <;> omega, by subst hA; exact Zbu (n := i - 1) (by omega), ?_⟩;subst hA;refine Z8 (i - 1, left', ts ++ [⟨ready, due, ws⟩], TL ++ [.agg [I ready, I due, .sl 3 WL]], n + 1, y') [0, 1, 2, 7] ?_ ?_ ?_
    ·exact ⟨by simp; omega, by dsimp only; omega, by dsimp only; omega, by simp [Z1cw] at p4 ⊢; omega, fun t2 h2 => by
     rcases List.mem_append.1 h2 with h2 | h2
     ·exact p5 t2 h2
     ·simp at h2; subst h2; exact ⟨hr'.1, hr'.2, hd1, by simp only; omega, by simp only; omega, by simp only; omega, q4⟩, by simp [p6, q5, Z14z], by simp [p7]⟩
    ·dsimp only; omega
    ·exact ⟨by decide, Z2n, ⟨rfl, rfl, rfl, rfl, trivial⟩, ⟨rfl, rfl, rfl, rfl, rfl, trivial⟩, rfl, rfl⟩
  ·cbv;refine Z1a hA [3] ?_;cbv;refine ⟨by subst hA; exact hTl.symm, Z7 ?_⟩;cbv;exact Z2 [0] (by decide) (by decide) (H' := [pot y]) (d' := .agg [I b, .sl 3 TL]) ⟨rfl, trivial⟩ rfl (Z1 (by
    have := hq ⟨b, ts⟩ y hend
    rw [Z1lp, <- p6] at this; exact this))
 ·cbv;refine Z1a hA [3] ?_;cbv;refine ⟨by subst hA; exact hTl.symm, Z7 ?_⟩;cbv;exact Z2 [0] (by decide) (by decide) (H' := [pot y]) (d' := .agg [I b, .sl 3 TL]) ⟨rfl, trivial⟩ rfl (Z1 (by
   have := hq ⟨b, ts⟩ y hend
   rw [Z1lp, <- p6] at this; exact this))
end Go.Proofs.YthljpccegkmdnaaGreatDoor.Bn

namespace Go.Proofs.YthljpccegkmdnaaGreatDoor.Bn
open Go Go.Abs Go.Proofs
theorem Z18w (n lo hi : Int) (Q) (hq : Q (RA.ret (.v (.bool (decide (lo <= n /\ n <= hi))))) []) : CallA Tryz.prog 132 [I n, I lo, I hi] [] Q := by
 obtain ⟨A, hA⟩ : ∃ A, A = ar := ⟨_, rfl⟩;refine Z5 Z0 hA Tryz.func132 rfl rfl rfl rfl rfl fun S hS => ?_;cbv
 split
 ·rename_i h; cbv
  have h' : lo <= n := by subst hA; simpa [ar, Z25] using h
  have e : ar.cmp .leq n hi = decide (lo <= n /\ n <= hi) := by simp [ar, Z25, h']
  subst hA;rw [<- e] at hq;exact Z1 hq
 ·rename_i h; cbv
  have h' : ¬ lo <= n := by subst hA; simpa [ar, Z25] using h
  have e : decide (lo <= n /\ n <= hi) = false := by simp [h']
  rw [e] at hq;exact Z1 hq
theorem Z6f (n lo hi : Int) (Q) (hq : Q (RA.ret (.v (.bool (decide (lo <= n /\ n <= hi))))) []) : CallA Tryz.prog 135 [I n, I lo, I hi] [] Q := by
 obtain ⟨A, hA⟩ : ∃ A, A = ar := ⟨_, rfl⟩;refine Z5 Z0 hA Tryz.func135 rfl rfl rfl rfl rfl fun S hS => ?_;cbv
 split
 ·rename_i h; cbv
  have h' : n ≥ lo := by subst hA; simpa [ar, Z25] using h
  have e : ar.cmp .leq n hi = decide (lo <= n /\ n <= hi) := by simp [ar, Z25, h']
  subst hA;rw [<- e] at hq;exact Z1 hq
 ·rename_i h; cbv
  have h' : ¬ lo <= n := by subst hA; simpa [ar, Z25] using h
  have e : decide (lo <= n /\ n <= hi) = false := by simp [h']
  rw [e] at hq;exact Z1 hq
theorem toF (lo hi : Int) (Q) (hq : Q (RA.ret (.agg [I lo, I hi])) []) : CallA Tryz.prog 88 [I lo, I hi] [] Q := by
 obtain ⟨A, hA⟩ : ∃ A, A = ar := ⟨_, rfl⟩;refine Z5 Z0 hA Tryz.func88 rfl rfl rfl rfl rfl fun S hS => ?_;cbv;exact Z2 [] (by decide) Z9 (H' := []) (d' := .agg [I lo, I hi]) trivial rfl (Z1 hq)
theorem Z1nb (b lo hi : Int) (Q) (hq : Q (RA.ret (.agg [I b, I lo, I hi])) []) : CallA Tryz.prog 123 [I b, I lo, I hi] [] Q := by
 obtain ⟨A, hA⟩ : ∃ A, A = ar := ⟨_, rfl⟩;refine Z5 Z0 hA Tryz.func123 rfl rfl rfl rfl rfl fun S hS => ?_;cbv;exact Z2 [] (by decide) Z9 (H' := []) (d' := .agg [I b, I lo, I hi]) trivial rfl (Z1 hq)
def sel (sd : Bool) (lo hi : Int) : Int := match sd with | false => lo | true => hi
structure SideOk (f g : FuncId) (sd : Bool) : Prop where
 of : ∀ (lo hi : Int) (Q), Q (RA.ret (I (sel sd lo hi))) [] -> CallA Tryz.prog f [.agg [I lo, I hi]] [] Q
 set2 : ∀ (i : Nat) (n lo hi : Int) (es es' : List D) (Q), es[i]? = some (.agg [I lo, I hi]) -> es' = es.set i (match sd with | false => .agg [I n, I hi] | true => .agg [I lo, I n]) -> (∀ d, Q (RA.ret d) [.els 2 es']) -> CallA Tryz.prog g [.p 0 2 i 0, I n] [.els 2 es] Q
 setB : ∀ (i : Nat) (n : Int) (t k b bl bh el eh : Int) (es es' : List D) (Q), es[i]? = some (.agg [I t, I k, I b, I bl, I bh, I el, I eh]) -> es' = es.set i (match sd with | false => .agg [I t, I k, I b, I n, I bh, I el, I eh] | true => .agg [I t, I k, I b, I bl, I n, I el, I eh]) -> (∀ d, Q (RA.ret d) [.els 7 es']) -> CallA Tryz.prog g [.p 0 7 i 3, I n] [.els 7 es] Q
 setE : ∀ (i : Nat) (n : Int) (t k b bl bh el eh : Int) (es es' : List D) (Q), es[i]? = some (.agg [I t, I k, I b, I bl, I bh, I el, I eh]) -> es' = es.set i (match sd with | false => .agg [I t, I k, I b, I bl, I bh, I n, I eh] | true => .agg [I t, I k, I b, I bl, I bh, I el, I n]) -> (∀ d, Q (RA.ret d) [.els 7 es']) -> CallA Tryz.prog g [.p 0 7 i 5, I n] [.els 7 es] Q
theorem Z199 : SideOk 180 181 false := by
 refine ⟨fun lo hi Q hq => ?_, fun i n lo hi es es' Q he h' hq => ?_, fun i n t k b bl bh el eh es es' Q he h' hq => ?_, fun i n t k b bl bh el eh es es' Q he h' hq => ?_⟩
 ·obtain ⟨A, hA⟩ : ∃ A, A = ar := ⟨_, rfl⟩;refine Z5 Z0 hA Tryz.func180 rfl rfl rfl rfl rfl fun S hS => ?_;cbv;exact Z2 [] (by decide) Z9 (H' := []) (d' := I lo) trivial rfl (Z1 hq)
 all_goals
  obtain ⟨A, hA⟩ : ∃ A, A = ar := ⟨_, rfl⟩;refine Z5 Z0 hA Tryz.func181 rfl rfl rfl rfl rfl fun S hS => ?_;cbv;refine ⟨_, by subst hA; exact he, ?_⟩;cbv;subst hA;subst h';exact Z1 (hq _)
theorem Z19a : SideOk 182 183 true := by
 refine ⟨fun lo hi Q hq => ?_, fun i n lo hi es es' Q he h' hq => ?_, fun i n t k b bl bh el eh es es' Q he h' hq => ?_, fun i n t k b bl bh el eh es es' Q he h' hq => ?_⟩
 ·obtain ⟨A, hA⟩ : ∃ A, A = ar := ⟨_, rfl⟩;refine Z5 Z0 hA Tryz.func182 rfl rfl rfl rfl rfl fun S hS => ?_;cbv;exact Z2 [] (by decide) Z9 (H' := []) (d' := I hi) trivial rfl (Z1 hq)
 all_goals
  obtain ⟨A, hA⟩ : ∃ A, A = ar := ⟨_, rfl⟩;refine Z5 Z0 hA Tryz.func183 rfl rfl rfl rfl rfl fun S hS => ?_;cbv;refine ⟨_, by subst hA; exact he, ?_⟩;cbv;subst hA;subst h';exact Z1 (hq _)
theorem Z19b (Q) (hq : Q (RA.ret (.sl 2 [.agg [.fn 180 [], .fn 181 []], .agg [.fn 182 [], .fn 183 []]])) []) : CallA Tryz.prog 153 [] [] Q := by
 obtain ⟨A, hA⟩ : ∃ A, A = ar := ⟨_, rfl⟩;refine Z5 Z0 hA Tryz.func153 rfl rfl rfl rfl rfl fun S hS => ?_;cbv;subst hA;refine Z1w [0] ?_;simp only [fzG, fzH, Z7a, Z1m];exact ⟨rfl, Z2 [] (by decide) Z9 (H' := []) (d' := .sl 2 [.agg [.fn 180 [], .fn 181 []], .agg [.fn 182 [], .fn 183 []]]) trivial rfl (Z1 hq)⟩
end Go.Proofs.YthljpccegkmdnaaGreatDoor.Bn

namespace Go.Proofs.YthljpccegkmdnaaGreatDoor.Bn
open Go Go.Abs Go.Proofs
structure Sl where
 t : Int
 k : Int
 b : Int
 bl : Int
 bh : Int
 el : Int
 eh : Int
 deriving DecidableEq
def Z14v (x : Sl) : D := .agg [I x.t, I x.k, I x.b, I x.bl, I x.bh, I x.el, I x.eh]
def Z1ax (l : List Sl) : Int × Int := l.foldl (fun a s => (max a.1 s.el, max a.2 s.eh)) (0, 0)
theorem maxI {A : Ar} (hA : A = ar) (x y : Int) : A.max x y = max x y := by subst hA; show (if _ then _ else _) = _; rw [Int.max_def]; split <;> split <;> omega
theorem Z1cc (l : List Sl) (L : List D) (hL : L = l.map Z14v) (hl : l.length <= 1000) (Q) (hq : Q (RA.ret (.agg [I (Z1ax l).1, I (Z1ax l).2])) []) : CallA Tryz.prog 129 [.sl 7 L] [] Q := by
 obtain ⟨A, hA⟩ : ∃ A, A = ar := ⟨_, rfl⟩;have hlen : L.length = l.length := by rw [hL]; simp
 refine Z5 Z0 hA Tryz.func129 rfl rfl rfl rfl rfl fun S hS => ?_;cbv;refine Zb hS ?_;refine Za (α := Nat × Int × Int × Int) (fun p => { env := [(2, .b 0 0), (3, .b 1 0), (6, .sl 7 L), (7, I (A.oi (A.len L))), (8, I p.2.1)], H := [.box (.agg [I 0, I 0]), .box (.agg [I p.2.2.1, I p.2.2.2])], nt := 27, dfs := [] })
  (fun p => l.length - p.1) (fun p => p.1 <= l.length /\ p.2.1 = (p.1 : Int) /\ (p.2.2.1, p.2.2.2) = Z1ax (l.take p.1)) (0, 0, 0, 0) ⟨Nat.zero_le _, rfl, rfl⟩ ?_ ?_
 ·exact Zf [0, 1] ⟨by decide, Z9, ⟨rfl, rfl, trivial⟩, ⟨rfl, rfl, rfl, rfl, rfl, trivial⟩, rfl, rfl⟩
 rintro ⟨k, i, a, b⟩ ⟨p1, p2, p3⟩;dsimp only at p1 p2 p3;refine Zi Z0 hA hS ?_;cbv
 split
 ·rename_i c
  cbv
  replace p2 : i = (k : Int) := p2
  have hk : k < l.length := by subst hA; simp [ar, Z25] at c; omega
  obtain ⟨x, hx⟩ : ∃ x, x = l[k] := ⟨_, rfl⟩;refine ⟨by subst hA; show 0 <= i /\ i < (L.length : Nat); omega, ⟨Z14v x, by subst hA; simp [ar, hL, p2, hk, hx], ?_⟩⟩;cbv
  replace p2 : i = (k : Int) := p2
  refine ⟨by subst hA; exact Zbu (n := i + 1) (by omega), ?_⟩;have m1 := maxI hA a x.el;have m2 := maxI hA b x.eh;subst hA;refine Z8 (k + 1, i + 1, max a x.el, max b x.eh) [0, 1] ?_ ?_ ?_
  ·refine ⟨hk, by simp; omega, ?_⟩;rw [List.take_add_one, List.getElem?_eq_getElem hk, Z1ax, List.foldl_append, <- Z1ax, <- p3, <- hx]; rfl
  ·simp only; omega
  ·exact ⟨by decide, Z9, ⟨rfl, by rw [<- m1, <- m2]; rfl, trivial⟩, ⟨rfl, rfl, rfl, rfl, rfl, trivial⟩, rfl, rfl⟩
 ·rename_i c
  cbv
  replace p2 : i = (k : Int) := p2
  have hk : k = l.length := by subst hA; simp [ar, Z25] at c; omega
  rw [hk, List.take_length] at p3;refine Z7 ?_;cbv;exact Z2 [] (by decide) Z9 (H' := []) (d' := .agg [I a, I b]) trivial rfl (Z1 (by rw [<- p3] at hq; exact hq))
structure Ck where
 bn : List Int
 tk : List Int
 dn : List Nat
instance : Inhabited Wk := ⟨⟨0, 0, 0⟩⟩
instance : Inhabited Tk := ⟨⟨0, 0, []⟩⟩
structure Wr where
 k : Nat
 b : Int
 bg : Int
 en : Int
def Z150 (s : Sh) (i k : Nat) : Wk := (s.tasks.getD i default).works.getD k default
def Z14w (sd : Bool) (s : Sh) (c : Ck) (i : Nat) (more : Int) : Wr :=
 let k := c.dn.getD i 0
 let w := Z150 s i k
 let bg := max (c.tk.getD i 0) (c.bn.getD w.b.toNat 0)
 ⟨k, w.b, bg, bg + sel sd w.lo w.hi + more⟩
def Z15i (c : Ck) (i : Nat) (r : Wr) : Ck := ⟨c.bn.set r.b.toNat r.en, c.tk.set i r.en, c.dn.set i (r.k + 1)⟩
def pad4 (l : List Int) : List Int := l ++ List.replicate (4 - l.length) 0
def Z14y (s : Sh) : Ck := ⟨[0, 0, 0], pad4 (s.tasks.map (·.ready)), [0, 0, 0, 0]⟩
def ckAt (sd : Bool) (s : Sh) (more : Nat -> Int) : Ck -> Nat -> List Nat -> Nat -> Ck
 | c, _, _, 0 => c
 | c, _, [], _ => c
 | c, a, i :: p, n + 1 => ckAt sd s more (Z15i c i (Z14w sd s c i (more a))) (a + 1) p n
theorem Z15e (sd s more) : ∀ (p : List Nat) c a n i, p[n]? = some i -> ckAt sd s more c a p (n + 1) = Z15i (ckAt sd s more c a p n) i (Z14w sd s (ckAt sd s more c a p n) i (more (a + n)))
 | [], _, _, _, _, h => by simp at h
 | j :: p, c, a, 0, i, h => by simp at h; subst h; simp [ckAt]
 | j :: p, c, a, n + 1, i, h => by
  have := Z15e sd s more p (Z15i c j (Z14w sd s c j (more a))) (a + 1) n i (by simpa using h);rw [ckAt, this, show a + 1 + n = a + (n + 1) by omega];simp only [ckAt]
structure Val (s : Sh) : Prop where
 b0 : 1 <= s.benches
 b1 : s.benches <= 3
 len : s.tasks.length <= 4
 rd : ∀ t ∈ s.tasks, 0 <= t.ready /\ t.ready <= 200
 du : ∀ t ∈ s.tasks, 0 <= t.due /\ t.due <= 200
 ne : ∀ t ∈ s.tasks, t.works ≠ []
 wk : ∀ t ∈ s.tasks, ∀ w ∈ t.works, 0 <= w.b /\ w.b < s.benches /\ 1 <= w.lo /\ w.lo <= w.hi /\ w.hi <= 20
 sum : Z1cw s.tasks <= 8
structure PlanLe (s : Sh) (p : List Nat) : Prop where
 lt : ∀ i ∈ p, i < s.tasks.length
 cnt : ∀ i, i < s.tasks.length -> p.count i <= (s.tasks.getD i default).works.length
structure CkOk (s : Sh) (M : Int) (c : Ck) (p : List Nat) : Prop where
 bn : c.bn.length = 3
 tk : c.tk.length = 4
 dn : c.dn.length = 4
 dc : ∀ i, i < 4 -> c.dn.getD i 0 = p.count i
 b0 : ∀ x ∈ c.bn, 0 <= x /\ x <= 200 + p.length * (20 + M)
 t0 : ∀ x ∈ c.tk, 0 <= x /\ x <= 200 + p.length * (20 + M)
end Go.Proofs.YthljpccegkmdnaaGreatDoor.Bn
