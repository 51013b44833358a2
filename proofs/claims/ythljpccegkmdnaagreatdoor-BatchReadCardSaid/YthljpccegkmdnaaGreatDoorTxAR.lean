/- Part TxAR of the proofs about the benches of the accordion maker: see the last text of the claim for what is proved. -/
import Derived.Test.YthljpccegkmdnaaGreatDoorTxAQ
set_option linter.unusedVariables false
set_option linter.unusedSimpArgs false
set_option linter.unnecessarySimpa false
set_option linter.constructorNameAsVariable false

namespace Go.Proofs.YthljpccegkmdnaaGreatDoor.Bn
open Go Go.Abs Go.Proofs
theorem Z18w (n lo hi : Int) (Q) (hq : Q (RA.ret (.v (.bool (decide (lo <= n /\ n <= hi))))) []) : CallA Tryz.prog 132 [I n, I lo, I hi] [] Q := by
 obtain ⟨A, hA⟩ : ∃ A, A = ar := ⟨_, rfl⟩;refine Z5 Z0 hA Tryz.func132 rfl rfl rfl rfl rfl fun S hS => ?_;cbv
 split
 ·rename_i h; cbv
  have h' : lo <= n := by subst hA; simpa [ar, Z25] using h
  have e : ar.cmp .leq n hi = decide (lo <= n /\ n <= hi) := by simp [ar, Z25, h']
  subst hA;rw [<- e] at hq;exact Z1 hq
 ·rename_i h; cbv
  have h' : ¬ lo <= n := by subst hA; simpa [ar, Z25] using h
  have e : decide (lo <= n /\ n <= hi) = false := by simp [h']
  rw [e] at hq;exact Z1 hq
theorem rAmong (n lo hi : Int) (Q) (hq : Q (RA.ret (.v (.bool (decide (lo <= n /\ n <= hi))))) []) : CallA Tryz.prog 135 [I n, I lo, I hi] [] Q := by
 obtain ⟨A, hA⟩ : ∃ A, A = ar := ⟨_, rfl⟩;refine Z5 Z0 hA Tryz.func135 rfl rfl rfl rfl rfl fun S hS => ?_;cbv
 split
 ·rename_i h; cbv
  have h' : n ≥ lo := by subst hA; simpa [ar, Z25] using h
  have e : ar.cmp .leq n hi = decide (lo <= n /\ n <= hi) := by simp [ar, Z25, h']
  subst hA;rw [<- e] at hq;exact Z1 hq
 ·rename_i h; cbv
  have h' : ¬ lo <= n := by subst hA; simpa [ar, Z25] using h
  have e : decide (lo <= n /\ n <= hi) = false := by simp [h']
  rw [e] at hq;exact Z1 hq
def sel (sd : Bool) (lo hi : Int) : Int := match sd with | false => lo | true => hi
structure SideOk (f g : FuncId) (sd : Bool) : Prop where
 of : ∀ (lo hi : Int) (Q), Q (RA.ret (I (sel sd lo hi))) [] -> CallA Tryz.prog f [.agg [I lo, I hi]] [] Q
 set2 : ∀ (i : Nat) (n lo hi : Int) (es es' : List D) (Q), es[i]? = some (.agg [I lo, I hi]) -> es' = es.set i (match sd with | false => .agg [I n, I hi] | true => .agg [I lo, I n]) -> (∀ d, Q (RA.ret d) [.els 2 es']) -> CallA Tryz.prog g [.p 0 2 i 0, I n] [.els 2 es] Q
 Z4l : ∀ (i : Nat) (n : Int) (t k b bl bh el eh : Int) (es es' : List D) (Q), es[i]? = some (.agg [I t, I k, I b, I bl, I bh, I el, I eh]) -> es' = es.set i (match sd with | false => .agg [I t, I k, I b, I n, I bh, I el, I eh] | true => .agg [I t, I k, I b, I bl, I n, I el, I eh]) -> (∀ d, Q (RA.ret d) [.els 7 es']) -> CallA Tryz.prog g [.p 0 7 i 3, I n] [.els 7 es] Q
 Z6j : ∀ (i : Nat) (n : Int) (t k b bl bh el eh : Int) (es es' : List D) (Q), es[i]? = some (.agg [I t, I k, I b, I bl, I bh, I el, I eh]) -> es' = es.set i (match sd with | false => .agg [I t, I k, I b, I bl, I bh, I n, I eh] | true => .agg [I t, I k, I b, I bl, I bh, I el, I n]) -> (∀ d, Q (RA.ret d) [.els 7 es']) -> CallA Tryz.prog g [.p 0 7 i 5, I n] [.els 7 es] Q
end Go.Proofs.YthljpccegkmdnaaGreatDoor.Bn

namespace Go.Proofs.YthljpccegkmdnaaGreatDoor.Bn
open Go Go.Abs Go.Proofs
structure Sl where
 t : Int
 k : Int
 b : Int
 bl : Int
 bh : Int
 el : Int
 eh : Int
 deriving DecidableEq
def Z14v (x : Sl) : D := .agg [I x.t, I x.k, I x.b, I x.bl, I x.bh, I x.el, I x.eh]
structure Ck where
 bn : List Int
 tk : List Int
 dn : List Nat
instance : Inhabited Wk := ⟨⟨0, 0, 0⟩⟩
instance : Inhabited Tk := ⟨⟨0, 0, []⟩⟩
structure Wr where
 k : Nat
 b : Int
 bg : Int
 en : Int
def Z150 (s : Sh) (i k : Nat) : Wk := (s.tasks.getD i default).works.getD k default
def Z14w (sd : Bool) (s : Sh) (c : Ck) (i : Nat) (more : Int) : Wr :=
 let k := c.dn.getD i 0
 let w := Z150 s i k
 let bg := max (c.tk.getD i 0) (c.bn.getD w.b.toNat 0)
 ⟨k, w.b, bg, bg + sel sd w.lo w.hi + more⟩
def Z15i (c : Ck) (i : Nat) (r : Wr) : Ck := ⟨c.bn.set r.b.toNat r.en, c.tk.set i r.en, c.dn.set i (r.k + 1)⟩
def pad4 (l : List Int) : List Int := l ++ List.replicate (4 - l.length) 0
def Z14y (s : Sh) : Ck := ⟨[0, 0, 0], pad4 (s.tasks.map (·.ready)), [0, 0, 0, 0]⟩
def ckAt (sd : Bool) (s : Sh) (more : Nat -> Int) : Ck -> Nat -> List Nat -> Nat -> Ck
 | c, _, _, 0 => c
 | c, _, [], _ => c
 | c, a, i :: p, n + 1 => ckAt sd s more (Z15i c i (Z14w sd s c i (more a))) (a + 1) p n
structure Val (s : Sh) : Prop where
 b0 : 1 <= s.benches
 b1 : s.benches <= 3
 len : s.tasks.length <= 4
 rd : ∀ t ∈ s.tasks, 0 <= t.ready /\ t.ready <= 200
 du : ∀ t ∈ s.tasks, 0 <= t.due /\ t.due <= 200
 ne : ∀ t ∈ s.tasks, t.works ≠ []
 wk : ∀ t ∈ s.tasks, ∀ w ∈ t.works, 0 <= w.b /\ w.b < s.benches /\ 1 <= w.lo /\ w.lo <= w.hi /\ w.hi <= 20
 sum : Z1cw s.tasks <= 8
structure PlanLe (s : Sh) (p : List Nat) : Prop where
 lt : ∀ i ∈ p, i < s.tasks.length
 cnt : ∀ i, i < s.tasks.length -> p.count i <= (s.tasks.getD i default).works.length
structure CkOk (s : Sh) (M : Int) (c : Ck) (p : List Nat) : Prop where
 bn : c.bn.length = 3
 tk : c.tk.length = 4
 dn : c.dn.length = 4
 dc : ∀ i, i < 4 -> c.dn.getD i 0 = p.count i
 b0 : ∀ x ∈ c.bn, 0 <= x /\ x <= 200 + p.length * (20 + M)
 t0 : ∀ x ∈ c.tk, 0 <= x /\ x <= 200 + p.length * (20 + M)
end Go.Proofs.YthljpccegkmdnaaGreatDoor.Bn
