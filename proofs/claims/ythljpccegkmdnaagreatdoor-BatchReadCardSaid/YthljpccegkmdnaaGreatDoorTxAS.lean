/- Part TxAS of the proofs about the benches of the accordion maker: see the last text of the claim for what is proved. -/
import Derived.Test.YthljpccegkmdnaaGreatDoorTxAR
set_option linter.unusedVariables false
set_option linter.unusedSimpArgs false
set_option linter.unnecessarySimpa false
set_option linter.constructorNameAsVariable false

namespace Go.Proofs.YthljpccegkmdnaaGreatDoor.Bn
open Go Go.Abs Go.Proofs
def pk (sd : Bool) (x y : Int) : Int := match sd with | false => x | true => y
section
variable {s : Sh} {p : List Nat} {sd : Bool} {more : Nat -> Int} {M : Int}
end
def slAt (s : Sh) (more : Nat -> Int) (p : List Nat) (sd : Bool) (k n : Nat) : Sl :=
 let i := p.getD n 0
 let a := Z14w false s (ckAt false s more (Z14y s) 0 p n) i (more n)
 let b := Z14w true s (ckAt true s more (Z14y s) 0 p n) i (more n)
 match sd, decide (n < k) with
 | false, false => ⟨0, 0, 0, 0, 0, 0, 0⟩
 | false, true => ⟨i, a.k, a.b, a.bg, 0, a.en, 0⟩
 | true, false => ⟨i, a.k, a.b, a.bg, 0, a.en, 0⟩
 | true, true => ⟨i, a.k, a.b, a.bg, b.bg, a.en, b.en⟩
def ckD (c : Ck) : List D := (c.bn ++ c.tk ++ c.dn.map (fun n : Nat => (n : Int))).map I
section
variable {s : Sh} {p : List Nat} {sd : Bool} {more : Nat -> Int} {M : Int}
end
structure SF (s : Sh) (p : List Nat) (sd : Bool) (mo : Nat -> Int) (n pi kN wb : Nat) (t : Tk) (w : Wk) (tk bn sv : Int) : Prop where
 pn : p[n]? = some pi
 p4 : pi < 4
 pt : pi < s.tasks.length
 tt : s.tasks[pi]? = some t
 kw : kN < t.works.length
 kl : kN <= n
 ww : t.works[kN]? = some w
 dn : (ckD (ckAt sd s mo (Z14y s) 0 p n))[7 + pi]? = some (I (kN : Nat))
 tkv : (ckD (ckAt sd s mo (Z14y s) 0 p n))[3 + pi]? = some (I tk)
 wbi : IsI w.b wb
 wb3 : wb < 3
 bnv : (ckD (ckAt sd s mo (Z14y s) 0 p n))[0 + wb]? = some (I bn)
 tkb : Btw 0 tk 100000
 bnb : Btw 0 bn 100000
 svb : Btw 0 sv 20
 sve : sv = sel sd w.lo w.hi
 nx : ∀ y, y = max tk bn + sv + mo n -> ckD (ckAt sd s mo (Z14y s) 0 p (n + 1)) = (((ckD (ckAt sd s mo (Z14y s) 0 p n)).set (3 + pi) (I y)).set (0 + wb) (I y)).set (7 + pi) (I ((kN + 1 : Nat) : Int))
 sl : ∀ x y o, x = max tk bn -> y = x + sv + mo n -> o = slAt s mo p sd n n -> slAt s mo p sd (n + 1) n = ⟨pi, kN, w.b, pk sd x o.bl, pk sd o.bh x, pk sd y o.el, pk sd o.eh y⟩
end Go.Proofs.YthljpccegkmdnaaGreatDoor.Bn

namespace Go.Proofs.YthljpccegkmdnaaGreatDoor.Bn
open Go Go.Abs Go.Proofs
theorem bWith (n lo hi : Int) (b : Bool) (hb : b = decide (lo <= n /\ n <= hi)) (Q) (hq : Q (RA.ret (.v (.bool b))) []) : CallA Tryz.prog 132 [I n, I lo, I hi] [] Q := Z18w n lo hi Q (hb ▸ hq)
def amg (n lo hi : Int) : Bool := decide (lo <= n /\ n <= hi)
def chkW (b : Int) (w : Wk) : Int :=
 if amg w.b 0 (b - 1) = false then 3 else if amg w.lo 1 20 = false then 1 else if amg w.hi 1 20 = false then 1 else if w.hi < w.lo then 5 else 0
def Z156 (b : Int) : List Wk -> Int
 | [] => 0
 | w :: r => if chkW b w = 0 then Z156 b r else chkW b w
def chkT (b : Int) (t : Tk) : Int :=
 if amg t.ready 0 200 = false then 1 else if amg t.due 0 200 = false then 1 else if t.works = [] then 7 else Z156 b t.works
def Z157 (b : Int) : List Tk -> Int
 | [] => 0
 | t :: r => if chkT b t = 0 then Z157 b r else chkT b t
def Za5 (s : Sh) : Int :=
 if amg s.benches 1 3 = false then 1 else if 4 < s.tasks.length then 6 else if Z157 s.benches s.tasks = 0 then (if 8 < Z1cw s.tasks then 6 else 0) else Z157 s.benches s.tasks
theorem drop_at {α : Type} {l : List α} {k : Nat} {x : α} (h : l[k]? = some x) : l.drop k = x :: l.drop (k + 1) := by
 obtain ⟨h1, rfl⟩ := List.getElem?_eq_some_iff.1 h;exact List.drop_eq_getElem_cons h1
section
variable {A : Ar} (hA : A = ar)
 include hA
theorem yoiL {l : List D} {n : Nat} (e : l.length = n) : A.oi (A.len l) = (n : Int) := by subst hA; subst e; rfl
theorem yeqL {l : List D} {n : Nat} {x : Int} (e : l.length = n) (c : A.cmp .eql (A.oi (A.len l)) x = true) : (n : Int) = x := (yoiL hA e).symm.trans (xeq hA c)
theorem yneqL {l : List D} {n : Nat} {x : Int} (e : l.length = n) (c : A.cmp .eql (A.oi (A.len l)) x = false) : (n : Int) ≠ x := fun h => Z2o hA c ((yoiL hA e).trans h)
theorem ygtL {l : List D} {n : Nat} {x : Int} (e : l.length = n) (c : A.cmp .gtr (A.oi (A.len l)) x = true) : x < (n : Int) := (yoiL hA e) ▸ xgt hA c
theorem yngtL {l : List D} {n : Nat} {x : Int} (e : l.length = n) (c : A.cmp .gtr (A.oi (A.len l)) x = false) : (n : Int) <= x := (yoiL hA e) ▸ Zax hA c
theorem xnot {b : Bool} (h : A.bnot b = true) : b = false := by subst hA; simpa [ar] using h
theorem xnnot {b : Bool} (h : A.bnot b = false) : b = true := by subst hA; simpa [ar] using h
end
theorem Z15c {l : List Tk} {B : Nat} (h : ∀ t ∈ l, t.works.length <= B) : ∀ m, Z1cw (l.take m) <= m * B
 | 0 => by simp [Z1cw]
 | m + 1 => by
  have ih := Z15c h m;rw [List.take_add_one, Nat.succ_mul]
  cases e : l[m]? with
  | none => simp only [Option.toList_none, List.append_nil]; omega
  | some t =>
   have := h t (List.mem_of_getElem? e);simp only [Z1cw, List.map_append, List.sum_append, Option.toList_some, List.map_cons, List.map_nil, List.sum_cons, List.sum_nil] at ih ⊢;omega
theorem Z18d (s : Sh) (TL : List D) (hT : TL = s.tasks.map Z14z) (hl : s.tasks.length <= 4) (hw : ∀ t ∈ s.tasks, t.works.length <= 1152921504606846976) (n : Int) (hn : IsI n (Z1cw s.tasks)) (Q) (hq : Q (RA.ret (I n)) []) :
  CallA Tryz.prog 134 [.agg [I s.benches, .sl 3 TL]] [] Q := by
 obtain ⟨A, hA⟩ : ∃ A, A = ar := ⟨_, rfl⟩;have hTl : TL.length = s.tasks.length := by rw [hT]; simp
 refine Z5 Z0 hA Tryz.func134 rfl rfl rfl rfl rfl fun S hS => ?_;cbv;refine Zb hS ?_;refine Za (α := Int × Nat × Int) (fun q => { env := [(1, .b 0 0), (2, I 0), (3, I q.2.2), (7, .sl 3 TL), (8, I (A.oi (A.len TL))), (9, I q.1)], H := [.box (.agg [I s.benches, .sl 3 TL])], nt := 20, dfs := [] })
  (fun q => s.tasks.length - q.2.1) (fun q => q.2.1 <= s.tasks.length /\ IsI q.1 q.2.1 /\ IsI q.2.2 (Z1cw (s.tasks.take q.2.1))) (0, 0, 0) ⟨Nat.zero_le _, ⟨rfl⟩, ⟨rfl⟩⟩ ?_ ?_
 ·exact Zf [0] ⟨by decide, Z9, ⟨rfl, trivial⟩, ⟨rfl, rfl, rfl, rfl, rfl, rfl, trivial⟩, rfl, rfl⟩
 rintro ⟨i, k, x⟩ ⟨u1, u2, u3⟩;dsimp only at u1 u2 u3;refine Zi Z0 hA hS ?_;cbv
 split
 ·rename_i c
  have hk : k < s.tasks.length := Z31 hA hTl u2 c;obtain ⟨t, ht⟩ : ∃ t, t = s.tasks[k] := ⟨_, rfl⟩;have htk : s.tasks[k]? = some t := by rw [ht]; exact List.getElem?_eq_getElem hk
  obtain ⟨WL, hWL⟩ : ∃ WL, WL = t.works.map Z14x := ⟨_, rfl⟩;have hTk : TL[k]? = some (.agg [I t.ready, I t.due, .sl 3 WL]) := by rw [hT]; simp [htk, hWL, Z14z]
  have hs : Z1cw (s.tasks.take (k + 1)) = Z1cw (s.tasks.take k) + WL.length := by
   rw [List.take_add_one, htk]; simp [Z1cw, hWL]
  have hb := Z15c hw (k + 1);have hf : A.fits .i64 (A.add x (A.oi (A.len WL))) := by
   subst hA; exact Zxl (n := x + (WL.length : Int)) (by
    have := u3.eq
    have h4 : (k + 1) * 1152921504606846976 <= 4 * 1152921504606846976 := Nat.mul_le_mul_right _ (by omega)
    omega)
  have hx : IsI (A.add x (A.oi (A.len WL))) (Z1cw (s.tasks.take (k + 1))) := by
   subst hA; exact ⟨by rw [hs, u3.eq]; rfl⟩
  cbv;refine ⟨Z1b hA hTl u2 hk, ⟨_, Z18 hA u2 hTk, ?_⟩⟩;cbv;refine ⟨hf, Zy hA u2 (by omega), ?_⟩;refine Z8 (A.add i 1, k + 1, A.add x (A.oi (A.len WL))) [0] ⟨hk, Zz hA u2, hx⟩ (by simp only; omega) ?_;exact ⟨by decide, Z9, ⟨rfl, trivial⟩, ⟨rfl, rfl, rfl, rfl, rfl, rfl, trivial⟩, rfl, rfl⟩
 ·rename_i c
  have hk : s.tasks.length <= k := Z21 hA hTl u2 c;have hk2 : k = s.tasks.length := by omega
  have hx : x = n := by rw [u3.eq, hn.eq, hk2, List.take_length]
  rw [<- hx] at hq;cbv;refine Z7 ?_;cbv;exact Z2 [] (by decide) Z9 (H' := []) (d' := I x) trivial rfl (Z1 hq)
end Go.Proofs.YthljpccegkmdnaaGreatDoor.Bn
