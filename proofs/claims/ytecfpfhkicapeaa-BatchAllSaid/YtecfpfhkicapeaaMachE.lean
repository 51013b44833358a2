/- Part MachE of the proofs about the benches of the accordion maker: see the last text of the claim for what is proved. -/
import Derived.Laws.IdiomRangeMap
import Derived.RecoverIn
import Derived.Test.YtecfpfhkicapeaaMachD
set_option linter.unusedVariables false
set_option linter.unusedSimpArgs false
set_option linter.unnecessarySimpa false
set_option linter.constructorNameAsVariable false

namespace Go.Abs
open Go
def Zfl {α : Type} (l : List α) (j : Nat) (x : α) : List α := l.take j ++ x :: l.drop (j + 1)
theorem Zd8 {α : Type} {l : List α} {j : Nat} (x : α) (h : j <= l.length) (i : Nat) : (Zfl l j x)[i]? = if i = j then some x else l[i]? := by
 unfold Zfl;have hl : (l.take j).length = j := by simp; omega
 by_cases h1 : i < j
 ·rw [List.getElem?_append_left (by omega), List.getElem?_take, if_pos h1, if_neg (by omega)]
 ·rw [List.getElem?_append_right (by omega), hl]
  by_cases h2 : i = j
  ·subst h2; simp
  ·rw [if_neg h2];obtain ⟨n, rfl⟩ : ∃ n, i = j + 1 + n := ⟨i - j - 1, by omega⟩;rw [show j + 1 + n - j = n + 1 by omega, List.getElem?_cons_succ, List.getElem?_drop]
theorem Z11o {α : Type} (l : List α) (x : α) : Zfl l l.length x = l ++ [x] := by unfold Zfl; simp
theorem Zpt {α : Type} {l : List α} {j : Nat} (x : α) (h : j < l.length) : Zfl l j x = l.set j x := by
 refine List.ext_getElem? fun i => ?_;rw [Zd8 x (by omega), List.getElem?_set]
 by_cases e : i = j
 ·subst e; simp [h]
 ·rw [if_neg e, if_neg (fun h => e h.symm)]
abbrev Ent := Value × Option (List D)
section
variable {P : Program} {T : TT} {r : Option Nat} {m : Nat} {Q : AX -> St -> Prop} {F : Fz} {μ : Mu} {w : World} {K : St -> Prop} {s : St}
def Nm (s : St) (k : Nat) : Prop := (∃ t sz n, Z1c s.env t = some (.o k sz n)) ∨ ∃ (t kb off : Nat) (d : D) (r sz n : Nat), Z1c s.env t = some (.b kb off) /\ Z1m s.H kb = some (.box d) /\ d.cells[r]? = some (.o k sz n)
theorem Zoe {k sz n : Nat} {v : Value} (h : VR F μ (.o k sz n) v) : μ k ≠ none := by
 cases h with
 | cl _ _ hc => cases hc
 | o _ _ _ b m cap h1 h2 h3 => rw [h1]; simp
 | oNil _ _ a h1 => rw [h1]; simp
theorem Nm.ne {k : Nat} {a : Act} (h : Nm s k) (hr : RL m F μ s a w) : μ k ≠ none := by
 rcases h with ⟨t, sz, n, h1⟩ | ⟨t, kb, off, d, r, sz, n, h1, h2, h3⟩
 ·obtain ⟨v, -, hv⟩ := hr.er.env t _ h1;exact Zoe hv
 ·obtain ⟨v, -, hv⟩ := hr.er.env t _ h1
  cases hv with
  | cl _ _ hc => cases hc
  | b _ _ b m hμ =>
   obtain ⟨v, -, -, h4⟩ := hr.hr.cells (Z7c h2) hμ 0 d rfl r _ h3;exact Zoe h4
theorem Zsa (kg k k' j i f : Nat) {sz isz : Nat} {es row : List D} {d : D} {ents : List Ent} (d' : Value -> D) (hg : Z1m s.H kg = some (.ob (.gr isz ents))) (hk : Z1m s.H k = some (.elo sz es)) (hk' : Z1m s.H k' = some (.els isz row)) (hnm : Nm s k)
  (hj : j <= ents.length) (hjo : ∀ e row', ents[j]? ≠ some (e, some row')) (hr0 : 0 < row.length) (hi : es[i]? = some d) (hf : d.cells[f]? = some (.o k' isz row.length)) (hd' : ∀ x, (d' x).cells = d.cells.set f (.v x))
  (h : ∀ x : Value, x.oneCell' = true -> GS m K { s with H := ((s.H.set k' .dead).set kg (.ob (.gr isz (Zfl ents j (x, some row))))).set k (.elo sz (es.set i (d' x))) }) : GS m K s := ⟨fun F μ act w h1 => by
 have hr := h1.hr
 have bk := Z8e hk
 have bk' := Z5f hk'
 have bg : Z13 s.H kg = some (.gr isz ents) := by rw [Z1u] at hg; rw [Z19 hg]; rfl
 have lk := Z7k bk; have lk' := Z7k bk'; have lg := Z2p bg
 have ne1 : k ≠ k' := by rintro rfl; rw [hk] at hk'; cases hk'
 have ne2 : kg ≠ k := by rintro rfl; rw [Z6w bg] at bk; cases bk
 have ne3 : kg ≠ k' := by rintro rfl; rw [Z6w bg] at bk'; cases bk'
 have hfr : FrL row := hr.fr k' _ (by rw [<- Z1u]; exact hk') _ _ rfl
 obtain ⟨o1, loc, o2, o3⟩ := hr.obj kg _ bg trivial
 rcases hr.row k sz es bk (hnm.ne h1) with ⟨-, e0⟩ | ⟨b, M, c, t, e1, e2, e3, e4, e5⟩
 ·subst e0; simp at hi
 obtain ⟨z1, z2⟩ := e5 i _ hi
 obtain ⟨x, x1, x2, x3⟩ := z2 f _ hf
 obtain ⟨b0, m0, cap, q1, q2, q3, rfl⟩ : ∃ b0 m0 cap, μ k' = some (some (b0, m0)) /\ row.length <= cap /\ cap * isz <= m0 /\ x = .slice (some ⟨b0, 0, none⟩) row.length cap := by
  generalize hn : row.length = n at x3
  cases x3 with
  | cl _ _ hc => cases hc
  | o _ _ _ b0 m0 cap g1 g2 g3 => exact ⟨b0, m0, cap, g1, by omega, g3, rfl⟩
  | oNil => omega
 rcases hr.row k' isz row bk' (by rw [q1]; simp) with ⟨e0, -⟩ | ⟨b1, m1, c1, t1, f1, f2, f3, f4, f5⟩
 ·rw [q1] at e0; cases e0
 rw [q1] at f1; cases f1
 let μ' : Mu := ⟨μ.loc, fun a b => if a = kg then μ.inn kg b ∨ b = b0 else μ.inn a b⟩
 let H' : List Blk := ((s.H.set k' .dead).set kg (.ob (.gr isz (Zfl ents j (.slice (some ⟨b0, 0, none⟩) row.length cap, some row))))).set k (.elo sz (es.set i (d' (.slice (some ⟨b0, 0, none⟩) row.length cap))))
 have hget : ∀ a, H'[a]? = if a = k then some (.elo sz (es.set i (d' (.slice (some ⟨b0, 0, none⟩) row.length cap)))) else if a = kg then some (.ob (.gr isz (Zfl ents j (.slice (some ⟨b0, 0, none⟩) row.length cap, some row)))) else if a = k' then some .dead else s.H[a]? := fun a => by
  simp only [H', List.getElem?_set, List.length_set]
  by_cases a1 : a = k
  ·subst a1; simp [lk]
  ·have a1' : ¬ k = a := fun e => a1 e.symm
   by_cases a2 : a = kg
   ·subst a2; simp [a1, a1', lg]
   ·have a2' : ¬ kg = a := fun e => a2 e.symm
    by_cases a3 : a = k'
    ·subst a3; simp [a1, a1', a2, a2', lk']
    ·have a3' : ¬ k' = a := fun e => a3 e.symm
     simp only [if_neg a1, if_neg a1', if_neg a2, if_neg a2', if_neg a3, if_neg a3']
 have gk := hget k; rw [if_pos rfl] at gk
 have gg := hget kg; rw [if_neg ne2, if_pos rfl] at gg
 have gd := hget k'; rw [if_neg (Ne.symm ne1), if_neg (Ne.symm ne3), if_pos rfl] at gd
 have hlv : Z20 H' k' = false := by rw [Z6x gd]; rfl
 have hown : ∀ a, μ.inn kg a -> a ≠ b0 := fun a ha e => by
  subst e
  exact ne3 (hr.inj kg k' a (Z2j bg) (Z15 bk') (.inr ha) (.inl ⟨_, q1⟩))
 have eC : ∀ a, ¬ (a = k ∨ a = kg ∨ a = k') -> a ≠ k /\ a ≠ kg /\ a ≠ k' := fun a h => ⟨fun e => h (.inl e), fun e => h (.inr (.inl e)), fun e => h (.inr (.inr e))⟩
 have upm : ∀ a y, μ a = some y -> μ' a = some y := fun _ _ e => e
 have r : HR F μ' H' w /\ Post F μ s.H w F μ' H' w /\ ∀ j y, μ j = some y -> μ' j = some y := by
  refine Z5e (μ' := μ') (w' := w) (H' := H') (fun a => a = k ∨ a = kg ∨ a = k') hr (by simp [H']) (fun a ha => by
   obtain ⟨n1, n2, n3⟩ := eC a ha
   rw [hget, if_neg n1, if_neg n2, if_neg n3]) (fun _ _ => rfl) (fun a b ha => by
   obtain ⟨-, n2, -⟩ := eC a ha
   show (if a = kg then _ else _) ↔ _
   rw [if_neg n2]) (fun _ _ _ e => e) (Nat.le_refl _) rfl rfl rfl (fun _ _ _ => rfl) (fun a b ha hl hft => ?_) (fun a a' b ha ha' hl hl' h4 h5 => ?_) (fun a ha hle => ?_) (fun _ a sz1 es1 ha hb1 hne => ?_) (fun a y ha hb1 b => ?_) (fun hmono a y ha hy _ => ?_) (fun a ha he b => ?_) (fun a y ha hy => ?_)
  ·-- foot
   rcases ha with rfl | rfl | rfl
   ·refine .inl ⟨a, .inl rfl, Z15 bk, ?_⟩
    rcases hft with hm | hi
    ·exact .inl hm
    ·change (if a = kg then _ else _) at hi
     rw [if_neg (Ne.symm ne2)] at hi; exact .inr hi
   ·rcases hft with hm | hi
    ·exact .inl ⟨a, .inr (.inl rfl), Z2j bg, .inl hm⟩
    ·change (if a = a then _ else _) at hi
     rw [if_pos rfl] at hi
     rcases hi with hi | rfl
     ·exact .inl ⟨a, .inr (.inl rfl), Z2j bg, .inr hi⟩
     ·exact .inl ⟨k', .inr (.inr rfl), Z15 bk', .inl ⟨_, q1⟩⟩
   ·rw [hlv] at hl; cases hl
  ·-- apart
   have key : ∀ a b, (a = k ∨ a = kg ∨ a = k') -> Z20 H' a = true -> Z40 μ' a b -> (a = k /\ Z40 μ k b) ∨ (a = kg /\ (Z40 μ kg b ∨ b = b0)) := fun a b ha hl hft => by
    rcases ha with rfl | rfl | rfl
    ·refine .inl ⟨rfl, ?_⟩
     rcases hft with hm | hi
     ·exact .inl hm
     ·change (if a = kg then _ else _) at hi
      rw [if_neg (Ne.symm ne2)] at hi; exact .inr hi
    ·refine .inr ⟨rfl, ?_⟩
     rcases hft with hm | hi
     ·exact .inl (.inl hm)
     ·change (if a = a then _ else _) at hi
      rw [if_pos rfl] at hi
      exact hi.elim (fun h => .inl (.inr h)) .inr
    ·rw [hlv] at hl; cases hl
   rcases key a b ha hl h4 with ⟨rfl, g1⟩ | ⟨rfl, g1⟩ <;> rcases key a' b ha' hl' h5 with ⟨rfl, g2⟩ | ⟨rfl, g2⟩
   ·rfl
   ·exfalso
    rcases g2 with g2 | rfl
    ·exact ne2 (hr.inj a' a b (Z2j bg) (Z15 bk) g2 g1)
    ·exact ne1 (hr.inj a k' b (Z15 bk) (Z15 bk') g1 (.inl ⟨_, q1⟩))
   ·exfalso
    rcases g1 with g1 | rfl
    ·exact ne2 (hr.inj a a' b (Z2j bg) (Z15 bk) g1 g2)
    ·exact ne1 (hr.inj a' k' b (Z15 bk) (Z15 bk') g2 (.inl ⟨_, q1⟩))
   ·rfl
  ·simp [H'] at hle
   rcases ha with rfl | rfl | rfl <;> omega
  ·rcases ha with rfl | rfl | rfl
   ·rw [Z1s gk] at hb1
    simp only [Blk.es, Option.some.injEq, Prod.mk.injEq] at hb1
    obtain ⟨rfl, rfl⟩ := hb1
    refine .inr ⟨b, M, c, t, e1, e2, e3, by simpa using e4, fun j1 y1 hy1 => ?_⟩
    rw [List.getElem?_set] at hy1
    split at hy1
    ·rename_i e; subst e
     split at hy1
     ·cases hy1
      refine ⟨by rw [hd']; simpa using z1, fun r1 d1 hd1 => ?_⟩
      rw [hd', List.getElem?_set] at hd1
      split at hd1
      ·rename_i e; subst e
       split at hd1
       ·cases hd1; exact ⟨_, x1, x2, .cl _ _ (.v _ x2)⟩
       ·cases hd1
      ·obtain ⟨v, v1, v2, v3⟩ := z2 r1 d1 hd1
       exact ⟨v, v1, v2, v3.mono (fun _ _ _ e => e) upm⟩
     ·cases hy1
    ·obtain ⟨y2, y3⟩ := e5 j1 y1 hy1
     exact ⟨y2, fun r1 d1 hd1 => let ⟨v, v1, v2, v3⟩ := y3 r1 d1 hd1; ⟨v, v1, v2, v3.mono (fun _ _ _ e => e) upm⟩⟩
   ·rw [Z1s gg] at hb1; cases hb1
   ·rw [Z1s gd] at hb1; cases hb1
  ·rcases ha with rfl | rfl | rfl
   ·show ¬ (if a = kg then _ else _)
    rw [if_neg (Ne.symm ne2)]; exact hr.plain a _ bk b
   ·rw [Z1s gg] at hb1; cases hb1
   ·rw [Z1s gd] at hb1; cases hb1
  ·rcases ha with rfl | rfl | rfl
   ·rw [Z19 gk] at hy; cases hy
   ·rw [Z19 gg] at hy; cases hy
    refine ⟨o1, fun n => if n = j then b0 else loc n, fun n e row1 he => ?_, fun n n' e e' row1 row2 he he' hh => ?_⟩
    ·rw [Zd8 _ hj] at he
     split at he
     ·rename_i en
      cases he
      refine ⟨c1, t1, cap, by simp only [if_pos en], q2, by rw [f3]; exact q3, by simp only [if_pos en]; exact f2, f5.mono (fun _ _ _ e => e) upm, hfr, ?_⟩
      show (if a = a then _ else _)
      rw [if_pos rfl]; exact .inr (by simp only [if_pos en])
     ·rename_i en
      obtain ⟨c2, t2, cap2, g1, g2, g3, g4, g5, g6, g7⟩ := o2 n e row1 he
      refine ⟨c2, t2, cap2, by simp only [if_neg en]; exact g1, g2, g3, by simp only [if_neg en]; exact g4, g5.mono (fun _ _ _ e => e) upm, g6, ?_⟩
      show (if a = a then _ else _)
      rw [if_pos rfl]; simp only [if_neg en]; exact .inl g7
    ·rw [Zd8 _ hj] at he he'
     by_cases n1 : n = j <;> by_cases n2 : n' = j
     ·omega
     ·exfalso
      rw [if_neg n2] at he'
      simp only [if_pos n1, if_neg n2] at hh
      obtain ⟨_, _, _, _, _, _, _, _, _, g7⟩ := o2 n' _ _ he'
      exact hown _ g7 hh.symm
     ·exfalso
      rw [if_neg n1] at he
      simp only [if_neg n1, if_pos n2] at hh
      obtain ⟨_, _, _, _, _, _, _, _, _, g7⟩ := o2 n _ _ he
      exact hown _ g7 hh
     ·rw [if_neg n1] at he; rw [if_neg n2] at he'
      simp only [if_neg n1, if_neg n2] at hh
      exact o3 n n' _ _ _ _ he he' hh
   ·rw [Z19 gd] at hy; cases hy
  ·rcases ha with rfl | rfl | rfl
   ·exact absurd (show μ a = none from he) (hnm.ne h1)
   ·change μ a = none at he; rw [o1] at he; cases he
   ·change μ a = none at he; rw [q1] at he; cases he
  ·rcases ha with rfl | rfl | rfl
   ·rw [gk] at hy; cases hy; exact fun _ _ e => by cases e
   ·rw [gg] at hy; cases hy; exact fun _ _ e => by cases e
   ·rw [gd] at hy; cases hy; exact fun _ _ e => by cases e
 obtain ⟨r1, r2, r3⟩ := r
 have hob : ∀ a, Z13 s.H a = some .mk -> Z13 H' a = some .mk /\ ∀ b, μ.inn a b -> μ'.inn a b := fun a ha => by
  have n1 : a ≠ k := by rintro rfl; rw [Z6w ha] at bk; cases bk
  have n2 : a ≠ kg := by rintro rfl; rw [ha] at bg; cases bg
  have n3 : a ≠ k' := by rintro rfl; rw [Z6w ha] at bk'; cases bk'
  refine ⟨?_, fun b hb => ?_⟩
  ·unfold Z13 at ha ⊢; rw [hget, if_neg n1, if_neg n2, if_neg n3]; exact ha
  ·show (if a = kg then _ else _)
   rw [if_neg n2]; exact hb
 have rl : RL m F μ' { s with H := H' } act w := ⟨r1, ⟨fun t d ht => let ⟨v, v1, v2⟩ := h1.er.env t d ht; ⟨v, v1, v2.mono (fun _ _ _ e => e) r3⟩, h1.er.nt, h1.er.dfs.mono (fun _ _ _ e => e) r3 (fun a ha => hob a ha)⟩, by simpa [H'] using h1.len⟩
 obtain ⟨F2, μ2, s2, k1, k2, k3, k4, k5⟩ := (h _ x2).out F μ' act w rl
 exact ⟨F2, μ2, s2, r2.trans k1, Kp.trans (H := s.H) (H' := H') (μ := μ) (μ' := μ') ⟨fun _ _ => rfl, fun a _ ha => hob a ha⟩ k2, k3, fun d v hd hv => k4 d v hd (hv.mono (fun _ _ _ e => e) r3), k5⟩⟩
end
end Go.Abs

namespace Go.Abs
open Go
section
variable {P : Program} {T : TT} {r : Option Nat} {m : Nat} {Q : AX -> St -> Prop} {F : Fz} {μ : Mu} {w : World} {K : St -> Prop} {s : St}
theorem Zpu (kg k j i f : Nat) {sz isz : Nat} {es row : List D} {d : D} {x : Value} {ents : List Ent} (d' : D) (hg : Z1m s.H kg = some (.ob (.gr isz ents))) (hk : Z1m s.H k = some (.elo sz es)) (hj : ents[j]? = some (x, some row))
  (hi : es[i]? = some d) (hf : d.cells[f]? = some (.v x)) (hd' : d'.cells = d.cells.set f (.o s.H.length isz row.length))
  (h : GS m K { s with H := ((s.H.set kg (.ob (.gr isz (ents.set j (x, none))))).set k (.elo sz (es.set i d'))) ++ [.els isz row] }) : GS m K s := ⟨fun F μ act w h1 => by
 have hr := h1.hr
 have bk := Z8e hk
 have bg : Z13 s.H kg = some (.gr isz ents) := by rw [Z1u] at hg; rw [Z19 hg]; rfl
 have lk := Z7k bk; have lg := Z2p bg
 have ne2 : kg ≠ k := by rintro rfl; rw [Z6w bg] at bk; cases bk
 obtain ⟨o1, loc, o2, o3⟩ := hr.obj kg _ bg trivial
 obtain ⟨c0, t0, cap, p1, p2, p3, p4, p5, p6, p7⟩ := o2 j x row hj
 obtain ⟨L, hL⟩ : ∃ L, L = s.H.length := ⟨_, rfl⟩
 have nk : k ≠ L := by omega
 have ng : kg ≠ L := by omega
 have hLn : μ L = none := hr.dom _ (by omega)
 let μ' : Mu := ⟨fun a => if a = L then some (some (loc j, c0.size)) else μ a, fun a b => if a = kg then μ.inn kg b /\ b ≠ loc j else μ.inn a b⟩
 have m1 : ∀ a, a ≠ L -> μ' a = μ a := fun a ha => by show (if a = L then _ else _) = _; rw [if_neg ha]
 have m2 : μ' L = some (some (loc j, c0.size)) := by show (if L = L then _ else _) = _; rw [if_pos rfl]
 have m3 : ∀ a b, a ≠ kg -> (μ'.inn a b ↔ μ.inn a b) := fun a b ha => by show (if a = kg then _ else _) ↔ _; rw [if_neg ha]
 have m4 : ∀ b, μ'.inn kg b ↔ (μ.inn kg b /\ b ≠ loc j) := fun b => by show (if kg = kg then _ else _) ↔ _; rw [if_pos rfl]
 obtain ⟨H', hH'⟩ : ∃ H' : List Blk, H' = ((s.H.set kg (.ob (.gr isz (ents.set j (x, none))))).set k (.elo sz (es.set i d'))) ++ [.els isz row] := ⟨_, rfl⟩
 have hlen : H'.length = L + 1 := by rw [hH', hL]; simp
 have hget : ∀ a, H'[a]? = if a = k then some (.elo sz (es.set i d')) else if a = kg then some (.ob (.gr isz (ents.set j (x, none)))) else if a = L then some (.els isz row) else s.H[a]? := fun a => by
  rw [hH']
  by_cases hlt : a < s.H.length
  ·rw [List.getElem?_append_left (by simpa using hlt)]
   simp only [List.getElem?_set, List.length_set]
   by_cases a1 : a = k
   ·subst a1; simp [lk]
   ·have a1' : ¬ k = a := fun e => a1 e.symm
    by_cases a2 : a = kg
    ·subst a2; simp [a1, a1', lg]
    ·have a2' : ¬ kg = a := fun e => a2 e.symm
     have a3 : a ≠ L := by omega
     simp only [if_neg a1, if_neg a1', if_neg a2, if_neg a2', if_neg a3]
  ·have a1 : a ≠ k := by omega
   have a2 : a ≠ kg := by omega
   rw [if_neg a1, if_neg a2, List.getElem?_append_right (by simp; omega)]
   by_cases a3 : a = L
   ·subst a3; rw [if_pos rfl, hL]; simp
   ·rw [if_neg a3, List.getElem?_eq_none (by simp; omega), List.getElem?_eq_none (by omega)]
 have gk := hget k; rw [if_pos rfl] at gk
 have gg := hget kg; rw [if_neg ne2, if_pos rfl] at gg
 have gd := hget L; rw [if_neg (Ne.symm nk), if_neg (Ne.symm ng), if_pos rfl] at gd
 have eC : ∀ a, ¬ (a = k ∨ a = kg ∨ a = L) -> a ≠ k /\ a ≠ kg /\ a ≠ L := fun a h => ⟨fun e => h (.inl e), fun e => h (.inr (.inl e)), fun e => h (.inr (.inr e))⟩
 have upm : ∀ a y, μ a = some y -> μ' a = some y := fun a y e => by
  by_cases ha : a = L
  ·subst ha; rw [hLn] at e; cases e
  ·rw [m1 a ha]; exact e
 have fk : ∀ b, Z40 μ' k b -> Z40 μ k b := fun b hb => by
  rcases hb with ⟨M, hM⟩ | hb
  ·rw [m1 k nk] at hM; exact .inl ⟨M, hM⟩
  ·exact .inr ((m3 k b (Ne.symm ne2)).1 hb)
 have fg : ∀ b, Z40 μ' kg b -> μ.inn kg b /\ b ≠ loc j := fun b hb => by
  rcases hb with ⟨M, hM⟩ | hb
  ·rw [m1 kg ng, o1] at hM; cases hM
  ·exact (m4 b).1 hb
 have fL : ∀ b, Z40 μ' L b -> b = loc j := fun b hb => by
  rcases hb with ⟨M, hM⟩ | hb
  ·rw [m2] at hM; cases hM; rfl
  ·exact absurd ((m3 L b (Ne.symm ng)).1 hb) (hr.non _ hLn b)
 have r : HR F μ' H' w /\ Post F μ s.H w F μ' H' w /\ ∀ j y, μ j = some y -> μ' j = some y := by
  refine Z5e (μ' := μ') (w' := w) (H' := H') (fun a => a = k ∨ a = kg ∨ a = L) hr (by omega) (fun a ha => by
   obtain ⟨n1, n2, n3⟩ := eC a ha
   rw [hget, if_neg n1, if_neg n2, if_neg n3]) (fun a ha => m1 a (eC a ha).2.2) (fun a b ha => m3 a b (eC a ha).2.1) (fun a _ y e => upm a y e) (Nat.le_refl _) rfl rfl rfl (fun _ _ _ => rfl) (fun a b ha hl hft => ?_) (fun a a' b ha ha' hl hl' h4 h5 => ?_) (fun a ha hle => ?_) (fun _ a sz1 es1 ha hb1 hne => ?_) (fun a y ha hb1 b => ?_) (fun hmono a y ha hy _ => ?_) (fun a ha he b => ?_) (fun a y ha hy => ?_)
  ·rcases ha with rfl | rfl | rfl
   ·exact .inl ⟨a, .inl rfl, Z15 bk, fk b hft⟩
   ·exact .inl ⟨a, .inr (.inl rfl), Z2j bg, .inr (fg b hft).1⟩
   ·exact .inl ⟨kg, .inr (.inl rfl), Z2j bg, .inr (by rw [fL b hft]; exact p7)⟩
  ·rcases ha with rfl | rfl | rfl <;> rcases ha' with rfl | rfl | rfl
   ·rfl
   ·exact (ne2 (hr.inj a' a b (Z2j bg) (Z15 bk) (.inr (fg b h5).1) (fk b h4))).elim
   ·exfalso
    have e := fL b h5; subst e
    exact ne2 (hr.inj kg a _ (Z2j bg) (Z15 bk) (.inr p7) (fk _ h4))
   ·exact (ne2 (hr.inj a a' b (Z2j bg) (Z15 bk) (.inr (fg b h4).1) (fk b h5))).elim
   ·rfl
   ·exact ((fg b h4).2 (fL b h5)).elim
   ·exfalso
    have e := fL b h4; subst e
    exact ne2 (hr.inj kg a' _ (Z2j bg) (Z15 bk) (.inr p7) (fk _ h5))
   ·exact ((fg b h5).2 (fL b h4)).elim
   ·rfl
  ·rcases ha with rfl | rfl | rfl <;> omega
  ·rcases ha with rfl | rfl | rfl
   ·rw [Z1s gk] at hb1
    simp only [Blk.es, Option.some.injEq, Prod.mk.injEq] at hb1
    obtain ⟨rfl, rfl⟩ := hb1
    rw [m1 a nk] at hne ⊢
    rcases hr.row a sz es bk hne with ⟨-, e0⟩ | ⟨b, M, c, t, e1, e2, e3, e4, e5⟩
    ·subst e0; simp at hi
    refine .inr ⟨b, M, c, t, e1, e2, e3, by simpa using e4, fun j1 y1 hy1 => ?_⟩
    rw [List.getElem?_set] at hy1
    split at hy1
    ·rename_i e; subst e
     split at hy1
     ·cases hy1
      obtain ⟨z1, z2⟩ := e5 i _ hi
      refine ⟨by rw [hd']; simpa using z1, fun r1 d1 hd1 => ?_⟩
      rw [hd', List.getElem?_set] at hd1
      split at hd1
      ·rename_i e; subst e
       split at hd1
       ·cases hd1
        obtain ⟨v, v1, v2, v3⟩ := z2 f _ hf
        refine ⟨v, v1, v2, ?_⟩
        rw [v3.v_inv, p1, <- hL]
        exact .o _ _ _ _ _ _ m2 p2 p3
       ·cases hd1
      ·obtain ⟨v, v1, v2, v3⟩ := z2 r1 d1 hd1
       exact ⟨v, v1, v2, v3.mono (fun _ _ _ e => e) upm⟩
     ·cases hy1
    ·obtain ⟨y2, y3⟩ := e5 j1 y1 hy1
     exact ⟨y2, fun r1 d1 hd1 => let ⟨v, v1, v2, v3⟩ := y3 r1 d1 hd1; ⟨v, v1, v2, v3.mono (fun _ _ _ e => e) upm⟩⟩
   ·rw [Z1s gg] at hb1; cases hb1
   ·rw [Z1s gd] at hb1; cases hb1
    exact .inr ⟨_, _, c0, t0, m2, p4, rfl, Nat.le_trans (Nat.mul_le_mul_right _ p2) p3, p5.mono (fun _ _ _ e => e) upm⟩
  ·rcases ha with rfl | rfl | rfl
   ·rw [m3 a b (Ne.symm ne2)]; exact hr.plain a _ bk b
   ·rw [Z1s gg] at hb1; cases hb1
   ·rw [m3 a b (Ne.symm ng)]; exact hr.non _ hLn b
  ·rcases ha with rfl | rfl | rfl
   ·rw [Z19 gk] at hy; cases hy
   ·rw [Z19 gg] at hy; cases hy
    have hent : ∀ (n : Nat) (e : Value) (row1 : List D), (ents.set j (x, none))[n]? = some (e, some row1) -> n ≠ j /\ ents[n]? = some (e, some row1) := fun n e row1 he => by
     rw [List.getElem?_set] at he
     split at he
     ·split at he <;> cases he
     ·rename_i hne; exact ⟨fun e => hne e.symm, he⟩
    refine ⟨by rw [m1 a ng]; exact o1, loc, fun n e row1 he => ?_, fun n n' e e' row1 row2 he he' hh => o3 n n' _ _ _ _ (hent _ _ _ he).2 (hent _ _ _ he').2 hh⟩
    obtain ⟨hn, he⟩ := hent n e row1 he
    obtain ⟨c2, t2, cap2, g1, g2, g3, g4, g5, g6, g7⟩ := o2 n e row1 he
    exact ⟨c2, t2, cap2, g1, g2, g3, g4, g5.mono (fun _ _ _ e => e) upm, g6, (m4 _).2 ⟨g7, fun e0 => hn (o3 n j _ _ _ _ he hj e0)⟩⟩
   ·rw [Z19 gd] at hy; cases hy
  ·rcases ha with rfl | rfl | rfl
   ·rw [m1 a nk] at he
    rw [m3 a b (Ne.symm ne2)]; exact hr.non _ he b
   ·rw [m1 a ng, o1] at he; cases he
   ·rw [m2] at he; cases he
  ·rcases ha with rfl | rfl | rfl
   ·rw [gk] at hy; cases hy; exact fun _ _ e => by cases e
   ·rw [gg] at hy; cases hy; exact fun _ _ e => by cases e
   ·rw [gd] at hy; cases hy; exact fun _ _ e => by cases e; exact p6
 obtain ⟨r1, r2, r3⟩ := r
 have hob : ∀ a, Z13 s.H a = some .mk -> Z13 H' a = some .mk /\ ∀ b, μ.inn a b -> μ'.inn a b := fun a ha => by
  have n1 : a ≠ k := by rintro rfl; rw [Z6w ha] at bk; cases bk
  have n2 : a ≠ kg := by rintro rfl; rw [ha] at bg; cases bg
  have n3 : a ≠ L := by have := Z2p ha; omega
  refine ⟨?_, fun b hb => (m3 a b n2).2 hb⟩
  unfold Z13 at ha ⊢; rw [hget, if_neg n1, if_neg n2, if_neg n3]; exact ha
 have rl : RL m F μ' { s with H := H' } act w := ⟨r1, ⟨fun t d ht => let ⟨v, v1, v2⟩ := h1.er.env t d ht; ⟨v, v1, v2.mono (fun _ _ _ e => e) r3⟩, h1.er.nt, h1.er.dfs.mono (fun _ _ _ e => e) r3 (fun a ha => hob a ha)⟩, by have := h1.len; show m <= H'.length; omega⟩
 subst hH'
 obtain ⟨F2, μ2, s2, k1, k2, k3, k4, k5⟩ := h.out F μ' act w rl
 exact ⟨F2, μ2, s2, r2.trans k1, Kp.trans (H := s.H) (μ := μ) (μ' := μ') ⟨fun a ha => m1 a (by have := h1.len; omega), fun a _ ha => hob a ha⟩ k2, k3, fun d v hd hv => k4 d v hd (hv.mono (fun _ _ _ e => e) r3), k5⟩⟩
theorem Zsb {a : Act} {k i f sz isz : Nat} {es : List D} {d d' : D} (hk : Z1m s.H k = some (.elo sz es)) (hi : es[i]? = some d) (hf : d.cells[f]? = some (.v (.slice none 0 0))) (hd : d'.cells = d.cells.set f (.o s.H.length isz 0)) (h : RL m F μ s a w) :
  ∃ μ', RL m F μ' { s with H := s.H.set k (.elo sz (es.set i d')) ++ [.els isz []] } a w /\ Post F μ s.H w F μ' (s.H.set k (.elo sz (es.set i d')) ++ [.els isz []]) w /\ Kp m μ s.H μ' (s.H.set k (.elo sz (es.set i d')) ++ [.els isz []]) := by
 obtain ⟨q1, q2, q3⟩ := Zc5 h.hr (sz := isz) (h.hr.dom _ (Nat.le_refl _)) (Nat.le_refl _);rw [Z6y] at q1 q2;have hkl : k < s.H.length := by rw [Z1u] at hk; exact (List.getElem?_eq_some_iff.1 hk).1
 have hk' : Z1m (s.H ++ [Blk.els isz []]) k = some (.elo sz es) := Z5i hk;have hb := Z8e hk';obtain ⟨X, hX⟩ : ∃ X, X = Blk.elo sz (es.set i d') := ⟨_, rfl⟩;have hset : ∀ j, ((s.H ++ [Blk.els isz []]).set k X)[j]? = if j = k then some X else (s.H ++ [Blk.els isz []])[j]? := fun j => by
  have := Z2m (H := s.H ++ [Blk.els isz []]) X (k := k) (by simp; omega) j
  rwa [Z4l, if_pos (by simp; omega)] at this
 have hlen : d'.cells.length = d.cells.length := by rw [hd]; simp
 obtain ⟨r1, r2, -⟩ := Z5e (μ' := Z4v μ s.H.length none) (w' := w) (H' := (s.H ++ [Blk.els isz []]).set k X) (fun j => j = k) q1 (by simp) (fun j hj => by rw [hset, if_neg hj]) (fun j _ => rfl) (fun j b _ => Iff.rfl) (fun _ _ _ h => h) (Nat.le_refl _) rfl rfl rfl
  (fun b' hb' hn => rfl) (fun k' b' hk' _ hf => .inl ⟨k, rfl, Z15 hb, by subst hk'; exact hf⟩) (fun k1 k2 b h1 h2 _ _ _ _ => h1.trans h2.symm)
  (fun k' hk' hle' => by subst hk'; simp at hle'; omega) (fun _ k' sz1 es1 hk' hb1 hne => by
   subst hk'
   rw [Z1s (x := X) (by rw [hset, if_pos rfl]), hX] at hb1
   simp only [Blk.es, Option.some.injEq, Prod.mk.injEq] at hb1
   obtain ⟨rfl, rfl⟩ := hb1
   rcases q1.row k' _ _ hb hne with ⟨e1, e2⟩ | ⟨b, m, c, t, e1, e2, e3, e4, e5⟩
   ·subst e2; simp at hi
   ·refine .inr ⟨b, m, c, t, e1, e2, e3, by simpa using e4, fun j e he => ?_⟩
    rw [List.getElem?_set] at he
    split at he
    ·rename_i e0; subst e0
     split at he
     ·cases he
      obtain ⟨z1, z2⟩ := e5 i _ hi
      refine ⟨by rw [hlen]; exact z1, fun r x hx => ?_⟩
      rw [hd, List.getElem?_set] at hx
      split at hx
      ·rename_i e0; subst e0
       split at hx
       ·cases hx
        obtain ⟨v, v1, v2, v3⟩ := z2 f _ hf
        refine ⟨v, v1, v2, ?_⟩
        rw [v3.v_inv]; exact .oNil _ _ none (Z6h _ _ _)
       ·cases hx
      ·exact z2 r _ hx
     ·cases he
    ·exact e5 j e he) (fun k' y hk' _ b => by subst hk'; exact q1.plain k' _ hb b) (fun _ k' y hk' hy _ => by subst hk'; rw [Z19 (x := X) (by rw [hset, if_pos rfl]), hX] at hy; cases hy) (fun k' hk' he => by subst hk'; exact q1.non _ he) (fun k' y hk' hy => by
   subst hk'; rw [hset, if_pos rfl, hX] at hy; cases hy; exact fun _ _ e => by cases e)
 have hs : (s.H ++ [Blk.els isz []]).set k X = s.H.set k X ++ [.els isz []] := by rw [List.set_append_left _ _ hkl]
 have hob : ∀ j y, Z13 s.H j = some y -> Z13 ((s.H ++ [Blk.els isz []]).set k X) j = some y := fun j y hj => Z95 _ hb (Z41 _ hj);rw [hs] at r1 r2 hob;subst hX;refine ⟨_, ⟨r1, ⟨fun n x hn => ?_, h.er.nt, h.er.dfs.mono (fun _ _ _ e => e) q3 (fun j hj => ⟨hob j _ hj, fun _ e => e⟩)⟩, by have := h.len; simp; omega⟩, q2.trans r2, ⟨fun i hi => by rw [Z2k _ (by have := h.len; omega)], fun i _ hk => ⟨hob i _ hk, fun _ e => e⟩⟩⟩;obtain ⟨v, h1, h2⟩ := h.er.env n x hn;exact ⟨v, h1, h2.mono (fun _ _ _ e => e) q3⟩
theorem Zkf (k i f : Nat) {sz : Nat} (isz : Nat) {es : List D} {d : D} (d' : D) (hk : Z1m s.H k = some (.elo sz es)) (hi : es[i]? = some d) (hf : d.cells[f]? = some (.v (.slice none 0 0))) (hd : d'.cells = d.cells.set f (.o s.H.length isz 0))
  (h : GS m K { s with H := s.H.set k (.elo sz (es.set i d')) ++ [.els isz []] }) : GS m K s :=
 Z4i (fun F μ act w h1 => let ⟨μ', g1, g2, g3⟩ := Zsb hk hi hf hd h1; ⟨F, μ', g2, g3, g1⟩) h
theorem Zuv (mk : Nat -> St) (n : Nat) (step : ∀ i, i < n -> ∀ K, GS m K (mk (i + 1)) -> GS m K (mk i)) (h : GS m K (mk n)) : GS m K (mk 0) := by
 induction n generalizing K with
 | zero => exact h
 | succ n ih => exact ih (fun i hi => step i (by omega)) (step n (by omega) K h)
end
end Go.Abs

namespace Go.Abs
open Go
section
variable {P : Program} {T : TT} {r : Option Nat} {m : Nat}
theorem bm2 {S : Stop} {α : Type} {b : Bool} {X Y : Prop} {c : Code} {Q : AX -> St -> Prop} (mk : α -> St) (Pr : α -> Prop) (h1 : (∀ x, Pr x -> S.code c Q (mk x)) -> b = true -> X) (h2 : (∀ x, Pr x -> S.code c Q (mk x)) -> b = false -> Y) (rest : ∀ x, Pr x -> S.code c Q (mk x)) :
  (match (generalizing := false) b with | true => X | false => Y) := by
 cases b
 ·exact h2 rest rfl
 ·exact h1 rest rfl
theorem Zof {S : Stop} (hS : S = Zo P r m) {α : Type} {Pr : α -> Prop} {mk : α -> St} {c : Code} {Q : AX -> St -> Prop} {s : St} (rest : ∀ x, Pr x -> S.code c Q (mk x)) (x : α) (hx : Pr x) (h : GS m (fun s' => s' = mk x) s) : S.code c Q s :=
 Z3h hS (Zei h fun s' e => by rw [e]; exact rest x hx)
theorem Z39 {K : St -> Prop} {s : St} (k : Nat) {sz : Nat} {es es' : List D} (hk : Z1m s.H k = some (.els sz es)) (e : es = es') (h : GS m K { s with H := s.H.set k (.els sz es') }) : GS m K s := by
 subst e;have e1 : s.H.set k (.els sz es) = s.H := List.ext_getElem? fun i => by
  rw [List.getElem?_set]
  split
  ·rename_i e; subst e
   split
   ·exact (((Z1u s.H k).symm.trans hk)).symm
   ·rw [List.getElem?_eq_none (by omega)]
  ·rfl
 rw [e1] at h;exact h
end
end Go.Abs

namespace Go.Abs
open Go
def Z5t : Value := .slice none 0 0
def Z3f (xs : List Value) (rows : List (List D)) (c : Nat) : List D := (List.range xs.length).map fun j => if j < c then .sl 1 (rows.getD j []) else .v (xs.getD j Z5t)
def Z3t (xs : List Value) (rows : List (List D)) (c : Nat) : List Ent := (List.range xs.length).map fun j => (xs.getD j Z5t, if j < c ∨ (rows.getD j []).isEmpty = true then none else some (rows.getD j []))
structure GridOk (xs : List Value) (rows : List (List D)) : Prop where
 nil : ∀ j, j < xs.length -> rows.getD j [] = [] -> xs.getD j Z5t = Z5t
 fr : ∀ j, FrL (rows.getD j [])
theorem Z4p (xs rows c) : (Z3f xs rows c).length = xs.length := by simp [Z3f]
theorem Z3m (xs rows c) : (Z3t xs rows c).length = xs.length := by simp [Z3t]
theorem Z5u {xs : List Value} {rows c j} (h : j < xs.length) : (Z3f xs rows c)[j]? = some (if j < c then .sl 1 (rows.getD j []) else .v (xs.getD j Z5t)) := by simp [Z3f, h]
theorem Z5v {xs : List Value} {rows c j} (h : j < xs.length) : (Z3t xs rows c)[j]? = some (xs.getD j Z5t, if j < c ∨ (rows.getD j []).isEmpty = true then none else some (rows.getD j [])) := by simp [Z3t, h]
theorem Zkg {xs : List Value} {rows : List (List D)} {c : Nat} : FrL (Z3f xs rows c) := ⟨fun d hd => by
 obtain ⟨j, -, rfl⟩ := List.mem_map.1 hd
 split <;> rfl⟩
theorem Ze1 {α : Type} {l : List α} (h : l.isEmpty = true) : l = [] := by cases l <;> simp_all
section
variable {m : Nat} {K : St -> Prop} {E : List (Nat × D)} {b0 b3 b4 : Blk} {nt : Nat}
theorem Zpw {s : St} (sz : Nat) (ents : List Ent) (hn0 : ∀ (j : Nat) (e : Value) (row : List D), ents[j]? ≠ some (e, some row)) (h : GS m K { s with H := s.H ++ [.ob (.gr sz ents)] }) : GS m K s := by
 refine Z4i (s' := { s with H := s.H ++ [.ob (.gr sz ents)] }) (fun F μ act w h1 => ?_) h;have hn : μ s.H.length = none := h1.hr.dom _ (Nat.le_refl _);have hat := Z6h μ s.H.length none;have hget : (s.H ++ [Blk.ob (.gr sz ents)])[s.H.length]? = some (.ob (.gr sz ents)) := by simp
 have nf : ∀ b, ¬ Z40 (Z4v μ s.H.length none) s.H.length b := fun b hf => by
  rcases hf with ⟨m, hm⟩ | hf
  ·rw [hat] at hm; cases hm
  ·exact absurd hf (h1.hr.non _ hn b)
 obtain ⟨r1, r2, r3⟩ := Z5e (μ' := Z4v μ s.H.length none) (w' := w) (H' := s.H ++ [.ob (.gr sz ents)]) (fun j => j = s.H.length) h1.hr (by simp) (fun k hk => by
   by_cases hlt : k < s.H.length
   ·rw [List.getElem?_append_left hlt]
   ·rw [List.getElem?_eq_none (by simp; omega), List.getElem?_eq_none (by omega)]) (fun j hj => Z2k _ hj) (fun j b _ => Iff.rfl) (fun j hj y hy => by subst hj; rw [hn] at hy; cases hy) (Nat.le_refl _) rfl rfl rfl
  (fun _ _ _ => rfl) (fun k' b hk' _ hf => by subst hk'; exact absurd hf (nf b)) (fun k1 k2 b h1 h2 _ _ _ _ => h1.trans h2.symm) (fun k' hk' hle => by subst hk'; simp at hle; omega) (fun _ k' sz es hk' hb _ => by subst hk'; rw [Z1s hget] at hb; cases hb)
  (fun k' y hk' hb b => by subst hk'; rw [Z1s hget] at hb; cases hb) (fun hmono k' y hk' hyy _ => by
   subst hk'
   rw [Z19 hget] at hyy; cases hyy
   exact ⟨hat, fun _ => 0, fun j e row he => absurd he (hn0 j e row), fun i j e e' row row' he => absurd he (hn0 i e row)⟩) (fun k' hk' he => by subst hk'; rw [hat] at he; cases he) (fun k' y hk' hyy => by
   subst hk'; rw [hget] at hyy; cases hyy; exact fun _ _ e => by cases e)
 refine ⟨_, _, r2, ⟨fun i hi => Z2k _ (by have := h1.len; omega), fun i _ hk => ⟨Z41 _ hk, fun _ e => e⟩⟩, r1, ⟨fun t d ht => ?_, h1.er.nt, h1.er.dfs.mono (fun _ _ _ e => e) r3 (fun j hj => ⟨Z41 _ hj, fun _ e => e⟩)⟩, by have := h1.len; simp; omega⟩;obtain ⟨v, v1, v2⟩ := h1.er.env t d ht;exact ⟨v, v1, v2.mono (fun _ _ _ e => e) r3⟩
end
end Go.Abs

namespace Go.Abs
open Go
section
variable {P : Program} {T : TT} {r : Option Nat} {m : Nat} {Q : AX -> St -> Prop} {F : Fz} {μ : Mu} {w : World} {K : St -> Prop} {s : St}
theorem Zog (k : Nat) {x y : Blk} (hk : Z1m s.H k = some x) (e : x = y) (h : GS m K { s with H := s.H.set k y }) : GS m K s := by
 subst e;have e1 : s.H.set k x = s.H := List.ext_getElem? fun i => by
  rw [List.getElem?_set]
  split
  ·rename_i e; subst e
   split
   ·exact (((Z1u s.H k).symm.trans hk)).symm
   ·rw [List.getElem?_eq_none (by omega)]
  ·rfl
 rw [e1] at h;exact h
theorem Z11y {l : List (Nat × D)} {t : Nat} {d : D} : ∀ (n : Nat) (x : D), Z1c (Z6j l t d) n = some x -> (n = t /\ x = d) ∨ Z1c l n = some x := fun n x h => by
 rw [Z5n] at h
 by_cases e : t = n
 ·rw [if_pos e] at h; cases h; exact .inl ⟨e.symm, rfl⟩
 ·rw [if_neg e] at h; exact .inr h
theorem Z11p (kg k' j t : Nat) {isz n0 : Nat} {row : List D} {ents : List Ent} (hn0 : n0 = row.length) (hg : Z1m s.H kg = some (.ob (.gr isz ents))) (hk' : Z1m s.H k' = some (.els isz row)) (ht : Z1c s.env t = some (.o k' isz n0))
  (hj : j <= ents.length) (hjo : ∀ e row', ents[j]? ≠ some (e, some row')) (hr0 : 0 < row.length)
  (h : ∀ x : Value, x.oneCell' = true -> GS m K { s with env := Z6j s.env t (.v x), H := (s.H.set k' .dead).set kg (.ob (.gr isz (Zfl ents j (x, some row)))) }) : GS m K s := ⟨fun F μ act w h1 => by
 subst hn0
 have hr := h1.hr
 have bk' := Z5f hk'
 have bg : Z13 s.H kg = some (.gr isz ents) := by rw [Z1u] at hg; rw [Z19 hg]; rfl
 have lk' := Z7k bk'; have lg := Z2p bg
 have ne3 : kg ≠ k' := by rintro rfl; rw [Z6w bg] at bk'; cases bk'
 have hfr : FrL row := hr.fr k' _ (by rw [<- Z1u]; exact hk') _ _ rfl
 obtain ⟨o1, loc, o2, o3⟩ := hr.obj kg _ bg trivial
 obtain ⟨x, x1, x3⟩ := h1.er.env t _ ht
 obtain ⟨b0, m0, cap, q1, q2, q3, rfl⟩ : ∃ b0 m0 cap, μ k' = some (some (b0, m0)) /\ row.length <= cap /\ cap * isz <= m0 /\ x = .slice (some ⟨b0, 0, none⟩) row.length cap := by
  generalize hn : row.length = n at x3
  cases x3 with
  | cl _ _ hc => cases hc
  | o _ _ _ b0 m0 cap g1 g2 g3 => exact ⟨b0, m0, cap, g1, by omega, g3, rfl⟩
  | oNil => omega
 rcases hr.row k' isz row bk' (by rw [q1]; simp) with ⟨e0, -⟩ | ⟨b1, m1, c1, t1, f1, f2, f3, f4, f5⟩
 ·rw [q1] at e0; cases e0
 rw [q1] at f1; cases f1
 let μ' : Mu := ⟨μ.loc, fun a b => if a = kg then μ.inn kg b ∨ b = b0 else μ.inn a b⟩
 let H' : List Blk := (s.H.set k' .dead).set kg (.ob (.gr isz (Zfl ents j (.slice (some ⟨b0, 0, none⟩) row.length cap, some row))))
 have hget : ∀ a, H'[a]? = if a = kg then some (.ob (.gr isz (Zfl ents j (.slice (some ⟨b0, 0, none⟩) row.length cap, some row)))) else if a = k' then some .dead else s.H[a]? := fun a => by
  simp only [H', List.getElem?_set, List.length_set]
  by_cases a2 : a = kg
  ·subst a2; simp [lg]
  ·have a2' : ¬ kg = a := fun e => a2 e.symm
   by_cases a3 : a = k'
   ·subst a3; simp [a2, a2', lk']
   ·have a3' : ¬ k' = a := fun e => a3 e.symm
    simp only [if_neg a2, if_neg a2', if_neg a3, if_neg a3']
 have gg := hget kg; rw [if_pos rfl] at gg
 have gd := hget k'; rw [if_neg (Ne.symm ne3), if_pos rfl] at gd
 have hlv : Z20 H' k' = false := by rw [Z6x gd]; rfl
 have hown : ∀ a, μ.inn kg a -> a ≠ b0 := fun a ha e => by
  subst e
  exact ne3 (hr.inj kg k' a (Z2j bg) (Z15 bk') (.inr ha) (.inl ⟨_, q1⟩))
 have eC : ∀ a, ¬ (a = kg ∨ a = k') -> a ≠ kg /\ a ≠ k' := fun a h => ⟨fun e => h (.inl e), fun e => h (.inr e)⟩
 have upm : ∀ a y, μ a = some y -> μ' a = some y := fun _ _ e => e
 have r : HR F μ' H' w /\ Post F μ s.H w F μ' H' w /\ ∀ j y, μ j = some y -> μ' j = some y := by
  refine Z5e (μ' := μ') (w' := w) (H' := H') (fun a => a = kg ∨ a = k') hr (by simp [H']) (fun a ha => by
   obtain ⟨n2, n3⟩ := eC a ha
   rw [hget, if_neg n2, if_neg n3]) (fun _ _ => rfl) (fun a b ha => by
   obtain ⟨n2, -⟩ := eC a ha
   show (if a = kg then _ else _) ↔ _
   rw [if_neg n2]) (fun _ _ _ e => e) (Nat.le_refl _) rfl rfl rfl (fun _ _ _ => rfl) (fun a b ha hl hft => ?_) (fun a a' b ha ha' hl hl' h4 h5 => ?_) (fun a ha hle => ?_) (fun _ a sz1 es1 ha hb1 hne => ?_) (fun a y ha hb1 b => ?_) (fun hmono a y ha hy _ => ?_) (fun a ha he b => ?_) (fun a y ha hy => ?_)
  ·rcases ha with rfl | rfl
   ·rcases hft with hm | hi
    ·exact .inl ⟨a, .inl rfl, Z2j bg, .inl hm⟩
    ·change (if a = a then _ else _) at hi
     rw [if_pos rfl] at hi
     rcases hi with hi | rfl
     ·exact .inl ⟨a, .inl rfl, Z2j bg, .inr hi⟩
     ·exact .inl ⟨k', .inr rfl, Z15 bk', .inl ⟨_, q1⟩⟩
   ·rw [hlv] at hl; cases hl
  ·rcases ha with rfl | rfl
   ·rcases ha' with rfl | rfl
    ·rfl
    ·rw [hlv] at hl'; cases hl'
   ·rw [hlv] at hl; cases hl
  ·simp [H'] at hle
   rcases ha with rfl | rfl <;> omega
  ·rcases ha with rfl | rfl
   ·rw [Z1s gg] at hb1; cases hb1
   ·rw [Z1s gd] at hb1; cases hb1
  ·rcases ha with rfl | rfl
   ·rw [Z1s gg] at hb1; cases hb1
   ·rw [Z1s gd] at hb1; cases hb1
  ·rcases ha with rfl | rfl
   ·rw [Z19 gg] at hy; cases hy
    refine ⟨o1, fun n => if n = j then b0 else loc n, fun n e row1 he => ?_, fun n n' e e' row1 row2 he he' hh => ?_⟩
    ·rw [Zd8 _ hj] at he
     split at he
     ·rename_i en
      cases he
      refine ⟨c1, t1, cap, by simp only [if_pos en], q2, by rw [f3]; exact q3, by simp only [if_pos en]; exact f2, f5.mono (fun _ _ _ e => e) upm, hfr, ?_⟩
      show (if a = a then _ else _)
      rw [if_pos rfl]; exact .inr (by simp only [if_pos en])
     ·rename_i en
      obtain ⟨c2, t2, cap2, g1, g2, g3, g4, g5, g6, g7⟩ := o2 n e row1 he
      refine ⟨c2, t2, cap2, by simp only [if_neg en]; exact g1, g2, g3, by simp only [if_neg en]; exact g4, g5.mono (fun _ _ _ e => e) upm, g6, ?_⟩
      show (if a = a then _ else _)
      rw [if_pos rfl]; simp only [if_neg en]; exact .inl g7
    ·rw [Zd8 _ hj] at he he'
     by_cases n1 : n = j <;> by_cases n2 : n' = j
     ·omega
     ·exfalso
      rw [if_neg n2] at he'
      simp only [if_pos n1, if_neg n2] at hh
      obtain ⟨_, _, _, _, _, _, _, _, _, g7⟩ := o2 n' _ _ he'
      exact hown _ g7 hh.symm
     ·exfalso
      rw [if_neg n1] at he
      simp only [if_neg n1, if_pos n2] at hh
      obtain ⟨_, _, _, _, _, _, _, _, _, g7⟩ := o2 n _ _ he
      exact hown _ g7 hh
     ·rw [if_neg n1] at he; rw [if_neg n2] at he'
      simp only [if_neg n1, if_neg n2] at hh
      exact o3 n n' _ _ _ _ he he' hh
   ·rw [Z19 gd] at hy; cases hy
  ·rcases ha with rfl | rfl
   ·change μ a = none at he; rw [o1] at he; cases he
   ·change μ a = none at he; rw [q1] at he; cases he
  ·rcases ha with rfl | rfl
   ·rw [gg] at hy; cases hy; exact fun _ _ e => by cases e
   ·rw [gd] at hy; cases hy; exact fun _ _ e => by cases e
 obtain ⟨r1, r2, r3⟩ := r
 have hob : ∀ a, Z13 s.H a = some .mk -> Z13 H' a = some .mk /\ ∀ b, μ.inn a b -> μ'.inn a b := fun a ha => by
  have n2 : a ≠ kg := by rintro rfl; rw [ha] at bg; cases bg
  have n3 : a ≠ k' := by rintro rfl; rw [Z6w ha] at bk'; cases bk'
  refine ⟨?_, fun b hb => ?_⟩
  ·unfold Z13 at ha ⊢; rw [hget, if_neg n2, if_neg n3]; exact ha
  ·show (if a = kg then _ else _)
   rw [if_neg n2]; exact hb
 have rl : RL m F μ' { s with env := Z6j s.env t (.v (.slice (some ⟨b0, 0, none⟩) row.length cap)), H := H' } act w := ⟨r1, ⟨fun n d hd => by
   rcases Z11y n d hd with ⟨rfl, rfl⟩ | hd
   ·exact ⟨_, x1, .cl _ _ (.v _ rfl)⟩
   ·obtain ⟨v, v1, v2⟩ := h1.er.env n d hd
    exact ⟨v, v1, v2.mono (fun _ _ _ e => e) r3⟩, h1.er.nt, h1.er.dfs.mono (fun _ _ _ e => e) r3 (fun a ha => hob a ha)⟩, by simpa [H'] using h1.len⟩
 obtain ⟨F2, μ2, s2, k1, k2, k3, k4, k5⟩ := (h _ rfl).out F μ' act w rl
 exact ⟨F2, μ2, s2, r2.trans k1, Kp.trans (H := s.H) (H' := H') (μ := μ) (μ' := μ') ⟨fun _ _ => rfl, fun a _ ha => hob a ha⟩ k2, k3, fun d v hd hv => k4 d v hd (hv.mono (fun _ _ _ e => e) r3), k5⟩⟩
end
theorem Z11z {α : Type} {l : List α} {k : Nat} (h : k = l.length) {x : α} : Zfl l k x = l ++ [x] := by subst h; exact Z11o _ _
theorem Z120 {xs : List Value} {rows rows' : List (List D)} {k : Nat} {r : List D} {x : Value} (hx : GridOk xs rows) (hk : xs.length = k) (hr0 : 0 < r.length) (hfr : FrL r) (hr : ∀ j, rows'.getD j [] = if j = k then r else rows.getD j []) :
  Z3f xs rows 0 ++ [.v x] = Z3f (xs ++ [x]) rows' 0 /\ Zfl (Z3t xs rows 0) k (x, some r) = Z3t (xs ++ [x]) rows' 0 /\ GridOk (xs ++ [x]) rows' := by
 have hgd : ∀ j, j < k + 1 -> (xs ++ [x]).getD j Z5t = if j = k then x else xs.getD j Z5t := fun j hj => by
  rw [List.getD_eq_getElem?_getD]
  by_cases e : j = k
  ·rw [if_pos e, List.getElem?_append_right (by omega), e, hk]; simp
  ·rw [if_neg e, List.getElem?_append_left (by omega), List.getD_eq_getElem?_getD]
 refine ⟨?_, ?_, ?_⟩
 ·refine List.ext_getElem? fun j => ?_
  by_cases hj : j < k + 1
  ·rw [Z5u (by simp; omega), if_neg (by omega), hgd j hj]
   by_cases e : j = k
   ·rw [if_pos e, List.getElem?_append_right (by rw [Z4p]; omega), Z4p, e, hk]; simp
   ·rw [if_neg e, List.getElem?_append_left (by rw [Z4p]; omega), Z5u (by omega), if_neg (by omega)]
  ·rw [List.getElem?_eq_none (by simp [Z4p]; omega), List.getElem?_eq_none (by rw [Z4p]; simp; omega)]
 ·have hl : k = (Z3t xs rows 0).length := by rw [Z3m]; exact hk.symm
  rw [Z11z hl];refine List.ext_getElem? fun j => ?_
  by_cases hj : j < k + 1
  ·rw [Z5v (by simp; omega), hgd j hj, hr]
   by_cases e : j = k
   ·rw [if_pos e, if_pos e, List.getElem?_append_right (by rw [Z3m]; omega), Z3m, e, hk];rw [if_neg (by rintro (h | h); omega; rw [Ze1 h] at hr0; simp at hr0)]; simp
   ·rw [if_neg e, List.getElem?_append_left (by rw [Z3m]; omega), Z5v (by omega)];simp only [if_neg e]
  ·rw [List.getElem?_eq_none (by simp [Z3m]; omega), List.getElem?_eq_none (by rw [Z3m]; simp; omega)]
 ·refine ⟨fun j hj h0 => ?_, fun j => ?_⟩
  ·have hj' : j < k + 1 := by simpa [hk] using hj
   rw [hr] at h0;rw [hgd j hj']
   by_cases e : j = k
   ·rw [if_pos e] at h0; rw [h0] at hr0; simp at hr0
   ·rw [if_neg e] at h0; rw [if_neg e];exact hx.nil j (by omega) h0
  ·rw [hr]
   split
   ·exact hfr
   ·exact hx.fr j
end Go.Abs

namespace Go.Abs
open Go
section
variable {P : Program} {T : TT} {r : Option Nat} {m : Nat} {ops : Array Oper} {Q : AX -> St -> Prop} {s : St}
end
end Go.Abs

namespace Go.Abs
open Go
def Zfm (kn : Nat) (l : List Int) : D := match kn with | 0 => .v (.int .i64 (l.headD 0)) | _ + 1 => .agg (l.map (fun x => .v (.int .i64 x)))
section
variable {P : Program} {T : TT} {F : Fz} {μ : Mu} {w : World} {r : Option Nat} {m : Nat} {ops : Array Oper} {Q : AX -> St -> Prop} {s : St}
theorem Zh4 (kn : Nat) (l : List Int) (hl : l.length = Nat.max 1 kn) : VR F μ (Zfm kn l) (Z1k (kn != 0) l) := by
 cases kn with
 | zero => exact .cl _ _ (.v _ rfl)
 | succ n =>
  show VR F μ (.agg (l.map (fun x => .v (.int .i64 x)))) (.agg (l.map (Value.int .i64)).toArray);refine .cl _ _ (.agg _ _ (by simp) (fun i c v h1 h2 => ?_) (fun i v h2 => ?_))
  ·simp only [List.getElem?_map, Option.map_eq_some_iff] at h1;simp only [List.getElem?_toArray, List.getElem?_map, Option.map_eq_some_iff] at h2;obtain ⟨x, hx, rfl⟩ := h1;obtain ⟨y, hy, rfl⟩ := h2;rw [hx] at hy; cases hy;exact .v _ rfl
  ·simp only [List.getElem?_toArray, List.getElem?_map, Option.map_eq_some_iff] at h2;obtain ⟨y, hy, rfl⟩ := h2;rfl
theorem Zkh {w : World} {b : Nat} {o : Obj} (h : w.heap[b]? = some o) : w.heap = w.heap.setIfInBounds b o := by
 apply Array.ext_getElem?
 intro j;rw [Array.getElem?_setIfInBounds]
 split
 ·rename_i e; subst e
  have hlt := (Array.getElem?_eq_some_iff.1 h).1;rw [if_pos hlt]; exact h
 ·rfl
theorem Z6t {o : Oper} {K : D -> List Blk -> List AD -> Prop} {X : D -> List Blk -> Prop} (hT : TOK P T) {t : TypeId} {x : Operand} {k kn : Nat} {ee : TE} {ents : List (List Int × D)} (ho : o.op = .range t x) (hx : evo s.env x = some (.mv k))
  (hk : Z1m s.H k = some (.ob (.mp kn ents))) (hmt : Zc3 T t = some (kn, ee))
  (h : ∀ bs clock, bs.length = ents.length -> bs.Nodup -> (∀ c ∈ bs, c < clock) -> K (.b s.H.length 0) (s.H.set k (.ob (.mpx kn ents bs clock)) ++ [.ob (.mi k clock [] clock)]) s.dfs) : OpA P r o s K X := by
 refine ⟨fun F μ a w hr he next Q hn _ => ?_⟩;obtain ⟨kt, et, hu, -⟩ := Z7d hT hmt;have hxv := he.evo hx;obtain ⟨b, mm, hav, hμ⟩ : ∃ b m, a.eval x = .map (some b) /\ μ k = some (some (b, m)) := by
  generalize a.eval x = v at hxv
  cases hxv with | cl _ _ hc => cases hc | mv _ b m hμ => exact ⟨b, m, rfl, hμ⟩
 have hob := Z42 hk;obtain ⟨b', es, clock, o1, o2, o3, o4, o5, o6, o7⟩ := hr.obj _ _ hob (by rw [hμ]; simp);rw [hμ] at o1; cases o1
 let bs : List Nat := es.toList.map (·.born)
 have hlen : bs.length = ents.length := by simp [bs, o3]
 have hget : ∀ (i c : Nat), bs[i]? = some c -> ∃ e : MapEntry, es[i]? = some e /\ e.born = c := fun i c hi => by
  have hi' : (es.toList.map (·.born))[i]? = some c := hi;rw [List.getElem?_map, Option.map_eq_some_iff] at hi';obtain ⟨e, h1, h2⟩ := hi';exact ⟨e, by rw [<- Array.getElem?_toList]; exact h1, h2⟩
 have hnd : bs.Nodup := by
  rw [List.nodup_iff_pairwise_ne, List.pairwise_iff_getElem];intro i j hi hj hij e;obtain ⟨e1, h1, h2⟩ := hget i _ (List.getElem?_eq_getElem hi);obtain ⟨e2, h3, h4⟩ := hget j _ (List.getElem?_eq_getElem hj);have := o5 i j e1 e2 h1 h3 (by rw [h2, h4, e]);omega
 have hlt : ∀ c ∈ bs, c < clock := fun c hc => by
  obtain ⟨i, hi⟩ := List.mem_iff_getElem?.1 hc;obtain ⟨e, h1, h2⟩ := hget i c hi;rw [<- h2]; exact o4 i e h1
 obtain ⟨q1, q2⟩ := Zbc hr (y := .mpx kn ents bs clock) (o := .map es clock) hob hμ o7 (w' := w) (Zkh o2) rfl rfl rfl (fun hb => ⟨b, es, hμ, hb, o3, rfl, hlt, hnd, o6, o7⟩);have hst1 : Stp F μ s.H w F μ (s.H.set k (.ob (.mpx kn ents bs clock))) w := ⟨q2, q1, by simp, fun _ _ => rfl, fun i hi => ⟨Z48 (y := .mk) hob (by intro e; cases e) _ hi, fun _ e => e⟩⟩;have hsz : (s.H.set k (.ob (.mpx kn ents bs clock))).length = s.H.length := by simp
 obtain ⟨u1, u2, u3⟩ := Zjj q1 (x := .mi k clock [] clock) (o := .mapIter (some b) clock #[] clock) (by intro e; cases e) (fun hb hm => ⟨w.heap.size, b, 0, Z2f _ _ _, hm _ _ hμ, hb, fun c hc => hr.non _ (hr.dom _ (by rw [hsz]; exact Nat.le_refl _)) c hc⟩);rw [hsz] at u1 u2 u3;have hst2 : Stp F μ (s.H.set k (.ob (.mpx kn ents bs clock))) w F (Z4v μ s.H.length (some (w.heap.size, 0))) (s.H.set k (.ob (.mpx kn ents bs clock)) ++ [.ob (.mi k clock [] clock)]) (w.alloc (.mapIter (some b) clock #[] clock)) :=
  ⟨u2, u1, by simp, fun j hj => by rw [Z2k _ (by rw [hsz] at hj; omega)], .app _ _ _ _ _⟩
 have hst := hst1.trans hst2;have hrun := run_range_map (P := P) w t kt et b es clock hu o2;rw [Oper.semAt_eq r a.eval o (fun c e => by rw [ho] at e; cases e)];have hex : (execOp a.eval o).run P w = .ok (.value (.pointer (some ⟨w.heap.size, 0, none⟩))) (w.alloc (.mapIter (some b) clock #[] clock)) := by
  unfold execOp;rw [ho];simp only [hav, Sem.run_bind, hrun, Result.andThen_ok, Sem.run_pure]
 rw [hex, Oper.uponIn_value];exact hn F _ _ _ s.dfs _ _ _ hst (hst.adr hr he.dfs) (.b _ 0 _ _ (Z2f _ _ _)) (h bs clock hlen hnd hlt)
theorem Zuw {d : D} {v : Value} (h : VR F μ d v) : VR F μ (.tup [d]) (.tuple #[v]) := .tup _ _ rfl fun i c u h1 h2 => by
 match i, h1, h2 with
 | 0, h1, h2 => simp at h1 h2; subst h1 h2; exact h
 | n + 1, h1, h2 => simp at h1
theorem Zux {d e : D} {v u : Value} (h : VR F μ d v) (h' : VR F μ e u) : VR F μ (.tup [d, e]) (.tuple #[v, u]) := .tup _ _ rfl fun i c u h1 h2 => by
 match i, h1, h2 with
 | 0, h1, h2 => simp at h1 h2; subst h1 h2; exact h
 | 1, h1, h2 => simp at h1 h2; subst h1 h2; exact h'
 | n + 2, h1, h2 => simp at h1
theorem Zuy {d e f : D} {v u x : Value} (h : VR F μ d v) (h' : VR F μ e u) (h'' : VR F μ f x) : VR F μ (.tup [d, e, f]) (.tuple #[v, u, x]) := .tup _ _ rfl fun i c u h1 h2 => by
 match i, h1, h2 with
 | 0, h1, h2 => simp at h1 h2; subst h1 h2; exact h
 | 1, h1, h2 => simp at h1 h2; subst h1 h2; exact h'
 | 2, h1, h2 => simp at h1 h2; subst h1 h2; exact h''
 | n + 3, h1, h2 => simp at h1
theorem Zoh {a : Act} (he : ER F μ s a) {x : Operand} {j : Nat} (hx : evo s.env x = some (.b j 0)) : ∃ b m, a.eval x = .pointer (some ⟨b, 0, none⟩) /\ μ j = some (some (b, m)) := by
 have hxv := he.evo hx
 generalize a.eval x = v at hxv
 cases hxv with
 | cl _ _ hc => cases hc
 | b _ _ b m hμ => exact ⟨b, m, rfl, hμ⟩
theorem Z7y {o : Oper} {K : D -> List Blk -> List AD -> Prop} {X : D -> List Blk -> Prop} {x : Operand} {j k kn clock : Nat} {ents : List (List Int × D)} {bs seen : List Nat} (ho : o.op = .next x false) (hx : evo s.env x = some (.b j 0))
  (hj : Z1m s.H j = some (.ob (.mi k clock seen clock))) (hk : Z1m s.H k = some (.ob (.mpx kn ents bs clock)))
  (h0 : (∀ c ∈ bs, c ∈ seen) -> K (.tup [.v (.bool false)]) s.H s.dfs)
  (h1 : ∀ (i c : Nat) (e : List Int × D), bs[i]? = some c -> ents[i]? = some e -> c ∉ seen -> e.1.length = Nat.max 1 kn -> K (.tup [.v (.bool true), Zfm kn e.1, e.2]) (s.H.set j (.ob (.mi k clock (seen ++ [c]) clock))) s.dfs) : OpA P r o s K X := by
 refine ⟨fun F μ a w hr he next Q hn _ => ?_⟩;obtain ⟨b, mb, hav, hμj⟩ := Zoh he hx;have hoj := Z42 hj;have hok := Z42 hk;obtain ⟨b', bm, m', i1, i2, i3, i4⟩ := hr.obj _ _ hoj (by rw [hμj]; simp);rw [hμj] at i1; cases i1;obtain ⟨bm', es, k1, k2, k3, k4, k5, k6, k7, k8⟩ := hr.obj _ _ hok (by rw [i2]; simp);rw [i2] at k1; cases k1;have hborn : ∀ x ∈ es.toList, x.born < clock := fun x hx => k5 _ (by rw [<- k4]; exact List.mem_map.2 ⟨x, hx, rfl⟩);rw [Oper.semAt_eq r a.eval o (fun c e => by rw [ho] at e; cases e)];have hex : execOp a.eval o = (do let v <- Instr.next (.pointer (some ⟨b, 0, none⟩)) false o.type; pure (.value v)) := by
  unfold execOp;rw [ho];simp only [hav]
 have hcont : ∀ c, seen.toArray.contains c = true ↔ c ∈ seen := fun c => by simp
 have hrun : ((leftOf es seen.toArray).size = 0 /\ (Instr.next (.pointer (some ⟨b, 0, none⟩)) false o.type).run P w = .ok (.tuple #[.bool false]) w) ∨
   ∃ e ∈ (leftOf es seen.toArray).toList, ∃ w1 : World, w1.heap = w.heap /\ w1.tape = w.tape /\ w1.os = w.os /\ w1.output = w.output /\
    (Instr.next (.pointer (some ⟨b, 0, none⟩)) false o.type).run P w = .ok (.tuple #[.bool true, e.key, e.val]) { w1 with heap := w1.heap.setIfInBounds b (.mapIter (some bm) clock (seen.toArray.push e.born) clock) } := by
  simp only [Instr.next, getObj, Sem.run_bind, Sem.run, i3, k2, Result.andThen, next_test_false seen.toArray es clock clock hborn (Nat.le_refl _), Bool.false_eq_true, if_false];unfold leftOf;have hmem : ∀ x ∈ (Array.filter (fun e => !seen.toArray.contains e.born) es).toList, x.born < clock := fun x hx => hborn x (by simp at hx ⊢; exact hx.1)
  generalize Array.filter (fun e => !seen.toArray.contains e.born) es = L at hmem ⊢
  have e1 : L.filter (fun x => decide (x.born < clock)) = L := Array.filter_eq_self.2 (fun x hx => by simpa using hmem x (by simpa using hx));have e2 : L.filter (fun x => decide (x.born ≥ clock)) = #[] := by
   rw [Array.filter_eq_empty_iff];intro x hx;have := hmem x (by simpa using hx);simp;omega
  simp only [e1, e2, Array.append_empty]
  by_cases h0 : L.size = 0
  ·left
   have : L = #[] := Array.eq_empty_of_size_eq_zero h0;subst this;refine ⟨rfl, ?_⟩;simp [choose, Sem.run, Question.forced]
  ·right
   have hne : L.isEmpty = false := by simp [Array.isEmpty, h0]
   simp only [hne, Bool.false_eq_true, if_false, Array.empty_append, Array.size_map];have hch : ∃ (j : Nat) (w1 : World), j < L.size /\ w1.heap = w.heap /\ w1.tape = w.tape /\ w1.os = w.os /\ w1.output = w.output /\ (choose (Question.mapNext L.size)).run P w = .ok j w1 := by
    by_cases hf : L.size <= 1
    ·exact ⟨0, w, by omega, rfl, rfl, rfl, rfl, by simp [choose, Sem.run, Question.forced, hf]⟩
    ·exact ⟨_, w.drew, Nat.mod_lt _ (by omega), rfl, rfl, rfl, rfl, by
      simp only [choose, Sem.run, Question.forced, decide_eq_true_eq, hf, if_false, Question.cut]
      rfl⟩
   obtain ⟨j, w1, hj, g1, g2, g3, g4, hrun⟩ := hch;refine ⟨L[j], by simp, w1, g1, g2, g3, g4, ?_⟩;have hset : ∀ (o' : Obj), (setObj b o').run P w1 = .ok () { w1 with heap := w1.heap.setIfInBounds b o' } := fun o' => by simp [setObj, Sem.run, g1, i3]
   simp only [hrun, Array.getElem?_map, Array.getElem?_eq_getElem hj, Option.map_some, Sem.run_bind, hset, Result.andThen];rfl
 rw [hex];rcases hrun with ⟨g0, g1⟩ | ⟨e, hel, w1, g1, g2, g3, g4, g5⟩
 ·simp only [Sem.run_bind, g1, Result.andThen_ok, Sem.run_pure, Oper.uponIn_value];refine hn F μ s.H w s.dfs _ _ _ (Stp.refl hr) he.dfs (Zuw (Z3d rfl)) (h0 fun c hc => ?_);rw [<- k4] at hc;obtain ⟨x, hx, rfl⟩ := List.mem_map.1 hc;exact (hcont _).1 (all_seen es seen.toArray g0 x hx)
 ·simp only [Sem.run_bind, g5, Result.andThen_ok, Sem.run_pure, Oper.uponIn_value];obtain ⟨hmem, hns⟩ := mem_left hel;obtain ⟨i, hi⟩ := List.mem_iff_getElem?.1 hmem;rw [Array.getElem?_toList] at hi;have hci : bs[i]? = some e.born := by rw [<- k4]; simp [hi]
  have hlt : i < ents.length := by rw [<- k3]; exact (Array.getElem?_eq_some_iff.1 hi).1
  obtain ⟨y1, y2, y3⟩ := k7 i e _ hi (List.getElem?_eq_getElem hlt);obtain ⟨q1, q2⟩ := Zbc hr (y := .mi k clock (seen ++ [e.born]) clock) (o := .mapIter (some bm) clock (seen.toArray.push e.born) clock) hoj hμj i4
   (w' := { w1 with heap := w1.heap.setIfInBounds b (.mapIter (some bm) clock (seen.toArray.push e.born) clock) }) (by simp only [g1]) g2 g3 g4 (fun hb => ⟨b, bm, _, hμj, i2, by rw [hb]; simp, i4⟩)
  have hst : Stp F μ s.H w F μ (s.H.set j (.ob (.mi k clock (seen ++ [e.born]) clock))) { w1 with heap := w1.heap.setIfInBounds b (.mapIter (some bm) clock (seen.toArray.push e.born) clock) } :=
   ⟨q2, q1, by simp, fun _ _ => rfl, fun i hi => ⟨Z48 (y := .mk) hoj (by intro e; cases e) _ hi, fun _ e => e⟩⟩
  refine hn F μ _ _ s.dfs _ _ _ hst (hst.adr hr he.dfs) (Zuy (Z3d rfl) ?_ (.cl _ _ y3)) (h1 i e.born _ hci (List.getElem?_eq_getElem hlt) (fun hc => by rw [(hcont _).2 hc] at hns; cases hns) y2);rw [y1]; exact Zh4 kn _ y2
theorem Zpy {o : Oper} {K : D -> List Blk -> List AD -> Prop} {X : D -> List Blk -> Prop} {x : Operand} {j k kn clock i c : Nat} {ents : List (List Int × D)} {bs seen : List Nat} {e : List Int × D} (ho : o.op = .entry x) (hx : evo s.env x = some (.b j 0))
  (hj : Z1m s.H j = some (.ob (.mi k clock (seen ++ [c]) clock))) (hk : Z1m s.H k = some (.ob (.mpx kn ents bs clock))) (hc : bs[i]? = some c) (hent : ents[i]? = some e)
  (h : K (.tup [Zfm kn e.1, e.2]) s.H s.dfs) : OpA P r o s K X := by
 refine ⟨fun F μ a w hr he next Q hn _ => ?_⟩;obtain ⟨b, mb, hav, hμj⟩ := Zoh he hx;have hoj := Z42 hj;have hok := Z42 hk;obtain ⟨b', bm, m', i1, i2, i3, i4⟩ := hr.obj _ _ hoj (by rw [hμj]; simp);rw [hμj] at i1; cases i1;obtain ⟨bm', es, k1, k2, k3, k4, k5, k6, k7, k8⟩ := hr.obj _ _ hok (by rw [i2]; simp);rw [i2] at k1; cases k1;have hlt : i < es.size := by rw [k3]; exact (List.getElem?_eq_some_iff.1 hent).1
 have hei : es[i]? = some es[i] := Array.getElem?_eq_getElem hlt;have hborn : es[i].born = c := by rw [<- k4] at hc; simpa [hei] using hc
 obtain ⟨y1, y2, y3⟩ := k7 i _ _ hei hent;have hnd : (es.toList.map (·.born)).Nodup := by rw [k4]; exact k6
 have hf : es.find? (·.born == c) = some es[i] := by rw [<- Array.find?_toList, <- hborn]; exact find_born _ es.toList hnd (by simp)
 rw [Oper.semAt_eq r a.eval o (fun c e => by rw [ho] at e; cases e)];have hrun : (Instr.entry (.pointer (some ⟨b, 0, none⟩))).run P w = .ok (.tuple #[es[i].key, es[i].val]) w := by
  have hback : (seen ++ [c]).toArray.back? = some c := by simp
  simp only [Instr.entry, getObj, Sem.run_bind, Sem.run, i3, k2, Result.andThen, hback, bne_self_eq_false, Bool.false_eq_true, if_false, hf];rfl
 have hex : (execOp a.eval o).run P w = .ok (.value (.tuple #[es[i].key, es[i].val])) w := by
  unfold execOp;rw [ho];simp only [hav, Sem.run_bind, hrun, Result.andThen_ok, Sem.run_pure]
 rw [hex, Oper.uponIn_value];refine hn F μ s.H w s.dfs _ _ _ (Stp.refl hr) he.dfs (Zux ?_ (.cl _ _ y3)) h;rw [y1]; exact Zh4 kn _ y2
theorem Zms {K : St -> Prop} {k kn clock : Nat} {ents : List (List Int × D)} {bs : List Nat} (hk : Z1m s.H k = some (.ob (.mpx kn ents bs clock))) (hh : GS m K { s with H := s.H.set k (.ob (.mp kn ents)) }) : GS m K s :=
 Z4i (s' := { s with H := s.H.set k (.ob (.mp kn ents)) }) (fun F μ a w h => by
  have hob := Z42 hk
  by_cases hn : μ k = none
  ·-- promised, not made: nothing is said
   refine ⟨F, μ, ?_⟩
   have hkl := Z2p hob
   have hset : ∀ j, (s.H.set k (Blk.ob (.mp kn ents)))[j]? = if j = k then some (Blk.ob (.mp kn ents)) else s.H[j]? := fun j => by
    have := Z2m (H := s.H) (Blk.ob (.mp kn ents)) (Nat.le_of_lt hkl) j
    rwa [Z4l, if_pos hkl] at this
   have := Z5e (μ' := μ) (w' := w) (H' := s.H.set k (.ob (.mp kn ents))) (fun j => j = k) h.hr (by simp) (fun j hj => by rw [hset, if_neg hj]) (fun j _ => rfl) (fun j b _ => Iff.rfl) (fun _ _ _ h => h) (Nat.le_refl _) rfl rfl rfl
    (fun b' hb' hn => rfl) (fun k' b' hk' _ hf => .inl ⟨k, rfl, Z2j hob, by subst hk'; exact hf⟩) (fun k1 k2 b h1 h2 _ _ _ _ => h1.trans h2.symm)
    (fun k' hk' hle' => by subst hk'; simp at hle'; omega) (fun _ k' sz1 es1 hk' hb1 hne => by subst hk'; exact absurd hn hne) (fun k' z hk' hb1 b => by subst hk'; rw [Z1s (by rw [hset, if_pos rfl])] at hb1; cases hb1)
    (fun _ k' z hk' hz hnv => by
     subst hk'
     rw [Z19 (by rw [hset, if_pos rfl])] at hz; cases hz
     exact absurd hn hnv) (fun k' hk' he => by subst hk'; exact h.hr.non _ hn) (fun k' z hk' hz => by
     subst hk'; rw [hset, if_pos rfl] at hz; cases hz; exact fun _ _ e => by cases e)
   exact ⟨this.2.1, .ob (fun i hi => Z48 (y := .mk) hob (by intro e; cases e) _ hi), ⟨this.1, ⟨h.er.env, h.er.nt, h.er.dfs.mono (fun _ _ _ e => e) (fun _ _ e => e) (fun j hj => ⟨Z48 (y := .mk) hob (by intro e; cases e) _ hj, fun _ e => e⟩)⟩, by simpa using h.len⟩⟩
  ·obtain ⟨b, es, k1, k2, k3, k4, k5, k6, k7, k8⟩ := h.hr.obj _ _ hob hn
   have hlt : ∀ (i : Nat) (e : MapEntry), es[i]? = some e -> bs[i]? = some e.born := fun i e he => by rw [<- k4]; simp [he]
   obtain ⟨q1, q2⟩ := Zbc h.hr (y := .mp kn ents) (o := .map es clock) hob k1 k8 (w' := w) (Zkh k2) rfl rfl rfl (fun hb => ⟨b, es, clock, k1, hb, k3, fun i e he => k5 _ (List.mem_of_getElem? (hlt i e he)), fun i j e e' he he' hbb => by
    have h1 := hlt i e he
    have h2 := hlt j e' he'
    rw [<- hbb] at h2
    obtain ⟨hi, g1⟩ := List.getElem?_eq_some_iff.1 h1
    obtain ⟨hj, g2⟩ := List.getElem?_eq_some_iff.1 h2
    exact (List.getElem_inj k6).1 (g1.trans g2.symm), k7, k8⟩)
   exact ⟨F, μ, q2, .ob (fun i hi => Z48 (y := .mk) hob (by intro e; cases e) _ hi), ⟨q1, ⟨h.er.env, h.er.nt, h.er.dfs.mono (fun _ _ _ e => e) (fun _ _ e => e) (fun j hj => ⟨Z48 (y := .mk) hob (by intro e; cases e) _ hj, fun _ e => e⟩)⟩, by simpa using h.len⟩⟩) hh
theorem Zmt (hT : TOK P T) {o : Oper} {K : D -> List Blk -> List AD -> Prop} {X : D -> List Blk -> Prop} {x : Operand} {t kt et : TypeId} {k kn : Nat} {ents : List (List Int × D)} (ho : o.op = .call { callee := .builtin .len, args := #[x], argTypes := #[t] })
  (hu : P.underlying t = some (.map kt et)) (hx : evo s.env x = some (.mv k)) (hk : Z1m s.H k = some (.ob (.mp kn ents))) (h : K (.v (.int .i64 ents.length)) s.H s.dfs) : OpA P r o s K X := by
 refine ⟨fun F μ a w hr he next Q hn _ => ?_⟩;have hxv := he.evo hx;obtain ⟨b, mm, hav, hμ⟩ : ∃ b m, a.eval x = .map (some b) /\ μ k = some (some (b, m)) := by
  generalize a.eval x = v at hxv
  cases hxv with | cl _ _ hc => cases hc | mv _ b m hμ => exact ⟨b, m, rfl, hμ⟩
 obtain ⟨b', es, clock, o1, o2, o3, -⟩ := hr.obj _ _ (Z42 hk) (by rw [hμ]; simp);rw [hμ] at o1; cases o1;have hgo : (getObj b).run P w = .ok (.map es clock) w := by simp [getObj, Sem.run, o2]
 rw [Oper.semAt_eq r a.eval o (fun c e => by rw [ho] at e; cases e)];have hex : (execOp a.eval o).run P w = .ok (.value (.int .i64 ents.length)) w := by
  unfold execOp;rw [ho];have e : Array.map a.eval #[x] = #[a.eval x] := by simp
  simp only [resolve, Sem.run_bind, Sem.run_pure, Result.andThen_ok, invoke, builtin, e, hav];simp [Builtin.len_, run_underlying hu w, hgo, goInt, o3]
 rw [hex, Oper.uponIn_value];exact hn F μ s.H w s.dfs _ _ _ (Stp.refl hr) he.dfs (.cl _ _ (.v _ rfl)) h
theorem Z2g {S : Stop} (hS : S = Zo P r m) {i : Nat} {l : List Nat} {o : Oper} (hoi : ops[i]? = some o) (hd : Z36 s.nt o.dst = true) (hg : o.guard = none)
  (h : OpA P r o s (fun d H' ds => OpsA P r m ops Q l (s.step o.dst d H' ds)) (fun d H' => ∀ e, (∀ t d, Z1c e t = some d -> Z1c s.env t = some d) -> Q (.pan d) { s with env := e, H := H' })) : S.ops ops Q (i :: l) s := by
 subst hS;refine Z3k hoi hd ?_;simp only [Zh, hg];exact h
end
end Go.Abs

namespace Go.Abs
open Go
def Zsd (F : Fz) (μ : Mu) : Option D -> FrameMode -> Prop
 | none, md => md = .returning
 | some d, md => ∃ v, md = .panicking [{ v := v, recovered := false }] /\ VR F μ d v
structure CallD (P : Program) (f : FuncId) (as : List D) (H : List Blk) (u : Option D) (Q : List Blk -> Prop) : Prop where
 fn : ∃ fn, P.funcs[f]? = some fn /\ fn.body.isSome = true /\ (fn.name == "runtime.NumGoroutine") = false
 out : ∀ F μ (vs : Array Value) w md, HR F μ H w -> as.length = vs.size -> (∀ (i : Nat) (d : D) (v : Value), as[i]? = some d -> vs[i]? = some v -> VR F μ d v) -> Zsd F μ u md ->
  CallsDIn (Fc none) 0 P f vs md w fun e u' w' => (∃ v, e = .returned v) /\ settle u' = .returning /\ ∃ F' μ' H', Stp F μ H w F' μ' H' w' /\ Q H'
structure LeaveD (P : Program) (T : TT) (rs : List ResultVar) (Q : RA -> List Blk -> Prop) (u : Option D) (s : St) : Prop where
 out : ∃ g caps as as' ix Hf, s.dfs = [.fn g caps as] /\ renL (rho ix s.H.length) as' = as ++ caps /\ ix.Nodup /\ Z62 (rho ix s.H.length) s.H ix Hf /\ (∀ d, u = some d -> frD d = true) /\
  CallD P g as' Hf u (fun Hf' => Zih ar T { s with H := Z10 s.H ix Hf', dfs := [] } (fun d => Q (.ret d) (Z10 s.H ix Hf')) rs)
def Zxm (P : Program) (T : TT) (rs : List ResultVar) (Q : RA -> List Blk -> Prop) : AX -> St -> Prop
 | .normal, s => LeaveD P T rs Q none s
 | .ret, s => LeaveD P T rs Q none s
 | .pan d, s => LeaveD P T rs Q (some d) s
 | _, _ => False
section
variable {P : Program} {T : TT} {F : Fz} {μ : Mu} {w : World} {r : Option Nat} {m : Nat} {ops : Array Oper} {Q : AX -> St -> Prop} {s : St}
theorem Zaf {o : Oper} {K : D -> List Blk -> List AD -> Prop} {X : D -> List Blk -> Prop} {x : Operand} {t : TypeId} {d : D} (ho : o.op = .panic x) (hx : evo s.env x = some (.ifc t d)) (h : X (.ifc t d) s.H) : OpA P r o s K X := by
 refine ⟨fun F μ a w hr he next Q hn hp => ?_⟩;have hv := he.evo hx;obtain ⟨v, hav, -⟩ := hv.ifc_inv;rw [Oper.semAt_eq r a.eval o (fun c e => by rw [ho] at e; cases e)];have hex : (execOp a.eval o).run P w = .halt (.panic (.iface t v)) w := by
  unfold execOp;rw [ho];simp only [hav, Instr.panic, goPanic, Sem.run_bind];rfl
 rw [hex];show Q (.panic [{ v := .iface t v, recovered := false }]) a w;rw [hav] at hv;exact hp F μ s.H w _ _ (Stp.refl hr) hv h
theorem Zpz {o : Oper} {K : D -> List Blk -> List AD -> Prop} {X : D -> List Blk -> Prop} {c : Call} {fo : Operand} {f : FuncId} {caps as : List D} (ho : o.op = .defer c) (hc : c.callee = .value fo) (hfo : evo s.env fo = some (.fn f caps))
  (has : Z34 (c.args.toList.map (evo s.env)) = some as) (h : K (.tup []) s.H (.fn f caps as :: s.dfs)) : OpA P none o s K X := by
 refine ⟨fun F μ a w hr he next Q hn hp => ?_⟩;have hfv := he.evo hfo;have fnv : ∀ y, VR F μ (.fn f caps) y -> ∃ caps' : Array Value, y = .func (.func f) #[] caps' /\ caps.length = caps'.size /\ ∀ (i : Nat) (c : D) (v : Value), caps[i]? = some c -> caps'[i]? = some v -> VR F μ c v := fun y hfv => by
  cases hfv with
  | cl _ _ hc => cases hc with | fn _ _ vs hl h => exact ⟨vs, rfl, hl, fun i c v h1 h2 => .cl _ _ (h i c v h1 h2)⟩
  | fn _ _ vs hl h => exact ⟨vs, rfl, hl, h⟩
 obtain ⟨caps', hfe, hcl, hcv⟩ := fnv _ hfv;have hav := Zjr he has;have hex : (Oper.semAt none a.eval o).run P w = .ok (.defer { target := .fn (.func f) caps', args := c.args.map a.eval }) w := by
  rw [Oper.semAt_none];unfold execOp;rw [ho];simp only [resolve, hc, hfe, Deferred.ofValue, Sem.run_bind, Sem.run_pure, Result.andThen_ok, Array.empty_append]
 rw [hex, Oper.uponIn_defer];have hlen : as.length = (c.args.map a.eval).size := by have := hav.len; simpa using this
 exact hn F μ s.H w (.fn f caps as :: s.dfs) _ (.tup []) undef (Stp.refl hr) ⟨caps', _, a.defers, rfl, ⟨hcl, hcv⟩, ⟨hlen, fun i d v h1 h2 => hav.get i d v h1 (by simpa [<- Array.getElem?_toList] using h2)⟩, he.dfs⟩ Z5h h
theorem Zki (hT : TOK P T) {f : FuncId} {fn : Func} {c : Code} (hf : P.funcs[f]? = some fn) (hb : fn.body = some c) (hnm : (fn.name == "runtime.NumGoroutine") = false) {as : List D} {H : List Blk} {Q : RA -> List Blk -> Prop} (hnt : Nat.ble as.length fn.ntmps = true)
  (h : WpA P none H.length c (Zxm P T fn.results.toList Q) { env := Zd6 0 as, H := H, nt := fn.ntmps, dfs := [] }) : CallA P f as H Q := by
 refine ⟨⟨fn, hf, by rw [hb]; rfl, hnm⟩, fun F μ vs w hr hl hv => ?_⟩;have hle := Nat.le_of_ble_eq_true hnt;refine callsIn_of_wp_defers hf hb trivial (wpIn_mono (h.out F μ _ w ⟨hr, ⟨fun t d ht => ?_, ?_, rfl⟩, Nat.le_refl _⟩) fun e a' w' hp => ?_)
 ·obtain ⟨-, h2⟩ := Z9h 0 as t d ht;rw [Nat.sub_zero] at h2;have hlt : t < vs.size := by rw [<- hl]; exact (List.getElem?_eq_some_iff.1 h2).1
  refine ⟨vs[t], ?_, hv t d _ h2 (Array.getElem?_eq_getElem hlt)⟩;rw [Array.getElem?_append_left hlt, Array.getElem?_eq_getElem hlt]
 ·simp; omega
 ·obtain ⟨F', μ', s', x, p1, p2, p3, p4, p5⟩ := hp;have hs : Stp F μ H w F' μ' s'.H w' := ⟨p1, p3.hr, p3.len, p2.same, fun k hk => p2.mks k (Z2p hk) hk⟩;have fin : ∀ (u : Option D) (md : FrameMode), LeaveD P T fn.results.toList Q u s' -> md ≠ .run -> (∀ {ix : List Nat}, (∀ d, u = some d -> frD d = true) -> Zsd F' (μ'.ren (rho ix s'.H.length)) u md) ->
    LeavesIn (Fc none) 0 P fn a'.tmps (Zb7 F μ H w Q) a'.defers md w' := fun u md hld hmd hmode => by
   obtain ⟨g, caps, as1, as', ix, Hf, e1, e2, e3, e4, e5, e6⟩ := hld.out;have hds := p3.er.dfs;rw [e1] at hds;obtain ⟨cv, av, ds', d1, ⟨d2, d2'⟩, ⟨d3, d3'⟩, d4⟩ := hds
   replace d4 : ds' = [] := d4
   subst d4;rw [d1];have hlent : Lent s'.H ix Hf := ⟨e3, (Z11 e4).1, (Z11 e4).2, Zab (Z11 e4).1 (Z11 e4).2 p3.hr⟩;obtain ⟨gn, g1, g2, g3⟩ := e6.fn;have hcall := e6.out F' (μ'.ren (rho ix s'.H.length)) (av ++ cv) w' md (Zac hlent p3.hr) (by
     have h1 := congrArg List.length e2
     rw [Zk] at h1
     rw [h1]; simp; omega) (fun i d v hd hv => by
     have h1 : (as1 ++ caps)[i]? = some (renD (rho ix s'.H.length) d) := by rw [<- e2, Z1g, hd]; rfl
     refine Z2x ?_ d rfl
     by_cases hi : i < as1.length
     ·rw [List.getElem?_append_left hi] at h1
      rw [Array.getElem?_append_left (by omega)] at hv
      exact d3' i _ v h1 hv
     ·rw [List.getElem?_append_right (by omega)] at h1
      rw [Array.getElem?_append_right (by omega)] at hv
      refine d2' (i - as1.length) _ v h1 ?_
      rw [<- hv]; congr 1; omega) (hmode e5)
   refine leavesIn_cons (f := g) (args := av ++ cv) hmd (fun h => by cases h) ?_ (fun _ _ => trivial) (hcall.mono fun e u' w'' he => ?_)
   ·show (callFunc g (av ++ cv)).run P w' = _;exact Z8m g1 g2 g3 _ _
   ·obtain ⟨⟨v, rfl⟩, hset, F2, μ2, H2, hstp, hq⟩ := he;show LeavesIn (Fc none) 0 P fn a'.tmps (Zb7 F μ H w Q) [] (settle u') w'';rw [hset];have hst := Z6q hlent p3.hr hstp;obtain ⟨d, v, r1, r2, r3⟩ := Zbi (s := { s' with H := Z10 s'.H ix H2, dfs := [] }) (a := { a' with defers := [] }) hT hst.hr ⟨fun t x ht => let ⟨y, y1, y2⟩ := p3.er.env t x ht; ⟨y, y1, hst.vr p3.hr y2⟩, p3.er.nt, rfl⟩ hq;exact ⟨v, r1, F2, _, _, d, hs.trans hst, r2, r3⟩
  cases e <;> cases x <;> try exact p4.elim
  case normal.normal => exact fin none .returning p5 (by simp) (fun _ => rfl)
  case ret.ret => exact fin none .returning p5 (by simp) (fun _ => rfl)
  case panic.pan ch d =>
   obtain ⟨v, rfl, g2⟩ := p4;exact fin (some d) _ p5 (by simp) (fun hfr => ⟨v, rfl, .cl _ _ (Zgo g2 (hfr d rfl))⟩)
  all_goals exact p5.elim
end
end Go.Abs

namespace Go.Abs
open Go
section
variable {P : Program} {T : TT}
theorem Zmu {F : Fence} {n : Nat} {ops : Array Oper} {Q : Exit -> Act -> List Frame -> World -> Prop} {i : Nat} {rest : List Nat} {a : Act} {cs cs' : List Frame} {w w' : World} {o : Oper} {y : Value} (ho : ops[i]? = some o) (hab : ∀ f, o.about P w a.eval = some f -> F.fn f) (hg : Region.wanted o (yielded ops a.tmps) = true)
  (hr : (execOp a.eval o).run P w = .ok .recover w') (hrec : recoverD cs = some (y, cs') ∨ (recoverD cs = none /\ y = .nilIface /\ cs' = cs)) (h : wpOpsSIn F n P ops Q rest (a.put o.dst y) cs' w') : wpOpsSIn F n P ops Q (i :: rest) a cs w := by
 simp only [wpOpsSIn, ho];refine ⟨hab, ?_⟩;rw [if_pos hg, hr];rcases hrec with g | ⟨g, e1, e2⟩
 ·simp only [g]; exact h
 ·subst e1 e2;simp only [g]; exact h
theorem Zmv {F : Fence} {n : Nat} {ops : Array Oper} {Q : Exit -> Act -> List Frame -> World -> Prop} {i : Nat} {rest : List Nat} {a : Act} {cs : List Frame} {w w' : World} {o : Oper} {v : Value} (ho : ops[i]? = some o) (hab : ∀ f, o.about P w a.eval = some f -> F.fn f) (hg : Region.wanted o (yielded ops a.tmps) = true)
  (hr : (execOp a.eval o).run P w = .ok (.value v) w') (h : wpOpsSIn F n P ops Q rest (a.put o.dst v) cs w') : wpOpsSIn F n P ops Q (i :: rest) a cs w := by
 simp only [wpOpsSIn, ho];refine ⟨hab, ?_⟩;rw [if_pos hg, hr];exact h
def Zuz (Q : List Blk -> Prop) : AX -> St -> Prop
 | .normal, s => s.dfs = [] /\ Q s.H
 | .ret, s => s.dfs = [] /\ Q s.H
 | _, _ => False
theorem Zh5 {g id : Nat} {fn : Func} {o1 o2 : Oper} {rest : Code} {t1 t2 : Nat} (hf : P.funcs[g]? = some fn) (hb : fn.body = some (.seq (.region id #[o1, o2] false) rest)) (hnm : (fn.name == "runtime.NumGoroutine") = false)
  (ho1 : o1.op = .call { callee := .builtin .recover, args := #[], argTypes := #[] }) (hd1 : o1.dst = some t1) (hg1 : o1.guard = none) (ho2 : o2.op = .assign (.tmp t1)) (hd2 : o2.dst = some t2) (hg2 : o2.guard = none) (hres : fn.results = #[])
  {as : List D} {H : List Blk} {u : Option D} {Q : List Blk -> Prop} (hnt : Nat.ble as.length fn.ntmps = true) (h1 : Nat.blt t1 fn.ntmps = true) (h2 : Nat.blt t2 fn.ntmps = true) (x : D) (hx : x = u.getD (.v .nilIface))
  (h : WpA P none H.length rest (Zuz Q) { env := Z9c (Z9c (Zd6 0 as) (some t1) x) (some t2) x, H := H, nt := fn.ntmps, dfs := [] }) : CallD P g as H u Q := by
 refine ⟨⟨fn, hf, by rw [hb]; rfl, hnm⟩, fun F μ vs w md hr hl hv hmd => ?_⟩;have hle := Nat.le_of_ble_eq_true hnt;refine callsDIn_of_wpSIn hf hb trivial fun c₀ cs hu => ?_;have her0 : ER F μ { env := Zd6 0 as, H := H, nt := fn.ntmps, dfs := [] } { tmps := vs ++ Array.replicate (fn.ntmps - vs.size) undef, defers := [] } := by
  refine ⟨fun t d ht => ?_, by simp; omega, rfl⟩;obtain ⟨-, g2⟩ := Z9h 0 as t d ht;rw [Nat.sub_zero] at g2;have hlt : t < vs.size := by rw [<- hl]; exact (List.getElem?_eq_some_iff.1 g2).1
  refine ⟨vs[t], ?_, hv t d _ g2 (Array.getElem?_eq_getElem hlt)⟩;rw [Array.getElem?_append_left hlt, Array.getElem?_eq_getElem hlt]
 generalize ha0 : ({ tmps := vs ++ Array.replicate (fn.ntmps - vs.size) undef, defers := [] } : Act) = a0 at her0 ⊢
 obtain ⟨y, md', hvy, hset, hrec⟩ : ∃ (y : Value) (md' : FrameMode), VR F μ x y /\ settle md' = .returning /\ ((recoverD (c₀ :: cs) = some (y, { c₀ with mode := md' } :: cs)) ∨ (recoverD (c₀ :: cs) = none /\ y = .nilIface /\ md' = c₀.mode)) := by
  cases u with
  | none =>
   have hmd' : md = .returning := hmd;refine ⟨.nilIface, .returning, by subst hx; exact Z3d rfl, rfl, .inr ⟨?_, rfl, by rw [hu, hmd']⟩⟩;simp [recoverD, hu, hmd']
  | some d =>
   obtain ⟨v, e1, e2⟩ := hmd;refine ⟨v, .panicking [{ v := v, recovered := true }], by subst hx; exact e2, rfl, .inl ?_⟩;simp [recoverD, hu, e1]
 have hst : Stp F μ H w F μ H w := Stp.refl hr;have her1 := Zmf (dst := some t1) her0 hr hst hvy (by exact h1) (ds := []) (dv := a0.defers) (by have := her0.dfs; exact this);have her2 := Zmf (dst := some t2) her1 hr hst hvy (by exact h2) (ds := []) (dv := a0.defers) (by have := her0.dfs; exact this);have hlt1 : t1 < a0.tmps.size := by rw [her0.nt]; exact Nat.le_of_ble_eq_true h1
 have hev : (({ a0 with defers := a0.defers } : Act).put (some t1) y).eval (.tmp t1) = y := by
  show ((a0.tmps.setIfInBounds t1 y).getD t1 undef) = y;simp [Array.getD, hlt1]
 refine wpSIn_seq (wpSIn_region ?_);have hrun1 : (execOp a0.eval o1).run P w = .ok .recover w := by
  unfold execOp; rw [ho1]; rfl
 have fin : ∀ a2 : Act, ER F μ { env := Z9c (Z9c (Zd6 0 as) (some t1) x) (some t2) x, H := H, nt := fn.ntmps, dfs := [] } a2 -> rest.wpSIn (Fc none) 0 P (bodyPostS P fn c₀ cs fun e u' w' => (∃ v, e = .returned v) /\ settle u' = .returning /\ ∃ F' μ' H', Stp F μ H w F' μ' H' w' /\ Q H') a2 ({ c₀ with mode := md' } :: cs) w := fun a2 her => by
  refine wpSIn_of_wpIn rfl (wpIn_mono (h.out F μ a2 w ⟨hr, her, Nat.le_refl _⟩) fun e a' w' hp => ?_);obtain ⟨F', μ', s', ax, p1, p2, p3, p4, p5⟩ := hp;have stp : Stp F μ H w F' μ' s'.H w' := ⟨p1, p3.hr, p3.len, p2.same, fun k hk => p2.mks k (Z2p hk) hk⟩;have leave : s'.dfs = [] -> Q s'.H -> a'.defers = [] /\ ∃ u', ({ c₀ with mode := md' } :: cs : List Frame) = { c₀ with mode := u' } :: cs /\ ∃ v, (results fn a'.tmps).run P w' = .ok v w' /\ (∃ v', Ending.returned v = .returned v') /\ settle u' = .returning /\ ∃ F' μ' H', Stp F μ H w F' μ' H' w' /\ Q H' := fun g1 g2 => by
   have hds := p3.er.dfs;rw [g1] at hds;refine ⟨hds, md', rfl, .tuple #[], ?_, ⟨_, rfl⟩, hset, F', μ', s'.H, stp, g2⟩;simp [results, hres]
  cases e <;> cases ax <;> try exact p4.elim
  case normal.normal => exact leave p5.1 p5.2
  case ret.ret => exact leave p5.1 p5.2
  all_goals exact p5.elim
 have hrun2 : ∀ a1 : Act, (execOp a1.eval o2).run P w = .ok (.value (a1.eval (.tmp t1))) w := fun a1 => by
  unfold execOp; rw [ho2]; rfl
 have hw : ∀ (o : Oper) (l : Array Value), o.guard = none -> Region.wanted o (yielded #[o1, o2] l) = true := fun o l hg => by
  unfold Region.wanted; rw [hg]
 have hab : ∀ (o : Oper) (a1 : Act), ∀ f, o.about P w a1.eval = some f -> (Fc none).fn f := fun _ _ _ _ => trivial;refine Zmu (i := 0) (rest := [1]) (o := o1) (y := y) (cs' := { c₀ with mode := md' } :: cs) rfl (hab o1 a0) (hw o1 _ hg1) hrun1 ?_ ?_
 ·rcases hrec with g | ⟨g, e1, e2⟩
  ·exact .inl g
  ·exact .inr ⟨g, e1, by rw [e2]⟩
 refine Zmv (i := 1) (rest := []) (o := o2) rfl (hab o2 _) (hw o2 _ hg2) (hrun2 _) ?_;refine fin _ ?_;rw [hd1, hd2];have : (a0.put (some t1) y).eval (.tmp t1) = y := hev;rw [this];exact her2
end
end Go.Abs

namespace Go.Abs
open Go
section
variable {P : Program} {T : TT} {r : Option Nat} {m : Nat} {ops : Array Oper} {Q : AX -> St -> Prop} {s : St}
def Zoi (ops : Array Oper) (i j : Nat) (L : List Nat) : Bool := allB (fun i' => match ops[i']? with | some o' => Zrw (fun e => Z7a (i :: j :: L) e) (ons o') | none => true) L
theorem Zgd {i j : Nat} {L : List Nat} (h : Zoi ops i j L = true) : ∀ i' ∈ L, ∀ o', ops[i']? = some o' -> ∃ e ∈ ons o', e = i ∨ e = j ∨ e ∈ L := fun i' hi o' ho => by
 have h1 := Z70.1 h i' hi;simp only [ho] at h1;obtain ⟨e, he, h2⟩ := Zfj h1;refine ⟨e, he, ?_⟩;have := (Z3w _ _).1 h2;simpa using this
theorem Z9o (hT : TOK P T) {A : Ar} (hA : A = ar) {Dk : List Nat -> List (Nat × PK) -> St -> Prop} (hD : Dk = DrawA P T r m ops Q) {i j : Nat} {L : List Nat} {pend : List (Nat × PK)} {o o2 : Oper}
  (hoi : ops[i]? = some o) (hoj : ops[j]? = some o2) (hd : Z36 s.nt o.dst = true) (hd2 : Z36 s.nt o2.dst = true) (hlk : Z4s ops o pend = true) (hlk2 : Z4s ops o2 pend = true) (hw : Z2l ops o (Z1j o pend) = true) (hw2 : Z2l ops o2 (Z1j o2 pend) = true)
  (hrd : Zoi ops i j L = true) (hg : o.guard = none) (hg2 : o2.guard = none)
  (h : wA A T (s.only (o.looksAt ops)) (fun d H' => Z7f A T ops (s.step o.dst (d.getD (.tup [])) H' s.dfs) (Z1j o pend) /\ Dk (j :: L) (Z1j o pend) (s.step o.dst (d.getD (.tup [])) H' s.dfs)) o.op)
  (h2 : wA A T (s.only (o2.looksAt ops)) (fun d H' => Z7f A T ops (s.step o2.dst (d.getD (.tup [])) H' s.dfs) (Z1j o2 pend) /\ Dk (i :: L) (Z1j o2 pend) (s.step o2.dst (d.getD (.tup [])) H' s.dfs)) o2.op) : Dk (i :: j :: L) pend s := by
 subst hA; subst hD;have w1 := Z1t hw;have w2 := Z1t hw2;refine .two (K := fun d H' ds => Z7f ar T ops (s.step o.dst d H' ds) (Z1j o pend) /\ DrawA P T r m ops Q (j :: L) (Z1j o pend) (s.step o.dst d H' ds)) (K2 := fun d H' ds => Z7f ar T ops (s.step o2.dst d H' ds) (Z1j o2 pend) /\ DrawA P T r m ops Q (i :: L) (Z1j o2 pend) (s.step o2.dst d H' ds))
  (Z1j o pend) (Z1j o2 pend) hoi hoj hd hd2 (Z23 hlk) (Z23 hlk2) w1 w2 (fun u hu => Zae u hu) (fun u hu => Zae u hu) (Zgd hrd) ?_ ?_
  (fun d H' ds hK u hu hok => Zeh (fun o' t h1 h2 => w1.out u hu o' t h1 h2) hok (Zad hK.1 u hu)) (fun d H' ds hK u hu hok => Zeh (fun o' t h1 h2 => w2.out u hu o' t h1 h2) hok (Zad hK.1 u hu)) (fun d H' ds hK => hK.2) (fun d H' ds hK => hK.2)
 ·simp only [Zh, hg];exact (Zgs (P := P) (r := r) (o := o) (s := s.only (o.looksAt ops)) (K := fun d H' ds => Z7f ar T ops (s.step o.dst d H' ds) (Z1j o pend) /\ DrawA P T r m ops Q (j :: L) (Z1j o pend) (s.step o.dst d H' ds)) (X := fun _ _ => False) hT h).mono (fun d H ds hk => hk) (fun _ _ h => h.elim)
 ·simp only [Zh, hg2];exact (Zgs (P := P) (r := r) (o := o2) (s := s.only (o2.looksAt ops)) (K := fun d H' ds => Z7f ar T ops (s.step o2.dst d H' ds) (Z1j o2 pend) /\ DrawA P T r m ops Q (i :: L) (Z1j o2 pend) (s.step o2.dst d H' ds)) (X := fun _ _ => False) hT h2).mono (fun d H ds hk => hk) (fun _ _ h => h.elim)
end
end Go.Abs
