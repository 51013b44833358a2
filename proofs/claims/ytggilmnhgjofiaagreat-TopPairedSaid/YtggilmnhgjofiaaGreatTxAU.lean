/- Part TxAU of the proofs about the benches of the accordion maker: see the last text of the claim for what is proved. -/
import Derived.Test.YtggilmnhgjofiaaGreatTxAT
set_option linter.unusedVariables false
set_option linter.unusedSimpArgs false
set_option linter.unnecessarySimpa false
set_option linter.constructorNameAsVariable false

namespace Go.Abs
open Go
section
variable {P : Program} {T : TT} {r : Option Nat} {m : Nat} {Q : AX -> St -> Prop} {F : Fz} {μ : Mu} {w : World} {K : St -> Prop} {s : St}
end
end Go.Abs

namespace Go.Abs
open Go
section
variable {P : Program} {T : TT} {r : Option Nat} {m : Nat}
end
end Go.Abs

namespace Go.Abs
open Go
def Z5t : Value := .slice none 0 0
structure GridOk (xs : List Value) (rows : List (List D)) : Prop where
 nil : ∀ j, j < xs.length -> rows.getD j [] = [] -> xs.getD j Z5t = Z5t
 fr : ∀ j, FrL (rows.getD j [])
section
variable {m : Nat} {K : St -> Prop} {E : List (Nat × D)} {b0 b3 b4 : Blk} {nt : Nat}
end
end Go.Abs

namespace Go.Abs
open Go
section
variable {P : Program} {T : TT} {r : Option Nat} {m : Nat} {Q : AX -> St -> Prop} {F : Fz} {μ : Mu} {w : World} {K : St -> Prop} {s : St}
theorem Zog (k : Nat) {x y : Blk} (hk : Z1m s.H k = some x) (e : x = y) (h : GS m K { s with H := s.H.set k y }) : GS m K s := by
 subst e;have e1 : s.H.set k x = s.H := List.ext_getElem? fun i => by
  rw [List.getElem?_set]
  split
  ·rename_i e; subst e
   split
   ·exact (((Z1u s.H k).symm.trans hk)).symm
   ·rw [List.getElem?_eq_none (by omega)]
  ·rfl
 rw [e1] at h;exact h
theorem Z11y {l : List (Nat × D)} {t : Nat} {d : D} : ∀ (n : Nat) (x : D), Z1c (Z6j l t d) n = some x -> (n = t /\ x = d) ∨ Z1c l n = some x := fun n x h => by
 rw [Z5n] at h
 by_cases e : t = n
 ·rw [if_pos e] at h; cases h; exact .inl ⟨e.symm, rfl⟩
 ·rw [if_neg e] at h; exact .inr h
theorem Z11p (kg k' j t : Nat) {isz n0 : Nat} {row : List D} {ents : List Ent} (hn0 : n0 = row.length) (hg : Z1m s.H kg = some (.ob (.gr isz ents))) (hk' : Z1m s.H k' = some (.els isz row)) (ht : Z1c s.env t = some (.o k' isz n0))
  (hj : j <= ents.length) (hjo : ∀ e row', ents[j]? ≠ some (e, some row')) (hr0 : 0 < row.length)
  (h : ∀ x : Value, x.oneCell' = true -> GS m K { s with env := Z6j s.env t (.v x), H := (s.H.set k' .dead).set kg (.ob (.gr isz (Zfl ents j (x, some row)))) }) : GS m K s := ⟨fun F μ act w h1 => by
 subst hn0
 have hr := h1.hr
 have bk' := Z5f hk'
 have bg : Z13 s.H kg = some (.gr isz ents) := by rw [Z1u] at hg; rw [Z19 hg]; rfl
 have lk' := Z7k bk'; have lg := Z2p bg
 have ne3 : kg ≠ k' := by rintro rfl; rw [Z6w bg] at bk'; cases bk'
 have hfr : FrL row := hr.fr k' _ (by rw [<- Z1u]; exact hk') _ _ rfl
 obtain ⟨o1, loc, o2, o3⟩ := hr.obj kg _ bg trivial
 obtain ⟨x, x1, x3⟩ := h1.er.env t _ ht
 obtain ⟨b0, m0, cap, q1, q2, q3, rfl⟩ : ∃ b0 m0 cap, μ k' = some (some (b0, m0)) /\ row.length <= cap /\ cap * isz <= m0 /\ x = .slice (some ⟨b0, 0, none⟩) row.length cap := by
  generalize hn : row.length = n at x3
  cases x3 with
  | cl _ _ hc => cases hc
  | o _ _ _ b0 m0 cap g1 g2 g3 => exact ⟨b0, m0, cap, g1, by omega, g3, rfl⟩
  | oNil => omega
 rcases hr.row k' isz row bk' (by rw [q1]; simp) with ⟨e0, -⟩ | ⟨b1, m1, c1, t1, f1, f2, f3, f4, f5⟩
 ·rw [q1] at e0; cases e0
 rw [q1] at f1; cases f1
 let μ' : Mu := ⟨μ.loc, fun a b => if a = kg then μ.inn kg b ∨ b = b0 else μ.inn a b⟩
 let H' : List Blk := (s.H.set k' .dead).set kg (.ob (.gr isz (Zfl ents j (.slice (some ⟨b0, 0, none⟩) row.length cap, some row))))
 have hget : ∀ a, H'[a]? = if a = kg then some (.ob (.gr isz (Zfl ents j (.slice (some ⟨b0, 0, none⟩) row.length cap, some row)))) else if a = k' then some .dead else s.H[a]? := fun a => by
  simp only [H', List.getElem?_set, List.length_set]
  by_cases a2 : a = kg
  ·subst a2; simp [lg]
  ·have a2' : ¬ kg = a := fun e => a2 e.symm
   by_cases a3 : a = k'
   ·subst a3; simp [a2, a2', lk']
   ·have a3' : ¬ k' = a := fun e => a3 e.symm
    simp only [if_neg a2, if_neg a2', if_neg a3, if_neg a3']
 have gg := hget kg; rw [if_pos rfl] at gg
 have gd := hget k'; rw [if_neg (Ne.symm ne3), if_pos rfl] at gd
 have hlv : Z20 H' k' = false := by rw [Z6x gd]; rfl
 have hown : ∀ a, μ.inn kg a -> a ≠ b0 := fun a ha e => by
  subst e
  exact ne3 (hr.inj kg k' a (Z2j bg) (Z15 bk') (.inr ha) (.inl ⟨_, q1⟩))
 have eC : ∀ a, ¬ (a = kg ∨ a = k') -> a ≠ kg /\ a ≠ k' := fun a h => ⟨fun e => h (.inl e), fun e => h (.inr e)⟩
 have upm : ∀ a y, μ a = some y -> μ' a = some y := fun _ _ e => e
 have r : HR F μ' H' w /\ Post F μ s.H w F μ' H' w /\ ∀ j y, μ j = some y -> μ' j = some y := by
  refine Z5e (μ' := μ') (w' := w) (H' := H') (fun a => a = kg ∨ a = k') hr (by simp [H']) (fun a ha => by
   obtain ⟨n2, n3⟩ := eC a ha
   rw [hget, if_neg n2, if_neg n3]) (fun _ _ => rfl) (fun a b ha => by
   obtain ⟨n2, -⟩ := eC a ha
   show (if a = kg then _ else _) ↔ _
   rw [if_neg n2]) (fun _ _ _ e => e) (Nat.le_refl _) rfl rfl rfl (fun _ _ _ => rfl) (fun a b ha hl hft => ?_) (fun a a' b ha ha' hl hl' h4 h5 => ?_) (fun a ha hle => ?_) (fun _ a sz1 es1 ha hb1 hne => ?_) (fun a y ha hb1 b => ?_) (fun hmono a y ha hy _ => ?_) (fun a ha he b => ?_) (fun a y ha hy => ?_)
  ·rcases ha with rfl | rfl
   ·rcases hft with hm | hi
    ·exact .inl ⟨a, .inl rfl, Z2j bg, .inl hm⟩
    ·change (if a = a then _ else _) at hi
     rw [if_pos rfl] at hi
     rcases hi with hi | rfl
     ·exact .inl ⟨a, .inl rfl, Z2j bg, .inr hi⟩
     ·exact .inl ⟨k', .inr rfl, Z15 bk', .inl ⟨_, q1⟩⟩
   ·rw [hlv] at hl; cases hl
  ·rcases ha with rfl | rfl
   ·rcases ha' with rfl | rfl
    ·rfl
    ·rw [hlv] at hl'; cases hl'
   ·rw [hlv] at hl; cases hl
  ·simp [H'] at hle
   rcases ha with rfl | rfl <;> omega
  ·rcases ha with rfl | rfl
   ·rw [Z1s gg] at hb1; cases hb1
   ·rw [Z1s gd] at hb1; cases hb1
  ·rcases ha with rfl | rfl
   ·rw [Z1s gg] at hb1; cases hb1
   ·rw [Z1s gd] at hb1; cases hb1
  ·rcases ha with rfl | rfl
   ·rw [Z19 gg] at hy; cases hy
    refine ⟨o1, fun n => if n = j then b0 else loc n, fun n e row1 he => ?_, fun n n' e e' row1 row2 he he' hh => ?_⟩
    ·rw [Zd8 _ hj] at he
     split at he
     ·rename_i en
      cases he
      refine ⟨c1, t1, cap, by simp only [if_pos en], q2, by rw [f3]; exact q3, by simp only [if_pos en]; exact f2, f5.mono (fun _ _ _ e => e) upm, hfr, ?_⟩
      show (if a = a then _ else _)
      rw [if_pos rfl]; exact .inr (by simp only [if_pos en])
     ·rename_i en
      obtain ⟨c2, t2, cap2, g1, g2, g3, g4, g5, g6, g7⟩ := o2 n e row1 he
      refine ⟨c2, t2, cap2, by simp only [if_neg en]; exact g1, g2, g3, by simp only [if_neg en]; exact g4, g5.mono (fun _ _ _ e => e) upm, g6, ?_⟩
      show (if a = a then _ else _)
      rw [if_pos rfl]; simp only [if_neg en]; exact .inl g7
    ·rw [Zd8 _ hj] at he he'
     by_cases n1 : n = j <;> by_cases n2 : n' = j
     ·omega
     ·exfalso
      rw [if_neg n2] at he'
      simp only [if_pos n1, if_neg n2] at hh
      obtain ⟨_, _, _, _, _, _, _, _, _, g7⟩ := o2 n' _ _ he'
      exact hown _ g7 hh.symm
     ·exfalso
      rw [if_neg n1] at he
      simp only [if_neg n1, if_pos n2] at hh
      obtain ⟨_, _, _, _, _, _, _, _, _, g7⟩ := o2 n _ _ he
      exact hown _ g7 hh
     ·rw [if_neg n1] at he; rw [if_neg n2] at he'
      simp only [if_neg n1, if_neg n2] at hh
      exact o3 n n' _ _ _ _ he he' hh
   ·rw [Z19 gd] at hy; cases hy
  ·rcases ha with rfl | rfl
   ·change μ a = none at he; rw [o1] at he; cases he
   ·change μ a = none at he; rw [q1] at he; cases he
  ·rcases ha with rfl | rfl
   ·rw [gg] at hy; cases hy; exact fun _ _ e => by cases e
   ·rw [gd] at hy; cases hy; exact fun _ _ e => by cases e
 obtain ⟨r1, r2, r3⟩ := r
 have hob : ∀ a, Z13 s.H a = some .mk -> Z13 H' a = some .mk /\ ∀ b, μ.inn a b -> μ'.inn a b := fun a ha => by
  have n2 : a ≠ kg := by rintro rfl; rw [ha] at bg; cases bg
  have n3 : a ≠ k' := by rintro rfl; rw [Z6w ha] at bk'; cases bk'
  refine ⟨?_, fun b hb => ?_⟩
  ·unfold Z13 at ha ⊢; rw [hget, if_neg n2, if_neg n3]; exact ha
  ·show (if a = kg then _ else _)
   rw [if_neg n2]; exact hb
 have rl : RL m F μ' { s with env := Z6j s.env t (.v (.slice (some ⟨b0, 0, none⟩) row.length cap)), H := H' } act w := ⟨r1, ⟨fun n d hd => by
   rcases Z11y n d hd with ⟨rfl, rfl⟩ | hd
   ·exact ⟨_, x1, .cl _ _ (.v _ rfl)⟩
   ·obtain ⟨v, v1, v2⟩ := h1.er.env n d hd
    exact ⟨v, v1, v2.mono (fun _ _ _ e => e) r3⟩, h1.er.nt, h1.er.dfs.mono (fun _ _ _ e => e) r3 (fun a ha => hob a ha)⟩, by simpa [H'] using h1.len⟩
 obtain ⟨F2, μ2, s2, k1, k2, k3, k4, k5⟩ := (h _ rfl).out F μ' act w rl
 exact ⟨F2, μ2, s2, r2.trans k1, Kp.trans (H := s.H) (H' := H') (μ := μ) (μ' := μ') ⟨fun _ _ => rfl, fun a _ ha => hob a ha⟩ k2, k3, fun d v hd hv => k4 d v hd (hv.mono (fun _ _ _ e => e) r3), k5⟩⟩
end
end Go.Abs

namespace Go.Abs
open Go
section
variable {P : Program} {T : TT} {r : Option Nat} {m : Nat} {Q : AX -> St -> Prop} {K : D -> List Blk -> List AD -> Prop} {X : D -> List Blk -> Prop} {s : St} {o : Oper}
end
section
variable {P : Program} {F : Fz} {μ : Mu} {w : World} {m : Nat} {K : St -> Prop} {s : St}
end
end Go.Abs
