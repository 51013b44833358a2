/- Part TxAM of the proofs about the benches of the accordion maker: see the last text of the claim for what is proved. -/
import Derived.Test.YthljpccegkmdnaaGreatDoorTxAL
set_option linter.unusedVariables false
set_option linter.unusedSimpArgs false
set_option linter.unnecessarySimpa false
set_option linter.constructorNameAsVariable false

namespace Go.Abs
open Go
section
variable {P : Program} {T : TT} {r : Option Nat} {m : Nat} {F : Fz} {μ : Mu} {w : World} {H : List Blk} {d : D} {K : D -> List Blk -> Prop}
end
end Go.Abs

namespace Go.Abs
open Go
section
variable {P : Program} {T : TT} {r : Option Nat} {m : Nat} {Q : AX -> St -> Prop} {F : Fz} {μ : Mu} {w : World} {K : St -> Prop} {s : St}
theorem Zsb {a : Act} {k i f sz isz : Nat} {es : List D} {d d' : D} (hk : Z1m s.H k = some (.elo sz es)) (hi : es[i]? = some d) (hf : d.cells[f]? = some (.v (.slice none 0 0))) (hd : d'.cells = d.cells.set f (.o s.H.length isz 0)) (h : RL m F μ s a w) :
  ∃ μ', RL m F μ' { s with H := s.H.set k (.elo sz (es.set i d')) ++ [.els isz []] } a w /\ Post F μ s.H w F μ' (s.H.set k (.elo sz (es.set i d')) ++ [.els isz []]) w /\ Kp m μ s.H μ' (s.H.set k (.elo sz (es.set i d')) ++ [.els isz []]) := by
 obtain ⟨q1, q2, q3⟩ := Zc5 h.hr (sz := isz) (h.hr.dom _ (Nat.le_refl _)) (Nat.le_refl _);rw [Z6y] at q1 q2;have hkl : k < s.H.length := by rw [Z1u] at hk; exact (List.getElem?_eq_some_iff.1 hk).1
 have hk' : Z1m (s.H ++ [Blk.els isz []]) k = some (.elo sz es) := Z5i hk;have hb := Z8e hk';obtain ⟨X, hX⟩ : ∃ X, X = Blk.elo sz (es.set i d') := ⟨_, rfl⟩;have hset : ∀ j, ((s.H ++ [Blk.els isz []]).set k X)[j]? = if j = k then some X else (s.H ++ [Blk.els isz []])[j]? := fun j => by
  have := Z2m (H := s.H ++ [Blk.els isz []]) X (k := k) (by simp; omega) j
  rwa [Z4l, if_pos (by simp; omega)] at this
 have hlen : d'.cells.length = d.cells.length := by rw [hd]; simp
 obtain ⟨r1, r2, -⟩ := Z5e (μ' := Z4v μ s.H.length none) (w' := w) (H' := (s.H ++ [Blk.els isz []]).set k X) (fun j => j = k) q1 (by simp) (fun j hj => by rw [hset, if_neg hj]) (fun j _ => rfl) (fun j b _ => Iff.rfl) (fun _ _ _ h => h) (Nat.le_refl _) rfl rfl rfl
  (fun b' hb' hn => rfl) (fun k' b' hk' _ hf => .inl ⟨k, rfl, Z15 hb, by subst hk'; exact hf⟩) (fun k1 k2 b h1 h2 _ _ _ _ => h1.trans h2.symm)
  (fun k' hk' hle' => by subst hk'; simp at hle'; omega) (fun _ k' sz1 es1 hk' hb1 hne => by
   subst hk'
   rw [Z1s (x := X) (by rw [hset, if_pos rfl]), hX] at hb1
   simp only [Blk.es, Option.some.injEq, Prod.mk.injEq] at hb1
   obtain ⟨rfl, rfl⟩ := hb1
   rcases q1.row k' _ _ hb hne with ⟨e1, e2⟩ | ⟨b, m, c, t, e1, e2, e3, e4, e5⟩
   ·subst e2; simp at hi
   ·refine .inr ⟨b, m, c, t, e1, e2, e3, by simpa using e4, fun j e he => ?_⟩
    rw [List.getElem?_set] at he
    split at he
    ·rename_i e0; subst e0
     split at he
     ·cases he
      obtain ⟨z1, z2⟩ := e5 i _ hi
      refine ⟨by rw [hlen]; exact z1, fun r x hx => ?_⟩
      rw [hd, List.getElem?_set] at hx
      split at hx
      ·rename_i e0; subst e0
       split at hx
       ·cases hx
        obtain ⟨v, v1, v2, v3⟩ := z2 f _ hf
        refine ⟨v, v1, v2, ?_⟩
        rw [v3.v_inv]; exact .oNil _ _ none (Z6h _ _ _)
       ·cases hx
      ·exact z2 r _ hx
     ·cases he
    ·exact e5 j e he) (fun k' y hk' _ b => by subst hk'; exact q1.plain k' _ hb b) (fun _ k' y hk' hy _ => by subst hk'; rw [Z19 (x := X) (by rw [hset, if_pos rfl]), hX] at hy; cases hy) (fun k' hk' he => by subst hk'; exact q1.non _ he) (fun k' y hk' hy => by
   subst hk'; rw [hset, if_pos rfl, hX] at hy; cases hy; exact fun _ _ e => by cases e)
 have hs : (s.H ++ [Blk.els isz []]).set k X = s.H.set k X ++ [.els isz []] := by rw [List.set_append_left _ _ hkl]
 have hob : ∀ j y, Z13 s.H j = some y -> Z13 ((s.H ++ [Blk.els isz []]).set k X) j = some y := fun j y hj => Z95 _ hb (Z41 _ hj);rw [hs] at r1 r2 hob;subst hX;refine ⟨_, ⟨r1, ⟨fun n x hn => ?_, h.er.nt, h.er.dfs.mono (fun _ _ _ e => e) q3 (fun j hj => ⟨hob j _ hj, fun _ e => e⟩)⟩, by have := h.len; simp; omega⟩, q2.trans r2, ⟨fun i hi => by rw [Z2k _ (by have := h.len; omega)], fun i _ hk => ⟨hob i _ hk, fun _ e => e⟩⟩⟩;obtain ⟨v, h1, h2⟩ := h.er.env n x hn;exact ⟨v, h1, h2.mono (fun _ _ _ e => e) q3⟩
theorem Zkf (k i f : Nat) {sz : Nat} (isz : Nat) {es : List D} {d : D} (d' : D) (hk : Z1m s.H k = some (.elo sz es)) (hi : es[i]? = some d) (hf : d.cells[f]? = some (.v (.slice none 0 0))) (hd : d'.cells = d.cells.set f (.o s.H.length isz 0))
  (h : GS m K { s with H := s.H.set k (.elo sz (es.set i d')) ++ [.els isz []] }) : GS m K s :=
 Z4i (fun F μ act w h1 => let ⟨μ', g1, g2, g3⟩ := Zsb hk hi hf hd h1; ⟨F, μ', g2, g3, g1⟩) h
end
end Go.Abs

namespace Go.Abs
open Go
section
variable {P : Program} {T : TT} {r : Option Nat} {m : Nat}
theorem bm2 {S : Stop} {α : Type} {b : Bool} {X Y : Prop} {c : Code} {Q : AX -> St -> Prop} (mk : α -> St) (Pr : α -> Prop) (h1 : (∀ x, Pr x -> S.code c Q (mk x)) -> b = true -> X) (h2 : (∀ x, Pr x -> S.code c Q (mk x)) -> b = false -> Y) (rest : ∀ x, Pr x -> S.code c Q (mk x)) :
  (match (generalizing := false) b with | true => X | false => Y) := by
 cases b
 ·exact h2 rest rfl
 ·exact h1 rest rfl
theorem Zof {S : Stop} (hS : S = Zo P r m) {α : Type} {Pr : α -> Prop} {mk : α -> St} {c : Code} {Q : AX -> St -> Prop} {s : St} (rest : ∀ x, Pr x -> S.code c Q (mk x)) (x : α) (hx : Pr x) (h : GS m (fun s' => s' = mk x) s) : S.code c Q s :=
 Z3h hS (Zei h fun s' e => by rw [e]; exact rest x hx)
theorem Z39 {K : St -> Prop} {s : St} (k : Nat) {sz : Nat} {es es' : List D} (hk : Z1m s.H k = some (.els sz es)) (e : es = es') (h : GS m K { s with H := s.H.set k (.els sz es') }) : GS m K s := by
 subst e;have e1 : s.H.set k (.els sz es) = s.H := List.ext_getElem? fun i => by
  rw [List.getElem?_set]
  split
  ·rename_i e; subst e
   split
   ·exact (((Z1u s.H k).symm.trans hk)).symm
   ·rw [List.getElem?_eq_none (by omega)]
  ·rfl
 rw [e1] at h;exact h
end
end Go.Abs

namespace Go.Abs
open Go
def Z5t : Value := .slice none 0 0
structure GridOk (xs : List Value) (rows : List (List D)) : Prop where
 nil : ∀ j, j < xs.length -> rows.getD j [] = [] -> xs.getD j Z5t = Z5t
 fr : ∀ j, FrL (rows.getD j [])
section
variable {m : Nat} {K : St -> Prop} {E : List (Nat × D)} {b0 b3 b4 : Blk} {nt : Nat}
end
end Go.Abs

namespace Go.Abs
open Go
section
variable {P : Program} {T : TT} {r : Option Nat} {m : Nat} {Q : AX -> St -> Prop} {F : Fz} {μ : Mu} {w : World} {K : St -> Prop} {s : St}
theorem Zog (k : Nat) {x y : Blk} (hk : Z1m s.H k = some x) (e : x = y) (h : GS m K { s with H := s.H.set k y }) : GS m K s := by
 subst e;have e1 : s.H.set k x = s.H := List.ext_getElem? fun i => by
  rw [List.getElem?_set]
  split
  ·rename_i e; subst e
   split
   ·exact (((Z1u s.H k).symm.trans hk)).symm
   ·rw [List.getElem?_eq_none (by omega)]
  ·rfl
 rw [e1] at h;exact h
end
end Go.Abs

namespace Go.Abs
open Go
section
variable {P : Program} {T : TT} {r : Option Nat} {m : Nat} {ops : Array Oper} {Q : AX -> St -> Prop} {s : St}
end
end Go.Abs
