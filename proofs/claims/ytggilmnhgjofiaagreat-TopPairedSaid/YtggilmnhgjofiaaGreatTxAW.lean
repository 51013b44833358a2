/- Part TxAW of the proofs about the benches of the accordion maker: see the last text of the claim for what is proved. -/
import Derived.Test.YtggilmnhgjofiaaGreatTxAN
import Derived.Test.YtggilmnhgjofiaaGreatTxAT
import Derived.Test.YtggilmnhgjofiaaGreatTxAV
set_option linter.unusedVariables false
set_option linter.unusedSimpArgs false
set_option linter.unnecessarySimpa false
set_option linter.constructorNameAsVariable false

namespace Go.Abs
open Go Go.Conc
section
variable {P : Program} {T : TT} {r : Option Nat} {m : Nat} {Q : AX -> St -> Prop} {s : St}
theorem Z1xx {c : Code} {Q Q' : Exit -> Act -> World -> Prop} (hq : ∀ e a w, Q e a w -> Q' e a w) : ∀ (n : Nat) (a : Act) (w : World), Z1xc r P c Q n a w -> Z1xc r P c Q' n a w
 | 0, _, _, h => h
 | n + 1, a, w, h => Z1us h fun e a w hx => by
  cases e with
  | normal => exact Z1xx hq n a w hx
  | _ => exact hq _ _ _ hx
def Z1x3 (P : Program) (r : Option Nat) (m : Nat) (c : Code) (Q : AX -> St -> Prop) : Nat -> St -> Prop
 | 0, _ => False
 | n + 1, s => WpA P r m c (Zb1 (Z1x3 P r m c Q n) Q) s
theorem Z1xy {c : Code} : ∀ (n : Nat) (s : St), Z1x3 P r m c Q n s -> ∀ F μ a w, RL m F μ s a w -> Z1xc r P c (Z4f F μ s.H w m Q) n a w
 | 0, _, h, _, _, _, _, _ => h
 | n + 1, s, h, F, μ, a, w, h1 => Z1us (h.out F μ a w h1) fun e a' w' hx => by
  obtain ⟨F', μ', s', x, p1, p2, p3, p4, p5⟩ := hx
  cases e with
  | normal =>
   cases x <;> try exact p4.elim
   exact Z1xx (fun e a w hq => hq.trans p1 p2) n a' w' (Z1xy n s' p5 F' μ' a' w' p3)
  | exit id => exact ⟨F', μ', s', x, p1, p2, p3, p4, by cases x <;> first | exact p5 | exact p4.elim⟩
  | ret => exact ⟨F', μ', s', x, p1, p2, p3, p4, by cases x <;> first | exact p5 | exact p4.elim⟩
  | goto l => exact ⟨F', μ', s', x, p1, p2, p3, p4, by cases x <;> first | exact p5 | exact p4.elim⟩
  | panic ch => exact ⟨F', μ', s', x, p1, p2, p3, p4, by cases x <;> first | exact p5 | exact p4.elim⟩
  | outgrown => exact (by cases x <;> exact p4.elim)
theorem Z1z4 {c : Code} (n : Nat) (h : Z1x3 P r m c Q n s) : WpA P r m (.loop c) Q s := ⟨fun F μ a w h1 => Z1yn n (Z1xy n s h F μ a w h1)⟩
theorem Z1uo (hT : TOK P T) {S : Stop} (hS : S = Zo P r m) {c : Code} (n : Nat) (h : ∀ L : St -> Prop, L = Z1x3 P r m c Q n -> vcC ar T S c (Zb1 L Q) s) : S.code (.loop c) Q s := by
 subst hS;exact Z1z4 (n + 1) (Z4a hT c _ s (h _ rfl))
theorem Z1ut (hT : TOK P T) {S : Stop} (hS : S = Zo P r m) {c : Code} {n : Nat} {L : St -> Prop} (hL : L = Z1x3 P r m c Q (n + 1)) (h : ∀ L : St -> Prop, L = Z1x3 P r m c Q n -> vcC ar T S c (Zb1 L Q) s) : L s := by
 subst hS hL;exact Z4a hT c _ s (h _ rfl)
end
end Go.Abs

namespace Go.Abs
open Go Go.Conc
section
variable {P : Program} {T : TT} {r : Option Nat} {m : Nat} {Q : AX -> St -> Prop} {K : D -> List Blk -> List AD -> Prop} {X : D -> List Blk -> Prop} {s : St} {o : Oper}
theorem Z1ww (hT : TOK P T) {t el n : Nat} {x y : Operand} {e e2 : TE} {cs : List D} {k : IntKind} {j : Int} (ho : o.op = .index t x y) (hx : evo s.env x = some (.agg cs)) (hy : evo s.env y = some (.v (.int k j)))
  (he : Z1d T t = some e) (hel : e.el = some (some n, el)) (he2 : Z1d T el = some e2) (hag : e2.agg = true) (hj : 0 <= j /\ j < n) (ds : List D) (hds : ds = (cs.drop (j.toNat * e2.size)).take e2.size)
  (h : K (.agg ds) s.H s.dfs) : OpA P r o s K X := by
 refine ⟨fun F μ a w hr her next Q hn _ => ?_⟩;have hxv := her.evo hx;have hyv := (her.evo hy).v_inv;obtain ⟨vs, hvs, hl, hv, hone⟩ := hxv.agg_inv;have hs := Z6i (w := w) hT he2;have ha := Zc2 (w := w) hT he2;rw [hag] at ha;have hrun : (o.semAt r a.eval).run P w = .ok (.value (.agg (vs.extract (j.toNat * e2.size) (j.toNat * e2.size + e2.size)))) w := by
  rw [Oper.semAt_eq r a.eval o (fun c e => by rw [ho] at e; cases e)];unfold execOp;rw [ho];unfold Instr.index;simp [hvs, hyv, asIntOf, run_underlying (Zev hT he hel) w, hj.1, hj.2, hs, part, ha]
 refine ⟨Z1ve (fun c => by rw [ho]; simp) (by rw [ho]; rfl), ?_⟩;rw [hrun, Z1uq];have hlen : ∀ i : Nat, (vs.extract (j.toNat * e2.size) (j.toNat * e2.size + e2.size))[i]? = if i < e2.size then vs[j.toNat * e2.size + i]? else none := fun i => by
  rw [Array.getElem?_extract]
  by_cases h1 : i < e2.size
  ·rw [if_pos h1]
   by_cases h2 : j.toNat * e2.size + i < vs.size
   ·rw [if_pos (by omega)]
   ·rw [if_neg (by omega), Array.getElem?_eq_none (by omega)]
  ·rw [if_neg h1, if_neg (by omega)]
 have hdl : ∀ i : Nat, ds[i]? = if i < e2.size then cs[j.toNat * e2.size + i]? else none := fun i => by
  rw [hds, List.getElem?_take]
  split
  ·rw [List.getElem?_drop]
  ·rfl
 refine hn F μ s.H w s.dfs _ _ _ (Stp.refl hr) her.dfs (.agg _ _ ?_ (fun i c v h1 h2 => ?_) (fun i v h2 => ?_)) h
 ·rw [hds, Array.size_extract, List.length_take, List.length_drop, hl]; omega
 ·rw [hdl] at h1; rw [hlen] at h2
  split at h1
  ·rename_i hi
   rw [if_pos hi] at h2;exact hv _ _ _ h1 h2
  ·cases h1
 ·rw [hlen] at h2
  split at h2
  ·exact hone _ _ h2
  ·cases h2
theorem Z1xz (hT : TOK P T) {A : Ar} (hA : A = ar) {S : Stop} (hS : S = Zo P r m) (sp : List Nat) {c : Code} (n : Nat) (h : ∀ L : St -> Prop, L = Z1x3 P r m c Q n -> vcF A T S sp c (Zb1 L Q) s) : S.code (.loop c) Q s := by
 subst hS hA;exact Z1z4 (n + 1) (Z5r hT c _ s (h _ rfl))
theorem Z1x7 (hT : TOK P T) {A : Ar} (hA : A = ar) {S : Stop} (hS : S = Zo P r m) (sp : List Nat) {c : Code} {n : Nat} {L : St -> Prop} (hL : L = Z1x3 P r m c Q (n + 1)) (h : ∀ L : St -> Prop, L = Z1x3 P r m c Q n -> vcF A T S sp c (Zb1 L Q) s) : L s := by
 subst hS hL hA;exact Z5r hT c _ s (h _ rfl)
end
end Go.Abs

namespace Go.Abs
open Go Go.Conc
section
variable {P : Program} {T : TT} {F : Fz} {μ : Mu} {r : Option Nat} {m : Nat} {Q : AX -> St -> Prop} {K : D -> List Blk -> List AD -> Prop} {X : D -> List Blk -> Prop} {s : St} {o : Oper}
theorem Z23e {l : List Value} {v : Value} (h : VR F μ (.agg (l.map D.v)) v) : v = .agg l.toArray := by
 obtain ⟨vs, rfl, hl, hv, -⟩ := h.agg_inv
 congr 1
 apply Array.ext_getElem?
 intro i;simp at hl;rcases Nat.lt_or_ge i l.length with hi | hi
 ·have h1 : (l.map D.v)[i]? = some (.v l[i]) := by simp [hi]
  have h2 : vs[i]? = some vs[i] := Array.getElem?_eq_getElem (by omega);have := (hv i _ _ h1 h2).v_inv;rw [h2]; simp [hi, this]
 ·rw [Array.getElem?_eq_none (by omega)]; simp [hi]
theorem Z26w {l : List Value} (h : ∀ v ∈ l, v.oneCell' = true) : VR F μ (.agg (l.map D.v)) (.agg l.toArray) := .agg _ _ (by simp) (fun i c v h1 h2 => by
 simp only [List.getElem?_map, Option.map_eq_some_iff] at h1
 obtain ⟨x, hx, rfl⟩ := h1
 simp only [List.getElem?_toArray] at h2
 rw [hx] at h2; cases h2
 exact .cl _ _ (.v _ (h _ (List.mem_of_getElem? hx)))) (fun i v h2 => h _ (List.mem_of_getElem? (by simpa using h2)))
theorem Z1xk {f : FuncId} {x : Operand} (l : List Value) (ho : o.op = .makeFunc (.func f) #[x] #[]) (hx : evo s.env x = some (.agg (l.map D.v))) (h : K (.v (.func (.func f) #[.agg l.toArray] #[])) s.H s.dfs) : OpA P r o s K X := by
 refine ⟨fun F μ a w hr her next Q hn _ => ?_⟩;have hv := Z23e (her.evo hx);refine ⟨Z1ve (fun c => by rw [ho]; simp) (by rw [ho]; rfl), ?_⟩;have hrun : (o.semAt r a.eval).run P w = .ok (.value (.func (.func f) #[.agg l.toArray] #[])) w := by
  rw [Oper.semAt_eq r a.eval o (fun c e => by rw [ho] at e; cases e)];unfold execOp;rw [ho];simp [Instr.makeFunc, hv]
 rw [hrun, Z1uq];exact hn F μ s.H w s.dfs _ _ _ (Stp.refl hr) her.dfs (.cl _ _ (.v _ rfl)) h
theorem Z202 {c : Call} {fo : Operand} {f : FuncId} {as0 as' : List D} (l : List Value) (hone : ∀ v ∈ l, v.oneCell' = true) {ix : List Nat} {Hf : List Blk}
  (ho : o.op = .call c) (hc : c.callee = .value fo) (hfo : evo s.env fo = some (.v (.func (.func f) #[.agg l.toArray] #[]))) (has : Z34 (c.args.toList.map (evo s.env)) = some as0) (hren : renL (rho ix s.H.length) as' = .agg (l.map D.v) :: as0)
  (hnd : ix.Nodup) (hl : Z62 (rho ix s.H.length) s.H ix Hf)
  (h : CallA P f as' Hf (fun x Hf' => match x with | .ret d => K (renD (rho ix s.H.length) d) (Z10 s.H ix Hf') s.dfs | .pan _ => False)) : OpA P r o s K X := by
 refine ⟨fun F μ a w hr he next Q hn hp => ?_⟩;have hlent : Lent s.H ix Hf := ⟨hnd, (Z11 hl).1, (Z11 hl).2, Zab (Z11 hl).1 (Z11 hl).2 hr⟩;obtain ⟨fn, hf, hb, hnm⟩ := h.fn;have hfe := (he.evo hfo).v_inv;have hav := Zjr he has;have hrun : (o.semAt r a.eval).run P w = .ok (.enter f (#[.agg l.toArray] ++ c.args.map a.eval ++ #[])) w := by
  rw [Oper.semAt_eq r a.eval o (fun c e => by rw [ho] at e; cases e)];unfold execOp;rw [ho];simp only [resolve, hc, hfe, Deferred.ofValue, Sem.run_bind, Sem.run_pure, Result.andThen_ok, invoke];exact Z8m hf hb hnm _ _
 refine ⟨?_, ?_⟩
 ·rw [Oper.semAt_eq r a.eval o (fun c e => by rw [ho] at e; cases e)];unfold execOp;rw [ho];simp only [resolve, hc, hfe, Deferred.ofValue, Sem.events_bind, Sem.run_pure, Sem.events_pure, Result.evThen_ok, invoke];rw [Z1w4 hf hb hnm];exact .nil
 rw [hrun, Z1yf];have hcall : Z1vt P f (#[.agg l.toArray] ++ c.args.map a.eval ++ #[]) w (Zb7 F (μ.ren (rho ix s.H.length)) Hf w _) := h.out F _ _ w (Zac hlent hr) (by
   have h1 := congrArg List.length hren
   rw [Zk] at h1
   have h2 := hav.len
   rw [h1]; simp; simp at h2; omega) (fun i d v hd hv => by
   have h1 : (.agg (l.map D.v) :: as0)[i]? = some (renD (rho ix s.H.length) d) := by rw [<- hren, Z1g, hd]; rfl
   refine Z2x ?_ d rfl
   rw [Array.append_empty] at hv
   cases i with
   | zero =>
    rw [Array.getElem?_append_left (by simp)] at hv
    simp at h1 hv
    rw [<- h1, <- hv]
    exact Z26w hone
   | succ i =>
    rw [List.getElem?_cons_succ] at h1
    rw [Array.getElem?_append_right (by simp)] at hv
    exact hav.get i _ v h1 (by simpa using hv))
 refine Z1vt.mono hcall fun e w' he' => ?_
 cases e with
 | returned v =>
  obtain ⟨F', μ', H', d, hs, hv, hq⟩ := he';have hst := Z6q hlent hr hs;have hmu := Z9g (μ := μ) hlent hs.same;exact hn F' _ _ w' s.dfs _ _ v hst (hst.adr hr he.dfs) (Z6p (by rw [hmu]; exact hv)) hq
 | panicked ch =>
  obtain ⟨F', μ', H', d, v, hs, rfl, hv, hq⟩ := he';exact hq.elim
 | outgrown => exact he'.elim
end
end Go.Abs

namespace Go.Abs
open Go
section
variable {P : Program} {m : Nat} {K : St -> Prop} {s : St}
theorem Z1z5 (kg j t : Nat) {isz : Nat} {row : List D} {x : Value} {ents : List Ent} (hg : Z1m s.H kg = some (.ob (.gr isz ents))) (hj : ents[j]? = some (x, some row)) (ht : Z1c s.env t = some (.v x))
  (h : GS m K { s with env := Z6j s.env t (.o s.H.length isz row.length), H := s.H.set kg (.ob (.gr isz (ents.set j (x, none)))) ++ [.els isz row] }) : GS m K s :=
 Z4i (fun F μ act w h1 => by
  obtain ⟨b0, cap, c0, t0, μ', e1, e2, e3, e4, e5, e6, e7, e8, e9, e10, e11, e12⟩ := Z23d kg j row.length h1.hr hg hj
  rw [List.take_length] at e7 e8 e12
  refine ⟨F, μ', e8, ⟨fun i hi => e10 i (Nat.lt_of_lt_of_le hi h1.len), fun i hi hk => e12 i hk⟩, ⟨e7, ⟨fun t' d hd => ?_, h1.er.nt, h1.er.dfs.mono (fun _ _ _ e => e) (fun a y e => e9 a y e) (fun a ha => e12 a ha)⟩, by have := h1.len; simp; omega⟩⟩
  have hd : Z1c (Z6j s.env t (.o s.H.length isz row.length)) t' = some d := hd
  rw [Z5n] at hd
  split at hd
  ·rename_i e
   cases hd
   obtain ⟨v, v1, v2⟩ := h1.er.env t _ ht
   refine ⟨v, by rw [<- e]; exact v1, ?_⟩
   rw [v2.v_inv, e1]
   exact .o _ _ _ _ _ _ e11 e2 e3
  ·obtain ⟨v, v1, v2⟩ := h1.er.env t' d hd
   exact ⟨v, v1, v2.mono (fun _ _ _ e => e) (fun a y e => e9 a y e)⟩) h
theorem Z1wx (kg j t : Nat) {isz n : Nat} {row : List D} {x : Value} {ents : List Ent} (hn : n = row.length) (hg : Z1m s.H kg = some (.ob (.gr isz ents))) (hj : ents[j]? = some (x, some row)) (ht : Z1c s.env t = some (.v x))
  (h : GS m K { s with env := Z6j s.env t (.o s.H.length isz n), H := s.H.set kg (.ob (.gr isz (ents.set j (x, none)))) ++ [.els isz row] }) : GS m K s := by
 subst hn; exact Z1z5 kg j t hg hj ht h
end
end Go.Abs
