/- Part TxAL of the proofs about the benches of the accordion maker: see the last text of the claim for what is proved. -/
import Derived.Test.YtggilmnhgjofiaaGreatTxAK
set_option linter.unusedVariables false
set_option linter.unusedSimpArgs false
set_option linter.unnecessarySimpa false
set_option linter.constructorNameAsVariable false

namespace Go.Abs
open Go Go.Conc
def St.step (s : St) (dst : Option Nat) (d : D) (H : List Blk) (ds : List AD) : St := { env := Z9c s.env dst d, H := H, nt := s.nt, dfs := ds }
structure OpsA (P : Program) (r : Option Nat) (m : Nat) (ops : Array Oper) (Q : AX -> St -> Prop) (l : List Nat) (s : St) : Prop where
 out : ∀ F μ a w, RL m F μ s a w -> opsZ r P ops (Z4f F μ s.H w m Q) l a w
def Zh (ops : Array Oper) (s : St) (o : Oper) (Kt Kf : St -> Prop) : Prop :=
 match o.guard with
 | none => Kt s
 | some (j, want) =>
  match ops[j]? with
  | none => Kf s
  | some oj =>
   match oj.dst with
   | none => Kf s
   | some t =>
    match Z1c s.env t with
    | some (.v (.bool b)) =>
     match want with
     | true => (match b with | true => Kt { s with env := Z6j s.env t (.v (.bool true)) } | false => Kf { s with env := Z6j s.env t (.v (.bool false)) })
     | false => (match b with | true => Kf { s with env := Z6j s.env t (.v (.bool true)) } | false => Kt { s with env := Z6j s.env t (.v (.bool false)) })
    | some (.tup []) => Kf s
    | _ => False
section
variable {P : Program} {T : TT} {r : Option Nat} {m : Nat} {ops : Array Oper} {Q : AX -> St -> Prop} {s : St}
theorem RL.step {F F' : Fz} {μ μ' : Mu} {a : Act} {w w' : World} {H' : List Blk} {dst : Option Nat} {d : D} {v : Value} {ds : List AD} {dv : List Deferred} (h : RL m F μ s a w) (hs : Stp F μ s.H w F' μ' H' w') (hds : ADR F' μ' H' ds dv) (hv : VR F' μ' d v) (hd : Z36 s.nt dst = true) :
  RL m F' μ' (s.step dst d H' ds) ({ a with defers := dv }.put dst v) w' :=
 ⟨hs.hr, Zmf h.er h.hr hs hv hd hds, Nat.le_trans h.len hs.len⟩
theorem RL.env {F : Fz} {μ : Mu} {a : Act} {w : World} {e : List (Nat × D)} (h : RL m F μ s a w) (he : ∀ t d, Z1c e t = some d -> Z1c s.env t = some d) : RL m F μ { s with env := e } a w :=
 ⟨h.hr, ⟨fun t d ht => h.er.env t d (he t d ht), h.er.nt, h.er.dfs⟩, h.len⟩
theorem Zaa {e : List (Nat × D)} {t : Nat} {d : D} (h : Z1c e t = some d) (n : Nat) (x : D) (hx : Z1c (Z6j e t d) n = some x) : Z1c e n = some x := by
 rw [Z5n] at hx
 split at hx
 ·rename_i e1; subst e1; cases hx; exact h
 ·exact hx
theorem Z4m {o : Oper} {Kt Kf : St -> Prop} (h : Zh ops s o Kt Kf) {F : Fz} {μ : Mu} {a : Act} (he : ER F μ s a) :
  ∃ e, (∀ t d, Z1c e t = some d -> Z1c s.env t = some d) /\ ((Region.wanted o (yielded ops a.tmps) = true /\ Kt { s with env := e }) ∨ (Region.wanted o (yielded ops a.tmps) = false /\ Kf { s with env := e })) := by
 obtain ⟨dst, op, type, pos, after, guard⟩ := o
 cases guard with
 | none => exact ⟨s.env, fun _ _ h => h, .inl ⟨rfl, h⟩⟩
 | some g =>
  obtain ⟨j, want⟩ := g;simp only [Zh] at h;simp only [Region.wanted, yielded]
  cases ho : ops[j]? with
  | none =>
   simp only [ho] at h;exact ⟨s.env, fun _ _ h => h, .inr ⟨by simp, h⟩⟩
  | some oj =>
   simp only [ho] at h
   cases hd : oj.dst with
   | none =>
    simp only [hd] at h;exact ⟨s.env, fun _ _ h => h, .inr ⟨by simp [hd], h⟩⟩
   | some t =>
    simp only [hd] at h
    split at h
    ·rename_i b hb
     obtain ⟨v, h1, h2⟩ := he.env t _ hb;obtain rfl := h2.bool;have hy : ((some oj).bind (·.dst)).bind (a.tmps[·]?) = some (.bool b) := by simp [hd, h1]
     rw [hy]
     cases want <;> cases b <;> simp only at h <;>
      first
      | exact ⟨_, fun n x hx => Zaa hb n x hx, .inl ⟨rfl, h⟩⟩
      | exact ⟨_, fun n x hx => Zaa hb n x hx, .inr ⟨rfl, h⟩⟩
    ·rename_i hb
     obtain ⟨v, h1, h2⟩ := he.env t _ hb;have hv : v = .tuple #[] := by
      cases h2 with
      | cl _ _ hc => cases hc with | tup _ vs hl _ => rw [Array.eq_empty_of_size_eq_zero hl.symm]
      | tup _ vs hl _ => rw [Array.eq_empty_of_size_eq_zero hl.symm]
     subst hv;have hy : ((some oj).bind (·.dst)).bind (a.tmps[·]?) = some (.tuple #[]) := by simp [hd, h1]
     rw [hy];exact ⟨s.env, fun _ _ h => h, .inr ⟨rfl, h⟩⟩
    ·exact h.elim
theorem HR.at {F : Fz} {μ : Mu} {H : List Blk} {w : World} (h : HR F μ H w) (n : Nat) : HR F μ H (w.at n) := h.congr rfl
theorem RL.at {F : Fz} {μ : Mu} {a : Act} {w : World} (h : RL m F μ s a w) (n : Nat) : RL m F μ s a (w.at n) := ⟨h.hr.at n, h.er, h.len⟩
theorem Zf6 (h : Q .normal s) : OpsA P r m ops Q [] s := ⟨fun _ _ _ _ h1 => .here h1 (x := .normal) trivial h⟩
theorem Z3k {i : Nat} {l : List Nat} {o : Oper} (ho : ops[i]? = some o) (hd : Z36 s.nt o.dst = true)
  (h : Zh ops s o (fun s => OpA P r o s (fun d H' ds => OpsA P r m ops Q l (s.step o.dst d H' ds)) (fun d H' => ∀ e, (∀ t d, Z1c e t = some d -> Z1c s.env t = some d) -> Q (.pan d) { s with env := e, H := H' }))
   (fun s => OpsA P r m ops Q l (s.step o.dst (.tup []) s.H s.dfs))) : OpsA P r m ops Q (i :: l) s := by
 refine ⟨fun F μ a w h1 => ?_⟩;simp only [opsZ, ho];obtain ⟨e, he, hc⟩ := Z4m h h1.er;have h1' := h1.env he;rcases hc with ⟨hw, hk⟩ | ⟨hw, hk⟩
 ·rw [if_pos hw];intro n;refine Z1z0 (fun a' w' hx => Z1w9 (fun _ _ _ hp => Z4f.ofAt (n := n) hp) l a' w' hx) (fun _ _ _ hp => Z4f.ofAt (n := n) hp) ?_;have h1 := h1.at n;have h1' := h1'.at n
  revert h1 h1'
  generalize w.at n = w
  intro h1 h1';refine hk.out F μ a w h1'.hr h1'.er _ _ (fun F' μ' H' w' ds dv d v q1 qd q2 q3 => ?_) (fun F' μ' H' w' d v q1 q2 q3 => ?_)
  ·have h2 := h1'.step (ds := ds) q1 qd q2 hd;refine Z1w9 ?_ _ _ _ (q3.out F' μ' _ w' h2);exact fun e a w hq => hq.trans q1.post (q1.keep h1.len)
  ·exact ⟨F', μ', { s with env := e, H := H' }, .pan d, q1.post, q1.keep h1.len, ⟨q1.hr, ⟨fun t x ht => let ⟨u, g1, g2⟩ := h1'.er.env t x ht; ⟨u, g1, q1.vr h1.hr g2⟩, h1.er.nt, q1.adr h1.hr h1.er.dfs⟩,
    Nat.le_trans h1.len q1.len⟩, ⟨v, rfl, q2⟩, q3 e (fun t d h => h)⟩
 ·rw [if_neg (by rw [hw]; simp)];exact hk.out F μ _ w (h1'.step (dst := o.dst) (d := .tup []) (v := undef) (ds := s.dfs) (Stp.refl h1.hr) h1.er.dfs Z5h hd)
end
end Go.Abs

namespace Go.Abs
open Go
def Zr4 : Op -> Nat
 | .alloc _ | .box _ _ | .buildSlice _ _ _ | .makeSlice _ _ _ => 2
 | .store _ _ _ => 3
 | .call { callee := .builtin .append, .. } => 3
 | .call { callee := .builtin .len, .. } => 1
 | .call { callee := .builtin .max, .. } => 1
 | .call { callee := .builtin .min, .. } => 1
 | .call _ => 0
 | .mapUpdate _ _ _ _ | .insert _ _ _ _ => 3
 | .makeMap _ r => (match r with | none => 3 | some _ => 0)
 | .defer _ | .go _ | .panic _ | .range _ _ | .next _ _ | .entry _ | .mapEntry _ _ _ | .entryStore _ _ _ _ => 0
 | .ready _ | .waits _ | .sliceToArrayPointer _ _ | .makeChan _ _ | .send _ _ | .recv _ _ _ | .select _ _ => 0
 | _ => 1
def Z4h (A : Ar) (T : TT) (ops : Array Oper) (K : List Nat -> St -> Prop) : List Nat -> St -> Prop
 | [], s => K [] s
 | i :: l, s =>
  match ops[i]? with
  | none => False
  | some o =>
   match Zr4 o.op, Z36 s.nt o.dst with
   | 1, true => Zh ops s o (fun s => Z1q A T s (fun d => Z4h A T ops K l (s.step o.dst d s.H s.dfs)) o.op) (fun s => Z4h A T ops K l (s.step o.dst (.tup []) s.H s.dfs))
   | 2, true => Zh ops s o (fun s => Z5g A T s (fun x mk => Z4h A T ops K l (s.step o.dst (mk s.H.length) (s.H ++ [x]) s.dfs)) o.op) (fun s => Z4h A T ops K l (s.step o.dst (.tup []) s.H s.dfs))
   | 3, true => Zh ops s o (fun s => wA A T s (fun d H' => Z4h A T ops K l (s.step o.dst (d.getD (.tup [])) H' s.dfs)) o.op) (fun s => Z4h A T ops K l (s.step o.dst (.tup []) s.H s.dfs))
   | _, _ => K (i :: l) s
section
variable {P : Program} {T : TT} {r : Option Nat} {m : Nat} {ops : Array Oper} {Q : AX -> St -> Prop}
theorem Z53 {s : St} {o : Oper} {Kt Kf Kt' Kf' : St -> Prop} (h : Zh ops s o Kt Kf) (ht : ∀ e, Kt { s with env := e } -> Kt' { s with env := e }) (hf : ∀ e, Kf { s with env := e } -> Kf' { s with env := e }) : Zh ops s o Kt' Kf' := by
 have h0 : Kt s -> Kt' s := ht s.env;have h1 : Kf s -> Kf' s := hf s.env;unfold Zh at h ⊢
 split at h
 ·exact h0 h
 ·split at h
  ·exact h1 h
  ·split at h
   ·exact h1 h
   ·split at h
    ·split at h <;> split at h <;> first | exact ht _ h | exact hf _ h
    ·exact h1 h
    ·exact h.elim
theorem OpA.mono {o : Oper} {s : St} {K K' : D -> List Blk -> List AD -> Prop} {X X' : D -> List Blk -> Prop} (h : OpA P r o s K X) (hk : ∀ d H ds, K d H ds -> K' d H ds) (hx : ∀ d H, X d H -> X' d H) : OpA P r o s K' X' :=
 ⟨fun F μ a w hr he next Q hn hp => h.out F μ a w hr he next Q (fun F' μ' H' w' ds dv d v h1 h1' h2 h3 => hn F' μ' H' w' ds dv d v h1 h1' h2 (hk _ _ _ h3)) (fun F' μ' H' w' d v h1 h2 h3 => hp F' μ' H' w' d v h1 h2 (hx _ _ h3))⟩
theorem Zbh {id : Nat} {s : St} (h : OpsA P r m ops Q (List.range ops.size) s) : WpA P r m (.region id ops false) Q s :=
 ⟨fun F μ a w h1 => Z221 (h.out F μ a w h1)⟩
end
end Go.Abs

namespace Go.Abs
open Go
mutual
def renD (ρ : Nat -> Nat) : D -> D
 | .agg cs => .agg (renL ρ cs)
 | .arr cs => .arr (renL ρ cs)
 | .tup cs => .tup (renL ρ cs)
 | .fn f cs => .fn f (renL ρ cs)
 | .ifc t d => .ifc t (renD ρ d)
 | .b k off => .b (ρ k) off
 | .bs k off => .bs (ρ k) off
 | .p k sz i off => .p (ρ k) sz i off
 | .o k sz n => .o (ρ k) sz n
 | .yv k => .yv (ρ k)
 | .mv k => .mv (ρ k)
 | .v x => .v x
 | .sl sz es => .sl sz es
 | .ip sz es i off => .ip sz es i off
 | .cb d off => .cb d off
 | .z0 => .z0
 | .any => .any
def renL (ρ : Nat -> Nat) : List D -> List D
 | [] => []
 | d :: r => renD ρ d :: renL ρ r
end
mutual
theorem renD_fr (ρ : Nat -> Nat) : ∀ d : D, frD d = true -> renD ρ d = d
 | .agg cs, h => by simp only [frD] at h; rw [renD, renL_frL ρ cs h]
 | .arr cs, h => by simp only [frD] at h; rw [renD, renL_frL ρ cs h]
 | .tup cs, h => by simp only [frD] at h; rw [renD, renL_frL ρ cs h]
 | .fn f cs, h => by simp only [frD] at h; rw [renD, renL_frL ρ cs h]
 | .ifc t d, h => by simp only [frD] at h; rw [renD, renD_fr ρ d h]
 | .v _, _ => rfl
 | .sl _ _, _ => rfl
 | .ip _ _ _ _, _ => rfl
 | .cb _ _, _ => rfl
 | .z0, _ => rfl
 | .any, _ => rfl
 | .b _ _, h => by simp [frD] at h
 | .bs _ _, h => by simp [frD] at h
 | .p _ _ _ _, h => by simp [frD] at h
 | .o _ _ _, h => by simp [frD] at h
 | .yv _, h => by simp [frD] at h
 | .mv _, h => by simp [frD] at h
theorem renL_frL (ρ : Nat -> Nat) : ∀ l : List D, frL l = true -> renL ρ l = l
 | [], _ => rfl
 | d :: r, h => by
  simp only [frL, Bool.and_eq_true] at h;rw [renL, renD_fr ρ d h.1, renL_frL ρ r h.2]
end
theorem FrL.ren {l : List D} (h : FrL l) (ρ : Nat -> Nat) : renL ρ l = l := renL_frL ρ l (Z30.2 h.out)
theorem Zc8 (ρ : Nat -> Nat) : ∀ l : List D, renL ρ l = l.map (renD ρ)
 | [] => by simp [renL]
 | d :: r => by simp [renL, Zc8 ρ r]
theorem Z1g (ρ : Nat -> Nat) (l : List D) (i : Nat) : (renL ρ l)[i]? = (l[i]?).map (renD ρ) := by rw [Zc8, List.getElem?_map]
theorem Zk (ρ : Nat -> Nat) (l : List D) : (renL ρ l).length = l.length := by rw [Zc8, List.length_map]
theorem Z6z (ρ : Nat -> Nat) (d : D) : (renD ρ d).cells = renL ρ d.cells := by
 cases d <;> simp [renD, D.cells, renL]
section
variable {F : Fz} {μ : Mu} {ρ : Nat -> Nat}
theorem Zpg {d : D} {v : Value} (h : CR F d v) : CR F (renD ρ d) v := by
 induction h with
 | v x ho => rw [renD]; exact .v x ho
 | any x => rw [renD]; exact .any x
 | agg cs vs hl _ ho ih =>
  rw [renD];refine .agg _ vs (by rw [Zk]; exact hl) (fun i c v hc hv => ?_) ho;rw [Z1g] at hc;obtain ⟨c0, h0, rfl⟩ := Option.map_eq_some_iff.1 hc;exact ih i c0 v h0 hv
 | arr cs vs hl _ ho ih =>
  rw [renD];refine .arr _ vs (by rw [Zk]; exact hl) (fun i c v hc hv => ?_) ho;rw [Z1g] at hc;obtain ⟨c0, h0, rfl⟩ := Option.map_eq_some_iff.1 hc;exact ih i c0 v h0 hv
 | tup cs vs hl _ ih =>
  rw [renD];refine .tup _ vs (by rw [Zk]; exact hl) (fun i c v hc hv => ?_);rw [Z1g] at hc;obtain ⟨c0, h0, rfl⟩ := Option.map_eq_some_iff.1 hc;exact ih i c0 v h0 hv
 | slE sz a cap => rw [renD]; exact .slE sz a cap
 | z0 a => rw [renD]; exact .z0 a
 | sl sz es b o cap val hc hz hf hv _ => rw [renD]; exact .sl sz es b o cap val hc hz hf hv
 | ip sz es b o i off val hz hf hv _ => rw [renD]; exact .ip sz es b o i off val hz hf hv
 | cb d b o off val hf hv _ => rw [renD]; exact .cb d b o off val hf hv
 | fn f cs vs hl _ ih =>
  rw [renD];refine .fn f _ vs (by rw [Zk]; exact hl) (fun i c v hc hv => ?_);rw [Z1g] at hc;obtain ⟨c0, h0, rfl⟩ := Option.map_eq_some_iff.1 hc;exact ih i c0 v h0 hv
 | ifc t d v _ ih => rw [renD]; exact .ifc t _ v ih
theorem Zjz {x : D} {v : Value} (h : CR F x v) : ∀ d, x = renD ρ d -> CR F d v := by
 induction h with
 | v x ho => intro d hd; cases d <;> simp [renD] at hd; subst hd; exact .v _ ho
 | any x => intro d hd; cases d <;> simp [renD] at hd; exact .any x
 | agg cs vs hl _ ho ih =>
  intro d hd
  cases d <;> simp [renD] at hd
  subst hd;exact .agg _ vs (by rw [Zk] at hl; exact hl) (fun i c v hc hv => ih i _ v (by rw [Z1g, hc]; rfl) hv c rfl) ho
 | arr cs vs hl _ ho ih =>
  intro d hd
  cases d <;> simp [renD] at hd
  subst hd;exact .arr _ vs (by rw [Zk] at hl; exact hl) (fun i c v hc hv => ih i _ v (by rw [Z1g, hc]; rfl) hv c rfl) ho
 | tup cs vs hl _ ih =>
  intro d hd
  cases d <;> simp [renD] at hd
  subst hd;exact .tup _ vs (by rw [Zk] at hl; exact hl) (fun i c v hc hv => ih i _ v (by rw [Z1g, hc]; rfl) hv c rfl)
 | slE sz a cap => intro d hd; cases d <;> simp [renD] at hd; obtain ⟨rfl, rfl⟩ := hd; exact .slE _ a cap
 | z0 a => intro d hd; cases d <;> simp [renD] at hd; exact .z0 a
 | sl sz es b o cap val hc hz hf hv _ => intro d hd; cases d <;> simp [renD] at hd; obtain ⟨rfl, rfl⟩ := hd; exact .sl _ _ b o cap val hc hz hf hv
 | ip sz es b o i off val hz hf hv _ => intro d hd; cases d <;> simp [renD] at hd; obtain ⟨rfl, rfl, rfl, rfl⟩ := hd; exact .ip _ _ b o _ _ val hz hf hv
 | cb d b o off val hf hv _ => intro d hd; cases d <;> simp [renD] at hd; obtain ⟨rfl, rfl⟩ := hd; exact .cb _ b o _ val hf hv
 | fn f cs vs hl _ ih =>
  intro d hd
  cases d <;> simp [renD] at hd
  obtain ⟨rfl, hd⟩ := hd;subst hd;exact .fn _ _ vs (by rw [Zk] at hl; exact hl) (fun i c v hc hv => ih i _ v (by rw [Z1g, hc]; rfl) hv c rfl)
 | ifc t d v _ ih =>
  intro d hd
  cases d <;> simp [renD] at hd
  obtain ⟨rfl, hd⟩ := hd;exact .ifc _ _ v (ih _ hd)
theorem Z2x {x : D} {v : Value} (h : VR F μ x v) : ∀ d, x = renD ρ d -> VR F (μ.ren ρ) d v := by
 induction h with
 | cl x v h => intro d hd; exact .cl _ _ (Zjz h d hd)
 | agg cs vs hl _ ho ih =>
  intro d hd
  cases d <;> simp [renD] at hd
  subst hd;exact .agg _ vs (by rw [Zk] at hl; exact hl) (fun i c v hc hv => ih i _ v (by rw [Z1g, hc]; rfl) hv c rfl) ho
 | arr cs vs hl _ ho ih =>
  intro d hd
  cases d <;> simp [renD] at hd
  subst hd;exact .arr _ vs (by rw [Zk] at hl; exact hl) (fun i c v hc hv => ih i _ v (by rw [Z1g, hc]; rfl) hv c rfl) ho
 | tup cs vs hl _ ih =>
  intro d hd
  cases d <;> simp [renD] at hd
  subst hd;exact .tup _ vs (by rw [Zk] at hl; exact hl) (fun i c v hc hv => ih i _ v (by rw [Z1g, hc]; rfl) hv c rfl)
 | fn f cs vs hl _ ih =>
  intro d hd
  cases d <;> simp [renD] at hd
  obtain ⟨rfl, hd⟩ := hd;subst hd;exact .fn _ _ vs (by rw [Zk] at hl; exact hl) (fun i c v hc hv => ih i _ v (by rw [Z1g, hc]; rfl) hv c rfl)
 | ifc t d v _ ih =>
  intro d hd
  cases d <;> simp [renD] at hd
  obtain ⟨rfl, hd⟩ := hd;exact .ifc _ _ v (ih _ hd)
 | b k off b m h => intro d hd; cases d <;> simp [renD] at hd; obtain ⟨rfl, rfl⟩ := hd; exact .b _ _ b m h
 | bs k off b m h => intro d hd; cases d <;> simp [renD] at hd; obtain ⟨rfl, rfl⟩ := hd; exact .bs _ _ b m h
 | p k sz i off b m h => intro d hd; cases d <;> simp [renD] at hd; obtain ⟨rfl, rfl, rfl, rfl⟩ := hd; exact .p _ _ _ _ b m h
 | o k sz n b m cap h hc hm => intro d hd; cases d <;> simp [renD] at hd; obtain ⟨rfl, rfl, rfl⟩ := hd; exact .o _ _ _ b m cap h hc hm
 | oNil k sz a h =>
  intro d hd
  cases d <;> simp [renD] at hd
  obtain ⟨rfl, rfl, h0⟩ := hd;rw [<- h0]; exact .oNil _ _ a h
 | yv k b m h => intro d hd; cases d <;> simp [renD] at hd; subst hd; exact .yv _ b m h
 | mv k b m h => intro d hd; cases d <;> simp [renD] at hd; subst hd; exact .mv _ b m h
theorem Z6p {d : D} {v : Value} (h : VR F (μ.ren ρ) d v) : VR F μ (renD ρ d) v := by
 induction h with
 | cl x v h => exact .cl _ _ (Zpg h)
 | agg cs vs hl _ ho ih =>
  rw [renD];refine .agg _ vs (by rw [Zk]; exact hl) (fun i c v hc hv => ?_) ho;rw [Z1g] at hc;obtain ⟨c0, h0, rfl⟩ := Option.map_eq_some_iff.1 hc;exact ih i c0 v h0 hv
 | arr cs vs hl _ ho ih =>
  rw [renD];refine .arr _ vs (by rw [Zk]; exact hl) (fun i c v hc hv => ?_) ho;rw [Z1g] at hc;obtain ⟨c0, h0, rfl⟩ := Option.map_eq_some_iff.1 hc;exact ih i c0 v h0 hv
 | tup cs vs hl _ ih =>
  rw [renD];refine .tup _ vs (by rw [Zk]; exact hl) (fun i c v hc hv => ?_);rw [Z1g] at hc;obtain ⟨c0, h0, rfl⟩ := Option.map_eq_some_iff.1 hc;exact ih i c0 v h0 hv
 | fn f cs vs hl _ ih =>
  rw [renD];refine .fn f _ vs (by rw [Zk]; exact hl) (fun i c v hc hv => ?_);rw [Z1g] at hc;obtain ⟨c0, h0, rfl⟩ := Option.map_eq_some_iff.1 hc;exact ih i c0 v h0 hv
 | ifc t d v _ ih => rw [renD]; exact .ifc t _ v ih
 | b k off b m h => rw [renD]; exact .b _ off b m h
 | bs k off b m h => rw [renD]; exact .bs _ off b m h
 | p k sz i off b m h => rw [renD]; exact .p _ sz i off b m h
 | o k sz n b m cap h hc hm => rw [renD]; exact .o _ sz n b m cap h hc hm
 | oNil k sz a h => rw [renD]; exact .oNil _ sz a h
 | yv k b m h => rw [renD]; exact .yv _ b m h
 | mv k b m h => rw [renD]; exact .mv _ b m h
def Zue (ρ : Nat -> Nat) : List (Nat × D) -> List (Nat × D)
 | [] => []
 | (t, d) :: r => (t, renD ρ d) :: Zue ρ r
theorem Zd4 (ρ : Nat -> Nat) : ∀ (e : List (Nat × D)) (t : Nat), Z1c (Zue ρ e) t = (Z1c e t).map (renD ρ)
 | [], t => rfl
 | (t0, d) :: r, t => by
  simp only [Zue, Z1c]
  split
  ·rfl
  ·exact Zd4 ρ r t
def Zig (ρ : Nat -> Nat) : OB -> OB
 | .mp kn ents => .mp kn ents
 | .mpx kn ents bs clock => .mpx kn ents bs clock
 | .mi k since seen stepped => .mi (ρ k) since seen stepped
 | .lp st pend env nt params assign body => .lp st pend (Zue ρ env) nt params assign body
 | .gr sz ents => .gr sz ents
 | .si s pos => .si s pos
 | .ch b => .ch b
 | .mk => .mk
theorem Z9d {sz : Nat} {es : List D} {c : Array Value} (h : Z1l F μ sz (renL ρ es) c) : Z1l F (μ.ren ρ) sz es c := fun i e he => by
 obtain ⟨h1, h2⟩ := h i (renD ρ e) (by rw [Z1g, he]; rfl);refine ⟨by rw [Z6z, Zk] at h1; exact h1, fun r d hd => ?_⟩;obtain ⟨v, g1, g2, g3⟩ := h2 r (renD ρ d) (by rw [Z6z, Z1g, hd]; rfl);exact ⟨v, g1, g2, Z2x g3 d rfl⟩
theorem Zc9 {sz : Nat} {es : List D} {c : Array Value} (h : Z1l F (μ.ren ρ) sz es c) : Z1l F μ sz (renL ρ es) c := fun i e he => by
 rw [Z1g] at he;obtain ⟨e0, h0, rfl⟩ := Option.map_eq_some_iff.1 he;obtain ⟨h1, h2⟩ := h i e0 h0;refine ⟨by rw [Z6z, Zk]; exact h1, fun r d hd => ?_⟩;rw [Z6z, Z1g] at hd;obtain ⟨d0, hd0, rfl⟩ := Option.map_eq_some_iff.1 hd;obtain ⟨v, g1, g2, g3⟩ := h2 r d0 hd0;exact ⟨v, g1, g2, Z6p g3⟩
theorem Zr5 (ρ : Nat -> Nat) (x : OB) (y : Option (Option (Nat × Nat))) : (Zig ρ x).nv y = x.nv y := by cases x <;> rfl
theorem OBR.down {k : Nat} {w : World} {x : OB} (h : OBR F μ (ρ k) w (Zig ρ x)) : OBR F (μ.ren ρ) k w x := by
 cases x with
 | mp kn ents => exact h
 | mpx kn ents bs clock => exact h
 | mi k' since seen stepped => exact h
 | lp st pend env nt params assign body =>
  obtain ⟨b, r, h1, h2, h3, h4, h5, h6, h8, h9, h10, h7⟩ := h;exact ⟨b, r, h1, h2, h3, h4, h5, h6, h8, h9, fun t d ht => let ⟨v, g1, g2⟩ := h10 t (renD ρ d) (by rw [Zd4, ht]; rfl); ⟨v, g1, Z2x g2 d rfl⟩, h7⟩
 | gr sz ents =>
  obtain ⟨h1, loc, h2, h3⟩ := h;exact ⟨h1, loc, fun j e row he => let ⟨c, t, cap, g1, g2, g3, g4, g5, g6, g7⟩ := h2 j e row he; ⟨c, t, cap, g1, g2, g3, g4, Z9d (by rw [g6.ren]; exact g5), g6, g7⟩, h3⟩
 | si s pos => exact h
 | ch b => exact h
 | mk => exact h
theorem OBR.up {k : Nat} {w : World} {x : OB} (h : OBR F (μ.ren ρ) k w x) : OBR F μ (ρ k) w (Zig ρ x) := by
 cases x with
 | mp kn ents => exact h
 | mpx kn ents bs clock => exact h
 | mi k' since seen stepped => exact h
 | lp st pend env nt params assign body =>
  obtain ⟨b, r, h1, h2, h3, h4, h5, h6, h8, h9, h10, h7⟩ := h;exact ⟨b, r, h1, h2, h3, h4, h5, h6, h8, h9, fun t d ht => by
   rw [Zd4] at ht
   obtain ⟨d0, hd, rfl⟩ := Option.map_eq_some_iff.1 ht
   obtain ⟨v, g1, g2⟩ := h10 t d0 hd
   exact ⟨v, g1, Z6p g2⟩, h7⟩
 | gr sz ents =>
  obtain ⟨h1, loc, h2, h3⟩ := h;exact ⟨h1, loc, fun j e row he => let ⟨c, t, cap, g1, g2, g3, g4, g5, g6, g7⟩ := h2 j e row he; ⟨c, t, cap, g1, g2, g3, g4, by have := Zc9 g5; rwa [g6.ren] at this, g6, g7⟩, h3⟩
 | si s pos => exact h
 | ch b => exact h
 | mk => exact h
def Z68 (ρ : Nat -> Nat) : Blk -> Blk
 | .box d => .box (renD ρ d)
 | .els sz es => .els sz es
 | .elo sz es => .elo sz (renL ρ es)
 | .ob x => .ob (Zig ρ x)
 | .dead => .dead
theorem Znw (ρ : Nat -> Nat) (x : Blk) (hf : BFr x) : (Z68 ρ x).es = (x.es).map fun p => (p.1, renL ρ p.2) := by
 cases x with
 | box d => simp [Z68, Blk.es, Z6z, Zk, renL]
 | els sz es => simp [Z68, Blk.es, (hf sz es rfl).ren]
 | elo sz es => simp [Z68, Blk.es]
 | ob x => rfl
 | dead => rfl
theorem Z9e (ρ : Nat -> Nat) (x : Blk) : (Z68 ρ x).obj = x.obj.map (Zig ρ) := by cases x <;> rfl
theorem Zgu (ρ : Nat -> Nat) (x : Blk) : (Z68 ρ x).live = x.live := by cases x <;> rfl
theorem BFr.of_ren {ρ : Nat -> Nat} {x : Blk} (h : BFr (Z68 ρ x)) : BFr x := fun sz es e => by subst e; exact h sz es rfl
theorem BFr.ren {ρ : Nat -> Nat} {x : Blk} (h : BFr x) : BFr (Z68 ρ x) := fun sz es e => by
 cases x <;> simp [Z68] at e
 obtain ⟨rfl, rfl⟩ := e;exact h _ _ rfl
end
end Go.Abs
