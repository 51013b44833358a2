/- Part TxAS of the proofs about the benches of the accordion maker: see the last text of the claim for what is proved. -/
import Derived.LoopNIn
import Derived.Test.YtggilmnhgjofiaaGreatTxAR
set_option linter.unusedVariables false
set_option linter.unusedSimpArgs false
set_option linter.unnecessarySimpa false
set_option linter.constructorNameAsVariable false

namespace Go.Abs
open Go
structure GS (m : Nat) (K : St -> Prop) (s : St) : Prop where
 out : ∀ F μ a w, RL m F μ s a w -> ∃ F' μ' s', Post F μ s.H w F' μ' s'.H w /\ Kp m μ s.H μ' s'.H /\ RL m F' μ' s' a w /\ (∀ d v, frD d = true -> VR F μ d v -> VR F' μ' d v) /\ K s'
section
variable {P : Program} {T : TT} {r : Option Nat} {m : Nat} {Q : AX -> St -> Prop} {F : Fz} {μ : Mu} {w : World} {K : St -> Prop} {s : St}
theorem Z7 (h : K s) : GS m K s := ⟨fun F μ a w h1 => ⟨F, μ, s, Post.refl _ _ _ _, .refl _ _ _, h1, fun _ _ _ h => h, h⟩⟩
theorem Zo6 {F F' : Fz} {μ μ' : Mu} (hF : ∀ b o v, F b o = some v -> F' b o = some v) : ∀ d v, frD d = true -> VR F μ d v -> VR F' μ' d v := fun _ _ hf hv => .cl _ _ ((Zgo hv hf).mono hF)
theorem Z4i {s' : St} (h0 : ∀ F μ a w, RL m F μ s a w -> ∃ F' μ', Post F μ s.H w F' μ' s'.H w /\ Kp m μ s.H μ' s'.H /\ RL m F' μ' s' a w) (h : GS m K s') : GS m K s := ⟨fun F μ a w h1 => by
 obtain ⟨F', μ', g1, g2, g3⟩ := h0 F μ a w h1
 obtain ⟨F2, μ2, s2, k1, k2, k3, k4, k5⟩ := h.out F' μ' a w g3
 exact ⟨F2, μ2, s2, g1.trans k1, g2.trans k2, k3, fun d v hf hv => k4 d v hf (Zo6 g1.mono d v hf hv), k5⟩⟩
theorem Zei {K' : St -> Prop} (h : GS m K s) (hk : ∀ s, K s -> K' s) : GS m K' s := ⟨fun F μ a w h1 => by
 obtain ⟨F2, μ2, s2, k1, k2, k3, k4, k5⟩ := h.out F μ a w h1
 exact ⟨F2, μ2, s2, k1, k2, k3, k4, hk _ k5⟩⟩
theorem Z1a {A : Ar} (hA : A = ar) (kk : List Nat) (h : Zij A kk s (fun s' => GS m K s')) : GS m K s := ⟨fun F μ a w h1 => by
 subst hA
 obtain ⟨s', g1, g2, g3, g4⟩ := Zbl h h1
 obtain ⟨F2, μ2, s2, k1, k2, k3, k4, k5⟩ := g1.out _ μ a w g2
 exact ⟨F2, μ2, s2, g3.trans k1, g4.trans k2, k3, fun d v hf hv => k4 d v hf (Zo6 g3.mono d v hf hv), k5⟩⟩
theorem Z60 {a : St} (ix : List Nat) (hv : View m ix a s) (h : GS m K a) : GS m K s :=
 Z4i (fun F μ act w h1 => let ⟨g1, g2, g3⟩ := hv.rl h1; ⟨F, _, g2, g3, g1⟩) h
theorem Z2a (t sz : Nat) (ht : Z1c s.env t = some (.v (.slice none 0 0))) (h : GS m K { s with env := Z6j s.env t (.o s.H.length sz 0), H := s.H ++ [.els sz []] }) : GS m K s :=
 Z4i (fun F μ act w h1 => let ⟨μ', g1, g2, g3⟩ := Zny (sz := sz) ht h1; ⟨F, μ', g2, g3, g1⟩) h
theorem Zo7 (t : Nat) {d : D} (d' : D) (ht : Z1c s.env t = some d) (hw : WkD d d') (h : GS m K { s with env := Z6j s.env t d' }) : GS m K s :=
 Z4i (s' := { s with env := Z6j s.env t d' }) (fun F μ act w h1 => ⟨F, μ, Post.refl _ _ _ _, .refl _ _ _, Zun ht hw h1⟩) h
theorem Z7w (k : Nat) {d : D} (d' : D) (hk : Z1m s.H k = some (.box d)) (hw : WkL d.cells d'.cells) (h : GS m K { s with H := s.H.set k (.box d') }) : GS m K s :=
 Z4i (fun F μ act w h1 => let ⟨g1, g2, g3⟩ := Zs1 hk hw h1; ⟨F, μ, g2, g3, g1⟩) h
theorem Zs2 {a : Act} {k i sz : Nat} {d d' : D} (hk : Z1m s.H k = some (.box d)) (hi : d.cells[i]? = some (.v (.slice none 0 0))) (hd : d'.cells = d.cells.set i (.o s.H.length sz 0)) (h : RL m F μ s a w) :
  ∃ μ', RL m F μ' { s with H := s.H.set k (.box d') ++ [.els sz []] } a w /\ Post F μ s.H w F μ' (s.H.set k (.box d') ++ [.els sz []]) w /\ Kp m μ s.H μ' (s.H.set k (.box d') ++ [.els sz []]) := by
 obtain ⟨q1, q2, q3⟩ := Zc5 h.hr (sz := sz) (h.hr.dom _ (Nat.le_refl _)) (Nat.le_refl _);rw [Z6y] at q1 q2;have hkl : k < s.H.length := by rw [Z1u] at hk; exact (List.getElem?_eq_some_iff.1 hk).1
 have hk' : Z1m (s.H ++ [Blk.els sz []]) k = some (.box d) := Z5i hk;have hb := Z7c hk';have hset : ∀ j, ((s.H ++ [Blk.els sz []]).set k (Blk.box d'))[j]? = if j = k then some (Blk.box d') else (s.H ++ [Blk.els sz []])[j]? := fun j => by
  have := Z2m (H := s.H ++ [Blk.els sz []]) (Blk.box d') (k := k) (by simp; omega) j
  rwa [Z4l, if_pos (by simp; omega)] at this
 have hlen : d'.cells.length = d.cells.length := by rw [hd]; simp
 obtain ⟨r1, r2, -⟩ := Z5e (μ' := Z4v μ s.H.length none) (w' := w) (H' := (s.H ++ [Blk.els sz []]).set k (.box d')) (fun j => j = k) q1 (by simp) (fun j hj => by rw [hset, if_neg hj]) (fun j _ => rfl) (fun j b _ => Iff.rfl) (fun _ _ _ h => h) (Nat.le_refl _) rfl rfl rfl
  (fun b' hb' hn => rfl) (fun k' b' hk' _ hf => .inl ⟨k, rfl, Z15 hb, by subst hk'; exact hf⟩) (fun k1 k2 b h1 h2 _ _ _ _ => h1.trans h2.symm)
  (fun k' hk' hle' => by subst hk'; simp at hle'; omega) (fun _ k' sz1 es1 hk' hb1 hne => by
   subst hk'
   rw [Z1s (x := .box d') (by rw [hset, if_pos rfl])] at hb1
   simp only [Blk.es, Option.some.injEq, Prod.mk.injEq] at hb1
   obtain ⟨rfl, rfl⟩ := hb1
   rcases q1.row k' _ _ hb hne with ⟨e1, e2⟩ | ⟨b, m, c, t, e1, e2, e3, e4, e5⟩
   ·cases e2
   ·refine .inr ⟨b, m, c, t, e1, e2, e3, by rw [hlen]; exact e4, fun j e he => ?_⟩
    match j, he with
    | 0, he =>
     simp at he; subst he
     refine ⟨rfl, fun r x hx => ?_⟩
     rw [hd, List.getElem?_set] at hx
     split at hx
     ·rename_i e0; subst e0
      split at hx
      ·cases hx
       obtain ⟨v, v1, v2, v3⟩ := (e5 0 _ rfl).2 i _ hi
       refine ⟨v, by rw [hlen]; exact v1, v2, ?_⟩
       rw [v3.v_inv]; exact .oNil _ _ none (Z6h _ _ _)
      ·cases hx
     ·obtain ⟨v, v1, v2, v3⟩ := (e5 0 _ rfl).2 r _ hx
      exact ⟨v, by rw [hlen]; exact v1, v2, v3⟩
    | j + 1, he => simp at he) (fun k' y hk' _ b => by subst hk'; exact q1.plain k' _ hb b) (fun _ k' y hk' hy _ => by subst hk'; rw [Z19 (x := .box d') (by rw [hset, if_pos rfl])] at hy; cases hy) (fun k' hk' he => by subst hk'; exact q1.non _ he) (fun k' y hk' hy => by
   subst hk'; rw [hset, if_pos rfl] at hy; cases hy; exact fun _ _ e => by cases e)
 have hs : (s.H ++ [Blk.els sz []]).set k (.box d') = s.H.set k (.box d') ++ [.els sz []] := by rw [List.set_append_left _ _ hkl]
 have hob : ∀ j y, Z13 s.H j = some y -> Z13 ((s.H ++ [Blk.els sz []]).set k (.box d')) j = some y := fun j y hj => Z95 _ hb (Z41 _ hj);rw [hs] at r1 r2 hob;refine ⟨_, ⟨r1, ⟨fun n x hn => ?_, h.er.nt, h.er.dfs.mono (fun _ _ _ e => e) q3 (fun j hj => ⟨hob j _ hj, fun _ e => e⟩)⟩, by have := h.len; simp; omega⟩, q2.trans r2, ⟨fun i hi => by rw [Z2k _ (by have := h.len; omega)], fun i _ hk => ⟨hob i _ hk, fun _ e => e⟩⟩⟩;obtain ⟨v, h1, h2⟩ := h.er.env n x hn;exact ⟨v, h1, h2.mono (fun _ _ _ e => e) q3⟩
theorem Zfk (k i sz : Nat) {d : D} (d' : D) (hk : Z1m s.H k = some (.box d)) (hi : Zi5 d.cells i = some (.v (.slice none 0 0))) (hd : d'.cells = d.cells.set i (.o s.H.length sz 0)) (h : GS m K { s with H := s.H.set k (.box d') ++ [.els sz []] }) : GS m K s :=
 Z4i (fun F μ act w h1 => let ⟨μ', g1, g2, g3⟩ := Zs2 (sz := sz) hk (by rw [<- Zc1]; exact hi) hd h1; ⟨F, μ', g2, g3, g1⟩) h
theorem Ziq {c : Code} (h : GS m (WpA P r m c Q) s) : WpA P r m c Q s := ⟨fun F μ a w h1 => by
 obtain ⟨F', μ', s', g1, g2, g3, -, g4⟩ := h.out F μ a w h1
 exact Z1us (g4.out _ _ a w g3) fun _ _ _ hp => hp.trans g1 g2⟩
theorem Zuo {ops : Array Oper} {l : List Nat} (h : GS m (OpsA P r m ops Q l) s) : OpsA P r m ops Q l s := ⟨fun F μ a w h1 => by
 obtain ⟨F', μ', s', g1, g2, g3, -, g4⟩ := h.out F μ a w h1
 exact Z1w9 (fun _ _ _ hp => hp.trans g1 g2) _ _ _ (g4.out _ _ a w g3)⟩
theorem Z3h {S : Stop} (hS : S = Zo P r m) {c : Code} (h : GS m (S.code c Q) s) : S.code c Q s := by subst hS; exact Ziq h
theorem Z26 {S : Stop} (hS : S = Zo P r m) {ops : Array Oper} {l : List Nat} (h : GS m (S.ops ops Q l) s) : S.ops ops Q l s := by subst hS; exact Zuo h
def GX (m : Nat) (Q : AX -> St -> Prop) : AX -> St -> Prop
 | .pan d, s => Q (.pan d) s
 | x, s => GS m (Q x) s
theorem Z4f.gx {H : List Blk} {e : Exit} {a : Act} {w' : World} (h : Z4f F μ H w m (GX m Q) e a w') : Z4f F μ H w m Q e a w' := by
 obtain ⟨F', μ', s', x, h1, h2, h3, h4, h5⟩ := h;have fin : (∀ F2 μ2, XR F2 μ2 e x) -> GS m (Q x) s' -> Z4f F μ H w m Q e a w' := fun hxr h5 => by
  obtain ⟨F2, μ2, s2, k1, k2, k3, k4, k5⟩ := h5.out F' μ' a w' h3;exact ⟨F2, μ2, s2, x, h1.trans k1, h2.trans k2, k3, hxr _ _, k5⟩
 cases e <;> cases x <;> try exact h4.elim
 case panic.pan ch d => exact ⟨F', μ', s', .pan d, h1, h2, h3, h4, h5⟩
 all_goals exact fin (fun _ _ => h4) h5
theorem Zs3 {c : Code} (h : WpA P r m c (GX m Q) s) : WpA P r m c Q s := ⟨fun F μ a w h1 => Z1us (h.out F μ a w h1) (fun e a' w' hp => Z4f.gx (Q := Q) hp)⟩
theorem Za {c : Code} {s : St} {α : Type} (mk : α -> St) (ms : α -> Nat) (Pr : α -> Prop) (x0 : α) (h0 : Pr x0) (v0 : GS m (fun s' => s' = mk x0) s)
  (round : ∀ x, Pr x -> WpA P r m c (Zb1 (GS m fun s' => ∃ y, Pr y /\ ms y < ms x /\ s' = mk y) (GX m Q)) (mk x)) : WpA P r m (.loop c) Q s := by
 refine Ziq (Zei v0 fun s' hs' => ?_);subst hs'
 let I : St -> Prop := fun s' => ∃ x, Pr x /\ s' = mk x
 let lo : St -> Nat := fun s' => Classical.epsilon fun n => (∃ x, Pr x /\ s' = mk x /\ ms x = n) /\ ∀ k, (∃ x, Pr x /\ s' = mk x /\ ms x = k) -> n <= k
 have hlo : ∀ s', I s' -> (∃ x, Pr x /\ s' = mk x /\ ms x = lo s') /\ ∀ k, (∃ x, Pr x /\ s' = mk x /\ ms x = k) -> lo s' <= k := fun s' hh => by
  obtain ⟨x, h1, h2⟩ := hh;exact Classical.epsilon_spec (Za7 (p := fun n => ∃ x, Pr x /\ s' = mk x /\ ms x = n) ⟨ms x, x, h1, h2, rfl⟩)
 refine Zjh I lo ⟨x0, h0, rfl⟩ fun s' hI => ?_;obtain ⟨⟨x, hx, hs, hms⟩, -⟩ := hlo s' hI;subst hs;have h1 := round x hx;refine Zs3 (Z94 h1 fun a s2 hq => ?_)
 cases a with
 | normal =>
  show GS m _ s2;refine Zei (show GS m _ s2 from hq) fun s3 ⟨y, hy, hlt, hs3⟩ => ?_;subst hs3;exact ⟨⟨y, hy, rfl⟩, by have := (hlo (mk y) ⟨y, hy, rfl⟩).2 _ ⟨y, hy, rfl, rfl⟩; omega⟩
 | _ => exact hq
end
end Go.Abs

namespace Go.Abs
open Go
structure CallG (P : Program) (o : Oper) (K : D -> List Blk -> List AD -> Prop) (s : St) : Prop where
 out : ∃ c fo f caps as0 as' ix Hf, o.op = .call c /\ c.callee = .value fo /\ evo s.env fo = some (.fn f caps) /\ Z34 (c.args.toList.map (evo s.env)) = some as0 /\ renL (rho ix s.H.length) as' = as0 ++ caps /\ ix.Nodup /\ Z62 (rho ix s.H.length) s.H ix Hf /\
  CallA P f as' Hf (fun x Hf' => match x with | .ret d => K (renD (rho ix s.H.length) d) (Z10 s.H ix Hf') s.dfs | .pan _ => False)
section
variable {P : Program} {T : TT} {r : Option Nat} {m : Nat} {ops : Array Oper} {Q : AX -> St -> Prop} {s : St}
mutual
theorem fzG_mono {A : Ar} {H : List Blk} {kk : List Nat} : ∀ (d : D) {K1 K2 : D -> Prop}, (∀ d, K1 d -> K2 d) -> fzG A H kk d K1 -> fzG A H kk d K2
 | .agg cs, K1, K2, hk, h => by simp only [fzG] at h ⊢; exact fzL_mono cs (fun _ h => hk _ h) h
 | .tup cs, K1, K2, hk, h => by simp only [fzG] at h ⊢; exact fzL_mono cs (fun _ h => hk _ h) h
 | .fn f cs, K1, K2, hk, h => by simp only [fzG] at h ⊢; exact fzL_mono cs (fun _ h => hk _ h) h
 | .ifc t d, K1, K2, hk, h => by simp only [fzG] at h ⊢; exact fzG_mono d (fun _ h => hk _ h) h
 | .o k sz n, K1, K2, hk, h => by
  simp only [fzG] at h ⊢
  split at h
  ·split at h
   ·split at h
    ·exact ⟨h.1, hk _ h.2⟩
    ·exact h.elim
   ·exact h.elim
  ·exact hk _ h
 | .b k off, K1, K2, hk, h => by
  simp only [fzG] at h ⊢
  split at h
  ·split at h
   ·split at h
    ·exact hk _ h
    ·exact h.elim
   ·exact h.elim
  ·exact hk _ h
 | .p k sz i off, K1, K2, hk, h => by
  simp only [fzG] at h ⊢
  split at h
  ·split at h
   ·split at h
    ·exact hk _ h
    ·exact h.elim
   ·exact h.elim
  ·exact hk _ h
 | .v x, K1, K2, hk, h => by simp only [fzG] at h ⊢; exact hk _ h
 | .arr cs, K1, K2, hk, h => by simp only [fzG] at h ⊢; exact hk _ h
 | .sl sz es, K1, K2, hk, h => by simp only [fzG] at h ⊢; exact hk _ h
 | .ip sz es i off, K1, K2, hk, h => by simp only [fzG] at h ⊢; exact hk _ h
 | .cb d off, K1, K2, hk, h => by simp only [fzG] at h ⊢; exact hk _ h
 | .bs k off, K1, K2, hk, h => by simp only [fzG] at h ⊢; exact hk _ h
 | .yv k, K1, K2, hk, h => by simp only [fzG] at h ⊢; exact hk _ h
 | .mv k, K1, K2, hk, h => by simp only [fzG] at h ⊢; exact hk _ h
 | .z0, K1, K2, hk, h => by simp only [fzG] at h ⊢; exact hk _ h
 | .any, K1, K2, hk, h => by simp only [fzG] at h ⊢; exact hk _ h
theorem fzL_mono {A : Ar} {H : List Blk} {kk : List Nat} : ∀ (l : List D) {K1 K2 : List D -> Prop}, (∀ d, K1 d -> K2 d) -> fzL A H kk l K1 -> fzL A H kk l K2
 | [], K1, K2, hk, h => by simp only [fzL] at h ⊢; exact hk _ h
 | d :: r, K1, K2, hk, h => by simp only [fzL] at h ⊢; exact fzG_mono d (fun _ h => fzL_mono r (fun _ h => hk _ h) h) h
end
theorem Zkc {A : Ar} {H : List Blk} {kk : List Nat} : ∀ (l : List (Nat × D)) {K1 K2 : List (Nat × D) -> Prop}, (∀ d, K1 d -> K2 d) -> fzE A H kk l K1 -> fzE A H kk l K2
 | [], K1, K2, hk, h => by simp only [fzE] at h ⊢; exact hk _ h
 | (t, d) :: r, K1, K2, hk, h => by simp only [fzE] at h ⊢; exact fzG_mono d (fun _ h => Zkc r (fun _ h => hk _ h) h) h
theorem Zcg {A : Ar} {H : List Blk} {kk : List Nat} : ∀ (l : List Blk) (j : Nat) {K1 K2 : List Blk -> Prop}, (∀ d, K1 d -> K2 d) -> fzH A H kk j l K1 -> fzH A H kk j l K2
 | [], j, K1, K2, hk, h => by simp only [fzH] at h ⊢; exact hk _ h
 | x :: r, j, K1, K2, hk, h => by
  simp only [fzH] at h ⊢
  split at h
  ·split at h
   ·exact h.elim
   ·exact Zcg r _ (fun _ h => hk _ h) h
  ·split at h
   ·exact fzG_mono _ (fun _ h => Zcg r _ (fun _ h => hk _ h) h) h
   ·exact Zcg r _ (fun _ h => hk _ h) h
theorem Zpq {A : Ar} {kk : List Nat} {K1 K2 : St -> Prop} (hk : ∀ s, K1 s -> K2 s) (h : Zij A kk s K1) : Zij A kk s K2 :=
 Zkc _ (fun _ h => Zcg _ _ (fun _ h => hk _ h) h) h
theorem Zup {A : Ar} (hA : A = ar) {o : Oper} {K : D -> List Blk -> List AD -> Prop} {X : D -> List Blk -> Prop} (kk : List Nat) (h : Zij A kk s (fun s' => OpA P r o s' K X)) : OpA P r o s K X := ⟨fun F μ a w hr he next Q hn hp => by
 subst hA
 obtain ⟨s', g1, g2, g3, g4⟩ := Zbl (m := s.H.length) h ⟨hr, he, Nat.le_refl _⟩
 have hst := g3.stp g4 g2.hr g2.len
 exact g1.out _ μ a w g2.hr g2.er next Q (fun F' μ' H' w' ds dv d v q1 qd q2 q3 => hn F' μ' H' w' ds dv d v (hst.trans q1) qd q2 q3) (fun F' μ' H' w' d v q1 q2 q3 => hp F' μ' H' w' d v (hst.trans q1) q2 q3)⟩
theorem Zs4 {o : Oper} {K : D -> List Blk -> List AD -> Prop} (h : CallG P o K s) (X : D -> List Blk -> Prop) : OpA P r o s K X := by
 obtain ⟨c, fo, f, caps, as0, as', ix, Hf, h1, h2, h3, h4, h5, h6, h7, h8⟩ := h.out;refine Z7t h1 h2 h3 h4 h5 h6 h7 ⟨h8.fn, fun F μ vs w g1 g2 g3 => Z1vt.mono (h8.out F μ vs w g1 g2 g3) fun e w' he => ?_⟩
 cases e with
 | returned v => exact he
 | panicked ch => obtain ⟨_, _, _, _, _, _, _, _, hf⟩ := he; exact hf.elim
 | outgrown => exact he.elim
theorem Zs5 {o : Oper} {K : D -> List Blk -> List AD -> Prop} {c : Call} {fo : Operand} {f : FuncId} {caps as0 : List D} (as' : List D) (ix : List Nat) (Hf : List Blk) (ho : o.op = .call c) (hc : c.callee = .value fo)
  (hfo : evo s.env fo = some (.fn f caps)) (has : Z34 (c.args.toList.map (evo s.env)) = some as0) (hren : renL (rho ix s.H.length) as' = as0 ++ caps) (hnd : ix.Nodup) (hl : Z62 (rho ix s.H.length) s.H ix Hf)
  (h : CallA P f as' Hf (fun x Hf' => match x with | .ret d => K (renD (rho ix s.H.length) d) (Z10 s.H ix Hf') s.dfs | .pan _ => False)) : CallG P o K s := ⟨c, fo, f, caps, as0, as', ix, Hf, ho, hc, hfo, has, hren, hnd, hl, h⟩
structure AftG (P : Program) (T : TT) (r : Option Nat) (m : Nat) (ops : Array Oper) (Q : AX -> St -> Prop) (L : List Nat) (pend : List (Nat × PK)) (s : St) : Prop where
 pins : Z7f ar T ops s pend
 go : DrawA P T r m ops Q L pend s
theorem Zo8 {A : Ar} (hA : A = ar) (hT : TOK P T) {Dk : List Nat -> List (Nat × PK) -> St -> Prop} (hD : Dk = DrawA P T r m ops Q) {L : List Nat} {pend : List (Nat × PK)} (h1 : Z7f A T ops s pend) (h2 : vcD A T ops (Q .normal) Dk L pend s) : AftG P T r m ops Q L pend s := by
 subst hA; exact ⟨h1, Zx hT rfl hD h2⟩
theorem Zmn {A : Ar} (hA : A = ar) {Dk : List Nat -> List (Nat × PK) -> St -> Prop} (hD : Dk = DrawA P T r m ops Q) (kk : List Nat) {i : Nat} {L : List Nat} {pend : List (Nat × PK)} {o : Oper}
  (hoi : ops[i]? = some o) (hd : Z36 s.nt o.dst = true) (hlk : Z4s ops o pend = true) (hw : Z2l ops o (Z1j o pend) = true) (hrd : Z8n ops i L = true) (hg : o.guard = none)
  (h : ∀ CG, CG = (fun s' => CallG P o (fun d H' ds => AftG P T r m ops Q L (Z1j o pend) (s.step o.dst d H' ds)) s') -> Zij A kk (s.only (o.looksAt ops)) CG) : Dk (i :: L) pend s := by
 subst hD;refine Z5p hoi hd hlk hw hrd ?_;simp only [Zh, hg];refine Zup hA kk ?_;have h1 := h _ rfl;subst hA;have mono : ∀ {K1 K2 : St -> Prop}, (∀ s, K1 s -> K2 s) -> Zij ar kk (s.only (o.looksAt ops)) K1 -> Zij ar kk (s.only (o.looksAt ops)) K2 := fun {K1 K2} hk hf => Zpq hk hf;refine mono (fun s' hs' => ?_) h1;exact (Zs4 hs' _).mono (fun d H' ds hk => ⟨hk.pins, hk.go⟩) (fun _ _ hx => hx)
end
theorem Zf {m : Nat} {a s : St} (ix : List Nat) (hv : View m ix a s) : GS m (fun s' => s' = a) s := Z60 ix hv (Z7 rfl)
theorem Z8 {m : Nat} {α : Type} {Pr : α -> Prop} {ms : α -> Nat} {mk : α -> St} {n : Nat} {s : St} (y : α) (ix : List Nat) (hy : Pr y) (hlt : ms y < n) (hv : View m ix (mk y) s) : GS m (fun s' => ∃ y, Pr y /\ ms y < n /\ s' = mk y) s :=
 Z60 ix hv (Z7 ⟨y, hy, hlt, rfl⟩)
theorem Z9 {l : List Nat} : ∀ i, i < 0 -> Z9f (l) i = some i := fun i hi => by
 omega
theorem Z2n {l : List Nat} : ∀ i, i < 1 -> Z9f (0 :: l) i = some i := fun i hi => by
 match i, hi with
 | 0, _ => rfl
 | i + 1, hi => omega
theorem Zeb {l : List Nat} : ∀ i, i < 3 -> Z9f (0 :: 1 :: 2 :: l) i = some i := fun i hi => by
 match i, hi with
 | 0, _ => rfl
 | 1, _ => rfl
 | 2, _ => rfl
 | i + 3, hi => omega
theorem pre4 {l : List Nat} : ∀ i, i < 4 -> Z9f (0 :: 1 :: 2 :: 3 :: l) i = some i := fun i hi => by
 match i, hi with
 | 0, _ => rfl
 | 1, _ => rfl
 | 2, _ => rfl
 | 3, _ => rfl
 | i + 4, hi => omega
theorem Z91 {l : List Nat} : ∀ i, i < 5 -> Z9f (0 :: 1 :: 2 :: 3 :: 4 :: l) i = some i := fun i hi => by
 match i, hi with
 | 0, _ => rfl
 | 1, _ => rfl
 | 2, _ => rfl
 | 3, _ => rfl
 | 4, _ => rfl
 | i + 5, hi => omega
theorem pre6 {l : List Nat} : ∀ i, i < 6 -> Z9f (0 :: 1 :: 2 :: 3 :: 4 :: 5 :: l) i = some i := fun i hi => by
 match i, hi with
 | 0, _ => rfl
 | 1, _ => rfl
 | 2, _ => rfl
 | 3, _ => rfl
 | 4, _ => rfl
 | 5, _ => rfl
 | i + 6, hi => omega
end Go.Abs

namespace Go.Abs
open Go
theorem Zxl {n : Int} (h : -9223372036854775808 <= n /\ n <= 9223372036854775807) : IntKind.i64.wrap n = n := by rw [IntKind.wrap_i64]; omega
structure IsI (i : Int) (k : Nat) : Prop where
 eq : i = (k : Int)
structure Btw (l i h : Int) : Prop where
 ge : l <= i
 le : i <= h
section
variable {A : Ar} (hA : A = ar)
 include hA
theorem xaddN (x y : Nat) : A.addN x y = x + y := by subst hA; rfl
theorem ytn {i : Int} {k : Nat} (h : IsI i k) : A.tn i = k := by subst hA; rw [h.eq]; rfl
theorem Z4o {i : Int} {k n : Nat} (h : IsI i k) (hn : k < n) : A.inb i n := by subst hA; have := h.eq; exact ⟨by omega, by omega⟩
theorem Z1b {i : Int} {k n : Nat} {l : List D} (e : l.length = n) (h : IsI i k) (hn : k < n) : A.inb i (A.len l) := by subst hA; subst e; have := h.eq; exact ⟨by omega, by show i < (l.length : Int); omega⟩
theorem Z18 {l : List D} {i : Int} {k : Nat} {d : D} (e : IsI i k) (h : l[k]? = some d) : A.get l (A.tn i) = some d := by subst hA; rw [e.eq]; exact h
theorem Z7n {l l' : List D} {i : Int} {k : Nat} {x : D} (e : IsI i k) (h : l' = l.set k x) : A.set l (A.tn i) x = l' := by rw [ytn hA e]; subst hA; rw [h]; rfl
theorem Z31 {i : Int} {k n : Nat} {l : List D} (e : l.length = n) (h : IsI i k) (c : A.cmp .lss i (A.oi (A.len l)) = true) : k < n := by
 subst hA; subst e; have := h.eq; have c : i < (l.length : Int) := by simpa [ar, Z25] using c
 omega
theorem Z21 {i : Int} {k n : Nat} {l : List D} (e : l.length = n) (h : IsI i k) (c : A.cmp .lss i (A.oi (A.len l)) = false) : n <= k := by
 subst hA; subst e; have := h.eq; have c : (l.length : Int) <= i := by simpa [ar, Z25] using c
 omega
theorem yltN {i : Int} {k n : Nat} (h : IsI i k) (c : A.cmp .lss i (A.oi n) = true) : k < n := by
 subst hA; have := h.eq; have c : i < (n : Int) := by simpa [ar, Z25] using c
 omega
theorem Z19k {i : Int} {k n : Nat} (h : IsI i k) (c : A.cmp .lss i (A.oi n) = false) : n <= k := by
 subst hA; have := h.eq; have c : (n : Int) <= i := by simpa [ar, Z25] using c
 omega
theorem yltC {i : Int} {k : Nat} (n : Nat) (h : IsI i k) (c : A.cmp .lss i (Int.ofNat n) = true) : k < n := yltN hA (n := n) h (by subst hA; exact c)
theorem Z197 {i : Int} {k : Nat} (n : Nat) (h : IsI i k) (c : A.cmp .lss i (Int.ofNat n) = false) : n <= k := Z19k hA (n := n) h (by subst hA; exact c)
theorem Zz {i : Int} {k : Nat} (h : IsI i k) : IsI (A.add i 1) (k + 1) := by subst hA; exact ⟨by have := h.eq; show i + 1 = _; omega⟩
theorem Zy {i : Int} {k : Nat} (h : IsI i k) (hk : k < 9223372036854775807) : A.fits .i64 (A.add i 1) := by subst hA; exact Zxl (n := i + 1) (by have := h.eq; omega)
theorem xlt {x y : Int} (h : A.cmp .lss x y = true) : x < y := by subst hA; simpa [ar, Z25] using h
theorem Z7x {x y : Int} (h : A.cmp .lss x y = false) : y <= x := by subst hA; simpa [ar, Z25] using h
theorem xle {x y : Int} (h : A.cmp .leq x y = true) : x <= y := by subst hA; simpa [ar, Z25] using h
theorem Zec {x y : Int} (h : A.cmp .leq x y = false) : y < x := by subst hA; simpa [ar, Z25] using h
theorem xgt {x y : Int} (h : A.cmp .gtr x y = true) : y < x := by subst hA; simpa [ar, Z25] using h
theorem Zax {x y : Int} (h : A.cmp .gtr x y = false) : x <= y := by subst hA; simpa [ar, Z25] using h
theorem xge {x y : Int} (h : A.cmp .geq x y = true) : y <= x := by subst hA; simpa [ar, Z25] using h
theorem Zur {x y : Int} (h : A.cmp .geq x y = false) : x < y := by subst hA; simpa [ar, Z25] using h
theorem xeq {x y : Int} (h : A.cmp .eql x y = true) : x = y := by subst hA; simpa [ar, Z25] using h
theorem Z2o {x y : Int} (h : A.cmp .eql x y = false) : x ≠ y := by subst hA; simpa [ar, Z25] using h
end
end Go.Abs

namespace Go.Abs
open Go
theorem bmT {b : Bool} {X Y : Prop} (h : b = true) (hx : X) : (match (generalizing := false) b with | true => X | false => Y) := by subst h; exact hx
theorem bmF {b : Bool} {X Y : Prop} (h : b = false) (hx : Y) : (match (generalizing := false) b with | true => X | false => Y) := by subst h; exact hx
theorem bm {b : Bool} {X Y : Prop} (h1 : b = true -> X) (h2 : b = false -> Y) : (match (generalizing := false) b with | true => X | false => Y) := by
 cases b
 ·exact h2 rfl
 ·exact h1 rfl
section
variable {P : Program} {T : TT} {r : Option Nat} {m : Nat} {ops : Array Oper} {Q : AX -> St -> Prop} {s : St}
theorem Zbm {A : Ar} (hA : A = ar) {Dk : List Nat -> List (Nat × PK) -> St -> Prop} (hD : Dk = DrawA P T r m ops Q) {i : Nat} {L : List Nat} {pend : List (Nat × PK)} {o oj : Oper} {c : Call} {fo : Operand} {f : FuncId} {j t : Nat} {want b : Bool}
  (hoi : ops[i]? = some o) (hd : Z36 s.nt o.dst = true) (hlk : Z4s ops o pend = true) (hw : Z2l ops o (Z1j o pend) = true) (hrd : Z8n ops i L = true) (hg : o.guard = some (j, want)) (hj : ops[j]? = some oj) (hjd : oj.dst = some t) (hb : Z1c (s.only (o.looksAt ops)).env t = some (.v (.bool b))) (ho : o.op = .call c) (hc : c.callee = .value fo)
  (hyes : b = want -> ∃ caps as0 as' ix Hf, evo (rE s.env (o.looksAt ops)) fo = some (.fn f caps) /\ Z34 (c.args.toList.map (evo (rE s.env (o.looksAt ops)))) = some as0 /\ renL (rho ix s.H.length) as' = as0 ++ caps /\ ix.Nodup /\ Z62 (rho ix s.H.length) s.H ix Hf /\
   CallA P f as' Hf (fun x Hf' => match x with | .ret d => Z7f A T ops (s.step o.dst (renD (rho ix s.H.length) d) (Z10 s.H ix Hf') s.dfs) (Z1j o pend) /\ DrawA P T r m ops Q L (Z1j o pend) (s.step o.dst (renD (rho ix s.H.length) d) (Z10 s.H ix Hf') s.dfs) | .pan _ => False))
  (hno : b ≠ want -> Z7f A T ops (s.step o.dst (.tup []) s.H s.dfs) (Z1j o pend) /\ DrawA P T r m ops Q L (Z1j o pend) (s.step o.dst (.tup []) s.H s.dfs)) : Dk (i :: L) pend s := by
 subst hA; subst hD;refine Z5p hoi hd hlk hw hrd ?_;have run : b = want -> OpA P r o (s.only (o.looksAt ops)) (fun d H' ds => Z7v ar T ops (fun p s => DrawA P T r m ops Q L p s) (Z1j o pend) (s.step o.dst d H' ds)) (fun d H' => ∀ e, Q (.pan d) { env := e, H := H', nt := s.nt, dfs := s.dfs }) := fun e => by
  obtain ⟨caps, as0, as', ix, Hf, hfo, has, hren, hnd, hl, h⟩ := hyes e;refine Z7t (s := s.only (o.looksAt ops)) ho hc hfo has hren hnd hl ⟨h.fn, fun F μ vs w h1 h2 h3 => Z1vt.mono (h.out F μ vs w h1 h2 h3) fun e w' he => ?_⟩
  cases e with
  | returned v => exact he
  | panicked ch => obtain ⟨_, _, _, _, _, _, _, _, hf⟩ := he; exact hf.elim
  | outgrown => exact he.elim
 simp only [Zh, hg, hj, hjd, hb]
 cases want <;> cases b <;> simp only [Z3l hb]
 ·exact run rfl
 ·exact hno (by decide)
 ·exact hno (by decide)
 ·exact run rfl
end
end Go.Abs

namespace Go.Abs
open Go
section
variable {P : Program} {T : TT} {r : Option Nat} {m : Nat} {ops : Array Oper} {Q : AX -> St -> Prop} {s : St} {A : Ar}
end
end Go.Abs

namespace Go.Abs
open Go
def Zoa (P : Program) (r : Option Nat) (m : Nat) (c : Code) (Q : AX -> St -> Prop) : Nat -> St -> Prop
 | 0, _ => False
 | k + 1, s => WpA P r m c (Zb1 (Zoa P r m c Q k) Q) s
section
variable {P : Program} {T : TT} {r : Option Nat} {m : Nat} {Q : AX -> St -> Prop} {s : St}
structure RnA (P : Program) (r : Option Nat) (m : Nat) (c : Code) (Q : AX -> St -> Prop) (k : Nat) (s : St) : Prop where
 out : Zoa P r m c Q k s
end
end Go.Abs

namespace Go
namespace Abs
section
variable {P : Program} {T : TT} {r : Option Nat} {m : Nat} {Q : AX -> St -> Prop} {s : St}
def Zob (Q : AX -> St -> Prop) : AX -> St -> Prop
 | .goto _, _ => False
 | x, s => Q x s
theorem Zpr {c : Code} (h : WpA P r m c (Zob Q) s) : WpA P r m (.scope c) Q s :=
 ⟨fun F μ a w h1 => Z23c (Z1us (h.out F μ a w h1) fun e a' w' hp => by
  obtain ⟨F', μ', s', x, p1, p2, p3, p5, p6⟩ := hp
  cases e <;> cases x <;> try exact p5.elim
  case goto.goto => exact p6.elim
  all_goals exact ⟨F', μ', s', _, p1, p2, p3, p5, p6⟩)⟩
theorem Zs7 (hT : TOK P T) {A : Ar} (hA : A = ar) {S : Stop} (hS : S = Zo P r m) {c : Code} (h : vcC A T S c (Zob Q) s) : S.code (.scope c) Q s := by
 subst hA; subst hS;exact Zpr (Z4a hT c _ s h)
end
end Abs
end Go

namespace Go.Abs
open Go
section
variable {P : Program} {T : TT} {F : Fz} {μ : Mu} {w : World} {r : Option Nat} {m : Nat} {Q : AX -> St -> Prop}
theorem WkD.arrAgg {L L' : List D} (e : L = L') : WkD (.arr L) (.agg L') := ⟨fun F μ v h => by
 subst e
 cases h with
 | cl _ _ hc => cases hc with | arr _ vs hl hh ho => exact .cl _ _ (.agg _ vs hl hh ho)
 | arr _ vs hl hh ho => exact .agg _ vs hl hh ho⟩
theorem WkD.eq {d d' : D} (e : d = d') : WkD d d' := ⟨fun F μ v h => e ▸ h⟩
end
end Go.Abs

namespace Go.Abs
open Go
section
variable {P : Program} {T : TT} {r : Option Nat} {m : Nat}
theorem Zh2 (hT : TOK P T) {A : Ar} (hA : A = ar) {k nt : Nat} {as : List D} {H : List Blk} {env : List (Nat × D)} {params : List Nat} {assign body : Code} {Q : RA -> List Blk -> Prop} (hk : Z1m H k = some (.ob (.lp .ready none env nt params assign body))) (hl : params.length = as.length) (hp : ∀ t ∈ params, t < nt)
  (h : ∀ b S, S = Zo P (some b) H.length -> vcC A T S assign (Zb1 (fun s => Z1m s.H k = some (.ob (.lp .ready none env nt params assign body)) /\ S.code body (Zrx k params env nt assign body Q) { s with H := s.H.set k (.ob (.lp .busy none env nt params assign body)) }) (fun _ _ => False))
   { env := Zo5 params as env, H := H, nt := nt, dfs := [] }) : RoundA P k as H Q := by
 subst hA;exact Zpn hk hl hp fun b => Z4a hT assign _ _ (h b _ rfl)
end
end Go.Abs
